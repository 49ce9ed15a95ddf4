/-
  A PART OF THE PROOF (put together by program): several texts, one behind the other. Conditions: none.
-/
import Derived.Test.YtaafchgfibbmhaaPk35
set_option linter.unusedSimpArgs false
set_option linter.unusedVariables false
namespace Go.Proofs.Ytaafchgfibbmhaa
def refL (a : Option Bnd) : List D := match a with | none => [.bool false, .i 0, .i 1, .bool false] | some x => [.bool true, .i x.1.num, .i x.1.den, .bool x.2]
theorem ref_some (x : Bnd) : (refL (some x)).map V.d = [.d (.bool true), .d (.i x.1.num), .d (.i x.1.den), .d (.bool x.2)] := rfl
theorem ref_none : (refL none).map V.d = [.d (.bool false), .d (.i 0), .d (.i 1), .d (.bool false)] := rfl
theorem eqRat68 {o : Nat → Obj'} {c : Bool} (a0 a1 b0 b1 : Int) : eqV Try.prog o 68 c (.d (.agg [.int .i64 a0, .int .i64 a1])) (.d (.agg [.int .i64 b0, .int .i64 b1])) = some (.d (.bool ((a0 == b0) && ((a1 == b1) && true)))) := by kernel_rfl
theorem tighter_c (a : Option Bnd) (b : Bnd) (up : Bool) (ha : ∀ x, a = some x → x.1.Ok) (hb : b.1.Ok) : PCt Try.prog 105 [.agg (refL a), .agg (refL (some b)), .bool up] (.ret [.agg (refL (some (tightS a b up)))]) := by
  refine PCt.of_ev mix fn105 (by simp) ?_
  rw [c105]
  cases a with
  | none =>
    simp +contextual only [go_sem, refL]
    simp [refL, tightS]
  | some x =>
    have hxo := ha x rfl
    have fin : ∀ (hl : tightB up x.1 b.1 = false), eqR x.1 b.1 = (x.1.num == b.1.num && x.1.den == b.1.den) := fun _ => rfl
    cases up with
    | true =>
      simp +contextual only [go_sem, refL]
      refine call_keep (less'_c b.1 x.1 hb hxo) rfl ?_
      cases hl : lessV b.1 x.1 with
      | true =>
        simp +contextual only [go_sem, refL]
        simp [refL, tightS, tightB, hl]
      | false =>
        cases he : eqR x.1 b.1 with
        | false =>
          have he' : (x.1.num == b.1.num && x.1.den == b.1.den) = false := he
          simp +contextual only [go_sem, refL, eqRat68, D.i, he']
          simp [refL, tightS, tightB, hl, he]
        | true =>
          have he' : (x.1.num == b.1.num && x.1.den == b.1.den) = true := he
          obtain ⟨x1, x2⟩ := x
          cases x2 with
          | true =>
            simp +contextual only [go_sem, refL, eqRat68, D.i, he']
            simp [refL, tightS, tightB, hl, he]
          | false =>
            simp +contextual only [go_sem, refL, eqRat68, D.i, he']
            simp [refL, tightS, tightB, hl, he]
    | false =>
      simp +contextual only [go_sem, refL]
      refine call_keep (less'_c x.1 b.1 hxo hb) rfl ?_
      cases hl : lessV x.1 b.1 with
      | true =>
        simp +contextual only [go_sem, refL]
        simp [refL, tightS, tightB, hl]
      | false =>
        cases he : eqR x.1 b.1 with
        | false =>
          have he' : (x.1.num == b.1.num && x.1.den == b.1.den) = false := he
          simp +contextual only [go_sem, refL, eqRat68, D.i, he']
          simp [refL, tightS, tightB, hl, he]
        | true =>
          have he' : (x.1.num == b.1.num && x.1.den == b.1.den) = true := he
          obtain ⟨x1, x2⟩ := x
          cases x2 with
          | true =>
            simp +contextual only [go_sem, refL, eqRat68, D.i, he']
            simp [refL, tightS, tightB, hl, he]
          | false =>
            simp +contextual only [go_sem, refL, eqRat68, D.i, he']
            simp [refL, tightS, tightB, hl, he]
def rT4 : IC := (.seq (.seq (.reg [mv 49 8,
 nt 50 4 49,
 mv 51 50,
 gT (mv 52 9) 51,
 gT (nt 53 4 52) 51,
 pkf 54 51 53]) (.cond (.tmp 54) (.seq (.reg [ld 55 68 6,
 st 68 4 55,
 sgb 5 true]) .ret) .skip)) (.seq (.reg [fa 56 136 2 1,
 ld 57 68 56,
 ld 58 68 7,
 k2 59 123 57 58 68 68,
 al 10 68,
 st 68 10 59]) (.seq (.seq (.reg [fa 60 136 2 0,
 ld 61 4 60,
 mv 62 61,
 gT (fa 63 136 3 0) 62,
 gT (ld 64 4 63) 62,
 pkf 65 62 64]) (.cond (.tmp 65) (.seq (.reg [fa 66 136 2 1,
 ld 67 68 66,
 fa 68 136 3 1,
 ld 69 68 68,
 k2 70 123 67 69 68 68,
 st 68 10 70]) (.seq (.seq (.reg [ld 71 68 10,
 ⟨(some 72), .call { callee := .value (.func 57), args := #[.tmp 71, .const (.int .i64 1000000000)], argTypes := #[68, 3] }, none⟩,
 nt 73 4 72]) (.cond (.tmp 73) (.seq (.reg [ld 74 68 10,
 st 68 4 74,
 sgb 5 false]) .ret) .skip)) (.reg [fa 75 68 10 0,
 ld 76 3 75,
 fa 77 68 10 1,
 ld 78 3 77,
 ⟨(some 79), .binOp .mul 3 (.const (.int .i64 2)) (.tmp 78) 3, none⟩,
 k2 80 124 76 79 3 3,
 st 68 10 80]))) (.seq (.reg [mv 81 9]) (.cond (.tmp 81) (.drw [fa 82 136 3 1,
 ld 83 68 82,
 ⟨(some 84), .call { callee := .value (.func 124), args := #[.const (.int .i64 (-1)), .const (.int .i64 1)], argTypes := #[3, 3] }, none⟩,
 k2 85 123 83 84 68 68,
 st 68 10 85]
 [[], [0], [], [1, 2, 2], [3, 3, 0, 1, 2, 3]]) .skip)))) (.seq (.drw [ld 86 68 10,
 ld 87 68 10,
 ⟨(some 88), .call { callee := .value (.func 57), args := #[.tmp 87, .const (.int .i64 1000000000)], argTypes := #[68, 3] }, none⟩,
 st 68 4 86,
 sg 5 88]
 [[], [], [1], [0, 2, 0], [2, 3, 0, 1, 2, 3]]) .ret))))
def rT3 : IC := (.seq (.reg [fa 31 136 3 0,
 ld 32 4 31,
 mv 33 32,
 gT (fa 34 136 3 1) 33,
 gT (ld 35 68 34) 33,
 gT (ld 36 68 6) 33,
 gT (k2 37 125 35 36 68 68) 33,
 gT (mv 38 37) 33,
 gF (fa 39 136 3 1) 38,
 gF (ld 40 68 39) 38,
 gF (ld 41 68 6) 38,
 gF (bo .eql 42 68 40 41 68) 38,
 gF (mv 43 42) 38,
 gT (fa 44 136 3 2) 43,
 gT (ld 45 4 44) 43,
 gF (pkf 46 43 45) 38,
 gT (pkt 47 38 46) 33,
 pkf 48 33 47,
 sg 9 48]) rT4)
structure RefO (low high : Option Bnd) (o : Nat → Obj') : Prop where
  o0 : o 0 = .row ((refL low).map .d)
  o1 : o 1 = .row ((refL high).map .d)
  o2 : o 2 = .row [.d (.i 0), .d (.i 0)]
  o6 : o 6 = .row [.d (.i 0), .d (.i 1)]
  o7 : o 7 = .row [.d (.i 1), .d (.i 1)]
theorem ref4_c (low high : Option Bnd) (hl : ∀ x, low = some x → x.1.Ok) (hh : ∀ x, high = some x → x.1.Ok) (e : Nat → V) (o : Nat → Obj') (ho : RefO low high o) (e2 : e 2 = .ptr 0 0) (e3 : e 3 = .ptr 1 0) (e4 : e 4 = .ptr 2 0) (e6 : e 6 = .ptr 6 0) (e7 : e 7 = .ptr 7 0) (e8 : e 8 = .d (.bool (smallS low))) (e9 : e 9 = .d (.bool (greatS high))) :
    evW Try.prog 89 0 false rT4 (endW Try.prog [.cell 4 68, .tmp 5] (.ret [(betweenS low high).1.d, .bool (betweenS low high).2])) ⟨e, o, 48⟩ := by
  obtain ⟨o0, o1, o2, o6, o7⟩ := ho
  rw [rT4]
  cases hs : smallS low with
  | false =>
    cases hg : greatS high with
    | false =>
      have hb : betweenS low high = (zeroQ, true) := by rw [betweenS, hs, hg]; rfl
      rw [hb]
      simp +contextual only [go_sem, e2, e3, e4, e6, e7, e8, e9, hs, hg, o0, o1, o2, o6, o7, ref_some, ref_none]
      rfl
    | true =>
      cases high with
      | none => cases hg
      | some y =>
        have hyo := hh y rfl
        cases low with
        | none =>
          simp +contextual only [go_sem, e2, e3, e4, e6, e7, e8, e9, hs, hg, o0, o1, o2, o6, o7, ref_some, ref_none]
          refine call_keep (add'_c zeroQ ⟨1, 1⟩ zero_ok ⟨by simp, by simp⟩) rfl ?_
          simp +contextual only [go_sem, e2, e3, e4, e6, e7, e8, e9, hs, hg, o0, o1, o2, o6, o7, ref_some, ref_none]
          have hov := over'_c (-1) 1 (by omega) (by omega) (by omega)
          rw [over_one] at hov
          refine callD_keep hov rfl ?_
          simp +contextual only [go_sem, e2, e3, e4, e6, e7, e8, e9, hs, hg, o0, o1, o2, o6, o7, ref_some, ref_none]
          refine callD_keep (add'_c y.1 ⟨-1, 1⟩ hyo ⟨by simp, by simp⟩) rfl ?_
          simp +contextual only [go_sem, e2, e3, e4, e6, e7, e8, e9, hs, hg, o0, o1, o2, o6, o7, ref_some, ref_none]
          refine end_intro (by decide) ?_
          simp +contextual only [go_sem, e2, e3, e4, e6, e7, e8, e9, hs, hg, o0, o1, o2, o6, o7, ref_some, ref_none]
          refine callD_keep (rat_c (addV y.1 ⟨-1, 1⟩) 1000000000 (by omega)) rfl ?_
          simp +contextual only [go_sem, e2, e3, e4, e6, e7, e8, e9, hs, hg, o0, o1, o2, o6, o7, ref_some, ref_none]
          refine end_intro (by decide) ?_
          simp +contextual only [go_sem, e2, e3, e4, e6, e7, e8, e9, hs, hg, o0, o1, o2, o6, o7, ref_some, ref_none]
          have hb : betweenS none (some y) = (addV y.1 ⟨-1, 1⟩, okR (addV y.1 ⟨-1, 1⟩)) := by simp [betweenS, hs, hg, bnd0]
          rw [hb]
          rfl
        | some x =>
          have hxo := hl x rfl
          simp +contextual only [go_sem, e2, e3, e4, e6, e7, e8, e9, hs, hg, o0, o1, o2, o6, o7, ref_some, ref_none]
          refine call_keep (add'_c x.1 ⟨1, 1⟩ hxo ⟨by simp, by simp⟩) rfl ?_
          simp +contextual only [go_sem, e2, e3, e4, e6, e7, e8, e9, hs, hg, o0, o1, o2, o6, o7, ref_some, ref_none]
          refine call_keep (add'_c x.1 y.1 hxo hyo) rfl ?_
          simp +contextual only [go_sem, e2, e3, e4, e6, e7, e8, e9, hs, hg, o0, o1, o2, o6, o7, ref_some, ref_none]
          refine call_keep (rat_c (addV x.1 y.1) 1000000000 (by omega)) rfl ?_
          have hok : ratF (addV x.1 y.1) 1000000000 = okR (addV x.1 y.1) := rfl
          rw [hok]
          cases hq : okR (addV x.1 y.1) with
          | false =>
            have hb : betweenS (some x) (some y) = (addV x.1 y.1, false) := by simp [betweenS, hs, hg, bnd0, hq]
            rw [hb]
            simp +contextual only [go_sem, e2, e3, e4, e6, e7, e8, e9, hs, hg, o0, o1, o2, o6, o7, ref_some, ref_none]
          | true =>
            have ho9 := okR_ok hq
            have w9 : IntKind.i64.wrap (2 * (addV x.1 y.1).den) = 2 * (addV x.1 y.1).den := wrap64 (by have := ho9.d; omega) (by have := ho9.d; omega)
            have hov := over'_c (addV x.1 y.1).num (2 * (addV x.1 y.1).den) (by have := ho9.n; omega) (by have := ho9.d; omega) (by have := ho9.d; omega)
            have hb : betweenS (some x) (some y) = (overV (addV x.1 y.1).num (2 * (addV x.1 y.1).den), okR (overV (addV x.1 y.1).num (2 * (addV x.1 y.1).den))) := by simp [betweenS, hs, hg, bnd0, hq]
            rw [hb]
            simp +contextual only [go_sem, e2, e3, e4, e6, e7, e8, e9, hs, hg, o0, o1, o2, o6, o7, ref_some, ref_none, w9]
            refine call_keep hov rfl ?_
            simp +contextual only [go_sem, e2, e3, e4, e6, e7, e8, e9, hs, hg, o0, o1, o2, o6, o7, ref_some, ref_none]
            refine callD_keep (rat_c (overV (addV x.1 y.1).num (2 * (addV x.1 y.1).den)) 1000000000 (by omega)) rfl ?_
            simp +contextual only [go_sem, e2, e3, e4, e6, e7, e8, e9, hs, hg, o0, o1, o2, o6, o7, ref_some, ref_none]
            refine end_intro (by decide) ?_
            simp +contextual only [go_sem, e2, e3, e4, e6, e7, e8, e9, hs, hg, o0, o1, o2, o6, o7, ref_some, ref_none]
            rfl
  | true =>
    cases low with
    | none => cases hs
    | some x =>
      have hxo := hl x rfl
      cases high with
      | none =>
        have hg : greatS none = false := rfl
        simp +contextual only [go_sem, e2, e3, e4, e6, e7, e8, e9, hs, hg, o0, o1, o2, o6, o7, ref_some, ref_none]
        refine call_keep (add'_c x.1 ⟨1, 1⟩ hxo ⟨by simp, by simp⟩) rfl ?_
        simp +contextual only [go_sem, e2, e3, e4, e6, e7, e8, e9, hs, hg, o0, o1, o2, o6, o7, ref_some, ref_none]
        refine callD_keep (rat_c (addV x.1 ⟨1, 1⟩) 1000000000 (by omega)) rfl ?_
        simp +contextual only [go_sem, e2, e3, e4, e6, e7, e8, e9, hs, hg, o0, o1, o2, o6, o7, ref_some, ref_none]
        refine end_intro (by decide) ?_
        simp +contextual only [go_sem, e2, e3, e4, e6, e7, e8, e9, hs, hg, o0, o1, o2, o6, o7, ref_some, ref_none]
        have hb : betweenS (some x) none = (addV x.1 ⟨1, 1⟩, okR (addV x.1 ⟨1, 1⟩)) := by simp [betweenS, hs, hg, bnd0]
        rw [hb]
        rfl
      | some y =>
        have hyo := hh y rfl
        cases hg : greatS (some y) with
        | false =>
          simp +contextual only [go_sem, e2, e3, e4, e6, e7, e8, e9, hs, hg, o0, o1, o2, o6, o7, ref_some, ref_none]
          refine call_keep (add'_c x.1 ⟨1, 1⟩ hxo ⟨by simp, by simp⟩) rfl ?_
          simp +contextual only [go_sem, e2, e3, e4, e6, e7, e8, e9, hs, hg, o0, o1, o2, o6, o7, ref_some, ref_none]
          refine call_keep (add'_c x.1 y.1 hxo hyo) rfl ?_
          simp +contextual only [go_sem, e2, e3, e4, e6, e7, e8, e9, hs, hg, o0, o1, o2, o6, o7, ref_some, ref_none]
          refine call_keep (rat_c (addV x.1 y.1) 1000000000 (by omega)) rfl ?_
          have hok : ratF (addV x.1 y.1) 1000000000 = okR (addV x.1 y.1) := rfl
          rw [hok]
          cases hq : okR (addV x.1 y.1) with
          | false =>
            have hb : betweenS (some x) (some y) = (addV x.1 y.1, false) := by simp [betweenS, hs, hg, bnd0, hq]
            rw [hb]
            simp +contextual only [go_sem, e2, e3, e4, e6, e7, e8, e9, hs, hg, o0, o1, o2, o6, o7, ref_some, ref_none]
          | true =>
            have ho9 := okR_ok hq
            have w9 : IntKind.i64.wrap (2 * (addV x.1 y.1).den) = 2 * (addV x.1 y.1).den := wrap64 (by have := ho9.d; omega) (by have := ho9.d; omega)
            have hov := over'_c (addV x.1 y.1).num (2 * (addV x.1 y.1).den) (by have := ho9.n; omega) (by have := ho9.d; omega) (by have := ho9.d; omega)
            have hb : betweenS (some x) (some y) = (overV (addV x.1 y.1).num (2 * (addV x.1 y.1).den), okR (overV (addV x.1 y.1).num (2 * (addV x.1 y.1).den))) := by simp [betweenS, hs, hg, bnd0, hq]
            rw [hb]
            simp +contextual only [go_sem, e2, e3, e4, e6, e7, e8, e9, hs, hg, o0, o1, o2, o6, o7, ref_some, ref_none, w9]
            refine call_keep hov rfl ?_
            simp +contextual only [go_sem, e2, e3, e4, e6, e7, e8, e9, hs, hg, o0, o1, o2, o6, o7, ref_some, ref_none]
            refine callD_keep (rat_c (overV (addV x.1 y.1).num (2 * (addV x.1 y.1).den)) 1000000000 (by omega)) rfl ?_
            simp +contextual only [go_sem, e2, e3, e4, e6, e7, e8, e9, hs, hg, o0, o1, o2, o6, o7, ref_some, ref_none]
            refine end_intro (by decide) ?_
            simp +contextual only [go_sem, e2, e3, e4, e6, e7, e8, e9, hs, hg, o0, o1, o2, o6, o7, ref_some, ref_none]
            rfl
        | true =>
          simp +contextual only [go_sem, e2, e3, e4, e6, e7, e8, e9, hs, hg, o0, o1, o2, o6, o7, ref_some, ref_none]
          refine call_keep (add'_c x.1 ⟨1, 1⟩ hxo ⟨by simp, by simp⟩) rfl ?_
          simp +contextual only [go_sem, e2, e3, e4, e6, e7, e8, e9, hs, hg, o0, o1, o2, o6, o7, ref_some, ref_none]
          refine call_keep (add'_c x.1 y.1 hxo hyo) rfl ?_
          simp +contextual only [go_sem, e2, e3, e4, e6, e7, e8, e9, hs, hg, o0, o1, o2, o6, o7, ref_some, ref_none]
          refine call_keep (rat_c (addV x.1 y.1) 1000000000 (by omega)) rfl ?_
          have hok : ratF (addV x.1 y.1) 1000000000 = okR (addV x.1 y.1) := rfl
          rw [hok]
          cases hq : okR (addV x.1 y.1) with
          | false =>
            have hb : betweenS (some x) (some y) = (addV x.1 y.1, false) := by simp [betweenS, hs, hg, bnd0, hq]
            rw [hb]
            simp +contextual only [go_sem, e2, e3, e4, e6, e7, e8, e9, hs, hg, o0, o1, o2, o6, o7, ref_some, ref_none]
          | true =>
            have ho9 := okR_ok hq
            have w9 : IntKind.i64.wrap (2 * (addV x.1 y.1).den) = 2 * (addV x.1 y.1).den := wrap64 (by have := ho9.d; omega) (by have := ho9.d; omega)
            have hov := over'_c (addV x.1 y.1).num (2 * (addV x.1 y.1).den) (by have := ho9.n; omega) (by have := ho9.d; omega) (by have := ho9.d; omega)
            have hb : betweenS (some x) (some y) = (overV (addV x.1 y.1).num (2 * (addV x.1 y.1).den), okR (overV (addV x.1 y.1).num (2 * (addV x.1 y.1).den))) := by simp [betweenS, hs, hg, bnd0, hq]
            rw [hb]
            simp +contextual only [go_sem, e2, e3, e4, e6, e7, e8, e9, hs, hg, o0, o1, o2, o6, o7, ref_some, ref_none, w9]
            refine call_keep hov rfl ?_
            simp +contextual only [go_sem, e2, e3, e4, e6, e7, e8, e9, hs, hg, o0, o1, o2, o6, o7, ref_some, ref_none]
            refine callD_keep (rat_c (overV (addV x.1 y.1).num (2 * (addV x.1 y.1).den)) 1000000000 (by omega)) rfl ?_
            simp +contextual only [go_sem, e2, e3, e4, e6, e7, e8, e9, hs, hg, o0, o1, o2, o6, o7, ref_some, ref_none]
            refine end_intro (by decide) ?_
            simp +contextual only [go_sem, e2, e3, e4, e6, e7, e8, e9, hs, hg, o0, o1, o2, o6, o7, ref_some, ref_none]
            rfl
theorem ref3_c (low high : Option Bnd) (hl : ∀ x, low = some x → x.1.Ok) (hh : ∀ x, high = some x → x.1.Ok) (e : Nat → V) (o : Nat → Obj') (ho : RefO low high o) (e2 : e 2 = .ptr 0 0) (e3 : e 3 = .ptr 1 0) (e4 : e 4 = .ptr 2 0) (e6 : e 6 = .ptr 6 0) (e7 : e 7 = .ptr 7 0) (e8 : e 8 = .d (.bool (smallS low))) :
    evW Try.prog 89 0 false rT3 (endW Try.prog [.cell 4 68, .tmp 5] (.ret [(betweenS low high).1.d, .bool (betweenS low high).2])) ⟨e, o, 29⟩ := by
  obtain ⟨o0, o1, o2, o6, o7⟩ := ho
  rw [rT3]
  cases high with
  | none =>
    simp +contextual only [go_sem, e2, e3, e4, e6, e7, e8, o0, o1, o2, o6, o7, ref_some, ref_none]
    have hg : greatS none = false := rfl
    exact ref4_c low none hl hh _ _ ⟨o0, o1, o2, o6, o7⟩ (by simp +contextual only [go_sem, e2]) (by simp +contextual only [go_sem, e3]) (by simp +contextual only [go_sem, e4]) (by simp +contextual only [go_sem, e6]) (by simp +contextual only [go_sem, e7]) (by simp +contextual only [go_sem, e8]) (by simp +contextual only [go_sem, hg])
  | some y =>
    have hyo := hh y rfl
    simp +contextual only [go_sem, e2, e3, e4, e6, e7, e8, o0, o1, o2, o6, o7, ref_some, ref_none]
    refine call_keep (less'_c y.1 zeroQ hyo zero_ok) rfl ?_
    cases h1 : lessV y.1 zeroQ with
    | true =>
      have hg : greatS (some y) = true := by simp [greatS, h1]
      simp +contextual only [go_sem, e2, e3, e4, e6, e7, e8, o0, o1, o2, o6, o7, ref_some, ref_none]
      exact ref4_c low (some y) hl hh _ _ ⟨o0, o1, o2, o6, o7⟩ (by simp +contextual only [go_sem, e2]) (by simp +contextual only [go_sem, e3]) (by simp +contextual only [go_sem, e4]) (by simp +contextual only [go_sem, e6]) (by simp +contextual only [go_sem, e7]) (by simp +contextual only [go_sem, e8]) (by simp +contextual only [go_sem, hg])
    | false =>
      cases h2 : eqR y.1 zeroQ with
      | false =>
        have hg : greatS (some y) = false := by simp [greatS, h1, h2]
        have h2' : (y.1.num == 0 && y.1.den == 1) = false := h2
        simp +contextual only [go_sem, e2, e3, e4, e6, e7, e8, o0, o1, o2, o6, o7, ref_some, ref_none, eqRat68, D.i, h2']
        exact ref4_c low (some y) hl hh _ _ ⟨o0, o1, o2, o6, o7⟩ (by simp +contextual only [go_sem, e2]) (by simp +contextual only [go_sem, e3]) (by simp +contextual only [go_sem, e4]) (by simp +contextual only [go_sem, e6]) (by simp +contextual only [go_sem, e7]) (by simp +contextual only [go_sem, e8]) (by simp +contextual only [go_sem, hg])
      | true =>
        have hg : greatS (some y) = y.2 := by simp [greatS, h1, h2]
        have h2' : (y.1.num == 0 && y.1.den == 1) = true := h2
        simp +contextual only [go_sem, e2, e3, e4, e6, e7, e8, o0, o1, o2, o6, o7, ref_some, ref_none, eqRat68, D.i, h2']
        exact ref4_c low (some y) hl hh _ _ ⟨o0, o1, o2, o6, o7⟩ (by simp +contextual only [go_sem, e2]) (by simp +contextual only [go_sem, e3]) (by simp +contextual only [go_sem, e4]) (by simp +contextual only [go_sem, e6]) (by simp +contextual only [go_sem, e7]) (by simp +contextual only [go_sem, e8]) (by simp +contextual only [go_sem, hg])
theorem between'_c (low high : Option Bnd) (hl : ∀ x, low = some x → x.1.Ok) (hh : ∀ x, high = some x → x.1.Ok) : PCt Try.prog 106 [.agg (refL low), .agg (refL high)] (.ret [(betweenS low high).1.d, .bool (betweenS low high).2]) := by
  refine PCt.of_ev mix fn106 (by simp) ?_
  rw [c106]
  show evW Try.prog 89 0 false (.seq _ (.seq _ (.seq _ rT3))) _ _
  have gen : ∀ a : Option Bnd, ∃ p q r t, refL a = [.bool p, .i q, .i r, .bool t] := fun a => by
    cases a with
    | none => exact ⟨_, _, _, _, rfl⟩
    | some y => exact ⟨_, _, _, _, rfl⟩
  obtain ⟨g1, g2, g3, g4, hgen⟩ := gen high
  have hrow : ∀ o : Nat → Obj', o 1 = .row [.d (.bool g1), .d (.i g2), .d (.i g3), .d (.bool g4)] → o 1 = .row ((refL high).map .d) := fun o h => by rw [h, hgen]; rfl
  rw [hgen]
  cases low with
  | none =>
    simp +contextual only [go_sem, refL]
    exact ref3_c none high hl hh _ _ ⟨by repeat (first | rfl | rw [upd_same] | rw [upd_ne _ _ _ _ (by omega)]), hrow _ (by repeat (first | rfl | rw [upd_same] | rw [upd_ne _ _ _ _ (by omega)])), by repeat (first | rfl | rw [upd_same] | rw [upd_ne _ _ _ _ (by omega)]), by repeat (first | rfl | rw [upd_same] | rw [upd_ne _ _ _ _ (by omega)]), by repeat (first | rfl | rw [upd_same] | rw [upd_ne _ _ _ _ (by omega)])⟩ (by simp +contextual only [go_sem]) (by simp +contextual only [go_sem]) (by simp +contextual only [go_sem]) (by simp +contextual only [go_sem]) (by simp +contextual only [go_sem]) (by simp +contextual only [go_sem]; rfl)
  | some x =>
    have hxo := hl x rfl
    simp +contextual only [go_sem, refL]
    refine call_keep (less'_c zeroQ x.1 zero_ok hxo) rfl ?_
    cases h1 : lessV zeroQ x.1 with
    | true =>
      have hs : smallS (some x) = true := by simp [smallS, h1]
      simp +contextual only [go_sem, refL]
      exact ref3_c (some x) high hl hh _ _ ⟨by repeat (first | rfl | rw [upd_same] | rw [upd_ne _ _ _ _ (by omega)]), hrow _ (by repeat (first | rfl | rw [upd_same] | rw [upd_ne _ _ _ _ (by omega)])), by repeat (first | rfl | rw [upd_same] | rw [upd_ne _ _ _ _ (by omega)]), by repeat (first | rfl | rw [upd_same] | rw [upd_ne _ _ _ _ (by omega)]), by repeat (first | rfl | rw [upd_same] | rw [upd_ne _ _ _ _ (by omega)])⟩ (by simp +contextual only [go_sem]) (by simp +contextual only [go_sem]) (by simp +contextual only [go_sem]) (by simp +contextual only [go_sem]) (by simp +contextual only [go_sem]) (by simp +contextual only [go_sem, hs])
    | false =>
      cases h2 : eqR x.1 zeroQ with
      | false =>
        have hs : smallS (some x) = false := by simp [smallS, h1, h2]
        have h2' : (x.1.num == 0 && x.1.den == 1) = false := h2
        simp +contextual only [go_sem, refL, eqRat68, D.i, h2']
        exact ref3_c (some x) high hl hh _ _ ⟨by repeat (first | rfl | rw [upd_same] | rw [upd_ne _ _ _ _ (by omega)]), hrow _ (by repeat (first | rfl | rw [upd_same] | rw [upd_ne _ _ _ _ (by omega)])), by repeat (first | rfl | rw [upd_same] | rw [upd_ne _ _ _ _ (by omega)]), by repeat (first | rfl | rw [upd_same] | rw [upd_ne _ _ _ _ (by omega)]), by repeat (first | rfl | rw [upd_same] | rw [upd_ne _ _ _ _ (by omega)])⟩ (by simp +contextual only [go_sem]) (by simp +contextual only [go_sem]) (by simp +contextual only [go_sem]) (by simp +contextual only [go_sem]) (by simp +contextual only [go_sem]) (by simp +contextual only [go_sem, hs])
      | true =>
        have hs : smallS (some x) = x.2 := by simp [smallS, h1, h2]
        have h2' : (x.1.num == 0 && x.1.den == 1) = true := h2
        simp +contextual only [go_sem, refL, eqRat68, D.i, h2']
        exact ref3_c (some x) high hl hh _ _ ⟨by repeat (first | rfl | rw [upd_same] | rw [upd_ne _ _ _ _ (by omega)]), hrow _ (by repeat (first | rfl | rw [upd_same] | rw [upd_ne _ _ _ _ (by omega)])), by repeat (first | rfl | rw [upd_same] | rw [upd_ne _ _ _ _ (by omega)]), by repeat (first | rfl | rw [upd_same] | rw [upd_ne _ _ _ _ (by omega)]), by repeat (first | rfl | rw [upd_same] | rw [upd_ne _ _ _ _ (by omega)])⟩ (by simp +contextual only [go_sem]) (by simp +contextual only [go_sem]) (by simp +contextual only [go_sem]) (by simp +contextual only [go_sem]) (by simp +contextual only [go_sem]) (by simp +contextual only [go_sem, hs])
end Go.Proofs.Ytaafchgfibbmhaa
namespace Go.Proofs.Ytaafchgfibbmhaa
structure VS where
  low : Option Bnd
  high : Option Bnd
  bad : Option Rat
def vb (m : Made) (v : Nat) (p : List Rat) : Bnd := ((numF m.r v p).1, m.r.rel == 2)
def vstep (v : Nat) (p : List Rat) (st : VS) (m : Made) : VS :=
  if st.bad.isSome = true then st
  else if m.r.c.getD v 0 = 0 then st
  else if (numF m.r v p).2 = false then ⟨st.low, st.high, some (numF m.r v p).1⟩
  else if 0 < m.r.c.getD v 0 then ⟨st.low, some (tightS st.high (vb m v p) true), none⟩
  else ⟨some (tightS st.low (vb m v p) false), st.high, none⟩
def vK (l : List Made) (v : Nat) (p : List Rat) : Nat → VS
  | 0 => ⟨none, none, none⟩
  | k + 1 => match l[k]? with
    | some m => vstep v p (vK l v p k) m
    | none => vK l v p k
def valueS (l : List Made) (v : Nat) (p : List Rat) : Rat × Bool :=
  match l.find? (usesF v) with
  | some m => numF m.r v p
  | none => match (vK l v p l.length).bad with
    | some x => (x, false)
    | none => betweenS (vK l v p l.length).low (vK l v p l.length).high
theorem vK_stop {l : List Made} {v : Nat} {p : List Rat} {k : Nat} {x : Rat} (h : (vK l v p k).bad = some x) : ∀ i, (vK l v p (k + i)).bad = some x
  | 0 => h
  | i + 1 => by
    rw [← Nat.add_assoc]
    simp only [vK]
    have := vK_stop h i
    split
    · rw [vstep, if_pos (by rw [this]; rfl)]; exact this
    · exact this
def Bok (a : Option Bnd) : Prop := ∀ x, a = some x → x.1.Ok
theorem tight_ok {a : Option Bnd} {b : Bnd} {up : Bool} (ha : Bok a) (hb : b.1.Ok) : Bok (some (tightS a b up)) := by
  intro x hx
  injection hx with hx
  subst hx
  unfold tightS
  split
  · exact hb
  · rename_i y
    have := ha y rfl
    split
    · exact hb
    · split
      · exact this
      · exact this
theorem numF_ok {r : Row} {v : Nat} {p : List Rat} {nv : Nat} (hr : r.Nice nv) (h : (numF r v p).2 = true) : (numF r v p).1.Ok := by
  unfold numF at h ⊢
  split at h
  · rename_i h1
    rw [if_pos h1]
    exact okR_ok h
  · rename_i h1
    exact absurd h h1
theorem Made.Ok.nice {nv nr : Nat} {m : Made} (h : m.Ok nv nr) : m.r.Nice nv := ⟨h.lc, h.c, h.b⟩
theorem vK_ok {l : List Made} {v : Nat} {p : List Rat} {nv nr : Nat} (hok : ∀ m ∈ l, m.Ok nv nr) : ∀ k, Bok (vK l v p k).low ∧ Bok (vK l v p k).high
  | 0 => ⟨fun x h => by simp [vK] at h, fun x h => by simp [vK] at h⟩
  | k + 1 => by
    have ih := vK_ok (v := v) (p := p) hok k
    simp only [vK]
    split
    · rename_i m hm
      have hmm := hok m (List.mem_of_getElem? hm)
      unfold vstep
      split
      · exact ih
      · split
        · exact ih
        · split
          · exact ih
          · rename_i h3
            have hn := numF_ok (v := v) (p := p) hmm.nice (by simpa using h3)
            split
            · exact ⟨ih.1, tight_ok ih.2 hn⟩
            · exact ⟨tight_ok ih.1 hn, ih.2⟩
    · exact ih
@[reducible] def valO (low high : Option Bnd) : Nat → Obj' := upd (upd (upd (fun _ => .no) 0 (.row [.d (.i 0), .d (.i 0)])) 1 (.row ((sidL low).map .d))) 2 (.row ((sidL high).map .d))
theorem sid_refs (a : Option Bnd) (n : Nat) : (Obj'.row ((sidL a).map V.d)).refs.all (fun r => decide (r < n)) = true := by
  cases a <;> rfl
theorem valO_good (low high : Option Bnd) : Good (valO low high) 3 := (((Good.nil (nx := 3)).upd (by omega) rfl).upd (by omega) (sid_refs _ _)).upd (by omega) (sid_refs _ _)
theorem value_c (l : List Made) (v : Nat) (p : List Rat) {nv nr : Nat} (hok : ∀ m ∈ l, m.Ok nv nr) (hnv : nv ≤ 5) (hl : l.length ≤ 1000) (hp : p.length = nv) (hv : v < nv) (hpo : ∀ k x, v < k → p[k]? = some x → x.Ok) :
    PCt Try.prog 67 [stD l, .i v, .sl (p.map Rat.d)] (pairR' (valueS l v p)) := by
  refine PCt.of_ev mix fn67 (by simp) ?_
  rw [c67]
  simp +contextual only [go_sem, stD]
  refine loop_fam (fun k : Nat => ⟨envJ [.d (stD l), .d (.i v), .d (.sl (p.map Rat.d)), .junk, .junk, .junk, .ptr 0 0, .ptr 1 0, .ptr 2 0, .junk, .junk, .junk, .junk, .junk, .junk, .d (stD l), .d (.i l.length), .d (.i k)], valO none none, 3⟩)
    (fun k => k ≤ l.length ∧ ∀ m ∈ l.take k, usesF v m = false) (fun k => l.length - k) 0 ⟨Nat.zero_le _, by simp⟩ (SLe.backL _ (by omega) (by omega) (valO_good _ _) (fun j h => ?_) ?_) (fun k hk => ?_)
  · rfl
  · repeat (first | exact backE_nil | refine backE_junk ?_ | refine backE_d rfl ?_ | refine backE_v rfl (by simp [V.refs] <;> omega) ?_)
  simp +contextual only [go_sem, stD]
  refine cond_intro (fun h2 => ?_) (fun h2 => ?_)
  · simp at h2
    obtain ⟨m, hm⟩ : ∃ m, l[k]? = some m := ⟨l[k], List.getElem?_eq_getElem _⟩
    have hmm := hok m (List.mem_of_getElem? hm)
    have hmv : m.r.c[v]? = some (m.r.c.getD v 0) := by
      have := hmm.lc
      rw [List.getD_eq_getElem?_getD, List.getElem?_eq_getElem (by omega)]; rfl
    have hsnoc : usesF v m = false → ∀ x ∈ l.take (k + 1), usesF v x = false := fun h1 x hx => by
      rw [List.take_add_one, hm] at hx
      rcases List.mem_append.1 hx with hx | hx
      · exact hk.2 x hx
      · simp at hx; subst hx; exact h1
    cases hr : m.r.rel == 3 with
    | false =>
      have hu : usesF v m = false := by simp at hr; simp [usesF, hr]
      simp +contextual only [go_sem, stD, hm, hmv, Made.d, Row.d, hr]
      refine nextS_intro (k + 1) ⟨h2, hsnoc hu⟩ (by omega) (SLe.backL _ (by omega) (by omega) (valO_good _ _) (fun j h => ?_) ?_)
      · repeat (first | rfl | rw [upd_same] | rw [upd_ne _ _ _ _ (by omega)])
      · repeat (first | exact backE_nil | refine backE_junk ?_ | refine backE_d rfl ?_ | refine backE_d (d_int (wrapN (by omega))) ?_ | refine backE_v rfl (by simp [V.refs] <;> omega) ?_)
    | true =>
      cases hz : m.r.c.getD v 0 != 0 with
      | false =>
        have hu : usesF v m = false := by simp at hz; simp [usesF, hz]
        simp +contextual only [go_sem, stD, hm, hmv, Made.d, Row.d, hr, hz]
        refine nextS_intro (k + 1) ⟨h2, hsnoc hu⟩ (by omega) (SLe.backL _ (by omega) (by omega) (valO_good _ _) (fun j h => ?_) ?_)
        · repeat (first | rfl | rw [upd_same] | rw [upd_ne _ _ _ _ (by omega)])
        · repeat (first | exact backE_nil | refine backE_junk ?_ | refine backE_d rfl ?_ | refine backE_d (d_int (wrapN (by omega))) ?_ | refine backE_v rfl (by simp [V.refs] <;> omega) ?_)
      | true =>
        have hz' : m.r.c.getD v 0 ≠ 0 := by simpa using hz
        have hu : usesF v m = true := by simp at hz hr; simp [usesF, hz, hr]
        have hfind : l.find? (usesF v) = some m := by
          rw [List.find?_eq_some_iff_getElem]
          refine ⟨hu, k, h2, (List.getElem?_eq_some_iff.1 hm).2, fun j hj => ?_⟩
          have := hk.2 (l[j]'(by omega)) (by rw [List.mem_take_iff_getElem]; exact ⟨j, by omega, rfl⟩)
          simp [this]
        have hV : valueS l v p = numF m.r v p := by rw [valueS, hfind]
        have hnum := number_c m.r v p hmm.nice hnv hp hv hpo hz'
        rw [hV]
        simp +contextual only [go_sem, stD, hm, hmv, Made.d, Row.d, hr, hz]
        cases hb : (numF m.r v p).2 with
        | true =>
          rw [hb, if_pos rfl] at hnum
          refine call_keep hnum rfl ?_
          simp +contextual only [go_sem, stD, hm, hmv, Made.d, Row.d]
          simp [pairR', hb]
        | false =>
          rw [hb, if_neg Bool.noConfusion] at hnum
          refine call_pan hnum (by decide) ?_
          simp +contextual only [go_sem, stD, hm, hmv, Made.d, Row.d]
          simp [pairR', hb]
  · simp at h2
    have hfind : l.find? (usesF v) = none := by
      rw [List.find?_eq_none]
      intro x hx
      have := hk.2 x (by rw [List.take_of_length_le h2]; exact hx)
      simp [this]
    simp +contextual only [go_sem, stD]
    refine loop_fam (fun k : Nat => ⟨envJ [.d (stD l), .d (.i v), .d (.sl (p.map Rat.d)), .junk, .junk, .junk, .ptr 0 0, .ptr 1 0, .ptr 2 0, .junk, .junk, .junk, .junk, .junk, .junk, .junk, .junk, .junk, .junk, .junk, .junk, .junk, .junk, .junk, .junk, .junk, .junk, .junk, .junk, .junk, .junk, .junk, .junk, .junk, .junk, .junk, .junk, .junk, .junk, .junk, .d (stD l), .d (.i l.length), .d (.i k)], valO (vK l v p k).low (vK l v p k).high, 3⟩)
      (fun k => k ≤ l.length ∧ (vK l v p k).bad = none) (fun k => l.length - k) 0 ⟨Nat.zero_le _, rfl⟩ (SLe.backL _ (by omega) (by omega) (valO_good _ _) (fun j h => ?_) ?_) (fun k hk => ?_)
    · rfl
    · repeat (first | exact backE_nil | refine backE_junk ?_ | refine backE_d rfl ?_ | refine backE_v rfl (by simp [V.refs] <;> omega) ?_)
    obtain ⟨hbl, hbh⟩ := vK_ok (v := v) (p := p) hok k
    simp +contextual only [go_sem, stD]
    refine cond_intro (fun h2 => ?_) (fun h2 => ?_)
    · simp at h2
      obtain ⟨m, hm⟩ : ∃ m, l[k]? = some m := ⟨l[k], List.getElem?_eq_getElem _⟩
      have hmm := hok m (List.mem_of_getElem? hm)
      have hmv : m.r.c[v]? = some (m.r.c.getD v 0) := by
        have := hmm.lc
        rw [List.getD_eq_getElem?_getD, List.getElem?_eq_getElem (by omega)]; rfl
      have hsucc : vK l v p (k + 1) = vstep v p (vK l v p k) m := by simp only [vK, hm]
      cases hz : m.r.c.getD v 0 == 0 with
      | true =>
        have hz' : m.r.c.getD v 0 = 0 := by simpa using hz
        have hs2 : vK l v p (k + 1) = vK l v p k := by rw [hsucc, vstep, if_neg (by rw [hk.2]; simp), if_pos hz']
        simp +contextual only [go_sem, stD, hm, hmv, Made.d, Row.d, hz]
        refine nextS_intro (k + 1) ⟨by omega, by rw [hs2]; exact hk.2⟩ (by omega) (SLe.backL _ (by omega) (by omega) (valO_good _ _) (fun j h => ?_) ?_)
        · rw [hs2]; repeat (first | rfl | rw [upd_same] | rw [upd_ne _ _ _ _ (by omega)])
        · repeat (first | exact backE_nil | refine backE_junk ?_ | refine backE_d rfl ?_ | refine backE_d (d_int (wrapN (by omega))) ?_ | refine backE_v rfl (by simp [V.refs] <;> omega) ?_)
      | false =>
        have hz' : m.r.c.getD v 0 ≠ 0 := by simpa using hz
        have hnum := number_c m.r v p hmm.nice hnv hp hv hpo hz'
        simp +contextual only [go_sem, stD, hm, hmv, Made.d, Row.d, hz]
        cases hb : (numF m.r v p).2 with
        | false =>
          have hbad : (vK l v p (k + 1)).bad = some (numF m.r v p).1 := by rw [hsucc, vstep, if_neg (by rw [hk.2]; simp), if_neg hz', if_pos hb]
          have hV : valueS l v p = ((numF m.r v p).1, false) := by
            have := vK_stop hbad (l.length - (k + 1))
            rw [show k + 1 + (l.length - (k + 1)) = l.length by omega] at this
            rw [valueS, hfind]
            simp only [this]
          rw [hV]
          rw [hb, if_neg Bool.noConfusion] at hnum
          refine callD_pan hnum (by decide) ?_
          simp +contextual only [go_sem, stD, hm, hmv, Made.d, Row.d]
          refine badE_op rfl rfl ?_
          simp +contextual only [go_sem, stD, hm, hmv, Made.d, Row.d]
          refine badE_op rfl rfl ?_
          simp +contextual only [go_sem, stD, hm, hmv, Made.d, Row.d]
          refine badE_op rfl rfl ?_
          simp +contextual only [go_sem, stD, hm, hmv, Made.d, Row.d]
          refine badE_op rfl rfl ?_
          simp +contextual only [go_sem, stD, hm, hmv, Made.d, Row.d]
          refine badE_skip rfl ?_
          refine badE_op rfl rfl ?_
          simp +contextual only [go_sem, stD, hm, hmv, Made.d, Row.d]
          refine badE_skip rfl (badE_nil ?_)
          refine ⟨rfl, ?_⟩
          simp only [panS, blockQ_pan, thenQ_pan, loopQ_pan, endW_pan', toD, endU_some]
          simp [pairR']
        | true =>
          rw [hb, if_pos rfl] at hnum
          refine callD_keep hnum rfl ?_
          simp +contextual only [go_sem, stD, hm, hmv, Made.d, Row.d]
          refine end_intro (by decide) ?_
          simp +contextual only [go_sem, stD, hm, hmv, Made.d, Row.d]
          refine cond_intro (fun h5 => ?_) (fun h5 => ?_)
          · simp +contextual only [go_sem, stD, hm, hmv, Made.d, Row.d]
            refine callR_heap (addHi_c (vK l v p k).high (vb m v p) hbh (numF_ok hmm.nice hb) 2 _ _ ?_ (by omega) _ _ (fun o2 n2 m1 m2 m3 => ?_))
            · repeat (first | rfl | rw [upd_same] | rw [upd_ne _ _ _ _ (by omega)])
            simp +contextual only [go_sem, stD, hm, hmv, Made.d, Row.d]
            have hs2 : vK l v p (k + 1) = ⟨(vK l v p k).low, some (tightS (vK l v p k).high (vb m v p) true), none⟩ := by rw [hsucc, vstep, if_neg (by rw [hk.2]; simp), if_neg hz', if_neg (by rw [hb]; exact Bool.noConfusion), if_pos (by simpa using h5)]
            refine nextS_intro (k + 1) ⟨by omega, by rw [hs2]⟩ (by omega) (SLe.backL _ (by omega) (by omega) (valO_good _ _) (fun j h => ?_) ?_)
            · rw [hs2]
              by_cases e : j = 2
              · subst e; rw [m3]; repeat (first | rfl | rw [upd_same] | rw [upd_ne _ _ _ _ (by omega)])
              · rw [m2 _ (by omega) e]
                unfold valO
                rcases (by omega : j = 0 ∨ j = 1 ∨ j = 2) with rfl | rfl | rfl <;> first | (exact absurd rfl e) | repeat (first | rfl | rw [upd_same] | rw [upd_ne _ _ _ _ (by omega)])
            · repeat (first | exact backE_nil | refine backE_junk ?_ | refine backE_d rfl ?_ | refine backE_d (d_int (wrapN (by omega))) ?_ | refine backE_v rfl (by simp [V.refs] <;> omega) ?_)
          · simp +contextual only [go_sem, stD, hm, hmv, Made.d, Row.d]
            refine callR_heap (addLo_c (vK l v p k).low (vb m v p) hbl (numF_ok hmm.nice hb) 1 27 _ _ ?_ (by omega) ?_ (by omega) _ _ (fun o2 n2 m1 m2 m3 => ?_))
            · repeat (first | rfl | rw [upd_same] | rw [upd_ne _ _ _ _ (by omega)])
            · repeat (first | rfl | rw [upd_same] | rw [upd_ne _ _ _ _ (by omega)])
            simp +contextual only [go_sem, stD, hm, hmv, Made.d, Row.d]
            have hs2 : vK l v p (k + 1) = ⟨some (tightS (vK l v p k).low (vb m v p) false), (vK l v p k).high, none⟩ := by rw [hsucc, vstep, if_neg (by rw [hk.2]; simp), if_neg hz', if_neg (by rw [hb]; exact Bool.noConfusion), if_neg (by simpa using h5)]
            refine nextS_intro (k + 1) ⟨by omega, by rw [hs2]⟩ (by omega) (SLe.backL _ (by omega) (by omega) (valO_good _ _) (fun j h => ?_) ?_)
            · rw [hs2]
              by_cases e : j = 1
              · subst e; rw [m3]; repeat (first | rfl | rw [upd_same] | rw [upd_ne _ _ _ _ (by omega)])
              · rw [m2 _ (by omega) e]
                unfold valO
                rcases (by omega : j = 0 ∨ j = 1 ∨ j = 2) with rfl | rfl | rfl <;> first | (exact absurd rfl e) | repeat (first | rfl | rw [upd_same] | rw [upd_ne _ _ _ _ (by omega)])
            · repeat (first | exact backE_nil | refine backE_junk ?_ | refine backE_d rfl ?_ | refine backE_d (d_int (wrapN (by omega))) ?_ | refine backE_v rfl (by simp [V.refs] <;> omega) ?_)
    · simp at h2
      have hkl : k = l.length := by omega
      have gen : ∀ a : Option Bnd, ∃ p q r t, sidL a = [.i p, .i q, .bool r, .bool t] := fun a => by
        cases a with
        | none => exact ⟨_, _, _, _, rfl⟩
        | some y => exact ⟨_, _, _, _, rfl⟩
      obtain ⟨g1, g2, g3, g4, hgl⟩ := gen (vK l v p k).low
      obtain ⟨k1, k2, k3, k4, hgh⟩ := gen (vK l v p k).high
      have hbt := between_c (vK l v p k).low (vK l v p k).high hbl hbh
      have hV : valueS l v p = betweenS (vK l v p k).low (vK l v p k).high := by
        have hbad := hk.2
        rw [hkl] at hbad ⊢
        rw [valueS, hfind]
        simp only [hbad]
      rw [hV]
      rw [hgl, hgh] at hbt
      simp +contextual only [go_sem, stD, hgl, hgh]
      cases hb : (betweenS (vK l v p k).low (vK l v p k).high).2 with
      | true =>
        simp only [pairR', hb, if_true] at hbt
        refine call_keep hbt rfl ?_
        simp +contextual only [go_sem, stD]
        simp [pairR', hb]
      | false =>
        simp only [pairR', hb, Bool.false_eq_true, if_false] at hbt
        refine call_pan hbt (by decide) ?_
        simp +contextual only [go_sem, stD]
        simp [pairR', hb]
end Go.Proofs.Ytaafchgfibbmhaa
