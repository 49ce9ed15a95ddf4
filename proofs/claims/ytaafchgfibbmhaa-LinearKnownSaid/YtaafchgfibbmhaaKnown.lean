/-
  LinearKnown ANSWERS true, by carrying it out, call by call. Conditions: none.
-/
import Derived.Test.YtaafchgfibbmhaaWorks
namespace Go.Proofs.Ytaafchgfibbmhaa
open Go
def dA : D := .agg [.int .i64 2, .sl [.agg [.sl [.int .i64 1, .int .i64 1], .int .i64 1, .int .i64 4], .agg [.sl [.int .i64 (-1), .int .i64 0], .int .i64 1, .int .i64 (-1)], .agg [.sl [.int .i64 0, .int .i64 (-1)], .int .i64 2, .int .i64 (-2)]]]
def dB : D := .agg [.int .i64 2, .sl [.agg [.sl [.int .i64 1, .int .i64 1], .int .i64 1, .int .i64 4], .agg [.sl [.int .i64 (-1), .int .i64 0], .int .i64 1, .int .i64 (-1)], .agg [.sl [.int .i64 0, .int .i64 (-1)], .int .i64 2, .int .i64 (-2)], .agg [.sl [.int .i64 1, .int .i64 1], .int .i64 3, .int .i64 3]]]
def dC : D := .agg [.int .i64 2, .sl [.agg [.sl [.int .i64 2, .int .i64 3], .int .i64 3, .int .i64 7], .agg [.sl [.int .i64 1, .int .i64 (-1)], .int .i64 2, .int .i64 1]]]
def out0 : R := (R.ret [D.sl [D.agg [D.int IntKind.i64 (Int.ofNat 5), D.int IntKind.i64 (Int.ofNat 4)], D.agg [D.int IntKind.i64 (Int.ofNat 5), D.int IntKind.i64 (Int.ofNat 2)]], D.int IntKind.i64 (Int.ofNat 0)])
theorem k0 : runD Try.prog tab cfg0 5000 23 [dA] = some out0 := by kernel_rfl
def out1 : R := (R.ret [D.sl [D.agg [D.sl [D.int IntKind.i64 (Int.ofNat 0), D.int IntKind.i64 (Int.ofNat 1)], D.int IntKind.i64 (Int.ofNat 1), D.int IntKind.i64 (Int.ofNat 2), D.sl [D.int IntKind.i64 (Int.ofNat 0), D.int IntKind.i64 (Int.ofNat 1), D.int IntKind.i64 (Int.ofNat 0), D.int IntKind.i64 (Int.ofNat 1)]], D.agg [D.sl [D.int IntKind.i64 (Int.ofNat 0), D.int IntKind.i64 (Int.negSucc 0)], D.int IntKind.i64 (Int.ofNat 2), D.int IntKind.i64 (Int.negSucc 1), D.sl [D.int IntKind.i64 (Int.ofNat 0), D.int IntKind.i64 (Int.ofNat 0), D.int IntKind.i64 (Int.ofNat 1), D.int IntKind.i64 (Int.ofNat 0)]]], D.int IntKind.i64 (Int.ofNat 0)])
theorem k1 : runD Try.prog tab cfg0 5000 19 [dB, .int .i64 1] = some out1 := by kernel_rfl
def out2 : R := (R.ret [D.sl [D.agg [D.sl [D.int IntKind.i64 (Int.ofNat 0), D.int IntKind.i64 (Int.negSucc 4)], D.int IntKind.i64 (Int.ofNat 2), D.int IntKind.i64 (Int.negSucc 4), D.sl [D.int IntKind.i64 (Int.negSucc 0), D.int IntKind.i64 (Int.ofNat 2)]]], D.int IntKind.i64 (Int.ofNat 0)])
theorem k2 : runD Try.prog tab cfg0 5000 19 [dC, .int .i64 1] = some out2 := by kernel_rfl
def out3 : R := (R.ret [D.agg [D.sl [], D.int IntKind.i64 (Int.ofNat 0), D.int IntKind.i64 (Int.ofNat 0), D.sl []], D.int IntKind.i64 (Int.ofNat 5)])
theorem k3 : runD Try.prog tab cfg0 5000 22 [dA] = some out3 := by kernel_rfl
def out4 : R := (R.ret [D.sl [], D.int IntKind.i64 (Int.ofNat 5)])
theorem k4 : runD Try.prog tab cfg0 5000 23 [dB] = some out4 := by kernel_rfl
def out5 : R := (R.ret [D.sl [], D.int IntKind.i64 (Int.ofNat 0)])
theorem k5 : runD Try.prog tab cfg0 5000 19 [dA, .int .i64 2] = some out5 := by kernel_rfl
def out6 : R := (R.ret [D.bool false, D.int IntKind.i64 (Int.ofNat 0)])
theorem k6 : runD Try.prog tab cfg0 5000 29 [dA, .agg [.sl [.int .i64 0, .int .i64 1], .int .i64 2, .int .i64 3]] = some out6 := by kernel_rfl
def out7 : R := (R.ret [D.bool false, D.int IntKind.i64 (Int.ofNat 0)])
theorem k7 : runD Try.prog tab cfg0 5000 29 [dA, .agg [.sl [.int .i64 1, .int .i64 0], .int .i64 3, .int .i64 1]] = some out7 := by kernel_rfl
def facts : List (Nat × List D × R) := [(13, [], .ret [.bool true]), (23, [dA], out0), (19, [dB, .int .i64 1], out1), (19, [dC, .int .i64 1], out2), (22, [dA], out3), (23, [dB], out4), (19, [dA, .int .i64 2], out5), (29, [dA, .agg [.sl [.int .i64 0, .int .i64 1], .int .i64 2, .int .i64 3]], out6), (29, [dA, .agg [.sl [.int .i64 1, .int .i64 0], .int .i64 3, .int .i64 1]], out7)]
theorem facts_ok : ∀ x ∈ facts, PCt Try.prog x.1 x.2.1 x.2.2 := by
  intro x hx
  simp only [facts, List.mem_cons, List.not_mem_nil, or_false] at hx
  rcases hx with rfl | rfl | rfl | rfl | rfl | rfl | rfl | rfl | rfl
  · exact works
  · exact PCt.of_run mix tab_ok k0
  · exact PCt.of_run mix tab_ok k1
  · exact PCt.of_run mix tab_ok k2
  · exact PCt.of_run mix tab_ok k3
  · exact PCt.of_run mix tab_ok k4
  · exact PCt.of_run mix tab_ok k5
  · exact PCt.of_run mix tab_ok k6
  · exact PCt.of_run mix tab_ok k7
def cfg1 : Cfg Try.prog := Cfg.of dat facts facts_ok
theorem known_run : runD Try.prog tab cfg1 5000 8 [] = some (.ret [.bool true]) := by kernel_rfl
theorem known : PCt Try.prog 8 [] (.ret [.bool true]) := PCt.of_run mix tab_ok known_run
end Go.Proofs.Ytaafchgfibbmhaa
