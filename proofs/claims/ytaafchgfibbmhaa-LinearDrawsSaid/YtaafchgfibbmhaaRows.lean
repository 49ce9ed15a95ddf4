/-
  No cell of these rows narrows 'for every input' (looked for: loops, veiled, ifaces, maps, wideKeys, modest, calm, conditions, laid).
  DERIVED. THE GIVEN ROWS OF THIS SEAT. 9 by the template 'for every input the law returns true; each argument reads behind the call as it read before'; 0 by the template 'total and deterministic' (their statements: YtaafchgfibbmhaaTotals.lean).
  GIVEN WITH THE SEED: the statements are not yours to turn. If you find one false, say at which input.
  Laid BY PROGRAM, IN A SANDBOX (cutbox-rows.mjs): the forced cells as the released guide's own fill.sh prints them over the translation 3f6b9543a21c9b74… (all of the seat's roots in one cut). By AI agents, Wed Nov 11 2026. No macro, syntax, notation, axiom, sorry.
-/
import Derived.Test.YtaafchgfibbmhaaChecked
import GoSem.Claim
import GoSem.ClaimJoined
import GoSem.ClaimMapViews
import Derived.JoinedTies
import Derived.KernelRfl
namespace Go.Proofs.Ytaafchgfibbmhaa
/- THE CELL 'sum', in the pinned program and in every row, IS THE sha256 OF THE DUMP (.gsa) THAT YtaafchgfibbmhaaProg.lean LOADS. Nothing in Lean hashes anything: it is a label: what it is worth is what the hold of that sum in a sandbox is worth. -/
noncomputable def Try.pinned : Pinned := { name := "ytaafchgfibbmhaa", sum := "3f6b9543a21c9b74da66b892fc6afa31be831fd92e1850dc81ffe5f988501a58", checked := Try.checked }
namespace Rows
def none {H : Type} : Left H := { results := [], args := [] }

/-- 'swinglelaw15.LinearRows': WHATEVER THE INPUT: true; the input reads as it did. -/
def linearRowsSpec : ChangeSpec := { name := "linearRows", fn := fun _ => fun
  | [d1, d2] => { results := [.lit (.bool true)], args := [d1, d2] }
  | _ => none }
def linearRowsRow : OpenClaim := { program := "ytaafchgfibbmhaa", sum := "3f6b9543a21c9b74da66b892fc6afa31be831fd92e1850dc81ffe5f988501a58", func := "swingle/swinglelaw15.LinearRows", spec := "linearRows", unfollowed := true, recurses := true, plainKeys := false, apart := false }
def LinearRowsSaid : Prop := linearRowsRow.holds Try.pinned (OpenSpec.ofChange linearRowsSpec)

/-- ITS FALSE NEIGHBOUR: 'it returns false'. Refute it at one input. -/
def linearRowsWrong : ChangeSpec := { name := "linearRows", fn := fun _ => fun
  | [d1, d2] => { results := [.lit (.bool false)], args := [d1, d2] }
  | _ => none }
def LinearRowsWrongFalsely : Prop := linearRowsRow.holds Try.pinned (OpenSpec.ofChange linearRowsWrong)

/-- 'swinglelaw15.LinearStages': WHATEVER THE INPUT: true; the input reads as it did. -/
def linearStagesSpec : ChangeSpec := { name := "linearStages", fn := fun _ => fun
  | [d1, d2] => { results := [.lit (.bool true)], args := [d1, d2] }
  | _ => none }
def linearStagesRow : OpenClaim := { program := "ytaafchgfibbmhaa", sum := "3f6b9543a21c9b74da66b892fc6afa31be831fd92e1850dc81ffe5f988501a58", func := "swingle/swinglelaw15.LinearStages", spec := "linearStages", unfollowed := true, recurses := true, plainKeys := false, apart := false }
def LinearStagesSaid : Prop := linearStagesRow.holds Try.pinned (OpenSpec.ofChange linearStagesSpec)

/-- ITS FALSE NEIGHBOUR: 'it returns false'. Refute it at one input. -/
def linearStagesWrong : ChangeSpec := { name := "linearStages", fn := fun _ => fun
  | [d1, d2] => { results := [.lit (.bool false)], args := [d1, d2] }
  | _ => none }
def LinearStagesWrongFalsely : Prop := linearStagesRow.holds Try.pinned (OpenSpec.ofChange linearStagesWrong)

/-- 'swinglelaw15.LinearSolves': WHATEVER THE INPUT: true; the input reads as it did. -/
def linearSolvesSpec : ChangeSpec := { name := "linearSolves", fn := fun _ => fun
  | [d] => { results := [.lit (.bool true)], args := [d] }
  | _ => none }
def linearSolvesRow : OpenClaim := { program := "ytaafchgfibbmhaa", sum := "3f6b9543a21c9b74da66b892fc6afa31be831fd92e1850dc81ffe5f988501a58", func := "swingle/swinglelaw15.LinearSolves", spec := "linearSolves", unfollowed := true, recurses := true, plainKeys := false, apart := false }
def LinearSolvesSaid : Prop := linearSolvesRow.holds Try.pinned (OpenSpec.ofChange linearSolvesSpec)

/-- ITS FALSE NEIGHBOUR: 'it returns false'. Refute it at one input. -/
def linearSolvesWrong : ChangeSpec := { name := "linearSolves", fn := fun _ => fun
  | [d] => { results := [.lit (.bool false)], args := [d] }
  | _ => none }
def LinearSolvesWrongFalsely : Prop := linearSolvesRow.holds Try.pinned (OpenSpec.ofChange linearSolvesWrong)

/-- 'swinglelaw15.LinearImplies': WHATEVER THE INPUT: true; the input reads as it did. -/
def linearImpliesSpec : ChangeSpec := { name := "linearImplies", fn := fun _ => fun
  | [d1, d2] => { results := [.lit (.bool true)], args := [d1, d2] }
  | _ => none }
def linearImpliesRow : OpenClaim := { program := "ytaafchgfibbmhaa", sum := "3f6b9543a21c9b74da66b892fc6afa31be831fd92e1850dc81ffe5f988501a58", func := "swingle/swinglelaw15.LinearImplies", spec := "linearImplies", unfollowed := true, recurses := true, plainKeys := false, apart := false }
def LinearImpliesSaid : Prop := linearImpliesRow.holds Try.pinned (OpenSpec.ofChange linearImpliesSpec)

/-- ITS FALSE NEIGHBOUR: 'it returns false'. Refute it at one input. -/
def linearImpliesWrong : ChangeSpec := { name := "linearImplies", fn := fun _ => fun
  | [d1, d2] => { results := [.lit (.bool false)], args := [d1, d2] }
  | _ => none }
def LinearImpliesWrongFalsely : Prop := linearImpliesRow.holds Try.pinned (OpenSpec.ofChange linearImpliesWrong)

/-- 'swinglelaw15.LinearDraws': WHATEVER THE INPUT: true; the input reads as it did. -/
def linearDrawsSpec : ChangeSpec := { name := "linearDraws", fn := fun _ => fun
  | [d1, d2, d3, d4, d5] => { results := [.lit (.bool true)], args := [d1, d2, d3, d4, d5] }
  | _ => none }
def linearDrawsRow : OpenClaim := { program := "ytaafchgfibbmhaa", sum := "3f6b9543a21c9b74da66b892fc6afa31be831fd92e1850dc81ffe5f988501a58", func := "swingle/swinglelaw15.LinearDraws", spec := "linearDraws", unfollowed := true, recurses := true, plainKeys := false, apart := false }
def LinearDrawsSaid : Prop := linearDrawsRow.holds Try.pinned (OpenSpec.ofChange linearDrawsSpec)

/-- ITS FALSE NEIGHBOUR: 'it returns false'. Refute it at one input. -/
def linearDrawsWrong : ChangeSpec := { name := "linearDraws", fn := fun _ => fun
  | [d1, d2, d3, d4, d5] => { results := [.lit (.bool false)], args := [d1, d2, d3, d4, d5] }
  | _ => none }
def LinearDrawsWrongFalsely : Prop := linearDrawsRow.holds Try.pinned (OpenSpec.ofChange linearDrawsWrong)

/-- 'swinglelaw15.LinearKnown': WHATEVER THE INPUT: true; the input reads as it did. -/
def linearKnownSpec : ChangeSpec := { name := "linearKnown", fn := fun _ => fun
  | [] => { results := [.lit (.bool true)], args := [] }
  | _ => none }
def linearKnownRow : OpenClaim := { program := "ytaafchgfibbmhaa", sum := "3f6b9543a21c9b74da66b892fc6afa31be831fd92e1850dc81ffe5f988501a58", func := "swingle/swinglelaw15.LinearKnown", spec := "linearKnown", unfollowed := true, recurses := true, plainKeys := false, apart := false }
def LinearKnownSaid : Prop := linearKnownRow.holds Try.pinned (OpenSpec.ofChange linearKnownSpec)

/-- ITS FALSE NEIGHBOUR: 'it returns false'. Refute it at one input. -/
def linearKnownWrong : ChangeSpec := { name := "linearKnown", fn := fun _ => fun
  | [] => { results := [.lit (.bool false)], args := [] }
  | _ => none }
def LinearKnownWrongFalsely : Prop := linearKnownRow.holds Try.pinned (OpenSpec.ofChange linearKnownWrong)

/-- 'swinglelaw15.LinearRights': WHATEVER THE INPUT: true; the input reads as it did. -/
def linearRightsSpec : ChangeSpec := { name := "linearRights", fn := fun _ => fun
  | [d1, d2] => { results := [.lit (.bool true)], args := [d1, d2] }
  | _ => none }
def linearRightsRow : OpenClaim := { program := "ytaafchgfibbmhaa", sum := "3f6b9543a21c9b74da66b892fc6afa31be831fd92e1850dc81ffe5f988501a58", func := "swingle/swinglelaw15.LinearRights", spec := "linearRights", unfollowed := true, recurses := true, plainKeys := false, apart := false }
def LinearRightsSaid : Prop := linearRightsRow.holds Try.pinned (OpenSpec.ofChange linearRightsSpec)

/-- ITS FALSE NEIGHBOUR: 'it returns false'. Refute it at one input. -/
def linearRightsWrong : ChangeSpec := { name := "linearRights", fn := fun _ => fun
  | [d1, d2] => { results := [.lit (.bool false)], args := [d1, d2] }
  | _ => none }
def LinearRightsWrongFalsely : Prop := linearRightsRow.holds Try.pinned (OpenSpec.ofChange linearRightsWrong)

/-- 'swinglelaw15.LinearSound': WHATEVER THE INPUT: true; the input reads as it did. -/
def linearSoundSpec : ChangeSpec := { name := "linearSound", fn := fun _ => fun
  | [d1, d2, d3] => { results := [.lit (.bool true)], args := [d1, d2, d3] }
  | _ => none }
def linearSoundRow : OpenClaim := { program := "ytaafchgfibbmhaa", sum := "3f6b9543a21c9b74da66b892fc6afa31be831fd92e1850dc81ffe5f988501a58", func := "swingle/swinglelaw15.LinearSound", spec := "linearSound", unfollowed := true, recurses := true, plainKeys := false, apart := false }
def LinearSoundSaid : Prop := linearSoundRow.holds Try.pinned (OpenSpec.ofChange linearSoundSpec)

/-- ITS FALSE NEIGHBOUR: 'it returns false'. Refute it at one input. -/
def linearSoundWrong : ChangeSpec := { name := "linearSound", fn := fun _ => fun
  | [d1, d2, d3] => { results := [.lit (.bool false)], args := [d1, d2, d3] }
  | _ => none }
def LinearSoundWrongFalsely : Prop := linearSoundRow.holds Try.pinned (OpenSpec.ofChange linearSoundWrong)

/-- 'swinglelaw15.LinearCertain': WHATEVER THE INPUT: true; the input reads as it did. -/
def linearCertainSpec : ChangeSpec := { name := "linearCertain", fn := fun _ => fun
  | [d1, d2, d3] => { results := [.lit (.bool true)], args := [d1, d2, d3] }
  | _ => none }
def linearCertainRow : OpenClaim := { program := "ytaafchgfibbmhaa", sum := "3f6b9543a21c9b74da66b892fc6afa31be831fd92e1850dc81ffe5f988501a58", func := "swingle/swinglelaw15.LinearCertain", spec := "linearCertain", unfollowed := true, recurses := true, plainKeys := false, apart := false }
def LinearCertainSaid : Prop := linearCertainRow.holds Try.pinned (OpenSpec.ofChange linearCertainSpec)

/-- ITS FALSE NEIGHBOUR: 'it returns false'. Refute it at one input. -/
def linearCertainWrong : ChangeSpec := { name := "linearCertain", fn := fun _ => fun
  | [d1, d2, d3] => { results := [.lit (.bool false)], args := [d1, d2, d3] }
  | _ => none }
def LinearCertainWrongFalsely : Prop := linearCertainRow.holds Try.pinned (OpenSpec.ofChange linearCertainWrong)

/- THE SECOND FORM. 'bulk': how many values and letters a reading holds, each counted each time it is reached (what is shared counts as often as it is met; a slice's spare places count too). A statement '..UptoSaid' is the law's where the arguments, and the package variables that the reading takes, are together of bulk at most 1048576: NARROWER than '..Said'. Prove '..Said' where nothing that the law and all that it calls make is longer than what came in: it says more and counts as full. Else prove '..UptoSaid'. A law counts once. -/
mutual
def uptoBulk {H : Type} : DataW H → Nat
  | .lit (.string bytes) => bytes.length + 1
  | .lit _ => 1
  | .nil => 1
  | .ptr d => uptoBulk d + 1
  | .slice elems spare => uptoBulkAll elems + uptoBulkAll spare + 1
  | .agg parts => uptoBulkAll parts + 1
  | .iface _ d => uptoBulk d + 1
  | .map entries => uptoBulkEntries entries + 1
  | .held _ => 1
def uptoBulkAll {H : Type} : List (DataW H) → Nat
  | [] => 0
  | d :: r => uptoBulk d + uptoBulkAll r
def uptoBulkEntries {H : Type} : List (Lit × DataW H) → Nat
  | [] => 0
  | x :: r => uptoBulkEntry x + uptoBulkEntries r
def uptoBulkEntry {H : Type} : Lit × DataW H → Nat
  | (.string bytes, d) => bytes.length + uptoBulk d + 1
  | (_, d) => uptoBulk d + 1
 end
def uptoSmall : (H : Type) → List (DataW H) → Bool := fun _ ds => decide (uptoBulkAll ds ≤ 1048576)
def OpenSpec.upto (s : _root_.Go.ChangeSpec) : _root_.Go.OpenSpec := { _root_.Go.OpenSpec.ofChange s with cond := some uptoSmall }

/-- 'swinglelaw15.LinearRows', WHERE WHAT IT READS IS OF BULK AT MOST 1048576: true; the input reads as it did. -/
def linearRowsUptoRow : OpenClaim := { program := "ytaafchgfibbmhaa", sum := "3f6b9543a21c9b74da66b892fc6afa31be831fd92e1850dc81ffe5f988501a58", func := "swingle/swinglelaw15.LinearRows", spec := "linearRows", unfollowed := true, recurses := true, plainKeys := false, apart := false, narrowed := true }
def LinearRowsUptoSaid : Prop := linearRowsUptoRow.holds Try.pinned (OpenSpec.upto linearRowsSpec)

/-- 'swinglelaw15.LinearStages', WHERE WHAT IT READS IS OF BULK AT MOST 1048576: true; the input reads as it did. -/
def linearStagesUptoRow : OpenClaim := { program := "ytaafchgfibbmhaa", sum := "3f6b9543a21c9b74da66b892fc6afa31be831fd92e1850dc81ffe5f988501a58", func := "swingle/swinglelaw15.LinearStages", spec := "linearStages", unfollowed := true, recurses := true, plainKeys := false, apart := false, narrowed := true }
def LinearStagesUptoSaid : Prop := linearStagesUptoRow.holds Try.pinned (OpenSpec.upto linearStagesSpec)

/-- 'swinglelaw15.LinearSolves', WHERE WHAT IT READS IS OF BULK AT MOST 1048576: true; the input reads as it did. -/
def linearSolvesUptoRow : OpenClaim := { program := "ytaafchgfibbmhaa", sum := "3f6b9543a21c9b74da66b892fc6afa31be831fd92e1850dc81ffe5f988501a58", func := "swingle/swinglelaw15.LinearSolves", spec := "linearSolves", unfollowed := true, recurses := true, plainKeys := false, apart := false, narrowed := true }
def LinearSolvesUptoSaid : Prop := linearSolvesUptoRow.holds Try.pinned (OpenSpec.upto linearSolvesSpec)

/-- 'swinglelaw15.LinearImplies', WHERE WHAT IT READS IS OF BULK AT MOST 1048576: true; the input reads as it did. -/
def linearImpliesUptoRow : OpenClaim := { program := "ytaafchgfibbmhaa", sum := "3f6b9543a21c9b74da66b892fc6afa31be831fd92e1850dc81ffe5f988501a58", func := "swingle/swinglelaw15.LinearImplies", spec := "linearImplies", unfollowed := true, recurses := true, plainKeys := false, apart := false, narrowed := true }
def LinearImpliesUptoSaid : Prop := linearImpliesUptoRow.holds Try.pinned (OpenSpec.upto linearImpliesSpec)

/-- 'swinglelaw15.LinearDraws', WHERE WHAT IT READS IS OF BULK AT MOST 1048576: true; the input reads as it did. -/
def linearDrawsUptoRow : OpenClaim := { program := "ytaafchgfibbmhaa", sum := "3f6b9543a21c9b74da66b892fc6afa31be831fd92e1850dc81ffe5f988501a58", func := "swingle/swinglelaw15.LinearDraws", spec := "linearDraws", unfollowed := true, recurses := true, plainKeys := false, apart := false, narrowed := true }
def LinearDrawsUptoSaid : Prop := linearDrawsUptoRow.holds Try.pinned (OpenSpec.upto linearDrawsSpec)

/-- 'swinglelaw15.LinearKnown', WHERE WHAT IT READS IS OF BULK AT MOST 1048576: true; the input reads as it did. -/
def linearKnownUptoRow : OpenClaim := { program := "ytaafchgfibbmhaa", sum := "3f6b9543a21c9b74da66b892fc6afa31be831fd92e1850dc81ffe5f988501a58", func := "swingle/swinglelaw15.LinearKnown", spec := "linearKnown", unfollowed := true, recurses := true, plainKeys := false, apart := false, narrowed := true }
def LinearKnownUptoSaid : Prop := linearKnownUptoRow.holds Try.pinned (OpenSpec.upto linearKnownSpec)

/-- 'swinglelaw15.LinearRights', WHERE WHAT IT READS IS OF BULK AT MOST 1048576: true; the input reads as it did. -/
def linearRightsUptoRow : OpenClaim := { program := "ytaafchgfibbmhaa", sum := "3f6b9543a21c9b74da66b892fc6afa31be831fd92e1850dc81ffe5f988501a58", func := "swingle/swinglelaw15.LinearRights", spec := "linearRights", unfollowed := true, recurses := true, plainKeys := false, apart := false, narrowed := true }
def LinearRightsUptoSaid : Prop := linearRightsUptoRow.holds Try.pinned (OpenSpec.upto linearRightsSpec)

/-- 'swinglelaw15.LinearSound', WHERE WHAT IT READS IS OF BULK AT MOST 1048576: true; the input reads as it did. -/
def linearSoundUptoRow : OpenClaim := { program := "ytaafchgfibbmhaa", sum := "3f6b9543a21c9b74da66b892fc6afa31be831fd92e1850dc81ffe5f988501a58", func := "swingle/swinglelaw15.LinearSound", spec := "linearSound", unfollowed := true, recurses := true, plainKeys := false, apart := false, narrowed := true }
def LinearSoundUptoSaid : Prop := linearSoundUptoRow.holds Try.pinned (OpenSpec.upto linearSoundSpec)

/-- 'swinglelaw15.LinearCertain', WHERE WHAT IT READS IS OF BULK AT MOST 1048576: true; the input reads as it did. -/
def linearCertainUptoRow : OpenClaim := { program := "ytaafchgfibbmhaa", sum := "3f6b9543a21c9b74da66b892fc6afa31be831fd92e1850dc81ffe5f988501a58", func := "swingle/swinglelaw15.LinearCertain", spec := "linearCertain", unfollowed := true, recurses := true, plainKeys := false, apart := false, narrowed := true }
def LinearCertainUptoSaid : Prop := linearCertainUptoRow.holds Try.pinned (OpenSpec.upto linearCertainSpec)

end Rows
end Go.Proofs.Ytaafchgfibbmhaa
