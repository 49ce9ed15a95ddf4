/-
  NARROWER THAN 'FOR EVERY INPUT', by the rows' own cells (each row's printed sentence says how): EndsCallsAre: loops · EndsDescends: loops · EndsEnds: loops · EndsTrue: loops · EndsTurns: loops · EndsAll: loops.
  DERIVED. THE GIVEN ROWS OF THIS SEAT. 6 by the template 'for every input the law returns true; each argument reads behind the call as it read before'; 0 by the template 'total and deterministic' (their statements: YtnkamdiiakdkgaaGreatTotals.lean).
  GIVEN WITH THE SEED: the statements are not yours to turn. If you find one false, say at which input.
  Laid BY PROGRAM, IN A SANDBOX (cutbox-rows.mjs): the forced cells as the released guide's own fill.sh prints them over the translation ada6530791581418… (all of the seat's roots in one cut). By AI agents, Wed Nov 11 2026. No macro, syntax, notation, axiom, sorry.
-/
import Derived.Test.YtnkamdiiakdkgaaGreatChecked
import GoSem.Claim
import GoSem.ClaimJoined
import GoSem.ClaimMapViews
import Derived.JoinedTies
import Derived.KernelRfl
namespace Go.Proofs.YtnkamdiiakdkgaaGreat
/- THE CELL 'sum', in the pinned program and in every row, IS THE sha256 OF THE DUMP (.gsa) THAT YtnkamdiiakdkgaaGreatProg.lean LOADS. Nothing in Lean hashes anything: it is a label: what it is worth is what the hold of that sum in a sandbox is worth. -/
noncomputable def Tryz.pinned : Pinned := { name := "ytnkamdiiakdkgaagreat", sum := "ada6530791581418cdc681a41b82d751a3afbcccdb5acf34c0444ccb57af6abd", checked := Tryz.checked }
namespace Rows
def none {H : Type} : Left H := { results := [], args := [] }

/-- 'swinglelaw25.EndsCallsAre': WHATEVER THE INPUT: true; the input reads as it did. -/
def endsCallsAreSpec : ChangeSpec := { name := "endsCallsAre", fn := fun _ => fun
  | [d] => { results := [.lit (.bool true)], args := [d] }
  | _ => none }
def endsCallsAreRow : OpenClaim := { program := "ytnkamdiiakdkgaagreat", sum := "ada6530791581418cdc681a41b82d751a3afbcccdb5acf34c0444ccb57af6abd", func := "swingle/swinglelaw25.EndsCallsAre", spec := "endsCallsAre", unfollowed := true, recurses := true, loops := true, plainKeys := false, apart := false }
def EndsCallsAreSaid : Prop := endsCallsAreRow.holds Tryz.pinned (OpenSpec.ofChange endsCallsAreSpec)

/-- ITS FALSE NEIGHBOUR: 'it returns false'. Refute it at one input. -/
def endsCallsAreWrong : ChangeSpec := { name := "endsCallsAre", fn := fun _ => fun
  | [d] => { results := [.lit (.bool false)], args := [d] }
  | _ => none }
def EndsCallsAreWrongFalsely : Prop := endsCallsAreRow.holds Tryz.pinned (OpenSpec.ofChange endsCallsAreWrong)

/-- 'swinglelaw25.EndsDescends': WHATEVER THE INPUT: true; the input reads as it did. -/
def endsDescendsSpec : ChangeSpec := { name := "endsDescends", fn := fun _ => fun
  | [d1, d2] => { results := [.lit (.bool true)], args := [d1, d2] }
  | _ => none }
def endsDescendsRow : OpenClaim := { program := "ytnkamdiiakdkgaagreat", sum := "ada6530791581418cdc681a41b82d751a3afbcccdb5acf34c0444ccb57af6abd", func := "swingle/swinglelaw25.EndsDescends", spec := "endsDescends", unfollowed := true, recurses := true, loops := true, plainKeys := false, apart := false }
def EndsDescendsSaid : Prop := endsDescendsRow.holds Tryz.pinned (OpenSpec.ofChange endsDescendsSpec)

/-- ITS FALSE NEIGHBOUR: 'it returns false'. Refute it at one input. -/
def endsDescendsWrong : ChangeSpec := { name := "endsDescends", fn := fun _ => fun
  | [d1, d2] => { results := [.lit (.bool false)], args := [d1, d2] }
  | _ => none }
def EndsDescendsWrongFalsely : Prop := endsDescendsRow.holds Tryz.pinned (OpenSpec.ofChange endsDescendsWrong)

/-- 'swinglelaw25.EndsEnds': WHATEVER THE INPUT: true; the input reads as it did. -/
def endsEndsSpec : ChangeSpec := { name := "endsEnds", fn := fun _ => fun
  | [d] => { results := [.lit (.bool true)], args := [d] }
  | _ => none }
def endsEndsRow : OpenClaim := { program := "ytnkamdiiakdkgaagreat", sum := "ada6530791581418cdc681a41b82d751a3afbcccdb5acf34c0444ccb57af6abd", func := "swingle/swinglelaw25.EndsEnds", spec := "endsEnds", unfollowed := true, recurses := true, loops := true, plainKeys := false, apart := false }
def EndsEndsSaid : Prop := endsEndsRow.holds Tryz.pinned (OpenSpec.ofChange endsEndsSpec)

/-- ITS FALSE NEIGHBOUR: 'it returns false'. Refute it at one input. -/
def endsEndsWrong : ChangeSpec := { name := "endsEnds", fn := fun _ => fun
  | [d] => { results := [.lit (.bool false)], args := [d] }
  | _ => none }
def EndsEndsWrongFalsely : Prop := endsEndsRow.holds Tryz.pinned (OpenSpec.ofChange endsEndsWrong)

/-- 'swinglelaw25.EndsTrue': WHATEVER THE INPUT: true; the input reads as it did. -/
def endsTrueSpec : ChangeSpec := { name := "endsTrue", fn := fun _ => fun
  | [d1, d2, d3] => { results := [.lit (.bool true)], args := [d1, d2, d3] }
  | _ => none }
def endsTrueRow : OpenClaim := { program := "ytnkamdiiakdkgaagreat", sum := "ada6530791581418cdc681a41b82d751a3afbcccdb5acf34c0444ccb57af6abd", func := "swingle/swinglelaw25.EndsTrue", spec := "endsTrue", unfollowed := true, recurses := true, loops := true, plainKeys := false, apart := false }
def EndsTrueSaid : Prop := endsTrueRow.holds Tryz.pinned (OpenSpec.ofChange endsTrueSpec)

/-- ITS FALSE NEIGHBOUR: 'it returns false'. Refute it at one input. -/
def endsTrueWrong : ChangeSpec := { name := "endsTrue", fn := fun _ => fun
  | [d1, d2, d3] => { results := [.lit (.bool false)], args := [d1, d2, d3] }
  | _ => none }
def EndsTrueWrongFalsely : Prop := endsTrueRow.holds Tryz.pinned (OpenSpec.ofChange endsTrueWrong)

/-- 'swinglelaw25.EndsTurns': WHATEVER THE INPUT: true; the input reads as it did. -/
def endsTurnsSpec : ChangeSpec := { name := "endsTurns", fn := fun _ => fun
  | [d1, d2, d3, d4, d5, d6] => { results := [.lit (.bool true)], args := [d1, d2, d3, d4, d5, d6] }
  | _ => none }
def endsTurnsRow : OpenClaim := { program := "ytnkamdiiakdkgaagreat", sum := "ada6530791581418cdc681a41b82d751a3afbcccdb5acf34c0444ccb57af6abd", func := "swingle/swinglelaw25.EndsTurns", spec := "endsTurns", unfollowed := true, recurses := true, loops := true, plainKeys := false, apart := false }
def EndsTurnsSaid : Prop := endsTurnsRow.holds Tryz.pinned (OpenSpec.ofChange endsTurnsSpec)

/-- ITS FALSE NEIGHBOUR: 'it returns false'. Refute it at one input. -/
def endsTurnsWrong : ChangeSpec := { name := "endsTurns", fn := fun _ => fun
  | [d1, d2, d3, d4, d5, d6] => { results := [.lit (.bool false)], args := [d1, d2, d3, d4, d5, d6] }
  | _ => none }
def EndsTurnsWrongFalsely : Prop := endsTurnsRow.holds Tryz.pinned (OpenSpec.ofChange endsTurnsWrong)

/-- 'swinglelaw25.EndsAll': WHATEVER THE INPUT: true; the input reads as it did. -/
def endsAllSpec : ChangeSpec := { name := "endsAll", fn := fun _ => fun
  | [d1, d2, d3] => { results := [.lit (.bool true)], args := [d1, d2, d3] }
  | _ => none }
def endsAllRow : OpenClaim := { program := "ytnkamdiiakdkgaagreat", sum := "ada6530791581418cdc681a41b82d751a3afbcccdb5acf34c0444ccb57af6abd", func := "swingle/swinglelaw25.EndsAll", spec := "endsAll", unfollowed := true, recurses := true, loops := true, plainKeys := false, apart := false }
def EndsAllSaid : Prop := endsAllRow.holds Tryz.pinned (OpenSpec.ofChange endsAllSpec)

/-- ITS FALSE NEIGHBOUR: 'it returns false'. Refute it at one input. -/
def endsAllWrong : ChangeSpec := { name := "endsAll", fn := fun _ => fun
  | [d1, d2, d3] => { results := [.lit (.bool false)], args := [d1, d2, d3] }
  | _ => none }
def EndsAllWrongFalsely : Prop := endsAllRow.holds Tryz.pinned (OpenSpec.ofChange endsAllWrong)

/- THE SECOND FORM. 'bulk': how many values and letters a reading holds, each counted each time it is reached (what is shared counts as often as it is met; a slice's spare places count too). A statement '..UptoSaid' is the law's where the arguments, and the package variables that the reading takes, are together of bulk at most 1048576: NARROWER than '..Said'. Prove '..Said' where nothing that the law and all that it calls make is longer than what came in: it says more and counts as full. Else prove '..UptoSaid'. A law counts once. -/
mutual
def uptoBulk {H : Type} : DataW H → Nat
  | .lit (.string bytes) => bytes.length + 1
  | .lit _ => 1
  | .nil => 1
  | .ptr d => uptoBulk d + 1
  | .slice elems spare => uptoBulkAll elems + uptoBulkAll spare + 1
  | .agg parts => uptoBulkAll parts + 1
  | .iface _ d => uptoBulk d + 1
  | .map entries => uptoBulkEntries entries + 1
  | .held _ => 1
def uptoBulkAll {H : Type} : List (DataW H) → Nat
  | [] => 0
  | d :: r => uptoBulk d + uptoBulkAll r
def uptoBulkEntries {H : Type} : List (Lit × DataW H) → Nat
  | [] => 0
  | x :: r => uptoBulkEntry x + uptoBulkEntries r
def uptoBulkEntry {H : Type} : Lit × DataW H → Nat
  | (.string bytes, d) => bytes.length + uptoBulk d + 1
  | (_, d) => uptoBulk d + 1
 end
def uptoSmall : (H : Type) → List (DataW H) → Bool := fun _ ds => decide (uptoBulkAll ds ≤ 1048576)
def OpenSpec.upto (s : _root_.Go.ChangeSpec) : _root_.Go.OpenSpec := { _root_.Go.OpenSpec.ofChange s with cond := some uptoSmall }

/-- 'swinglelaw25.EndsCallsAre', WHERE WHAT IT READS IS OF BULK AT MOST 1048576: true; the input reads as it did. -/
def endsCallsAreUptoRow : OpenClaim := { program := "ytnkamdiiakdkgaagreat", sum := "ada6530791581418cdc681a41b82d751a3afbcccdb5acf34c0444ccb57af6abd", func := "swingle/swinglelaw25.EndsCallsAre", spec := "endsCallsAre", unfollowed := true, recurses := true, loops := true, plainKeys := false, apart := false, narrowed := true }
def EndsCallsAreUptoSaid : Prop := endsCallsAreUptoRow.holds Tryz.pinned (OpenSpec.upto endsCallsAreSpec)

/-- 'swinglelaw25.EndsDescends', WHERE WHAT IT READS IS OF BULK AT MOST 1048576: true; the input reads as it did. -/
def endsDescendsUptoRow : OpenClaim := { program := "ytnkamdiiakdkgaagreat", sum := "ada6530791581418cdc681a41b82d751a3afbcccdb5acf34c0444ccb57af6abd", func := "swingle/swinglelaw25.EndsDescends", spec := "endsDescends", unfollowed := true, recurses := true, loops := true, plainKeys := false, apart := false, narrowed := true }
def EndsDescendsUptoSaid : Prop := endsDescendsUptoRow.holds Tryz.pinned (OpenSpec.upto endsDescendsSpec)

/-- 'swinglelaw25.EndsEnds', WHERE WHAT IT READS IS OF BULK AT MOST 1048576: true; the input reads as it did. -/
def endsEndsUptoRow : OpenClaim := { program := "ytnkamdiiakdkgaagreat", sum := "ada6530791581418cdc681a41b82d751a3afbcccdb5acf34c0444ccb57af6abd", func := "swingle/swinglelaw25.EndsEnds", spec := "endsEnds", unfollowed := true, recurses := true, loops := true, plainKeys := false, apart := false, narrowed := true }
def EndsEndsUptoSaid : Prop := endsEndsUptoRow.holds Tryz.pinned (OpenSpec.upto endsEndsSpec)

/-- 'swinglelaw25.EndsTrue', WHERE WHAT IT READS IS OF BULK AT MOST 1048576: true; the input reads as it did. -/
def endsTrueUptoRow : OpenClaim := { program := "ytnkamdiiakdkgaagreat", sum := "ada6530791581418cdc681a41b82d751a3afbcccdb5acf34c0444ccb57af6abd", func := "swingle/swinglelaw25.EndsTrue", spec := "endsTrue", unfollowed := true, recurses := true, loops := true, plainKeys := false, apart := false, narrowed := true }
def EndsTrueUptoSaid : Prop := endsTrueUptoRow.holds Tryz.pinned (OpenSpec.upto endsTrueSpec)

/-- 'swinglelaw25.EndsTurns', WHERE WHAT IT READS IS OF BULK AT MOST 1048576: true; the input reads as it did. -/
def endsTurnsUptoRow : OpenClaim := { program := "ytnkamdiiakdkgaagreat", sum := "ada6530791581418cdc681a41b82d751a3afbcccdb5acf34c0444ccb57af6abd", func := "swingle/swinglelaw25.EndsTurns", spec := "endsTurns", unfollowed := true, recurses := true, loops := true, plainKeys := false, apart := false, narrowed := true }
def EndsTurnsUptoSaid : Prop := endsTurnsUptoRow.holds Tryz.pinned (OpenSpec.upto endsTurnsSpec)

/-- 'swinglelaw25.EndsAll', WHERE WHAT IT READS IS OF BULK AT MOST 1048576: true; the input reads as it did. -/
def endsAllUptoRow : OpenClaim := { program := "ytnkamdiiakdkgaagreat", sum := "ada6530791581418cdc681a41b82d751a3afbcccdb5acf34c0444ccb57af6abd", func := "swingle/swinglelaw25.EndsAll", spec := "endsAll", unfollowed := true, recurses := true, loops := true, plainKeys := false, apart := false, narrowed := true }
def EndsAllUptoSaid : Prop := endsAllUptoRow.holds Tryz.pinned (OpenSpec.upto endsAllSpec)

end Rows
end Go.Proofs.YtnkamdiiakdkgaaGreat
