/-
  NARROWER THAN 'FOR EVERY INPUT', by the rows' own cells (each row's printed sentence says how): LogicValues: loops · LogicOrders: loops.
  DERIVED. THE GIVEN ROWS OF THIS SEAT. 3 by the template 'for every input the law returns true; each argument reads behind the call as it read before'; 0 by the template 'total and deterministic' (their statements: YtpkobkdgcanmjaaGreatTotals.lean).
  GIVEN WITH THE SEED: the statements are not yours to turn. If you find one false, say at which input.
  Laid BY PROGRAM, IN A SANDBOX (cutbox-rows.mjs): the forced cells as the released guide's own fill.sh prints them over the translation d790bcea4a0b2f5d… (all of the seat's roots in one cut). By AI agents, Wed Nov 11 2026. No macro, syntax, notation, axiom, sorry.
-/
import Derived.Test.YtpkobkdgcanmjaaGreatChecked
import GoSem.Claim
import GoSem.ClaimJoined
import GoSem.ClaimMapViews
import Derived.JoinedTies
import Derived.KernelRfl
namespace Go.Proofs.YtpkobkdgcanmjaaGreat
/- THE CELL 'sum', in the pinned program and in every row, IS THE sha256 OF THE DUMP (.gsa) THAT YtpkobkdgcanmjaaGreatProg.lean LOADS. Nothing in Lean hashes anything: it is a label: what it is worth is what the hold of that sum in a sandbox is worth. -/
noncomputable def Tryz.pinned : Pinned := { name := "ytpkobkdgcanmjaagreat", sum := "d790bcea4a0b2f5d8db04dd786c5ce49dc4e8064382fa4bf57add03657d7fd46", checked := Tryz.checked }
namespace Rows
def none {H : Type} : Left H := { results := [], args := [] }

/-- 'swinglelaw06.LogicValues': WHATEVER THE INPUT: true; the input reads as it did. -/
def logicValuesSpec : ChangeSpec := { name := "logicValues", fn := fun _ => fun
  | [d1, d2, d3] => { results := [.lit (.bool true)], args := [d1, d2, d3] }
  | _ => none }
def logicValuesRow : OpenClaim := { program := "ytpkobkdgcanmjaagreat", sum := "d790bcea4a0b2f5d8db04dd786c5ce49dc4e8064382fa4bf57add03657d7fd46", func := "swingle/swinglelaw06.LogicValues", spec := "logicValues", unfollowed := true, recurses := true, loops := true, apart := false }
def LogicValuesSaid : Prop := logicValuesRow.holds Tryz.pinned (OpenSpec.ofChange logicValuesSpec)

/-- ITS FALSE NEIGHBOUR: 'it returns false'. Refute it at one input. -/
def logicValuesWrong : ChangeSpec := { name := "logicValues", fn := fun _ => fun
  | [d1, d2, d3] => { results := [.lit (.bool false)], args := [d1, d2, d3] }
  | _ => none }
def LogicValuesWrongFalsely : Prop := logicValuesRow.holds Tryz.pinned (OpenSpec.ofChange logicValuesWrong)

/-- 'swinglelaw06.LogicOrders': WHATEVER THE INPUT: true; the input reads as it did. -/
def logicOrdersSpec : ChangeSpec := { name := "logicOrders", fn := fun _ => fun
  | [d1, d2, d3, d4] => { results := [.lit (.bool true)], args := [d1, d2, d3, d4] }
  | _ => none }
def logicOrdersRow : OpenClaim := { program := "ytpkobkdgcanmjaagreat", sum := "d790bcea4a0b2f5d8db04dd786c5ce49dc4e8064382fa4bf57add03657d7fd46", func := "swingle/swinglelaw06.LogicOrders", spec := "logicOrders", unfollowed := true, recurses := true, loops := true, apart := false }
def LogicOrdersSaid : Prop := logicOrdersRow.holds Tryz.pinned (OpenSpec.ofChange logicOrdersSpec)

/-- ITS FALSE NEIGHBOUR: 'it returns false'. Refute it at one input. -/
def logicOrdersWrong : ChangeSpec := { name := "logicOrders", fn := fun _ => fun
  | [d1, d2, d3, d4] => { results := [.lit (.bool false)], args := [d1, d2, d3, d4] }
  | _ => none }
def LogicOrdersWrongFalsely : Prop := logicOrdersRow.holds Tryz.pinned (OpenSpec.ofChange logicOrdersWrong)

/-- 'swinglelaw06.LogicKnown': WHATEVER THE INPUT: true; the input reads as it did. -/
def logicKnownSpec : ChangeSpec := { name := "logicKnown", fn := fun _ => fun
  | [] => { results := [.lit (.bool true)], args := [] }
  | _ => none }
def logicKnownRow : OpenClaim := { program := "ytpkobkdgcanmjaagreat", sum := "d790bcea4a0b2f5d8db04dd786c5ce49dc4e8064382fa4bf57add03657d7fd46", func := "swingle/swinglelaw06.LogicKnown", spec := "logicKnown", unfollowed := true, recurses := true, apart := false }
def LogicKnownSaid : Prop := logicKnownRow.holds Tryz.pinned (OpenSpec.ofChange logicKnownSpec)

/-- ITS FALSE NEIGHBOUR: 'it returns false'. Refute it at one input. -/
def logicKnownWrong : ChangeSpec := { name := "logicKnown", fn := fun _ => fun
  | [] => { results := [.lit (.bool false)], args := [] }
  | _ => none }
def LogicKnownWrongFalsely : Prop := logicKnownRow.holds Tryz.pinned (OpenSpec.ofChange logicKnownWrong)

/- THE SECOND FORM. 'bulk': how many values and letters a reading holds, each counted each time it is reached (what is shared counts as often as it is met; a slice's spare places count too). A statement '..UptoSaid' is the law's where the arguments, and the package variables that the reading takes, are together of bulk at most 1048576: NARROWER than '..Said'. Prove '..Said' where nothing that the law and all that it calls make is longer than what came in: it says more and counts as full. Else prove '..UptoSaid'. A law counts once. -/
mutual
def uptoBulk {H : Type} : DataW H → Nat
  | .lit (.string bytes) => bytes.length + 1
  | .lit _ => 1
  | .nil => 1
  | .ptr d => uptoBulk d + 1
  | .slice elems spare => uptoBulkAll elems + uptoBulkAll spare + 1
  | .agg parts => uptoBulkAll parts + 1
  | .iface _ d => uptoBulk d + 1
  | .map entries => uptoBulkEntries entries + 1
  | .held _ => 1
def uptoBulkAll {H : Type} : List (DataW H) → Nat
  | [] => 0
  | d :: r => uptoBulk d + uptoBulkAll r
def uptoBulkEntries {H : Type} : List (Lit × DataW H) → Nat
  | [] => 0
  | x :: r => uptoBulkEntry x + uptoBulkEntries r
def uptoBulkEntry {H : Type} : Lit × DataW H → Nat
  | (.string bytes, d) => bytes.length + uptoBulk d + 1
  | (_, d) => uptoBulk d + 1
 end
def uptoSmall : (H : Type) → List (DataW H) → Bool := fun _ ds => decide (uptoBulkAll ds ≤ 1048576)
def OpenSpec.upto (s : _root_.Go.ChangeSpec) : _root_.Go.OpenSpec := { _root_.Go.OpenSpec.ofChange s with cond := some uptoSmall }

/-- 'swinglelaw06.LogicValues', WHERE WHAT IT READS IS OF BULK AT MOST 1048576: true; the input reads as it did. -/
def logicValuesUptoRow : OpenClaim := { program := "ytpkobkdgcanmjaagreat", sum := "d790bcea4a0b2f5d8db04dd786c5ce49dc4e8064382fa4bf57add03657d7fd46", func := "swingle/swinglelaw06.LogicValues", spec := "logicValues", unfollowed := true, recurses := true, loops := true, apart := false, narrowed := true }
def LogicValuesUptoSaid : Prop := logicValuesUptoRow.holds Tryz.pinned (OpenSpec.upto logicValuesSpec)

/-- 'swinglelaw06.LogicOrders', WHERE WHAT IT READS IS OF BULK AT MOST 1048576: true; the input reads as it did. -/
def logicOrdersUptoRow : OpenClaim := { program := "ytpkobkdgcanmjaagreat", sum := "d790bcea4a0b2f5d8db04dd786c5ce49dc4e8064382fa4bf57add03657d7fd46", func := "swingle/swinglelaw06.LogicOrders", spec := "logicOrders", unfollowed := true, recurses := true, loops := true, apart := false, narrowed := true }
def LogicOrdersUptoSaid : Prop := logicOrdersUptoRow.holds Tryz.pinned (OpenSpec.upto logicOrdersSpec)

/-- 'swinglelaw06.LogicKnown', WHERE WHAT IT READS IS OF BULK AT MOST 1048576: true; the input reads as it did. -/
def logicKnownUptoRow : OpenClaim := { program := "ytpkobkdgcanmjaagreat", sum := "d790bcea4a0b2f5d8db04dd786c5ce49dc4e8064382fa4bf57add03657d7fd46", func := "swingle/swinglelaw06.LogicKnown", spec := "logicKnown", unfollowed := true, recurses := true, apart := false, narrowed := true }
def LogicKnownUptoSaid : Prop := logicKnownUptoRow.holds Tryz.pinned (OpenSpec.upto logicKnownSpec)

end Rows
end Go.Proofs.YtpkobkdgcanmjaaGreat
