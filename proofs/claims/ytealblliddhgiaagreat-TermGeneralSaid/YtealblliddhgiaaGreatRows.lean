/-
  NARROWER THAN 'FOR EVERY INPUT', by the rows' own cells (each row's printed sentence says how): TermSubsts: loops · TermMatches: loops · TermGeneral: loops · TermSorts: loops · TermOrders: loops · TermCapture: loops · TermVariants: loops · TermChecks: loops.
  DERIVED. THE GIVEN ROWS OF THIS SEAT. 8 by the template 'for every input the law returns true; each argument reads behind the call as it read before'; 0 by the template 'total and deterministic' (their statements: YtealblliddhgiaaGreatTotals.lean).
  GIVEN WITH THE SEED: the statements are not yours to turn. If you find one false, say at which input.
  Laid BY PROGRAM, IN A SANDBOX (cutbox-rows.mjs): the forced cells as the released guide's own fill.sh prints them over the translation 9659771470bca8e1… (all of the seat's roots in one cut). By AI agents, Wed Nov 11 2026. No macro, syntax, notation, axiom, sorry.
-/
import Derived.Test.YtealblliddhgiaaGreatChecked
import GoSem.Claim
import GoSem.ClaimJoined
import GoSem.ClaimMapViews
import Derived.JoinedTies
import Derived.KernelRfl
namespace Go.Proofs.YtealblliddhgiaaGreat
/- THE CELL 'sum', in the pinned program and in every row, IS THE sha256 OF THE DUMP (.gsa) THAT YtealblliddhgiaaGreatProg.lean LOADS. Nothing in Lean hashes anything: it is a label: what it is worth is what the hold of that sum in a sandbox is worth. -/
noncomputable def Tryz.pinned : Pinned := { name := "ytealblliddhgiaagreat", sum := "9659771470bca8e1ee0e9b487b8c40cfffb07b44958004b9b20bfd63f66ee9e4", checked := Tryz.checked }
namespace Rows
def none {H : Type} : Left H := { results := [], args := [] }

/-- 'swinglelaw01.TermSubsts': WHATEVER THE INPUT: true; the input reads as it did. -/
def termSubstsSpec : ChangeSpec := { name := "termSubsts", fn := fun _ => fun
  | [d1, d2, d3] => { results := [.lit (.bool true)], args := [d1, d2, d3] }
  | _ => none }
def termSubstsRow : OpenClaim := { program := "ytealblliddhgiaagreat", sum := "9659771470bca8e1ee0e9b487b8c40cfffb07b44958004b9b20bfd63f66ee9e4", func := "swingle/swinglelaw01.TermSubsts", spec := "termSubsts", unfollowed := true, recurses := true, loops := true, apart := false }
def TermSubstsSaid : Prop := termSubstsRow.holds Tryz.pinned (OpenSpec.ofChange termSubstsSpec)

/-- ITS FALSE NEIGHBOUR: 'it returns false'. Refute it at one input. -/
def termSubstsWrong : ChangeSpec := { name := "termSubsts", fn := fun _ => fun
  | [d1, d2, d3] => { results := [.lit (.bool false)], args := [d1, d2, d3] }
  | _ => none }
def TermSubstsWrongFalsely : Prop := termSubstsRow.holds Tryz.pinned (OpenSpec.ofChange termSubstsWrong)

/-- 'swinglelaw01.TermMatches': WHATEVER THE INPUT: true; the input reads as it did. -/
def termMatchesSpec : ChangeSpec := { name := "termMatches", fn := fun _ => fun
  | [d1, d2, d3] => { results := [.lit (.bool true)], args := [d1, d2, d3] }
  | _ => none }
def termMatchesRow : OpenClaim := { program := "ytealblliddhgiaagreat", sum := "9659771470bca8e1ee0e9b487b8c40cfffb07b44958004b9b20bfd63f66ee9e4", func := "swingle/swinglelaw01.TermMatches", spec := "termMatches", unfollowed := true, recurses := true, loops := true, apart := false }
def TermMatchesSaid : Prop := termMatchesRow.holds Tryz.pinned (OpenSpec.ofChange termMatchesSpec)

/-- ITS FALSE NEIGHBOUR: 'it returns false'. Refute it at one input. -/
def termMatchesWrong : ChangeSpec := { name := "termMatches", fn := fun _ => fun
  | [d1, d2, d3] => { results := [.lit (.bool false)], args := [d1, d2, d3] }
  | _ => none }
def TermMatchesWrongFalsely : Prop := termMatchesRow.holds Tryz.pinned (OpenSpec.ofChange termMatchesWrong)

/-- 'swinglelaw01.TermGeneral': WHATEVER THE INPUT: true; the input reads as it did. -/
def termGeneralSpec : ChangeSpec := { name := "termGeneral", fn := fun _ => fun
  | [d1, d2, d3, d4] => { results := [.lit (.bool true)], args := [d1, d2, d3, d4] }
  | _ => none }
def termGeneralRow : OpenClaim := { program := "ytealblliddhgiaagreat", sum := "9659771470bca8e1ee0e9b487b8c40cfffb07b44958004b9b20bfd63f66ee9e4", func := "swingle/swinglelaw01.TermGeneral", spec := "termGeneral", unfollowed := true, recurses := true, loops := true, apart := false }
def TermGeneralSaid : Prop := termGeneralRow.holds Tryz.pinned (OpenSpec.ofChange termGeneralSpec)

/-- ITS FALSE NEIGHBOUR: 'it returns false'. Refute it at one input. -/
def termGeneralWrong : ChangeSpec := { name := "termGeneral", fn := fun _ => fun
  | [d1, d2, d3, d4] => { results := [.lit (.bool false)], args := [d1, d2, d3, d4] }
  | _ => none }
def TermGeneralWrongFalsely : Prop := termGeneralRow.holds Tryz.pinned (OpenSpec.ofChange termGeneralWrong)

/-- 'swinglelaw01.TermSorts': WHATEVER THE INPUT: true; the input reads as it did. -/
def termSortsSpec : ChangeSpec := { name := "termSorts", fn := fun _ => fun
  | [d1, d2, d3, d4] => { results := [.lit (.bool true)], args := [d1, d2, d3, d4] }
  | _ => none }
def termSortsRow : OpenClaim := { program := "ytealblliddhgiaagreat", sum := "9659771470bca8e1ee0e9b487b8c40cfffb07b44958004b9b20bfd63f66ee9e4", func := "swingle/swinglelaw01.TermSorts", spec := "termSorts", unfollowed := true, recurses := true, loops := true, apart := false }
def TermSortsSaid : Prop := termSortsRow.holds Tryz.pinned (OpenSpec.ofChange termSortsSpec)

/-- ITS FALSE NEIGHBOUR: 'it returns false'. Refute it at one input. -/
def termSortsWrong : ChangeSpec := { name := "termSorts", fn := fun _ => fun
  | [d1, d2, d3, d4] => { results := [.lit (.bool false)], args := [d1, d2, d3, d4] }
  | _ => none }
def TermSortsWrongFalsely : Prop := termSortsRow.holds Tryz.pinned (OpenSpec.ofChange termSortsWrong)

/-- 'swinglelaw01.TermOrders': WHATEVER THE INPUT: true; the input reads as it did. -/
def termOrdersSpec : ChangeSpec := { name := "termOrders", fn := fun _ => fun
  | [d1, d2, d3] => { results := [.lit (.bool true)], args := [d1, d2, d3] }
  | _ => none }
def termOrdersRow : OpenClaim := { program := "ytealblliddhgiaagreat", sum := "9659771470bca8e1ee0e9b487b8c40cfffb07b44958004b9b20bfd63f66ee9e4", func := "swingle/swinglelaw01.TermOrders", spec := "termOrders", unfollowed := true, recurses := true, loops := true, apart := false }
def TermOrdersSaid : Prop := termOrdersRow.holds Tryz.pinned (OpenSpec.ofChange termOrdersSpec)

/-- ITS FALSE NEIGHBOUR: 'it returns false'. Refute it at one input. -/
def termOrdersWrong : ChangeSpec := { name := "termOrders", fn := fun _ => fun
  | [d1, d2, d3] => { results := [.lit (.bool false)], args := [d1, d2, d3] }
  | _ => none }
def TermOrdersWrongFalsely : Prop := termOrdersRow.holds Tryz.pinned (OpenSpec.ofChange termOrdersWrong)

/-- 'swinglelaw01.TermCapture': WHATEVER THE INPUT: true; the input reads as it did. -/
def termCaptureSpec : ChangeSpec := { name := "termCapture", fn := fun _ => fun
  | [d1, d2, d3] => { results := [.lit (.bool true)], args := [d1, d2, d3] }
  | _ => none }
def termCaptureRow : OpenClaim := { program := "ytealblliddhgiaagreat", sum := "9659771470bca8e1ee0e9b487b8c40cfffb07b44958004b9b20bfd63f66ee9e4", func := "swingle/swinglelaw01.TermCapture", spec := "termCapture", unfollowed := true, recurses := true, loops := true, apart := false }
def TermCaptureSaid : Prop := termCaptureRow.holds Tryz.pinned (OpenSpec.ofChange termCaptureSpec)

/-- ITS FALSE NEIGHBOUR: 'it returns false'. Refute it at one input. -/
def termCaptureWrong : ChangeSpec := { name := "termCapture", fn := fun _ => fun
  | [d1, d2, d3] => { results := [.lit (.bool false)], args := [d1, d2, d3] }
  | _ => none }
def TermCaptureWrongFalsely : Prop := termCaptureRow.holds Tryz.pinned (OpenSpec.ofChange termCaptureWrong)

/-- 'swinglelaw01.TermVariants': WHATEVER THE INPUT: true; the input reads as it did. -/
def termVariantsSpec : ChangeSpec := { name := "termVariants", fn := fun _ => fun
  | [d1, d2, d3, d4] => { results := [.lit (.bool true)], args := [d1, d2, d3, d4] }
  | _ => none }
def termVariantsRow : OpenClaim := { program := "ytealblliddhgiaagreat", sum := "9659771470bca8e1ee0e9b487b8c40cfffb07b44958004b9b20bfd63f66ee9e4", func := "swingle/swinglelaw01.TermVariants", spec := "termVariants", unfollowed := true, recurses := true, loops := true, apart := false }
def TermVariantsSaid : Prop := termVariantsRow.holds Tryz.pinned (OpenSpec.ofChange termVariantsSpec)

/-- ITS FALSE NEIGHBOUR: 'it returns false'. Refute it at one input. -/
def termVariantsWrong : ChangeSpec := { name := "termVariants", fn := fun _ => fun
  | [d1, d2, d3, d4] => { results := [.lit (.bool false)], args := [d1, d2, d3, d4] }
  | _ => none }
def TermVariantsWrongFalsely : Prop := termVariantsRow.holds Tryz.pinned (OpenSpec.ofChange termVariantsWrong)

/-- 'swinglelaw01.TermChecks': WHATEVER THE INPUT: true; the input reads as it did. -/
def termChecksSpec : ChangeSpec := { name := "termChecks", fn := fun _ => fun
  | [d1, d2] => { results := [.lit (.bool true)], args := [d1, d2] }
  | _ => none }
def termChecksRow : OpenClaim := { program := "ytealblliddhgiaagreat", sum := "9659771470bca8e1ee0e9b487b8c40cfffb07b44958004b9b20bfd63f66ee9e4", func := "swingle/swinglelaw01.TermChecks", spec := "termChecks", unfollowed := true, recurses := true, loops := true, apart := false }
def TermChecksSaid : Prop := termChecksRow.holds Tryz.pinned (OpenSpec.ofChange termChecksSpec)

/-- ITS FALSE NEIGHBOUR: 'it returns false'. Refute it at one input. -/
def termChecksWrong : ChangeSpec := { name := "termChecks", fn := fun _ => fun
  | [d1, d2] => { results := [.lit (.bool false)], args := [d1, d2] }
  | _ => none }
def TermChecksWrongFalsely : Prop := termChecksRow.holds Tryz.pinned (OpenSpec.ofChange termChecksWrong)

/- THE SECOND FORM. 'bulk': how many values and letters a reading holds, each counted each time it is reached (what is shared counts as often as it is met; a slice's spare places count too). A statement '..UptoSaid' is the law's where the arguments, and the package variables that the reading takes, are together of bulk at most 1048576: NARROWER than '..Said'. Prove '..Said' where nothing that the law and all that it calls make is longer than what came in: it says more and counts as full. Else prove '..UptoSaid'. A law counts once. -/
mutual
def uptoBulk {H : Type} : DataW H → Nat
  | .lit (.string bytes) => bytes.length + 1
  | .lit _ => 1
  | .nil => 1
  | .ptr d => uptoBulk d + 1
  | .slice elems spare => uptoBulkAll elems + uptoBulkAll spare + 1
  | .agg parts => uptoBulkAll parts + 1
  | .iface _ d => uptoBulk d + 1
  | .map entries => uptoBulkEntries entries + 1
  | .held _ => 1
def uptoBulkAll {H : Type} : List (DataW H) → Nat
  | [] => 0
  | d :: r => uptoBulk d + uptoBulkAll r
def uptoBulkEntries {H : Type} : List (Lit × DataW H) → Nat
  | [] => 0
  | x :: r => uptoBulkEntry x + uptoBulkEntries r
def uptoBulkEntry {H : Type} : Lit × DataW H → Nat
  | (.string bytes, d) => bytes.length + uptoBulk d + 1
  | (_, d) => uptoBulk d + 1
 end
def uptoSmall : (H : Type) → List (DataW H) → Bool := fun _ ds => decide (uptoBulkAll ds ≤ 1048576)
def OpenSpec.upto (s : _root_.Go.ChangeSpec) : _root_.Go.OpenSpec := { _root_.Go.OpenSpec.ofChange s with cond := some uptoSmall }

/-- 'swinglelaw01.TermSubsts', WHERE WHAT IT READS IS OF BULK AT MOST 1048576: true; the input reads as it did. -/
def termSubstsUptoRow : OpenClaim := { program := "ytealblliddhgiaagreat", sum := "9659771470bca8e1ee0e9b487b8c40cfffb07b44958004b9b20bfd63f66ee9e4", func := "swingle/swinglelaw01.TermSubsts", spec := "termSubsts", unfollowed := true, recurses := true, loops := true, apart := false, narrowed := true }
def TermSubstsUptoSaid : Prop := termSubstsUptoRow.holds Tryz.pinned (OpenSpec.upto termSubstsSpec)

/-- 'swinglelaw01.TermMatches', WHERE WHAT IT READS IS OF BULK AT MOST 1048576: true; the input reads as it did. -/
def termMatchesUptoRow : OpenClaim := { program := "ytealblliddhgiaagreat", sum := "9659771470bca8e1ee0e9b487b8c40cfffb07b44958004b9b20bfd63f66ee9e4", func := "swingle/swinglelaw01.TermMatches", spec := "termMatches", unfollowed := true, recurses := true, loops := true, apart := false, narrowed := true }
def TermMatchesUptoSaid : Prop := termMatchesUptoRow.holds Tryz.pinned (OpenSpec.upto termMatchesSpec)

/-- 'swinglelaw01.TermGeneral', WHERE WHAT IT READS IS OF BULK AT MOST 1048576: true; the input reads as it did. -/
def termGeneralUptoRow : OpenClaim := { program := "ytealblliddhgiaagreat", sum := "9659771470bca8e1ee0e9b487b8c40cfffb07b44958004b9b20bfd63f66ee9e4", func := "swingle/swinglelaw01.TermGeneral", spec := "termGeneral", unfollowed := true, recurses := true, loops := true, apart := false, narrowed := true }
def TermGeneralUptoSaid : Prop := termGeneralUptoRow.holds Tryz.pinned (OpenSpec.upto termGeneralSpec)

/-- 'swinglelaw01.TermSorts', WHERE WHAT IT READS IS OF BULK AT MOST 1048576: true; the input reads as it did. -/
def termSortsUptoRow : OpenClaim := { program := "ytealblliddhgiaagreat", sum := "9659771470bca8e1ee0e9b487b8c40cfffb07b44958004b9b20bfd63f66ee9e4", func := "swingle/swinglelaw01.TermSorts", spec := "termSorts", unfollowed := true, recurses := true, loops := true, apart := false, narrowed := true }
def TermSortsUptoSaid : Prop := termSortsUptoRow.holds Tryz.pinned (OpenSpec.upto termSortsSpec)

/-- 'swinglelaw01.TermOrders', WHERE WHAT IT READS IS OF BULK AT MOST 1048576: true; the input reads as it did. -/
def termOrdersUptoRow : OpenClaim := { program := "ytealblliddhgiaagreat", sum := "9659771470bca8e1ee0e9b487b8c40cfffb07b44958004b9b20bfd63f66ee9e4", func := "swingle/swinglelaw01.TermOrders", spec := "termOrders", unfollowed := true, recurses := true, loops := true, apart := false, narrowed := true }
def TermOrdersUptoSaid : Prop := termOrdersUptoRow.holds Tryz.pinned (OpenSpec.upto termOrdersSpec)

/-- 'swinglelaw01.TermCapture', WHERE WHAT IT READS IS OF BULK AT MOST 1048576: true; the input reads as it did. -/
def termCaptureUptoRow : OpenClaim := { program := "ytealblliddhgiaagreat", sum := "9659771470bca8e1ee0e9b487b8c40cfffb07b44958004b9b20bfd63f66ee9e4", func := "swingle/swinglelaw01.TermCapture", spec := "termCapture", unfollowed := true, recurses := true, loops := true, apart := false, narrowed := true }
def TermCaptureUptoSaid : Prop := termCaptureUptoRow.holds Tryz.pinned (OpenSpec.upto termCaptureSpec)

/-- 'swinglelaw01.TermVariants', WHERE WHAT IT READS IS OF BULK AT MOST 1048576: true; the input reads as it did. -/
def termVariantsUptoRow : OpenClaim := { program := "ytealblliddhgiaagreat", sum := "9659771470bca8e1ee0e9b487b8c40cfffb07b44958004b9b20bfd63f66ee9e4", func := "swingle/swinglelaw01.TermVariants", spec := "termVariants", unfollowed := true, recurses := true, loops := true, apart := false, narrowed := true }
def TermVariantsUptoSaid : Prop := termVariantsUptoRow.holds Tryz.pinned (OpenSpec.upto termVariantsSpec)

/-- 'swinglelaw01.TermChecks', WHERE WHAT IT READS IS OF BULK AT MOST 1048576: true; the input reads as it did. -/
def termChecksUptoRow : OpenClaim := { program := "ytealblliddhgiaagreat", sum := "9659771470bca8e1ee0e9b487b8c40cfffb07b44958004b9b20bfd63f66ee9e4", func := "swingle/swinglelaw01.TermChecks", spec := "termChecks", unfollowed := true, recurses := true, loops := true, apart := false, narrowed := true }
def TermChecksUptoSaid : Prop := termChecksUptoRow.holds Tryz.pinned (OpenSpec.upto termChecksSpec)

end Rows
end Go.Proofs.YtealblliddhgiaaGreat
