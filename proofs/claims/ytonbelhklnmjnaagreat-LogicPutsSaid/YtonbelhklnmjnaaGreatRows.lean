/-
  NARROWER THAN 'FOR EVERY INPUT', by the rows' own cells (each row's printed sentence says how): LogicAccepts: loops · LogicGrows: loops · LogicAltered: loops · LogicPuts: loops · LogicLowers: loops.
  DERIVED. THE GIVEN ROWS OF THIS SEAT. 5 by the template 'for every input the law returns true; each argument reads behind the call as it read before'; 0 by the template 'total and deterministic' (their statements: YtonbelhklnmjnaaGreatTotals.lean).
  GIVEN WITH THE SEED: the statements are not yours to turn. If you find one false, say at which input.
  Laid BY PROGRAM, IN A SANDBOX (cutbox-rows.mjs): the forced cells as the released guide's own fill.sh prints them over the translation 38e3357d47aa7096… (all of the seat's roots in one cut). By AI agents, Wed Nov 11 2026. No macro, syntax, notation, axiom, sorry.
-/
import Derived.Test.YtonbelhklnmjnaaGreatChecked
import GoSem.Claim
import GoSem.ClaimJoined
import GoSem.ClaimMapViews
import Derived.JoinedTies
import Derived.KernelRfl
namespace Go.Proofs.YtonbelhklnmjnaaGreat
/- THE CELL 'sum', in the pinned program and in every row, IS THE sha256 OF THE DUMP (.gsa) THAT YtonbelhklnmjnaaGreatProg.lean LOADS. Nothing in Lean hashes anything: it is a label: what it is worth is what the hold of that sum in a sandbox is worth. -/
noncomputable def Tryz.pinned : Pinned := { name := "ytonbelhklnmjnaagreat", sum := "38e3357d47aa709683a6d2774062c68a4ead8ca86d5b404e845f0d2c90932b12", checked := Tryz.checked }
namespace Rows
def none {H : Type} : Left H := { results := [], args := [] }

/-- 'swinglelaw06.LogicAccepts': WHATEVER THE INPUT: true; the input reads as it did. -/
def logicAcceptsSpec : ChangeSpec := { name := "logicAccepts", fn := fun _ => fun
  | [d1, d2, d3, d4] => { results := [.lit (.bool true)], args := [d1, d2, d3, d4] }
  | _ => none }
def logicAcceptsRow : OpenClaim := { program := "ytonbelhklnmjnaagreat", sum := "38e3357d47aa709683a6d2774062c68a4ead8ca86d5b404e845f0d2c90932b12", func := "swingle/swinglelaw06.LogicAccepts", spec := "logicAccepts", unfollowed := true, recurses := true, loops := true, apart := false }
def LogicAcceptsSaid : Prop := logicAcceptsRow.holds Tryz.pinned (OpenSpec.ofChange logicAcceptsSpec)

/-- ITS FALSE NEIGHBOUR: 'it returns false'. Refute it at one input. -/
def logicAcceptsWrong : ChangeSpec := { name := "logicAccepts", fn := fun _ => fun
  | [d1, d2, d3, d4] => { results := [.lit (.bool false)], args := [d1, d2, d3, d4] }
  | _ => none }
def LogicAcceptsWrongFalsely : Prop := logicAcceptsRow.holds Tryz.pinned (OpenSpec.ofChange logicAcceptsWrong)

/-- 'swinglelaw06.LogicGrows': WHATEVER THE INPUT: true; the input reads as it did. -/
def logicGrowsSpec : ChangeSpec := { name := "logicGrows", fn := fun _ => fun
  | [d1, d2, d3, d4, d5] => { results := [.lit (.bool true)], args := [d1, d2, d3, d4, d5] }
  | _ => none }
def logicGrowsRow : OpenClaim := { program := "ytonbelhklnmjnaagreat", sum := "38e3357d47aa709683a6d2774062c68a4ead8ca86d5b404e845f0d2c90932b12", func := "swingle/swinglelaw06.LogicGrows", spec := "logicGrows", unfollowed := true, recurses := true, loops := true, apart := false }
def LogicGrowsSaid : Prop := logicGrowsRow.holds Tryz.pinned (OpenSpec.ofChange logicGrowsSpec)

/-- ITS FALSE NEIGHBOUR: 'it returns false'. Refute it at one input. -/
def logicGrowsWrong : ChangeSpec := { name := "logicGrows", fn := fun _ => fun
  | [d1, d2, d3, d4, d5] => { results := [.lit (.bool false)], args := [d1, d2, d3, d4, d5] }
  | _ => none }
def LogicGrowsWrongFalsely : Prop := logicGrowsRow.holds Tryz.pinned (OpenSpec.ofChange logicGrowsWrong)

/-- 'swinglelaw06.LogicAltered': WHATEVER THE INPUT: true; the input reads as it did. -/
def logicAlteredSpec : ChangeSpec := { name := "logicAltered", fn := fun _ => fun
  | [d1, d2, d3, d4, d5, d6] => { results := [.lit (.bool true)], args := [d1, d2, d3, d4, d5, d6] }
  | _ => none }
def logicAlteredRow : OpenClaim := { program := "ytonbelhklnmjnaagreat", sum := "38e3357d47aa709683a6d2774062c68a4ead8ca86d5b404e845f0d2c90932b12", func := "swingle/swinglelaw06.LogicAltered", spec := "logicAltered", unfollowed := true, recurses := true, loops := true, apart := false }
def LogicAlteredSaid : Prop := logicAlteredRow.holds Tryz.pinned (OpenSpec.ofChange logicAlteredSpec)

/-- ITS FALSE NEIGHBOUR: 'it returns false'. Refute it at one input. -/
def logicAlteredWrong : ChangeSpec := { name := "logicAltered", fn := fun _ => fun
  | [d1, d2, d3, d4, d5, d6] => { results := [.lit (.bool false)], args := [d1, d2, d3, d4, d5, d6] }
  | _ => none }
def LogicAlteredWrongFalsely : Prop := logicAlteredRow.holds Tryz.pinned (OpenSpec.ofChange logicAlteredWrong)

/-- 'swinglelaw06.LogicPuts': WHATEVER THE INPUT: true; the input reads as it did. -/
def logicPutsSpec : ChangeSpec := { name := "logicPuts", fn := fun _ => fun
  | [d1, d2, d3, d4, d5] => { results := [.lit (.bool true)], args := [d1, d2, d3, d4, d5] }
  | _ => none }
def logicPutsRow : OpenClaim := { program := "ytonbelhklnmjnaagreat", sum := "38e3357d47aa709683a6d2774062c68a4ead8ca86d5b404e845f0d2c90932b12", func := "swingle/swinglelaw06.LogicPuts", spec := "logicPuts", unfollowed := true, recurses := true, loops := true, apart := false }
def LogicPutsSaid : Prop := logicPutsRow.holds Tryz.pinned (OpenSpec.ofChange logicPutsSpec)

/-- ITS FALSE NEIGHBOUR: 'it returns false'. Refute it at one input. -/
def logicPutsWrong : ChangeSpec := { name := "logicPuts", fn := fun _ => fun
  | [d1, d2, d3, d4, d5] => { results := [.lit (.bool false)], args := [d1, d2, d3, d4, d5] }
  | _ => none }
def LogicPutsWrongFalsely : Prop := logicPutsRow.holds Tryz.pinned (OpenSpec.ofChange logicPutsWrong)

/-- 'swinglelaw06.LogicLowers': WHATEVER THE INPUT: true; the input reads as it did. -/
def logicLowersSpec : ChangeSpec := { name := "logicLowers", fn := fun _ => fun
  | [d1, d2, d3, d4, d5] => { results := [.lit (.bool true)], args := [d1, d2, d3, d4, d5] }
  | _ => none }
def logicLowersRow : OpenClaim := { program := "ytonbelhklnmjnaagreat", sum := "38e3357d47aa709683a6d2774062c68a4ead8ca86d5b404e845f0d2c90932b12", func := "swingle/swinglelaw06.LogicLowers", spec := "logicLowers", unfollowed := true, recurses := true, loops := true, apart := false }
def LogicLowersSaid : Prop := logicLowersRow.holds Tryz.pinned (OpenSpec.ofChange logicLowersSpec)

/-- ITS FALSE NEIGHBOUR: 'it returns false'. Refute it at one input. -/
def logicLowersWrong : ChangeSpec := { name := "logicLowers", fn := fun _ => fun
  | [d1, d2, d3, d4, d5] => { results := [.lit (.bool false)], args := [d1, d2, d3, d4, d5] }
  | _ => none }
def LogicLowersWrongFalsely : Prop := logicLowersRow.holds Tryz.pinned (OpenSpec.ofChange logicLowersWrong)

/- THE SECOND FORM. 'bulk': how many values and letters a reading holds, each counted each time it is reached (what is shared counts as often as it is met; a slice's spare places count too). A statement '..UptoSaid' is the law's where the arguments, and the package variables that the reading takes, are together of bulk at most 1048576: NARROWER than '..Said'. Prove '..Said' where nothing that the law and all that it calls make is longer than what came in: it says more and counts as full. Else prove '..UptoSaid'. A law counts once. -/
mutual
def uptoBulk {H : Type} : DataW H → Nat
  | .lit (.string bytes) => bytes.length + 1
  | .lit _ => 1
  | .nil => 1
  | .ptr d => uptoBulk d + 1
  | .slice elems spare => uptoBulkAll elems + uptoBulkAll spare + 1
  | .agg parts => uptoBulkAll parts + 1
  | .iface _ d => uptoBulk d + 1
  | .map entries => uptoBulkEntries entries + 1
  | .held _ => 1
def uptoBulkAll {H : Type} : List (DataW H) → Nat
  | [] => 0
  | d :: r => uptoBulk d + uptoBulkAll r
def uptoBulkEntries {H : Type} : List (Lit × DataW H) → Nat
  | [] => 0
  | x :: r => uptoBulkEntry x + uptoBulkEntries r
def uptoBulkEntry {H : Type} : Lit × DataW H → Nat
  | (.string bytes, d) => bytes.length + uptoBulk d + 1
  | (_, d) => uptoBulk d + 1
 end
def uptoSmall : (H : Type) → List (DataW H) → Bool := fun _ ds => decide (uptoBulkAll ds ≤ 1048576)
def OpenSpec.upto (s : _root_.Go.ChangeSpec) : _root_.Go.OpenSpec := { _root_.Go.OpenSpec.ofChange s with cond := some uptoSmall }

/-- 'swinglelaw06.LogicAccepts', WHERE WHAT IT READS IS OF BULK AT MOST 1048576: true; the input reads as it did. -/
def logicAcceptsUptoRow : OpenClaim := { program := "ytonbelhklnmjnaagreat", sum := "38e3357d47aa709683a6d2774062c68a4ead8ca86d5b404e845f0d2c90932b12", func := "swingle/swinglelaw06.LogicAccepts", spec := "logicAccepts", unfollowed := true, recurses := true, loops := true, apart := false, narrowed := true }
def LogicAcceptsUptoSaid : Prop := logicAcceptsUptoRow.holds Tryz.pinned (OpenSpec.upto logicAcceptsSpec)

/-- 'swinglelaw06.LogicGrows', WHERE WHAT IT READS IS OF BULK AT MOST 1048576: true; the input reads as it did. -/
def logicGrowsUptoRow : OpenClaim := { program := "ytonbelhklnmjnaagreat", sum := "38e3357d47aa709683a6d2774062c68a4ead8ca86d5b404e845f0d2c90932b12", func := "swingle/swinglelaw06.LogicGrows", spec := "logicGrows", unfollowed := true, recurses := true, loops := true, apart := false, narrowed := true }
def LogicGrowsUptoSaid : Prop := logicGrowsUptoRow.holds Tryz.pinned (OpenSpec.upto logicGrowsSpec)

/-- 'swinglelaw06.LogicAltered', WHERE WHAT IT READS IS OF BULK AT MOST 1048576: true; the input reads as it did. -/
def logicAlteredUptoRow : OpenClaim := { program := "ytonbelhklnmjnaagreat", sum := "38e3357d47aa709683a6d2774062c68a4ead8ca86d5b404e845f0d2c90932b12", func := "swingle/swinglelaw06.LogicAltered", spec := "logicAltered", unfollowed := true, recurses := true, loops := true, apart := false, narrowed := true }
def LogicAlteredUptoSaid : Prop := logicAlteredUptoRow.holds Tryz.pinned (OpenSpec.upto logicAlteredSpec)

/-- 'swinglelaw06.LogicPuts', WHERE WHAT IT READS IS OF BULK AT MOST 1048576: true; the input reads as it did. -/
def logicPutsUptoRow : OpenClaim := { program := "ytonbelhklnmjnaagreat", sum := "38e3357d47aa709683a6d2774062c68a4ead8ca86d5b404e845f0d2c90932b12", func := "swingle/swinglelaw06.LogicPuts", spec := "logicPuts", unfollowed := true, recurses := true, loops := true, apart := false, narrowed := true }
def LogicPutsUptoSaid : Prop := logicPutsUptoRow.holds Tryz.pinned (OpenSpec.upto logicPutsSpec)

/-- 'swinglelaw06.LogicLowers', WHERE WHAT IT READS IS OF BULK AT MOST 1048576: true; the input reads as it did. -/
def logicLowersUptoRow : OpenClaim := { program := "ytonbelhklnmjnaagreat", sum := "38e3357d47aa709683a6d2774062c68a4ead8ca86d5b404e845f0d2c90932b12", func := "swingle/swinglelaw06.LogicLowers", spec := "logicLowers", unfollowed := true, recurses := true, loops := true, apart := false, narrowed := true }
def LogicLowersUptoSaid : Prop := logicLowersUptoRow.holds Tryz.pinned (OpenSpec.upto logicLowersSpec)

end Rows
end Go.Proofs.YtonbelhklnmjnaaGreat
