/-
  NARROWER THAN 'FOR EVERY INPUT', by the rows' own cells (each row's printed sentence says how): EqualTells: loops · EqualSolves: loops · EqualSound: loops · EqualAnswers: loops · EqualChecks: loops · EqualAsks: loops · EqualBacks: loops · EqualUndoes: loops · EqualForms: loops.
  DERIVED. THE GIVEN ROWS OF THIS SEAT. 10 by the template 'for every input the law returns true; each argument reads behind the call as it read before'; 0 by the template 'total and deterministic' (their statements: YtlhemmpklhhgoaaGreatTotals.lean).
  GIVEN WITH THE SEED: the statements are not yours to turn. If you find one false, say at which input.
  Laid BY PROGRAM, IN A SANDBOX (cutbox-rows.mjs): the forced cells as the released guide's own fill.sh prints them over the translation 6605bd203c00633b… (all of the seat's roots in one cut). By AI agents, Wed Nov 11 2026. No macro, syntax, notation, axiom, sorry.
-/
import Derived.Test.YtlhemmpklhhgoaaGreatChecked
import GoSem.Claim
import GoSem.ClaimJoined
import GoSem.ClaimMapViews
import Derived.JoinedTies
import Derived.KernelRfl
namespace Go.Proofs.YtlhemmpklhhgoaaGreat
/- THE CELL 'sum', in the pinned program and in every row, IS THE sha256 OF THE DUMP (.gsa) THAT YtlhemmpklhhgoaaGreatProg.lean LOADS. Nothing in Lean hashes anything: it is a label: what it is worth is what the hold of that sum in a sandbox is worth. -/
noncomputable def Tryz.pinned : Pinned := { name := "ytlhemmpklhhgoaagreat", sum := "6605bd203c00633bd1b9a247d3aff451e9116107f641be00a116d3f5cd7473d3", checked := Tryz.checked }
namespace Rows
def none {H : Type} : Left H := { results := [], args := [] }

/-- 'swinglelaw13.EqualTells': WHATEVER THE INPUT: true; the input reads as it did. -/
def equalTellsSpec : ChangeSpec := { name := "equalTells", fn := fun _ => fun
  | [d1, d2, d3] => { results := [.lit (.bool true)], args := [d1, d2, d3] }
  | _ => none }
def equalTellsRow : OpenClaim := { program := "ytlhemmpklhhgoaagreat", sum := "6605bd203c00633bd1b9a247d3aff451e9116107f641be00a116d3f5cd7473d3", func := "swingle/swinglelaw13.EqualTells", spec := "equalTells", inPlace := ["maps.clone"], unfollowed := true, recurses := true, loops := true, apart := false }
def EqualTellsSaid : Prop := equalTellsRow.holds Tryz.pinned (OpenSpec.ofChange equalTellsSpec)

/-- ITS FALSE NEIGHBOUR: 'it returns false'. Refute it at one input. -/
def equalTellsWrong : ChangeSpec := { name := "equalTells", fn := fun _ => fun
  | [d1, d2, d3] => { results := [.lit (.bool false)], args := [d1, d2, d3] }
  | _ => none }
def EqualTellsWrongFalsely : Prop := equalTellsRow.holds Tryz.pinned (OpenSpec.ofChange equalTellsWrong)

/-- 'swinglelaw13.EqualSolves': WHATEVER THE INPUT: true; the input reads as it did. -/
def equalSolvesSpec : ChangeSpec := { name := "equalSolves", fn := fun _ => fun
  | [d] => { results := [.lit (.bool true)], args := [d] }
  | _ => none }
def equalSolvesRow : OpenClaim := { program := "ytlhemmpklhhgoaagreat", sum := "6605bd203c00633bd1b9a247d3aff451e9116107f641be00a116d3f5cd7473d3", func := "swingle/swinglelaw13.EqualSolves", spec := "equalSolves", inPlace := ["maps.clone"], unfollowed := true, recurses := true, loops := true, apart := false }
def EqualSolvesSaid : Prop := equalSolvesRow.holds Tryz.pinned (OpenSpec.ofChange equalSolvesSpec)

/-- ITS FALSE NEIGHBOUR: 'it returns false'. Refute it at one input. -/
def equalSolvesWrong : ChangeSpec := { name := "equalSolves", fn := fun _ => fun
  | [d] => { results := [.lit (.bool false)], args := [d] }
  | _ => none }
def EqualSolvesWrongFalsely : Prop := equalSolvesRow.holds Tryz.pinned (OpenSpec.ofChange equalSolvesWrong)

/-- 'swinglelaw13.EqualSound': WHATEVER THE INPUT: true; the input reads as it did. -/
def equalSoundSpec : ChangeSpec := { name := "equalSound", fn := fun _ => fun
  | [d1, d2, d3] => { results := [.lit (.bool true)], args := [d1, d2, d3] }
  | _ => none }
def equalSoundRow : OpenClaim := { program := "ytlhemmpklhhgoaagreat", sum := "6605bd203c00633bd1b9a247d3aff451e9116107f641be00a116d3f5cd7473d3", func := "swingle/swinglelaw13.EqualSound", spec := "equalSound", inPlace := ["maps.clone"], unfollowed := true, recurses := true, loops := true, apart := false }
def EqualSoundSaid : Prop := equalSoundRow.holds Tryz.pinned (OpenSpec.ofChange equalSoundSpec)

/-- ITS FALSE NEIGHBOUR: 'it returns false'. Refute it at one input. -/
def equalSoundWrong : ChangeSpec := { name := "equalSound", fn := fun _ => fun
  | [d1, d2, d3] => { results := [.lit (.bool false)], args := [d1, d2, d3] }
  | _ => none }
def EqualSoundWrongFalsely : Prop := equalSoundRow.holds Tryz.pinned (OpenSpec.ofChange equalSoundWrong)

/-- 'swinglelaw13.EqualAnswers': WHATEVER THE INPUT: true; the input reads as it did. -/
def equalAnswersSpec : ChangeSpec := { name := "equalAnswers", fn := fun _ => fun
  | [d1, d2, d3, d4, d5] => { results := [.lit (.bool true)], args := [d1, d2, d3, d4, d5] }
  | _ => none }
def equalAnswersRow : OpenClaim := { program := "ytlhemmpklhhgoaagreat", sum := "6605bd203c00633bd1b9a247d3aff451e9116107f641be00a116d3f5cd7473d3", func := "swingle/swinglelaw13.EqualAnswers", spec := "equalAnswers", inPlace := ["maps.clone"], unfollowed := true, recurses := true, loops := true, apart := false }
def EqualAnswersSaid : Prop := equalAnswersRow.holds Tryz.pinned (OpenSpec.ofChange equalAnswersSpec)

/-- ITS FALSE NEIGHBOUR: 'it returns false'. Refute it at one input. -/
def equalAnswersWrong : ChangeSpec := { name := "equalAnswers", fn := fun _ => fun
  | [d1, d2, d3, d4, d5] => { results := [.lit (.bool false)], args := [d1, d2, d3, d4, d5] }
  | _ => none }
def EqualAnswersWrongFalsely : Prop := equalAnswersRow.holds Tryz.pinned (OpenSpec.ofChange equalAnswersWrong)

/-- 'swinglelaw13.EqualChecks': WHATEVER THE INPUT: true; the input reads as it did. -/
def equalChecksSpec : ChangeSpec := { name := "equalChecks", fn := fun _ => fun
  | [d] => { results := [.lit (.bool true)], args := [d] }
  | _ => none }
def equalChecksRow : OpenClaim := { program := "ytlhemmpklhhgoaagreat", sum := "6605bd203c00633bd1b9a247d3aff451e9116107f641be00a116d3f5cd7473d3", func := "swingle/swinglelaw13.EqualChecks", spec := "equalChecks", inPlace := ["maps.clone"], unfollowed := true, recurses := true, loops := true, apart := false }
def EqualChecksSaid : Prop := equalChecksRow.holds Tryz.pinned (OpenSpec.ofChange equalChecksSpec)

/-- ITS FALSE NEIGHBOUR: 'it returns false'. Refute it at one input. -/
def equalChecksWrong : ChangeSpec := { name := "equalChecks", fn := fun _ => fun
  | [d] => { results := [.lit (.bool false)], args := [d] }
  | _ => none }
def EqualChecksWrongFalsely : Prop := equalChecksRow.holds Tryz.pinned (OpenSpec.ofChange equalChecksWrong)

/-- 'swinglelaw13.EqualAsks': WHATEVER THE INPUT: true; the input reads as it did. -/
def equalAsksSpec : ChangeSpec := { name := "equalAsks", fn := fun _ => fun
  | [d1, d2, d3] => { results := [.lit (.bool true)], args := [d1, d2, d3] }
  | _ => none }
def equalAsksRow : OpenClaim := { program := "ytlhemmpklhhgoaagreat", sum := "6605bd203c00633bd1b9a247d3aff451e9116107f641be00a116d3f5cd7473d3", func := "swingle/swinglelaw13.EqualAsks", spec := "equalAsks", inPlace := ["maps.clone"], unfollowed := true, recurses := true, loops := true, apart := false }
def EqualAsksSaid : Prop := equalAsksRow.holds Tryz.pinned (OpenSpec.ofChange equalAsksSpec)

/-- ITS FALSE NEIGHBOUR: 'it returns false'. Refute it at one input. -/
def equalAsksWrong : ChangeSpec := { name := "equalAsks", fn := fun _ => fun
  | [d1, d2, d3] => { results := [.lit (.bool false)], args := [d1, d2, d3] }
  | _ => none }
def EqualAsksWrongFalsely : Prop := equalAsksRow.holds Tryz.pinned (OpenSpec.ofChange equalAsksWrong)

/-- 'swinglelaw13.EqualBacks': WHATEVER THE INPUT: true; the input reads as it did. -/
def equalBacksSpec : ChangeSpec := { name := "equalBacks", fn := fun _ => fun
  | [d] => { results := [.lit (.bool true)], args := [d] }
  | _ => none }
def equalBacksRow : OpenClaim := { program := "ytlhemmpklhhgoaagreat", sum := "6605bd203c00633bd1b9a247d3aff451e9116107f641be00a116d3f5cd7473d3", func := "swingle/swinglelaw13.EqualBacks", spec := "equalBacks", inPlace := ["maps.clone"], unfollowed := true, recurses := true, loops := true, apart := false }
def EqualBacksSaid : Prop := equalBacksRow.holds Tryz.pinned (OpenSpec.ofChange equalBacksSpec)

/-- ITS FALSE NEIGHBOUR: 'it returns false'. Refute it at one input. -/
def equalBacksWrong : ChangeSpec := { name := "equalBacks", fn := fun _ => fun
  | [d] => { results := [.lit (.bool false)], args := [d] }
  | _ => none }
def EqualBacksWrongFalsely : Prop := equalBacksRow.holds Tryz.pinned (OpenSpec.ofChange equalBacksWrong)

/-- 'swinglelaw13.EqualUndoes': WHATEVER THE INPUT: true; the input reads as it did. -/
def equalUndoesSpec : ChangeSpec := { name := "equalUndoes", fn := fun _ => fun
  | [d1, d2, d3] => { results := [.lit (.bool true)], args := [d1, d2, d3] }
  | _ => none }
def equalUndoesRow : OpenClaim := { program := "ytlhemmpklhhgoaagreat", sum := "6605bd203c00633bd1b9a247d3aff451e9116107f641be00a116d3f5cd7473d3", func := "swingle/swinglelaw13.EqualUndoes", spec := "equalUndoes", inPlace := ["maps.clone"], unfollowed := true, recurses := true, loops := true, apart := false }
def EqualUndoesSaid : Prop := equalUndoesRow.holds Tryz.pinned (OpenSpec.ofChange equalUndoesSpec)

/-- ITS FALSE NEIGHBOUR: 'it returns false'. Refute it at one input. -/
def equalUndoesWrong : ChangeSpec := { name := "equalUndoes", fn := fun _ => fun
  | [d1, d2, d3] => { results := [.lit (.bool false)], args := [d1, d2, d3] }
  | _ => none }
def EqualUndoesWrongFalsely : Prop := equalUndoesRow.holds Tryz.pinned (OpenSpec.ofChange equalUndoesWrong)

/-- 'swinglelaw13.EqualKnown': WHATEVER THE INPUT: true; the input reads as it did. -/
def equalKnownSpec : ChangeSpec := { name := "equalKnown", fn := fun _ => fun
  | [] => { results := [.lit (.bool true)], args := [] }
  | _ => none }
def equalKnownRow : OpenClaim := { program := "ytlhemmpklhhgoaagreat", sum := "6605bd203c00633bd1b9a247d3aff451e9116107f641be00a116d3f5cd7473d3", func := "swingle/swinglelaw13.EqualKnown", spec := "equalKnown", inPlace := ["maps.clone"], unfollowed := true, recurses := true, apart := false }
def EqualKnownSaid : Prop := equalKnownRow.holds Tryz.pinned (OpenSpec.ofChange equalKnownSpec)

/-- ITS FALSE NEIGHBOUR: 'it returns false'. Refute it at one input. -/
def equalKnownWrong : ChangeSpec := { name := "equalKnown", fn := fun _ => fun
  | [] => { results := [.lit (.bool false)], args := [] }
  | _ => none }
def EqualKnownWrongFalsely : Prop := equalKnownRow.holds Tryz.pinned (OpenSpec.ofChange equalKnownWrong)

/-- 'swinglelaw13.EqualForms': WHATEVER THE INPUT: true; the input reads as it did. -/
def equalFormsSpec : ChangeSpec := { name := "equalForms", fn := fun _ => fun
  | [d1, d2, d3] => { results := [.lit (.bool true)], args := [d1, d2, d3] }
  | _ => none }
def equalFormsRow : OpenClaim := { program := "ytlhemmpklhhgoaagreat", sum := "6605bd203c00633bd1b9a247d3aff451e9116107f641be00a116d3f5cd7473d3", func := "swingle/swinglelaw13.EqualForms", spec := "equalForms", inPlace := ["maps.clone", "slices.overlaps[swingle/swinglelaw13.Say]"], unfollowed := true, recurses := true, loops := true, apart := false }
def EqualFormsSaid : Prop := equalFormsRow.holds Tryz.pinned (OpenSpec.ofChange equalFormsSpec)

/-- ITS FALSE NEIGHBOUR: 'it returns false'. Refute it at one input. -/
def equalFormsWrong : ChangeSpec := { name := "equalForms", fn := fun _ => fun
  | [d1, d2, d3] => { results := [.lit (.bool false)], args := [d1, d2, d3] }
  | _ => none }
def EqualFormsWrongFalsely : Prop := equalFormsRow.holds Tryz.pinned (OpenSpec.ofChange equalFormsWrong)

/- THE SECOND FORM. 'bulk': how many values and letters a reading holds, each counted each time it is reached (what is shared counts as often as it is met; a slice's spare places count too). A statement '..UptoSaid' is the law's where the arguments, and the package variables that the reading takes, are together of bulk at most 1048576: NARROWER than '..Said'. Prove '..Said' where nothing that the law and all that it calls make is longer than what came in: it says more and counts as full. Else prove '..UptoSaid'. A law counts once. -/
mutual
def uptoBulk {H : Type} : DataW H → Nat
  | .lit (.string bytes) => bytes.length + 1
  | .lit _ => 1
  | .nil => 1
  | .ptr d => uptoBulk d + 1
  | .slice elems spare => uptoBulkAll elems + uptoBulkAll spare + 1
  | .agg parts => uptoBulkAll parts + 1
  | .iface _ d => uptoBulk d + 1
  | .map entries => uptoBulkEntries entries + 1
  | .held _ => 1
def uptoBulkAll {H : Type} : List (DataW H) → Nat
  | [] => 0
  | d :: r => uptoBulk d + uptoBulkAll r
def uptoBulkEntries {H : Type} : List (Lit × DataW H) → Nat
  | [] => 0
  | x :: r => uptoBulkEntry x + uptoBulkEntries r
def uptoBulkEntry {H : Type} : Lit × DataW H → Nat
  | (.string bytes, d) => bytes.length + uptoBulk d + 1
  | (_, d) => uptoBulk d + 1
 end
def uptoSmall : (H : Type) → List (DataW H) → Bool := fun _ ds => decide (uptoBulkAll ds ≤ 1048576)
def OpenSpec.upto (s : _root_.Go.ChangeSpec) : _root_.Go.OpenSpec := { _root_.Go.OpenSpec.ofChange s with cond := some uptoSmall }

/-- 'swinglelaw13.EqualTells', WHERE WHAT IT READS IS OF BULK AT MOST 1048576: true; the input reads as it did. -/
def equalTellsUptoRow : OpenClaim := { program := "ytlhemmpklhhgoaagreat", sum := "6605bd203c00633bd1b9a247d3aff451e9116107f641be00a116d3f5cd7473d3", func := "swingle/swinglelaw13.EqualTells", spec := "equalTells", inPlace := ["maps.clone"], unfollowed := true, recurses := true, loops := true, apart := false, narrowed := true }
def EqualTellsUptoSaid : Prop := equalTellsUptoRow.holds Tryz.pinned (OpenSpec.upto equalTellsSpec)

/-- 'swinglelaw13.EqualSolves', WHERE WHAT IT READS IS OF BULK AT MOST 1048576: true; the input reads as it did. -/
def equalSolvesUptoRow : OpenClaim := { program := "ytlhemmpklhhgoaagreat", sum := "6605bd203c00633bd1b9a247d3aff451e9116107f641be00a116d3f5cd7473d3", func := "swingle/swinglelaw13.EqualSolves", spec := "equalSolves", inPlace := ["maps.clone"], unfollowed := true, recurses := true, loops := true, apart := false, narrowed := true }
def EqualSolvesUptoSaid : Prop := equalSolvesUptoRow.holds Tryz.pinned (OpenSpec.upto equalSolvesSpec)

/-- 'swinglelaw13.EqualSound', WHERE WHAT IT READS IS OF BULK AT MOST 1048576: true; the input reads as it did. -/
def equalSoundUptoRow : OpenClaim := { program := "ytlhemmpklhhgoaagreat", sum := "6605bd203c00633bd1b9a247d3aff451e9116107f641be00a116d3f5cd7473d3", func := "swingle/swinglelaw13.EqualSound", spec := "equalSound", inPlace := ["maps.clone"], unfollowed := true, recurses := true, loops := true, apart := false, narrowed := true }
def EqualSoundUptoSaid : Prop := equalSoundUptoRow.holds Tryz.pinned (OpenSpec.upto equalSoundSpec)

/-- 'swinglelaw13.EqualAnswers', WHERE WHAT IT READS IS OF BULK AT MOST 1048576: true; the input reads as it did. -/
def equalAnswersUptoRow : OpenClaim := { program := "ytlhemmpklhhgoaagreat", sum := "6605bd203c00633bd1b9a247d3aff451e9116107f641be00a116d3f5cd7473d3", func := "swingle/swinglelaw13.EqualAnswers", spec := "equalAnswers", inPlace := ["maps.clone"], unfollowed := true, recurses := true, loops := true, apart := false, narrowed := true }
def EqualAnswersUptoSaid : Prop := equalAnswersUptoRow.holds Tryz.pinned (OpenSpec.upto equalAnswersSpec)

/-- 'swinglelaw13.EqualChecks', WHERE WHAT IT READS IS OF BULK AT MOST 1048576: true; the input reads as it did. -/
def equalChecksUptoRow : OpenClaim := { program := "ytlhemmpklhhgoaagreat", sum := "6605bd203c00633bd1b9a247d3aff451e9116107f641be00a116d3f5cd7473d3", func := "swingle/swinglelaw13.EqualChecks", spec := "equalChecks", inPlace := ["maps.clone"], unfollowed := true, recurses := true, loops := true, apart := false, narrowed := true }
def EqualChecksUptoSaid : Prop := equalChecksUptoRow.holds Tryz.pinned (OpenSpec.upto equalChecksSpec)

/-- 'swinglelaw13.EqualAsks', WHERE WHAT IT READS IS OF BULK AT MOST 1048576: true; the input reads as it did. -/
def equalAsksUptoRow : OpenClaim := { program := "ytlhemmpklhhgoaagreat", sum := "6605bd203c00633bd1b9a247d3aff451e9116107f641be00a116d3f5cd7473d3", func := "swingle/swinglelaw13.EqualAsks", spec := "equalAsks", inPlace := ["maps.clone"], unfollowed := true, recurses := true, loops := true, apart := false, narrowed := true }
def EqualAsksUptoSaid : Prop := equalAsksUptoRow.holds Tryz.pinned (OpenSpec.upto equalAsksSpec)

/-- 'swinglelaw13.EqualBacks', WHERE WHAT IT READS IS OF BULK AT MOST 1048576: true; the input reads as it did. -/
def equalBacksUptoRow : OpenClaim := { program := "ytlhemmpklhhgoaagreat", sum := "6605bd203c00633bd1b9a247d3aff451e9116107f641be00a116d3f5cd7473d3", func := "swingle/swinglelaw13.EqualBacks", spec := "equalBacks", inPlace := ["maps.clone"], unfollowed := true, recurses := true, loops := true, apart := false, narrowed := true }
def EqualBacksUptoSaid : Prop := equalBacksUptoRow.holds Tryz.pinned (OpenSpec.upto equalBacksSpec)

/-- 'swinglelaw13.EqualUndoes', WHERE WHAT IT READS IS OF BULK AT MOST 1048576: true; the input reads as it did. -/
def equalUndoesUptoRow : OpenClaim := { program := "ytlhemmpklhhgoaagreat", sum := "6605bd203c00633bd1b9a247d3aff451e9116107f641be00a116d3f5cd7473d3", func := "swingle/swinglelaw13.EqualUndoes", spec := "equalUndoes", inPlace := ["maps.clone"], unfollowed := true, recurses := true, loops := true, apart := false, narrowed := true }
def EqualUndoesUptoSaid : Prop := equalUndoesUptoRow.holds Tryz.pinned (OpenSpec.upto equalUndoesSpec)

/-- 'swinglelaw13.EqualKnown', WHERE WHAT IT READS IS OF BULK AT MOST 1048576: true; the input reads as it did. -/
def equalKnownUptoRow : OpenClaim := { program := "ytlhemmpklhhgoaagreat", sum := "6605bd203c00633bd1b9a247d3aff451e9116107f641be00a116d3f5cd7473d3", func := "swingle/swinglelaw13.EqualKnown", spec := "equalKnown", inPlace := ["maps.clone"], unfollowed := true, recurses := true, apart := false, narrowed := true }
def EqualKnownUptoSaid : Prop := equalKnownUptoRow.holds Tryz.pinned (OpenSpec.upto equalKnownSpec)

/-- 'swinglelaw13.EqualForms', WHERE WHAT IT READS IS OF BULK AT MOST 1048576: true; the input reads as it did. -/
def equalFormsUptoRow : OpenClaim := { program := "ytlhemmpklhhgoaagreat", sum := "6605bd203c00633bd1b9a247d3aff451e9116107f641be00a116d3f5cd7473d3", func := "swingle/swinglelaw13.EqualForms", spec := "equalForms", inPlace := ["maps.clone", "slices.overlaps[swingle/swinglelaw13.Say]"], unfollowed := true, recurses := true, loops := true, apart := false, narrowed := true }
def EqualFormsUptoSaid : Prop := equalFormsUptoRow.holds Tryz.pinned (OpenSpec.upto equalFormsSpec)

end Rows
end Go.Proofs.YtlhemmpklhhgoaaGreat
