/-
  LinearKnown: at every call the law answers true (the examples of chapter 15), and leaves all memory as it was. Conditions: none.
-/
import Derived.Test.YtaafchgfibbmhaaRows
import Derived.Test.YtaafchgfibbmhaaCoreBr
import Derived.Test.YtaafchgfibbmhaaKnown
namespace Go.Proofs.Ytaafchgfibbmhaa
open Go.ChangeShapes Go.WideShapes Go.RowKit
set_option maxRecDepth 100000 in
theorem linearKnown_lifted (os : Os) (started : os.Started) (H : Type) (enc : TypeId × Value → H) :
    ReturnsInHanded {} Try.checked os 8 .any (Rows.linearKnownSpec.pre6 enc Try.prog Try.f8 Rows.linearKnownRow.domain false) (Rows.linearKnownSpec.post enc Try.prog Try.f8 Rows.linearKnownRow.apart Rows.linearKnownRow.fresh Rows.linearKnownRow.handsOn Rows.linearKnownRow.again) := by
  refine returnsInHanded_of_change (C := Try.checked) (by kernel_rfl) started (by kernel_rfl) Try.func8
    (ChangeSpec.witness6 (enc := enc) (C := Try.checked) false ⟨#[], #[], []⟩ 8 (by kernel_rfl) (by kernel_rfl) (by kernel_rfl) (by kernel_rfl)) ?_
  intro W base args ds gs before hval hW _ _
  exact law_contract (T := []) (tb := 4) (by kernel_rfl) (by kernel_rfl) rfl (fun ds h => by match ds, h with | [], _ => rfl) (by kernel_rfl) (by intro t ht; cases ht) (by kernel_rfl) (by intro t ht; cases ht)
    (fun xs hx => by cases xs with | nil => exact known | cons x xs => obtain ⟨t, r, e, _⟩ := hx; cases e) base args ds gs before hval hW
theorem linearKnown_holds : Rows.LinearKnownSaid :=
  OpenClaim.holds_of_wide 8 Try.f8 rfl rfl rfl rfl rfl rfl rfl ⟨rfl, rfl, rfl, rfl, rfl⟩ rfl rfl rfl rfl rfl (by kernel_rfl) Try.func8 (by kernel_rfl)
    (of_decide_eq_true (by kernel_rfl)) (by unfold Func.isWrapper; first | (rw [if_pos (by decide +kernel)]; kernel_rfl) | (rw [if_neg (by decide +kernel)]; exact ⟨rfl, rfl⟩))
    (fun os started H enc _ => linearKnown_lifted os started H enc)
#print axioms linearKnown_holds
end Go.Proofs.Ytaafchgfibbmhaa
