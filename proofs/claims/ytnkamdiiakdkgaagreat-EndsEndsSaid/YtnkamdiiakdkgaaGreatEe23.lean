/-
  EndsEnds: at every call the law answers true, and leaves all memory as it was. Conditions: none.
-/
import Derived.Test.YtnkamdiiakdkgaaGreatRows
import Derived.Test.YtnkamdiiakdkgaaGreatEe22
set_option linter.unusedSimpArgs false
set_option linter.unusedVariables false
set_option maxHeartbeats 8000000
section
namespace Go.Proofs.YtnkamdiiakdkgaaGreat
open Go.ChangeShapes Go.WideShapes Go.RowKit
set_option maxRecDepth 100000 in
theorem vG(os:Os)(started:os.Started)(H:Type)(enc:TypeId×Value->H):
 ReturnsInHanded {} Tryz.checked os 5 .any (Rows.endsEndsSpec.pre6 enc Tryz.prog Tryz.f5 Rows.endsEndsRow.domain false) (Rows.endsEndsSpec.post enc Tryz.prog Tryz.f5 Rows.endsEndsRow.apart Rows.endsEndsRow.fresh Rows.endsEndsRow.handsOn Rows.endsEndsRow.again):=by
 refine returnsInHanded_of_change (C:=Tryz.checked) aK started aK Tryz.func5
  (ChangeSpec.witness6 (enc:=enc) (C:=Tryz.checked) false ⟨#[],#[.agg #[.slice none 0 0, .slice none 0 0, .slice none 0 0]],[]⟩ 8 aK aK aK aK) ?_
 intro W base args ds gs before fK hW _ _
 refine CI (T:=[27,24,22,102,9,3,25,57,49,55,53]) (tb:=4) aK aK rfl (fun ds h=>by match ds,h with|[_],_=>rfl) aK (by intro t ht;rw[Tryz.params5]at ht;simp at ht;subst ht;simp) aK (by intro t ht;rw[Tryz.params5]at ht;simp at ht;subst ht;exact⟨aK,of_decide_eq_true aK⟩)
  (fun xs hx=> ?_) base args ds gs before fK hW
 rw[Tryz.params5]at hx
 obtain⟨x0,xs,rfl,vg,hx⟩:=cD hx
 have:=mT hx;subst this
 obtain⟨p0,rfl,hp0⟩:=ai2 vg
 exact Ii T5 p0 hp0
theorem endsEnds_holds:Rows.EndsEndsSaid:=
 OpenClaim.holds_of_wide 5 Tryz.f5 rfl rfl rfl rfl rfl rfl rfl ⟨rfl,rfl,rfl,rfl,rfl⟩ rfl rfl rfl rfl rfl aK Tryz.func5 aK
  (of_decide_eq_true aK) (by unfold Func.isWrapper;first|(rw[if_pos (by decide+kernel)];kernel_rfl)|(rw[if_neg (by decide+kernel)];exact⟨rfl,rfl⟩))
  (fun os started H enc _=>vG os started H enc)
end Go.Proofs.YtnkamdiiakdkgaaGreat
end
