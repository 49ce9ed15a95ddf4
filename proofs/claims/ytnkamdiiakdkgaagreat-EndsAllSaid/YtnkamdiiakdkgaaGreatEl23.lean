/-
  EndsAll: at every call the law answers true, and leaves all memory as it was. Conditions: none.
-/
import Derived.Test.YtnkamdiiakdkgaaGreatRows
import Derived.Test.YtnkamdiiakdkgaaGreatEl22
set_option linter.unusedSimpArgs false
set_option linter.unusedVariables false
section
namespace Go.Proofs.YtnkamdiiakdkgaaGreat
open Go
def agD:qT Tryz.prog:=qT.of YC [(40,[yP], .ret [.i 0]),(40,[yR], .ret [.i 0]),(40,[yS], .ret [.i 0]),(40,[yC], .ret [.i 0]),(40,[yT], .ret [.i 0]),(11,[yR], .ret [.sl [.agg [.i 1, .i 0, .i 0, .sl [.i 0], .bool false, .sl [.agg [.i 0, .i 0, .bool true], .agg [.i 1, .i 1, .bool false]]], .agg [.i 7, .i 3, .i 3, .sl [.i 0], .bool false, .sl [.agg [.i 0, .i 0, .bool true]]]], .i 0]),(16,[yR, .sl [.i 0]], .ret [.bool true, .i 0]),(19,[yR], .ret [.bool true, .sl [], .i 0]),(19,[yS], .ret [.bool false, .sl [.i 1], .i 0]),(20,[yS], .ret [.bool false, .sl [.i 1], .i 0]),(19,[yC], .ret [.bool false, .sl [.i 1], .i 0]),(20,[yC], .ret [.bool true, .sl [], .i 0]),(19,[yT], .ret [.bool true, .sl [], .i 0])] (fun x h=>by
 simp only[List.mem_cons,List.not_mem_nil,or_false]at h
 rcases h with rfl|rfl|rfl|rfl|rfl|rfl|rfl|rfl|rfl|rfl|rfl|rfl|rfl
 ·exact Un
 ·exact Uo
 ·exact Up
 ·exact Uq
 ·exact Ur
 ·exact agv
 ·exact agw
 ·exact agx
 ·exact agy
 ·exact agz
 ·exact agA
 ·exact agB
 ·exact agC
 )
theorem Ey:oH Tryz.prog bN agD 5000 10 []=some (.ret [.bool true]):=ai
theorem Rm:aV Tryz.prog 10 [] (.ret [.bool true]):=aV.gP mix gQ Ey
end Go.Proofs.YtnkamdiiakdkgaaGreat
end
section
namespace Go.Proofs.YtnkamdiiakdkgaaGreat
open Go.ChangeShapes Go.WideShapes Go.RowKit
set_option maxRecDepth 100000 in
theorem xe(os:Os)(started:os.Started)(H:Type)(enc:TypeId×Value->H):
 ReturnsInHanded {} Tryz.checked os 8 .any (Rows.endsAllSpec.pre6 enc Tryz.prog Tryz.f8 Rows.endsAllRow.domain false) (Rows.endsAllSpec.post enc Tryz.prog Tryz.f8 Rows.endsAllRow.apart Rows.endsAllRow.fresh Rows.endsAllRow.handsOn Rows.endsAllRow.again):=by
 refine returnsInHanded_of_change (C:=Tryz.checked) ai started ai Tryz.func8
  (ChangeSpec.witness6 (enc:=enc) (C:=Tryz.checked) false ⟨#[],#[.agg #[.slice none 0 0, .slice none 0 0, .slice none 0 0], .slice none 0 0, .int .u8 0],[]⟩ 8 ai ai ai ai) ?_
 intro W base args ds gs before eY hW _ _
 refine Bo (T:=[27,24,22,102,9,3,25,57,49,55,53,37,5]) (tb:=4) ai ai rfl (fun ds h=>by match ds,h with|[_,_,_],_=>rfl) ai (by intro t ht;rw[Tryz.params8]at ht;simp at ht;rcases ht with rfl|rfl|rfl<;>simp) ai (by intro t ht;rw[Tryz.params8]at ht;simp at ht;rcases ht with rfl|rfl|rfl<;>exact⟨ai,of_decide_eq_true ai⟩)
  (fun xs hx=> ?_) base args ds gs before eY hW
 rw[Tryz.params8]at hx
 obtain⟨x0,xs,rfl,u5,hx⟩:=bJ hx
 obtain⟨x1,xs,rfl,hx1,hx⟩:=bJ hx
 obtain⟨x2,xs,rfl,hx2,hx⟩:=bJ hx
 have:=lS hx;subst this
 obtain⟨p0,rfl,YR⟩:=agm u5
 obtain⟨i1,rfl,EA⟩:=YB hx1
 obtain⟨b2,rfl,hb2⟩:=agu hx2
 exact Ky Rm p0 i1 b2 YR EA hb2
theorem endsAll_holds:Rows.EndsAllSaid:=
 OpenClaim.holds_of_wide 8 Tryz.f8 rfl rfl rfl rfl rfl rfl rfl ⟨rfl,rfl,rfl,rfl,rfl⟩ rfl rfl rfl rfl rfl ai Tryz.func8 ai
  (of_decide_eq_true ai) (by unfold Func.isWrapper;first|(rw[if_pos (by decide+kernel)];kernel_rfl)|(rw[if_neg (by decide+kernel)];exact⟨rfl,rfl⟩))
  (fun os started H enc _=>xe os started H enc)
end Go.Proofs.YtnkamdiiakdkgaaGreat
end
