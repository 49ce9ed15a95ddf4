/-
  EndsKnown: at every call the law answers true (the examples of chapter 25), and leaves all memory as it was. Conditions: none.
-/
import Derived.Test.YtbmnikpknlkbkaaGreatRows
import Derived.Test.YtbmnikpknlkbkaaGreatEk12
set_option linter.unusedSimpArgs false
set_option linter.unusedVariables false
section
namespace Go.Proofs.YtbmnikpknlkbkaaGreat
open Go
def Hd:iw Tryz.prog:=iw.of wP [(26,[yP], .ret [.i 0]),(26,[yR], .ret [.i 0]),(26,[yS], .ret [.i 0]),(26,[yC], .ret [.i 0]),(26,[yT], .ret [.i 0]),(10,[yR], .ret [.sl [.agg [.i 1, .i 0, .i 0, .sl [.i 0], .bool false, .sl [.agg [.i 0, .i 0, .bool true], .agg [.i 1, .i 1, .bool false]]], .agg [.i 7, .i 3, .i 3, .sl [.i 0], .bool false, .sl [.agg [.i 0, .i 0, .bool true]]]], .i 0]),(16,[yR, .sl [.i 0]], .ret [.bool true, .i 0]),(12,[yR], .ret [.bool true, .sl [], .i 0]),(12,[yS], .ret [.bool false, .sl [.i 1], .i 0]),(13,[yS], .ret [.bool false, .sl [.i 1], .i 0]),(12,[yC], .ret [.bool false, .sl [.i 1], .i 0]),(13,[yC], .ret [.bool true, .sl [], .i 0]),(12,[yT], .ret [.bool true, .sl [], .i 0])] (fun x h=>by
 simp only[List.mem_cons,List.not_mem_nil,or_false]at h
 rcases h with rfl|rfl|rfl|rfl|rfl|rfl|rfl|rfl|rfl|rfl|rfl|rfl|rfl
 ·exact vb
 ·exact vc
 ·exact ve
 ·exact vf
 ·exact vg
 ·exact G7
 ·exact G8
 ·exact G9
 ·exact Dv
 ·exact Dw
 ·exact Ha
 ·exact Hb
 ·exact Hc
 )
theorem pW:eU Tryz.prog aI Hd 5000 5 []=some (.ret [.bool true]):=by kernel_rfl
theorem wV:c0 Tryz.prog 5 [] (.ret [.bool true]):=c0.bZ mix b4 pW
end Go.Proofs.YtbmnikpknlkbkaaGreat
end
section
namespace Go.Proofs.YtbmnikpknlkbkaaGreat
open Go
theorem zZ:eU Tryz.prog aI kL 5000 10 [yP]=some (.ret [.sl [.agg [.i 1, .i 0, .i 0, .sl [.i 0], .bool false, .sl [.agg [.i 0, .i 0, .bool true], .agg [.i 1, .i 1, .bool false]]], .agg [.i 7, .i 3, .i 3, .sl [.i 0], .bool false, .sl [.agg [.i 0, .i 0, .bool true]]], .agg [.i 8, .i 3, .i 0, .sl [], .bool true, .sl []]], .i 0]):=by kernel_rfl
theorem He:c0 Tryz.prog 10 [yP] (.ret [.sl [.agg [.i 1, .i 0, .i 0, .sl [.i 0], .bool false, .sl [.agg [.i 0, .i 0, .bool true], .agg [.i 1, .i 1, .bool false]]], .agg [.i 7, .i 3, .i 3, .sl [.i 0], .bool false, .sl [.agg [.i 0, .i 0, .bool true]]], .agg [.i 8, .i 3, .i 0, .sl [], .bool true, .sl []]], .i 0]):=c0.bZ mix b4 zZ
theorem z0:eU Tryz.prog aI kL 5000 12 [yP]=some (.ret [.bool true, .sl [], .i 0]):=by kernel_rfl
theorem Hf:c0 Tryz.prog 12 [yP] (.ret [.bool true, .sl [], .i 0]):=c0.bZ mix b4 z0
theorem z3:eU Tryz.prog aI kL 5000 16 [yR, .sl []]=some (.ret [.bool false, .i 2]):=by kernel_rfl
theorem Hg:c0 Tryz.prog 16 [yR, .sl []] (.ret [.bool false, .i 2]):=c0.bZ mix b4 z3
theorem z4:eU Tryz.prog aI kL 5000 16 [yR, .sl [.i 0, .i 1]]=some (.ret [.bool false, .i 2]):=by kernel_rfl
theorem Hh:c0 Tryz.prog 16 [yR, .sl [.i 0, .i 1]] (.ret [.bool false, .i 2]):=c0.bZ mix b4 z4
end Go.Proofs.YtbmnikpknlkbkaaGreat
end
section
namespace Go.Proofs.YtbmnikpknlkbkaaGreat
open Go
def Hi:iw Tryz.prog:=iw.of wP [(5,[], .ret [.bool true]),(26,[yP], .ret [.i 0]),(26,[yR], .ret [.i 0]),(26,[yS], .ret [.i 0]),(26,[yC], .ret [.i 0]),(26,[yT], .ret [.i 0]),(12,[yS], .ret [.bool false, .sl [.i 1], .i 0]),(13,[yS], .ret [.bool false, .sl [.i 1], .i 0]),(10,[yP], .ret [.sl [.agg [.i 1, .i 0, .i 0, .sl [.i 0], .bool false, .sl [.agg [.i 0, .i 0, .bool true], .agg [.i 1, .i 1, .bool false]]], .agg [.i 7, .i 3, .i 3, .sl [.i 0], .bool false, .sl [.agg [.i 0, .i 0, .bool true]]], .agg [.i 8, .i 3, .i 0, .sl [], .bool true, .sl []]], .i 0]),(12,[yP], .ret [.bool true, .sl [], .i 0]),(16,[yR, .sl []], .ret [.bool false, .i 2]),(16,[yR, .sl [.i 0, .i 1]], .ret [.bool false, .i 2])] (fun x h=>by
 simp only[List.mem_cons,List.not_mem_nil,or_false]at h
 rcases h with rfl|rfl|rfl|rfl|rfl|rfl|rfl|rfl|rfl|rfl|rfl|rfl
 ·exact wV
 ·exact vb
 ·exact vc
 ·exact ve
 ·exact vf
 ·exact vg
 ·exact Dv
 ·exact Dw
 ·exact He
 ·exact Hf
 ·exact Hg
 ·exact Hh
 )
theorem mA:eU Tryz.prog aI Hi 5000 4 []=some (.ret [.bool true]):=by kernel_rfl
theorem pX:c0 Tryz.prog 4 [] (.ret [.bool true]):=c0.bZ mix b4 mA
end Go.Proofs.YtbmnikpknlkbkaaGreat
end
section
namespace Go.Proofs.YtbmnikpknlkbkaaGreat
open Go.ChangeShapes Go.WideShapes Go.RowKit
set_option maxRecDepth 100000 in
theorem jR(os:Os)(started:os.Started)(H:Type)(enc:TypeId×Value->H):
 ReturnsInHanded {} Tryz.checked os 4 .any (Rows.endsKnownSpec.pre6 enc Tryz.prog Tryz.f4 Rows.endsKnownRow.domain false) (Rows.endsKnownSpec.post enc Tryz.prog Tryz.f4 Rows.endsKnownRow.apart Rows.endsKnownRow.fresh Rows.endsKnownRow.handsOn Rows.endsKnownRow.again):=by
 refine returnsInHanded_of_change (C:=Tryz.checked) (by kernel_rfl) started (by kernel_rfl) Tryz.func4
  (ChangeSpec.witness6 (enc:=enc) (C:=Tryz.checked) false ⟨#[],#[],[]⟩ 8 (by kernel_rfl) (by kernel_rfl) (by kernel_rfl) (by kernel_rfl)) ?_
 intro W base args ds gs before dP hW _ _
 exact nI (T:=[]) (tb:=4) (by kernel_rfl) (by kernel_rfl) rfl (fun ds h=>by match ds,h with|[],_=>rfl) (by kernel_rfl) (by intro t ht;cases ht) (by kernel_rfl) (by intro t ht;cases ht)
  (fun xs hx=>by cases xs with|nil=>exact pX|cons x xs=>obtain⟨t,r,e,_⟩:=hx;cases e) base args ds gs before dP hW
theorem endsKnown_holds:Rows.EndsKnownSaid:=
 OpenClaim.holds_of_wide 4 Tryz.f4 rfl rfl rfl rfl rfl rfl rfl ⟨rfl,rfl,rfl,rfl,rfl⟩ rfl rfl rfl rfl rfl (by kernel_rfl) Tryz.func4 (by kernel_rfl)
  (of_decide_eq_true (by kernel_rfl)) (by unfold Func.isWrapper;first|(rw[if_pos (by decide+kernel)];kernel_rfl)|(rw[if_neg (by decide+kernel)];exact⟨rfl,rfl⟩))
  (fun os started H enc _=>jR os started H enc)
end Go.Proofs.YtbmnikpknlkbkaaGreat
end
