/-
  EqualKnown: at every call the law answers true (the examples of chapter 13), and leaves all memory as it was. Conditions: none.
-/
import Derived.Test.YtlhemmpklhhgoaaGreatRows
import Derived.Test.YtlhemmpklhhgoaaGreatQk13
set_option linter.unusedSimpArgs false
set_option linter.unusedVariables false
section
namespace Go.Proofs.YtlhemmpklhhgoaaGreat
open Go
def Ho:gm Tryz.prog:=gm.of vf [(38,[.agg [zC,zF, .sl [.agg [.i 2, .i 1, .i 0, .sl []], .agg [.i 1, .i 3, .i 5, .sl [.agg [.i 1, .i 0, .sl []], .agg [.i 3, .i 4, .sl []]]]], .sl [], .sl []], .agg [.i 3, .i 5, .sl [.agg [.i 1, .i 2, .sl []], .agg [.i 1, .i 1, .sl []]]]], .ret [.agg [.i 3, .i 5, .sl [.agg [.i 1, .i 0, .sl []], .agg [.i 3, .i 5, .sl [.agg [.i 1, .i 0, .sl []], .agg [.i 3, .i 4, .sl []]]]]], .i 0]),(15,[.agg [zC,zF, .sl [.agg [.i 2, .i 1, .i 0, .sl []], .agg [.i 1, .i 3, .i 5, .sl [.agg [.i 1, .i 0, .sl []], .agg [.i 3, .i 4, .sl []]]]], .sl [.agg [.i 3, .i 3, .sl [.agg [.i 1, .i 3, .sl []]], .i 1, .i 2, .sl []]], .sl []], .agg [.i 1, .i 0, .sl []], .agg [.i 3, .i 2, .sl []]], .ret [.agg [zC,zF, .sl [.agg [.i 2, .i 1, .i 0, .sl []], .agg [.i 1, .i 3, .i 5, .sl [.agg [.i 1, .i 0, .sl []], .agg [.i 3, .i 4, .sl []]]], .agg [.i 0, .i 3, .i 2, .sl []]], .sl [.agg [.i 3, .i 3, .sl [.agg [.i 1, .i 3, .sl []]], .i 1, .i 2, .sl []]], .sl []], .i 0]),(24,[.agg [zC,zF, .sl [.agg [.i 2, .i 1, .i 0, .sl []], .agg [.i 1, .i 3, .i 5, .sl [.agg [.i 1, .i 0, .sl []], .agg [.i 3, .i 4, .sl []]]], .agg [.i 0, .i 3, .i 2, .sl []]], .sl [.agg [.i 3, .i 3, .sl [.agg [.i 1, .i 3, .sl []]], .i 1, .i 2, .sl []]], .sl []]], .ret [.agg [.sl [.agg [.i 0, .i 3, .i 2, .sl []], .agg [.i 1, .i 3, .i 5, .sl [.agg [.i 3, .i 2, .sl []], .agg [.i 3, .i 4, .sl []]]], .agg [.i 2, .i 3, .i 2, .sl []]], .sl []], .i 0]),(15,[.agg [zC,zF, .sl [.agg [.i 2, .i 1, .i 0, .sl []], .agg [.i 1, .i 3, .i 5, .sl [.agg [.i 1, .i 0, .sl []], .agg [.i 3, .i 4, .sl []]]]], .sl [], .sl []], .agg [.i 1, .i 0, .sl []], .agg [.i 3, .i 3, .sl [.agg [.i 1, .i 2, .sl []]]]], .ret [.agg [.sl [], .sl [], .sl [], .sl [], .sl []], .i 5]),(16,[.agg [zC,zF, .sl [.agg [.i 2, .i 1, .i 0, .sl []], .agg [.i 1, .i 3, .i 5, .sl [.agg [.i 1, .i 0, .sl []], .agg [.i 3, .i 4, .sl []]]]], .sl [], .sl []], .agg [.i 1, .i 2, .sl []], .agg [.i 1, .i 0, .sl []]], .ret [.agg [.sl [], .sl [], .sl [], .sl [], .sl []], .i 5]),(16,[.agg [zC,zF, .sl [.agg [.i 2, .i 1, .i 0, .sl []], .agg [.i 1, .i 3, .i 5, .sl [.agg [.i 1, .i 0, .sl []], .agg [.i 3, .i 4, .sl []]]]], .sl [], .sl []], .agg [.i 1, .i 1, .sl []], .agg [.i 3, .i 4, .sl []]], .ret [.agg [zC,zF, .sl [.agg [.i 2, .i 1, .i 0, .sl []], .agg [.i 1, .i 3, .i 5, .sl [.agg [.i 1, .i 0, .sl []], .agg [.i 3, .i 4, .sl []]]]], .sl [], .sl []], .i 0]),(35,[.agg [zC,zF, .sl [.agg [.i 2, .i 1, .i 0, .sl []], .agg [.i 1, .i 3, .i 5, .sl [.agg [.i 1, .i 0, .sl []], .agg [.i 3, .i 4, .sl []]]]], .sl [.agg [.i 3, .i 3, .sl [.agg [.i 1, .i 3, .sl []]], .i 1, .i 2, .sl []]], .sl []], .agg [.i 1, .i 0, .sl []], .agg [.i 1, .i 2, .sl []]], .ret [.i 1, .i 0]),(35,[.agg [zC,zF, .sl [.agg [.i 2, .i 1, .i 0, .sl []], .agg [.i 1, .i 3, .i 5, .sl [.agg [.i 1, .i 0, .sl []], .agg [.i 3, .i 4, .sl []]]]], .sl [.agg [.i 3, .i 3, .sl [.agg [.i 1, .i 3, .sl []]], .i 1, .i 2, .sl []]], .sl []], .agg [.i 1, .i 0, .sl []], .agg [.i 3, .i 3, .sl [.agg [.i 1, .i 3, .sl []]]]], .ret [.i 2, .i 0]),(35,[.agg [zC,zF, .sl [.agg [.i 2, .i 1, .i 0, .sl []], .agg [.i 1, .i 3, .i 5, .sl [.agg [.i 1, .i 0, .sl []], .agg [.i 3, .i 4, .sl []]]]], .sl [], .sl []], .agg [.i 1, .i 1, .sl []], .agg [.i 3, .i 4, .sl []]], .ret [.i 2, .i 0]),(44,[.agg [zC,zF, .sl [.agg [.i 2, .i 1, .i 0, .sl []], .agg [.i 1, .i 3, .i 5, .sl [.agg [.i 1, .i 0, .sl []], .agg [.i 3, .i 4, .sl []]]]], .sl [.agg [.i 3, .i 3, .sl [.agg [.i 1, .i 3, .sl []]], .i 1, .i 2, .sl []]], .sl []]], .ret [.agg [zC,zF, .sl [.agg [.i 2, .i 1, .i 0, .sl []], .agg [.i 1, .i 3, .i 5, .sl [.agg [.i 1, .i 0, .sl []], .agg [.i 3, .i 4, .sl []]]]], .sl [.agg [.i 3, .i 3, .sl [.agg [.i 1, .i 3, .sl []]], .i 1, .i 2, .sl []]], .sl [.agg [.i 2, .i 1]]], .i 0]),(15,[.agg [zC,zF, .sl [.agg [.i 2, .i 1, .i 0, .sl []], .agg [.i 1, .i 3, .i 5, .sl [.agg [.i 1, .i 0, .sl []], .agg [.i 3, .i 4, .sl []]]]], .sl [.agg [.i 3, .i 3, .sl [.agg [.i 1, .i 3, .sl []]], .i 1, .i 2, .sl []]], .sl [.agg [.i 2, .i 1]]], .agg [.i 1, .i 3, .sl []], .agg [.i 3, .i 2, .sl []]], .ret [.agg [zC,zF, .sl [.agg [.i 2, .i 1, .i 0, .sl []], .agg [.i 1, .i 3, .i 5, .sl [.agg [.i 1, .i 0, .sl []], .agg [.i 3, .i 4, .sl []]]], .agg [.i 3, .i 3, .i 2, .sl []]], .sl [.agg [.i 3, .i 3, .sl [.agg [.i 1, .i 3, .sl []]], .i 1, .i 2, .sl []]], .sl [.agg [.i 2, .i 1]]], .i 0]),(45,[.agg [zC,zF, .sl [.agg [.i 2, .i 1, .i 0, .sl []], .agg [.i 1, .i 3, .i 5, .sl [.agg [.i 1, .i 0, .sl []], .agg [.i 3, .i 4, .sl []]]], .agg [.i 3, .i 3, .i 2, .sl []]], .sl [.agg [.i 3, .i 3, .sl [.agg [.i 1, .i 3, .sl []]], .i 1, .i 2, .sl []]], .sl [.agg [.i 2, .i 1]]]], .ret [.agg [zC,zF, .sl [.agg [.i 2, .i 1, .i 0, .sl []], .agg [.i 1, .i 3, .i 5, .sl [.agg [.i 1, .i 0, .sl []], .agg [.i 3, .i 4, .sl []]]]], .sl [.agg [.i 3, .i 3, .sl [.agg [.i 1, .i 3, .sl []]], .i 1, .i 2, .sl []]], .sl []], .i 0]),(45,[.agg [zC,zF, .sl [.agg [.i 2, .i 1, .i 0, .sl []], .agg [.i 1, .i 3, .i 5, .sl [.agg [.i 1, .i 0, .sl []], .agg [.i 3, .i 4, .sl []]]]], .sl [.agg [.i 3, .i 3, .sl [.agg [.i 1, .i 3, .sl []]], .i 1, .i 2, .sl []]], .sl []]], .ret [.agg [.sl [], .sl [], .sl [], .sl [], .sl []], .i 6]),(14,[], .ret [.bool true])] (fun x h=>by
 simp only[List.mem_cons,List.not_mem_nil,or_false]at h
 rcases h with rfl|rfl|rfl|rfl|rfl|rfl|rfl|rfl|rfl|rfl|rfl|rfl|rfl|rfl
 ·exact KF
 ·exact KG
 ·exact KH
 ·exact KI
 ·exact KJ
 ·exact KK
 ·exact KL
 ·exact KM
 ·exact KN
 ·exact KO
 ·exact KQ
 ·exact KR
 ·exact KT
 ·exact xg)
theorem l0:cp Tryz.prog aG Ho 5000 11 []=some (.ret [.bool true]):=af
theorem oj:bt Tryz.prog 11 [] (.ret [.bool true]):=bt.aL mix aM l0
end Go.Proofs.YtlhemmpklhhgoaaGreat
end
section
namespace Go.Proofs.YtlhemmpklhhgoaaGreat
open Go.ChangeShapes Go.WideShapes Go.RowKit
set_option maxRecDepth 100000 in
theorem jj(os:Os)(started:os.Started)(H:Type)(enc:TypeId×Value->H):
 ReturnsInHanded {} Tryz.checked os 11 .any (Rows.equalKnownSpec.pre6 enc Tryz.prog Tryz.f11 Rows.equalKnownRow.domain false) (Rows.equalKnownSpec.post enc Tryz.prog Tryz.f11 Rows.equalKnownRow.apart Rows.equalKnownRow.fresh Rows.equalKnownRow.handsOn Rows.equalKnownRow.again):=by
 refine returnsInHanded_of_change (C:=Tryz.checked) af started af Tryz.func11
  (ChangeSpec.witness6 (enc:=enc) (C:=Tryz.checked) false ⟨#[],#[],[]⟩ 8 af af af af) ?_
 intro W base args ds gs before dI hW _ _
 exact nF (T:=[]) (tb:=4) af af rfl (fun ds h=>by match ds,h with|[],_=>rfl) af (by intro t ht;cases ht) af (by intro t ht;cases ht)
  (fun xs hx=>by cases xs with|nil=>exact oj|cons x xs=>obtain⟨t,r,e,_⟩:=hx;cases e) base args ds gs before dI hW
theorem equalKnown_holds:Rows.EqualKnownSaid:=
 OpenClaim.holds_of_wide 11 Tryz.f11 rfl rfl rfl rfl rfl rfl rfl ⟨rfl,rfl,rfl,rfl,rfl⟩ rfl rfl rfl rfl rfl af Tryz.func11 af
  (of_decide_eq_true af) (by unfold Func.isWrapper;first|(rw[if_pos (by decide+kernel)];kernel_rfl)|(rw[if_neg (by decide+kernel)];exact⟨rfl,rfl⟩))
  (fun os started H enc _=>jj os started H enc)
end Go.Proofs.YtlhemmpklhhgoaaGreat
end
