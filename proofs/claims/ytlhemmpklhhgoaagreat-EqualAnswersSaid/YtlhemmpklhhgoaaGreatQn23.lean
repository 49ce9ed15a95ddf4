/-
  EqualAnswers: at every call the law answers true, and leaves all memory as it was. Conditions: none.
-/
import Derived.Test.YtlhemmpklhhgoaaGreatRows
import Derived.Test.YtlhemmpklhhgoaaGreatQn22
set_option linter.unusedSimpArgs false
set_option linter.unusedVariables false
section
namespace Go.Proofs.YtlhemmpklhhgoaaGreat
open Go
theorem OU:pv Tryz.prog bX uq 5000 119 [.agg [zC,zF]]=some (.ret [.i 0]):=ai
theorem Zb:aX Tryz.prog 119 [.agg [zC,zF]] (.ret [.i 0]):=aX.ig mix ij OU
theorem RS:pv Tryz.prog bX uq 5000 129 [.agg [zC,zF], .agg [.i 1, .i 0, .sl []]]=some (.ret [.bool true, .bool false, .i 0]):=ai
theorem afb:aX Tryz.prog 129 [.agg [zC,zF], .agg [.i 1, .i 0, .sl []]] (.ret [.bool true, .bool false, .i 0]):=aX.ig mix ij RS
theorem RT:pv Tryz.prog bX uq 5000 129 [.agg [zC,zF], .agg [.i 1, .i 2, .sl []]]=some (.ret [.bool true, .bool false, .i 0]):=ai
theorem afc:aX Tryz.prog 129 [.agg [zC,zF], .agg [.i 1, .i 2, .sl []]] (.ret [.bool true, .bool false, .i 0]):=aX.ig mix ij RT
theorem RU:pv Tryz.prog bX uq 5000 129 [.agg [zC,zF], .agg [.i 3, .i 5, .sl [.agg [.i 1, .i 0, .sl []], .agg [.i 1, .i 1, .sl []]]]]=some (.ret [.bool true, .bool false, .i 0]):=ai
theorem afd:aX Tryz.prog 129 [.agg [zC,zF], .agg [.i 3, .i 5, .sl [.agg [.i 1, .i 0, .sl []], .agg [.i 1, .i 1, .sl []]]]] (.ret [.bool true, .bool false, .i 0]):=aX.ig mix ij RU
theorem RV:pv Tryz.prog bX uq 5000 129 [.agg [zC,zF], .agg [.i 3, .i 5, .sl [.agg [.i 1, .i 2, .sl []], .agg [.i 3, .i 5, .sl [.agg [.i 1, .i 0, .sl []], .agg [.i 3, .i 4, .sl []]]]]]]=some (.ret [.bool true, .bool false, .i 0]):=ai
theorem afe:aX Tryz.prog 129 [.agg [zC,zF], .agg [.i 3, .i 5, .sl [.agg [.i 1, .i 2, .sl []], .agg [.i 3, .i 5, .sl [.agg [.i 1, .i 0, .sl []], .agg [.i 3, .i 4, .sl []]]]]]] (.ret [.bool true, .bool false, .i 0]):=aX.ig mix ij RV
theorem RW:pv Tryz.prog bX uq 5000 129 [.agg [zC,zF], .agg [.i 3, .i 5, .sl [.agg [.i 1, .i 0, .sl []], .agg [.i 3, .i 4, .sl []]]]]=some (.ret [.bool true, .bool false, .i 0]):=ai
theorem aff:aX Tryz.prog 129 [.agg [zC,zF], .agg [.i 3, .i 5, .sl [.agg [.i 1, .i 0, .sl []], .agg [.i 3, .i 4, .sl []]]]] (.ret [.bool true, .bool false, .i 0]):=aX.ig mix ij RW
theorem RX:pv Tryz.prog bX uq 5000 129 [.agg [zC,zF], .agg [.i 3, .i 3, .sl [.agg [.i 1, .i 3, .sl []]]]]=some (.ret [.bool true, .bool false, .i 0]):=ai
theorem afg:aX Tryz.prog 129 [.agg [zC,zF], .agg [.i 3, .i 3, .sl [.agg [.i 1, .i 3, .sl []]]]] (.ret [.bool true, .bool false, .i 0]):=aX.ig mix ij RX
theorem RY:pv Tryz.prog bX uq 5000 129 [.agg [zC,zF], .agg [.i 3, .i 3, .sl [.agg [.i 3, .i 2, .sl []]]]]=some (.ret [.bool true, .bool true, .i 0]):=ai
theorem afh:aX Tryz.prog 129 [.agg [zC,zF], .agg [.i 3, .i 3, .sl [.agg [.i 3, .i 2, .sl []]]]] (.ret [.bool true, .bool true, .i 0]):=aX.ig mix ij RY
def EC:rC Tryz.prog:=rC.of Za [(119,[.agg [zC,zF]], .ret [.i 0]),(129,[.agg [zC,zF], .agg [.i 1, .i 0, .sl []]], .ret [.bool true, .bool false, .i 0]),(129,[.agg [zC,zF], .agg [.i 1, .i 2, .sl []]], .ret [.bool true, .bool false, .i 0]),(129,[.agg [zC,zF], .agg [.i 3, .i 5, .sl [.agg [.i 1, .i 0, .sl []], .agg [.i 1, .i 1, .sl []]]]], .ret [.bool true, .bool false, .i 0]),(129,[.agg [zC,zF], .agg [.i 3, .i 5, .sl [.agg [.i 1, .i 2, .sl []], .agg [.i 3, .i 5, .sl [.agg [.i 1, .i 0, .sl []], .agg [.i 3, .i 4, .sl []]]]]]], .ret [.bool true, .bool false, .i 0]),(129,[.agg [zC,zF], .agg [.i 3, .i 5, .sl [.agg [.i 1, .i 0, .sl []], .agg [.i 3, .i 4, .sl []]]]], .ret [.bool true, .bool false, .i 0]),(129,[.agg [zC,zF], .agg [.i 3, .i 3, .sl [.agg [.i 1, .i 3, .sl []]]]], .ret [.bool true, .bool false, .i 0]),(129,[.agg [zC,zF], .agg [.i 3, .i 3, .sl [.agg [.i 3, .i 2, .sl []]]]], .ret [.bool true, .bool true, .i 0])] (fun x h=>by
 simp only[List.mem_cons,List.not_mem_nil,or_false]at h
 rcases h with rfl|rfl|rfl|rfl|rfl|rfl|rfl|rfl
 ·exact Zb
 ·exact afb
 ·exact afc
 ·exact afd
 ·exact afe
 ·exact aff
 ·exact afg
 ·exact afh)
end Go.Proofs.YtlhemmpklhhgoaaGreat
end
section
namespace Go.Proofs.YtlhemmpklhhgoaaGreat
open Go
theorem Zc:pv Tryz.prog bX EC 5000 15 [.agg [zC,zF, .sl [], .sl [], .sl []], .agg [.i 3, .i 5, .sl [.agg [.i 1, .i 0, .sl []], .agg [.i 1, .i 1, .sl []]]], .agg [.i 3, .i 5, .sl [.agg [.i 1, .i 2, .sl []], .agg [.i 3, .i 5, .sl [.agg [.i 1, .i 0, .sl []], .agg [.i 3, .i 4, .sl []]]]]]]=some (.ret [.agg [zC,zF, .sl [.agg [.i 2, .i 1, .i 0, .sl []], .agg [.i 1, .i 3, .i 5, .sl [.agg [.i 1, .i 0, .sl []], .agg [.i 3, .i 4, .sl []]]]], .sl [], .sl []], .i 0]):=ai
theorem ahk:aX Tryz.prog 15 [.agg [zC,zF, .sl [], .sl [], .sl []], .agg [.i 3, .i 5, .sl [.agg [.i 1, .i 0, .sl []], .agg [.i 1, .i 1, .sl []]]], .agg [.i 3, .i 5, .sl [.agg [.i 1, .i 2, .sl []], .agg [.i 3, .i 5, .sl [.agg [.i 1, .i 0, .sl []], .agg [.i 3, .i 4, .sl []]]]]]] (.ret [.agg [zC,zF, .sl [.agg [.i 2, .i 1, .i 0, .sl []], .agg [.i 1, .i 3, .i 5, .sl [.agg [.i 1, .i 0, .sl []], .agg [.i 3, .i 4, .sl []]]]], .sl [], .sl []], .i 0]):=aX.ig mix ij Zc
end Go.Proofs.YtlhemmpklhhgoaaGreat
end
section
namespace Go.Proofs.YtlhemmpklhhgoaaGreat
open Go
theorem Zd:pv Tryz.prog bX EC 5000 16 [.agg [zC,zF, .sl [.agg [.i 2, .i 1, .i 0, .sl []], .agg [.i 1, .i 3, .i 5, .sl [.agg [.i 1, .i 0, .sl []], .agg [.i 3, .i 4, .sl []]]]], .sl [], .sl []], .agg [.i 3, .i 3, .sl [.agg [.i 1, .i 3, .sl []]]], .agg [.i 1, .i 2, .sl []]]=some (.ret [.agg [zC,zF, .sl [.agg [.i 2, .i 1, .i 0, .sl []], .agg [.i 1, .i 3, .i 5, .sl [.agg [.i 1, .i 0, .sl []], .agg [.i 3, .i 4, .sl []]]]], .sl [.agg [.i 3, .i 3, .sl [.agg [.i 1, .i 3, .sl []]], .i 1, .i 2, .sl []]], .sl []], .i 0]):=ai
theorem ahl:aX Tryz.prog 16 [.agg [zC,zF, .sl [.agg [.i 2, .i 1, .i 0, .sl []], .agg [.i 1, .i 3, .i 5, .sl [.agg [.i 1, .i 0, .sl []], .agg [.i 3, .i 4, .sl []]]]], .sl [], .sl []], .agg [.i 3, .i 3, .sl [.agg [.i 1, .i 3, .sl []]]], .agg [.i 1, .i 2, .sl []]] (.ret [.agg [zC,zF, .sl [.agg [.i 2, .i 1, .i 0, .sl []], .agg [.i 1, .i 3, .i 5, .sl [.agg [.i 1, .i 0, .sl []], .agg [.i 3, .i 4, .sl []]]]], .sl [.agg [.i 3, .i 3, .sl [.agg [.i 1, .i 3, .sl []]], .i 1, .i 2, .sl []]], .sl []], .i 0]):=aX.ig mix ij Zd
end Go.Proofs.YtlhemmpklhhgoaaGreat
end
section
namespace Go.Proofs.YtlhemmpklhhgoaaGreat
open Go
theorem Ze:pv Tryz.prog bX EC 5000 15 [.agg [zC,zF, .sl [.agg [.i 2, .i 1, .i 0, .sl []], .agg [.i 1, .i 3, .i 5, .sl [.agg [.i 1, .i 0, .sl []], .agg [.i 3, .i 4, .sl []]]]], .sl [.agg [.i 3, .i 3, .sl [.agg [.i 1, .i 3, .sl []]], .i 1, .i 2, .sl []]], .sl []], .agg [.i 1, .i 0, .sl []], .agg [.i 3, .i 3, .sl [.agg [.i 1, .i 3, .sl []]]]]=some (.ret [.agg [.sl [], .sl [], .sl [], .sl [], .sl []], .i 5]):=ai
theorem ahm:aX Tryz.prog 15 [.agg [zC,zF, .sl [.agg [.i 2, .i 1, .i 0, .sl []], .agg [.i 1, .i 3, .i 5, .sl [.agg [.i 1, .i 0, .sl []], .agg [.i 3, .i 4, .sl []]]]], .sl [.agg [.i 3, .i 3, .sl [.agg [.i 1, .i 3, .sl []]], .i 1, .i 2, .sl []]], .sl []], .agg [.i 1, .i 0, .sl []], .agg [.i 3, .i 3, .sl [.agg [.i 1, .i 3, .sl []]]]] (.ret [.agg [.sl [], .sl [], .sl [], .sl [], .sl []], .i 5]):=aX.ig mix ij Ze
end Go.Proofs.YtlhemmpklhhgoaaGreat
end
section
namespace Go.Proofs.YtlhemmpklhhgoaaGreat
open Go
theorem Zf:pv Tryz.prog bX EC 5000 24 [.agg [zC,zF, .sl [.agg [.i 2, .i 1, .i 0, .sl []], .agg [.i 1, .i 3, .i 5, .sl [.agg [.i 1, .i 0, .sl []], .agg [.i 3, .i 4, .sl []]]]], .sl [.agg [.i 3, .i 3, .sl [.agg [.i 1, .i 3, .sl []]], .i 1, .i 2, .sl []]], .sl []]]=some (.ret [.agg [.sl [.agg [.i 1, .i 3, .i 5, .sl [.agg [.i 1, .i 0, .sl []], .agg [.i 3, .i 4, .sl []]]], .agg [.i 2, .i 1, .i 0, .sl []]], .sl [.sl [.agg [.i 0, .i 3, .i 3, .sl [.agg [.i 1, .i 3, .sl []]]]]]], .i 0]):=ai
theorem ahn:aX Tryz.prog 24 [.agg [zC,zF, .sl [.agg [.i 2, .i 1, .i 0, .sl []], .agg [.i 1, .i 3, .i 5, .sl [.agg [.i 1, .i 0, .sl []], .agg [.i 3, .i 4, .sl []]]]], .sl [.agg [.i 3, .i 3, .sl [.agg [.i 1, .i 3, .sl []]], .i 1, .i 2, .sl []]], .sl []]] (.ret [.agg [.sl [.agg [.i 1, .i 3, .i 5, .sl [.agg [.i 1, .i 0, .sl []], .agg [.i 3, .i 4, .sl []]]], .agg [.i 2, .i 1, .i 0, .sl []]], .sl [.sl [.agg [.i 0, .i 3, .i 3, .sl [.agg [.i 1, .i 3, .sl []]]]]]], .i 0]):=aX.ig mix ij Zf
end Go.Proofs.YtlhemmpklhhgoaaGreat
end
section
namespace Go.Proofs.YtlhemmpklhhgoaaGreat
open Go
theorem Zg:pv Tryz.prog bX EC 5000 35 [.agg [zC,zF, .sl [.agg [.i 2, .i 1, .i 0, .sl []], .agg [.i 1, .i 3, .i 5, .sl [.agg [.i 1, .i 0, .sl []], .agg [.i 3, .i 4, .sl []]]]], .sl [.agg [.i 3, .i 3, .sl [.agg [.i 1, .i 3, .sl []]], .i 1, .i 2, .sl []]], .sl []], .agg [.i 1, .i 0, .sl []], .agg [.i 3, .i 3, .sl [.agg [.i 3, .i 2, .sl []]]]]=some (.ret [.i 3, .i 0]):=ai
theorem aho:aX Tryz.prog 35 [.agg [zC,zF, .sl [.agg [.i 2, .i 1, .i 0, .sl []], .agg [.i 1, .i 3, .i 5, .sl [.agg [.i 1, .i 0, .sl []], .agg [.i 3, .i 4, .sl []]]]], .sl [.agg [.i 3, .i 3, .sl [.agg [.i 1, .i 3, .sl []]], .i 1, .i 2, .sl []]], .sl []], .agg [.i 1, .i 0, .sl []], .agg [.i 3, .i 3, .sl [.agg [.i 3, .i 2, .sl []]]]] (.ret [.i 3, .i 0]):=aX.ig mix ij Zg
end Go.Proofs.YtlhemmpklhhgoaaGreat
end
section
namespace Go.Proofs.YtlhemmpklhhgoaaGreat
open Go
def afi:rC Tryz.prog:=rC.of Za [(15,[.agg [zC,zF, .sl [], .sl [], .sl []], .agg [.i 3, .i 5, .sl [.agg [.i 1, .i 0, .sl []], .agg [.i 1, .i 1, .sl []]]], .agg [.i 3, .i 5, .sl [.agg [.i 1, .i 2, .sl []], .agg [.i 3, .i 5, .sl [.agg [.i 1, .i 0, .sl []], .agg [.i 3, .i 4, .sl []]]]]]], .ret [.agg [zC,zF, .sl [.agg [.i 2, .i 1, .i 0, .sl []], .agg [.i 1, .i 3, .i 5, .sl [.agg [.i 1, .i 0, .sl []], .agg [.i 3, .i 4, .sl []]]]], .sl [], .sl []], .i 0]),(16,[.agg [zC,zF, .sl [.agg [.i 2, .i 1, .i 0, .sl []], .agg [.i 1, .i 3, .i 5, .sl [.agg [.i 1, .i 0, .sl []], .agg [.i 3, .i 4, .sl []]]]], .sl [], .sl []], .agg [.i 3, .i 3, .sl [.agg [.i 1, .i 3, .sl []]]], .agg [.i 1, .i 2, .sl []]], .ret [.agg [zC,zF, .sl [.agg [.i 2, .i 1, .i 0, .sl []], .agg [.i 1, .i 3, .i 5, .sl [.agg [.i 1, .i 0, .sl []], .agg [.i 3, .i 4, .sl []]]]], .sl [.agg [.i 3, .i 3, .sl [.agg [.i 1, .i 3, .sl []]], .i 1, .i 2, .sl []]], .sl []], .i 0]),(15,[.agg [zC,zF, .sl [.agg [.i 2, .i 1, .i 0, .sl []], .agg [.i 1, .i 3, .i 5, .sl [.agg [.i 1, .i 0, .sl []], .agg [.i 3, .i 4, .sl []]]]], .sl [.agg [.i 3, .i 3, .sl [.agg [.i 1, .i 3, .sl []]], .i 1, .i 2, .sl []]], .sl []], .agg [.i 1, .i 0, .sl []], .agg [.i 3, .i 3, .sl [.agg [.i 1, .i 3, .sl []]]]], .ret [.agg [.sl [], .sl [], .sl [], .sl [], .sl []], .i 5]),(24,[.agg [zC,zF, .sl [.agg [.i 2, .i 1, .i 0, .sl []], .agg [.i 1, .i 3, .i 5, .sl [.agg [.i 1, .i 0, .sl []], .agg [.i 3, .i 4, .sl []]]]], .sl [.agg [.i 3, .i 3, .sl [.agg [.i 1, .i 3, .sl []]], .i 1, .i 2, .sl []]], .sl []]], .ret [.agg [.sl [.agg [.i 1, .i 3, .i 5, .sl [.agg [.i 1, .i 0, .sl []], .agg [.i 3, .i 4, .sl []]]], .agg [.i 2, .i 1, .i 0, .sl []]], .sl [.sl [.agg [.i 0, .i 3, .i 3, .sl [.agg [.i 1, .i 3, .sl []]]]]]], .i 0]),(35,[.agg [zC,zF, .sl [.agg [.i 2, .i 1, .i 0, .sl []], .agg [.i 1, .i 3, .i 5, .sl [.agg [.i 1, .i 0, .sl []], .agg [.i 3, .i 4, .sl []]]]], .sl [.agg [.i 3, .i 3, .sl [.agg [.i 1, .i 3, .sl []]], .i 1, .i 2, .sl []]], .sl []], .agg [.i 1, .i 0, .sl []], .agg [.i 3, .i 3, .sl [.agg [.i 3, .i 2, .sl []]]]], .ret [.i 3, .i 0])] (fun x h=>by
 simp only[List.mem_cons,List.not_mem_nil,or_false]at h
 rcases h with rfl|rfl|rfl|rfl|rfl
 ·exact ahk
 ·exact ahl
 ·exact ahm
 ·exact ahn
 ·exact aho)
theorem ED:pv Tryz.prog bX afi 5000 14 []=some (.ret [.bool true]):=ai
theorem RZ:aX Tryz.prog 14 [] (.ret [.bool true]):=aX.ig mix ij ED
end Go.Proofs.YtlhemmpklhhgoaaGreat
end
section
namespace Go.Proofs.YtlhemmpklhhgoaaGreat
open Go.ChangeShapes Go.WideShapes Go.RowKit
set_option maxRecDepth 100000 in
theorem pA(os:Os)(started:os.Started)(H:Type)(enc:TypeId×Value->H):
 ReturnsInHanded {} Tryz.checked os 6 .any (Rows.equalAnswersSpec.pre6 enc Tryz.prog Tryz.f6 Rows.equalAnswersRow.domain false) (Rows.equalAnswersSpec.post enc Tryz.prog Tryz.f6 Rows.equalAnswersRow.apart Rows.equalAnswersRow.fresh Rows.equalAnswersRow.handsOn Rows.equalAnswersRow.again):=by
 refine returnsInHanded_of_change (C:=Tryz.checked) ai started ai Tryz.func6
  (ChangeSpec.witness6 (enc:=enc) (C:=Tryz.checked) false ⟨#[],#[.agg #[.slice none 0 0, .slice none 0 0], .slice none 0 0, .agg #[.int .i64 0, .int .i64 0, .slice none 0 0], .agg #[.int .i64 0, .int .i64 0, .slice none 0 0], .slice none 0 0],[]⟩ 8 ai ai ai ai) ?_
 intro W base args ds gs before e9 hW _ _
 refine BJ (T:=[24,22,124,9,3,48,53,31,33,30,4,49,5]) (tb:=4) ai ai rfl (fun ds h=>by match ds,h with|[_,_,_,_,_],_=>rfl) ai (by intro t ht;rw[Tryz.params6]at ht;simp at ht;rcases ht with rfl|rfl|rfl|rfl<;>simp) ai (by intro t ht;rw[Tryz.params6]at ht;simp at ht;rcases ht with rfl|rfl|rfl|rfl<;>exact⟨ai,of_decide_eq_true ai⟩)
  (fun xs hx=> ?_) base args ds gs before e9 hW
 rw[Tryz.params6]at hx
 obtain⟨x0,xs,rfl,hx0,hx⟩:=bK hx
 obtain⟨x1,xs,rfl,hx1,hx⟩:=bK hx
 obtain⟨x2,xs,rfl,hx2,hx⟩:=bK hx
 obtain⟨x3,xs,rfl,hx3,hx⟩:=bK hx
 obtain⟨x4,xs,rfl,hx4,hx⟩:=bK hx
 have:=me hx;subst this
 obtain⟨s0,rfl,nm⟩:=ae8 hx0
 obtain⟨y1,rfl,hy1⟩:=ae9 hx1
 obtain⟨t2,rfl,ht2⟩:=Y9 hx2
 obtain⟨t3,rfl,ht3⟩:=Y9 hx3
 obtain⟨z4,rfl,hz4⟩:=afa hx4
 exact xB RZ s0 nm y1 hy1.1 hy1.2 t2 t3 ht2 ht3 z4 hz4.1 hz4.2
theorem equalAnswers_holds:Rows.EqualAnswersSaid:=
 OpenClaim.holds_of_wide 6 Tryz.f6 rfl rfl rfl rfl rfl rfl rfl ⟨rfl,rfl,rfl,rfl,rfl⟩ rfl rfl rfl rfl rfl ai Tryz.func6 ai
  (of_decide_eq_true ai) (by unfold Func.isWrapper;first|(rw[if_pos (by decide+kernel)];kernel_rfl)|(rw[if_neg (by decide+kernel)];exact⟨rfl,rfl⟩))
  (fun os started H enc _=>pA os started H enc)
end Go.Proofs.YtlhemmpklhhgoaaGreat
end
