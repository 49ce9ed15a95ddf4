/-
  EqualTells: at every call the law answers true, and leaves all memory as it was. Conditions: none.
-/
import Derived.Test.YtlhemmpklhhgoaaGreatRows
import Derived.Test.YtlhemmpklhhgoaaGreatQt21
set_option linter.unusedSimpArgs false
set_option linter.unusedVariables false
section
namespace Go.Proofs.YtlhemmpklhhgoaaGreat
open Go
theorem M4:oK Tryz.prog bU tP 5000 119 [.agg [zC,zF]]=some (.ret [.i 0]):=ai
theorem WQ:aV Tryz.prog 119 [.agg [zC,zF]] (.ret [.i 0]):=aV.gS mix gU M4
theorem PN:oK Tryz.prog bU tP 5000 129 [.agg [zC,zF], .agg [.i 1, .i 0, .sl []]]=some (.ret [.bool true, .bool false, .i 0]):=ai
theorem adj:aV Tryz.prog 129 [.agg [zC,zF], .agg [.i 1, .i 0, .sl []]] (.ret [.bool true, .bool false, .i 0]):=aV.gS mix gU PN
theorem PO:oK Tryz.prog bU tP 5000 129 [.agg [zC,zF], .agg [.i 1, .i 2, .sl []]]=some (.ret [.bool true, .bool false, .i 0]):=ai
theorem adk:aV Tryz.prog 129 [.agg [zC,zF], .agg [.i 1, .i 2, .sl []]] (.ret [.bool true, .bool false, .i 0]):=aV.gS mix gU PO
theorem PQ:oK Tryz.prog bU tP 5000 129 [.agg [zC,zF], .agg [.i 3, .i 5, .sl [.agg [.i 1, .i 0, .sl []], .agg [.i 1, .i 1, .sl []]]]]=some (.ret [.bool true, .bool false, .i 0]):=ai
theorem adl:aV Tryz.prog 129 [.agg [zC,zF], .agg [.i 3, .i 5, .sl [.agg [.i 1, .i 0, .sl []], .agg [.i 1, .i 1, .sl []]]]] (.ret [.bool true, .bool false, .i 0]):=aV.gS mix gU PQ
theorem PR:oK Tryz.prog bU tP 5000 129 [.agg [zC,zF], .agg [.i 3, .i 5, .sl [.agg [.i 1, .i 2, .sl []], .agg [.i 3, .i 5, .sl [.agg [.i 1, .i 0, .sl []], .agg [.i 3, .i 4, .sl []]]]]]]=some (.ret [.bool true, .bool false, .i 0]):=ai
theorem adm:aV Tryz.prog 129 [.agg [zC,zF], .agg [.i 3, .i 5, .sl [.agg [.i 1, .i 2, .sl []], .agg [.i 3, .i 5, .sl [.agg [.i 1, .i 0, .sl []], .agg [.i 3, .i 4, .sl []]]]]]] (.ret [.bool true, .bool false, .i 0]):=aV.gS mix gU PR
theorem PS:oK Tryz.prog bU tP 5000 129 [.agg [zC,zF], .agg [.i 3, .i 5, .sl [.agg [.i 1, .i 0, .sl []], .agg [.i 3, .i 4, .sl []]]]]=some (.ret [.bool true, .bool false, .i 0]):=ai
theorem adn:aV Tryz.prog 129 [.agg [zC,zF], .agg [.i 3, .i 5, .sl [.agg [.i 1, .i 0, .sl []], .agg [.i 3, .i 4, .sl []]]]] (.ret [.bool true, .bool false, .i 0]):=aV.gS mix gU PS
theorem PT:oK Tryz.prog bU tP 5000 129 [.agg [zC,zF], .agg [.i 3, .i 3, .sl [.agg [.i 1, .i 3, .sl []]]]]=some (.ret [.bool true, .bool false, .i 0]):=ai
theorem ado:aV Tryz.prog 129 [.agg [zC,zF], .agg [.i 3, .i 3, .sl [.agg [.i 1, .i 3, .sl []]]]] (.ret [.bool true, .bool false, .i 0]):=aV.gS mix gU PT
theorem PU:oK Tryz.prog bU tP 5000 129 [.agg [zC,zF], .agg [.i 3, .i 3, .sl [.agg [.i 3, .i 2, .sl []]]]]=some (.ret [.bool true, .bool true, .i 0]):=ai
theorem adp:aV Tryz.prog 129 [.agg [zC,zF], .agg [.i 3, .i 3, .sl [.agg [.i 3, .i 2, .sl []]]]] (.ret [.bool true, .bool true, .i 0]):=aV.gS mix gU PU
def DS:qQ Tryz.prog:=qQ.of WO [(119,[.agg [zC,zF]], .ret [.i 0]),(129,[.agg [zC,zF], .agg [.i 1, .i 0, .sl []]], .ret [.bool true, .bool false, .i 0]),(129,[.agg [zC,zF], .agg [.i 1, .i 2, .sl []]], .ret [.bool true, .bool false, .i 0]),(129,[.agg [zC,zF], .agg [.i 3, .i 5, .sl [.agg [.i 1, .i 0, .sl []], .agg [.i 1, .i 1, .sl []]]]], .ret [.bool true, .bool false, .i 0]),(129,[.agg [zC,zF], .agg [.i 3, .i 5, .sl [.agg [.i 1, .i 2, .sl []], .agg [.i 3, .i 5, .sl [.agg [.i 1, .i 0, .sl []], .agg [.i 3, .i 4, .sl []]]]]]], .ret [.bool true, .bool false, .i 0]),(129,[.agg [zC,zF], .agg [.i 3, .i 5, .sl [.agg [.i 1, .i 0, .sl []], .agg [.i 3, .i 4, .sl []]]]], .ret [.bool true, .bool false, .i 0]),(129,[.agg [zC,zF], .agg [.i 3, .i 3, .sl [.agg [.i 1, .i 3, .sl []]]]], .ret [.bool true, .bool false, .i 0]),(129,[.agg [zC,zF], .agg [.i 3, .i 3, .sl [.agg [.i 3, .i 2, .sl []]]]], .ret [.bool true, .bool true, .i 0])] (fun x h=>by
 simp only[List.mem_cons,List.not_mem_nil,or_false]at h
 rcases h with rfl|rfl|rfl|rfl|rfl|rfl|rfl|rfl
 ·exact WQ
 ·exact adj
 ·exact adk
 ·exact adl
 ·exact adm
 ·exact adn
 ·exact ado
 ·exact adp)
end Go.Proofs.YtlhemmpklhhgoaaGreat
end
section
namespace Go.Proofs.YtlhemmpklhhgoaaGreat
open Go
theorem WR:oK Tryz.prog bU DS 5000 15 [.agg [zC,zF, .sl [], .sl [], .sl []], .agg [.i 3, .i 5, .sl [.agg [.i 1, .i 0, .sl []], .agg [.i 1, .i 1, .sl []]]], .agg [.i 3, .i 5, .sl [.agg [.i 1, .i 2, .sl []], .agg [.i 3, .i 5, .sl [.agg [.i 1, .i 0, .sl []], .agg [.i 3, .i 4, .sl []]]]]]]=some (.ret [.agg [zC,zF, .sl [.agg [.i 2, .i 1, .i 0, .sl []], .agg [.i 1, .i 3, .i 5, .sl [.agg [.i 1, .i 0, .sl []], .agg [.i 3, .i 4, .sl []]]]], .sl [], .sl []], .i 0]):=ai
theorem afq:aV Tryz.prog 15 [.agg [zC,zF, .sl [], .sl [], .sl []], .agg [.i 3, .i 5, .sl [.agg [.i 1, .i 0, .sl []], .agg [.i 1, .i 1, .sl []]]], .agg [.i 3, .i 5, .sl [.agg [.i 1, .i 2, .sl []], .agg [.i 3, .i 5, .sl [.agg [.i 1, .i 0, .sl []], .agg [.i 3, .i 4, .sl []]]]]]] (.ret [.agg [zC,zF, .sl [.agg [.i 2, .i 1, .i 0, .sl []], .agg [.i 1, .i 3, .i 5, .sl [.agg [.i 1, .i 0, .sl []], .agg [.i 3, .i 4, .sl []]]]], .sl [], .sl []], .i 0]):=aV.gS mix gU WR
end Go.Proofs.YtlhemmpklhhgoaaGreat
end
section
namespace Go.Proofs.YtlhemmpklhhgoaaGreat
open Go
theorem WS:oK Tryz.prog bU DS 5000 16 [.agg [zC,zF, .sl [.agg [.i 2, .i 1, .i 0, .sl []], .agg [.i 1, .i 3, .i 5, .sl [.agg [.i 1, .i 0, .sl []], .agg [.i 3, .i 4, .sl []]]]], .sl [], .sl []], .agg [.i 3, .i 3, .sl [.agg [.i 1, .i 3, .sl []]]], .agg [.i 1, .i 2, .sl []]]=some (.ret [.agg [zC,zF, .sl [.agg [.i 2, .i 1, .i 0, .sl []], .agg [.i 1, .i 3, .i 5, .sl [.agg [.i 1, .i 0, .sl []], .agg [.i 3, .i 4, .sl []]]]], .sl [.agg [.i 3, .i 3, .sl [.agg [.i 1, .i 3, .sl []]], .i 1, .i 2, .sl []]], .sl []], .i 0]):=ai
theorem afr:aV Tryz.prog 16 [.agg [zC,zF, .sl [.agg [.i 2, .i 1, .i 0, .sl []], .agg [.i 1, .i 3, .i 5, .sl [.agg [.i 1, .i 0, .sl []], .agg [.i 3, .i 4, .sl []]]]], .sl [], .sl []], .agg [.i 3, .i 3, .sl [.agg [.i 1, .i 3, .sl []]]], .agg [.i 1, .i 2, .sl []]] (.ret [.agg [zC,zF, .sl [.agg [.i 2, .i 1, .i 0, .sl []], .agg [.i 1, .i 3, .i 5, .sl [.agg [.i 1, .i 0, .sl []], .agg [.i 3, .i 4, .sl []]]]], .sl [.agg [.i 3, .i 3, .sl [.agg [.i 1, .i 3, .sl []]], .i 1, .i 2, .sl []]], .sl []], .i 0]):=aV.gS mix gU WS
end Go.Proofs.YtlhemmpklhhgoaaGreat
end
section
namespace Go.Proofs.YtlhemmpklhhgoaaGreat
open Go
theorem WT:oK Tryz.prog bU DS 5000 15 [.agg [zC,zF, .sl [.agg [.i 2, .i 1, .i 0, .sl []], .agg [.i 1, .i 3, .i 5, .sl [.agg [.i 1, .i 0, .sl []], .agg [.i 3, .i 4, .sl []]]]], .sl [.agg [.i 3, .i 3, .sl [.agg [.i 1, .i 3, .sl []]], .i 1, .i 2, .sl []]], .sl []], .agg [.i 1, .i 0, .sl []], .agg [.i 3, .i 3, .sl [.agg [.i 1, .i 3, .sl []]]]]=some (.ret [.agg [.sl [], .sl [], .sl [], .sl [], .sl []], .i 5]):=ai
theorem afs:aV Tryz.prog 15 [.agg [zC,zF, .sl [.agg [.i 2, .i 1, .i 0, .sl []], .agg [.i 1, .i 3, .i 5, .sl [.agg [.i 1, .i 0, .sl []], .agg [.i 3, .i 4, .sl []]]]], .sl [.agg [.i 3, .i 3, .sl [.agg [.i 1, .i 3, .sl []]], .i 1, .i 2, .sl []]], .sl []], .agg [.i 1, .i 0, .sl []], .agg [.i 3, .i 3, .sl [.agg [.i 1, .i 3, .sl []]]]] (.ret [.agg [.sl [], .sl [], .sl [], .sl [], .sl []], .i 5]):=aV.gS mix gU WT
end Go.Proofs.YtlhemmpklhhgoaaGreat
end
section
namespace Go.Proofs.YtlhemmpklhhgoaaGreat
open Go
theorem WU:oK Tryz.prog bU DS 5000 24 [.agg [zC,zF, .sl [.agg [.i 2, .i 1, .i 0, .sl []], .agg [.i 1, .i 3, .i 5, .sl [.agg [.i 1, .i 0, .sl []], .agg [.i 3, .i 4, .sl []]]]], .sl [.agg [.i 3, .i 3, .sl [.agg [.i 1, .i 3, .sl []]], .i 1, .i 2, .sl []]], .sl []]]=some (.ret [.agg [.sl [.agg [.i 1, .i 3, .i 5, .sl [.agg [.i 1, .i 0, .sl []], .agg [.i 3, .i 4, .sl []]]], .agg [.i 2, .i 1, .i 0, .sl []]], .sl [.sl [.agg [.i 0, .i 3, .i 3, .sl [.agg [.i 1, .i 3, .sl []]]]]]], .i 0]):=ai
theorem aft:aV Tryz.prog 24 [.agg [zC,zF, .sl [.agg [.i 2, .i 1, .i 0, .sl []], .agg [.i 1, .i 3, .i 5, .sl [.agg [.i 1, .i 0, .sl []], .agg [.i 3, .i 4, .sl []]]]], .sl [.agg [.i 3, .i 3, .sl [.agg [.i 1, .i 3, .sl []]], .i 1, .i 2, .sl []]], .sl []]] (.ret [.agg [.sl [.agg [.i 1, .i 3, .i 5, .sl [.agg [.i 1, .i 0, .sl []], .agg [.i 3, .i 4, .sl []]]], .agg [.i 2, .i 1, .i 0, .sl []]], .sl [.sl [.agg [.i 0, .i 3, .i 3, .sl [.agg [.i 1, .i 3, .sl []]]]]]], .i 0]):=aV.gS mix gU WU
end Go.Proofs.YtlhemmpklhhgoaaGreat
end
section
namespace Go.Proofs.YtlhemmpklhhgoaaGreat
open Go
theorem WV:oK Tryz.prog bU DS 5000 35 [.agg [zC,zF, .sl [.agg [.i 2, .i 1, .i 0, .sl []], .agg [.i 1, .i 3, .i 5, .sl [.agg [.i 1, .i 0, .sl []], .agg [.i 3, .i 4, .sl []]]]], .sl [.agg [.i 3, .i 3, .sl [.agg [.i 1, .i 3, .sl []]], .i 1, .i 2, .sl []]], .sl []], .agg [.i 1, .i 0, .sl []], .agg [.i 3, .i 3, .sl [.agg [.i 3, .i 2, .sl []]]]]=some (.ret [.i 3, .i 0]):=ai
theorem afu:aV Tryz.prog 35 [.agg [zC,zF, .sl [.agg [.i 2, .i 1, .i 0, .sl []], .agg [.i 1, .i 3, .i 5, .sl [.agg [.i 1, .i 0, .sl []], .agg [.i 3, .i 4, .sl []]]]], .sl [.agg [.i 3, .i 3, .sl [.agg [.i 1, .i 3, .sl []]], .i 1, .i 2, .sl []]], .sl []], .agg [.i 1, .i 0, .sl []], .agg [.i 3, .i 3, .sl [.agg [.i 3, .i 2, .sl []]]]] (.ret [.i 3, .i 0]):=aV.gS mix gU WV
end Go.Proofs.YtlhemmpklhhgoaaGreat
end
section
namespace Go.Proofs.YtlhemmpklhhgoaaGreat
open Go
def adq:qQ Tryz.prog:=qQ.of WO [(15,[.agg [zC,zF, .sl [], .sl [], .sl []], .agg [.i 3, .i 5, .sl [.agg [.i 1, .i 0, .sl []], .agg [.i 1, .i 1, .sl []]]], .agg [.i 3, .i 5, .sl [.agg [.i 1, .i 2, .sl []], .agg [.i 3, .i 5, .sl [.agg [.i 1, .i 0, .sl []], .agg [.i 3, .i 4, .sl []]]]]]], .ret [.agg [zC,zF, .sl [.agg [.i 2, .i 1, .i 0, .sl []], .agg [.i 1, .i 3, .i 5, .sl [.agg [.i 1, .i 0, .sl []], .agg [.i 3, .i 4, .sl []]]]], .sl [], .sl []], .i 0]),(16,[.agg [zC,zF, .sl [.agg [.i 2, .i 1, .i 0, .sl []], .agg [.i 1, .i 3, .i 5, .sl [.agg [.i 1, .i 0, .sl []], .agg [.i 3, .i 4, .sl []]]]], .sl [], .sl []], .agg [.i 3, .i 3, .sl [.agg [.i 1, .i 3, .sl []]]], .agg [.i 1, .i 2, .sl []]], .ret [.agg [zC,zF, .sl [.agg [.i 2, .i 1, .i 0, .sl []], .agg [.i 1, .i 3, .i 5, .sl [.agg [.i 1, .i 0, .sl []], .agg [.i 3, .i 4, .sl []]]]], .sl [.agg [.i 3, .i 3, .sl [.agg [.i 1, .i 3, .sl []]], .i 1, .i 2, .sl []]], .sl []], .i 0]),(15,[.agg [zC,zF, .sl [.agg [.i 2, .i 1, .i 0, .sl []], .agg [.i 1, .i 3, .i 5, .sl [.agg [.i 1, .i 0, .sl []], .agg [.i 3, .i 4, .sl []]]]], .sl [.agg [.i 3, .i 3, .sl [.agg [.i 1, .i 3, .sl []]], .i 1, .i 2, .sl []]], .sl []], .agg [.i 1, .i 0, .sl []], .agg [.i 3, .i 3, .sl [.agg [.i 1, .i 3, .sl []]]]], .ret [.agg [.sl [], .sl [], .sl [], .sl [], .sl []], .i 5]),(24,[.agg [zC,zF, .sl [.agg [.i 2, .i 1, .i 0, .sl []], .agg [.i 1, .i 3, .i 5, .sl [.agg [.i 1, .i 0, .sl []], .agg [.i 3, .i 4, .sl []]]]], .sl [.agg [.i 3, .i 3, .sl [.agg [.i 1, .i 3, .sl []]], .i 1, .i 2, .sl []]], .sl []]], .ret [.agg [.sl [.agg [.i 1, .i 3, .i 5, .sl [.agg [.i 1, .i 0, .sl []], .agg [.i 3, .i 4, .sl []]]], .agg [.i 2, .i 1, .i 0, .sl []]], .sl [.sl [.agg [.i 0, .i 3, .i 3, .sl [.agg [.i 1, .i 3, .sl []]]]]]], .i 0]),(35,[.agg [zC,zF, .sl [.agg [.i 2, .i 1, .i 0, .sl []], .agg [.i 1, .i 3, .i 5, .sl [.agg [.i 1, .i 0, .sl []], .agg [.i 3, .i 4, .sl []]]]], .sl [.agg [.i 3, .i 3, .sl [.agg [.i 1, .i 3, .sl []]], .i 1, .i 2, .sl []]], .sl []], .agg [.i 1, .i 0, .sl []], .agg [.i 3, .i 3, .sl [.agg [.i 3, .i 2, .sl []]]]], .ret [.i 3, .i 0])] (fun x h=>by
 simp only[List.mem_cons,List.not_mem_nil,or_false]at h
 rcases h with rfl|rfl|rfl|rfl|rfl
 ·exact afq
 ·exact afr
 ·exact afs
 ·exact aft
 ·exact afu)
theorem DT:oK Tryz.prog bU adq 5000 14 []=some (.ret [.bool true]):=ai
theorem PV:aV Tryz.prog 14 [] (.ret [.bool true]):=aV.gS mix gU DT
end Go.Proofs.YtlhemmpklhhgoaaGreat
end
section
namespace Go.Proofs.YtlhemmpklhhgoaaGreat
open Go.ChangeShapes Go.WideShapes Go.RowKit
set_option maxRecDepth 100000 in
theorem rC(os:Os)(started:os.Started)(H:Type)(enc:TypeId×Value->H):
 ReturnsInHanded {} Tryz.checked os 3 .any (Rows.equalTellsSpec.pre6 enc Tryz.prog Tryz.f3 Rows.equalTellsRow.domain false) (Rows.equalTellsSpec.post enc Tryz.prog Tryz.f3 Rows.equalTellsRow.apart Rows.equalTellsRow.fresh Rows.equalTellsRow.handsOn Rows.equalTellsRow.again):=by
 refine returnsInHanded_of_change (C:=Tryz.checked) ai started ai Tryz.func3
  (ChangeSpec.witness6 (enc:=enc) (C:=Tryz.checked) false ⟨#[],#[.agg #[.slice none 0 0, .slice none 0 0, .slice none 0 0, .slice none 0 0, .slice none 0 0], .agg #[.int .i64 0, .int .i64 0, .slice none 0 0], .agg #[.int .i64 0, .int .i64 0, .slice none 0 0]],[]⟩ 8 ai ai ai ai) ?_
 intro W base args ds gs before fK hW _ _
 refine Bg (T:=[29,24,22,124,9,3,25,59,31,33,30,26,101,27,77]) (tb:=4) ai ai rfl (fun ds h=>by match ds,h with|[_,_,_],_=>rfl) ai (by intro t ht;rw[Tryz.params3]at ht;simp at ht;rcases ht with rfl|rfl<;>simp) ai (by intro t ht;rw[Tryz.params3]at ht;simp at ht;rcases ht with rfl|rfl<;>exact⟨ai,of_decide_eq_true ai⟩)
  (fun xs hx=> ?_) base args ds gs before fK hW
 rw[Tryz.params3]at hx
 obtain⟨x0,xs,rfl,hx0,hx⟩:=a7 hx
 obtain⟨x1,xs,rfl,hx1,hx⟩:=a7 hx
 obtain⟨x2,xs,rfl,NV,hx⟩:=a7 hx
 have:=iD hx;subst this
 obtain⟨q0,rfl,hq0⟩:=adi hx0
 obtain⟨t1,rfl,Bk⟩:=PL hx1
 obtain⟨t2,rfl,ht2⟩:=PL NV
 exact Bf PV q0 hq0 t1 Bk t2 ht2
theorem equalTells_holds:Rows.EqualTellsSaid:=
 OpenClaim.holds_of_wide 3 Tryz.f3 rfl rfl rfl rfl rfl rfl rfl ⟨rfl,rfl,rfl,rfl,rfl⟩ rfl rfl rfl rfl rfl ai Tryz.func3 ai
  (of_decide_eq_true ai) (by unfold Func.isWrapper;first|(rw[if_pos (by decide+kernel)];kernel_rfl)|(rw[if_neg (by decide+kernel)];exact⟨rfl,rfl⟩))
  (fun os started H enc _=>rC os started H enc)
end Go.Proofs.YtlhemmpklhhgoaaGreat
end
