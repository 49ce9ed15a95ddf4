/-
  LogicKnown: at every call the law answers true (the examples of chapter 6), and leaves all memory as it was. Conditions: none.
-/
import Derived.Test.YtpkobkdgcanmjaaGreatRows
import Derived.Test.YtpkobkdgcanmjaaGreatLk12
set_option linter.unusedSimpArgs false
set_option linter.unusedVariables false
section
namespace Go.Proofs.YtpkobkdgcanmjaaGreat
open Go
def Jq:il Tryz.prog:=il.of wu [(57,[xP], .ret [.i 0]),(20,[], .ret [xP]),(29,[xP,wv,sP,sO], .ret [.agg [.i 3, .i 3, .sl [.agg [.i 1, .i 7, .sl []]]], .i 0]),(29,[xP, .sl [],At,Jo], .ret [.agg [.i 3, .i 3, .sl [.agg [.i 3, .i 2, .sl []]]], .i 0]),(29,[xP, .sl [],At,Jp], .ret [.agg [.i 0, .i 0, .sl []], .i 7]),(38,[xP,sO], .ret [.sl [.i 1, .i 0], .i 9, .i 0])] (fun x h=>by
 simp only[List.mem_cons,List.not_mem_nil,or_false]at h
 rcases h with rfl|rfl|rfl|rfl|rfl|rfl
 ·exact zp
 ·exact FG
 ·exact FH
 ·exact FI
 ·exact FJ
 ·exact FK
 )
theorem qH:gP Tryz.prog aK Jq 5000 8 []=some (.ret [.bool true]):=by kernel_rfl
theorem zq:dN Tryz.prog 8 [] (.ret [.bool true]):=dN.dt mix du qH
end Go.Proofs.YtpkobkdgcanmjaaGreat
end
section
namespace Go.Proofs.YtpkobkdgcanmjaaGreat
open Go
theorem zr:gP Tryz.prog aK mo 5000 24 [xP,wv,sP,sO, .agg [.i 3, .i 3, .sl [.agg [.i 16, .i 0, .sl []]]]]=some (.ret [.agg [.i 6, .i 3, .i 3, .sl [.agg [.i 16, .i 0, .sl []]], .i 1, .sl [.agg [.i 3, .i 2, .sl []], .agg [.i 1, .i 7, .sl []]], .sl [.agg [.i 4, .i 3, .i 3, .sl [.agg [.i 3, .i 2, .sl []]], .i 0, .sl [], .sl [.agg [.i 4, .i 3, .i 2, .sl [], .i 0, .sl [], .sl []]]], .agg [.i 2, .i 1, .i 7, .sl [], .i 0, .sl [], .sl []], .agg [.i 4, .i 3, .i 3, .sl [.agg [.i 16, .i 0, .sl []]], .i 0, .sl [], .sl [.agg [.i 1, .i 16, .i 0, .sl [], .i 0, .sl [], .sl []]]]]], .i 0]):=by kernel_rfl
theorem Jr:dN Tryz.prog 24 [xP,wv,sP,sO, .agg [.i 3, .i 3, .sl [.agg [.i 16, .i 0, .sl []]]]] (.ret [.agg [.i 6, .i 3, .i 3, .sl [.agg [.i 16, .i 0, .sl []]], .i 1, .sl [.agg [.i 3, .i 2, .sl []], .agg [.i 1, .i 7, .sl []]], .sl [.agg [.i 4, .i 3, .i 3, .sl [.agg [.i 3, .i 2, .sl []]], .i 0, .sl [], .sl [.agg [.i 4, .i 3, .i 2, .sl [], .i 0, .sl [], .sl []]]], .agg [.i 2, .i 1, .i 7, .sl [], .i 0, .sl [], .sl []], .agg [.i 4, .i 3, .i 3, .sl [.agg [.i 16, .i 0, .sl []]], .i 0, .sl [], .sl [.agg [.i 1, .i 16, .i 0, .sl [], .i 0, .sl [], .sl []]]]]], .i 0]):=dN.dt mix du zr
end Go.Proofs.YtpkobkdgcanmjaaGreat
end
section
namespace Go.Proofs.YtpkobkdgcanmjaaGreat
open Go
theorem zt:gP Tryz.prog aK mo 5000 28 [xP,sO, .sl [.agg [.i 7, .i 3, .i 2, .sl []]]]=some (.ret [.agg [.i 6, .i 3, .i 3, .sl [.agg [.i 3, .i 2, .sl []]], .i 1, .sl [.agg [.i 3, .i 2, .sl []], .agg [.i 3, .i 2, .sl []]], .sl [.agg [.i 4, .i 3, .i 3, .sl [.agg [.i 3, .i 2, .sl []]], .i 0, .sl [], .sl [.agg [.i 4, .i 3, .i 2, .sl [], .i 0, .sl [], .sl []]]], .agg [.i 2, .i 3, .i 2, .sl [], .i 0, .sl [], .sl []], .agg [.i 4, .i 3, .i 3, .sl [.agg [.i 3, .i 2, .sl []]], .i 0, .sl [], .sl [.agg [.i 6, .i 3, .i 2, .sl [], .i 0, .sl [.agg [.i 3, .i 2, .sl []]], .sl [.agg [.i 2, .i 3, .i 2, .sl [], .i 0, .sl [], .sl []], .agg [.i 2, .i 3, .i 2, .sl [], .i 0, .sl [], .sl []], .agg [.i 2, .i 3, .i 2, .sl [], .i 0, .sl [], .sl []]]]]]]], .i 0]):=by kernel_rfl
theorem Js:dN Tryz.prog 28 [xP,sO, .sl [.agg [.i 7, .i 3, .i 2, .sl []]]] (.ret [.agg [.i 6, .i 3, .i 3, .sl [.agg [.i 3, .i 2, .sl []]], .i 1, .sl [.agg [.i 3, .i 2, .sl []], .agg [.i 3, .i 2, .sl []]], .sl [.agg [.i 4, .i 3, .i 3, .sl [.agg [.i 3, .i 2, .sl []]], .i 0, .sl [], .sl [.agg [.i 4, .i 3, .i 2, .sl [], .i 0, .sl [], .sl []]]], .agg [.i 2, .i 3, .i 2, .sl [], .i 0, .sl [], .sl []], .agg [.i 4, .i 3, .i 3, .sl [.agg [.i 3, .i 2, .sl []]], .i 0, .sl [], .sl [.agg [.i 6, .i 3, .i 2, .sl [], .i 0, .sl [.agg [.i 3, .i 2, .sl []]], .sl [.agg [.i 2, .i 3, .i 2, .sl [], .i 0, .sl [], .sl []], .agg [.i 2, .i 3, .i 2, .sl [], .i 0, .sl [], .sl []], .agg [.i 2, .i 3, .i 2, .sl [], .i 0, .sl [], .sl []]]]]]]], .i 0]):=dN.dt mix du zt
end Go.Proofs.YtpkobkdgcanmjaaGreat
end
section
namespace Go.Proofs.YtpkobkdgcanmjaaGreat
open Go
theorem zu:gP Tryz.prog aK mo 5000 29 [xP, .sl [], .agg [.i 8, .i 0, .sl [.agg [.i 4, .i 2, .sl []], .agg [.i 4, .i 0, .sl [.agg [.i 1, .i 0, .sl []], .agg [.i 1, .i 0, .sl []]]]]], .agg [.i 9, .i 3, .i 3, .sl [.agg [.i 3, .i 2, .sl []]], .i 0, .sl [], .sl [.agg [.i 6, .i 3, .i 2, .sl [], .i 5, .sl [], .sl [.agg [.i 4, .i 3, .i 2, .sl [], .i 0, .sl [], .sl []]]], .agg [.i 6, .i 3, .i 3, .sl [.agg [.i 3, .i 2, .sl []]], .i 0, .sl [.agg [.i 3, .i 3, .sl [.agg [.i 3, .i 2, .sl []]]]], .sl [.agg [.i 2, .i 3, .i 2, .sl [], .i 0, .sl [], .sl []], .agg [.i 2, .i 3, .i 3, .sl [.agg [.i 3, .i 2, .sl []]], .i 0, .sl [], .sl []], .agg [.i 2, .i 3, .i 3, .sl [.agg [.i 3, .i 2, .sl []]], .i 0, .sl [], .sl []]]]]]]=some (.ret [.agg [.i 0, .i 0, .sl []], .i 7]):=by kernel_rfl
theorem Jt:dN Tryz.prog 29 [xP, .sl [], .agg [.i 8, .i 0, .sl [.agg [.i 4, .i 2, .sl []], .agg [.i 4, .i 0, .sl [.agg [.i 1, .i 0, .sl []], .agg [.i 1, .i 0, .sl []]]]]], .agg [.i 9, .i 3, .i 3, .sl [.agg [.i 3, .i 2, .sl []]], .i 0, .sl [], .sl [.agg [.i 6, .i 3, .i 2, .sl [], .i 5, .sl [], .sl [.agg [.i 4, .i 3, .i 2, .sl [], .i 0, .sl [], .sl []]]], .agg [.i 6, .i 3, .i 3, .sl [.agg [.i 3, .i 2, .sl []]], .i 0, .sl [.agg [.i 3, .i 3, .sl [.agg [.i 3, .i 2, .sl []]]]], .sl [.agg [.i 2, .i 3, .i 2, .sl [], .i 0, .sl [], .sl []], .agg [.i 2, .i 3, .i 3, .sl [.agg [.i 3, .i 2, .sl []]], .i 0, .sl [], .sl []], .agg [.i 2, .i 3, .i 3, .sl [.agg [.i 3, .i 2, .sl []]], .i 0, .sl [], .sl []]]]]]] (.ret [.agg [.i 0, .i 0, .sl []], .i 7]):=dN.dt mix du zu
end Go.Proofs.YtpkobkdgcanmjaaGreat
end
section
namespace Go.Proofs.YtpkobkdgcanmjaaGreat
open Go
theorem zw:gP Tryz.prog aK mo 5000 29 [xP,wv,sP, .agg [.i 6, .i 3, .i 3, .sl [.agg [.i 16, .i 0, .sl []]], .i 1, .sl [.agg [.i 3, .i 2, .sl []], .agg [.i 1, .i 7, .sl []]], .sl [.agg [.i 4, .i 3, .i 3, .sl [.agg [.i 3, .i 2, .sl []]], .i 0, .sl [], .sl [.agg [.i 4, .i 3, .i 2, .sl [], .i 0, .sl [], .sl []]]], .agg [.i 2, .i 1, .i 7, .sl [], .i 0, .sl [], .sl []], .agg [.i 4, .i 3, .i 3, .sl [.agg [.i 16, .i 0, .sl []]], .i 0, .sl [], .sl [.agg [.i 1, .i 16, .i 0, .sl [], .i 0, .sl [], .sl []]]]]]]=some (.ret [.agg [.i 3, .i 3, .sl [.agg [.i 16, .i 0, .sl []]]], .i 0]):=by kernel_rfl
theorem Ju:dN Tryz.prog 29 [xP,wv,sP, .agg [.i 6, .i 3, .i 3, .sl [.agg [.i 16, .i 0, .sl []]], .i 1, .sl [.agg [.i 3, .i 2, .sl []], .agg [.i 1, .i 7, .sl []]], .sl [.agg [.i 4, .i 3, .i 3, .sl [.agg [.i 3, .i 2, .sl []]], .i 0, .sl [], .sl [.agg [.i 4, .i 3, .i 2, .sl [], .i 0, .sl [], .sl []]]], .agg [.i 2, .i 1, .i 7, .sl [], .i 0, .sl [], .sl []], .agg [.i 4, .i 3, .i 3, .sl [.agg [.i 16, .i 0, .sl []]], .i 0, .sl [], .sl [.agg [.i 1, .i 16, .i 0, .sl [], .i 0, .sl [], .sl []]]]]]] (.ret [.agg [.i 3, .i 3, .sl [.agg [.i 16, .i 0, .sl []]]], .i 0]):=dN.dt mix du zw
end Go.Proofs.YtpkobkdgcanmjaaGreat
end
section
namespace Go.Proofs.YtpkobkdgcanmjaaGreat
open Go
theorem zx:gP Tryz.prog aK mo 5000 29 [xP, .sl [.agg [.i 3, .i 2, .sl []]],sP, .agg [.i 6, .i 3, .i 3, .sl [.agg [.i 3, .i 2, .sl []]], .i 1, .sl [.agg [.i 3, .i 2, .sl []], .agg [.i 3, .i 2, .sl []]], .sl [.agg [.i 4, .i 3, .i 3, .sl [.agg [.i 3, .i 2, .sl []]], .i 0, .sl [], .sl [.agg [.i 4, .i 3, .i 2, .sl [], .i 0, .sl [], .sl []]]], .agg [.i 2, .i 3, .i 2, .sl [], .i 0, .sl [], .sl []], .agg [.i 4, .i 3, .i 3, .sl [.agg [.i 3, .i 2, .sl []]], .i 0, .sl [], .sl [.agg [.i 6, .i 3, .i 2, .sl [], .i 0, .sl [.agg [.i 3, .i 2, .sl []]], .sl [.agg [.i 2, .i 3, .i 2, .sl [], .i 0, .sl [], .sl []], .agg [.i 2, .i 3, .i 2, .sl [], .i 0, .sl [], .sl []], .agg [.i 2, .i 3, .i 2, .sl [], .i 0, .sl [], .sl []]]]]]]]]=some (.ret [.agg [.i 3, .i 3, .sl [.agg [.i 3, .i 2, .sl []]]], .i 0]):=by kernel_rfl
theorem Jv:dN Tryz.prog 29 [xP, .sl [.agg [.i 3, .i 2, .sl []]],sP, .agg [.i 6, .i 3, .i 3, .sl [.agg [.i 3, .i 2, .sl []]], .i 1, .sl [.agg [.i 3, .i 2, .sl []], .agg [.i 3, .i 2, .sl []]], .sl [.agg [.i 4, .i 3, .i 3, .sl [.agg [.i 3, .i 2, .sl []]], .i 0, .sl [], .sl [.agg [.i 4, .i 3, .i 2, .sl [], .i 0, .sl [], .sl []]]], .agg [.i 2, .i 3, .i 2, .sl [], .i 0, .sl [], .sl []], .agg [.i 4, .i 3, .i 3, .sl [.agg [.i 3, .i 2, .sl []]], .i 0, .sl [], .sl [.agg [.i 6, .i 3, .i 2, .sl [], .i 0, .sl [.agg [.i 3, .i 2, .sl []]], .sl [.agg [.i 2, .i 3, .i 2, .sl [], .i 0, .sl [], .sl []], .agg [.i 2, .i 3, .i 2, .sl [], .i 0, .sl [], .sl []], .agg [.i 2, .i 3, .i 2, .sl [], .i 0, .sl [], .sl []]]]]]]]] (.ret [.agg [.i 3, .i 3, .sl [.agg [.i 3, .i 2, .sl []]]], .i 0]):=dN.dt mix du zx
end Go.Proofs.YtpkobkdgcanmjaaGreat
end
section
namespace Go.Proofs.YtpkobkdgcanmjaaGreat
open Go
theorem zy:gP Tryz.prog aK mo 5000 29 [xP, .sl [], .agg [.i 4, .i 3, .sl [.agg [.i 3, .i 5, .sl [.agg [.i 16, .i 0, .sl []], .agg [.i 3, .i 4, .sl []]]]]], .agg [.i 1, .i 16, .i 0, .sl [], .i 0, .sl [], .sl []]]=some (.ret [.agg [.i 0, .i 0, .sl []], .i 2]):=by kernel_rfl
theorem Jw:dN Tryz.prog 29 [xP, .sl [], .agg [.i 4, .i 3, .sl [.agg [.i 3, .i 5, .sl [.agg [.i 16, .i 0, .sl []], .agg [.i 3, .i 4, .sl []]]]]], .agg [.i 1, .i 16, .i 0, .sl [], .i 0, .sl [], .sl []]] (.ret [.agg [.i 0, .i 0, .sl []], .i 2]):=dN.dt mix du zy
end Go.Proofs.YtpkobkdgcanmjaaGreat
end
section
namespace Go.Proofs.YtpkobkdgcanmjaaGreat
open Go
def Jx:il Tryz.prog:=il.of wu [(57,[xP], .ret [.i 0]),(20,[], .ret [xP]),(8,[], .ret [.bool true]),(24,[xP,wv,sP,sO, .agg [.i 3, .i 3, .sl [.agg [.i 16, .i 0, .sl []]]]], .ret [.agg [.i 6, .i 3, .i 3, .sl [.agg [.i 16, .i 0, .sl []]], .i 1, .sl [.agg [.i 3, .i 2, .sl []], .agg [.i 1, .i 7, .sl []]], .sl [.agg [.i 4, .i 3, .i 3, .sl [.agg [.i 3, .i 2, .sl []]], .i 0, .sl [], .sl [.agg [.i 4, .i 3, .i 2, .sl [], .i 0, .sl [], .sl []]]], .agg [.i 2, .i 1, .i 7, .sl [], .i 0, .sl [], .sl []], .agg [.i 4, .i 3, .i 3, .sl [.agg [.i 16, .i 0, .sl []]], .i 0, .sl [], .sl [.agg [.i 1, .i 16, .i 0, .sl [], .i 0, .sl [], .sl []]]]]], .i 0]),(28,[xP,sO, .sl [.agg [.i 7, .i 3, .i 2, .sl []]]], .ret [.agg [.i 6, .i 3, .i 3, .sl [.agg [.i 3, .i 2, .sl []]], .i 1, .sl [.agg [.i 3, .i 2, .sl []], .agg [.i 3, .i 2, .sl []]], .sl [.agg [.i 4, .i 3, .i 3, .sl [.agg [.i 3, .i 2, .sl []]], .i 0, .sl [], .sl [.agg [.i 4, .i 3, .i 2, .sl [], .i 0, .sl [], .sl []]]], .agg [.i 2, .i 3, .i 2, .sl [], .i 0, .sl [], .sl []], .agg [.i 4, .i 3, .i 3, .sl [.agg [.i 3, .i 2, .sl []]], .i 0, .sl [], .sl [.agg [.i 6, .i 3, .i 2, .sl [], .i 0, .sl [.agg [.i 3, .i 2, .sl []]], .sl [.agg [.i 2, .i 3, .i 2, .sl [], .i 0, .sl [], .sl []], .agg [.i 2, .i 3, .i 2, .sl [], .i 0, .sl [], .sl []], .agg [.i 2, .i 3, .i 2, .sl [], .i 0, .sl [], .sl []]]]]]]], .i 0]),(29,[xP, .sl [], .agg [.i 8, .i 0, .sl [.agg [.i 4, .i 2, .sl []], .agg [.i 4, .i 0, .sl [.agg [.i 1, .i 0, .sl []], .agg [.i 1, .i 0, .sl []]]]]], .agg [.i 9, .i 3, .i 3, .sl [.agg [.i 3, .i 2, .sl []]], .i 0, .sl [], .sl [.agg [.i 6, .i 3, .i 2, .sl [], .i 5, .sl [], .sl [.agg [.i 4, .i 3, .i 2, .sl [], .i 0, .sl [], .sl []]]], .agg [.i 6, .i 3, .i 3, .sl [.agg [.i 3, .i 2, .sl []]], .i 0, .sl [.agg [.i 3, .i 3, .sl [.agg [.i 3, .i 2, .sl []]]]], .sl [.agg [.i 2, .i 3, .i 2, .sl [], .i 0, .sl [], .sl []], .agg [.i 2, .i 3, .i 3, .sl [.agg [.i 3, .i 2, .sl []]], .i 0, .sl [], .sl []], .agg [.i 2, .i 3, .i 3, .sl [.agg [.i 3, .i 2, .sl []]], .i 0, .sl [], .sl []]]]]]], .ret [.agg [.i 0, .i 0, .sl []], .i 7]),(29,[xP,wv,sP, .agg [.i 6, .i 3, .i 3, .sl [.agg [.i 16, .i 0, .sl []]], .i 1, .sl [.agg [.i 3, .i 2, .sl []], .agg [.i 1, .i 7, .sl []]], .sl [.agg [.i 4, .i 3, .i 3, .sl [.agg [.i 3, .i 2, .sl []]], .i 0, .sl [], .sl [.agg [.i 4, .i 3, .i 2, .sl [], .i 0, .sl [], .sl []]]], .agg [.i 2, .i 1, .i 7, .sl [], .i 0, .sl [], .sl []], .agg [.i 4, .i 3, .i 3, .sl [.agg [.i 16, .i 0, .sl []]], .i 0, .sl [], .sl [.agg [.i 1, .i 16, .i 0, .sl [], .i 0, .sl [], .sl []]]]]]], .ret [.agg [.i 3, .i 3, .sl [.agg [.i 16, .i 0, .sl []]]], .i 0]),(29,[xP, .sl [.agg [.i 3, .i 2, .sl []]],sP, .agg [.i 6, .i 3, .i 3, .sl [.agg [.i 3, .i 2, .sl []]], .i 1, .sl [.agg [.i 3, .i 2, .sl []], .agg [.i 3, .i 2, .sl []]], .sl [.agg [.i 4, .i 3, .i 3, .sl [.agg [.i 3, .i 2, .sl []]], .i 0, .sl [], .sl [.agg [.i 4, .i 3, .i 2, .sl [], .i 0, .sl [], .sl []]]], .agg [.i 2, .i 3, .i 2, .sl [], .i 0, .sl [], .sl []], .agg [.i 4, .i 3, .i 3, .sl [.agg [.i 3, .i 2, .sl []]], .i 0, .sl [], .sl [.agg [.i 6, .i 3, .i 2, .sl [], .i 0, .sl [.agg [.i 3, .i 2, .sl []]], .sl [.agg [.i 2, .i 3, .i 2, .sl [], .i 0, .sl [], .sl []], .agg [.i 2, .i 3, .i 2, .sl [], .i 0, .sl [], .sl []], .agg [.i 2, .i 3, .i 2, .sl [], .i 0, .sl [], .sl []]]]]]]]], .ret [.agg [.i 3, .i 3, .sl [.agg [.i 3, .i 2, .sl []]]], .i 0]),(29,[xP, .sl [], .agg [.i 4, .i 3, .sl [.agg [.i 3, .i 5, .sl [.agg [.i 16, .i 0, .sl []], .agg [.i 3, .i 4, .sl []]]]]], .agg [.i 1, .i 16, .i 0, .sl [], .i 0, .sl [], .sl []]], .ret [.agg [.i 0, .i 0, .sl []], .i 2])] (fun x h=>by
 simp only[List.mem_cons,List.not_mem_nil,or_false]at h
 rcases h with rfl|rfl|rfl|rfl|rfl|rfl|rfl|rfl|rfl
 ·exact zp
 ·exact FG
 ·exact zq
 ·exact Jr
 ·exact Js
 ·exact Jt
 ·exact Ju
 ·exact Jv
 ·exact Jw
 )
theorem l7:gP Tryz.prog aK Jx 5000 5 []=some (.ret [.bool true]):=by kernel_rfl
theorem od:dN Tryz.prog 5 [] (.ret [.bool true]):=dN.dt mix du l7
end Go.Proofs.YtpkobkdgcanmjaaGreat
end
section
namespace Go.Proofs.YtpkobkdgcanmjaaGreat
open Go.ChangeShapes Go.WideShapes Go.RowKit
set_option maxRecDepth 100000 in
theorem jr(os:Os)(started:os.Started)(H:Type)(enc:TypeId×Value->H):
 ReturnsInHanded {} Tryz.checked os 5 .any (Rows.logicKnownSpec.pre6 enc Tryz.prog Tryz.f5 Rows.logicKnownRow.domain false) (Rows.logicKnownSpec.post enc Tryz.prog Tryz.f5 Rows.logicKnownRow.apart Rows.logicKnownRow.fresh Rows.logicKnownRow.handsOn Rows.logicKnownRow.again):=by
 refine returnsInHanded_of_change (C:=Tryz.checked) (by kernel_rfl) started (by kernel_rfl) Tryz.func5
  (ChangeSpec.witness6 (enc:=enc) (C:=Tryz.checked) false ⟨#[],#[],[]⟩ 8 (by kernel_rfl) (by kernel_rfl) (by kernel_rfl) (by kernel_rfl)) ?_
 intro W base args ds gs before dO hW _ _
 exact nz (T:=[]) (tb:=4) (by kernel_rfl) (by kernel_rfl) rfl (fun ds h=>by match ds,h with|[],_=>rfl) (by kernel_rfl) (by intro t ht;cases ht) (by kernel_rfl) (by intro t ht;cases ht)
  (fun xs hx=>by cases xs with|nil=>exact od|cons x xs=>obtain⟨t,r,e,_⟩:=hx;cases e) base args ds gs before dO hW
theorem logicKnown_holds:Rows.LogicKnownSaid:=
 OpenClaim.holds_of_wide 5 Tryz.f5 rfl rfl rfl rfl rfl rfl rfl ⟨rfl,rfl,rfl,rfl,rfl⟩ rfl rfl rfl rfl rfl (by kernel_rfl) Tryz.func5 (by kernel_rfl)
  (of_decide_eq_true (by kernel_rfl)) (by unfold Func.isWrapper;first|(rw[if_pos (by decide+kernel)];kernel_rfl)|(rw[if_neg (by decide+kernel)];exact⟨rfl,rfl⟩))
  (fun os started H enc _=>jr os started H enc)
end Go.Proofs.YtpkobkdgcanmjaaGreat
end
