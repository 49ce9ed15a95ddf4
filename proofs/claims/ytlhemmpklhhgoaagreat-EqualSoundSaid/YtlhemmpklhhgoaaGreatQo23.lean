/-
  EqualSound: at every call the law answers true, and leaves all memory as it was. Conditions: none.
-/
import Derived.Test.YtlhemmpklhhgoaaGreatRows
import Derived.Test.YtlhemmpklhhgoaaGreatQo22
set_option linter.unusedSimpArgs false
set_option linter.unusedVariables false
section
namespace Go.Proofs.YtlhemmpklhhgoaaGreat
open Go.ChangeShapes Go.WideShapes Go.RowKit
theorem ahh{x:D}(h:D.ir Tryz.prog x 53):∃y:Sy,x=y.d/\y.a.fits/\y.b.fits:=by
 obtain⟨cs,rfl,hh⟩:=rS ai (ls:=[30,3,31,30,3,31,4]) ai h
 clear h;have h:=hh;clear hh
 obtain⟨a,cs,rfl,ha,h⟩:=bT h
 obtain⟨b,cs,rfl,hb,h⟩:=bT h
 obtain⟨c,cs,rfl,hc,h⟩:=bT h
 obtain⟨d,cs,rfl,hd,h⟩:=bT h
 obtain⟨e,cs,rfl,he,h⟩:=bT h
 obtain⟨f,cs,rfl,hf,h⟩:=bT h
 obtain⟨g,cs,rfl,hg,h⟩:=bT h
 have:=lX h;subst this
 obtain⟨o1,rfl⟩:=Y6 ha
 obtain⟨n1,rfl⟩:=Ix hb
 obtain⟨k1,rfl,l1,l2⟩:=OU hc
 obtain⟨o2,rfl⟩:=Y6 hd
 obtain⟨n2,rfl⟩:=Ix he
 obtain⟨k2,rfl,l3,l4⟩:=OU hf
 obtain⟨no,rfl⟩:=Kv undT_4 hg
 exact⟨⟨.mk o1 n1 k1, .mk o2 n2 k2,no⟩,rfl,(Tm.cj _).2 ⟨l1,l2⟩,(Tm.cj _).2 ⟨l3,l4⟩⟩
theorem ae7{x:D}(h:D.ir Tryz.prog x 48):∃l:List Sy,x= .sl (l.map Sy.d)/\l.length<=9223372036854775807/\∀y∈l,y.a.fits/\y.b.fits:=by
 obtain⟨es,rfl,h1,h2⟩:=oS (e:=53) ai h
 obtain⟨l,rfl,hl⟩:=lY (fun x h=>ahh h) es h2
 have:=jG
 exact Lq
end Go.Proofs.YtlhemmpklhhgoaaGreat
end
section
namespace Go.Proofs.YtlhemmpklhhgoaaGreat
open Go.ChangeShapes Go.WideShapes Go.RowKit
theorem ahi{x:D}(h:D.ir Tryz.prog x 5):∃n:Int,x= .int .u8 n/\(0<=n/\n<=255):=by
 obtain⟨n,h,hw⟩:=xy undT_5 h
 simp[Lit.wf]at hw
 exact⟨n,h,hw⟩
theorem ae8{x:D}(h:D.ir Tryz.prog x 49):∃l:List Int,x= .sl (l.map (D.int .u8))/\l.length<=9223372036854775807/\∀y∈l,0<=y/\y<=255:=by
 obtain⟨es,rfl,h1,h2⟩:=oS (e:=5) ai h
 obtain⟨l,rfl,hl⟩:=lY (fun x h=>ahi h) es h2
 have:=jG
 exact Lq
end Go.Proofs.YtlhemmpklhhgoaaGreat
end
section
namespace Go.Proofs.YtlhemmpklhhgoaaGreat
open Go
def Y7:Nat->Bool:=fun g=> !([159,172,173,174,187,135,162,175,176,177,178,179,180,182,183,188,191,192,201,149,164,165,167,111,136,100,79,63,64,112,104,69]:List Nat).contains g
@[reducible] def zC:D:= .sl [.agg [.str [70,97,108,115,101], .i 0], .agg [.str [84,114,117,101], .i 0], .agg [.str [90], .i 0], .agg [.str [83], .i 1], .agg [.str [78,105,108], .i 0], .agg [.str [67,111,110,115], .i 2]]
@[reducible] def zF:D:= .sl [.agg [.str [97,112,112], .i 2], .agg [.str [111,110,101], .i 0]]
def ue:rb Tryz.prog:=rb.of Y7 [] (fun _ h=>by cases h)
end Go.Proofs.YtlhemmpklhhgoaaGreat
end
section
namespace Go.Proofs.YtlhemmpklhhgoaaGreat
open Go
theorem OV:oZ Tryz.prog tab ue 5000 119 [.agg [zC,zF]]=some (.ret [.i 0]):=ai
theorem Y8:aW Tryz.prog 119 [.agg [zC,zF]] (.ret [.i 0]):=aW.hO mix hU OV
theorem RY:oZ Tryz.prog tab ue 5000 129 [.agg [zC,zF], .agg [.i 1, .i 0, .sl []]]=some (.ret [.bool true, .bool false, .i 0]):=ai
theorem ae9:aW Tryz.prog 129 [.agg [zC,zF], .agg [.i 1, .i 0, .sl []]] (.ret [.bool true, .bool false, .i 0]):=aW.hO mix hU RY
theorem RZ:oZ Tryz.prog tab ue 5000 129 [.agg [zC,zF], .agg [.i 1, .i 2, .sl []]]=some (.ret [.bool true, .bool false, .i 0]):=ai
theorem afa:aW Tryz.prog 129 [.agg [zC,zF], .agg [.i 1, .i 2, .sl []]] (.ret [.bool true, .bool false, .i 0]):=aW.hO mix hU RZ
theorem R0:oZ Tryz.prog tab ue 5000 129 [.agg [zC,zF], .agg [.i 3, .i 5, .sl [.agg [.i 1, .i 0, .sl []], .agg [.i 1, .i 1, .sl []]]]]=some (.ret [.bool true, .bool false, .i 0]):=ai
theorem afb:aW Tryz.prog 129 [.agg [zC,zF], .agg [.i 3, .i 5, .sl [.agg [.i 1, .i 0, .sl []], .agg [.i 1, .i 1, .sl []]]]] (.ret [.bool true, .bool false, .i 0]):=aW.hO mix hU R0
theorem R3:oZ Tryz.prog tab ue 5000 129 [.agg [zC,zF], .agg [.i 3, .i 5, .sl [.agg [.i 1, .i 2, .sl []], .agg [.i 3, .i 5, .sl [.agg [.i 1, .i 0, .sl []], .agg [.i 3, .i 4, .sl []]]]]]]=some (.ret [.bool true, .bool false, .i 0]):=ai
theorem afc:aW Tryz.prog 129 [.agg [zC,zF], .agg [.i 3, .i 5, .sl [.agg [.i 1, .i 2, .sl []], .agg [.i 3, .i 5, .sl [.agg [.i 1, .i 0, .sl []], .agg [.i 3, .i 4, .sl []]]]]]] (.ret [.bool true, .bool false, .i 0]):=aW.hO mix hU R3
theorem R4:oZ Tryz.prog tab ue 5000 129 [.agg [zC,zF], .agg [.i 3, .i 5, .sl [.agg [.i 1, .i 0, .sl []], .agg [.i 3, .i 4, .sl []]]]]=some (.ret [.bool true, .bool false, .i 0]):=ai
theorem afd:aW Tryz.prog 129 [.agg [zC,zF], .agg [.i 3, .i 5, .sl [.agg [.i 1, .i 0, .sl []], .agg [.i 3, .i 4, .sl []]]]] (.ret [.bool true, .bool false, .i 0]):=aW.hO mix hU R4
theorem R5:oZ Tryz.prog tab ue 5000 129 [.agg [zC,zF], .agg [.i 3, .i 3, .sl [.agg [.i 1, .i 3, .sl []]]]]=some (.ret [.bool true, .bool false, .i 0]):=ai
theorem afe:aW Tryz.prog 129 [.agg [zC,zF], .agg [.i 3, .i 3, .sl [.agg [.i 1, .i 3, .sl []]]]] (.ret [.bool true, .bool false, .i 0]):=aW.hO mix hU R5
theorem R6:oZ Tryz.prog tab ue 5000 129 [.agg [zC,zF], .agg [.i 3, .i 3, .sl [.agg [.i 3, .i 2, .sl []]]]]=some (.ret [.bool true, .bool true, .i 0]):=ai
theorem aff:aW Tryz.prog 129 [.agg [zC,zF], .agg [.i 3, .i 3, .sl [.agg [.i 3, .i 2, .sl []]]]] (.ret [.bool true, .bool true, .i 0]):=aW.hO mix hU R6
def Er:rb Tryz.prog:=rb.of Y7 [(119,[.agg [zC,zF]], .ret [.i 0]),(129,[.agg [zC,zF], .agg [.i 1, .i 0, .sl []]], .ret [.bool true, .bool false, .i 0]),(129,[.agg [zC,zF], .agg [.i 1, .i 2, .sl []]], .ret [.bool true, .bool false, .i 0]),(129,[.agg [zC,zF], .agg [.i 3, .i 5, .sl [.agg [.i 1, .i 0, .sl []], .agg [.i 1, .i 1, .sl []]]]], .ret [.bool true, .bool false, .i 0]),(129,[.agg [zC,zF], .agg [.i 3, .i 5, .sl [.agg [.i 1, .i 2, .sl []], .agg [.i 3, .i 5, .sl [.agg [.i 1, .i 0, .sl []], .agg [.i 3, .i 4, .sl []]]]]]], .ret [.bool true, .bool false, .i 0]),(129,[.agg [zC,zF], .agg [.i 3, .i 5, .sl [.agg [.i 1, .i 0, .sl []], .agg [.i 3, .i 4, .sl []]]]], .ret [.bool true, .bool false, .i 0]),(129,[.agg [zC,zF], .agg [.i 3, .i 3, .sl [.agg [.i 1, .i 3, .sl []]]]], .ret [.bool true, .bool false, .i 0]),(129,[.agg [zC,zF], .agg [.i 3, .i 3, .sl [.agg [.i 3, .i 2, .sl []]]]], .ret [.bool true, .bool true, .i 0])] (fun x h=>by
 simp only[List.mem_cons,List.not_mem_nil,or_false]at h
 rcases h with rfl|rfl|rfl|rfl|rfl|rfl|rfl|rfl
 ·exact Y8
 ·exact ae9
 ·exact afa
 ·exact afb
 ·exact afc
 ·exact afd
 ·exact afe
 ·exact aff)
end Go.Proofs.YtlhemmpklhhgoaaGreat
end
section
namespace Go.Proofs.YtlhemmpklhhgoaaGreat
open Go
theorem Y9:oZ Tryz.prog tab Er 5000 15 [.agg [zC,zF, .sl [], .sl [], .sl []], .agg [.i 3, .i 5, .sl [.agg [.i 1, .i 0, .sl []], .agg [.i 1, .i 1, .sl []]]], .agg [.i 3, .i 5, .sl [.agg [.i 1, .i 2, .sl []], .agg [.i 3, .i 5, .sl [.agg [.i 1, .i 0, .sl []], .agg [.i 3, .i 4, .sl []]]]]]]=some (.ret [.agg [zC,zF, .sl [.agg [.i 2, .i 1, .i 0, .sl []], .agg [.i 1, .i 3, .i 5, .sl [.agg [.i 1, .i 0, .sl []], .agg [.i 3, .i 4, .sl []]]]], .sl [], .sl []], .i 0]):=ai
theorem ahj:aW Tryz.prog 15 [.agg [zC,zF, .sl [], .sl [], .sl []], .agg [.i 3, .i 5, .sl [.agg [.i 1, .i 0, .sl []], .agg [.i 1, .i 1, .sl []]]], .agg [.i 3, .i 5, .sl [.agg [.i 1, .i 2, .sl []], .agg [.i 3, .i 5, .sl [.agg [.i 1, .i 0, .sl []], .agg [.i 3, .i 4, .sl []]]]]]] (.ret [.agg [zC,zF, .sl [.agg [.i 2, .i 1, .i 0, .sl []], .agg [.i 1, .i 3, .i 5, .sl [.agg [.i 1, .i 0, .sl []], .agg [.i 3, .i 4, .sl []]]]], .sl [], .sl []], .i 0]):=aW.hO mix hU Y9
end Go.Proofs.YtlhemmpklhhgoaaGreat
end
section
namespace Go.Proofs.YtlhemmpklhhgoaaGreat
open Go
theorem Za:oZ Tryz.prog tab Er 5000 16 [.agg [zC,zF, .sl [.agg [.i 2, .i 1, .i 0, .sl []], .agg [.i 1, .i 3, .i 5, .sl [.agg [.i 1, .i 0, .sl []], .agg [.i 3, .i 4, .sl []]]]], .sl [], .sl []], .agg [.i 3, .i 3, .sl [.agg [.i 1, .i 3, .sl []]]], .agg [.i 1, .i 2, .sl []]]=some (.ret [.agg [zC,zF, .sl [.agg [.i 2, .i 1, .i 0, .sl []], .agg [.i 1, .i 3, .i 5, .sl [.agg [.i 1, .i 0, .sl []], .agg [.i 3, .i 4, .sl []]]]], .sl [.agg [.i 3, .i 3, .sl [.agg [.i 1, .i 3, .sl []]], .i 1, .i 2, .sl []]], .sl []], .i 0]):=ai
theorem ahk:aW Tryz.prog 16 [.agg [zC,zF, .sl [.agg [.i 2, .i 1, .i 0, .sl []], .agg [.i 1, .i 3, .i 5, .sl [.agg [.i 1, .i 0, .sl []], .agg [.i 3, .i 4, .sl []]]]], .sl [], .sl []], .agg [.i 3, .i 3, .sl [.agg [.i 1, .i 3, .sl []]]], .agg [.i 1, .i 2, .sl []]] (.ret [.agg [zC,zF, .sl [.agg [.i 2, .i 1, .i 0, .sl []], .agg [.i 1, .i 3, .i 5, .sl [.agg [.i 1, .i 0, .sl []], .agg [.i 3, .i 4, .sl []]]]], .sl [.agg [.i 3, .i 3, .sl [.agg [.i 1, .i 3, .sl []]], .i 1, .i 2, .sl []]], .sl []], .i 0]):=aW.hO mix hU Za
end Go.Proofs.YtlhemmpklhhgoaaGreat
end
section
namespace Go.Proofs.YtlhemmpklhhgoaaGreat
open Go
theorem Zb:oZ Tryz.prog tab Er 5000 15 [.agg [zC,zF, .sl [.agg [.i 2, .i 1, .i 0, .sl []], .agg [.i 1, .i 3, .i 5, .sl [.agg [.i 1, .i 0, .sl []], .agg [.i 3, .i 4, .sl []]]]], .sl [.agg [.i 3, .i 3, .sl [.agg [.i 1, .i 3, .sl []]], .i 1, .i 2, .sl []]], .sl []], .agg [.i 1, .i 0, .sl []], .agg [.i 3, .i 3, .sl [.agg [.i 1, .i 3, .sl []]]]]=some (.ret [.agg [.sl [], .sl [], .sl [], .sl [], .sl []], .i 5]):=ai
theorem ahl:aW Tryz.prog 15 [.agg [zC,zF, .sl [.agg [.i 2, .i 1, .i 0, .sl []], .agg [.i 1, .i 3, .i 5, .sl [.agg [.i 1, .i 0, .sl []], .agg [.i 3, .i 4, .sl []]]]], .sl [.agg [.i 3, .i 3, .sl [.agg [.i 1, .i 3, .sl []]], .i 1, .i 2, .sl []]], .sl []], .agg [.i 1, .i 0, .sl []], .agg [.i 3, .i 3, .sl [.agg [.i 1, .i 3, .sl []]]]] (.ret [.agg [.sl [], .sl [], .sl [], .sl [], .sl []], .i 5]):=aW.hO mix hU Zb
end Go.Proofs.YtlhemmpklhhgoaaGreat
end
section
namespace Go.Proofs.YtlhemmpklhhgoaaGreat
open Go
theorem Zc:oZ Tryz.prog tab Er 5000 24 [.agg [zC,zF, .sl [.agg [.i 2, .i 1, .i 0, .sl []], .agg [.i 1, .i 3, .i 5, .sl [.agg [.i 1, .i 0, .sl []], .agg [.i 3, .i 4, .sl []]]]], .sl [.agg [.i 3, .i 3, .sl [.agg [.i 1, .i 3, .sl []]], .i 1, .i 2, .sl []]], .sl []]]=some (.ret [.agg [.sl [.agg [.i 1, .i 3, .i 5, .sl [.agg [.i 1, .i 0, .sl []], .agg [.i 3, .i 4, .sl []]]], .agg [.i 2, .i 1, .i 0, .sl []]], .sl [.sl [.agg [.i 0, .i 3, .i 3, .sl [.agg [.i 1, .i 3, .sl []]]]]]], .i 0]):=ai
theorem ahm:aW Tryz.prog 24 [.agg [zC,zF, .sl [.agg [.i 2, .i 1, .i 0, .sl []], .agg [.i 1, .i 3, .i 5, .sl [.agg [.i 1, .i 0, .sl []], .agg [.i 3, .i 4, .sl []]]]], .sl [.agg [.i 3, .i 3, .sl [.agg [.i 1, .i 3, .sl []]], .i 1, .i 2, .sl []]], .sl []]] (.ret [.agg [.sl [.agg [.i 1, .i 3, .i 5, .sl [.agg [.i 1, .i 0, .sl []], .agg [.i 3, .i 4, .sl []]]], .agg [.i 2, .i 1, .i 0, .sl []]], .sl [.sl [.agg [.i 0, .i 3, .i 3, .sl [.agg [.i 1, .i 3, .sl []]]]]]], .i 0]):=aW.hO mix hU Zc
end Go.Proofs.YtlhemmpklhhgoaaGreat
end
section
namespace Go.Proofs.YtlhemmpklhhgoaaGreat
open Go
theorem Zd:oZ Tryz.prog tab Er 5000 35 [.agg [zC,zF, .sl [.agg [.i 2, .i 1, .i 0, .sl []], .agg [.i 1, .i 3, .i 5, .sl [.agg [.i 1, .i 0, .sl []], .agg [.i 3, .i 4, .sl []]]]], .sl [.agg [.i 3, .i 3, .sl [.agg [.i 1, .i 3, .sl []]], .i 1, .i 2, .sl []]], .sl []], .agg [.i 1, .i 0, .sl []], .agg [.i 3, .i 3, .sl [.agg [.i 3, .i 2, .sl []]]]]=some (.ret [.i 3, .i 0]):=ai
theorem ahn:aW Tryz.prog 35 [.agg [zC,zF, .sl [.agg [.i 2, .i 1, .i 0, .sl []], .agg [.i 1, .i 3, .i 5, .sl [.agg [.i 1, .i 0, .sl []], .agg [.i 3, .i 4, .sl []]]]], .sl [.agg [.i 3, .i 3, .sl [.agg [.i 1, .i 3, .sl []]], .i 1, .i 2, .sl []]], .sl []], .agg [.i 1, .i 0, .sl []], .agg [.i 3, .i 3, .sl [.agg [.i 3, .i 2, .sl []]]]] (.ret [.i 3, .i 0]):=aW.hO mix hU Zd
end Go.Proofs.YtlhemmpklhhgoaaGreat
end
section
namespace Go.Proofs.YtlhemmpklhhgoaaGreat
open Go
def afg:rb Tryz.prog:=rb.of Y7 [(15,[.agg [zC,zF, .sl [], .sl [], .sl []], .agg [.i 3, .i 5, .sl [.agg [.i 1, .i 0, .sl []], .agg [.i 1, .i 1, .sl []]]], .agg [.i 3, .i 5, .sl [.agg [.i 1, .i 2, .sl []], .agg [.i 3, .i 5, .sl [.agg [.i 1, .i 0, .sl []], .agg [.i 3, .i 4, .sl []]]]]]], .ret [.agg [zC,zF, .sl [.agg [.i 2, .i 1, .i 0, .sl []], .agg [.i 1, .i 3, .i 5, .sl [.agg [.i 1, .i 0, .sl []], .agg [.i 3, .i 4, .sl []]]]], .sl [], .sl []], .i 0]),(16,[.agg [zC,zF, .sl [.agg [.i 2, .i 1, .i 0, .sl []], .agg [.i 1, .i 3, .i 5, .sl [.agg [.i 1, .i 0, .sl []], .agg [.i 3, .i 4, .sl []]]]], .sl [], .sl []], .agg [.i 3, .i 3, .sl [.agg [.i 1, .i 3, .sl []]]], .agg [.i 1, .i 2, .sl []]], .ret [.agg [zC,zF, .sl [.agg [.i 2, .i 1, .i 0, .sl []], .agg [.i 1, .i 3, .i 5, .sl [.agg [.i 1, .i 0, .sl []], .agg [.i 3, .i 4, .sl []]]]], .sl [.agg [.i 3, .i 3, .sl [.agg [.i 1, .i 3, .sl []]], .i 1, .i 2, .sl []]], .sl []], .i 0]),(15,[.agg [zC,zF, .sl [.agg [.i 2, .i 1, .i 0, .sl []], .agg [.i 1, .i 3, .i 5, .sl [.agg [.i 1, .i 0, .sl []], .agg [.i 3, .i 4, .sl []]]]], .sl [.agg [.i 3, .i 3, .sl [.agg [.i 1, .i 3, .sl []]], .i 1, .i 2, .sl []]], .sl []], .agg [.i 1, .i 0, .sl []], .agg [.i 3, .i 3, .sl [.agg [.i 1, .i 3, .sl []]]]], .ret [.agg [.sl [], .sl [], .sl [], .sl [], .sl []], .i 5]),(24,[.agg [zC,zF, .sl [.agg [.i 2, .i 1, .i 0, .sl []], .agg [.i 1, .i 3, .i 5, .sl [.agg [.i 1, .i 0, .sl []], .agg [.i 3, .i 4, .sl []]]]], .sl [.agg [.i 3, .i 3, .sl [.agg [.i 1, .i 3, .sl []]], .i 1, .i 2, .sl []]], .sl []]], .ret [.agg [.sl [.agg [.i 1, .i 3, .i 5, .sl [.agg [.i 1, .i 0, .sl []], .agg [.i 3, .i 4, .sl []]]], .agg [.i 2, .i 1, .i 0, .sl []]], .sl [.sl [.agg [.i 0, .i 3, .i 3, .sl [.agg [.i 1, .i 3, .sl []]]]]]], .i 0]),(35,[.agg [zC,zF, .sl [.agg [.i 2, .i 1, .i 0, .sl []], .agg [.i 1, .i 3, .i 5, .sl [.agg [.i 1, .i 0, .sl []], .agg [.i 3, .i 4, .sl []]]]], .sl [.agg [.i 3, .i 3, .sl [.agg [.i 1, .i 3, .sl []]], .i 1, .i 2, .sl []]], .sl []], .agg [.i 1, .i 0, .sl []], .agg [.i 3, .i 3, .sl [.agg [.i 3, .i 2, .sl []]]]], .ret [.i 3, .i 0])] (fun x h=>by
 simp only[List.mem_cons,List.not_mem_nil,or_false]at h
 rcases h with rfl|rfl|rfl|rfl|rfl
 ·exact ahj
 ·exact ahk
 ·exact ahl
 ·exact ahm
 ·exact ahn)
theorem Es:oZ Tryz.prog tab afg 5000 14 []=some (.ret [.bool true]):=ai
theorem R7:aW Tryz.prog 14 [] (.ret [.bool true]):=aW.hO mix hU Es
end Go.Proofs.YtlhemmpklhhgoaaGreat
end
section
namespace Go.Proofs.YtlhemmpklhhgoaaGreat
open Go.ChangeShapes Go.WideShapes Go.RowKit
set_option maxRecDepth 100000 in
theorem rT(os:Os)(started:os.Started)(H:Type)(enc:TypeId×Value->H):
 ReturnsInHanded {} Tryz.checked os 5 .any (Rows.equalSoundSpec.pre6 enc Tryz.prog Tryz.f5 Rows.equalSoundRow.domain false) (Rows.equalSoundSpec.post enc Tryz.prog Tryz.f5 Rows.equalSoundRow.apart Rows.equalSoundRow.fresh Rows.equalSoundRow.handsOn Rows.equalSoundRow.again):=by
 refine returnsInHanded_of_change (C:=Tryz.checked) ai started ai Tryz.func5
  (ChangeSpec.witness6 (enc:=enc) (C:=Tryz.checked) false ⟨#[],#[.agg #[.slice none 0 0, .slice none 0 0], .slice none 0 0, .slice none 0 0],[]⟩ 8 ai ai ai ai) ?_
 intro W base args ds gs before fS hW _ _
 refine BB (T:=[24,22,124,9,3,48,53,31,33,30,4,49,5]) (tb:=4) ai ai rfl (fun ds h=>by match ds,h with|[_,_,_],_=>rfl) ai (by intro t ht;rw[Tryz.params5]at ht;simp at ht;rcases ht with rfl|rfl|rfl<;>simp) ai (by intro t ht;rw[Tryz.params5]at ht;simp at ht;rcases ht with rfl|rfl|rfl<;>exact⟨ai,of_decide_eq_true ai⟩)
  (fun xs hx=> ?_) base args ds gs before fS hW
 rw[Tryz.params5]at hx
 obtain⟨x0,xs,rfl,hx0,hx⟩:=bT hx
 obtain⟨x1,xs,rfl,hx1,hx⟩:=bT hx
 obtain⟨x2,xs,rfl,hx2,hx⟩:=bT hx
 have:=lX hx;subst this
 obtain⟨s0,rfl,oY⟩:=ae6 hx0
 obtain⟨y1,rfl,hy1⟩:=ae7 hx1
 obtain⟨z2,rfl,Pb⟩:=ae8 hx2
 exact BA R7 s0 oY y1 hy1.1 hy1.2 z2 Pb.1 Pb.2
theorem equalSound_holds:Rows.EqualSoundSaid:=
 OpenClaim.holds_of_wide 5 Tryz.f5 rfl rfl rfl rfl rfl rfl rfl ⟨rfl,rfl,rfl,rfl,rfl⟩ rfl rfl rfl rfl rfl ai Tryz.func5 ai
  (of_decide_eq_true ai) (by unfold Func.isWrapper;first|(rw[if_pos (by decide+kernel)];kernel_rfl)|(rw[if_neg (by decide+kernel)];exact⟨rfl,rfl⟩))
  (fun os started H enc _=>rT os started H enc)
end Go.Proofs.YtlhemmpklhhgoaaGreat
end
