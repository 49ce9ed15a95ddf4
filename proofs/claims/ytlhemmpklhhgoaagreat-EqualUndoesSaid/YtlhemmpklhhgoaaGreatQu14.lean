/-
  A PART OF THE PROOF. Conditions: none.
-/
import Derived.Test.YtlhemmpklhhgoaaGreatRows
import Derived.Shelf.SlMaps.Clone
import Derived.Test.YtlhemmpklhhgoaaGreatQu13
set_option linter.unusedSimpArgs false
set_option linter.unusedVariables false
section
namespace Go.Proofs.YtlhemmpklhhgoaaGreat
open Go.Shelf
def EF:Go.Shelf.Ren:=⟨fun|5=>100|7=>130|n=>n,fun|23=>93|25=>3|3=>33|4=>4|20=>20|n=>n,fun|n=>n⟩
theorem V2:Go.Proofs.SlLaysW.n5 Tryz.prog EF:={
 mixed:=ah
 f5:=⟨Tryz.f100.name,bu,Tryz.func100.trans (congrArg some ah)⟩
 f7:=Tryz.func130.trans (congrArg some ah)
 t4:=Tryz.underlying4
 a4:=Tryz.isAgg4
 z4:=Tryz.sizeOf4
 v4:=Tryz.zeroValue4
 t20:=Tryz.underlying20
 a20:=Tryz.isAgg20
 z20:=Tryz.sizeOf20
 v20:=Tryz.zeroValue20
 t23:=Tryz.underlying93
 a23:=Tryz.isAgg93
 z23:=Tryz.sizeOf93
 v23:=Tryz.zeroValue93}
theorem LB:Gp Tryz.prog 100:=⟨⟨_,Tryz.func100,ah,ah⟩,fun w b es clock hb=>AnyW.maps_Clone V2 b es clock w hb⟩
end Go.Proofs.YtlhemmpklhhgoaaGreat
end
namespace Go.Proofs.YtlhemmpklhhgoaaGreat
theorem mix:Tryz.prog.follows .mixedOrders=true:=ah
def zn:Tr FD:= .e fun _=> .no
theorem zt{f:Nat->Nat}:Tr.GG (fun(g:Nat) (d:FD)=>d.Ok Tryz.prog g) zn f:=fun _=>trivial
def acD:Tr FD:=
 (.n .no (.n .no (.n .no (.n .no (.n (.fn 34 c15 [.cell 6 29, .tmp 7]) (.n .no (.n (.fn 27 c63 [.cell 6 95, .tmp 7]) zn (.n (.fn 15 acu [.tmp 6]) zn zn)) (.n .no (.n (.fn 4 VG [.tmp 2]) zn zn) zn)) (.n (.fn 9 c47 [.cell 4 33]) (.n (.fn 167 c79 [.cell 2 95, .tmp 3]) zn zn) (.n (.fn 4 Vo [.tmp 2]) (.n (.fn 49 abY []) zn zn) zn))) (.n .no (.n .no (.n .no (.n (.fn 11 abH []) zn zn) (.n (.fn 14 V0 [.tmp 4]) zn zn)) (.n (.fn 133 Vg []) (.n (.fn 8 VM [.tmp 3]) zn zn) zn)) (.n .no zn (.n (.fn 46 Vp [.tmp 2]) (.n (.fn 168 acf [.tmp 8, .tmp 9]) zn zn) zn)))) (.n .no (.n .no (.n (.fn 40 c35 [.tmp 6, .tmp 7]) (.n (.fn 45 c67 [.tmp 2, .tmp 3]) zn (.n (.fn 14 VW [.tmp 4]) zn zn)) (.n (.fn 22 c99 [.tmp 4]) (.n (.fn 8 abW [.tmp 2]) zn zn) zn)) (.n (.fn 6 c51 [.cell 2 33]) (.n .no (.n (.fn 18 VC [.tmp 4]) zn zn) zn) (.n .no (.n (.fn 32 ab6 []) zn zn) zn))) (.n .no (.n .no zn (.n (.fn 6 Vk [.cell 2 33]) (.n (.fn 39 VP [.cell 4 4]) zn zn) zn)) (.n .no (.n (.fn 35 c91 [.tmp 8]) zn zn) (.n .no (.n (.fn 19 VU [.cell 0 210]) zn zn) zn))))) (.n .no (.n .no (.n .no (.n .no (.n (.fn 66 c65 [.cell 2 29]) (.n (.fn 32 Vu [.tmp 4, .tmp 5, .tmp 6]) zn zn) (.n (.fn 6 acz [.tmp 2]) zn zn)) (.n .no (.n (.fn 13 VI [.tmp 4]) zn zn) zn)) (.n (.fn 10 c49 [.cell 0 29]) (.n .no (.n (.fn 28 VA [.tmp 2]) zn zn) zn) (.n .no (.n (.fn 65 ab2 []) zn zn) zn))) (.n (.fn 46 c25 [.tmp 4]) (.n .no (.n (.fn 33 c73 [.tmp 4]) zn (.n (.fn 28 acB [.tmp 8, .tmp 9]) zn zn)) (.n (.fn 8 Vi [.tmp 2]) (.n (.fn 18 VN [.tmp 4]) zn zn) zn)) (.n .no zn (.n (.fn 15 Vr [.tmp 2]) (.n (.fn 25 ack [.tmp 2]) zn zn) zn)))) (.n .no (.n (.fn 70 c21 [.tmp 4]) (.n .no (.n (.fn 9 c69 [.tmp 2]) (.n (.fn 32 Vw [.tmp 6]) zn zn) (.n (.fn 27 VY [.tmp 4]) zn zn)) (.n (.dfr 6 Ly Ve 131 3 [.tmp 2] [.cell 2 36] 14 5 5 Lw) (.n (.fn 17 VK [.tmp 4]) zn zn) zn)) (.n .no (.n (.fn 8 c85 [.cell 4 33]) (.n (.fn 4 VE [.tmp 2]) zn zn) zn) (.n .no (.n (.fn 17 aca [.tmp 4]) zn zn) zn))) (.n .no (.n .no zn (.n (.fn 17 Vm []) (.n (.fn 17 VR [.tmp 6]) zn zn) zn)) (.n .no zn (.n .no (.n (.fn 7 acp [.tmp 2]) zn zn) zn)))))) (.n .no (.n .no (.n .no (.n (.fn 62 c16 [.cell 6 29, .tmp 7]) (.n .no (.n (.fn 45 c64 [.cell 6 95, .tmp 7]) zn (.n (.fn 36 acw [.tmp 10]) zn zn)) (.n .no (.n (.fn 16 VH [.cell 2 4]) zn zn) zn)) (.n (.fn 5 c48 [.cell 2 33]) (.n (.fn 5 c80 [.cell 2 33]) (.n (.fn 24 Vz [.tmp 3]) zn zn) zn) (.n (.fn 21 OK [.cell 4 33]) (.n (.fn 56 ab0 []) zn zn) zn))) (.n (.fn 94 c24 [.cell 2 43, .tmp 3]) (.n (.fn 46 c40 [.tmp 4]) (.n .no (.n (.fn 14 Vy []) zn zn) (.n (.fn 14 V1 [.tmp 4]) zn zn)) (.n (.fn 9 Vh [.tmp 2]) zn zn)) (.n .no (.n (.fn 9 c88 [.tmp 4]) zn zn) (.n (.fn 14 Vq [.tmp 6]) (.n (.fn 19 ach [.tmp 2]) zn zn) zn)))) (.n .no (.n .no (.n .no (.n (.fn 33 c68 [.cell 4 33]) (.n (.fn 47 Vv []) zn zn) (.n (.fn 27 VX [.tmp 4]) zn zn)) (.n .mpc (.n (.fn 8 VJ []) zn zn) zn)) (.n (.fn 2 c52 [.cell 0 33]) (.n .no (.n (.fn 34 VD [.cell 6 4]) zn zn) zn) (.n .no (.n (.fn 133 ab8 [.tmp 6]) zn zn) zn))) (.n .no (.n .no zn (.n (.fn 24 Vl [.tmp 4]) (.n (.fn 8 VQ []) zn zn) zn)) (.n (.fn 42 c60 [.tmp 4]) zn (.n .no (.n (.fn 76 acn []) zn zn) zn))))) (.n .no (.n .no (.n .no (.n .no (.n (.fn 16 c66 [.tmp 4]) zn (.n (.fn 14 VV [.tmp 4]) zn zn)) (.n .no (.n (.fn 134 abU []) zn zn) zn)) (.n (.fn 2 c50 [.cell 0 33]) (.n .no (.n (.fn 15 VB [.tmp 6]) zn zn) zn) (.n .no (.n (.fn 57 ab4 [.tmp 6, .tmp 7]) zn zn) zn))) (.n .no (.n .no (.n (.fn 50 c74 [.tmp 4]) zn zn) (.n (.fn 8 Vj [.tmp 2]) (.n (.fn 7 VO [.tmp 3]) zn zn) zn)) (.n .no zn (.n .no (.n (.fn 19 VT [.tmp 4]) zn zn) zn)))) (.n (.fn 101 c14 [.tmp 0]) (.n .no (.n .no (.n .no (.n (.fn 5 Vx [.tmp 2]) zn zn) (.n (.fn 27 VZ [.tmp 4]) zn zn)) (.n (.fn 7 Vf []) (.n (.fn 9 VL [.tmp 4]) zn zn) zn)) (.n .no zn (.n .no (.n (.fn 84 acd [.tmp 8]) zn zn) zn))) (.n .no (.n (.fn 10 c46 [.cell 0 29]) zn (.n (.fn 9 Vn [.tmp 2]) (.n (.fn 10 VS [.tmp 4]) zn zn) zn)) (.n (.fn 12 c62 [.cell 0 24]) (.n .no (.n (.fn 13 VF [.tmp 4]) zn zn) zn) (.n (.fn 19 Vt [.tmp 4]) (.n (.fn 33 acr [.tmp 2]) zn zn) zn)))))))
noncomputable def bR:Nat->FD:=acD.get
theorem gN:∀g,(bR g).Ok Tryz.prog g:=
 Tr.Ab (p:=fun g d=>d.Ok Tryz.prog g) (f:=fun g=>g) acD
   ⟨trivial,⟨trivial,⟨trivial,⟨trivial,⟨aba,⟨trivial,⟨abf,zt,⟨acv,zt,zt⟩⟩,⟨trivial,⟨Sj,zt,zt⟩,zt⟩⟩,⟨aeD,⟨abo,zt,zt⟩,⟨R0,⟨abZ,zt,zt⟩,zt⟩⟩⟩,⟨trivial,⟨trivial,⟨trivial,⟨abI,zt,zt⟩,⟨SG,zt,zt⟩⟩,⟨RS,⟨Sq,zt,zt⟩,zt⟩⟩,⟨trivial,zt,⟨R3,⟨acg,zt,zt⟩,zt⟩⟩⟩⟩,⟨trivial,⟨trivial,⟨aew,⟨abj,zt,⟨SC,zt,zt⟩⟩,⟨abr,⟨abX,zt,zt⟩,zt⟩⟩,⟨aeH,⟨trivial,⟨Sf,zt,zt⟩,zt⟩,⟨trivial,⟨ab7,zt,zt⟩,zt⟩⟩⟩,⟨trivial,⟨trivial,zt,⟨RW,⟨Su,zt,zt⟩,zt⟩⟩,⟨trivial,⟨abq,zt,zt⟩,⟨trivial,⟨SA,zt,zt⟩,zt⟩⟩⟩⟩⟩,⟨trivial,⟨trivial,⟨trivial,⟨trivial,⟨abh,⟨R7,zt,zt⟩,⟨acA,zt,zt⟩⟩,⟨trivial,⟨Sl,zt,zt⟩,zt⟩⟩,⟨aeF,⟨trivial,⟨Sd,zt,zt⟩,zt⟩,⟨trivial,⟨ab3,zt,zt⟩,zt⟩⟩⟩,⟨aet,⟨trivial,⟨abm,zt,⟨acC,zt,zt⟩⟩,⟨RU,⟨Sr,zt,zt⟩,zt⟩⟩,⟨trivial,zt,⟨R5,⟨acm,zt,zt⟩,zt⟩⟩⟩⟩,⟨trivial,⟨abc,⟨trivial,⟨abl,⟨R9,zt,zt⟩,⟨SE,zt,zt⟩⟩,⟨⟨Lz,Lx⟩,⟨Sn,zt,zt⟩,zt⟩⟩,⟨trivial,⟨aeT,⟨Sh,zt,zt⟩,zt⟩,⟨trivial,⟨acb,zt,zt⟩,zt⟩⟩⟩,⟨trivial,⟨trivial,zt,⟨RY,⟨Sw,zt,zt⟩,zt⟩⟩,⟨trivial,zt,⟨trivial,⟨acq,zt,zt⟩,zt⟩⟩⟩⟩⟩⟩,⟨trivial,⟨trivial,⟨trivial,⟨abb,⟨trivial,⟨abg,zt,⟨acx,zt,zt⟩⟩,⟨trivial,⟨Sk,zt,zt⟩,zt⟩⟩,⟨aeE,⟨aeQ,⟨Sc,zt,zt⟩,zt⟩,⟨LA,⟨ab1,zt,zt⟩,zt⟩⟩⟩,⟨aes,⟨abd,⟨trivial,⟨Sb,zt,zt⟩,⟨SH,zt,zt⟩⟩,⟨RT,zt,zt⟩⟩,⟨trivial,⟨abp,zt,zt⟩,⟨R4,⟨acj,zt,zt⟩,zt⟩⟩⟩⟩,⟨trivial,⟨trivial,⟨trivial,⟨abk,⟨R8,zt,zt⟩,⟨SD,zt,zt⟩⟩,⟨LB,⟨Sm,zt,zt⟩,zt⟩⟩,⟨aeI,⟨trivial,⟨Sg,zt,zt⟩,zt⟩,⟨trivial,⟨ab9,zt,zt⟩,zt⟩⟩⟩,⟨trivial,⟨trivial,zt,⟨RX,⟨Sv,zt,zt⟩,zt⟩⟩,⟨abe,zt,⟨trivial,⟨aco,zt,zt⟩,zt⟩⟩⟩⟩⟩,⟨trivial,⟨trivial,⟨trivial,⟨trivial,⟨abi,zt,⟨SB,zt,zt⟩⟩,⟨trivial,⟨abV,zt,zt⟩,zt⟩⟩,⟨aeG,⟨trivial,⟨Se,zt,zt⟩,zt⟩,⟨trivial,⟨ab5,zt,zt⟩,zt⟩⟩⟩,⟨trivial,⟨trivial,⟨abn,zt,zt⟩,⟨RV,⟨Ss,zt,zt⟩,zt⟩⟩,⟨trivial,zt,⟨trivial,⟨Sz,zt,zt⟩,zt⟩⟩⟩⟩,⟨aep,⟨trivial,⟨trivial,⟨trivial,⟨Sa,zt,zt⟩,⟨SF,zt,zt⟩⟩,⟨RR,⟨Sp,zt,zt⟩,zt⟩⟩,⟨trivial,zt,⟨trivial,⟨ace,zt,zt⟩,zt⟩⟩⟩,⟨trivial,⟨aeC,zt,⟨RZ,⟨Sx,zt,zt⟩,zt⟩⟩,⟨aeK,⟨trivial,⟨Si,zt,zt⟩,zt⟩,⟨R6,⟨acs,zt,zt⟩,zt⟩⟩⟩⟩⟩⟩⟩
end Go.Proofs.YtlhemmpklhhgoaaGreat
namespace Go.Proofs.YtlhemmpklhhgoaaGreat
@[go_sem] theorem cellsOf_3:Tryz.prog.cellsOf 3=1:=ah
@[go_sem] theorem bytesOf_3:Tryz.prog.bytesOf 3=8:=ah
@[go_sem] theorem aggT_3:dc Tryz.prog 3=some false:=ah
@[go_sem] theorem infoT_3:(Tryz.prog.info? 3).isSome=true:=ah
@[go_sem] theorem undT_3:Tryz.prog.underlying 3=some (.int .i64):=ah
@[go_sem] theorem eqShape_3:bK Tryz.prog 3=some .int:=ah
@[go_sem] theorem zeroT_3:cB Tryz.prog 3=some [.d (.int .i64 0)]:=ah
@[go_sem] theorem cellsOf_4:Tryz.prog.cellsOf 4=1:=ah
@[go_sem] theorem aggT_4:dc Tryz.prog 4=some false:=ah
@[go_sem] theorem infoT_4:(Tryz.prog.info? 4).isSome=true:=ah
@[go_sem] theorem undT_4:Tryz.prog.underlying 4=some .bool:=ah
@[go_sem] theorem zeroT_4:cB Tryz.prog 4=some [.d (.bool false)]:=ah
@[go_sem] theorem zeroV_4:zeroV Tryz.prog 4=some (.d (.bool false)):=ah
@[go_sem] theorem cellsOf_9:Tryz.prog.cellsOf 9=1:=ah
@[go_sem] theorem bytesOf_9:Tryz.prog.bytesOf 9=16:=ah
@[go_sem] theorem aggT_9:dc Tryz.prog 9=some false:=ah
@[go_sem] theorem undT_9:Tryz.prog.underlying 9=some .string:=ah
@[go_sem] theorem eqShape_9:bK Tryz.prog 9=some .str:=ah
@[go_sem] theorem zeroT_9:cB Tryz.prog 9=some [.d (.str [])]:=ah
@[go_sem] theorem sliceT_22:b7 Tryz.prog 22=some 124:=ah
@[go_sem] theorem aggT_22:dc Tryz.prog 22=some false:=ah
@[go_sem] theorem intT_22:o9 Tryz.prog 22=none:=ah
@[go_sem] theorem undT_22:Tryz.prog.underlying 22=some (.slice 124):=ah
@[go_sem] theorem cellsOf_24:Tryz.prog.cellsOf 24=2:=ah
@[go_sem] theorem aggT_24:dc Tryz.prog 24=some true:=ah
@[go_sem] theorem zeroT_24:cB Tryz.prog 24=some [.aq, .aq]:=ah
@[go_sem] theorem placesT_24:cT Tryz.prog 24=some [(0,1),(1,1)]:=ah
@[go_sem] theorem cellsOf_25:Tryz.prog.cellsOf 25=1:=ah
@[go_sem] theorem sliceT_25:b7 Tryz.prog 25=some 59:=ah
@[go_sem] theorem aggT_25:dc Tryz.prog 25=some false:=ah
@[go_sem] theorem intT_25:o9 Tryz.prog 25=none:=ah
@[go_sem] theorem infoT_25:(Tryz.prog.info? 25).isSome=true:=ah
@[go_sem] theorem undT_25:Tryz.prog.underlying 25=some (.slice 59):=ah
@[go_sem] theorem cellsOf_26:Tryz.prog.cellsOf 26=1:=ah
@[go_sem] theorem sliceT_26:b7 Tryz.prog 26=some 101:=ah
@[go_sem] theorem aggT_26:dc Tryz.prog 26=some false:=ah
@[go_sem] theorem intT_26:o9 Tryz.prog 26=none:=ah
@[go_sem] theorem infoT_26:(Tryz.prog.info? 26).isSome=true:=ah
@[go_sem] theorem undT_26:Tryz.prog.underlying 26=some (.slice 101):=ah
@[go_sem] theorem cellsOf_27:Tryz.prog.cellsOf 27=1:=ah
@[go_sem] theorem sliceT_27:b7 Tryz.prog 27=some 77:=ah
@[go_sem] theorem aggT_27:dc Tryz.prog 27=some false:=ah
@[go_sem] theorem intT_27:o9 Tryz.prog 27=none:=ah
@[go_sem] theorem infoT_27:(Tryz.prog.info? 27).isSome=true:=ah
@[go_sem] theorem undT_27:Tryz.prog.underlying 27=some (.slice 77):=ah
@[go_sem] theorem cellsOf_29:Tryz.prog.cellsOf 29=5:=ah
@[go_sem] theorem aggT_29:dc Tryz.prog 29=some true:=ah
@[go_sem] theorem infoT_29:(Tryz.prog.info? 29).isSome=true:=ah
@[go_sem] theorem zeroT_29:cB Tryz.prog 29=some [.aq, .aq, .aq, .aq, .aq]:=ah
@[go_sem] theorem placesT_29:cT Tryz.prog 29=some [(0,2),(2,1),(3,1),(4,1)]:=ah
@[go_sem] theorem aggT_30:dc Tryz.prog 30=some false:=ah
@[go_sem] theorem undT_30:Tryz.prog.underlying 30=some (.int .i64):=ah
@[go_sem] theorem cellsOf_31:Tryz.prog.cellsOf 31=1:=ah
@[go_sem] theorem sliceT_31:b7 Tryz.prog 31=some 33:=ah
@[go_sem] theorem aggT_31:dc Tryz.prog 31=some false:=ah
@[go_sem] theorem intT_31:o9 Tryz.prog 31=none:=ah
@[go_sem] theorem infoT_31:(Tryz.prog.info? 31).isSome=true:=ah
@[go_sem] theorem undT_31:Tryz.prog.underlying 31=some (.slice 33):=ah
@[go_sem] theorem cellsOf_33:Tryz.prog.cellsOf 33=3:=ah
@[go_sem] theorem bytesOf_33:Tryz.prog.bytesOf 33=40:=ah
@[go_sem] theorem aggT_33:dc Tryz.prog 33=some true:=ah
@[go_sem] theorem infoT_33:(Tryz.prog.info? 33).isSome=true:=ah
@[go_sem] theorem zeroT_33:cB Tryz.prog 33=some [.d (.int .i64 0), .d (.int .i64 0), .aq]:=ah
@[go_sem] theorem zeroV_33:zeroV Tryz.prog 33=some (mq [.d (.int .i64 0), .d (.int .i64 0), .aq]):=ah
@[go_sem] theorem placesT_33:cT Tryz.prog 33=some [(0,1),(1,1),(2,1)]:=ah
@[go_sem] theorem cellsOf_36:Tryz.prog.cellsOf 36=1:=ah
@[go_sem] theorem aggT_36:dc Tryz.prog 36=some false:=ah
@[go_sem] theorem infoT_36:(Tryz.prog.info? 36).isSome=true:=ah
@[go_sem] theorem zeroT_36:cB Tryz.prog 36=some [.d (.int .i64 0)]:=ah
@[go_sem] theorem sliceT_48:b7 Tryz.prog 48=some 53:=ah
@[go_sem] theorem intT_48:o9 Tryz.prog 48=none:=ah
@[go_sem] theorem undT_48:Tryz.prog.underlying 48=some (.slice 53):=ah
@[go_sem] theorem cellsOf_53:Tryz.prog.cellsOf 53=7:=ah
@[go_sem] theorem bytesOf_53:Tryz.prog.bytesOf 53=88:=ah
@[go_sem] theorem aggT_53:dc Tryz.prog 53=some true:=ah
@[go_sem] theorem infoT_53:(Tryz.prog.info? 53).isSome=true:=ah
@[go_sem] theorem zeroT_53:cB Tryz.prog 53=some [.d (.int .i64 0), .d (.int .i64 0), .aq, .d (.int .i64 0), .d (.int .i64 0), .aq, .d (.bool false)]:=ah
@[go_sem] theorem cellsOf_59:Tryz.prog.cellsOf 59=4:=ah
@[go_sem] theorem bytesOf_59:Tryz.prog.bytesOf 59=48:=ah
@[go_sem] theorem aggT_59:dc Tryz.prog 59=some true:=ah
@[go_sem] theorem infoT_59:(Tryz.prog.info? 59).isSome=true:=ah
@[go_sem] theorem zeroT_59:cB Tryz.prog 59=some [.d (.int .i64 0), .d (.int .i64 0), .d (.int .i64 0), .aq]:=ah
@[go_sem] theorem placesT_59:cT Tryz.prog 59=some [(0,1),(1,3)]:=ah
@[go_sem] theorem cellsOf_77:Tryz.prog.cellsOf 77=2:=ah
@[go_sem] theorem bytesOf_77:Tryz.prog.bytesOf 77=16:=ah
@[go_sem] theorem aggT_77:dc Tryz.prog 77=some true:=ah
@[go_sem] theorem infoT_77:(Tryz.prog.info? 77).isSome=true:=ah
@[go_sem] theorem zeroT_77:cB Tryz.prog 77=some [.d (.int .i64 0), .d (.int .i64 0)]:=ah
@[go_sem] theorem placesT_77:cT Tryz.prog 77=some [(0,1),(1,1)]:=ah
@[go_sem] theorem cellsOf_90:Tryz.prog.cellsOf 90=1:=ah
@[go_sem] theorem aggT_90:dc Tryz.prog 90=some false:=ah
@[go_sem] theorem infoT_90:(Tryz.prog.info? 90).isSome=true:=ah
@[go_sem] theorem zeroT_90:cB Tryz.prog 90=some [.d .cz]:=ah
@[go_sem] theorem cellsOf_93:Tryz.prog.cellsOf 93=1:=ah
@[go_sem] theorem aggT_93:dc Tryz.prog 93=some false:=ah
@[go_sem] theorem infoT_93:(Tryz.prog.info? 93).isSome=true:=ah
@[go_sem] theorem undT_93:Tryz.prog.underlying 93=some (.map 3 33):=ah
@[go_sem] theorem mapT_93:rO Tryz.prog 93=some (3,33):=ah
@[go_sem] theorem cellsOf_95:Tryz.prog.cellsOf 95=6:=ah
@[go_sem] theorem aggT_95:dc Tryz.prog 95=some true:=ah
@[go_sem] theorem infoT_95:(Tryz.prog.info? 95).isSome=true:=ah
@[go_sem] theorem zeroT_95:cB Tryz.prog 95=some [.aq, .aq, .aq, .aq, .aq, .d .dH]:=ah
@[go_sem] theorem placesT_95:cT Tryz.prog 95=some [(0,5),(5,1)]:=ah
@[go_sem] theorem cellsOf_101:Tryz.prog.cellsOf 101=6:=ah
@[go_sem] theorem bytesOf_101:Tryz.prog.bytesOf 101=80:=ah
@[go_sem] theorem aggT_101:dc Tryz.prog 101=some true:=ah
@[go_sem] theorem infoT_101:(Tryz.prog.info? 101).isSome=true:=ah
@[go_sem] theorem zeroT_101:cB Tryz.prog 101=some [.d (.int .i64 0), .d (.int .i64 0), .aq, .d (.int .i64 0), .d (.int .i64 0), .aq]:=ah
@[go_sem] theorem placesT_101:cT Tryz.prog 101=some [(0,3),(3,3)]:=ah
@[go_sem] theorem cellsOf_106:Tryz.prog.cellsOf 106=6:=ah
@[go_sem] theorem bytesOf_106:Tryz.prog.bytesOf 106=80:=ah
@[go_sem] theorem sliceT_106:b7 Tryz.prog 106=none:=ah
@[go_sem] theorem arrT_106:yZ Tryz.prog 106=some (2,33):=ah
@[go_sem] theorem aggT_106:dc Tryz.prog 106=some true:=ah
@[go_sem] theorem infoT_106:(Tryz.prog.info? 106).isSome=true:=ah
@[go_sem] theorem zeroT_106:cB Tryz.prog 106=some [.d (.int .i64 0), .d (.int .i64 0), .aq, .d (.int .i64 0), .d (.int .i64 0), .aq]:=ah
@[go_sem] theorem placesT_106:cT Tryz.prog 106=some [(0,3),(3,3)]:=ah
@[go_sem] theorem sliceT_117:b7 Tryz.prog 117=some 106:=ah
@[go_sem] theorem aggT_117:dc Tryz.prog 117=some false:=ah
@[go_sem] theorem intT_117:o9 Tryz.prog 117=none:=ah
@[go_sem] theorem undT_117:Tryz.prog.underlying 117=some (.slice 106):=ah
@[go_sem] theorem cellsOf_124:Tryz.prog.cellsOf 124=2:=ah
@[go_sem] theorem bytesOf_124:Tryz.prog.bytesOf 124=24:=ah
@[go_sem] theorem aggT_124:dc Tryz.prog 124=some true:=ah
@[go_sem] theorem infoT_124:(Tryz.prog.info? 124).isSome=true:=ah
@[go_sem] theorem zeroT_124:cB Tryz.prog 124=some [.d (.str []), .d (.int .i64 0)]:=ah
@[go_sem] theorem placesT_124:cT Tryz.prog 124=some [(0,1),(1,1)]:=ah
@[go_sem] theorem cellsOf_134:Tryz.prog.cellsOf 134=1:=ah
@[go_sem] theorem aggT_134:dc Tryz.prog 134=some false:=ah
@[go_sem] theorem infoT_134:(Tryz.prog.info? 134).isSome=true:=ah
@[go_sem] theorem zeroT_134:cB Tryz.prog 134=some [.d .kT]:=ah
@[go_sem] theorem zeroT_137:cB Tryz.prog 137=some [.d .dH, .aq, .d (.bool false)]:=ah
@[go_sem] theorem placesT_137:cT Tryz.prog 137=some [(0,1),(1,1),(2,1)]:=ah
@[go_sem] theorem cellsOf_142:Tryz.prog.cellsOf 142=1:=ah
@[go_sem] theorem sliceT_142:b7 Tryz.prog 142=some 3:=ah
@[go_sem] theorem aggT_142:dc Tryz.prog 142=some false:=ah
@[go_sem] theorem intT_142:o9 Tryz.prog 142=none:=ah
@[go_sem] theorem infoT_142:(Tryz.prog.info? 142).isSome=true:=ah
@[go_sem] theorem undT_142:Tryz.prog.underlying 142=some (.slice 3):=ah
@[go_sem] theorem sliceT_148:b7 Tryz.prog 148=some 9:=ah
@[go_sem] theorem intT_148:o9 Tryz.prog 148=none:=ah
@[go_sem] theorem undT_148:Tryz.prog.underlying 148=some (.slice 9):=ah
@[go_sem] theorem cellsOf_154:Tryz.prog.cellsOf 154=1:=ah
@[go_sem] theorem aggT_154:dc Tryz.prog 154=some false:=ah
@[go_sem] theorem infoT_154:(Tryz.prog.info? 154).isSome=true:=ah
@[go_sem] theorem zeroT_154:cB Tryz.prog 154=some [.d .cz]:=ah
@[go_sem] theorem cellsOf_162:Tryz.prog.cellsOf 162=0:=ah
@[go_sem] theorem infoT_162:(Tryz.prog.info? 162).isSome=true:=ah
@[go_sem] theorem plainIface_162:l8 Tryz.prog 162=true:=ah
@[go_sem] theorem zeroT_162:cB Tryz.prog 162=some []:=ah
@[go_sem] theorem zeroV_162:zeroV Tryz.prog 162=some (mq []):=ah
@[go_sem] theorem placesT_162:cT Tryz.prog 162=some []:=ah
@[go_sem] theorem cellsOf_163:Tryz.prog.cellsOf 163=0:=ah
@[go_sem] theorem infoT_163:(Tryz.prog.info? 163).isSome=true:=ah
@[go_sem] theorem plainIface_163:l8 Tryz.prog 163=true:=ah
@[go_sem] theorem zeroT_163:cB Tryz.prog 163=some []:=ah
@[go_sem] theorem zeroV_163:zeroV Tryz.prog 163=some (mq []):=ah
@[go_sem] theorem placesT_163:cT Tryz.prog 163=some []:=ah
@[go_sem] theorem zeroT_164:cB Tryz.prog 164=some [.d (.int .i64 0), .d (.int .i64 0)]:=ah
@[go_sem] theorem placesT_164:cT Tryz.prog 164=some [(0,1),(1,1)]:=ah
@[go_sem] theorem aggT_168:dc Tryz.prog 168=some false:=ah
@[go_sem] theorem cellsOf_175:Tryz.prog.cellsOf 175=1:=ah
@[go_sem] theorem aggT_175:dc Tryz.prog 175=some false:=ah
@[go_sem] theorem infoT_175:(Tryz.prog.info? 175).isSome=true:=ah
@[go_sem] theorem mapT_175:rO Tryz.prog 175=some (9,4):=ah
@[go_sem] theorem zeroT_175:cB Tryz.prog 175=some [.d .dH]:=ah
@[go_sem] theorem cellsOf_178:Tryz.prog.cellsOf 178=1:=ah
@[go_sem] theorem aggT_178:dc Tryz.prog 178=some false:=ah
@[go_sem] theorem infoT_178:(Tryz.prog.info? 178).isSome=true:=ah
@[go_sem] theorem mapT_178:rO Tryz.prog 178=some (3,4):=ah
@[go_sem] theorem zeroT_178:cB Tryz.prog 178=some [.d .dH]:=ah
@[go_sem] theorem cellsOf_209:Tryz.prog.cellsOf 209=1:=ah
@[go_sem] theorem aggT_209:dc Tryz.prog 209=some false:=ah
@[go_sem] theorem infoT_209:(Tryz.prog.info? 209).isSome=true:=ah
@[go_sem] theorem cellsOf_210:Tryz.prog.cellsOf 210=16:=ah
@[go_sem] theorem sliceT_210:b7 Tryz.prog 210=none:=ah
@[go_sem] theorem arrT_210:yZ Tryz.prog 210=some (16,209):=ah
@[go_sem] theorem aggT_210:dc Tryz.prog 210=some true:=ah
@[go_sem] theorem infoT_210:(Tryz.prog.info? 210).isSome=true:=ah
@[go_sem] theorem zeroT_210:cB Tryz.prog 210=some [.d .cz, .d .cz, .d .cz, .d .cz, .d .cz, .d .cz, .d .cz, .d .cz, .d .cz, .d .cz, .d .cz, .d .cz, .d .cz, .d .cz, .d .cz, .d .cz]:=ah
@[go_sem] theorem placesT_210:cT Tryz.prog 210=some [(0,1),(1,1),(2,1),(3,1),(4,1),(5,1),(6,1),(7,1),(8,1),(9,1),(10,1),(11,1),(12,1),(13,1),(14,1),(15,1)]:=ah
@[go_sem] theorem zeroT_213:cB Tryz.prog 213=some [.aq, .aq]:=ah
@[go_sem] theorem placesT_213:cT Tryz.prog 213=some [(0,2)]:=ah
@[go_sem] theorem fieldT_24_0:bU Tryz.prog 24 0=some 0:=ah
@[go_sem] theorem fieldT_24_1:bU Tryz.prog 24 1=some 1:=ah
@[go_sem] theorem fieldT_29_0:bU Tryz.prog 29 0=some 0:=ah
@[go_sem] theorem fieldT_29_1:bU Tryz.prog 29 1=some 2:=ah
@[go_sem] theorem fieldT_29_2:bU Tryz.prog 29 2=some 3:=ah
@[go_sem] theorem fieldT_29_3:bU Tryz.prog 29 3=some 4:=ah
@[go_sem] theorem fieldT_33_0:bU Tryz.prog 33 0=some 0:=ah
@[go_sem] theorem fieldT_33_1:bU Tryz.prog 33 1=some 1:=ah
@[go_sem] theorem fieldT_33_2:bU Tryz.prog 33 2=some 2:=ah
@[go_sem] theorem fieldT_53_0:bU Tryz.prog 53 0=some 0:=ah
@[go_sem] theorem fieldT_53_1:bU Tryz.prog 53 1=some 3:=ah
@[go_sem] theorem fieldT_53_2:bU Tryz.prog 53 2=some 6:=ah
@[go_sem] theorem fieldT_59_0:bU Tryz.prog 59 0=some 0:=ah
@[go_sem] theorem fieldT_59_1:bU Tryz.prog 59 1=some 1:=ah
@[go_sem] theorem fieldT_77_0:bU Tryz.prog 77 0=some 0:=ah
@[go_sem] theorem fieldT_77_1:bU Tryz.prog 77 1=some 1:=ah
@[go_sem] theorem fieldT_95_0:bU Tryz.prog 95 0=some 0:=ah
@[go_sem] theorem fieldT_95_1:bU Tryz.prog 95 1=some 5:=ah
@[go_sem] theorem fieldT_101_0:bU Tryz.prog 101 0=some 0:=ah
@[go_sem] theorem fieldT_101_1:bU Tryz.prog 101 1=some 3:=ah
@[go_sem] theorem fieldT_124_0:bU Tryz.prog 124 0=some 0:=ah
@[go_sem] theorem fieldT_124_1:bU Tryz.prog 124 1=some 1:=ah
@[go_sem] theorem fieldT_137_0:bU Tryz.prog 137 0=some 0:=ah
@[go_sem] theorem fieldT_137_1:bU Tryz.prog 137 1=some 1:=ah
@[go_sem] theorem fieldT_137_2:bU Tryz.prog 137 2=some 2:=ah
@[go_sem] theorem fieldT_213_0:bU Tryz.prog 213 0=some 0:=ah
section
def jU(x y:ad):Prop:=(x.ct=true->y.ct=true)/\∀e,x.cq=some e->y.cq=some e
theorem jU.rfl' {x y:ad}(h:x=y):jU x y:=h ▸ ⟨id,fun _ h=>h⟩
theorem jU.fz (x:ad):jU x.fz x:=by cases x<;>exact⟨id,fun _ h=>h⟩
theorem jU.row (cs cs':List V):jU (.row cs) (.row cs'):=⟨fun _=>rfl,fun _ h=>by cases h⟩
mutual
theorem V.jK {B B':Nat->Prop}{φ aF:Place}{H H':Hp}{w:World}(hB:∀b, ¬B b-> ¬B' b):∀ (v:V) (val:Value),(∀id∈v.refs,jU (H'.o id) (H.o id)/\aF id=φ id/\H'.us id)->V.den B φ H w v val->V.den B' aF H' w v val
 | .d x,val,_,h=>D.aS (w:=w) (w':=w) (fun b _ hn=>⟨rfl,hB b hn⟩) x val h
 | .aq,_,_,h=>h
 | .aa,_,_,_=>trivial
 | .fw,_,_,h=>h
 | .oM es,val,_,h=>⟨D.aS (w:=w) (w':=w) (fun b _ hn=>⟨rfl,hB b hn⟩) (.sl es) val h.1,h.2⟩
 | .agg cs,val,hr,h=>by
   obtain⟨a,rfl,h1,h2⟩:=h
   exact⟨a,rfl,V.eA hB cs _ xn h1,h2⟩
 | .bP cs,val,hr,h=>by
   obtain⟨a,rfl,h1⟩:=h
   exact⟨a,rfl,V.eA hB cs _ xn h1⟩
 | .ptr id off,val,hr,h=>by
   exact zw8
 | .osl id ep,val,hr,h=>by
   obtain⟨a,b,c⟩:=hr id rD
   obtain⟨h0,h1,h2⟩:=h
   refine⟨h0,c,fun e he=> ?_⟩
   obtain⟨x,y⟩:=h2 e (a.2 e he)
   exact⟨x,fun heq=>(y heq).trans b.symm⟩
 | .pe id ep i sz off,val,hr,h=>by
   obtain⟨a,b,c⟩:=hr id rD
   obtain⟨h0,h1,h2⟩:=h
   refine⟨h0,c,fun e he=> ?_⟩
   obtain⟨x,y⟩:=h2 e (a.2 e he)
   exact Qx
 | .pp cs off,val,_,h=>by
   obtain⟨a,ev,h1,h2,h3,h5,h4⟩:=h
   exact YK
 | .func fn first cap,val,hr,h=>by
   obtain⟨f,c,rfl,h1,h2⟩:=h
   exact⟨f,c,rfl,V.eA hB first _ (fun id ax=>hr id (by simp[V.refs,ax])) h1,V.eA hB cap _ (fun id ax=>hr id (by simp[V.refs,ax])) h2⟩
 | .iface t x,val,hr,h=>by
   obtain⟨u,rfl,h⟩:=h
   exact⟨u,rfl,V.jK hB x u xn h⟩
 | .xz id off n,val,hr,h=>by
   exact zw8
 | .mp id,val,hr,h=>by
   obtain⟨a,b,c⟩:=hr id rD
   obtain⟨h0,h1,h2⟩:=h
   refine⟨h0,c,fun cZ=> ?_⟩
   exact(h2 (a.1 cZ)).trans b.symm
 | .j7 id,val,hr,h=>by
   exact zw8
theorem V.eA {B B':Nat->Prop}{φ aF:Place}{H H':Hp}{w:World}(hB:∀b, ¬B b-> ¬B' b):∀ (vs:List V) (vals:List Value),(∀id∈V.aK vs,jU (H'.o id) (H.o id)/\aF id=φ id/\H'.us id)->V.aC B φ H w vs vals->V.aC B' aF H' w vs vals
 |[],_,_,h=>h
 |v::vs,_,hr,h=>by
  obtain⟨u,us,rfl,h1,h2⟩:=h
  exact⟨u,us,rfl,V.jK hB v u (fun id ax=>hr id (by simp[V.aK,ax])) h1,V.eA hB vs us (fun id ax=>hr id (by simp[V.aK,ax])) h2⟩
end
mutual
theorem V.jq {B:Nat->Prop}{φ:Place}{H:Hp}{w:World}:∀ (v:V) (val:Value),V.den B φ H w v val->∀id∈v.refs,H.us id
 | .osl id ep,_,h,j,hj| .ptr id off,_,h,j,hj| .pe id ep i sz off,_,h,j,hj| .xz id off n,_,h,j,hj| .mp id,_,h,j,hj| .j7 id,_,h,j,hj=>by simp[V.refs]at hj;subst hj;exact h.2.1
 | .agg cs,_,h,j,hj=>by obtain⟨a,rfl,h,_⟩:=h;exact V.ed cs _ h j (by simpa[V.refs]using hj)
 | .bP cs,_,h,j,hj=>by obtain⟨a,rfl,h⟩:=h;exact V.ed cs _ h j (by simpa[V.refs]using hj)
 | .func fn first cap,_,h,j,hj=>by
   obtain⟨f,c,rfl,h1,h2⟩:=h
   rcases List.mem_append.1 (show j∈V.aK first++V.aK cap by simpa[V.refs]using hj)with hj|hj
   ·exact V.ed first _ h1 j hj
   ·exact V.ed cap _ h2 j hj
 | .iface t x,_,h,j,hj=>by obtain⟨u,rfl,h⟩:=h;exact V.jq x u h j (by simpa[V.refs]using hj)
 | .d _,_,_,_,hj| .aq,_,_,_,hj| .pp _ _,_,_,_,hj| .aa,_,_,_,hj| .oM _,_,_,_,hj| .fw,_,_,_,hj=>by simp[V.refs]at hj
theorem V.ed {B:Nat->Prop}{φ:Place}{H:Hp}{w:World}:∀ (vs:List V) (vals:List Value),V.aC B φ H w vs vals->∀id∈V.aK vs,H.us id
 |[],_,_,j,hj=>by simp[V.aK]at hj
 |v::vs,_,h,j,hj=>by
  obtain⟨u,us,rfl,h1,h2⟩:=h
  rcases List.mem_append.1 (show j∈v.refs++V.aK vs by simpa[V.aK]using hj)with hj|hj
  ·exact V.jq v u h1 j hj
  ·exact V.ed vs us h2 j hj
end
def fE(so:Nat->ad)(gone:Nat->Prop)(ty:TypeId)(sz:Nat)(es:List D)(x:V):Prop:=
 (x= .aq/\es=[]/\0<sz)\/∃id ep,gone id/\x= .osl id ep/\so id= .arr ep ty sz es
theorem LC{xs ys:List Nat}:kC xs ys=true↔∀x∈xs,x∉ys:=by
 simp[kC,List.all_eq_true]
def nC(env:Nat->V):List V->Nat->Prop
 |[],_=>True
 |v::l,i=>(v= .aa\/v=env i)/\nC env l (i+1)
theorem Hw{env:Nat->V}{i:Nat}:nC env [] i:=trivial
theorem DK{env:Nat->V}{l:List V}{i:Nat}(h:nC env l (i+1)):nC env (.aa::l) i:=⟨.inl rfl,h⟩
theorem Nw{env:Nat->V}{l:List V}{i:Nat}{v:V}(he:env i=v)(h:nC env l (i+1)):nC env (v::l) i:=⟨.inr he.symm,h⟩
theorem CC{env:Nat->V}:∀ (l:List V) (i:Nat),nC env l i->∀j,aY l j= .aa\/aY l j=env (i+j)
 |[],i,_,j=>by rw[qF];exact .inl rfl
 |v::l,i,h,0=>by rw[od];exact h.1
 |v::l,i,h,j+1=>by
  rw[oe]
  have:=CC l (i+1) h.2 j
  rwa [show i+1+j=i+(j+1) by omega]at this
theorem IA{P:Program}{n bq:Nat}{gq:Operand}{ps:List Nat}{x y:IC}{Q:fH->S->Prop}{e:Nat->V}{o:Nat->ad}{nx:Nat}{f:FuncId}{cap:List V}(env:List V)(he:nC e env 0)
 (h:bQ P f (.j7 nx::cap) (ay o nx (.loop P.funcs.size n env ps x y .ready none)) (nx+1)
  (fun _ o' nx'=>∃nf m en p c d st pd,o' nx= .loop nf m en p c d st pd/\st≠ .busy/\qw Q pd ⟨e,ay o' nx (.loop nf m en p c d .exhausted pd),nx'⟩) (fun v o' nx'=>Q (.bJ v) ⟨e,o',nx'⟩)):
 tK P n bq false gq ps x y Q ⟨e,o,nx⟩ (.func (.func f) [] cap):=by
 unfold tK BR
 refine⟨rfl, .inl ⟨env,fun i=> ?_, .inl h⟩⟩
 have:=CC env 0 he i
 rwa [Nat.zero_add]at this
theorem bI.trans {b:Nat}{s s' s'':S}(h1:bI b s s')(h2:bI b s' s''):bI b s s'':=fun M φ w tm hH hd=>by
 obtain⟨aF,a1,a2,a3,a4,a5,a6⟩:=h1 M φ w tm hH hd
 obtain⟨DO,b1,b2,b3,b4,b5,b6⟩:=h2 M aF w tm a1 a2
 refine⟨DO,b1,b2,fun k hk=>a3 k (b3 k hk),b4,fun id ax hr=> ?_,fun id e' ax he=> ?_⟩
 ·obtain⟨c1,c2⟩:=b5 id ax hr
  obtain⟨c3,c4⟩:=a5 id ax c1
  exact⟨c3,c2.trans c4⟩
 ·obtain⟨e1,c1,c2,c3⟩:=b6 id e' ax he
  obtain⟨e0,d1,d2,d3⟩:=a6 id e1 ax c1
  exact⟨e0,d1,Nat.le_trans d2 c2,fun h=>(c3 af).trans (d3 af)⟩
theorem OM{P:Program}{n bq:Nat}{gq:Operand}{ps:List Nat}{x y:IC}{Q:fH->S->Prop}{s s':S}{g:V}(hle:bI bq s s')(h:tK P n bq false gq ps x y Q s' (s'.ev gq)):tK P n bq false gq ps x y Q s g:=by
 unfold tK at h|-
 obtain⟨h1,h2⟩:=h
 refine⟨h1, .inr ?_⟩
 rcases h2 with h2|⟨s'',KI,h2⟩
 ·exact⟨s',hle,h2⟩
 ·exact⟨s'',hle.trans KI,h2⟩
def sn(P:Program)(n b id:Nat)(e9:IC)(K X:V->(Nat->ad)->Nat->Prop)(e:fH)(s:S):Prop:=
 match e with
 | .normal=>∃nf m en p c d pd,s.o id= .loop nf m en p c d .ready pd/\kN P n b true e9 (kO id K X) ⟨s.env,ay s.o id (.loop nf m en p c d .busy pd),s.nx⟩
 | .bJ v=>X v s.o s.nx
 |_=>False
theorem dL.aH {P:Program}{n:Nat}(bc:P.follows .mixedOrders=true){id:Nat}{args:List V}{o:Nat->ad}{nx:Nat}{K X:V->(Nat->ad)->Nat->Prop}{env:List V}{ps:List Nat}{jv e9:IC}{st:LoopState}{pd:Option jS}
 (ho:o id= .loop P.funcs.size n env ps jv e9 st pd) (ck:id<nx) (Ey:ps.all (fun t=>decide (t<n))=true) (hl:args.length=ps.length)
 (h:kN P n nx true jv (sn P n nx id e9 K X) ⟨px (aY env) ps args,o,nx⟩):dL P id args o nx K X:=by
 refine dL.vj bc ho ck Ey hl (dZ jv _ _ _ (fun e s h=> ?_) h)
 cases e with
 |normal=>
  obtain⟨nf,m,en,p,c,d,pd,h1,h2⟩:=h
  exact⟨nf,m,en,p,c,d,pd,h1,dZ e9 _ _ _ (fun _ _ h=>h) h2⟩
 |bJ v=>exact h
 |_=>exact h.elim
theorem Ac{P:Program}{n b id:Nat}{e9:IC}{K X:V->(Nat->ad)->Nat->Prop}{s:S}{nf m:Nat}{en:List V}{p:List Nat}{c d:IC}{pd:Option jS}(h:s.o id= .loop nf m en p c d .ready pd)
 (h2:kN P n b true e9 (kO id K X) ⟨s.env,ay s.o id (.loop nf m en p c d .busy pd),s.nx⟩):sn P n b id e9 K X .normal s:=⟨nf,m,en,p,c,d,pd,h,h2⟩
def w6:List Nat->Nat->Nat->Nat
 |[],nx,k=>nx+k
 |i::_,_,0=>i
 |_::l,nx,k+1=>w6 l nx k
theorem Ad:∀ (l:List Nat) (nx k:Nat),w6 l nx k∈l\/nx<=w6 l nx k
 |[],nx,k=> .inr (Nat.le_add_right _ _)
 |i::_,_,0=> .inl (List.mem_cons_self ..)
 |_::l,nx,k+1=>(Ad l nx k).imp (List.mem_cons_of_mem _) id
theorem CD{nx:Nat}:∀ (l:List Nat),l.Nodup->(∀i∈l,i<nx)->∀a b,w6 l nx a=w6 l nx b->a=b
 |[],_,_,a,b,e=>by simp only[w6]at e;omega
 |i::l,_,_,0,0,_=>rfl
 |i::l,hd,hl,0,b+1,e=>by
  simp only[w6]at e
  rcases Ad l nx b with h|h
  ·rw[<- e]at h;exact absurd h (List.nodup_cons.1 hd).1
  ·have:=hl i (List.mem_cons_self ..);omega
 |i::l,hd,hl,a+1,0,e=>by
  simp only[w6]at e
  rcases Ad l nx a with h|h
  ·rw[e]at h;exact absurd h (List.nodup_cons.1 hd).1
  ·have:=hl i (List.mem_cons_self ..);omega
 |i::l,hd,hl,a+1,b+1,e=>by
  simp only[w6]at e
  rw[CD l (List.nodup_cons.1 hd).2 (fun j hj=>hl j (List.mem_cons_of_mem _ hj)) a b e]
def ON(f:Nat->Nat)(x:List Nat×List Nat):List Nat×List Nat:=(x.1.map f,x.2.map f)
theorem vI{f:Nat->Nat}(hf:∀a b,f a=f b->a=b){xs ys:List Nat}(hd:kC xs ys=true):kC (xs.map f) (ys.map f)=true:=by
 rw[LC]at hd|-
 intro x hx hy
 obtain⟨a,ha,rfl⟩:=List.mem_map.1 hx
 obtain⟨b,hb,e⟩:=List.mem_map.1 hy
 rw[hf b a e]at hb
 exact hd a ha hb
theorem EG{f:Nat->Nat}(hf:∀a b,f a=f b->a=b){pr:List (List Nat)}(fp:List (List Nat×List Nat))(ho:eO pr fp=true):eO pr (fp.map (ON f))=true:=by
 unfold eO at ho|-
 rw[List.all_eq_true]at ho|-
 intro j hj
 rw[List.length_map]at hj
 have ho:=ho j hj
 rw[List.all_eq_true]at ho|-
 intro i hi
 have ho:=ho i hi
 have hm:∀k,(fp.map (ON f)).getD k ([],[])=ON f (fp.getD k ([],[])):=fun k=>by
  rw[List.getD_eq_getElem?_getD,List.getD_eq_getElem?_getD,List.getElem?_map]
  cases fp[k]? <;>rfl
 rw[hm,hm]
 rw[Bool.or_eq_true]at ho|-
 refine ho.imp (fun h=>h) (fun ho=> ?_)
 rw[Bool.and_eq_true,Bool.and_eq_true]at ho|-
 exact⟨⟨vI hf ho.1.1,vI hf ho.1.2⟩,vI hf ho.2⟩
theorem bz{ids:List Nat}{nx:Nat}(hd:ids.Nodup)(hl:∀i∈ids,i<nx){pr:List (List Nat)}(fp:List (List Nat×List Nat))(ho:eO pr fp=true):eO pr (fp.map (ON (w6 ids nx)))=true:=
 EG (CD ids hd hl) fp ho
section
variable {P:Program}{KB:List Nat->Fp->Prop}{pr:List (List Nat)}{l:List bT}{fr:Nat}{fp:Fp}{bad ws:List Nat}{s:S}{d:Option Nat}{op:Op}
end
end
section
structure Gr where
 x:V
 ty:TypeId
 sz:Nat
 es:List D
def Gr.ok (so:Nat->ad)(gone:Nat->Prop)(g:Gr):Prop:=fE so gone g.ty g.sz g.es g.x
def LD(c:Nat)(G:List Gr)(so:Nat->ad)(gone:Nat->Prop)(v v':V):Prop:=
 v'= .aa\/(v'=v/\∀r∈v.refs,r<c)\/(∃i g,G[i]? =some g/\v'= .osl (c+i) 0/\v=g.x)\/∃y,v'= .d y/\dN so v=some y/\∀id∈v.ids,gone id/\∀g∈G,∀ep,g.x≠ .osl id ep
def iL(c:Nat)(G:List Gr)(so:Nat->ad)(gone:Nat->Prop)(env:Nat->V):List V->Nat->Prop
 |[],_=>True
 |v::l,i=>LD c G so gone (env i) v/\iL c G so gone env l (i+1)
def vK(c:Nat)(G:List Gr)(so:Nat->ad)(gone:Nat->Prop):List V->List V->Prop
 |[],[]=>True
 |v::l,v'::l'=>LD c G so gone v v'/\vK c G so gone l l'
 |_,_=>False
def CE(c:Nat)(G:List Gr)(so:Nat->ad)(gone:Nat->Prop)(x x':ad):Prop:=
 x'= .no\/(x=x'/\∀r∈x'.refs,r<c)\/∃cs cs',x= .row cs/\x'= .row cs'/\vK c G so gone cs cs'
section
variable {c:Nat}{G:List Gr}{so:Nat->ad}{gone:Nat->Prop}
theorem GH{env:Nat->V}:∀ (l:List V) (i:Nat),iL c G so gone env l i->∀j,LD c G so gone (env (i+j)) (aY l j)
 |[],i,_,j=>by rw[qF];exact .inl rfl
 |v::l,i,h,0=>by rw[od];exact h.1
 |v::l,i,h,j+1=>by
  rw[oe]
  have:=GH l (i+1) h.2 j
  rwa [show i+1+j=i+(j+1) by omega]at this
variable {env:Nat->V}{i:Nat}{l l':List V}{v:V}{y:D}
theorem gB:iL c G so gone env [] i:=trivial
theorem eY(h:iL c G so gone env l (i+1)):iL c G so gone env (.aa::l) i:=⟨.inl rfl,h⟩
theorem dF(he:env i= .d y)(h:iL c G so gone env l (i+1)):iL c G so gone env (.d y::l) i:=⟨.inr (.inl ⟨he.symm,fun r hr=>by rw[he]at hr;simp[V.refs]at hr⟩),h⟩
theorem lK(he:env i=v)(hr:∀r∈v.refs,r<c)(h:iL c G so gone env l (i+1)):iL c G so gone env (v::l) i:=⟨.inr (.inl ⟨he.symm,fun r HY=>hr r (he ▸ HY)⟩),h⟩
theorem kA(k:Nat){g:Gr}{n:Nat}(hg:G[k]? =some g)(hn:n=c+k)(he:env i=g.x)(h:iL c G so gone env l (i+1)):iL c G so gone env (.osl n 0::l) i:=⟨.inr (.inr (.inl ⟨k,g,hg,by rw[hn],he⟩)),h⟩
theorem lL(ht:dN so (env i)=some y)(hi:∀id∈(env i).ids,gone id/\∀g∈G,∀ep,g.x≠ .osl id ep)(h:iL c G so gone env l (i+1)):iL c G so gone env (.d y::l) i:=⟨.inr (.inr (.inr ⟨y,rfl,ht,hi⟩)),h⟩
theorem mN:vK c G so gone [] []:=trivial
theorem o8(h:vK c G so gone l l'):vK c G so gone (.d y::l) (.d y::l'):=⟨.inr (.inl ⟨rfl,fun r hr=>by simp[V.refs]at hr⟩),h⟩
theorem ur(hr:∀r∈v.refs,r<c)(h:vK c G so gone l l'):vK c G so gone (v::l) (v::l'):=⟨.inr (.inl ⟨rfl,hr⟩),h⟩
theorem uu(k:Nat){g:Gr}{n:Nat}(hg:G[k]? =some g)(hn:n=c+k)(he:v=g.x)(h:vK c G so gone l l'):vK c G so gone (v::l) (.osl n 0::l'):=⟨.inr (.inr (.inl ⟨k,g,hg,by rw[hn],he⟩)),h⟩
theorem me{x:ad}:CE c G so gone x .no:= .inl rfl
theorem bX{x x':ad}(h:x=x')(hr:∀r∈x'.refs,r<c):CE c G so gone x x':= .inr (.inl ⟨h,hr⟩)
theorem mM{x:ad}{cs cs':List V}(h:x= .row cs)(hr:vK c G so gone cs cs'):CE c G so gone x (.row cs'):= .inr (.inr ⟨cs,cs',h,rfl,hr⟩)
end
theorem qL{c:Nat}{G:List Gr}{so:Nat->ad}{gone:Nat->Prop}{B B':Nat->Prop}{φ aF:Place}{H H':Hp}{w:World}(hc:∀v v' val,LD c G so gone v v'->V.den B φ H w v val->V.den B' aF H' w v' val):
 ∀ (l l':List V) (vals:List Value),vK c G so gone l l'->V.aC B φ H w l vals->V.aC B' aF H' w l' vals
 |[],[],_,_,h=>h
 |v::l,v'::l',_,h,hd=>by
  obtain⟨u,us,rfl,h1,h2⟩:=hd
  exact⟨u,us,rfl,hc _ _ _ h.1 h1,qL hc l l' us h.2 h2⟩
 |[],_::_,_,h,_=>h.elim
 |_::_,[],_,h,_=>h.elim
def LF(φ:Place)(c:Nat)(G:List Gr):Place:=fun id=>if id<c then φ id else match G[id - c]? with
 |some g=>(match g.x with| .osl j _=>φ j|_=> .slice none 0 0)
 |none=>φ id
theorem bI.see (gone:Nat->Prop)(G:List Gr)(c:Nat){b:Nat}{e:Nat->V}{so:Nat->ad}{m:Nat}(l:List V){o':Nat->ad}{nx':Nat}(tS:nx'=c+G.length)(hb:b<=c)
 (ho:∀id,id<c->CE c G so gone (so id) (o' id)) (hG:∀i g,G[i]? =some g->o' (c+i)= .arr 0 g.ty g.sz g.es/\g.ok so gone) (hh:∀id,nx'<=id->o' id= .no) (yn:∀id,gone id->id<c->o' id= .no)
 (T0:∀ (i j:Nat) (gi gj:Gr) (id ep fR:Nat),G[i]? =some gi->G[j]? =some gj->gi.x= .osl id ep->gj.x= .osl id fR->i=j) (he:iL c G so gone e l 0):bI b ⟨e,so,m⟩ ⟨aY l,o',nx'⟩:=by
 subst tS
 intro M φ w tm hH hd
 let aF:Place:=LF φ c G
 let H':Hp:=hp o' (c+G.length)
 let H:Hp:=⟨so,fun id=>id<m⟩
 have IB:∀id,id<c->aF id=φ id:=fun id ax=>if_pos ax
 have LG:∀i g,G[i]? =some g->aF (c+i)=(match g.x with| .osl j _=>φ j|_=> .slice none 0 0):=fun i g hg=>by
  show LF φ c G (c+i)=_
  unfold LF
  rw[if_neg (by omega),show c+i - c=i by omega,hg]
 have hold:∀id k,(o' id).live=true->eg (aF id)=some k->∃j,(so j).live=true/\eg (φ j)=some k/\((id<c/\j=id)\/∃i g ep,id=c+i/\G[i]? =some g/\gone j/\g.x= .osl j ep):=by
  intro id k h1 h2
  by_cases ck:id<c
  ·rw[IB id ck]at h2
   rcases ho id ck with h3|⟨h3,_⟩|⟨cs,cs',h3,h4,_⟩
   ·rw[h3]at h1;cases h1
   ·exact⟨id,by rw[h3];exact h1,h2, .inl ⟨ck,rfl⟩⟩
   ·exact⟨id,by rw[h3];rfl,h2, .inl ⟨ck,rfl⟩⟩
  ·by_cases AS:c+G.length<=id
   ·rw[hh id AS]at h1;cases h1
   ·obtain⟨i,rfl⟩:∃i,id=c+i:=⟨id - c,af⟩
    obtain⟨g,hg⟩:∃g,G[i]? =some g:=⟨G[i]'af,aE⟩
    rw[LG i g hg]at h2
    obtain⟨_,aV⟩:=hG i g hg
    rcases aV with⟨h3,_,_⟩|⟨j,ep,hj,h3,pT⟩
    ·rw[h3]at h2;cases h2
    ·rw[h3]at h2
     exact⟨j,by rw[pT];rfl,h2, .inr ⟨i,g,ep,rfl,hg,hj,h3⟩⟩
 have cV:∀k,cG aF H' k->cG φ H k:=by
  rintro k ⟨id,h1,h2⟩
  obtain⟨j,g1,g2,_⟩:=hold id k h1 h2
  exact⟨j,g1,g2⟩
 have hB:∀k, ¬ak M φ H k-> ¬ak M aF H' k:=fun k h h'=>h (h'.imp id (cV k))
 have FU:∀id,id<c->jU (H'.o id) (H.o id)/\aF id=φ id/\H'.us id:=fun id ax=>by
  refine⟨?_,IB id ax,(by show id<c+G.length;omega)⟩
  show jU (o' id) (so id)
  rcases ho id ax with h3|⟨h3,_⟩|⟨cs,cs',h3,h4,_⟩
  ·rw[h3];exact⟨fun h=>j5,fun e h=>j5⟩
  ·exact jU.rfl' h3.symm
  ·rw[h3,h4];exact jU.row _ _
 have fG:∀ (v:V) (val:Value),(∀r∈v.refs,r<c)->V.den (ak M φ H) φ H w v val->V.den (ak M aF H') aF H' w v val:=fun v val hr h=>
  V.jK (H:=H) (H':=H') hB v val (fun id ax=>FU id (hr id ax)) h
 have kR:∀ (v:List V) (val:List Value),(∀r∈V.aK v,r<c)->V.aC (ak M φ H) φ H w v val->V.aC (ak M aF H') aF H' w v val:=fun v val hr h=>
  V.eA (H:=H) (H':=H') hB v val (fun id ax=>FU id (hr id ax)) h
 have aeY:∀ (v:V) (y:D) (val:Value),dN so v=some y->(∀id∈v.ids,gone id/\∀g∈G,∀ep,g.x≠ .osl id ep)->V.den (ak M φ H) φ H w v val->D.den (ak M aF H') w y val:=fun v y val h1 h2 h3=>by
  obtain⟨f1,f2,f3,f4,f5⟩:=cW (H:=H) hH v.ids (fun id ax=>cO v val h3 id ax)
  have Nj:∀k,cG φ (H.put (bw H.o v.ids)) k->cG φ H k:=by
   rintro k ⟨id,g1,g2⟩
   by_cases ax:id∈v.ids
   ·rw[f3 id ax]at g1
    refine⟨id, ?_,g2⟩
    revert g1
    cases H.o id<;>simp[ad.fz,ad.live]
   ·rw[f4 id ax]at g1;exact⟨id,g1,g2⟩
  have h4:V.den (ak M φ (H.put (bw H.o v.ids))) φ (H.put (bw H.o v.ids)) w v val:=
   V.jK (H:=H) (fun k h h'=>h (h'.imp id (Nj k))) v val (fun id ax=>by
     have dT:H.us id:=(V.jq v val h3) id ax
     refine⟨?_,rfl,(f5 id).2 dT⟩
     by_cases hm:id∈v.ids
     ·rw[f3 id hm];exact jU.fz _
     ·rw[f4 id hm];exact jU.rfl' rfl) h3
  have h5:=eH f1 (o:=so) v y val (fun id ax=>f3 id ax) h1 h4
  refine D.aS (w:=w) (w':=w) (fun k _ hn=>⟨rfl,fun hk=>hn (hk.imp id ?_)⟩) y val h5
  rintro⟨id,g1,g2⟩
  obtain⟨j,k1,k2,k3⟩:=hold id k g1 g2
  refine⟨j, ?_,k2⟩
  have:j∉v.ids:=fun hm=>by
   obtain⟨k4,k5⟩:=h2 j hm
   rcases k3 with⟨k6,k7⟩|⟨i,g,ep,k6,k8,k9,k10⟩
   ·subst k7
    have:=yn _ k4 k6
    have g1:(o' j).live=true:=g1
    rw[this]at g1
    cases g1
   ·exact k5 g (List.mem_of_getElem? k8) ep k10
  rw[f4 j this];exact k1
 have GI:∀i g val,G[i]? =some g->V.den (ak M φ H) φ H w g.x val->V.den (ak M aF H') aF H' w (.osl (c+i) 0) val:=by
  intro i g val hg this
  obtain⟨Jg,aV⟩:=hG i g hg
  have ck:c+i<c+G.length:=by have:=(List.getElem?_eq_some_iff.1 hg).1;omega
  rcases aV with⟨h3,_,_⟩|⟨j,ep,hj,h3,pT⟩
  ·rw[h3]at this
   simp only[V.den]at this
   rw[this]
   refine⟨rfl,ck,fun e' pQ=> ?_⟩
   have pQ:(o' (c+i)).cq=some e':=pQ
   rw[Jg]at pQ
   simp only[ad.cq,Option.some.injEq]at pQ
   subst pQ
   exact⟨Nat.le_refl _,fun _=>by rw[LG i g hg,h3]⟩
  ·rw[h3]at this
   obtain⟨g1,g2,g3⟩:=this
   refine⟨g1,ck,fun e' pQ=> ?_⟩
   have pQ:(o' (c+i)).cq=some e':=pQ
   rw[Jg]at pQ
   simp only[ad.cq,Option.some.injEq]at pQ
   subst pQ
   have uI:(H.o j).cq=some ep:=by show(so j).cq=_;rw[pT];rfl
   exact⟨Nat.le_refl _,fun _=>by rw[LG i g hg,h3];exact(g3 ep uI).2 rfl⟩
 have SI:∀v v' val,LD c G so gone v v'->V.den (ak M φ H) φ H w v val->V.den (ak M aF H') aF H' w v' val:=by
  intro v v' val h h1
  rcases h with rfl|⟨rfl,h2⟩|⟨i,g,hg,rfl,rfl⟩|⟨y,rfl,h2,h3⟩
  ·trivial
  ·exact fG _ _ h2 h1
  ·exact GI i g _ hg h1
  ·exact aeY v y val h2 h3 h1
 refine⟨aF,⟨fun id=> ?_,fun id hu=>hh id (by have: ¬id<c+G.length:=hu;omega),fun i j k h1 h2 h3 h4=> ?_,fun k hk=>hH.ours k (cV k hk),hH.AR⟩,fun i=> ?_,cV,by show b<=c+G.length;omega,fun id ax hr=> ?_,fun id e' ax pQ=> ?_⟩
 ·have a7:aR M φ H w id:=hH.ok id
  show aR M aF H' w id
  unfold aR at a7|-
  by_cases ck:id<c
  ·rcases ho id ck with h3|⟨h3,hrefs⟩|⟨cs,cs',h3,h4,cZ⟩
   ·have e2:H'.o id= .no:=h3
    rw[e2];trivial
   ·have e1:H.o id=o' id:=h3
    have e2:H'.o id=o' id:=rfl
    rw[e1]at a7
    rw[e2,IB id ck]
    cases AW:o' id with
    |no=>trivial
    |row cs=>
     simp only[AW]at a7 hrefs|-
     exact ZP
    |arr ep ty sz es=>
     simp only[AW]at a7|-
     obtain⟨k1,xs,k2,evs,k3,k4,k5⟩:=a7
     exact Zd
    |tP ep es=>
     simp only[AW]at a7|-
     exact D.aS (fun b _ hn=>⟨rfl,hB b hn⟩) _ _ a7
    |map kt vt es=>
     simp only[AW]at a7|-
     obtain⟨b,es',clock,k1,k2,k4,k3⟩:=a7
     exact Za
    |b8 l=>
     simp only[AW]at a7|-
     exact kD.mono (fun b _ hn=>⟨rfl,hB b hn⟩) a7
    |rq l last=>
     simp only[AW]at a7|-
     obtain⟨b,k1,k2⟩:=a7
     exact Qu
    |yX s pos=>
     simp only[AW]at a7|-
     exact a7
    |loop nf n env ps a b st pd=>
     simp only[AW]at a7 hrefs|-
     exact QJ
   ·have e1:H.o id= .row cs:=h3
    have e2:H'.o id= .row cs':=h4
    rw[e1]at a7
    rw[e2,IB id ck]
    obtain⟨b,dU,ty,k1,k2,k3,k4⟩:=a7
    exact⟨b,dU,ty,k1,k2,qL SI _ _ _ cZ k3,k4⟩
  ·by_cases AS:c+G.length<=id
   ·have e2:H'.o id= .no:=hh id AS
    rw[e2];trivial
   ·obtain⟨i,rfl⟩:∃i,id=c+i:=⟨id - c,af⟩
    obtain⟨g,hg⟩:∃g,G[i]? =some g:=⟨G[i]'af,aE⟩
    obtain⟨Jg,aV⟩:=hG i g hg
    have e2:H'.o (c+i)= .arr 0 g.ty g.sz g.es:=Jg
    rw[e2]
    rcases aV with⟨h3,h4,eh⟩|⟨j,ep,hj,h3,pT⟩
    ·rw[h4]
     refine⟨eh,[], ?_,[],aE,aE,rfl⟩
     rw[LG i g hg,h3]
     exact World.ownsRow_nil _ _ _ _
    ·have this:aR M φ H w j:=hH.ok j
     unfold aR at this
     have e3:H.o j= .arr ep g.ty g.sz g.es:=pT
     simp only[e3]at this
     obtain⟨k1,xs,k2,evs,k3,k4,k5⟩:=this
     exact⟨k1,xs,by rw[LG i g hg,h3];exact k2,evs,k3,k4,D.aT (fun b _ hn=>⟨rfl,hB b hn⟩) _ _ k5⟩
 ·obtain⟨i',a1,a2,a3⟩:=hold i k h1 h3
  obtain⟨j',b1,b2,b3⟩:=hold j k h2 h4
  have:=hH.apart i' j' k a1 b1 a2 b2
  subst this
  have iZ:∀AV,(o' AV).live=true->AV<c->gone AV->False:=fun AV g1 g2 g3=>by
   rw[yn _ g3 g2]at g1
   cases g1
  rcases a3 with⟨a3,a4⟩|⟨ia,ga,ea,a3,a4,a5,a6⟩<;>rcases b3 with⟨b3,b4⟩|⟨ib,gb,eb,b3,b4,b5,b6⟩
  ·omega
  ·exact(iZ i h1 a3 (a4 ▸ b5)).elim
  ·exact(iZ j h2 b3 (b4 ▸ a5)).elim
  ·have:=T0 ia ib ga gb _ _ _ a4 b4 a6 b6
   omega
 ·have hi:=GH l 0 he i
  rw[Nat.zero_add]at hi
  exact SI _ _ _ hi (hd i)
 ·have ck:id<c:=af
  have hr:(o' id).ct=true:=hr
  exact⟨(FU id ck).1.1 hr,IB id ck⟩
 ·have ck:id<c:=af
  have pQ:(o' id).cq=some e':=pQ
  exact⟨e',(FU id ck).1.2 e' pQ,Nat.le_refl _,fun _=>IB id ck⟩
theorem bI.acE (gone:Nat->Prop)(c:Nat){b:Nat}{e:Nat->V}{so:Nat->ad}{m:Nat}(l:List V){o':Nat->ad}(hb:b<=c)
 (ho:∀id,id<c->CE c [] so gone (so id) (o' id)) (hh:∀id,c<=id->o' id= .no) (yn:∀id,gone id->id<c->o' id= .no) (he:iL c [] so gone e l 0):bI b ⟨e,so,m⟩ ⟨aY l,o',c⟩:=
 bI.see gone [] c l rfl hb ho (fun i g h=>by cases h) hh yn (fun i j gi gj id ep fR h=>by cases h) he
theorem bI.w7 (gone:Nat->Prop)(x:V)(c:Nat){ty:TypeId}{sz:Nat}{es:List D}{b:Nat}{e:Nat->V}{so:Nat->ad}{m:Nat}(l:List V){o':Nat->ad}(hb:b<=c)
 (ho:∀id,id<c->CE c [⟨x,ty,sz,es⟩] so gone (so id) (o' id)) (hc:o' c= .arr 0 ty sz es) (hx:fE so gone ty sz es x) (hh:∀id,c+1<=id->o' id= .no) (yn:∀id,gone id->id<c->o' id= .no)
 (he:iL c [⟨x,ty,sz,es⟩] so gone e l 0):bI b ⟨e,so,m⟩ ⟨aY l,o',c+1⟩:=
 bI.see gone [⟨x,ty,sz,es⟩] c l rfl hb ho (fun i g h=>by
  match i,h with
  |0,h=>simp at h;subst h;exact⟨hc,hx⟩) hh yn (fun i j gi gj id ep fR h h' _ _=>by
  match i,j,h,h' with
  |0,0,_,_=>rfl) he
theorem lt1{P:Nat->Prop}(h:P 0):∀id,id<1->P id:=fun id ax=>by
 have e:id=0:=af
 rw[e];exact h
theorem XZ{P:Nat->Prop}(h:P 0)(h1:P 1):∀id,id<2->P id:=fun id ax=>by
 rcases(by omega:id=0\/id=1)with rfl|rfl<;>assumption
theorem lt0{P:Nat->Prop}:∀id,id<0->P id:=fun id ax=>af
@[go_sem] theorem afq (b:Bool):(b==false)= !b:=Be
@[go_sem] theorem afr (b:Bool):(b==true)=b:=Be
@[go_sem] theorem acF (c:Bool) (v:V):V.zR c (V.zR c v)=V.zR c v:=by cases c<;>rfl
@[go_sem] theorem acG (c:Bool):(c&&c)=c:=by cases c<;>rfl
@[go_sem] theorem X0 {α:Type} (f:α->D) (l:List α) (n:Nat) (h:∀x,(f x).cells.length=n):((l.map f).all fun z=>z.cells.length==n)=true:=by
  simp[List.all_eq_true,h]
attribute [go_sem] implies_true
attribute [go_sem] Option.isSome_none Option.getD_some Option.getD_none
theorem structOf{P:Program}{t:TypeId}(h:(match P.underlying t with|some (.struct _)=>true|_=>false)=true):∃fs,P.underlying t=some (.struct fs):=by
 split at h
 ·exact⟨_,by assumption⟩
 ·cases h
theorem bB{pr:List (List Nat)}{fp:List (List Nat×List Nat)}(h:fp.all (fun x=>x.2.isEmpty)=true):eO pr fp=true:=by
 have e:∀i,(fp.getD i ([],[])).2=[]:=fun i=>by
  rw[List.getD_eq_getElem?_getD]
  cases hi:fp[i]? with
  |none=>rfl
  |some x=>simpa using List.all_eq_true.1 h x (List.mem_of_getElem? hi)
 simp only[eO,List.all_eq_true,e,kC,List.all_nil,Bool.and_self,Bool.or_true,implies_true]
structure eL (base:Nat) (h o:Nat->ad) (nx:Nat):Prop where
 cC:Good o nx
 le:base<=nx
 eq:∀id,id<base->o id=h id
def StK(base:Nat)(h:Nat->ad)(v:V)(o:Nat->ad)(nx:Nat)(K:V->(Nat->ad)->Nat->Prop):Prop:=
 ∀o' nx',nx<=nx'->eL base h o' nx'->(∀id,base<=id->id<nx->o' id=o id)->K v o' nx'
def vL(P:Program)(g:FuncId)(args:List V)(base:Nat)(h h2:Nat->ad)(v:V):Prop:=
 ∀o nx,eL base h o nx->∀K X,StK base h2 v o nx K->bQ P g args o nx K X
theorem eL.ay {base:Nat}{h o:Nat->ad}{nx m i:Nat}{x:ad}(hI:eL base h o nx)(hb:base<=i)(hi:i<m)(hm:nx<=m)(hx:x.refs.all (fun r=>decide (r<m))=true):eL base h (YtlhemmpklhhgoaaGreat.ay o i x) m:=
 ⟨(hI.cC.mono hm).ay hi hx,Nat.le_trans hI.le hm,fun id ax=>by rw[ae _ _ _ _ (by omega)];exact hI.eq id ax⟩
theorem eL.mono {base:Nat}{h o:Nat->ad}{nx m:Nat}(hI:eL base h o nx)(hm:nx<=m):eL base h o m:=⟨hI.cC.mono hm,Nat.le_trans hI.le hm,hI.eq⟩
def ext(base:Nat)(h o:Nat->ad):Nat->ad:=fun id=>if id<base then h id else o id
theorem eL.ext {base c:Nat}{h o:Nat->ad}{nx:Nat}(hI:eL base h o nx)(hc:c<=nx)(hb:base<=c):eL c (YtlhemmpklhhgoaaGreat.ext base h o) o nx:=
 ⟨hI.cC,hc,fun id _=>by unfold YtlhemmpklhhgoaaGreat.ext;split<;>first|exact hI.eq id (by assumption)|rfl⟩
theorem vL.ext {P:Program}{g:FuncId}{args:List V}{base c:Nat}{h h2:Nat->ad}{v:V}(hS:vL P g args base h h2 v)(hb:base<=c)(o0:Nat->ad):vL P g args c (YtlhemmpklhhgoaaGreat.ext base h o0) (YtlhemmpklhhgoaaGreat.ext base h2 o0) v:=by
 intro o nx hI K X hK
 refine hS o nx ⟨hI.cC,Nat.le_trans hb hI.le,fun id ax=>by rw[hI.eq id (by omega)];unfold YtlhemmpklhhgoaaGreat.ext;rw[if_pos ax]⟩ K X fun o' nx' h1 h2 h3=>hK o' nx' h1 ⟨h2.cC,Nat.le_trans hI.le h1,fun id ax=> ?_⟩ (fun id h4 h5=>h3 id af h5)
 unfold YtlhemmpklhhgoaaGreat.ext
 split
 ·exact h2.eq id (by assumption)
 ·rename_i hn
  rw[h3 id (by omega) (by have:=hI.le;omega),hI.eq id ax]
  unfold YtlhemmpklhhgoaaGreat.ext;rw[if_neg hn]
theorem StK.ext {base c:Nat}{h o:Nat->ad}{v:V}{o1:Nat->ad}{nx A0:Nat}{K:V->(Nat->ad)->Nat->Prop}(hK:StK base h v o nx K)(hb:base<=c)(hn:nx<=A0)(hc:nx<=c)(ho:∀id,base<=id->id<nx->o1 id=o id):StK c (YtlhemmpklhhgoaaGreat.ext base h o1) v o1 A0 K:=by
 intro o' nx' h1 h2 h3
 refine hK o' nx' af ⟨h2.cC,Nat.le_trans hb h2.le,fun id ax=> ?_⟩ fun id h4 h5=> ?_
 ·rw[h2.eq id (by omega)];unfold YtlhemmpklhhgoaaGreat.ext;rw[if_pos ax]
 ·rw[h2.eq id (by omega), <- ho id h4 h5];unfold YtlhemmpklhhgoaaGreat.ext;rw[if_neg (by omega)]
def aN{α σ:Type}(step:σ->α->σ×Bool)(s:σ):List α->σ×Bool
 |[]=>(s,true)
 |x::l=>if(step s x).2=true then aN step (step s x).1 l else((step s x).1,false)
theorem nD{P:Program}{id:Nat}{args:List V}{e:Nat->V}{o:Nat->ad}{nx:Nat}{K X:V->(Nat->ad)->Nat->Prop}(h:dL P id args o nx K X):ya P id K X ⟨e,o,nx⟩ args:=by unfold ya;exact h
theorem ud{α:Type}(f:Nat->α)(i:Nat)(x y:α):ay (ay f i x) i y=ay f i y:=by
 funext j;simp only[ay];split<;>rfl
attribute [go_sem] Int.cast_ofNat_Int
section
variable {P:Program}{n:Nat}{ps:List Nat}{x y:IC}{env:List V}{L:LoopState->Option jS->ad}
def iV(P:Program)(n:Nat)(env:List V)(ps:List Nat)(x y:IC)(L:LoopState->Option jS->ad):Prop:=∀st pd,L st pd= .loop P.funcs.size n env ps x y st pd
theorem EH{bq:Nat}{gq:Operand}{Q:fH->S->Prop}{e:Nat->V}{o:Nat->ad}{nx:Nat}{f:FuncId}{cap:List V}(env:List V)(he:nC e env 0)
 (h:∀L,iV P n env ps x y L->bQ P f (.j7 nx::cap) (ay o nx (L .ready none)) (nx+1)
  (fun _ o' nx'=>∃st pd,o' nx=L st pd/\st≠ .busy/\qw Q pd ⟨e,ay o' nx (L .exhausted pd),nx'⟩) (fun v o' nx'=>Q (.bJ v) ⟨e,o',nx'⟩)):
 tK P n bq false gq ps x y Q ⟨e,o,nx⟩ (.func (.func f) [] cap):=by
 refine IA env he ?_
 have:=h (fun st pd=> .loop P.funcs.size n env ps x y st pd) (fun _ _=>rfl)
 refine this.mono (fun v o' nx' hh=> ?_) (fun v o' nx' hh=>hh)
 obtain⟨st,pd,h1,h2,h3⟩:=hh
 exact⟨_,_,_,_,_,_,_,_,h1,h2,h3⟩
theorem vM(hL:iV P n env ps x y L)(bc:P.follows .mixedOrders=true){id:Nat}{args:List V}{o:Nat->ad}{nx:Nat}{K X:V->(Nat->ad)->Nat->Prop}{st:LoopState}{pd:Option jS}
 (ho:o id=L st pd) (ck:id<nx) (Ey:ps.all (fun t=>decide (t<n))=true) (hl:args.length=ps.length)
 (h:kN P n nx true x (sn P n nx id y K X) ⟨px (aY env) ps args,o,nx⟩):dL P id args o nx K X:=
 dL.aH bc (ho.trans (hL st pd)) ck Ey hl h
theorem nE(hL:iV P n env ps x y L){b id:Nat}{e9:IC}{K X:V->(Nat->ad)->Nat->Prop}{e:Nat->V}{o:Nat->ad}{nx:Nat}{pd:Option jS}(h:o id=L .ready pd)
 (h2:kN P n b true e9 (kO id K X) ⟨e,ay o id (L .busy pd),nx⟩):sn P n b id e9 K X .normal ⟨e,o,nx⟩:=by
 refine Ac (h.trans (hL _ _)) ?_
 rw[<- hL];exact h2
theorem sq(hL:iV P n env ps x y L){id:Nat}{K X:V->(Nat->ad)->Nat->Prop}{e:Nat->V}{o:Nat->ad}{nx:Nat}{st:LoopState}{pd:Option jS}(h:o id=L st pd)(k:K (.d (.bool true)) (ay o id (L .ready none)) nx):kO id K X .normal ⟨e,o,nx⟩:=
 ⟨_,_,_,_,_,_,_,_,h.trans (hL _ _),by rw[<- hL];exact k⟩
theorem vN(hL:iV P n env ps x y L){id:Nat}{K X:V->(Nat->ad)->Nat->Prop}{e:Nat->V}{o:Nat->ad}{nx:Nat}{st:LoopState}{pd:Option jS}(h:o id=L st pd)(k:K (.d (.bool false)) (ay o id (L .done (some .ret))) nx):kO id K X .ret ⟨e,o,nx⟩:=
 ⟨_,_,_,_,_,_,_,_,h.trans (hL _ _),by rw[<- hL];exact k⟩
theorem th(hL:iV P n env ps x y L){id j:Nat}{K X:V->(Nat->ad)->Nat->Prop}{e:Nat->V}{o:Nat->ad}{nx:Nat}{st:LoopState}{pd:Option jS}(h:o id=L st pd)(k:K (.d (.bool false)) (ay o id (L .done (some (.exit j)))) nx):kO id K X (.exit j) ⟨e,o,nx⟩:=
 ⟨_,_,_,_,_,_,_,_,h.trans (hL _ _),by rw[<- hL];exact k⟩
theorem iV.no (hL:iV P n env ps x y L)(st:LoopState)(pd:Option jS):L st pd≠ .no:=by rw[hL];exact ad.noConfusion
theorem iV.refs (hL:iV P n env ps x y L)(st:LoopState)(pd:Option jS):(L st pd).refs=V.aK env:=by rw[hL];rfl
end
end
attribute [go_sem_proc] Int.reduceBEq Int.reduceBNe Int.reduceLT Int.reduceLE Int.reduceEq Int.reduceNe Nat.reducePow Nat.reduceEqDiff Nat.reduceAdd Nat.reduceSub Nat.reduceMul Nat.reduceLeDiff Nat.reduceBEq Nat.reduceLT reduceIte reduceCtorEq Int.reduceToNat
attribute [go_sem] List.range_zero Option.isSome_some and_self List.cons.injEq
theorem HA(n low high:Int):aW Tryz.prog 114 [.i n, .i low, .i high] (.ret [.bool (dQ n low high)]):=by
 refine aW.aH mix abu aE ?_
 rw[abt]
 refine cM ?_
 rfl
theorem LH{t:Tm}{left depth:Int}(h:left<1\/depth<1):iI t left depth= -1:=by cases t;simp[iI,h]
theorem pB{l:List Tm}{left depth:Int}(h:left<0):cE l left depth=left:=by
 cases l with
 |nil=>rfl
 |cons k l=>simp[cE,show ¬ (0<=left) by omega]
theorem LI:∀t:Tm,∀left depth:Int, -1<=iI t left depth/\(1<=left->iI t left depth<=left - 1)/\(left<1->iI t left depth= -1):=by
 refine Tm.ind fun op n kids ih left depth=> ?_
 have hs:∀ (l:List Tm) (left d:Int),(∀k∈l,k∈kids)-> -1<=left-> -1<=cE l left d/\cE l left d<=left:=by
  intro l
  induction l with
  |nil=>intro left d _ h;simp[cE,h]
  |cons k l V3=>
   intro left d hk h
   simp only[cE]
   split
   ·rename_i h0
    have h1:=ih k (hk k aE) left d
    have h2:=V3 (iI k left d) d (fun x hx=>hk x oL) h1.1
    by_cases hl:1<=left
    ·have:=h1.2.1 hl;omega
    ·have:=h1.2.2 af;omega
   ·omega
 simp only[iI]
 split
 ·rename_i h;refine⟨af,fun h1=> ?_,fun _=>rfl⟩;omega
 ·rename_i h
  have:=hs kids (left - 1) (depth - 1) (fun _ h=>h) af
  exact⟨this.1,fun _=>this.2,fun h=>af⟩
theorem ID(l:List Tm)(left d:Int)(h: -1<=left): -1<=cE l left d/\cE l left d<=left:=by
 induction l generalizing left with
 |nil=>simp[cE,h]
 |cons k l V3=>
  simp only[cE]
  split
  ·have h1:=LI k left d
   have h2:=V3 (iI k left d) h1.1
   by_cases hl:1<=left
   ·have:=h1.2.1 hl;omega
   ·have:=h1.2.2 af;omega
  ·omega
theorem oY(a b:List Tm)(left d:Int):cE (a++b) left d=cE b (cE a left d) d:=by
 induction a generalizing left with
 |nil=>rfl
 |cons k a ih=>
  simp only[List.cons_append,cE]
  split
  ·exact ih _
  ·rename_i h;rw[pB (by omega)]
theorem CF{l:List Tm}{i:Nat}{k:Tm}(hi:l[i]? =some k)(left d:Int)(h:0<=cE (l.take i) left d):cE (l.take (i+1)) left d=iI k (cE (l.take i) left d) d:=by
 rw[List.take_add_one,hi,oY]
 simp[cE,h]
theorem CG{l:List Tm}{i:Nat}(left d:Int)(h:cE (l.take i) left d<0):cE l left d=cE (l.take i) left d:=by
 conv=>lhs;rw[<- List.take_append_drop i l]
 rw[oY,pB h]
@[reducible] def pC (cs:List V):Nat->ad:=ay (fun _=> .no) 0 (.row cs)
@[reducible] def EI (cs ds:List V):Nat->ad:=ay (ay (fun _=> .no) 0 (.row cs)) 1 (.row ds)
theorem cQ{cs:List V}(h:(ad.row cs).refs.all (fun r=>decide (r<1))=true):Good (pC cs) 1:=(Good.nil (nx:=1)).ay af h
theorem ku{cs ds:List V}(h:(ad.row cs).refs.all (fun r=>decide (r<2))=true)(h2:(ad.row ds).refs.all (fun r=>decide (r<2))=true):Good (EI cs ds) 2:=((Good.nil (nx:=2)).ay af h).ay af h2
theorem bI.d1 {e:Nat->V}{so o:Nat->ad}{m:Nat}(l:List V)(hg:Good o 1)(hm:1<=m)(h0:so 0=o 0)(he:lh 1 e l 0):bI 0 ⟨e,so,m⟩ ⟨aY l,o,1⟩:=
 bI.bE l (Nat.zero_le _) hm hg (fun id h=>by obtain rfl:id=0:=af
                                             exact h0) he
theorem bI.d2 {e:Nat->V}{so o:Nat->ad}{m:Nat}(l:List V)(hg:Good o 2)(hm:2<=m)(h0:so 0=o 0)(h1:so 1=o 1)(he:lh 2 e l 0):bI 0 ⟨e,so,m⟩ ⟨aY l,o,2⟩:=
 bI.bE l (Nat.zero_le _) hm hg (fun id h=>by
  rcases(by omega:id=0\/id=1)with rfl|rfl
  ·exact h0
  ·exact h1) he
@[reducible] def Tm.row (t:Tm):List V:=[.d (.i t.op), .d (.i t.n), .d (.sl (t.kids.map Tm.d))]
theorem CH(t:Tm)(left depth:Int):iI t left depth=if left<1\/depth<1 then -1 else cE t.kids (left - 1) (depth - 1):=by cases t;simp[iI,Tm.kids]
theorem GJ:∀t:Tm,t.fits->∀left depth:Int, -1<=left/\left<=1000000-> -1<=depth/\depth<=1000000->aW Tryz.prog 87 [t.d, .i left, .i depth] (.ret [.i (iI t left depth)]):=by
 refine Tm.fj fun t ih hf left depth hl hd=> ?_
 have wW:=(Tm.b9 _).1 hf
 refine aW.aH mix aeU aE ?_
 rw[c87]
 refine cM ?_
 refine ao (fun h1=> ?_) (fun h1=> ?_)
 ·refine cM ?_
  simp at h1
  rw[LH h1]
 ·simp at h1
  refine cM ?_
  rw[wrap64 (n:=left - 1) (by omega) (by omega),CH,if_neg (by omega)]
  refine aG (fun k:Nat=>⟨aY [.aa, .d (.i (cE (t.kids.take k) (left - 1) (depth - 1))), .d (.i depth), .ptr 0 0, .aa, .aa, .aa, .d (.i k)],pC t.row,1⟩)
   (fun k=>k<=t.kids.length) (fun k=>t.kids.length - k) 0 (Nat.zero_le _) (bI.d1 _ (cQ rfl) af rfl ?_) (fun k hk=> ?_)
  ·exact dA
  have hb:=ID (t.kids.take k) (left - 1) (depth - 1) af
  refine cM ?_
  refine ao (fun h2=> ?_) (fun h2=> ?_)
  ·simp at h2
   obtain⟨x,hx⟩:∃x,t.kids[k]? =some x:=⟨t.kids[k],by simp[h2.1]⟩
   have cF:=List.mem_of_getElem? hx
   refine kz hx ?_
   rw[wrap64 (n:=depth - 1) (by omega) (by omega)]
   refine aw (ih x cF (wW.2 x cF) _ _ af af) rfl ?_
   refine cM ?_
   rw[<- CF hx _ _ h2.2]
   refine aj (k+1) h2.1 af (bI.d1 _ (cQ rfl) af rfl ?_)
   exact dA
  ·refine cM ?_
   simp only[Bool.and_eq_false_iff,decide_eq_false_iff_not]at h2
   congr 3
   rcases h2 with h2|h2
   ·rw[List.take_of_length_le (by omega)]
   ·exact CG _ _ af
theorem V4(s:List UInt8)(hs:s.length<=9223372036854775807):aW Tryz.prog 139 [.str s] (.ret [.bool (jI s)]):=by
 refine aW.aH mix abK aE ?_
 rw[abJ]
 refine cM ?_
 refine aG (fun k:Nat=>⟨aY [.d (.str s), .aa, .aa, .d (.i k)],fun _=> .no,0⟩)
  (fun k=>k<=s.length/\(s.take k).all letterF=true) (fun k=>s.length - k) 0 ⟨Nat.zero_le _,aE⟩ (bI.d0 _ ?_) (fun k hk=> ?_)
 ·exact dA
 refine cM ?_
 refine ao (fun h2=> ?_) (fun h2=> ?_)
 ·simp at h2
  obtain⟨x,hx⟩:∃x,s[k]? =some x:=⟨s[k],by simp[h2]⟩
  refine kz hx ?_
  refine ao (fun h3=> ?_) (fun h3=> ?_)
  ·refine cM ?_
   have:jI s=false:=by
    have:s.all letterF=false:=by
     rw[List.all_eq_false]
     refine⟨x,List.mem_of_getElem? hx, ?_⟩
     simp only[letterF,h3];simp
    simp[jI,this]
   rw[this]
  ·refine cM ?_
   refine aj (k+1) ⟨h2, ?_⟩ af (bI.d0 _ ?_)
   ·rw[List.take_add_one,hx,List.all_append,hk.2]
    simp[letterF,h3]
   ·exact dA
 ·refine cM ?_
  refine aw (HA _ _ _) rfl ?_
  refine cM ?_
  simp at h2
  have:=hk.2
  rw[List.take_of_length_le (by omega)]at this
  simp[jI,this]
theorem GK(l:List ec)(bs:List (List UInt8))(hl:l.length<=1000)(hb:bs.length<=1000)(hs:∀x∈l,x.name.length<=9223372036854775807):
 aW Tryz.prog 115 [.sl (l.map ec.d), .sl (bs.map .str)] (.ret [.sl (((cD l bs).getD []).map .str), .bool (cD l bs).isSome]):=by
 refine aW.aH mix abw aE ?_
 rw[abv]
 refine cM ?_
 refine aG (fun k:Nat=>⟨aY [.d (.sl (l.map ec.d)), .d (.sl ((bs++(l.take k).map (·.name)).map .str)), .aa, .aa, .aa, .aa, .d (.i k)],fun _=> .no,0⟩)
  (fun k=>k<=l.length/\cD l bs=cD (l.drop k) (bs++(l.take k).map (·.name))) (fun k=>l.length - k) 0 ⟨Nat.zero_le _,aE⟩ (bI.d0 _ ?_) (fun k hk=> ?_)
 ·simp only[List.take_zero,List.map_nil,List.append_nil]
  exact dA
 refine cM ?_
 refine ao (fun h2=> ?_) (fun h2=> ?_)
 ·simp at h2
  obtain⟨x,hx⟩:∃x,l[k]? =some x:=⟨l[k],by simp[h2]⟩
  have cF:=List.mem_of_getElem? hx
  have B7:l.drop k=x::l.drop (k+1):=by
   rw[List.drop_eq_getElem_cons h2]
   rw[List.getElem?_eq_getElem h2]at hx;injection hx with hx;rw[hx]
  generalize hB:bs++(l.take k).map (·.name)=B at*
  have hBl:B.length<=2000:=by rw[<- hB];simp;omega
  refine cM ?_
  refine aG (fun j:Nat=>⟨aY [.d (.sl (l.map ec.d)), .d (.sl (B.map .str)), .aa, .aa, .aa, .aa, .d (.i k), .d (.i j)],fun _=> .no,0⟩)
   (fun j=>j<=B.length/\(B.take j).any (· ==x.name)=false) (fun j=>B.length - j) 0 ⟨Nat.zero_le _,aE⟩ (bI.d0 _ ?_) (fun j hj=> ?_)
  ·exact dA
  refine cM ?_
  refine ao (fun h3=> ?_) (fun h3=> ?_)
  ·simp at h3
   obtain⟨y,hy⟩:∃y,B[j]? =some y:=⟨B[j],by simp[h3]⟩
   simp+contextual only[go_sem,hx,hy]
   refine aO bu ?_
   refine cM ?_
   refine ao (fun h4=> ?_) (fun h4=> ?_)
   ·refine cM ?_
    have:cD l bs=none:=by
     rw[hk.2,B7,cD,if_pos]
     rw[List.any_eq_true]
     exact⟨y,List.mem_of_getElem? hy,h4⟩
    rw[this];rfl
   ·refine cM ?_
    refine aj (j+1) ⟨h3, ?_⟩ af (bI.d0 _ ?_)
    ·rw[List.take_add_one,hy,List.any_append,hj.2]
     simp only[Option.toList_some,List.any_cons,h4,List.any_nil,Bool.or_false]
    ·exact dA
  ·simp at h3
   have V5:=hj.2
   rw[List.take_of_length_le (by omega)]at V5
   refine kz hx ?_
   refine aw (V4 x.name (hs x cF)) rfl ?_
   refine kz hx ?_
   refine il (gk [.bool (dQ x.args 0 4)] ?_ ?_)
   ·refine cM ?_
    exact FE
   refine cM ?_
   refine ao (fun h4=> ?_) (fun h4=> ?_)
   ·refine cM ?_
    have:cD l bs=none:=by
     rw[hk.2,B7,cD,if_neg (by rw[V5];exact Bool.false_ne_true),if_pos h4]
    rw[this];rfl
   ·have e1:B.length<=140737488355328:=af
    have e2:B.length*16<=140737488355328:=af
    have e3:B.length<=140737488355327:=af
    have e4:(B.length+1)*16<=140737488355328:=af
    simp+contextual only[go_sem,hx,e1,e2,e3,e4]
    refine aO bu ?_
    refine cM ?_
    have hn:cD l bs=cD (l.drop (k+1)) (bs++(l.take (k+1)).map (·.name)):=by
     rw[hk.2,B7,cD,if_neg (by rw[V5];exact Bool.false_ne_true),if_neg (by rw[h4];exact Bool.false_ne_true), <- hB,List.take_add_one,hx]
     simp
    refine aj (k+1) ⟨h2,hn⟩ af (bI.acE (fun _=>True) 0 _ (Nat.le_refl _) lt0 (fun _ _=>rfl) (fun _ _ _=>rfl) ?_)
    have hB2:(bs++(l.take (k+1)).map (·.name)).map D.str=B.map D.str++[D.str x.name]:=by
     rw[<- hB,List.take_add_one,hx];simp
    rw[hB2]
    exact rn
 ·refine cM ?_
  simp at h2
  have:cD l bs=some (bs++l.map (·.name)):=by
   rw[hk.2,List.drop_eq_nil_of_le (by omega),cD,List.take_of_length_le (by omega)]
  rw[this,List.take_of_length_le (by omega)]
  rfl
theorem V6(a b:List UInt8)(m n:Int):oO Tryz.prog 100 124 (.agg [.str a, .i m]) (.agg [.str b, .i n])=some (a==b&&m==n):=by
 have h1:bK Tryz.prog 124=some (.struct [(9,0),(3,1)]):=ah
 have h2:bK Tryz.prog 9=some .str:=ah
 have h3:bK Tryz.prog 3=some .int:=ah
 have h4:dc Tryz.prog 9=some false:=ah
 have h5:dc Tryz.prog 3=some false:=ah
 simp[oO,h1,h2,h3,h4,h5,xB,NH,iE,DS]
@[go_sem] theorem aeZ (o:Nat->ad) (mQ:Bool) (a b:List UInt8) (m n:Int):rF Tryz.prog o 124 mQ (.d (.agg [.str a, .i m])) (.d (.agg [.str b, .i n]))=some (.d (.bool (a==b&&m==n))):=by
  obtain⟨fs,h⟩:∃fs,Tryz.prog.underlying 124=some (.struct fs):=structOf ah
  have h2:Tryz.prog.eqGuardType Tryz.prog.depth 124=false:=ah
  unfold rF
  rw[h]
  dsimp only
  rw[if_pos h2,V6]
  rfl
theorem IE{l:List ec}{bs B:List (List UInt8)}(h:cD l bs=some B):B=bs++l.map (·.name):=by
 induction l generalizing bs with
 |nil=>simp[cD]at h;simp[h]
 |cons x l ih=>
  simp only[cD]at h
  split at h
  ·cases h
  ·split at h
   ·cases h
   ·rw[ih h];simp
structure aB.Fits (s:aB):Prop where
 lc:s.cons.length<=9223372036854775807
 lf:s.bV.length<=9223372036854775807
 nc:∀x∈s.cons,x.name.length<=9223372036854775807
 nf:∀x∈s.bV,x.name.length<=9223372036854775807
theorem SJ(s:aB)(hs:s.Fits):aW Tryz.prog 75 [s.d] (.ret [.bool (iU s)]):=by
 refine aW.aH mix aeM aE ?_
 rw[c75]
 refine cM ?_
 refine aw (HA _ _ _) rfl ?_
 refine cM ?_
 cases h1:(!dQ s.cons.length 2 12||decide (8<(s.bV.length:Int)))with
 |true=>
  refine kz h1 ?_
  simp only[iU,h1,if_true]
 |false=>
  simp[dQ]at h1
  obtain⟨a,b,r,hc⟩:∃a b r,s.cons=a::b::r:=by
   match h:s.cons with
   |[]=>exact FG
   |[a]=>exact FG
   |a::b::r=>exact⟨a,b,r,rfl⟩
  have iz:(!dQ s.cons.length 2 12||decide (8<(s.bV.length:Int)))=false:=by simp[dQ];omega
  simp+contextual only[go_sem,iz,hc]
  have pD:iU s=if(!mE a fB|| !mE b tB)=true then false else match cD s.cons []with
   |none=>false
   |some l=>(cD s.bV l).isSome:=by
   unfold iU
   rw[if_neg (by rw[iz];exact Bool.false_ne_true),hc]
   dsimp only
   rfl
  refine ao (fun h2=> ?_) (fun h2=> ?_)
  ·refine cM ?_
   have mu:(!mE a fB|| !mE b tB)=true:=h2
   rw[pD,if_pos mu]
  ·simp+contextual only[go_sem,hc]
   have hl:(a::b::r).length<=1000:=by rw[<- hc];omega
   have AX:=GK (a::b::r) [] hl aE (by rw[<- hc];exact hs.nc)
   simp only[List.map_cons,List.map_nil]at AX
   refine bH AX ?_
   have mu:(!mE a fB|| !mE b tB)=false:=h2
   rw[pD,if_neg (by rw[mu];exact Bool.false_ne_true),hc]
   cases hn:cD (a::b::r) []with
   |none=>simp+contextual only[go_sem,hn]
   |some B=>
    refine kz hn ?_
    have hB:B.length<=1000:=by
     have:=IE hn
     rw[this];simp at hl|-;omega
    have ae0:=GK s.bV B af hB hs.nf
    refine bH ae0 ?_
    simp+contextual only[go_sem]
theorem DL{l:List ec}{n:Int}{x:ec}(h:l[n.toNat]? =some x):im l n=x.args:=by simp[im,h]
theorem FI{l:List ec}{n:Int}(h:dQ n 0 (l.length - 1)=true):0<=n/\∃x,l[n.toNat]? =some x:=by
 simp[dQ]at h
 exact⟨h.1,l[n.toNat]'af,aE⟩
theorem V7(s:aB)(t:Tm)(hs:s.Fits)(ht:t.kids.length<=9223372036854775807):aW Tryz.prog 127 [s.d,t.d] (.ret [.bool (bn s t)]):=by
 refine aW.aH mix abG aE ?_
 rw[abF]
 refine cM ?_
 rcases(by omega:t.op=1\/t.op=2\/t.op=3\/t.op=4\/t.op=5\/t.op=8\/(t.op=6\/t.op=7\/t.op=9\/t.op=10\/t.op=11\/t.op=12\/t.op=13\/t.op=14\/t.op=15)\/(t.op<1\/15<t.op))with h|h|h|h|h|h|h|h
 ·have hn:bn s t=((t.kids.length:Int)==0&&dQ t.n 0 19):=by simp[bn,h]
  refine kz h ?_
  refine il (gk [.bool (dQ t.n 0 19)] ?_ ?_)
  ·refine cM ?_
   exact FE
  refine kz h ?_
  rw[hn]
 ·have hn:bn s t=((t.kids.length:Int)==0&&dQ t.n (-1000000) 1000000):=by simp[bn,h]
  refine kz h ?_
  refine il (gk [.bool (dQ t.n (-1000000) 1000000)] ?_ ?_)
  ·refine cM ?_
   exact FE
  refine kz h ?_
  rw[hn]
 ·have hn:bn s t=(dQ t.n 0 (s.cons.length - 1)&&(t.kids.length:Int)==im s.cons t.n):=by simp[bn,h]
  refine kz h ?_
  rw[wrap64 (by have:=hs.lc;omega) (by have:=hs.lc;omega)]
  refine aw (HA _ _ _) rfl ?_
  cases hI:dQ t.n 0 (s.cons.length - 1)with
  |false=>
   exact TQ
  |true=>
   exact TD
 ·have hn:bn s t=(dQ t.n 0 (s.bV.length - 1)&&(t.kids.length:Int)==im s.bV t.n):=by simp[bn,h]
  refine kz h ?_
  rw[wrap64 (by have:=hs.lf;omega) (by have:=hs.lf;omega)]
  refine aw (HA _ _ _) rfl ?_
  cases hI:dQ t.n 0 (s.bV.length - 1)with
  |false=>
   exact TQ
  |true=>
   exact TD
 ·have hn:bn s t=(dQ t.n 0 (s.bV.length - 1)&&decide ((t.kids.length:Int)<im s.bV t.n)):=by simp[bn,h]
  refine kz h ?_
  rw[wrap64 (by have:=hs.lf;omega) (by have:=hs.lf;omega)]
  refine aw (HA _ _ _) rfl ?_
  cases hI:dQ t.n 0 (s.bV.length - 1)with
  |false=>
   exact TQ
  |true=>
   exact TD
 ·have hn:bn s t=((t.kids.length:Int)==2&&dQ t.n 0 19):=by simp[bn,h]
  refine kz h ?_
  refine il (gk [.bool (dQ t.n 0 19)] ?_ ?_)
  ·refine cM ?_
   exact FE
  refine kz h ?_
  rw[hn]
 ·have hn:bn s t=((t.kids.length:Int)==2&&t.n==0):=by
   rcases h with h|h|h|h|h|h|h|h|h<;>simp[bn,h,dQ]
  rw[hn]
  rcases h with h|h|h|h|h|h|h|h|h<;>simp+contextual only[go_sem,h]
 ·have hn:bn s t=false:=by
   simp[bn,dQ,show ¬ (t.op=1) by omega,show ¬ (t.op=2) by omega,show ¬ (t.op=3) by omega,show ¬ (t.op=4) by omega,show ¬ (t.op=5) by omega,show ¬ (t.op=8) by omega,show ¬ (6<=t.op/\t.op<=15) by omega]
  have e:∀k:Int,1<=k->k<=15->(t.op==k)=false:=fun k h1 h2=>by simp;omega
  simp+contextual only[go_sem,e 1 (by omega) (by omega),e 2 (by omega) (by omega),e 3 (by omega) (by omega),e 4 (by omega) (by omega),e 5 (by omega) (by omega),e 6 (by omega) (by omega),e 7 (by omega) (by omega),e 8 (by omega) (by omega),e 9 (by omega) (by omega),e 10 (by omega) (by omega),e 11 (by omega) (by omega),e 12 (by omega) (by omega),e 13 (by omega) (by omega),e 14 (by omega) (by omega),e 15 (by omega) (by omega)]
  rw[hn]
theorem lu(s:aB)(t:Tm):iq s t=(bn s t&&t.kids.all (iq s)):=by
 have:∀l:List Tm,tW s l=l.all (iq s):=fun l=>by
  induction l with
  |nil=>rfl
  |cons k l ih=>simp[tW,ih]
 cases t;simp[iq,this,Tm.kids]
theorem ly{α:Type}{l:List α}{p:α->Bool}{k:Nat}{x:α}(hx:l[k]? =some x)(h:p x=false):l.all p=false:=by
 rw[List.all_eq_false];exact⟨x,List.mem_of_getElem? hx,by rw[h];exact Bool.false_ne_true⟩
theorem nF{α:Type}{l:List α}{p:α->Bool}{k:Nat}{x:α}(hx:l[k]? =some x)(h0:(l.take k).all p=true)(h:p x=true):(l.take (k+1)).all p=true:=by
 rw[List.take_add_one,hx,List.all_append,h0];simp[h]
theorem nG{α:Type}{l:List α}{p:α->Bool}{k:Nat}(h0:(l.take k).all p=true)(h:l.length<=k):l.all p=true:=by
 rwa [List.take_of_length_le h]at h0
theorem aD{α:Type}{l:List α}{k:Nat}(h:k<l.length):∃x,l[k]? =some x:=⟨l[k],by simp[h]⟩
@[reducible] def aB.row (s:aB):List V:=[.d (.sl (s.cons.map ec.d)), .d (.sl (s.bV.map ec.d))]
theorem OO(s:aB)(hs:s.Fits):∀t:Tm,t.fits->aW Tryz.prog 94 [s.d,t.d] (.ret [.bool (iq s t)]):=by
 refine Tm.fj fun t ih hf=> ?_
 have wW:=(Tm.b9 _).1 hf
 refine aW.aH mix aeX aE ?_
 rw[c94]
 refine cM ?_
 refine aw (V7 s t hs wW.1) rfl ?_
 refine cM ?_
 rw[lu]
 refine ao (fun h1=> ?_) (fun h1=> ?_)
 ·refine cM ?_
  simp at h1;simp[h1]
 ·simp at h1
  rw[h1,Bool.true_and]
  refine cM ?_
  refine aG (fun k:Nat=>⟨aY [.aa, .aa, .ptr 0 0, .ptr 1 0, .aa, .d (.i k)],EI s.row t.row,2⟩)
   (fun k=>k<=t.kids.length/\(t.kids.take k).all (iq s)=true) (fun k=>t.kids.length - k) 0 ⟨Nat.zero_le _,aE⟩ (bI.d2 _ (ku rfl rfl) af rfl rfl ?_) (fun k hk=> ?_)
  ·exact dA
  refine cM ?_
  refine ao (fun h2=> ?_) (fun h2=> ?_)
  ·simp at h2
   obtain⟨x,hx⟩:=aD h2
   have cF:=List.mem_of_getElem? hx
   refine kz hx ?_
   refine a8 (ih x cF (wW.2 x cF)) rfl ?_
   refine cM ?_
   refine aO bu ?_
   refine cM ?_
   refine ao (fun h3=> ?_) (fun h3=> ?_)
   ·refine cM ?_
    simp at h3
    rw[ly hx h3]
   ·refine cM ?_
    simp at h3
    refine aj (k+1) ⟨h2,nF hx hk.2 h3⟩ af (bI.d2 _ (ku rfl rfl) af rfl rfl ?_)
    exact dA
  ·refine cM ?_
   simp at h2
   rw[nG hk.2 h2]
theorem V8(s:aB)(hs:s.Fits)(t:Tm)(hf:t.fits):aW Tryz.prog 43 [s.d,t.d] (.ret [.bool (gr s t)]):=by
 refine aW.aH mix aez aE ?_
 rw[c43]
 refine cM ?_
 refine aw (GJ t hf 40 12 af af) rfl ?_
 refine cM ?_
 refine il (gk [.bool (iq s t)] ?_ ?_)
 ·refine cM ?_
  exact fun _=>OO s hs t hf
 refine cM ?_
 rfl
theorem ss(t:Tm):eV t=(t.kids.all eV&&((decide (1<=t.op)&&decide (t.op<=3))||t.op==5)):=by
 have:∀l:List Tm,tX l=l.all eV:=fun l=>by
  induction l with
  |nil=>rfl
  |cons k l ih=>simp[tX,ih]
 cases t;simp only[eV,this,Tm.kids,Tm.op];rfl
theorem OP:∀t:Tm,t.fits->aW Tryz.prog 92 [t.d] (.ret [.bool (eV t)]):=by
 refine Tm.fj fun t ih hf=> ?_
 have wW:=(Tm.b9 _).1 hf
 refine aW.aH mix aeV aE ?_
 rw[c92,ss]
 refine cM ?_
 refine aG (fun k:Nat=>⟨aY [.aa, .ptr 0 0, .aa, .d (.i k)],pC t.row,1⟩)
  (fun k=>k<=t.kids.length/\(t.kids.take k).all eV=true) (fun k=>t.kids.length - k) 0 ⟨Nat.zero_le _,aE⟩ (bI.d1 _ (cQ rfl) af rfl ?_) (fun k hk=> ?_)
 ·exact dA
 refine cM ?_
 refine ao (fun h2=> ?_) (fun h2=> ?_)
 ·simp at h2
  obtain⟨x,hx⟩:=aD h2
  have cF:=List.mem_of_getElem? hx
  refine kz hx ?_
  refine aw (ih x cF (wW.2 x cF)) rfl ?_
  refine cM ?_
  refine ao (fun h3=> ?_) (fun h3=> ?_)
  ·refine cM ?_
   simp at h3
   rw[ly hx h3];rfl
  ·refine cM ?_
   simp at h3
   refine aj (k+1) ⟨h2,nF hx hk.2 h3⟩ af (bI.d1 _ (cQ rfl) af rfl ?_)
   exact dA
 ·refine cM ?_
  simp at h2
  rw[nG hk.2 h2];rfl
theorem iu:∀l l':List Tm,l.length=l'.length->(ir l l'=true↔∀ (i:Nat) (x y:Tm),l[i]? =some x->l'[i]? =some y->iJ x y=true)
 |[],l',_=>by simp[ir]
 |k::l,k'::l',h=>by
  simp only[ir,Bool.and_eq_true]
  rw[iu l l' (by simpa using h)]
  constructor
  ·rintro⟨h1,h2⟩ i x y hx hy
   cases i with
   |zero=>simp at hx hy;subst hx;subst hy;exact h1
   |succ i=>exact h2 i x y xr (by simpa using hy)
  ·intro h3
   exact⟨h3 0 k k' rfl rfl,fun i x y hx hy=>h3 (i+1) x y xr (by simpa using hy)⟩
 |_::_,[],h=>by simp at h
theorem qM(a b:Tm):iJ a b=(a.op==b.op&&a.n==b.n&&a.kids.length==b.kids.length&&ir a.kids b.kids):=by cases a;cases b;simp[iJ,Tm.op,Tm.n,Tm.kids]
theorem Ae:∀a:Tm,a.fits->∀b:Tm,b.fits->aW Tryz.prog 40 [a.d,b.d] (.ret [.bool (iJ a b)]):=by
 refine Tm.fj fun t ih hf b hb=> ?_
 have wW:=(Tm.b9 _).1 hf
 have DU:=(Tm.b9 _).1 hb
 refine aW.aH mix abd aE ?_
 rw[c40,qM]
 refine cM ?_
 refine ao (fun h1=> ?_) (fun h1=> ?_)
 ·refine cM ?_
  have:(t.op==b.op&&t.n==b.n&&t.kids.length==b.kids.length)=false:=by
   rw[Bool.eq_false_iff]
   intro h
   simp at h
   simp[h]at h1
  rw[this];rfl
 ·have iz:t.op=b.op/\t.n=b.n/\t.kids.length=b.kids.length:=by
   simp at h1
   refine⟨h1.1.1,h1.1.2,by have:=h1.2;omega⟩
  rw[show(t.op==b.op&&t.n==b.n&&t.kids.length==b.kids.length)=true by simp[iz],Bool.true_and]
  have hl:=iz.2.2
  refine cM ?_
  refine aG (fun k:Nat=>⟨aY [.aa, .aa, .ptr 0 0, .ptr 1 0, .aa, .d (.i k)],EI t.row b.row,2⟩)
   (fun k=>k<=t.kids.length/\∀i,i<k->∀x y,t.kids[i]? =some x->b.kids[i]? =some y->iJ x y=true) (fun k=>t.kids.length - k) 0 ⟨Nat.zero_le _,fun i h=>af⟩ (bI.d2 _ (ku rfl rfl) af rfl rfl ?_) (fun k hk=> ?_)
  ·exact dA
  refine cM ?_
  refine ao (fun h2=> ?_) (fun h2=> ?_)
  ·simp at h2
   obtain⟨x,hx⟩:=aD h2
   obtain⟨y,hy⟩:=aD (l:=b.kids) (k:=k) af
   have cF:=List.mem_of_getElem? hx
   have OQ:=List.mem_of_getElem? hy
   simp+contextual only[go_sem,hx,hy]
   refine a8 (ih x cF (wW.2 x cF) y (DU.2 y OQ)) rfl ?_
   refine cM ?_
   refine aO bu ?_
   refine cM ?_
   refine ao (fun h3=> ?_) (fun h3=> ?_)
   ·refine cM ?_
    simp at h3
    have:ir t.kids b.kids=false:=by
     rw[Bool.eq_false_iff]
     intro h
     have:=(iu _ _ hl).1 h k x y hx hy
     rw[h3]at this;cases this
    rw[this]
   ·refine cM ?_
    simp at h3
    refine aj (k+1) ⟨h2,fun i hi u v hu hv=> ?_⟩ af (bI.d2 _ (ku rfl rfl) af rfl rfl ?_)
    ·by_cases e:i=k
     ·subst e
      rw[hx]at hu;rw[hy]at hv
      exact Qk
     ·exact hk.2 i af u v hu hv
    ·exact dA
  ·refine cM ?_
   simp at h2
   have:ir t.kids b.kids=true:=(iu _ _ hl).2 fun i x y hx hy=>hk.2 i (by have:=(List.getElem?_eq_some_iff.1 hx).1;omega) x y hx hy
   rw[this]
theorem qN(t:Tm)(hf:t.fits):aW Tryz.prog 61 [t.d] (.ret [.bool (fT t)]):=by
 refine aW.aH mix aeJ aE ?_
 rw[c61]
 refine cM ?_
 refine aw (GJ t hf 50 14 af af) rfl ?_
 refine cM ?_
 rfl
theorem vO(s:aB)(hs:s.Fits):aW Tryz.prog 78 [s.d] (.ret [.bool (ez s)]):=by
 refine aW.aH mix aeP aE ?_
 rw[c78]
 refine cM ?_
 refine ao (fun h1=> ?_) (fun h1=> ?_)
 ·refine cM ?_
  simp only[ez,h1];rfl
 ·have e:ez s=(fO s.cons&&fO s.bV):=by simp only[ez,h1];rfl
  rw[e]
  simp at h1
  refine cM ?_
  refine aG (fun k:Nat=>⟨aY [.aa, .ptr 0 0, .aa, .d (.i k)],pC s.row,1⟩)
   (fun k=>k<=s.cons.length/\fO (s.cons.take k)=true) (fun k=>s.cons.length - k) 0 ⟨Nat.zero_le _,by simp[fO]⟩ (bI.d1 _ (cQ rfl) af rfl ?_) (fun k hk=> ?_)
  ·exact dA
  refine cM ?_
  refine ao (fun h2=> ?_) (fun h2=> ?_)
  ·simp at h2
   obtain⟨x,hx⟩:=aD h2
   refine kz hx ?_
   refine ao (fun h3=> ?_) (fun h3=> ?_)
   ·refine cM ?_
    rw[show fO s.cons=false from ly hx (by simpa using h3)];rfl
   ·refine cM ?_
    refine aj (k+1) ⟨h2,nF hx hk.2 (by simpa using h3)⟩ af (bI.d1 _ (cQ rfl) af rfl ?_)
    exact dA
  ·simp at h2
   rw[show fO s.cons=true from nG hk.2 h2,Bool.true_and]
   refine cM ?_
   refine aG (fun k:Nat=>⟨aY [.aa, .ptr 0 0, .aa, .aa, .d (.i k)],pC s.row,1⟩)
    (fun k=>k<=s.bV.length/\fO (s.bV.take k)=true) (fun k=>s.bV.length - k) 0 ⟨Nat.zero_le _,by simp[fO]⟩ (bI.d1 _ (cQ rfl) af rfl ?_) (fun k hk=> ?_)
   ·exact dA
   refine cM ?_
   refine ao (fun h4=> ?_) (fun h4=> ?_)
   ·simp at h4
    obtain⟨x,hx⟩:=aD h4
    refine kz hx ?_
    refine ao (fun h3=> ?_) (fun h3=> ?_)
    ·refine cM ?_
     rw[show fO s.bV=false from ly hx (by simpa using h3)]
    ·refine cM ?_
     refine aj (k+1) ⟨h4,nF hx hk.2 (by simpa using h3)⟩ af (bI.d1 _ (cQ rfl) af rfl ?_)
     exact dA
   ·simp at h4
    rw[show fO s.bV=true from nG hk.2 h4]
    simp+contextual only[go_sem]
end Go.Proofs.YtlhemmpklhhgoaaGreat
