/-
  A PART OF THE PROOF. Conditions: none.
-/
import Derived.Test.YtlhemmpklhhgoaaGreatRows
import Derived.Shelf.SlMaps.Clone
import Derived.Test.YtlhemmpklhhgoaaGreatQt13
set_option linter.unusedSimpArgs false
set_option linter.unusedVariables false
section
namespace Go.Proofs.YtlhemmpklhhgoaaGreat
open Go.Shelf
def EW:Go.Shelf.Ren:=⟨fun|5=>100|7=>130|n=>n,fun|23=>93|25=>3|3=>33|4=>4|20=>20|n=>n,fun|n=>n⟩
theorem V1:Go.Proofs.SlLaysW.n5 Tryz.prog EW:={
 mixed:=ai
 f5:=⟨Tryz.f100.name,bD,Tryz.func100.trans (congrArg some ai)⟩
 f7:=Tryz.func130.trans (congrArg some ai)
 t4:=Tryz.underlying4
 a4:=Tryz.isAgg4
 z4:=Tryz.sizeOf4
 v4:=Tryz.zeroValue4
 t20:=Tryz.underlying20
 a20:=Tryz.isAgg20
 z20:=Tryz.sizeOf20
 v20:=Tryz.zeroValue20
 t23:=Tryz.underlying93
 a23:=Tryz.isAgg93
 z23:=Tryz.sizeOf93
 v23:=Tryz.zeroValue93}
theorem LA:Gy Tryz.prog 100:=⟨⟨_,Tryz.func100,ai,ai⟩,fun w b es clock hb=>AnyW.maps_Clone V1 b es clock w hb⟩
end Go.Proofs.YtlhemmpklhhgoaaGreat
end
namespace Go.Proofs.YtlhemmpklhhgoaaGreat
theorem mix:Tryz.prog.follows .mixedOrders=true:=ai
def zn:Tr FD:= .e fun _=> .no
theorem zt{f:Nat->Nat}:Tr.GO (fun(g:Nat) (d:FD)=>d.Ok Tryz.prog g) zn f:=fun _=>trivial
def acJ:Tr FD:=
 (.n .no (.n .no (.n .no (.n .no (.n (.fn 34 c15 [.cell 6 29, .tmp 7]) (.n .no (.n (.fn 27 c63 [.cell 6 95, .tmp 7]) zn (.n (.fn 15 acB [.tmp 6]) zn zn)) (.n .no (.n (.fn 4 VF [.tmp 2]) zn zn) zn)) (.n (.fn 9 c47 [.cell 4 33]) (.n (.fn 167 c79 [.cell 2 95, .tmp 3]) zn zn) (.n (.fn 4 Vn [.tmp 2]) (.n (.fn 49 ab4 []) zn zn) zn))) (.n .no (.n .no (.n .no (.n (.fn 11 abD []) zn zn) (.n (.fn 14 VZ [.tmp 4]) zn zn)) (.n (.fn 133 Vf []) (.n (.fn 8 VL [.tmp 3]) zn zn) zn)) (.n .no zn (.n (.fn 46 Vo [.tmp 2]) (.n (.fn 168 acn [.tmp 8, .tmp 9]) zn zn) zn)))) (.n .no (.n .no (.n (.fn 40 c35 [.tmp 6, .tmp 7]) (.n (.fn 45 c67 [.tmp 2, .tmp 3]) zn (.n (.fn 14 VV [.tmp 4]) zn zn)) (.n (.fn 22 c99 [.tmp 4]) (.n (.fn 8 ab0 [.tmp 2]) zn zn) zn)) (.n (.fn 6 c51 [.cell 2 33]) (.n .no (.n (.fn 18 VB [.tmp 4]) zn zn) zn) (.n .no (.n (.fn 32 acd []) zn zn) zn))) (.n .no (.n .no zn (.n (.fn 6 Vj [.cell 2 33]) (.n (.fn 39 VO [.cell 4 4]) zn zn) zn)) (.n .no (.n (.fn 35 c91 [.tmp 8]) zn zn) (.n .no (.n (.fn 19 VT [.cell 0 210]) zn zn) zn))))) (.n .no (.n .no (.n .no (.n .no (.n (.fn 66 c65 [.cell 2 29]) (.n (.fn 32 Vt [.tmp 4, .tmp 5, .tmp 6]) zn zn) (.n (.fn 6 acF [.tmp 2]) zn zn)) (.n .no (.n (.fn 13 VH [.tmp 4]) zn zn) zn)) (.n (.fn 10 c49 [.cell 0 29]) (.n .no (.n (.fn 28 Vz [.tmp 2]) zn zn) zn) (.n .no (.n (.fn 65 ab8 []) zn zn) zn))) (.n (.fn 46 c25 [.tmp 4]) (.n .no (.n (.fn 33 c73 [.tmp 4]) zn (.n (.fn 28 acH [.tmp 8, .tmp 9]) zn zn)) (.n (.fn 8 Vh [.tmp 2]) (.n (.fn 18 VM [.tmp 4]) zn zn) zn)) (.n .no zn (.n (.fn 15 Vq [.tmp 2]) (.n (.fn 25 acr [.tmp 2]) zn zn) zn)))) (.n .no (.n (.fn 70 c21 [.tmp 4]) (.n .no (.n (.fn 9 c69 [.tmp 2]) (.n (.fn 32 Vv [.tmp 6]) zn zn) (.n (.fn 27 VX [.tmp 4]) zn zn)) (.n (.dfr 6 Lx Vd 131 3 [.tmp 2] [.cell 2 36] 14 5 5 Lu) (.n (.fn 17 VJ [.tmp 4]) zn zn) zn)) (.n .no (.n (.fn 8 c85 [.cell 4 33]) (.n (.fn 4 VD [.tmp 2]) zn zn) zn) (.n .no (.n (.fn 17 ach [.tmp 4]) zn zn) zn))) (.n .no (.n .no zn (.n (.fn 17 Vl []) (.n (.fn 17 VQ [.tmp 6]) zn zn) zn)) (.n .no zn (.n .no (.n (.fn 7 acw [.tmp 2]) zn zn) zn)))))) (.n .no (.n .no (.n .no (.n (.fn 62 c16 [.cell 6 29, .tmp 7]) (.n .no (.n (.fn 45 c64 [.cell 6 95, .tmp 7]) zn (.n (.fn 36 acD [.tmp 10]) zn zn)) (.n .no (.n (.fn 16 VG [.cell 2 4]) zn zn) zn)) (.n (.fn 5 c48 [.cell 2 33]) (.n (.fn 5 c80 [.cell 2 33]) (.n (.fn 24 Vy [.tmp 3]) zn zn) zn) (.n (.fn 21 OI [.cell 4 33]) (.n (.fn 56 ab6 []) zn zn) zn))) (.n (.fn 94 c24 [.cell 2 43, .tmp 3]) (.n (.fn 46 c40 [.tmp 4]) (.n .no (.n (.fn 14 Vx []) zn zn) (.n (.fn 14 V0 [.tmp 4]) zn zn)) (.n (.fn 9 Vg [.tmp 2]) zn zn)) (.n .no (.n (.fn 9 c88 [.tmp 4]) zn zn) (.n (.fn 14 Vp [.tmp 6]) (.n (.fn 19 acp [.tmp 2]) zn zn) zn)))) (.n .no (.n .no (.n .no (.n (.fn 33 c68 [.cell 4 33]) (.n (.fn 47 Vu []) zn zn) (.n (.fn 27 VW [.tmp 4]) zn zn)) (.n .mpc (.n (.fn 8 VI []) zn zn) zn)) (.n (.fn 2 c52 [.cell 0 33]) (.n .no (.n (.fn 34 VC [.cell 6 4]) zn zn) zn) (.n .no (.n (.fn 133 acf [.tmp 6]) zn zn) zn))) (.n .no (.n .no zn (.n (.fn 24 Vk [.tmp 4]) (.n (.fn 8 VP []) zn zn) zn)) (.n (.fn 42 c60 [.tmp 4]) zn (.n .no (.n (.fn 76 acu []) zn zn) zn))))) (.n .no (.n .no (.n .no (.n .no (.n (.fn 16 c66 [.tmp 4]) zn (.n (.fn 14 VU [.tmp 4]) zn zn)) (.n .no (.n (.fn 134 abY []) zn zn) zn)) (.n (.fn 2 c50 [.cell 0 33]) (.n .no (.n (.fn 15 VA [.tmp 6]) zn zn) zn) (.n .no (.n (.fn 57 aca [.tmp 6, .tmp 7]) zn zn) zn))) (.n .no (.n .no (.n (.fn 50 c74 [.tmp 4]) zn zn) (.n (.fn 8 Vi [.tmp 2]) (.n (.fn 7 VN [.tmp 3]) zn zn) zn)) (.n .no zn (.n .no (.n (.fn 19 VS [.tmp 4]) zn zn) zn)))) (.n (.fn 101 c14 [.tmp 0]) (.n .no (.n .no (.n .no (.n (.fn 5 Vw [.tmp 2]) zn zn) (.n (.fn 27 VY [.tmp 4]) zn zn)) (.n (.fn 7 Ve []) (.n (.fn 9 VK [.tmp 4]) zn zn) zn)) (.n .no zn (.n .no (.n (.fn 84 ack [.tmp 8]) zn zn) zn))) (.n .no (.n (.fn 10 c46 [.cell 0 29]) zn (.n (.fn 9 Vm [.tmp 2]) (.n (.fn 10 VR [.tmp 4]) zn zn) zn)) (.n (.fn 12 c62 [.cell 0 24]) (.n .no (.n (.fn 13 VE [.tmp 4]) zn zn) zn) (.n (.fn 19 Vr [.tmp 4]) (.n (.fn 33 acz [.tmp 2]) zn zn) zn)))))))
noncomputable def bU:Nat->FD:=acJ.get
theorem gU:∀g,(bU g).Ok Tryz.prog g:=
 Tr.AG (p:=fun g d=>d.Ok Tryz.prog g) (f:=fun g=>g) acJ
   ⟨trivial,⟨trivial,⟨trivial,⟨trivial,⟨Vb,⟨trivial,⟨aa6,zt,⟨acC,zt,zt⟩⟩,⟨trivial,⟨Sj,zt,zt⟩,zt⟩⟩,⟨aeH,⟨abf,zt,zt⟩,⟨R1,⟨ab5,zt,zt⟩,zt⟩⟩⟩,⟨trivial,⟨trivial,⟨trivial,⟨abE,zt,zt⟩,⟨SF,zt,zt⟩⟩,⟨RT,⟨Sq,zt,zt⟩,zt⟩⟩,⟨trivial,zt,⟨R3,⟨aco,zt,zt⟩,zt⟩⟩⟩⟩,⟨trivial,⟨trivial,⟨aeC,⟨aba,zt,⟨SB,zt,zt⟩⟩,⟨abj,⟨ab1,zt,zt⟩,zt⟩⟩,⟨aeL,⟨trivial,⟨Sf,zt,zt⟩,zt⟩,⟨trivial,⟨ace,zt,zt⟩,zt⟩⟩⟩,⟨trivial,⟨trivial,zt,⟨RX,⟨Su,zt,zt⟩,zt⟩⟩,⟨trivial,⟨abi,zt,zt⟩,⟨trivial,⟨Sz,zt,zt⟩,zt⟩⟩⟩⟩⟩,⟨trivial,⟨trivial,⟨trivial,⟨trivial,⟨aa8,⟨R7,zt,zt⟩,⟨acG,zt,zt⟩⟩,⟨trivial,⟨Sl,zt,zt⟩,zt⟩⟩,⟨aeJ,⟨trivial,⟨Sd,zt,zt⟩,zt⟩,⟨trivial,⟨ab9,zt,zt⟩,zt⟩⟩⟩,⟨aeB,⟨trivial,⟨abd,zt,⟨acI,zt,zt⟩⟩,⟨RV,⟨Sr,zt,zt⟩,zt⟩⟩,⟨trivial,zt,⟨R5,⟨acs,zt,zt⟩,zt⟩⟩⟩⟩,⟨trivial,⟨aa3,⟨trivial,⟨abc,⟨R9,zt,zt⟩,⟨SD,zt,zt⟩⟩,⟨⟨Ly,Lw⟩,⟨Sn,zt,zt⟩,zt⟩⟩,⟨trivial,⟨aeY,⟨Sh,zt,zt⟩,zt⟩,⟨trivial,⟨acj,zt,zt⟩,zt⟩⟩⟩,⟨trivial,⟨trivial,zt,⟨RZ,⟨Sw,zt,zt⟩,zt⟩⟩,⟨trivial,zt,⟨trivial,⟨acx,zt,zt⟩,zt⟩⟩⟩⟩⟩⟩,⟨trivial,⟨trivial,⟨trivial,⟨Vc,⟨trivial,⟨aa7,zt,⟨acE,zt,zt⟩⟩,⟨trivial,⟨Sk,zt,zt⟩,zt⟩⟩,⟨aeI,⟨abg,⟨Sc,zt,zt⟩,zt⟩,⟨Lz,⟨ab7,zt,zt⟩,zt⟩⟩⟩,⟨aeA,⟨aa4,⟨trivial,⟨Sb,zt,zt⟩,⟨SG,zt,zt⟩⟩,⟨RU,zt,zt⟩⟩,⟨trivial,⟨abh,zt,zt⟩,⟨R4,⟨acq,zt,zt⟩,zt⟩⟩⟩⟩,⟨trivial,⟨trivial,⟨trivial,⟨abb,⟨R8,zt,zt⟩,⟨SC,zt,zt⟩⟩,⟨LA,⟨Sm,zt,zt⟩,zt⟩⟩,⟨aeM,⟨trivial,⟨Sg,zt,zt⟩,zt⟩,⟨trivial,⟨acg,zt,zt⟩,zt⟩⟩⟩,⟨trivial,⟨trivial,zt,⟨RY,⟨Sv,zt,zt⟩,zt⟩⟩,⟨aa5,zt,⟨trivial,⟨acv,zt,zt⟩,zt⟩⟩⟩⟩⟩,⟨trivial,⟨trivial,⟨trivial,⟨trivial,⟨aa9,zt,⟨SA,zt,zt⟩⟩,⟨trivial,⟨abZ,zt,zt⟩,zt⟩⟩,⟨aeK,⟨trivial,⟨Se,zt,zt⟩,zt⟩,⟨trivial,⟨acb,zt,zt⟩,zt⟩⟩⟩,⟨trivial,⟨trivial,⟨abe,zt,zt⟩,⟨RW,⟨Ss,zt,zt⟩,zt⟩⟩,⟨trivial,zt,⟨trivial,⟨Sy,zt,zt⟩,zt⟩⟩⟩⟩,⟨aet,⟨trivial,⟨trivial,⟨trivial,⟨Sa,zt,zt⟩,⟨SE,zt,zt⟩⟩,⟨RS,⟨Sp,zt,zt⟩,zt⟩⟩,⟨trivial,zt,⟨trivial,⟨acm,zt,zt⟩,zt⟩⟩⟩,⟨trivial,⟨aeG,zt,⟨R0,⟨Sx,zt,zt⟩,zt⟩⟩,⟨aeO,⟨trivial,⟨Si,zt,zt⟩,zt⟩,⟨R6,⟨acA,zt,zt⟩,zt⟩⟩⟩⟩⟩⟩⟩
end Go.Proofs.YtlhemmpklhhgoaaGreat
namespace Go.Proofs.YtlhemmpklhhgoaaGreat
@[go_sem] theorem cellsOf_3:Tryz.prog.cellsOf 3=1:=ai
@[go_sem] theorem bytesOf_3:Tryz.prog.bytesOf 3=8:=ai
@[go_sem] theorem aggT_3:df Tryz.prog 3=some false:=ai
@[go_sem] theorem infoT_3:(Tryz.prog.info? 3).isSome=true:=ai
@[go_sem] theorem undT_3:Tryz.prog.underlying 3=some (.int .i64):=ai
@[go_sem] theorem eqShape_3:bN Tryz.prog 3=some .int:=ai
@[go_sem] theorem zeroT_3:cE Tryz.prog 3=some [.d (.int .i64 0)]:=ai
@[go_sem] theorem cellsOf_4:Tryz.prog.cellsOf 4=1:=ai
@[go_sem] theorem aggT_4:df Tryz.prog 4=some false:=ai
@[go_sem] theorem infoT_4:(Tryz.prog.info? 4).isSome=true:=ai
@[go_sem] theorem zeroT_4:cE Tryz.prog 4=some [.d (.bool false)]:=ai
@[go_sem] theorem zeroV_4:zeroV Tryz.prog 4=some (.d (.bool false)):=ai
@[go_sem] theorem cellsOf_9:Tryz.prog.cellsOf 9=1:=ai
@[go_sem] theorem bytesOf_9:Tryz.prog.bytesOf 9=16:=ai
@[go_sem] theorem aggT_9:df Tryz.prog 9=some false:=ai
@[go_sem] theorem undT_9:Tryz.prog.underlying 9=some .string:=ai
@[go_sem] theorem eqShape_9:bN Tryz.prog 9=some .str:=ai
@[go_sem] theorem zeroT_9:cE Tryz.prog 9=some [.d (.str [])]:=ai
@[go_sem] theorem sliceT_22:b8 Tryz.prog 22=some 124:=ai
@[go_sem] theorem aggT_22:df Tryz.prog 22=some false:=ai
@[go_sem] theorem intT_22:qf Tryz.prog 22=none:=ai
@[go_sem] theorem undT_22:Tryz.prog.underlying 22=some (.slice 124):=ai
@[go_sem] theorem cellsOf_24:Tryz.prog.cellsOf 24=2:=ai
@[go_sem] theorem aggT_24:df Tryz.prog 24=some true:=ai
@[go_sem] theorem zeroT_24:cE Tryz.prog 24=some [.ax, .ax]:=ai
@[go_sem] theorem placesT_24:cR Tryz.prog 24=some [(0,1),(1,1)]:=ai
@[go_sem] theorem cellsOf_25:Tryz.prog.cellsOf 25=1:=ai
@[go_sem] theorem sliceT_25:b8 Tryz.prog 25=some 59:=ai
@[go_sem] theorem aggT_25:df Tryz.prog 25=some false:=ai
@[go_sem] theorem intT_25:qf Tryz.prog 25=none:=ai
@[go_sem] theorem infoT_25:(Tryz.prog.info? 25).isSome=true:=ai
@[go_sem] theorem undT_25:Tryz.prog.underlying 25=some (.slice 59):=ai
@[go_sem] theorem cellsOf_26:Tryz.prog.cellsOf 26=1:=ai
@[go_sem] theorem sliceT_26:b8 Tryz.prog 26=some 101:=ai
@[go_sem] theorem aggT_26:df Tryz.prog 26=some false:=ai
@[go_sem] theorem intT_26:qf Tryz.prog 26=none:=ai
@[go_sem] theorem infoT_26:(Tryz.prog.info? 26).isSome=true:=ai
@[go_sem] theorem undT_26:Tryz.prog.underlying 26=some (.slice 101):=ai
@[go_sem] theorem sliceT_27:b8 Tryz.prog 27=some 77:=ai
@[go_sem] theorem aggT_27:df Tryz.prog 27=some false:=ai
@[go_sem] theorem intT_27:qf Tryz.prog 27=none:=ai
@[go_sem] theorem undT_27:Tryz.prog.underlying 27=some (.slice 77):=ai
@[go_sem] theorem cellsOf_29:Tryz.prog.cellsOf 29=5:=ai
@[go_sem] theorem aggT_29:df Tryz.prog 29=some true:=ai
@[go_sem] theorem infoT_29:(Tryz.prog.info? 29).isSome=true:=ai
@[go_sem] theorem zeroT_29:cE Tryz.prog 29=some [.ax, .ax, .ax, .ax, .ax]:=ai
@[go_sem] theorem placesT_29:cR Tryz.prog 29=some [(0,2),(2,1),(3,1),(4,1)]:=ai
@[go_sem] theorem aggT_30:df Tryz.prog 30=some false:=ai
@[go_sem] theorem undT_30:Tryz.prog.underlying 30=some (.int .i64):=ai
@[go_sem] theorem cellsOf_31:Tryz.prog.cellsOf 31=1:=ai
@[go_sem] theorem sliceT_31:b8 Tryz.prog 31=some 33:=ai
@[go_sem] theorem aggT_31:df Tryz.prog 31=some false:=ai
@[go_sem] theorem intT_31:qf Tryz.prog 31=none:=ai
@[go_sem] theorem infoT_31:(Tryz.prog.info? 31).isSome=true:=ai
@[go_sem] theorem undT_31:Tryz.prog.underlying 31=some (.slice 33):=ai
@[go_sem] theorem cellsOf_33:Tryz.prog.cellsOf 33=3:=ai
@[go_sem] theorem bytesOf_33:Tryz.prog.bytesOf 33=40:=ai
@[go_sem] theorem aggT_33:df Tryz.prog 33=some true:=ai
@[go_sem] theorem infoT_33:(Tryz.prog.info? 33).isSome=true:=ai
@[go_sem] theorem zeroT_33:cE Tryz.prog 33=some [.d (.int .i64 0), .d (.int .i64 0), .ax]:=ai
@[go_sem] theorem zeroV_33:zeroV Tryz.prog 33=some (mD [.d (.int .i64 0), .d (.int .i64 0), .ax]):=ai
@[go_sem] theorem placesT_33:cR Tryz.prog 33=some [(0,1),(1,1),(2,1)]:=ai
@[go_sem] theorem cellsOf_36:Tryz.prog.cellsOf 36=1:=ai
@[go_sem] theorem aggT_36:df Tryz.prog 36=some false:=ai
@[go_sem] theorem infoT_36:(Tryz.prog.info? 36).isSome=true:=ai
@[go_sem] theorem zeroT_36:cE Tryz.prog 36=some [.d (.int .i64 0)]:=ai
@[go_sem] theorem cellsOf_59:Tryz.prog.cellsOf 59=4:=ai
@[go_sem] theorem bytesOf_59:Tryz.prog.bytesOf 59=48:=ai
@[go_sem] theorem aggT_59:df Tryz.prog 59=some true:=ai
@[go_sem] theorem infoT_59:(Tryz.prog.info? 59).isSome=true:=ai
@[go_sem] theorem zeroT_59:cE Tryz.prog 59=some [.d (.int .i64 0), .d (.int .i64 0), .d (.int .i64 0), .ax]:=ai
@[go_sem] theorem placesT_59:cR Tryz.prog 59=some [(0,1),(1,3)]:=ai
@[go_sem] theorem cellsOf_77:Tryz.prog.cellsOf 77=2:=ai
@[go_sem] theorem bytesOf_77:Tryz.prog.bytesOf 77=16:=ai
@[go_sem] theorem aggT_77:df Tryz.prog 77=some true:=ai
@[go_sem] theorem infoT_77:(Tryz.prog.info? 77).isSome=true:=ai
@[go_sem] theorem zeroT_77:cE Tryz.prog 77=some [.d (.int .i64 0), .d (.int .i64 0)]:=ai
@[go_sem] theorem placesT_77:cR Tryz.prog 77=some [(0,1),(1,1)]:=ai
@[go_sem] theorem cellsOf_90:Tryz.prog.cellsOf 90=1:=ai
@[go_sem] theorem aggT_90:df Tryz.prog 90=some false:=ai
@[go_sem] theorem infoT_90:(Tryz.prog.info? 90).isSome=true:=ai
@[go_sem] theorem zeroT_90:cE Tryz.prog 90=some [.d .cz]:=ai
@[go_sem] theorem cellsOf_93:Tryz.prog.cellsOf 93=1:=ai
@[go_sem] theorem aggT_93:df Tryz.prog 93=some false:=ai
@[go_sem] theorem infoT_93:(Tryz.prog.info? 93).isSome=true:=ai
@[go_sem] theorem undT_93:Tryz.prog.underlying 93=some (.map 3 33):=ai
@[go_sem] theorem mapT_93:r8 Tryz.prog 93=some (3,33):=ai
@[go_sem] theorem cellsOf_95:Tryz.prog.cellsOf 95=6:=ai
@[go_sem] theorem aggT_95:df Tryz.prog 95=some true:=ai
@[go_sem] theorem infoT_95:(Tryz.prog.info? 95).isSome=true:=ai
@[go_sem] theorem zeroT_95:cE Tryz.prog 95=some [.ax, .ax, .ax, .ax, .ax, .d .dK]:=ai
@[go_sem] theorem placesT_95:cR Tryz.prog 95=some [(0,5),(5,1)]:=ai
@[go_sem] theorem cellsOf_101:Tryz.prog.cellsOf 101=6:=ai
@[go_sem] theorem bytesOf_101:Tryz.prog.bytesOf 101=80:=ai
@[go_sem] theorem aggT_101:df Tryz.prog 101=some true:=ai
@[go_sem] theorem infoT_101:(Tryz.prog.info? 101).isSome=true:=ai
@[go_sem] theorem zeroT_101:cE Tryz.prog 101=some [.d (.int .i64 0), .d (.int .i64 0), .ax, .d (.int .i64 0), .d (.int .i64 0), .ax]:=ai
@[go_sem] theorem placesT_101:cR Tryz.prog 101=some [(0,3),(3,3)]:=ai
@[go_sem] theorem cellsOf_106:Tryz.prog.cellsOf 106=6:=ai
@[go_sem] theorem bytesOf_106:Tryz.prog.bytesOf 106=80:=ai
@[go_sem] theorem sliceT_106:b8 Tryz.prog 106=none:=ai
@[go_sem] theorem arrT_106:zJ Tryz.prog 106=some (2,33):=ai
@[go_sem] theorem aggT_106:df Tryz.prog 106=some true:=ai
@[go_sem] theorem infoT_106:(Tryz.prog.info? 106).isSome=true:=ai
@[go_sem] theorem zeroT_106:cE Tryz.prog 106=some [.d (.int .i64 0), .d (.int .i64 0), .ax, .d (.int .i64 0), .d (.int .i64 0), .ax]:=ai
@[go_sem] theorem placesT_106:cR Tryz.prog 106=some [(0,3),(3,3)]:=ai
@[go_sem] theorem sliceT_117:b8 Tryz.prog 117=some 106:=ai
@[go_sem] theorem aggT_117:df Tryz.prog 117=some false:=ai
@[go_sem] theorem intT_117:qf Tryz.prog 117=none:=ai
@[go_sem] theorem undT_117:Tryz.prog.underlying 117=some (.slice 106):=ai
@[go_sem] theorem cellsOf_124:Tryz.prog.cellsOf 124=2:=ai
@[go_sem] theorem bytesOf_124:Tryz.prog.bytesOf 124=24:=ai
@[go_sem] theorem aggT_124:df Tryz.prog 124=some true:=ai
@[go_sem] theorem infoT_124:(Tryz.prog.info? 124).isSome=true:=ai
@[go_sem] theorem zeroT_124:cE Tryz.prog 124=some [.d (.str []), .d (.int .i64 0)]:=ai
@[go_sem] theorem placesT_124:cR Tryz.prog 124=some [(0,1),(1,1)]:=ai
@[go_sem] theorem cellsOf_134:Tryz.prog.cellsOf 134=1:=ai
@[go_sem] theorem aggT_134:df Tryz.prog 134=some false:=ai
@[go_sem] theorem infoT_134:(Tryz.prog.info? 134).isSome=true:=ai
@[go_sem] theorem zeroT_134:cE Tryz.prog 134=some [.d .lu]:=ai
@[go_sem] theorem zeroT_137:cE Tryz.prog 137=some [.d .dK, .ax, .d (.bool false)]:=ai
@[go_sem] theorem placesT_137:cR Tryz.prog 137=some [(0,1),(1,1),(2,1)]:=ai
@[go_sem] theorem cellsOf_142:Tryz.prog.cellsOf 142=1:=ai
@[go_sem] theorem sliceT_142:b8 Tryz.prog 142=some 3:=ai
@[go_sem] theorem aggT_142:df Tryz.prog 142=some false:=ai
@[go_sem] theorem intT_142:qf Tryz.prog 142=none:=ai
@[go_sem] theorem infoT_142:(Tryz.prog.info? 142).isSome=true:=ai
@[go_sem] theorem undT_142:Tryz.prog.underlying 142=some (.slice 3):=ai
@[go_sem] theorem sliceT_148:b8 Tryz.prog 148=some 9:=ai
@[go_sem] theorem intT_148:qf Tryz.prog 148=none:=ai
@[go_sem] theorem undT_148:Tryz.prog.underlying 148=some (.slice 9):=ai
@[go_sem] theorem cellsOf_154:Tryz.prog.cellsOf 154=1:=ai
@[go_sem] theorem aggT_154:df Tryz.prog 154=some false:=ai
@[go_sem] theorem infoT_154:(Tryz.prog.info? 154).isSome=true:=ai
@[go_sem] theorem zeroT_154:cE Tryz.prog 154=some [.d .cz]:=ai
@[go_sem] theorem cellsOf_162:Tryz.prog.cellsOf 162=0:=ai
@[go_sem] theorem infoT_162:(Tryz.prog.info? 162).isSome=true:=ai
@[go_sem] theorem plainIface_162:mi Tryz.prog 162=true:=ai
@[go_sem] theorem zeroT_162:cE Tryz.prog 162=some []:=ai
@[go_sem] theorem zeroV_162:zeroV Tryz.prog 162=some (mD []):=ai
@[go_sem] theorem placesT_162:cR Tryz.prog 162=some []:=ai
@[go_sem] theorem cellsOf_163:Tryz.prog.cellsOf 163=0:=ai
@[go_sem] theorem infoT_163:(Tryz.prog.info? 163).isSome=true:=ai
@[go_sem] theorem plainIface_163:mi Tryz.prog 163=true:=ai
@[go_sem] theorem zeroT_163:cE Tryz.prog 163=some []:=ai
@[go_sem] theorem zeroV_163:zeroV Tryz.prog 163=some (mD []):=ai
@[go_sem] theorem placesT_163:cR Tryz.prog 163=some []:=ai
@[go_sem] theorem zeroT_164:cE Tryz.prog 164=some [.d (.int .i64 0), .d (.int .i64 0)]:=ai
@[go_sem] theorem placesT_164:cR Tryz.prog 164=some [(0,1),(1,1)]:=ai
@[go_sem] theorem aggT_168:df Tryz.prog 168=some false:=ai
@[go_sem] theorem cellsOf_175:Tryz.prog.cellsOf 175=1:=ai
@[go_sem] theorem aggT_175:df Tryz.prog 175=some false:=ai
@[go_sem] theorem infoT_175:(Tryz.prog.info? 175).isSome=true:=ai
@[go_sem] theorem mapT_175:r8 Tryz.prog 175=some (9,4):=ai
@[go_sem] theorem zeroT_175:cE Tryz.prog 175=some [.d .dK]:=ai
@[go_sem] theorem cellsOf_178:Tryz.prog.cellsOf 178=1:=ai
@[go_sem] theorem aggT_178:df Tryz.prog 178=some false:=ai
@[go_sem] theorem infoT_178:(Tryz.prog.info? 178).isSome=true:=ai
@[go_sem] theorem mapT_178:r8 Tryz.prog 178=some (3,4):=ai
@[go_sem] theorem zeroT_178:cE Tryz.prog 178=some [.d .dK]:=ai
@[go_sem] theorem cellsOf_209:Tryz.prog.cellsOf 209=1:=ai
@[go_sem] theorem aggT_209:df Tryz.prog 209=some false:=ai
@[go_sem] theorem infoT_209:(Tryz.prog.info? 209).isSome=true:=ai
@[go_sem] theorem cellsOf_210:Tryz.prog.cellsOf 210=16:=ai
@[go_sem] theorem sliceT_210:b8 Tryz.prog 210=none:=ai
@[go_sem] theorem arrT_210:zJ Tryz.prog 210=some (16,209):=ai
@[go_sem] theorem aggT_210:df Tryz.prog 210=some true:=ai
@[go_sem] theorem infoT_210:(Tryz.prog.info? 210).isSome=true:=ai
@[go_sem] theorem zeroT_210:cE Tryz.prog 210=some [.d .cz, .d .cz, .d .cz, .d .cz, .d .cz, .d .cz, .d .cz, .d .cz, .d .cz, .d .cz, .d .cz, .d .cz, .d .cz, .d .cz, .d .cz, .d .cz]:=ai
@[go_sem] theorem placesT_210:cR Tryz.prog 210=some [(0,1),(1,1),(2,1),(3,1),(4,1),(5,1),(6,1),(7,1),(8,1),(9,1),(10,1),(11,1),(12,1),(13,1),(14,1),(15,1)]:=ai
@[go_sem] theorem zeroT_213:cE Tryz.prog 213=some [.ax, .ax]:=ai
@[go_sem] theorem placesT_213:cR Tryz.prog 213=some [(0,2)]:=ai
@[go_sem] theorem fieldT_24_0:cg Tryz.prog 24 0=some 0:=ai
@[go_sem] theorem fieldT_24_1:cg Tryz.prog 24 1=some 1:=ai
@[go_sem] theorem fieldT_29_0:cg Tryz.prog 29 0=some 0:=ai
@[go_sem] theorem fieldT_29_1:cg Tryz.prog 29 1=some 2:=ai
@[go_sem] theorem fieldT_29_2:cg Tryz.prog 29 2=some 3:=ai
@[go_sem] theorem fieldT_29_3:cg Tryz.prog 29 3=some 4:=ai
@[go_sem] theorem fieldT_33_0:cg Tryz.prog 33 0=some 0:=ai
@[go_sem] theorem fieldT_33_1:cg Tryz.prog 33 1=some 1:=ai
@[go_sem] theorem fieldT_33_2:cg Tryz.prog 33 2=some 2:=ai
@[go_sem] theorem fieldT_59_0:cg Tryz.prog 59 0=some 0:=ai
@[go_sem] theorem fieldT_59_1:cg Tryz.prog 59 1=some 1:=ai
@[go_sem] theorem fieldT_77_0:cg Tryz.prog 77 0=some 0:=ai
@[go_sem] theorem fieldT_77_1:cg Tryz.prog 77 1=some 1:=ai
@[go_sem] theorem fieldT_95_0:cg Tryz.prog 95 0=some 0:=ai
@[go_sem] theorem fieldT_95_1:cg Tryz.prog 95 1=some 5:=ai
@[go_sem] theorem fieldT_101_0:cg Tryz.prog 101 0=some 0:=ai
@[go_sem] theorem fieldT_101_1:cg Tryz.prog 101 1=some 3:=ai
@[go_sem] theorem fieldT_124_0:cg Tryz.prog 124 0=some 0:=ai
@[go_sem] theorem fieldT_124_1:cg Tryz.prog 124 1=some 1:=ai
@[go_sem] theorem fieldT_137_0:cg Tryz.prog 137 0=some 0:=ai
@[go_sem] theorem fieldT_137_1:cg Tryz.prog 137 1=some 1:=ai
@[go_sem] theorem fieldT_137_2:cg Tryz.prog 137 2=some 2:=ai
@[go_sem] theorem fieldT_213_0:cg Tryz.prog 213 0=some 0:=ai
section
def j5(x y:ab):Prop:=(x.cu=true->y.cu=true)/\∀e,x.ct=some e->y.ct=some e
theorem j5.rfl' {x y:ab}(h:x=y):j5 x y:=h ▸ ⟨id,fun _ h=>h⟩
theorem j5.fz (x:ab):j5 x.fz x:=by cases x<;>exact⟨id,fun _ h=>h⟩
theorem j5.row (cs cs':List V):j5 (.row cs) (.row cs'):=⟨fun _=>rfl,fun _ h=>by cases h⟩
mutual
theorem V.jQ {B B':Nat->Prop}{φ aI:Place}{H H':Hp}{w:World}(hB:∀b, ¬B b-> ¬B' b):∀ (v:V) (val:Value),(∀id∈v.refs,j5 (H'.o id) (H.o id)/\aI id=φ id/\H'.us id)->V.den B φ H w v val->V.den B' aI H' w v val
 | .d x,val,_,h=>D.aT (w:=w) (w':=w) (fun b _ hn=>⟨rfl,hB b hn⟩) x val h
 | .ax,_,_,h=>h
 | .ad,_,_,_=>trivial
 | .fC,_,_,h=>h
 | .oV es,val,_,h=>⟨D.aT (w:=w) (w':=w) (fun b _ hn=>⟨rfl,hB b hn⟩) (.sl es) val h.1,h.2⟩
 | .agg cs,val,hr,h=>by
   obtain⟨a,rfl,h1,h2⟩:=h
   exact⟨a,rfl,V.eD hB cs _ xT h1,h2⟩
 | .bS cs,val,hr,h=>by
   obtain⟨a,rfl,h1⟩:=h
   exact⟨a,rfl,V.eD hB cs _ xT h1⟩
 | .ptr id off,val,hr,h=>by
   exact zw8
 | .osl id ep,val,hr,h=>by
   obtain⟨a,b,c⟩:=hr id rP
   obtain⟨h0,h1,h2⟩:=h
   refine⟨h0,c,fun e he=> ?_⟩
   obtain⟨x,y⟩:=h2 e (a.2 e he)
   exact⟨x,fun heq=>(y heq).trans b.symm⟩
 | .pe id ep i sz off,val,hr,h=>by
   obtain⟨a,b,c⟩:=hr id rP
   obtain⟨h0,h1,h2⟩:=h
   refine⟨h0,c,fun e he=> ?_⟩
   obtain⟨x,y⟩:=h2 e (a.2 e he)
   exact Qw
 | .pp cs off,val,_,h=>by
   obtain⟨a,ev,h1,h2,h3,h5,h4⟩:=h
   exact Yw
 | .func fn first cap,val,hr,h=>by
   obtain⟨f,c,rfl,h1,h2⟩:=h
   exact⟨f,c,rfl,V.eD hB first _ (fun id aw=>hr id (by simp[V.refs,aw])) h1,V.eD hB cap _ (fun id aw=>hr id (by simp[V.refs,aw])) h2⟩
 | .iface t x,val,hr,h=>by
   obtain⟨u,rfl,h⟩:=h
   exact⟨u,rfl,V.jQ hB x u xT h⟩
 | .x4 id off n,val,hr,h=>by
   exact zw8
 | .mp id,val,hr,h=>by
   obtain⟨a,b,c⟩:=hr id rP
   obtain⟨h0,h1,h2⟩:=h
   refine⟨h0,c,fun cV=> ?_⟩
   exact(h2 (a.1 cV)).trans b.symm
 | .kn id,val,hr,h=>by
   exact zw8
theorem V.eD {B B':Nat->Prop}{φ aI:Place}{H H':Hp}{w:World}(hB:∀b, ¬B b-> ¬B' b):∀ (vs:List V) (vals:List Value),(∀id∈V.aO vs,j5 (H'.o id) (H.o id)/\aI id=φ id/\H'.us id)->V.aD B φ H w vs vals->V.aD B' aI H' w vs vals
 |[],_,_,h=>h
 |v::vs,_,hr,h=>by
  obtain⟨u,us,rfl,h1,h2⟩:=h
  exact⟨u,us,rfl,V.jQ hB v u (fun id aw=>hr id (by simp[V.aO,aw])) h1,V.eD hB vs us (fun id aw=>hr id (by simp[V.aO,aw])) h2⟩
end
mutual
theorem V.jw {B:Nat->Prop}{φ:Place}{H:Hp}{w:World}:∀ (v:V) (val:Value),V.den B φ H w v val->∀id∈v.refs,H.us id
 | .osl id ep,_,h,j,hj| .ptr id off,_,h,j,hj| .pe id ep i sz off,_,h,j,hj| .x4 id off n,_,h,j,hj| .mp id,_,h,j,hj| .kn id,_,h,j,hj=>by simp[V.refs]at hj;subst hj;exact h.2.1
 | .agg cs,_,h,j,hj=>by obtain⟨a,rfl,h,_⟩:=h;exact V.eh cs _ h j (by simpa[V.refs]using hj)
 | .bS cs,_,h,j,hj=>by obtain⟨a,rfl,h⟩:=h;exact V.eh cs _ h j (by simpa[V.refs]using hj)
 | .func fn first cap,_,h,j,hj=>by
   obtain⟨f,c,rfl,h1,h2⟩:=h
   rcases List.mem_append.1 (show j∈V.aO first++V.aO cap by simpa[V.refs]using hj)with hj|hj
   ·exact V.eh first _ h1 j hj
   ·exact V.eh cap _ h2 j hj
 | .iface t x,_,h,j,hj=>by obtain⟨u,rfl,h⟩:=h;exact V.jw x u h j (by simpa[V.refs]using hj)
 | .d _,_,_,_,hj| .ax,_,_,_,hj| .pp _ _,_,_,_,hj| .ad,_,_,_,hj| .oV _,_,_,_,hj| .fC,_,_,_,hj=>by simp[V.refs]at hj
theorem V.eh {B:Nat->Prop}{φ:Place}{H:Hp}{w:World}:∀ (vs:List V) (vals:List Value),V.aD B φ H w vs vals->∀id∈V.aO vs,H.us id
 |[],_,_,j,hj=>by simp[V.aO]at hj
 |v::vs,_,h,j,hj=>by
  obtain⟨u,us,rfl,h1,h2⟩:=h
  rcases List.mem_append.1 (show j∈v.refs++V.aO vs by simpa[V.aO]using hj)with hj|hj
  ·exact V.jw v u h1 j hj
  ·exact V.eh vs us h2 j hj
end
def fY(so:Nat->ab)(gone:Nat->Prop)(ty:TypeId)(sz:Nat)(es:List D)(x:V):Prop:=
 (x= .ax/\es=[]/\0<sz)\/∃id ep,gone id/\x= .osl id ep/\so id= .arr ep ty sz es
theorem LB{xs ys:List Nat}:kJ xs ys=true↔∀x∈xs,x∉ys:=by
 simp[kJ,List.all_eq_true]
def nI(env:Nat->V):List V->Nat->Prop
 |[],_=>True
 |v::l,i=>(v= .ad\/v=env i)/\nI env l (i+1)
theorem Hv{env:Nat->V}{i:Nat}:nI env [] i:=trivial
theorem D4{env:Nat->V}{l:List V}{i:Nat}(h:nI env l (i+1)):nI env (.ad::l) i:=⟨.inl rfl,h⟩
theorem Nr{env:Nat->V}{l:List V}{i:Nat}{v:V}(he:env i=v)(h:nI env l (i+1)):nI env (v::l) i:=⟨.inr he.symm,h⟩
theorem C0{env:Nat->V}:∀ (l:List V) (i:Nat),nI env l i->∀j,aY l j= .ad\/aY l j=env (i+j)
 |[],i,_,j=>by rw[qO];exact .inl rfl
 |v::l,i,h,0=>by rw[oj];exact h.1
 |v::l,i,h,j+1=>by
  rw[oo]
  have:=C0 l (i+1) h.2 j
  rwa [show i+1+j=i+(j+1) by omega]at this
theorem Ix{P:Program}{n bq:Nat}{gq:Operand}{ps:List Nat}{x y:IC}{Q:fL->S->Prop}{e:Nat->V}{o:Nat->ab}{nx:Nat}{f:FuncId}{cap:List V}(env:List V)(he:nI e env 0)
 (h:bZ P f (.kn nx::cap) (ay o nx (.loop P.funcs.size n env ps x y .ready none)) (nx+1)
  (fun _ o' nx'=>∃nf m en p c d st pd,o' nx= .loop nf m en p c d st pd/\st≠ .busy/\qF Q pd ⟨e,ay o' nx (.loop nf m en p c d .exhausted pd),nx'⟩) (fun v o' nx'=>Q (.bL v) ⟨e,o',nx'⟩)):
 ug P n bq false gq ps x y Q ⟨e,o,nx⟩ (.func (.func f) [] cap):=by
 unfold ug Cf
 refine⟨rfl, .inl ⟨env,fun i=> ?_, .inl h⟩⟩
 have:=C0 env 0 he i
 rwa [Nat.zero_add]at this
theorem bH.trans {b:Nat}{s s' s'':S}(h1:bH b s s')(h2:bH b s' s''):bH b s s'':=fun M φ w tm hH hd=>by
 obtain⟨aI,a1,a2,a3,a4,a5,a6⟩:=h1 M φ w tm hH hd
 obtain⟨D8,b1,b2,b3,b4,b5,b6⟩:=h2 M aI w tm a1 a2
 refine⟨D8,b1,b2,fun k hk=>a3 k (b3 k hk),b4,fun id aw hr=> ?_,fun id e' aw he=> ?_⟩
 ·obtain⟨c1,c2⟩:=b5 id aw hr
  obtain⟨c3,c4⟩:=a5 id aw c1
  exact⟨c3,c2.trans c4⟩
 ·obtain⟨e1,c1,c2,c3⟩:=b6 id e' aw he
  obtain⟨e0,d1,d2,d3⟩:=a6 id e1 aw c1
  exact⟨e0,d1,Nat.le_trans d2 c2,fun h=>(c3 af).trans (d3 af)⟩
theorem OK{P:Program}{n bq:Nat}{gq:Operand}{ps:List Nat}{x y:IC}{Q:fL->S->Prop}{s s':S}{g:V}(hle:bH bq s s')(h:ug P n bq false gq ps x y Q s' (s'.ev gq)):ug P n bq false gq ps x y Q s g:=by
 unfold ug at h|-
 obtain⟨h1,h2⟩:=h
 refine⟨h1, .inr ?_⟩
 rcases h2 with h2|⟨s'',KG,h2⟩
 ·exact⟨s',hle,h2⟩
 ·exact⟨s'',hle.trans KG,h2⟩
def sF(P:Program)(n b id:Nat)(fh:IC)(K X:V->(Nat->ab)->Nat->Prop)(e:fL)(s:S):Prop:=
 match e with
 | .normal=>∃nf m en p c d pd,s.o id= .loop nf m en p c d .ready pd/\kT P n b true fh (kV id K X) ⟨s.env,ay s.o id (.loop nf m en p c d .busy pd),s.nx⟩
 | .bL v=>X v s.o s.nx
 |_=>False
theorem dO.aG {P:Program}{n:Nat}(br:P.follows .mixedOrders=true){id:Nat}{args:List V}{o:Nat->ab}{nx:Nat}{K X:V->(Nat->ab)->Nat->Prop}{env:List V}{ps:List Nat}{jE fh:IC}{st:LoopState}{pd:Option jX}
 (ho:o id= .loop P.funcs.size n env ps jE fh st pd) (ck:id<nx) (EO:ps.all (fun t=>decide (t<n))=true) (hl:args.length=ps.length)
 (h:kT P n nx true jE (sF P n nx id fh K X) ⟨pH (aY env) ps args,o,nx⟩):dO P id args o nx K X:=by
 refine dO.vN br ho ck EO hl (ed jE _ _ _ (fun e s h=> ?_) h)
 cases e with
 |normal=>
  obtain⟨nf,m,en,p,c,d,pd,h1,h2⟩:=h
  exact⟨nf,m,en,p,c,d,pd,h1,ed fh _ _ _ (fun _ _ h=>h) h2⟩
 |bL v=>exact h
 |_=>exact h.elim
theorem AH{P:Program}{n b id:Nat}{fh:IC}{K X:V->(Nat->ab)->Nat->Prop}{s:S}{nf m:Nat}{en:List V}{p:List Nat}{c d:IC}{pd:Option jX}(h:s.o id= .loop nf m en p c d .ready pd)
 (h2:kT P n b true fh (kV id K X) ⟨s.env,ay s.o id (.loop nf m en p c d .busy pd),s.nx⟩):sF P n b id fh K X .normal s:=⟨nf,m,en,p,c,d,pd,h,h2⟩
def xK:List Nat->Nat->Nat->Nat
 |[],nx,k=>nx+k
 |i::_,_,0=>i
 |_::l,nx,k+1=>xK l nx k
theorem AJ:∀ (l:List Nat) (nx k:Nat),xK l nx k∈l\/nx<=xK l nx k
 |[],nx,k=> .inr (Nat.le_add_right _ _)
 |i::_,_,0=> .inl (List.mem_cons_self ..)
 |_::l,nx,k+1=>(AJ l nx k).imp (List.mem_cons_of_mem _) id
theorem C1{nx:Nat}:∀ (l:List Nat),l.Nodup->(∀i∈l,i<nx)->∀a b,xK l nx a=xK l nx b->a=b
 |[],_,_,a,b,e=>by simp only[xK]at e;omega
 |i::l,_,_,0,0,_=>rfl
 |i::l,hd,hl,0,b+1,e=>by
  simp only[xK]at e
  rcases AJ l nx b with h|h
  ·rw[<- e]at h;exact absurd h (List.nodup_cons.1 hd).1
  ·have:=hl i (List.mem_cons_self ..);omega
 |i::l,hd,hl,a+1,0,e=>by
  simp only[xK]at e
  rcases AJ l nx a with h|h
  ·rw[e]at h;exact absurd h (List.nodup_cons.1 hd).1
  ·have:=hl i (List.mem_cons_self ..);omega
 |i::l,hd,hl,a+1,b+1,e=>by
  simp only[xK]at e
  rw[C1 l (List.nodup_cons.1 hd).2 (fun j hj=>hl j (List.mem_cons_of_mem _ hj)) a b e]
def OL(f:Nat->Nat)(x:List Nat×List Nat):List Nat×List Nat:=(x.1.map f,x.2.map f)
theorem we{f:Nat->Nat}(hf:∀a b,f a=f b->a=b){xs ys:List Nat}(hd:kJ xs ys=true):kJ (xs.map f) (ys.map f)=true:=by
 rw[LB]at hd|-
 intro x hx hy
 obtain⟨a,ha,rfl⟩:=List.mem_map.1 hx
 obtain⟨b,hb,e⟩:=List.mem_map.1 hy
 rw[hf b a e]at hb
 exact hd a ha hb
theorem EX{f:Nat->Nat}(hf:∀a b,f a=f b->a=b){pr:List (List Nat)}(fp:List (List Nat×List Nat))(ho:eS pr fp=true):eS pr (fp.map (OL f))=true:=by
 unfold eS at ho|-
 rw[List.all_eq_true]at ho|-
 intro j hj
 rw[List.length_map]at hj
 have ho:=ho j hj
 rw[List.all_eq_true]at ho|-
 intro i hi
 have ho:=ho i hi
 have hm:∀k,(fp.map (OL f)).getD k ([],[])=OL f (fp.getD k ([],[])):=fun k=>by
  rw[List.getD_eq_getElem?_getD,List.getD_eq_getElem?_getD,List.getElem?_map]
  cases fp[k]? <;>rfl
 rw[hm,hm]
 rw[Bool.or_eq_true]at ho|-
 refine ho.imp (fun h=>h) (fun ho=> ?_)
 rw[Bool.and_eq_true,Bool.and_eq_true]at ho|-
 exact⟨⟨we hf ho.1.1,we hf ho.1.2⟩,we hf ho.2⟩
theorem bK{ids:List Nat}{nx:Nat}(hd:ids.Nodup)(hl:∀i∈ids,i<nx){pr:List (List Nat)}(fp:List (List Nat×List Nat))(ho:eS pr fp=true):eS pr (fp.map (OL (xK ids nx)))=true:=
 EX (C1 ids hd hl) fp ho
section
variable {P:Program}{KB:List Nat->Fp->Prop}{pr:List (List Nat)}{l:List bV}{fr:Nat}{fp:Fp}{bad ws:List Nat}{s:S}{d:Option Nat}{op:Op}
end
end
section
structure Gr where
 x:V
 ty:TypeId
 sz:Nat
 es:List D
def Gr.ok (so:Nat->ab)(gone:Nat->Prop)(g:Gr):Prop:=fY so gone g.ty g.sz g.es g.x
def LC(c:Nat)(G:List Gr)(so:Nat->ab)(gone:Nat->Prop)(v v':V):Prop:=
 v'= .ad\/(v'=v/\∀r∈v.refs,r<c)\/(∃i g,G[i]? =some g/\v'= .osl (c+i) 0/\v=g.x)\/∃y,v'= .d y/\dQ so v=some y/\∀id∈v.ids,gone id/\∀g∈G,∀ep,g.x≠ .osl id ep
def iY(c:Nat)(G:List Gr)(so:Nat->ab)(gone:Nat->Prop)(env:Nat->V):List V->Nat->Prop
 |[],_=>True
 |v::l,i=>LC c G so gone (env i) v/\iY c G so gone env l (i+1)
def wg(c:Nat)(G:List Gr)(so:Nat->ab)(gone:Nat->Prop):List V->List V->Prop
 |[],[]=>True
 |v::l,v'::l'=>LC c G so gone v v'/\wg c G so gone l l'
 |_,_=>False
def C2(c:Nat)(G:List Gr)(so:Nat->ab)(gone:Nat->Prop)(x x':ab):Prop:=
 x'= .no\/(x=x'/\∀r∈x'.refs,r<c)\/∃cs cs',x= .row cs/\x'= .row cs'/\wg c G so gone cs cs'
section
variable {c:Nat}{G:List Gr}{so:Nat->ab}{gone:Nat->Prop}
theorem GP{env:Nat->V}:∀ (l:List V) (i:Nat),iY c G so gone env l i->∀j,LC c G so gone (env (i+j)) (aY l j)
 |[],i,_,j=>by rw[qO];exact .inl rfl
 |v::l,i,h,0=>by rw[oj];exact h.1
 |v::l,i,h,j+1=>by
  rw[oo]
  have:=GP l (i+1) h.2 j
  rwa [show i+1+j=i+(j+1) by omega]at this
variable {env:Nat->V}{i:Nat}{l l':List V}{v:V}{y:D}
theorem gI:iY c G so gone env [] i:=trivial
theorem e9(h:iY c G so gone env l (i+1)):iY c G so gone env (.ad::l) i:=⟨.inl rfl,h⟩
theorem dI(he:env i= .d y)(h:iY c G so gone env l (i+1)):iY c G so gone env (.d y::l) i:=⟨.inr (.inl ⟨he.symm,fun r hr=>by rw[he]at hr;simp[V.refs]at hr⟩),h⟩
theorem lU(he:env i=v)(hr:∀r∈v.refs,r<c)(h:iY c G so gone env l (i+1)):iY c G so gone env (v::l) i:=⟨.inr (.inl ⟨he.symm,fun r HX=>hr r (he ▸ HX)⟩),h⟩
theorem kH(k:Nat){g:Gr}{n:Nat}(hg:G[k]? =some g)(hn:n=c+k)(he:env i=g.x)(h:iY c G so gone env l (i+1)):iY c G so gone env (.osl n 0::l) i:=⟨.inr (.inr (.inl ⟨k,g,hg,by rw[hn],he⟩)),h⟩
theorem lV(ht:dQ so (env i)=some y)(hi:∀id∈(env i).ids,gone id/\∀g∈G,∀ep,g.x≠ .osl id ep)(h:iY c G so gone env l (i+1)):iY c G so gone env (.d y::l) i:=⟨.inr (.inr (.inr ⟨y,rfl,ht,hi⟩)),h⟩
theorem mS:wg c G so gone [] []:=trivial
theorem pt(h:wg c G so gone l l'):wg c G so gone (.d y::l) (.d y::l'):=⟨.inr (.inl ⟨rfl,fun r hr=>by simp[V.refs]at hr⟩),h⟩
theorem uR(hr:∀r∈v.refs,r<c)(h:wg c G so gone l l'):wg c G so gone (v::l) (v::l'):=⟨.inr (.inl ⟨rfl,hr⟩),h⟩
theorem uS(k:Nat){g:Gr}{n:Nat}(hg:G[k]? =some g)(hn:n=c+k)(he:v=g.x)(h:wg c G so gone l l'):wg c G so gone (v::l) (.osl n 0::l'):=⟨.inr (.inr (.inl ⟨k,g,hg,by rw[hn],he⟩)),h⟩
theorem mo{x:ab}:C2 c G so gone x .no:= .inl rfl
theorem bC{x x':ab}(h:x=x')(hr:∀r∈x'.refs,r<c):C2 c G so gone x x':= .inr (.inl ⟨h,hr⟩)
theorem mR{x:ab}{cs cs':List V}(h:x= .row cs)(hr:wg c G so gone cs cs'):C2 c G so gone x (.row cs'):= .inr (.inr ⟨cs,cs',h,rfl,hr⟩)
end
theorem qT{c:Nat}{G:List Gr}{so:Nat->ab}{gone:Nat->Prop}{B B':Nat->Prop}{φ aI:Place}{H H':Hp}{w:World}(hc:∀v v' val,LC c G so gone v v'->V.den B φ H w v val->V.den B' aI H' w v' val):
 ∀ (l l':List V) (vals:List Value),wg c G so gone l l'->V.aD B φ H w l vals->V.aD B' aI H' w l' vals
 |[],[],_,_,h=>h
 |v::l,v'::l',_,h,hd=>by
  obtain⟨u,us,rfl,h1,h2⟩:=hd
  exact⟨u,us,rfl,hc _ _ _ h.1 h1,qT hc l l' us h.2 h2⟩
 |[],_::_,_,h,_=>h.elim
 |_::_,[],_,h,_=>h.elim
def LD(φ:Place)(c:Nat)(G:List Gr):Place:=fun id=>if id<c then φ id else match G[id - c]? with
 |some g=>(match g.x with| .osl j _=>φ j|_=> .slice none 0 0)
 |none=>φ id
theorem bH.see (gone:Nat->Prop)(G:List Gr)(c:Nat){b:Nat}{e:Nat->V}{so:Nat->ab}{m:Nat}(l:List V){o':Nat->ab}{nx':Nat}(uu:nx'=c+G.length)(hb:b<=c)
 (ho:∀id,id<c->C2 c G so gone (so id) (o' id)) (hG:∀i g,G[i]? =some g->o' (c+i)= .arr 0 g.ty g.sz g.es/\g.ok so gone) (hh:∀id,nx'<=id->o' id= .no) (yS:∀id,gone id->id<c->o' id= .no)
 (TY:∀ (i j:Nat) (gi gj:Gr) (id ep fW:Nat),G[i]? =some gi->G[j]? =some gj->gi.x= .osl id ep->gj.x= .osl id fW->i=j) (he:iY c G so gone e l 0):bH b ⟨e,so,m⟩ ⟨aY l,o',nx'⟩:=by
 subst uu
 intro M φ w tm hH hd
 let aI:Place:=LD φ c G
 let H':Hp:=hp o' (c+G.length)
 let H:Hp:=⟨so,fun id=>id<m⟩
 have Iy:∀id,id<c->aI id=φ id:=fun id aw=>if_pos aw
 have LF:∀i g,G[i]? =some g->aI (c+i)=(match g.x with| .osl j _=>φ j|_=> .slice none 0 0):=fun i g hg=>by
  show LD φ c G (c+i)=_
  unfold LD
  rw[if_neg (by omega),show c+i - c=i by omega,hg]
 have hold:∀id k,(o' id).live=true->ej (aI id)=some k->∃j,(so j).live=true/\ej (φ j)=some k/\((id<c/\j=id)\/∃i g ep,id=c+i/\G[i]? =some g/\gone j/\g.x= .osl j ep):=by
  intro id k h1 h2
  by_cases ck:id<c
  ·rw[Iy id ck]at h2
   rcases ho id ck with h3|⟨h3,_⟩|⟨cs,cs',h3,h4,_⟩
   ·rw[h3]at h1;cases h1
   ·exact⟨id,by rw[h3];exact h1,h2, .inl ⟨ck,rfl⟩⟩
   ·exact⟨id,by rw[h3];rfl,h2, .inl ⟨ck,rfl⟩⟩
  ·by_cases Bj:c+G.length<=id
   ·rw[hh id Bj]at h1;cases h1
   ·obtain⟨i,rfl⟩:∃i,id=c+i:=⟨id - c,af⟩
    obtain⟨g,hg⟩:∃g,G[i]? =some g:=⟨G[i]'af,aH⟩
    rw[LF i g hg]at h2
    obtain⟨_,aW⟩:=hG i g hg
    rcases aW with⟨h3,_,_⟩|⟨j,ep,hj,h3,mL⟩
    ·rw[h3]at h2;cases h2
    ·rw[h3]at h2
     exact⟨j,by rw[mL];rfl,h2, .inr ⟨i,g,ep,rfl,hg,hj,h3⟩⟩
 have cT:∀k,cD aI H' k->cD φ H k:=by
  rintro k ⟨id,h1,h2⟩
  obtain⟨j,g1,g2,_⟩:=hold id k h1 h2
  exact⟨j,g1,g2⟩
 have hB:∀k, ¬aq M φ H k-> ¬aq M aI H' k:=fun k h h'=>h (h'.imp id (cT k))
 have F2:∀id,id<c->j5 (H'.o id) (H.o id)/\aI id=φ id/\H'.us id:=fun id aw=>by
  refine⟨?_,Iy id aw,(by show id<c+G.length;omega)⟩
  show j5 (o' id) (so id)
  rcases ho id aw with h3|⟨h3,_⟩|⟨cs,cs',h3,h4,_⟩
  ·rw[h3];exact⟨fun h=>oU,fun e h=>oU⟩
  ·exact j5.rfl' h3.symm
  ·rw[h3,h4];exact j5.row _ _
 have fK:∀ (v:V) (val:Value),(∀r∈v.refs,r<c)->V.den (aq M φ H) φ H w v val->V.den (aq M aI H') aI H' w v val:=fun v val hr h=>
  V.jQ (H:=H) (H':=H') hB v val (fun id aw=>F2 id (hr id aw)) h
 have lh:∀ (v:List V) (val:List Value),(∀r∈V.aO v,r<c)->V.aD (aq M φ H) φ H w v val->V.aD (aq M aI H') aI H' w v val:=fun v val hr h=>
  V.eD (H:=H) (H':=H') hB v val (fun id aw=>F2 id (hr id aw)) h
 have ae3:∀ (v:V) (y:D) (val:Value),dQ so v=some y->(∀id∈v.ids,gone id/\∀g∈G,∀ep,g.x≠ .osl id ep)->V.den (aq M φ H) φ H w v val->D.den (aq M aI H') w y val:=fun v y val h1 h2 h3=>by
  obtain⟨f1,f2,f3,f4,f5⟩:=cU (H:=H) hH v.ids (fun id aw=>cO v val h3 id aw)
  have Nh:∀k,cD φ (H.put (bE H.o v.ids)) k->cD φ H k:=by
   rintro k ⟨id,g1,g2⟩
   by_cases aw:id∈v.ids
   ·rw[f3 id aw]at g1
    refine⟨id, ?_,g2⟩
    revert g1
    cases H.o id<;>simp[ab.fz,ab.live]
   ·rw[f4 id aw]at g1;exact⟨id,g1,g2⟩
  have h4:V.den (aq M φ (H.put (bE H.o v.ids))) φ (H.put (bE H.o v.ids)) w v val:=
   V.jQ (H:=H) (fun k h h'=>h (h'.imp id (Nh k))) v val (fun id aw=>by
     have dU:H.us id:=(V.jw v val h3) id aw
     refine⟨?_,rfl,(f5 id).2 dU⟩
     by_cases hm:id∈v.ids
     ·rw[f3 id hm];exact j5.fz _
     ·rw[f4 id hm];exact j5.rfl' rfl) h3
  have h5:=eK f1 (o:=so) v y val (fun id aw=>f3 id aw) h1 h4
  refine D.aT (w:=w) (w':=w) (fun k _ hn=>⟨rfl,fun hk=>hn (hk.imp id ?_)⟩) y val h5
  rintro⟨id,g1,g2⟩
  obtain⟨j,k1,k2,k3⟩:=hold id k g1 g2
  refine⟨j, ?_,k2⟩
  have:j∉v.ids:=fun hm=>by
   obtain⟨k4,k5⟩:=h2 j hm
   rcases k3 with⟨k6,k7⟩|⟨i,g,ep,k6,k8,k9,k10⟩
   ·subst k7
    have:=yS _ k4 k6
    have g1:(o' j).live=true:=g1
    rw[this]at g1
    cases g1
   ·exact k5 g (List.mem_of_getElem? k8) ep k10
  rw[f4 j this];exact k1
 have GQ:∀i g val,G[i]? =some g->V.den (aq M φ H) φ H w g.x val->V.den (aq M aI H') aI H' w (.osl (c+i) 0) val:=by
  intro i g val hg this
  obtain⟨Jg,aW⟩:=hG i g hg
  have ck:c+i<c+G.length:=by have:=(List.getElem?_eq_some_iff.1 hg).1;omega
  rcases aW with⟨h3,_,_⟩|⟨j,ep,hj,h3,mL⟩
  ·rw[h3]at this
   simp only[V.den]at this
   rw[this]
   refine⟨rfl,ck,fun e' p9=> ?_⟩
   have p9:(o' (c+i)).ct=some e':=p9
   rw[Jg]at p9
   simp only[ab.ct,Option.some.injEq]at p9
   subst p9
   exact⟨Nat.le_refl _,fun _=>by rw[LF i g hg,h3]⟩
  ·rw[h3]at this
   obtain⟨g1,g2,g3⟩:=this
   refine⟨g1,ck,fun e' p9=> ?_⟩
   have p9:(o' (c+i)).ct=some e':=p9
   rw[Jg]at p9
   simp only[ab.ct,Option.some.injEq]at p9
   subst p9
   have ve:(H.o j).ct=some ep:=by show(so j).ct=_;rw[mL];rfl
   exact⟨Nat.le_refl _,fun _=>by rw[LF i g hg,h3];exact(g3 ep ve).2 rfl⟩
 have SH:∀v v' val,LC c G so gone v v'->V.den (aq M φ H) φ H w v val->V.den (aq M aI H') aI H' w v' val:=by
  intro v v' val h h1
  rcases h with rfl|⟨rfl,h2⟩|⟨i,g,hg,rfl,rfl⟩|⟨y,rfl,h2,h3⟩
  ·trivial
  ·exact fK _ _ h2 h1
  ·exact GQ i g _ hg h1
  ·exact ae3 v y val h2 h3 h1
 refine⟨aI,⟨fun id=> ?_,fun id hu=>hh id (by have: ¬id<c+G.length:=hu;omega),fun i j k h1 h2 h3 h4=> ?_,fun k hk=>hH.ours k (cT k hk),hH.Bi⟩,fun i=> ?_,cT,by show b<=c+G.length;omega,fun id aw hr=> ?_,fun id e' aw p9=> ?_⟩
 ·have bf:aR M φ H w id:=hH.ok id
  show aR M aI H' w id
  unfold aR at bf|-
  by_cases ck:id<c
  ·rcases ho id ck with h3|⟨h3,hrefs⟩|⟨cs,cs',h3,h4,cV⟩
   ·have e2:H'.o id= .no:=h3
    rw[e2];trivial
   ·have e1:H.o id=o' id:=h3
    have e2:H'.o id=o' id:=rfl
    rw[e1]at bf
    rw[e2,Iy id ck]
    cases Ep:o' id with
    |no=>trivial
    |row cs=>
     simp only[Ep]at bf hrefs|-
     exact ZG
    |arr ep ty sz es=>
     simp only[Ep]at bf|-
     obtain⟨k1,xs,k2,evs,k3,k4,k5⟩:=bf
     exact Y0
    |uo ep es=>
     simp only[Ep]at bf|-
     exact D.aT (fun b _ hn=>⟨rfl,hB b hn⟩) _ _ bf
    |map kt vt es=>
     simp only[Ep]at bf|-
     obtain⟨b,es',clock,k1,k2,k4,k3⟩:=bf
     exact YX
    |b7 l=>
     simp only[Ep]at bf|-
     exact kK.mono (fun b _ hn=>⟨rfl,hB b hn⟩) bf
    |rG l last=>
     simp only[Ep]at bf|-
     obtain⟨b,k1,k2⟩:=bf
     exact Qt
    |zH s pos=>
     simp only[Ep]at bf|-
     exact bf
    |loop nf n env ps a b st pd=>
     simp only[Ep]at bf hrefs|-
     exact QJ
   ·have e1:H.o id= .row cs:=h3
    have e2:H'.o id= .row cs':=h4
    rw[e1]at bf
    rw[e2,Iy id ck]
    obtain⟨b,dV,ty,k1,k2,k3,k4⟩:=bf
    exact⟨b,dV,ty,k1,k2,qT SH _ _ _ cV k3,k4⟩
  ·by_cases Bj:c+G.length<=id
   ·have e2:H'.o id= .no:=hh id Bj
    rw[e2];trivial
   ·obtain⟨i,rfl⟩:∃i,id=c+i:=⟨id - c,af⟩
    obtain⟨g,hg⟩:∃g,G[i]? =some g:=⟨G[i]'af,aH⟩
    obtain⟨Jg,aW⟩:=hG i g hg
    have e2:H'.o (c+i)= .arr 0 g.ty g.sz g.es:=Jg
    rw[e2]
    rcases aW with⟨h3,h4,ek⟩|⟨j,ep,hj,h3,mL⟩
    ·rw[h4]
     refine⟨ek,[], ?_,[],aH,aH,rfl⟩
     rw[LF i g hg,h3]
     exact World.ownsRow_nil _ _ _ _
    ·have this:aR M φ H w j:=hH.ok j
     unfold aR at this
     have e3:H.o j= .arr ep g.ty g.sz g.es:=mL
     simp only[e3]at this
     obtain⟨k1,xs,k2,evs,k3,k4,k5⟩:=this
     exact⟨k1,xs,by rw[LF i g hg,h3];exact k2,evs,k3,k4,D.aU (fun b _ hn=>⟨rfl,hB b hn⟩) _ _ k5⟩
 ·obtain⟨i',a1,a2,a3⟩:=hold i k h1 h3
  obtain⟨j',b1,b2,b3⟩:=hold j k h2 h4
  have:=hH.apart i' j' k a1 b1 a2 b2
  subst this
  have jo:∀Bm,(o' Bm).live=true->Bm<c->gone Bm->False:=fun Bm g1 g2 g3=>by
   rw[yS _ g3 g2]at g1
   cases g1
  rcases a3 with⟨a3,a4⟩|⟨ia,ga,ea,a3,a4,a5,a6⟩<;>rcases b3 with⟨b3,b4⟩|⟨ib,gb,eb,b3,b4,b5,b6⟩
  ·omega
  ·exact(jo i h1 a3 (a4 ▸ b5)).elim
  ·exact(jo j h2 b3 (b4 ▸ a5)).elim
  ·have:=TY ia ib ga gb _ _ _ a4 b4 a6 b6
   omega
 ·have hi:=GP l 0 he i
  rw[Nat.zero_add]at hi
  exact SH _ _ _ hi (hd i)
 ·have ck:id<c:=af
  have hr:(o' id).cu=true:=hr
  exact⟨(F2 id ck).1.1 hr,Iy id ck⟩
 ·have ck:id<c:=af
  have p9:(o' id).ct=some e':=p9
  exact⟨e',(F2 id ck).1.2 e' p9,Nat.le_refl _,fun _=>Iy id ck⟩
theorem bH.acK (gone:Nat->Prop)(c:Nat){b:Nat}{e:Nat->V}{so:Nat->ab}{m:Nat}(l:List V){o':Nat->ab}(hb:b<=c)
 (ho:∀id,id<c->C2 c [] so gone (so id) (o' id)) (hh:∀id,c<=id->o' id= .no) (yS:∀id,gone id->id<c->o' id= .no) (he:iY c [] so gone e l 0):bH b ⟨e,so,m⟩ ⟨aY l,o',c⟩:=
 bH.see gone [] c l rfl hb ho (fun i g h=>by cases h) hh yS (fun i j gi gj id ep fW h=>by cases h) he
theorem bH.sG (gone:Nat->Prop)(x:V)(c:Nat){ty:TypeId}{sz:Nat}{es:List D}{b:Nat}{e:Nat->V}{so:Nat->ab}{m:Nat}(l:List V){o':Nat->ab}(hb:b<=c)
 (ho:∀id,id<c->C2 c [⟨x,ty,sz,es⟩] so gone (so id) (o' id)) (hc:o' c= .arr 0 ty sz es) (hx:fY so gone ty sz es x) (hh:∀id,c+1<=id->o' id= .no) (yS:∀id,gone id->id<c->o' id= .no)
 (he:iY c [⟨x,ty,sz,es⟩] so gone e l 0):bH b ⟨e,so,m⟩ ⟨aY l,o',c+1⟩:=
 bH.see gone [⟨x,ty,sz,es⟩] c l rfl hb ho (fun i g h=>by
  match i,h with
  |0,h=>simp at h;subst h;exact⟨hc,hx⟩) hh yS (fun i j gi gj id ep fW h h' _ _=>by
  match i,j,h,h' with
  |0,0,_,_=>rfl) he
theorem lt1{P:Nat->Prop}(h:P 0):∀id,id<1->P id:=fun id aw=>by
 have e:id=0:=af
 rw[e];exact h
theorem lt2{P:Nat->Prop}(h:P 0)(h1:P 1):∀id,id<2->P id:=fun id aw=>by
 rcases(by omega:id=0\/id=1)with rfl|rfl<;>assumption
theorem lt0{P:Nat->Prop}:∀id,id<0->P id:=fun id aw=>af
@[go_sem] theorem afx (b:Bool):(b==false)= !b:=BB
@[go_sem] theorem afy (b:Bool):(b==true)=b:=BB
@[go_sem] theorem acL (c:Bool) (v:V):V.As c (V.As c v)=V.As c v:=by cases c<;>rfl
@[go_sem] theorem acM (c:Bool):(c&&c)=c:=by cases c<;>rfl
@[go_sem] theorem XQ {α:Type} (f:α->D) (l:List α) (n:Nat) (h:∀x,(f x).cells.length=n):((l.map f).all fun z=>z.cells.length==n)=true:=by
  simp[List.all_eq_true,h]
attribute [go_sem] implies_true
attribute [go_sem] Option.isSome_none Option.getD_some Option.getD_none
theorem structOf{P:Program}{t:TypeId}(h:(match P.underlying t with|some (.struct _)=>true|_=>false)=true):∃fs,P.underlying t=some (.struct fs):=by
 split at h
 ·exact⟨_,by assumption⟩
 ·cases h
theorem ba{pr:List (List Nat)}{fp:List (List Nat×List Nat)}(h:fp.all (fun x=>x.2.isEmpty)=true):eS pr fp=true:=by
 have e:∀i,(fp.getD i ([],[])).2=[]:=fun i=>by
  rw[List.getD_eq_getElem?_getD]
  cases hi:fp[i]? with
  |none=>rfl
  |some x=>simpa using List.all_eq_true.1 h x (List.mem_of_getElem? hi)
 simp only[eS,List.all_eq_true,e,kJ,List.all_nil,Bool.and_self,Bool.or_true,implies_true]
structure eP (base:Nat) (h o:Nat->ab) (nx:Nat):Prop where
 cA:Good o nx
 le:base<=nx
 eq:∀id,id<base->o id=h id
def StK(base:Nat)(h:Nat->ab)(v:V)(o:Nat->ab)(nx:Nat)(K:V->(Nat->ab)->Nat->Prop):Prop:=
 ∀o' nx',nx<=nx'->eP base h o' nx'->(∀id,base<=id->id<nx->o' id=o id)->K v o' nx'
def wh(P:Program)(g:FuncId)(args:List V)(base:Nat)(h h2:Nat->ab)(v:V):Prop:=
 ∀o nx,eP base h o nx->∀K X,StK base h2 v o nx K->bZ P g args o nx K X
theorem eP.ay {base:Nat}{h o:Nat->ab}{nx m i:Nat}{x:ab}(hI:eP base h o nx)(hb:base<=i)(hi:i<m)(hm:nx<=m)(hx:x.refs.all (fun r=>decide (r<m))=true):eP base h (YtlhemmpklhhgoaaGreat.ay o i x) m:=
 ⟨(hI.cA.mono hm).ay hi hx,Nat.le_trans hI.le hm,fun id aw=>by rw[ae _ _ _ _ (by omega)];exact hI.eq id aw⟩
theorem eP.mono {base:Nat}{h o:Nat->ab}{nx m:Nat}(hI:eP base h o nx)(hm:nx<=m):eP base h o m:=⟨hI.cA.mono hm,Nat.le_trans hI.le hm,hI.eq⟩
def ext(base:Nat)(h o:Nat->ab):Nat->ab:=fun id=>if id<base then h id else o id
theorem eP.ext {base c:Nat}{h o:Nat->ab}{nx:Nat}(hI:eP base h o nx)(hc:c<=nx)(hb:base<=c):eP c (YtlhemmpklhhgoaaGreat.ext base h o) o nx:=
 ⟨hI.cA,hc,fun id _=>by unfold YtlhemmpklhhgoaaGreat.ext;split<;>first|exact hI.eq id (by assumption)|rfl⟩
theorem wh.ext {P:Program}{g:FuncId}{args:List V}{base c:Nat}{h h2:Nat->ab}{v:V}(hS:wh P g args base h h2 v)(hb:base<=c)(o0:Nat->ab):wh P g args c (YtlhemmpklhhgoaaGreat.ext base h o0) (YtlhemmpklhhgoaaGreat.ext base h2 o0) v:=by
 intro o nx hI K X hK
 refine hS o nx ⟨hI.cA,Nat.le_trans hb hI.le,fun id aw=>by rw[hI.eq id (by omega)];unfold YtlhemmpklhhgoaaGreat.ext;rw[if_pos aw]⟩ K X fun o' nx' h1 h2 h3=>hK o' nx' h1 ⟨h2.cA,Nat.le_trans hI.le h1,fun id aw=> ?_⟩ (fun id h4 h5=>h3 id af h5)
 unfold YtlhemmpklhhgoaaGreat.ext
 split
 ·exact h2.eq id (by assumption)
 ·rename_i hn
  rw[h3 id (by omega) (by have:=hI.le;omega),hI.eq id aw]
  unfold YtlhemmpklhhgoaaGreat.ext;rw[if_neg hn]
theorem StK.ext {base c:Nat}{h o:Nat->ab}{v:V}{o1:Nat->ab}{nx Bp:Nat}{K:V->(Nat->ab)->Nat->Prop}(hK:StK base h v o nx K)(hb:base<=c)(hn:nx<=Bp)(hc:nx<=c)(ho:∀id,base<=id->id<nx->o1 id=o id):StK c (YtlhemmpklhhgoaaGreat.ext base h o1) v o1 Bp K:=by
 intro o' nx' h1 h2 h3
 refine hK o' nx' af ⟨h2.cA,Nat.le_trans hb h2.le,fun id aw=> ?_⟩ fun id h4 h5=> ?_
 ·rw[h2.eq id (by omega)];unfold YtlhemmpklhhgoaaGreat.ext;rw[if_pos aw]
 ·rw[h2.eq id (by omega), <- ho id h4 h5];unfold YtlhemmpklhhgoaaGreat.ext;rw[if_neg (by omega)]
def aQ{α σ:Type}(step:σ->α->σ×Bool)(s:σ):List α->σ×Bool
 |[]=>(s,true)
 |x::l=>if(step s x).2=true then aQ step (step s x).1 l else((step s x).1,false)
theorem nJ{P:Program}{id:Nat}{args:List V}{e:Nat->V}{o:Nat->ab}{nx:Nat}{K X:V->(Nat->ab)->Nat->Prop}(h:dO P id args o nx K X):yG P id K X ⟨e,o,nx⟩ args:=by unfold yG;exact h
theorem uE{α:Type}(f:Nat->α)(i:Nat)(x y:α):ay (ay f i x) i y=ay f i y:=by
 funext j;simp only[ay];split<;>rfl
attribute [go_sem] Int.cast_ofNat_Int
section
variable {P:Program}{n:Nat}{ps:List Nat}{x y:IC}{env:List V}{L:LoopState->Option jX->ab}
def iZ(P:Program)(n:Nat)(env:List V)(ps:List Nat)(x y:IC)(L:LoopState->Option jX->ab):Prop:=∀st pd,L st pd= .loop P.funcs.size n env ps x y st pd
theorem EY{bq:Nat}{gq:Operand}{Q:fL->S->Prop}{e:Nat->V}{o:Nat->ab}{nx:Nat}{f:FuncId}{cap:List V}(env:List V)(he:nI e env 0)
 (h:∀L,iZ P n env ps x y L->bZ P f (.kn nx::cap) (ay o nx (L .ready none)) (nx+1)
  (fun _ o' nx'=>∃st pd,o' nx=L st pd/\st≠ .busy/\qF Q pd ⟨e,ay o' nx (L .exhausted pd),nx'⟩) (fun v o' nx'=>Q (.bL v) ⟨e,o',nx'⟩)):
 ug P n bq false gq ps x y Q ⟨e,o,nx⟩ (.func (.func f) [] cap):=by
 refine Ix env he ?_
 have:=h (fun st pd=> .loop P.funcs.size n env ps x y st pd) (fun _ _=>rfl)
 refine this.mono (fun v o' nx' hh=> ?_) (fun v o' nx' hh=>hh)
 obtain⟨st,pd,h1,h2,h3⟩:=hh
 exact⟨_,_,_,_,_,_,_,_,h1,h2,h3⟩
theorem wk(hL:iZ P n env ps x y L)(br:P.follows .mixedOrders=true){id:Nat}{args:List V}{o:Nat->ab}{nx:Nat}{K X:V->(Nat->ab)->Nat->Prop}{st:LoopState}{pd:Option jX}
 (ho:o id=L st pd) (ck:id<nx) (EO:ps.all (fun t=>decide (t<n))=true) (hl:args.length=ps.length)
 (h:kT P n nx true x (sF P n nx id y K X) ⟨pH (aY env) ps args,o,nx⟩):dO P id args o nx K X:=
 dO.aG br (ho.trans (hL st pd)) ck EO hl h
theorem nK(hL:iZ P n env ps x y L){b id:Nat}{fh:IC}{K X:V->(Nat->ab)->Nat->Prop}{e:Nat->V}{o:Nat->ab}{nx:Nat}{pd:Option jX}(h:o id=L .ready pd)
 (h2:kT P n b true fh (kV id K X) ⟨e,ay o id (L .busy pd),nx⟩):sF P n b id fh K X .normal ⟨e,o,nx⟩:=by
 refine AH (h.trans (hL _ _)) ?_
 rw[<- hL];exact h2
theorem sH(hL:iZ P n env ps x y L){id:Nat}{K X:V->(Nat->ab)->Nat->Prop}{e:Nat->V}{o:Nat->ab}{nx:Nat}{st:LoopState}{pd:Option jX}(h:o id=L st pd)(k:K (.d (.bool true)) (ay o id (L .ready none)) nx):kV id K X .normal ⟨e,o,nx⟩:=
 ⟨_,_,_,_,_,_,_,_,h.trans (hL _ _),by rw[<- hL];exact k⟩
theorem wm(hL:iZ P n env ps x y L){id:Nat}{K X:V->(Nat->ab)->Nat->Prop}{e:Nat->V}{o:Nat->ab}{nx:Nat}{st:LoopState}{pd:Option jX}(h:o id=L st pd)(k:K (.d (.bool false)) (ay o id (L .done (some .ret))) nx):kV id K X .ret ⟨e,o,nx⟩:=
 ⟨_,_,_,_,_,_,_,_,h.trans (hL _ _),by rw[<- hL];exact k⟩
theorem tF(hL:iZ P n env ps x y L){id j:Nat}{K X:V->(Nat->ab)->Nat->Prop}{e:Nat->V}{o:Nat->ab}{nx:Nat}{st:LoopState}{pd:Option jX}(h:o id=L st pd)(k:K (.d (.bool false)) (ay o id (L .done (some (.exit j)))) nx):kV id K X (.exit j) ⟨e,o,nx⟩:=
 ⟨_,_,_,_,_,_,_,_,h.trans (hL _ _),by rw[<- hL];exact k⟩
theorem iZ.no (hL:iZ P n env ps x y L)(st:LoopState)(pd:Option jX):L st pd≠ .no:=by rw[hL];exact ab.noConfusion
theorem iZ.refs (hL:iZ P n env ps x y L)(st:LoopState)(pd:Option jX):(L st pd).refs=V.aO env:=by rw[hL];rfl
end
end
attribute [go_sem_proc] Int.reduceBEq Int.reduceBNe Int.reduceLT Int.reduceLE Int.reduceEq Int.reduceNe Nat.reducePow Nat.reduceEqDiff Nat.reduceAdd Nat.reduceSub Nat.reduceMul Nat.reduceLeDiff Nat.reduceBEq Nat.reduceLT reduceIte reduceCtorEq Int.reduceToNat
attribute [go_sem] List.range_zero Option.isSome_some and_self List.cons.injEq
theorem Hz(n low high:Int):aV Tryz.prog 114 [.i n, .i low, .i high] (.ret [.bool (dS n low high)]):=by
 refine aV.aG mix abn aH ?_
 rw[abm]
 refine cM ?_
 rfl
theorem LG{t:Tm}{left depth:Int}(h:left<1\/depth<1):iN t left depth= -1:=by cases t;simp[iN,h]
theorem pL{l:List Tm}{left depth:Int}(h:left<0):cC l left depth=left:=by
 cases l with
 |nil=>rfl
 |cons k l=>simp[cC,show ¬ (0<=left) by omega]
theorem LH:∀t:Tm,∀left depth:Int, -1<=iN t left depth/\(1<=left->iN t left depth<=left - 1)/\(left<1->iN t left depth= -1):=by
 refine Tm.ind fun op n kids ih left depth=> ?_
 have hs:∀ (l:List Tm) (left d:Int),(∀k∈l,k∈kids)-> -1<=left-> -1<=cC l left d/\cC l left d<=left:=by
  intro l
  induction l with
  |nil=>intro left d _ h;simp[cC,h]
  |cons k l V2=>
   intro left d hk h
   simp only[cC]
   split
   ·rename_i h0
    have h1:=ih k (hk k aH) left d
    have h2:=V2 (iN k left d) d (fun x hx=>hk x oT) h1.1
    by_cases hl:1<=left
    ·have:=h1.2.1 hl;omega
    ·have:=h1.2.2 af;omega
   ·omega
 simp only[iN]
 split
 ·rename_i h;refine⟨af,fun h1=> ?_,fun _=>rfl⟩;omega
 ·rename_i h
  have:=hs kids (left - 1) (depth - 1) (fun _ h=>h) af
  exact⟨this.1,fun _=>this.2,fun h=>af⟩
theorem Iz(l:List Tm)(left d:Int)(h: -1<=left): -1<=cC l left d/\cC l left d<=left:=by
 induction l generalizing left with
 |nil=>simp[cC,h]
 |cons k l V2=>
  simp only[cC]
  split
  ·have h1:=LH k left d
   have h2:=V2 (iN k left d) h1.1
   by_cases hl:1<=left
   ·have:=h1.2.1 hl;omega
   ·have:=h1.2.2 af;omega
  ·omega
theorem pf(a b:List Tm)(left d:Int):cC (a++b) left d=cC b (cC a left d) d:=by
 induction a generalizing left with
 |nil=>rfl
 |cons k a ih=>
  simp only[List.cons_append,cC]
  split
  ·exact ih _
  ·rename_i h;rw[pL (by omega)]
theorem C3{l:List Tm}{i:Nat}{k:Tm}(hi:l[i]? =some k)(left d:Int)(h:0<=cC (l.take i) left d):cC (l.take (i+1)) left d=iN k (cC (l.take i) left d) d:=by
 rw[List.take_add_one,hi,pf]
 simp[cC,h]
theorem C4{l:List Tm}{i:Nat}(left d:Int)(h:cC (l.take i) left d<0):cC l left d=cC (l.take i) left d:=by
 conv=>lhs;rw[<- List.take_append_drop i l]
 rw[pf,pL h]
@[reducible] def nL (cs:List V):Nat->ab:=ay (fun _=> .no) 0 (.row cs)
@[reducible] def EZ (cs ds:List V):Nat->ab:=ay (ay (fun _=> .no) 0 (.row cs)) 1 (.row ds)
theorem cc{cs:List V}(h:(ab.row cs).refs.all (fun r=>decide (r<1))=true):Good (nL cs) 1:=(Good.nil (nx:=1)).ay af h
theorem kC{cs ds:List V}(h:(ab.row cs).refs.all (fun r=>decide (r<2))=true)(h2:(ab.row ds).refs.all (fun r=>decide (r<2))=true):Good (EZ cs ds) 2:=((Good.nil (nx:=2)).ay af h).ay af h2
theorem bH.d1 {e:Nat->V}{so o:Nat->ab}{m:Nat}(l:List V)(hg:Good o 1)(hm:1<=m)(h0:so 0=o 0)(he:lG 1 e l 0):bH 0 ⟨e,so,m⟩ ⟨aY l,o,1⟩:=
 bH.bM l (Nat.zero_le _) hm hg (fun id h=>by obtain rfl:id=0:=af
                                             exact h0) he
theorem bH.d2 {e:Nat->V}{so o:Nat->ab}{m:Nat}(l:List V)(hg:Good o 2)(hm:2<=m)(h0:so 0=o 0)(h1:so 1=o 1)(he:lG 2 e l 0):bH 0 ⟨e,so,m⟩ ⟨aY l,o,2⟩:=
 bH.bM l (Nat.zero_le _) hm hg (fun id h=>by
  rcases(by omega:id=0\/id=1)with rfl|rfl
  ·exact h0
  ·exact h1) he
@[reducible] def Tm.row (t:Tm):List V:=[.d (.i t.op), .d (.i t.n), .d (.sl (t.kids.map Tm.d))]
theorem C5(t:Tm)(left depth:Int):iN t left depth=if left<1\/depth<1 then -1 else cC t.kids (left - 1) (depth - 1):=by cases t;simp[iN,Tm.kids]
theorem GR:∀t:Tm,t.fits->∀left depth:Int, -1<=left/\left<=1000000-> -1<=depth/\depth<=1000000->aV Tryz.prog 87 [t.d, .i left, .i depth] (.ret [.i (iN t left depth)]):=by
 refine Tm.eY fun t ih hf left depth hl hd=> ?_
 have xF:=(Tm.bT _).1 hf
 refine aV.aG mix aeZ aH ?_
 rw[c87]
 refine cM ?_
 refine ao (fun h1=> ?_) (fun h1=> ?_)
 ·refine cM ?_
  simp at h1
  rw[LG h1]
 ·simp at h1
  refine cM ?_
  rw[wrap64 (n:=left - 1) (by omega) (by omega),C5,if_neg (by omega)]
  refine aC (fun k:Nat=>⟨aY [.ad, .d (.i (cC (t.kids.take k) (left - 1) (depth - 1))), .d (.i depth), .ptr 0 0, .ad, .ad, .ad, .d (.i k)],nL t.row,1⟩)
   (fun k=>k<=t.kids.length) (fun k=>t.kids.length - k) 0 (Nat.zero_le _) (bH.d1 _ (cc rfl) af rfl ?_) (fun k hk=> ?_)
  ·exact dC
  have hb:=Iz (t.kids.take k) (left - 1) (depth - 1) af
  refine cM ?_
  refine ao (fun h2=> ?_) (fun h2=> ?_)
  ·simp at h2
   obtain⟨x,hx⟩:∃x,t.kids[k]? =some x:=⟨t.kids[k],by simp[h2.1]⟩
   have cy:=List.mem_of_getElem? hx
   refine kG hx ?_
   rw[wrap64 (n:=depth - 1) (by omega) (by omega)]
   refine ak (ih x cy (xF.2 x cy) _ _ af af) rfl ?_
   refine cM ?_
   rw[<- C3 hx _ _ h2.2]
   refine aj (k+1) h2.1 af (bH.d1 _ (cc rfl) af rfl ?_)
   exact dC
  ·refine cM ?_
   simp only[Bool.and_eq_false_iff,decide_eq_false_iff_not]at h2
   congr 3
   rcases h2 with h2|h2
   ·rw[List.take_of_length_le (by omega)]
   ·exact C4 _ _ af
theorem V3(s:List UInt8)(hs:s.length<=9223372036854775807):aV Tryz.prog 139 [.str s] (.ret [.bool (jO s)]):=by
 refine aV.aG mix abK aH ?_
 rw[abJ]
 refine cM ?_
 refine aC (fun k:Nat=>⟨aY [.d (.str s), .ad, .ad, .d (.i k)],fun _=> .no,0⟩)
  (fun k=>k<=s.length/\(s.take k).all letterF=true) (fun k=>s.length - k) 0 ⟨Nat.zero_le _,aH⟩ (bH.d0 _ ?_) (fun k hk=> ?_)
 ·exact dC
 refine cM ?_
 refine ao (fun h2=> ?_) (fun h2=> ?_)
 ·simp at h2
  obtain⟨x,hx⟩:∃x,s[k]? =some x:=⟨s[k],by simp[h2]⟩
  refine kG hx ?_
  refine ao (fun h3=> ?_) (fun h3=> ?_)
  ·refine cM ?_
   have:jO s=false:=by
    have:s.all letterF=false:=by
     rw[List.all_eq_false]
     refine⟨x,List.mem_of_getElem? hx, ?_⟩
     simp only[letterF,h3];simp
    simp[jO,this]
   rw[this]
  ·refine cM ?_
   refine aj (k+1) ⟨h2, ?_⟩ af (bH.d0 _ ?_)
   ·rw[List.take_add_one,hx,List.all_append,hk.2]
    simp[letterF,h3]
   ·exact dC
 ·refine cM ?_
  refine ak (Hz _ _ _) rfl ?_
  refine cM ?_
  simp at h2
  have:=hk.2
  rw[List.take_of_length_le (by omega)]at this
  simp[jO,this]
theorem GS(l:List ef)(bs:List (List UInt8))(hl:l.length<=1000)(hb:bs.length<=1000)(hs:∀x∈l,x.name.length<=9223372036854775807):
 aV Tryz.prog 115 [.sl (l.map ef.d), .sl (bs.map .str)] (.ret [.sl (((cB l bs).getD []).map .str), .bool (cB l bs).isSome]):=by
 refine aV.aG mix abp aH ?_
 rw[abo]
 refine cM ?_
 refine aC (fun k:Nat=>⟨aY [.d (.sl (l.map ef.d)), .d (.sl ((bs++(l.take k).map (·.name)).map .str)), .ad, .ad, .ad, .ad, .d (.i k)],fun _=> .no,0⟩)
  (fun k=>k<=l.length/\cB l bs=cB (l.drop k) (bs++(l.take k).map (·.name))) (fun k=>l.length - k) 0 ⟨Nat.zero_le _,aH⟩ (bH.d0 _ ?_) (fun k hk=> ?_)
 ·simp only[List.take_zero,List.map_nil,List.append_nil]
  exact dC
 refine cM ?_
 refine ao (fun h2=> ?_) (fun h2=> ?_)
 ·simp at h2
  obtain⟨x,hx⟩:∃x,l[k]? =some x:=⟨l[k],by simp[h2]⟩
  have cy:=List.mem_of_getElem? hx
  have Cv:l.drop k=x::l.drop (k+1):=by
   rw[List.drop_eq_getElem_cons h2]
   rw[List.getElem?_eq_getElem h2]at hx;injection hx with hx;rw[hx]
  generalize hB:bs++(l.take k).map (·.name)=B at*
  have hBl:B.length<=2000:=by rw[<- hB];simp;omega
  refine cM ?_
  refine aC (fun j:Nat=>⟨aY [.d (.sl (l.map ef.d)), .d (.sl (B.map .str)), .ad, .ad, .ad, .ad, .d (.i k), .d (.i j)],fun _=> .no,0⟩)
   (fun j=>j<=B.length/\(B.take j).any (· ==x.name)=false) (fun j=>B.length - j) 0 ⟨Nat.zero_le _,aH⟩ (bH.d0 _ ?_) (fun j hj=> ?_)
  ·exact dC
  refine cM ?_
  refine ao (fun h3=> ?_) (fun h3=> ?_)
  ·simp at h3
   obtain⟨y,hy⟩:∃y,B[j]? =some y:=⟨B[j],by simp[h3]⟩
   simp+contextual only[go_sem,hx,hy]
   refine aE bD ?_
   refine cM ?_
   refine ao (fun h4=> ?_) (fun h4=> ?_)
   ·refine cM ?_
    have:cB l bs=none:=by
     rw[hk.2,Cv,cB,if_pos]
     rw[List.any_eq_true]
     exact⟨y,List.mem_of_getElem? hy,h4⟩
    rw[this];rfl
   ·refine cM ?_
    refine aj (j+1) ⟨h3, ?_⟩ af (bH.d0 _ ?_)
    ·rw[List.take_add_one,hy,List.any_append,hj.2]
     simp only[Option.toList_some,List.any_cons,h4,List.any_nil,Bool.or_false]
    ·exact dC
  ·simp at h3
   have V4:=hj.2
   rw[List.take_of_length_le (by omega)]at V4
   refine kG hx ?_
   refine ak (V3 x.name (hs x cy)) rfl ?_
   refine kG hx ?_
   refine iu (gz [.bool (dS x.args 0 4)] ?_ ?_)
   ·refine cM ?_
    exact FN
   refine cM ?_
   refine ao (fun h4=> ?_) (fun h4=> ?_)
   ·refine cM ?_
    have:cB l bs=none:=by
     rw[hk.2,Cv,cB,if_neg (by rw[V4];exact Bool.false_ne_true),if_pos h4]
    rw[this];rfl
   ·have e1:B.length<=140737488355328:=af
    have e2:B.length*16<=140737488355328:=af
    have e3:B.length<=140737488355327:=af
    have e4:(B.length+1)*16<=140737488355328:=af
    simp+contextual only[go_sem,hx,e1,e2,e3,e4]
    refine aE bD ?_
    refine cM ?_
    have hn:cB l bs=cB (l.drop (k+1)) (bs++(l.take (k+1)).map (·.name)):=by
     rw[hk.2,Cv,cB,if_neg (by rw[V4];exact Bool.false_ne_true),if_neg (by rw[h4];exact Bool.false_ne_true), <- hB,List.take_add_one,hx]
     simp
    refine aj (k+1) ⟨h2,hn⟩ af (bH.acK (fun _=>True) 0 _ (Nat.le_refl _) lt0 (fun _ _=>rfl) (fun _ _ _=>rfl) ?_)
    have hB2:(bs++(l.take (k+1)).map (·.name)).map D.str=B.map D.str++[D.str x.name]:=by
     rw[<- hB,List.take_add_one,hx];simp
    rw[hB2]
    exact rE
 ·refine cM ?_
  simp at h2
  have:cB l bs=some (bs++l.map (·.name)):=by
   rw[hk.2,List.drop_eq_nil_of_le (by omega),cB,List.take_of_length_le (by omega)]
  rw[this,List.take_of_length_le (by omega)]
  rfl
theorem V5(a b:List UInt8)(m n:Int):oX Tryz.prog 100 124 (.agg [.str a, .i m]) (.agg [.str b, .i n])=some (a==b&&m==n):=by
 have h1:bN Tryz.prog 124=some (.struct [(9,0),(3,1)]):=ai
 have h2:bN Tryz.prog 9=some .str:=ai
 have h3:bN Tryz.prog 3=some .int:=ai
 have h4:df Tryz.prog 9=some false:=ai
 have h5:df Tryz.prog 3=some false:=ai
 simp[oX,h1,h2,h3,h4,h5,x6,NC,iJ,Ea]
@[go_sem] theorem ae4 (o:Nat->ab) (mW:Bool) (a b:List UInt8) (m n:Int):rR Tryz.prog o 124 mW (.d (.agg [.str a, .i m])) (.d (.agg [.str b, .i n]))=some (.d (.bool (a==b&&m==n))):=by
  obtain⟨fs,h⟩:∃fs,Tryz.prog.underlying 124=some (.struct fs):=structOf ai
  have h2:Tryz.prog.eqGuardType Tryz.prog.depth 124=false:=ai
  unfold rR
  rw[h]
  dsimp only
  rw[if_pos h2,V5]
  rfl
theorem IA{l:List ef}{bs B:List (List UInt8)}(h:cB l bs=some B):B=bs++l.map (·.name):=by
 induction l generalizing bs with
 |nil=>simp[cB]at h;simp[h]
 |cons x l ih=>
  simp only[cB]at h
  split at h
  ·cases h
  ·split at h
   ·cases h
   ·rw[ih h];simp
structure aF.Fits (s:aF):Prop where
 lc:s.cons.length<=9223372036854775807
 lf:s.bW.length<=9223372036854775807
 nc:∀x∈s.cons,x.name.length<=9223372036854775807
 nf:∀x∈s.bW,x.name.length<=9223372036854775807
theorem acN(s:aF)(hs:s.Fits):aV Tryz.prog 75 [s.d] (.ret [.bool (kU s)]):=by
 refine aV.aG mix aeS aH ?_
 rw[c75]
 refine cM ?_
 refine ak (Hz _ _ _) rfl ?_
 refine cM ?_
 cases h1:(!dS s.cons.length 2 12||decide (8<(s.bW.length:Int)))with
 |true=>
  refine kG h1 ?_
  simp only[kU,h1,if_true]
 |false=>
  simp[dS]at h1
  obtain⟨a,b,r,hc⟩:∃a b r,s.cons=a::b::r:=by
   match h:s.cons with
   |[]=>exact FP
   |[a]=>exact FP
   |a::b::r=>exact⟨a,b,r,rfl⟩
  have db:(!dS s.cons.length 2 12||decide (8<(s.bW.length:Int)))=false:=by simp[dS];omega
  simp+contextual only[go_sem,db,hc]
  have C6:kU s=if(!mM a fB|| !mM b tB)=true then false else match cB s.cons []with
   |none=>false
   |some l=>(cB s.bW l).isSome:=by
   unfold kU
   rw[if_neg (by rw[db];exact Bool.false_ne_true),hc]
   dsimp only
   rfl
  refine ao (fun h2=> ?_) (fun h2=> ?_)
  ·refine cM ?_
   have eO:(!mM a fB|| !mM b tB)=true:=h2
   rw[C6,if_pos eO]
  ·simp+contextual only[go_sem,hc]
   have hl:(a::b::r).length<=1000:=by rw[<- hc];omega
   have xi:=GS (a::b::r) [] hl aH (by rw[<- hc];exact hs.nc)
   simp only[List.map_cons,List.map_nil]at xi
   refine bw xi ?_
   have eO:(!mM a fB|| !mM b tB)=false:=h2
   rw[C6,if_neg (by rw[eO];exact Bool.false_ne_true),hc]
   cases hn:cB (a::b::r) []with
   |none=>simp+contextual only[go_sem,hn]
   |some B=>
    refine kG hn ?_
    have hB:B.length<=1000:=by
     have:=IA hn
     rw[this];simp at hl|-;omega
    have ae5:=GS s.bW B af hB hs.nf
    refine bw ae5 ?_
    simp+contextual only[go_sem]
theorem D5{l:List ef}{n:Int}{x:ef}(h:l[n.toNat]? =some x):iw l n=x.args:=by simp[iw,h]
theorem FR{l:List ef}{n:Int}(h:dS n 0 (l.length - 1)=true):0<=n/\∃x,l[n.toNat]? =some x:=by
 simp[dS]at h
 exact⟨h.1,l[n.toNat]'af,aH⟩
theorem V6(s:aF)(t:Tm)(hs:s.Fits)(ht:t.kids.length<=9223372036854775807):aV Tryz.prog 127 [s.d,t.d] (.ret [.bool (bB s t)]):=by
 refine aV.aG mix abC aH ?_
 rw[abB]
 refine cM ?_
 rcases(by omega:t.op=1\/t.op=2\/t.op=3\/t.op=4\/t.op=5\/t.op=8\/(t.op=6\/t.op=7\/t.op=9\/t.op=10\/t.op=11\/t.op=12\/t.op=13\/t.op=14\/t.op=15)\/(t.op<1\/15<t.op))with h|h|h|h|h|h|h|h
 ·have hn:bB s t=((t.kids.length:Int)==0&&dS t.n 0 19):=by simp[bB,h]
  refine kG h ?_
  refine iu (gz [.bool (dS t.n 0 19)] ?_ ?_)
  ·refine cM ?_
   exact FN
  refine kG h ?_
  rw[hn]
 ·have hn:bB s t=((t.kids.length:Int)==0&&dS t.n (-1000000) 1000000):=by simp[bB,h]
  refine kG h ?_
  refine iu (gz [.bool (dS t.n (-1000000) 1000000)] ?_ ?_)
  ·refine cM ?_
   exact FN
  refine kG h ?_
  rw[hn]
 ·have hn:bB s t=(dS t.n 0 (s.cons.length - 1)&&(t.kids.length:Int)==iw s.cons t.n):=by simp[bB,h]
  refine kG h ?_
  rw[wrap64 (by have:=hs.lc;omega) (by have:=hs.lc;omega)]
  refine ak (Hz _ _ _) rfl ?_
  cases hI:dS t.n 0 (s.cons.length - 1)with
  |false=>
   exact TP
  |true=>
   exact TD
 ·have hn:bB s t=(dS t.n 0 (s.bW.length - 1)&&(t.kids.length:Int)==iw s.bW t.n):=by simp[bB,h]
  refine kG h ?_
  rw[wrap64 (by have:=hs.lf;omega) (by have:=hs.lf;omega)]
  refine ak (Hz _ _ _) rfl ?_
  cases hI:dS t.n 0 (s.bW.length - 1)with
  |false=>
   exact TP
  |true=>
   exact TD
 ·have hn:bB s t=(dS t.n 0 (s.bW.length - 1)&&decide ((t.kids.length:Int)<iw s.bW t.n)):=by simp[bB,h]
  refine kG h ?_
  rw[wrap64 (by have:=hs.lf;omega) (by have:=hs.lf;omega)]
  refine ak (Hz _ _ _) rfl ?_
  cases hI:dS t.n 0 (s.bW.length - 1)with
  |false=>
   exact TP
  |true=>
   exact TD
 ·have hn:bB s t=((t.kids.length:Int)==2&&dS t.n 0 19):=by simp[bB,h]
  refine kG h ?_
  refine iu (gz [.bool (dS t.n 0 19)] ?_ ?_)
  ·refine cM ?_
   exact FN
  refine kG h ?_
  rw[hn]
 ·have hn:bB s t=((t.kids.length:Int)==2&&t.n==0):=by
   rcases h with h|h|h|h|h|h|h|h|h<;>simp[bB,h,dS]
  rw[hn]
  rcases h with h|h|h|h|h|h|h|h|h<;>simp+contextual only[go_sem,h]
 ·have hn:bB s t=false:=by
   simp[bB,dS,show ¬ (t.op=1) by omega,show ¬ (t.op=2) by omega,show ¬ (t.op=3) by omega,show ¬ (t.op=4) by omega,show ¬ (t.op=5) by omega,show ¬ (t.op=8) by omega,show ¬ (6<=t.op/\t.op<=15) by omega]
  have e:∀k:Int,1<=k->k<=15->(t.op==k)=false:=fun k h1 h2=>by simp;omega
  simp+contextual only[go_sem,e 1 (by omega) (by omega),e 2 (by omega) (by omega),e 3 (by omega) (by omega),e 4 (by omega) (by omega),e 5 (by omega) (by omega),e 6 (by omega) (by omega),e 7 (by omega) (by omega),e 8 (by omega) (by omega),e 9 (by omega) (by omega),e 10 (by omega) (by omega),e 11 (by omega) (by omega),e 12 (by omega) (by omega),e 13 (by omega) (by omega),e 14 (by omega) (by omega),e 15 (by omega) (by omega)]
  rw[hn]
theorem lH(s:aF)(t:Tm):iy s t=(bB s t&&t.kids.all (iy s)):=by
 have:∀l:List Tm,uz s l=l.all (iy s):=fun l=>by
  induction l with
  |nil=>rfl
  |cons k l ih=>simp[uz,ih]
 cases t;simp[iy,this,Tm.kids]
theorem lI{α:Type}{l:List α}{p:α->Bool}{k:Nat}{x:α}(hx:l[k]? =some x)(h:p x=false):l.all p=false:=by
 rw[List.all_eq_false];exact⟨x,List.mem_of_getElem? hx,by rw[h];exact Bool.false_ne_true⟩
theorem nM{α:Type}{l:List α}{p:α->Bool}{k:Nat}{x:α}(hx:l[k]? =some x)(h0:(l.take k).all p=true)(h:p x=true):(l.take (k+1)).all p=true:=by
 rw[List.take_add_one,hx,List.all_append,h0];simp[h]
theorem nN{α:Type}{l:List α}{p:α->Bool}{k:Nat}(h0:(l.take k).all p=true)(h:l.length<=k):l.all p=true:=by
 rwa [List.take_of_length_le h]at h0
theorem aA{α:Type}{l:List α}{k:Nat}(h:k<l.length):∃x,l[k]? =some x:=⟨l[k],by simp[h]⟩
@[reducible] def aF.row (s:aF):List V:=[.d (.sl (s.cons.map ef.d)), .d (.sl (s.bW.map ef.d))]
theorem OM(s:aF)(hs:s.Fits):∀t:Tm,t.fits->aV Tryz.prog 94 [s.d,t.d] (.ret [.bool (iy s t)]):=by
 refine Tm.eY fun t ih hf=> ?_
 have xF:=(Tm.bT _).1 hf
 refine aV.aG mix ae2 aH ?_
 rw[c94]
 refine cM ?_
 refine ak (V6 s t hs xF.1) rfl ?_
 refine cM ?_
 rw[lH]
 refine ao (fun h1=> ?_) (fun h1=> ?_)
 ·refine cM ?_
  simp at h1;simp[h1]
 ·simp at h1
  rw[h1,Bool.true_and]
  refine cM ?_
  refine aC (fun k:Nat=>⟨aY [.ad, .ad, .ptr 0 0, .ptr 1 0, .ad, .d (.i k)],EZ s.row t.row,2⟩)
   (fun k=>k<=t.kids.length/\(t.kids.take k).all (iy s)=true) (fun k=>t.kids.length - k) 0 ⟨Nat.zero_le _,aH⟩ (bH.d2 _ (kC rfl rfl) af rfl rfl ?_) (fun k hk=> ?_)
  ·exact dC
  refine cM ?_
  refine ao (fun h2=> ?_) (fun h2=> ?_)
  ·simp at h2
   obtain⟨x,hx⟩:=aA h2
   have cy:=List.mem_of_getElem? hx
   refine kG hx ?_
   refine aZ (ih x cy (xF.2 x cy)) rfl ?_
   refine cM ?_
   refine aE bD ?_
   refine cM ?_
   refine ao (fun h3=> ?_) (fun h3=> ?_)
   ·refine cM ?_
    simp at h3
    rw[lI hx h3]
   ·refine cM ?_
    simp at h3
    refine aj (k+1) ⟨h2,nM hx hk.2 h3⟩ af (bH.d2 _ (kC rfl rfl) af rfl rfl ?_)
    exact dC
  ·refine cM ?_
   simp at h2
   rw[nN hk.2 h2]
theorem V7(s:aF)(hs:s.Fits)(t:Tm)(hf:t.fits):aV Tryz.prog 43 [s.d,t.d] (.ret [.bool (gA s t)]):=by
 refine aV.aG mix aeF aH ?_
 rw[c43]
 refine cM ?_
 refine ak (GR t hf 40 12 af af) rfl ?_
 refine cM ?_
 refine iu (gz [.bool (iy s t)] ?_ ?_)
 ·refine cM ?_
  exact fun _=>OM s hs t hf
 refine cM ?_
 rfl
theorem sI(t:Tm):eZ t=(t.kids.all eZ&&((decide (1<=t.op)&&decide (t.op<=3))||t.op==5)):=by
 have:∀l:List Tm,uA l=l.all eZ:=fun l=>by
  induction l with
  |nil=>rfl
  |cons k l ih=>simp[uA,ih]
 cases t;simp only[eZ,this,Tm.kids,Tm.op];rfl
theorem ON:∀t:Tm,t.fits->aV Tryz.prog 92 [t.d] (.ret [.bool (eZ t)]):=by
 refine Tm.eY fun t ih hf=> ?_
 have xF:=(Tm.bT _).1 hf
 refine aV.aG mix ae0 aH ?_
 rw[c92,sI]
 refine cM ?_
 refine aC (fun k:Nat=>⟨aY [.ad, .ptr 0 0, .ad, .d (.i k)],nL t.row,1⟩)
  (fun k=>k<=t.kids.length/\(t.kids.take k).all eZ=true) (fun k=>t.kids.length - k) 0 ⟨Nat.zero_le _,aH⟩ (bH.d1 _ (cc rfl) af rfl ?_) (fun k hk=> ?_)
 ·exact dC
 refine cM ?_
 refine ao (fun h2=> ?_) (fun h2=> ?_)
 ·simp at h2
  obtain⟨x,hx⟩:=aA h2
  have cy:=List.mem_of_getElem? hx
  refine kG hx ?_
  refine ak (ih x cy (xF.2 x cy)) rfl ?_
  refine cM ?_
  refine ao (fun h3=> ?_) (fun h3=> ?_)
  ·refine cM ?_
   simp at h3
   rw[lI hx h3];rfl
  ·refine cM ?_
   simp at h3
   refine aj (k+1) ⟨h2,nM hx hk.2 h3⟩ af (bH.d1 _ (cc rfl) af rfl ?_)
   exact dC
 ·refine cM ?_
  simp at h2
  rw[nN hk.2 h2];rfl
theorem iA:∀l l':List Tm,l.length=l'.length->(iz l l'=true↔∀ (i:Nat) (x y:Tm),l[i]? =some x->l'[i]? =some y->hO x y=true)
 |[],l',_=>by simp[iz]
 |k::l,k'::l',h=>by
  simp only[iz,Bool.and_eq_true]
  rw[iA l l' (by simpa using h)]
  constructor
  ·rintro⟨h1,h2⟩ i x y hx hy
   cases i with
   |zero=>simp at hx hy;subst hx;subst hy;exact h1
   |succ i=>exact h2 i x y xX (by simpa using hy)
  ·intro h3
   exact⟨h3 0 k k' rfl rfl,fun i x y hx hy=>h3 (i+1) x y xX (by simpa using hy)⟩
 |_::_,[],h=>by simp at h
theorem qU(a b:Tm):hO a b=(a.op==b.op&&a.n==b.n&&a.kids.length==b.kids.length&&iz a.kids b.kids):=by cases a;cases b;simp[hO,Tm.op,Tm.n,Tm.kids]
theorem wo:∀a:Tm,a.fits->∀b:Tm,b.fits->aV Tryz.prog 40 [a.d,b.d] (.ret [.bool (hO a b)]):=by
 refine Tm.eY fun t ih hf b hb=> ?_
 have xF:=(Tm.bT _).1 hf
 have ya:=(Tm.bT _).1 hb
 refine aV.aG mix aa4 aH ?_
 rw[c40,qU]
 refine cM ?_
 refine ao (fun h1=> ?_) (fun h1=> ?_)
 ·refine cM ?_
  have:(t.op==b.op&&t.n==b.n&&t.kids.length==b.kids.length)=false:=by
   rw[Bool.eq_false_iff]
   intro h
   simp at h
   simp[h]at h1
  rw[this];rfl
 ·have db:t.op=b.op/\t.n=b.n/\t.kids.length=b.kids.length:=by
   simp at h1
   refine⟨h1.1.1,h1.1.2,by have:=h1.2;omega⟩
  rw[show(t.op==b.op&&t.n==b.n&&t.kids.length==b.kids.length)=true by simp[db],Bool.true_and]
  have hl:=db.2.2
  refine cM ?_
  refine aC (fun k:Nat=>⟨aY [.ad, .ad, .ptr 0 0, .ptr 1 0, .ad, .d (.i k)],EZ t.row b.row,2⟩)
   (fun k=>k<=t.kids.length/\∀i,i<k->∀x y,t.kids[i]? =some x->b.kids[i]? =some y->hO x y=true) (fun k=>t.kids.length - k) 0 ⟨Nat.zero_le _,fun i h=>af⟩ (bH.d2 _ (kC rfl rfl) af rfl rfl ?_) (fun k hk=> ?_)
  ·exact dC
  refine cM ?_
  refine ao (fun h2=> ?_) (fun h2=> ?_)
  ·simp at h2
   obtain⟨x,hx⟩:=aA h2
   obtain⟨y,hy⟩:=aA (l:=b.kids) (k:=k) af
   have cy:=List.mem_of_getElem? hx
   have OO:=List.mem_of_getElem? hy
   simp+contextual only[go_sem,hx,hy]
   refine aZ (ih x cy (xF.2 x cy) y (ya.2 y OO)) rfl ?_
   refine cM ?_
   refine aE bD ?_
   refine cM ?_
   refine ao (fun h3=> ?_) (fun h3=> ?_)
   ·refine cM ?_
    simp at h3
    have:iz t.kids b.kids=false:=by
     rw[Bool.eq_false_iff]
     intro h
     have:=(iA _ _ hl).1 h k x y hx hy
     rw[h3]at this;cases this
    rw[this]
   ·refine cM ?_
    simp at h3
    refine aj (k+1) ⟨h2,fun i hi u v hu hv=> ?_⟩ af (bH.d2 _ (kC rfl rfl) af rfl rfl ?_)
    ·by_cases e:i=k
     ·subst e
      rw[hx]at hu;rw[hy]at hv
      exact Qh
     ·exact hk.2 i af u v hu hv
    ·exact dC
  ·refine cM ?_
   simp at h2
   have:iz t.kids b.kids=true:=(iA _ _ hl).2 fun i x y hx hy=>hk.2 i (by have:=(List.getElem?_eq_some_iff.1 hx).1;omega) x y hx hy
   rw[this]
theorem qV(t:Tm)(hf:t.fits):aV Tryz.prog 61 [t.d] (.ret [.bool (eg t)]):=by
 refine aV.aG mix aeN aH ?_
 rw[c61]
 refine cM ?_
 refine ak (GR t hf 50 14 af af) rfl ?_
 refine cM ?_
 rfl
theorem E0(s:aF)(hs:s.Fits):aV Tryz.prog 78 [s.d] (.ret [.bool (ju s)]):=by
 refine aV.aG mix aeV aH ?_
 rw[c78]
 refine cM ?_
 refine ao (fun h1=> ?_) (fun h1=> ?_)
 ·refine cM ?_
  simp only[ju,h1];rfl
 ·have e:ju s=(fR s.cons&&fR s.bW):=by simp only[ju,h1];rfl
  rw[e]
  simp at h1
  refine cM ?_
  refine aC (fun k:Nat=>⟨aY [.ad, .ptr 0 0, .ad, .d (.i k)],nL s.row,1⟩)
   (fun k=>k<=s.cons.length/\fR (s.cons.take k)=true) (fun k=>s.cons.length - k) 0 ⟨Nat.zero_le _,by simp[fR]⟩ (bH.d1 _ (cc rfl) af rfl ?_) (fun k hk=> ?_)
  ·exact dC
  refine cM ?_
  refine ao (fun h2=> ?_) (fun h2=> ?_)
  ·simp at h2
   obtain⟨x,hx⟩:=aA h2
   refine kG hx ?_
   refine ao (fun h3=> ?_) (fun h3=> ?_)
   ·refine cM ?_
    rw[show fR s.cons=false from lI hx (by simpa using h3)];rfl
   ·refine cM ?_
    refine aj (k+1) ⟨h2,nM hx hk.2 (by simpa using h3)⟩ af (bH.d1 _ (cc rfl) af rfl ?_)
    exact dC
  ·simp at h2
   rw[show fR s.cons=true from nN hk.2 h2,Bool.true_and]
   refine cM ?_
   refine aC (fun k:Nat=>⟨aY [.ad, .ptr 0 0, .ad, .ad, .d (.i k)],nL s.row,1⟩)
    (fun k=>k<=s.bW.length/\fR (s.bW.take k)=true) (fun k=>s.bW.length - k) 0 ⟨Nat.zero_le _,by simp[fR]⟩ (bH.d1 _ (cc rfl) af rfl ?_) (fun k hk=> ?_)
   ·exact dC
   refine cM ?_
   refine ao (fun h4=> ?_) (fun h4=> ?_)
   ·simp at h4
    obtain⟨x,hx⟩:=aA h4
    refine kG hx ?_
    refine ao (fun h3=> ?_) (fun h3=> ?_)
    ·refine cM ?_
     rw[show fR s.bW=false from lI hx (by simpa using h3)]
    ·refine cM ?_
     refine aj (k+1) ⟨h4,nM hx hk.2 (by simpa using h3)⟩ af (bH.d1 _ (cc rfl) af rfl ?_)
     exact dC
   ·simp at h4
    rw[show fR s.bW=true from nN hk.2 h4]
    simp+contextual only[go_sem]
end Go.Proofs.YtlhemmpklhhgoaaGreat
