/-
  A PART OF THE PROOF. Conditions: none.
-/
import Derived.Test.YtlhemmpklhhgoaaGreatRows
import Derived.Shelf.SlMaps.Clone
import Derived.Test.YtlhemmpklhhgoaaGreatQo13
set_option linter.unusedSimpArgs false
set_option linter.unusedVariables false
section
namespace Go.Proofs.YtlhemmpklhhgoaaGreat
open Go.Shelf
def FA:Go.Shelf.Ren:=⟨fun|5=>100|7=>130|n=>n,fun|23=>93|25=>3|3=>33|4=>4|20=>20|n=>n,fun|n=>n⟩
theorem Yg:Go.Proofs.SlLaysW.n5 Tryz.prog FA:={
 mixed:=ai
 f5:=⟨Tryz.f100.name,bF,Tryz.func100.trans (congrArg some ai)⟩
 f7:=Tryz.func130.trans (congrArg some ai)
 t4:=Tryz.underlying4
 a4:=Tryz.isAgg4
 z4:=Tryz.sizeOf4
 v4:=Tryz.zeroValue4
 t20:=Tryz.underlying20
 a20:=Tryz.isAgg20
 z20:=Tryz.sizeOf20
 v20:=Tryz.zeroValue20
 t23:=Tryz.underlying93
 a23:=Tryz.isAgg93
 z23:=Tryz.sizeOf93
 v23:=Tryz.zeroValue93}
theorem Nb:Hn Tryz.prog 100:=⟨⟨_,Tryz.func100,ai,ai⟩,fun w b es clock hb=>AnyW.maps_Clone Yg b es clock w hb⟩
end Go.Proofs.YtlhemmpklhhgoaaGreat
end
namespace Go.Proofs.YtlhemmpklhhgoaaGreat
theorem mix:Tryz.prog.follows .mixedOrders=true:=ai
def zn:Tr FD:= .e fun _=> .no
theorem zt{f:Nat->Nat}:Tr.HD (fun(g:Nat) (d:FD)=>d.Ok Tryz.prog g) zn f:=fun _=>trivial
def aey:Tr FD:=
 (.n .no (.n .no (.n .no (.n .no (.n (.fn 34 c15 [.cell 6 29, .tmp 7]) (.n .no (.n (.fn 27 c63 [.cell 6 95, .tmp 7]) zn (.n (.fn 15 aeq [.tmp 6]) zn zn)) (.n .no (.n (.fn 4 XS [.tmp 2]) zn zn) zn)) (.n (.fn 9 c47 [.cell 4 33]) (.n (.fn 167 c79 [.cell 2 95, .tmp 3]) zn zn) (.n (.fn 4 XB [.tmp 2]) (.n (.fn 49 adY []) zn zn) zn))) (.n .no (.n .no (.n .no (.n (.fn 11 adH []) zn zn) (.n (.fn 14 Ye [.tmp 4]) zn zn)) (.n (.fn 133 Xt []) (.n (.fn 8 XZ [.tmp 3]) zn zn) zn)) (.n .no zn (.n (.fn 46 XC [.tmp 2]) (.n (.fn 168 aee [.tmp 8, .tmp 9]) zn zn) zn)))) (.n .no (.n .no (.n (.fn 40 c35 [.tmp 6, .tmp 7]) (.n (.fn 45 c67 [.tmp 2, .tmp 3]) zn (.n (.fn 14 Ya [.tmp 4]) zn zn)) (.n (.fn 22 c99 [.tmp 4]) (.n (.fn 8 adW [.tmp 2]) zn zn) zn)) (.n (.fn 6 c51 [.cell 2 33]) (.n .no (.n (.fn 18 XO [.tmp 4]) zn zn) zn) (.n .no (.n (.fn 32 ad6 []) zn zn) zn))) (.n .no (.n .no zn (.n (.fn 6 Xx [.cell 2 33]) (.n (.fn 39 X2 [.cell 4 4]) zn zn) zn)) (.n .no (.n (.fn 35 c91 [.tmp 8]) zn zn) (.n .no (.n (.fn 19 X8 [.cell 0 210]) zn zn) zn))))) (.n .no (.n .no (.n .no (.n .no (.n (.fn 66 c65 [.cell 2 29]) (.n (.fn 32 XG [.tmp 4, .tmp 5, .tmp 6]) zn zn) (.n (.fn 6 aeu [.tmp 2]) zn zn)) (.n .no (.n (.fn 13 XU [.tmp 4]) zn zn) zn)) (.n (.fn 10 c49 [.cell 0 29]) (.n .no (.n (.fn 28 XM [.tmp 2]) zn zn) zn) (.n .no (.n (.fn 65 ad2 []) zn zn) zn))) (.n (.fn 46 c25 [.tmp 4]) (.n .no (.n (.fn 33 c73 [.tmp 4]) zn (.n (.fn 28 aew [.tmp 8, .tmp 9]) zn zn)) (.n (.fn 8 Xv [.tmp 2]) (.n (.fn 18 X0 [.tmp 4]) zn zn) zn)) (.n .no zn (.n (.fn 15 XF [.tmp 2]) (.n (.fn 25 aei [.tmp 2]) zn zn) zn)))) (.n .no (.n (.fn 70 c21 [.tmp 4]) (.n .no (.n (.fn 9 c69 [.tmp 2]) (.n (.fn 32 XI [.tmp 6]) zn zn) (.n (.fn 27 Yc [.tmp 4]) zn zn)) (.n (.dfr 6 M7 Xr 131 3 [.tmp 2] [.cell 2 36] 14 5 5 M5) (.n (.fn 17 XX [.tmp 4]) zn zn) zn)) (.n .no (.n (.fn 8 c85 [.cell 4 33]) (.n (.fn 4 XQ [.tmp 2]) zn zn) zn) (.n .no (.n (.fn 17 aea [.tmp 4]) zn zn) zn))) (.n .no (.n .no zn (.n (.fn 17 Xz []) (.n (.fn 17 X5 [.tmp 6]) zn zn) zn)) (.n .no zn (.n .no (.n (.fn 7 aem [.tmp 2]) zn zn) zn)))))) (.n .no (.n .no (.n .no (.n (.fn 62 c16 [.cell 6 29, .tmp 7]) (.n .no (.n (.fn 45 c64 [.cell 6 95, .tmp 7]) zn (.n (.fn 36 aes [.tmp 10]) zn zn)) (.n .no (.n (.fn 16 XT [.cell 2 4]) zn zn) zn)) (.n (.fn 5 c48 [.cell 2 33]) (.n (.fn 5 c80 [.cell 2 33]) (.n (.fn 24 XL [.tmp 3]) zn zn) zn) (.n (.fn 21 QN [.cell 4 33]) (.n (.fn 56 ad0 []) zn zn) zn))) (.n (.fn 94 c24 [.cell 2 43, .tmp 3]) (.n (.fn 46 c40 [.tmp 4]) (.n .no (.n (.fn 14 XK []) zn zn) (.n (.fn 14 Yf [.tmp 4]) zn zn)) (.n (.fn 9 Xu [.tmp 2]) zn zn)) (.n .no (.n (.fn 9 c88 [.tmp 4]) zn zn) (.n (.fn 14 XE [.tmp 6]) (.n (.fn 19 aeg [.tmp 2]) zn zn) zn)))) (.n .no (.n .no (.n .no (.n (.fn 33 c68 [.cell 4 33]) (.n (.fn 47 XH []) zn zn) (.n (.fn 27 Yb [.tmp 4]) zn zn)) (.n .mpc (.n (.fn 8 XW []) zn zn) zn)) (.n (.fn 2 c52 [.cell 0 33]) (.n .no (.n (.fn 34 XP [.cell 6 4]) zn zn) zn) (.n .no (.n (.fn 133 ad8 [.tmp 6]) zn zn) zn))) (.n .no (.n .no zn (.n (.fn 24 Xy [.tmp 4]) (.n (.fn 8 X4 []) zn zn) zn)) (.n (.fn 42 c60 [.tmp 4]) zn (.n .no (.n (.fn 76 aek []) zn zn) zn))))) (.n .no (.n .no (.n .no (.n .no (.n (.fn 16 c66 [.tmp 4]) zn (.n (.fn 14 X9 [.tmp 4]) zn zn)) (.n .no (.n (.fn 134 adU []) zn zn) zn)) (.n (.fn 2 c50 [.cell 0 33]) (.n .no (.n (.fn 15 XN [.tmp 6]) zn zn) zn) (.n .no (.n (.fn 57 ad4 [.tmp 6, .tmp 7]) zn zn) zn))) (.n .no (.n .no (.n (.fn 50 c74 [.tmp 4]) zn zn) (.n (.fn 8 Xw [.tmp 2]) (.n (.fn 7 X1 [.tmp 3]) zn zn) zn)) (.n .no zn (.n .no (.n (.fn 19 X7 [.tmp 4]) zn zn) zn)))) (.n (.fn 101 c14 [.tmp 0]) (.n .no (.n .no (.n .no (.n (.fn 5 XJ [.tmp 2]) zn zn) (.n (.fn 27 Yd [.tmp 4]) zn zn)) (.n (.fn 7 Xs []) (.n (.fn 9 XY [.tmp 4]) zn zn) zn)) (.n .no zn (.n .no (.n (.fn 84 aec [.tmp 8]) zn zn) zn))) (.n .no (.n (.fn 10 c46 [.cell 0 29]) zn (.n (.fn 9 XA [.tmp 2]) (.n (.fn 10 X6 [.tmp 4]) zn zn) zn)) (.n (.fn 12 c62 [.cell 0 24]) (.n .no (.n (.fn 13 XR [.tmp 4]) zn zn) zn) (.n (.fn 19 QO [.tmp 4]) (.n (.fn 33 aeo [.tmp 2]) zn zn) zn)))))))
noncomputable def tab:Nat->FD:=aey.get
theorem hU:∀g,(tab g).Ok Tryz.prog g:=
 Tr.A2 (p:=fun g d=>d.Ok Tryz.prog g) (f:=fun g=>g) aey
   ⟨trivial,⟨trivial,⟨trivial,⟨trivial,⟨ac4,⟨trivial,⟨ada,zt,⟨aer,zt,zt⟩⟩,⟨trivial,⟨UE,zt,zt⟩,zt⟩⟩,⟨agB,⟨adl,zt,zt⟩,⟨Uo,⟨adZ,zt,zt⟩,zt⟩⟩⟩,⟨trivial,⟨trivial,⟨trivial,⟨adI,zt,zt⟩,⟨UZ,zt,zt⟩⟩,⟨Ug,⟨UK,zt,zt⟩,zt⟩⟩,⟨trivial,zt,⟨Up,⟨aef,zt,zt⟩,zt⟩⟩⟩⟩,⟨trivial,⟨trivial,⟨agv,⟨adg,zt,⟨UU,zt,zt⟩⟩,⟨adq,⟨adX,zt,zt⟩,zt⟩⟩,⟨agE,⟨trivial,⟨UA,zt,zt⟩,zt⟩,⟨trivial,⟨ad7,zt,zt⟩,zt⟩⟩⟩,⟨trivial,⟨trivial,zt,⟨Uk,⟨UN,zt,zt⟩,zt⟩⟩,⟨trivial,⟨adp,zt,zt⟩,⟨trivial,⟨US,zt,zt⟩,zt⟩⟩⟩⟩⟩,⟨trivial,⟨trivial,⟨trivial,⟨trivial,⟨ade,⟨Us,zt,zt⟩,⟨aev,zt,zt⟩⟩,⟨trivial,⟨UG,zt,zt⟩,zt⟩⟩,⟨agC,⟨trivial,⟨Uy,zt,zt⟩,zt⟩,⟨trivial,⟨ad3,zt,zt⟩,zt⟩⟩⟩,⟨agp,⟨trivial,⟨adj,zt,⟨aex,zt,zt⟩⟩,⟨Ui,⟨UL,zt,zt⟩,zt⟩⟩,⟨trivial,zt,⟨Ur,⟨aej,zt,zt⟩,zt⟩⟩⟩⟩,⟨trivial,⟨ac6,⟨trivial,⟨adi,⟨Uu,zt,zt⟩,⟨UX,zt,zt⟩⟩,⟨⟨M8,M6⟩,⟨UI,zt,zt⟩,zt⟩⟩,⟨trivial,⟨ado,⟨UC,zt,zt⟩,zt⟩,⟨trivial,⟨aeb,zt,zt⟩,zt⟩⟩⟩,⟨trivial,⟨trivial,zt,⟨Um,⟨UP,zt,zt⟩,zt⟩⟩,⟨trivial,zt,⟨trivial,⟨aen,zt,zt⟩,zt⟩⟩⟩⟩⟩⟩,⟨trivial,⟨trivial,⟨trivial,⟨ac5,⟨trivial,⟨adb,zt,⟨aet,zt,zt⟩⟩,⟨trivial,⟨UF,zt,zt⟩,zt⟩⟩,⟨ac8,⟨adm,⟨Ux,zt,zt⟩,zt⟩,⟨M9,⟨ad1,zt,zt⟩,zt⟩⟩⟩,⟨ago,⟨ac7,⟨trivial,⟨Uw,zt,zt⟩,⟨U0,zt,zt⟩⟩,⟨Uh,zt,zt⟩⟩,⟨trivial,⟨Xq,zt,zt⟩,⟨Uq,⟨aeh,zt,zt⟩,zt⟩⟩⟩⟩,⟨trivial,⟨trivial,⟨trivial,⟨adh,⟨Ut,zt,zt⟩,⟨UW,zt,zt⟩⟩,⟨Nb,⟨UH,zt,zt⟩,zt⟩⟩,⟨agF,⟨trivial,⟨UB,zt,zt⟩,zt⟩,⟨trivial,⟨ad9,zt,zt⟩,zt⟩⟩⟩,⟨trivial,⟨trivial,zt,⟨Ul,⟨UO,zt,zt⟩,zt⟩⟩,⟨ac9,zt,⟨trivial,⟨ael,zt,zt⟩,zt⟩⟩⟩⟩⟩,⟨trivial,⟨trivial,⟨trivial,⟨trivial,⟨adf,zt,⟨UT,zt,zt⟩⟩,⟨trivial,⟨adV,zt,zt⟩,zt⟩⟩,⟨agD,⟨trivial,⟨Uz,zt,zt⟩,zt⟩,⟨trivial,⟨ad5,zt,zt⟩,zt⟩⟩⟩,⟨trivial,⟨trivial,⟨adk,zt,zt⟩,⟨Uj,⟨UM,zt,zt⟩,zt⟩⟩,⟨trivial,zt,⟨trivial,⟨UR,zt,zt⟩,zt⟩⟩⟩⟩,⟨agl,⟨trivial,⟨trivial,⟨trivial,⟨Uv,zt,zt⟩,⟨UY,zt,zt⟩⟩,⟨Uf,⟨UJ,zt,zt⟩,zt⟩⟩,⟨trivial,zt,⟨trivial,⟨aed,zt,zt⟩,zt⟩⟩⟩,⟨trivial,⟨agA,zt,⟨Un,⟨UQ,zt,zt⟩,zt⟩⟩,⟨agH,⟨trivial,⟨UD,zt,zt⟩,zt⟩,⟨Na,⟨aep,zt,zt⟩,zt⟩⟩⟩⟩⟩⟩⟩
end Go.Proofs.YtlhemmpklhhgoaaGreat
namespace Go.Proofs.YtlhemmpklhhgoaaGreat
@[go_sem] theorem cellsOf_3:Tryz.prog.cellsOf 3=1:=ai
@[go_sem] theorem bytesOf_3:Tryz.prog.bytesOf 3=8:=ai
@[go_sem] theorem aggT_3:dg Tryz.prog 3=some false:=ai
@[go_sem] theorem intT_3:oW Tryz.prog 3=some .i64:=ai
@[go_sem] theorem infoT_3:(Tryz.prog.info? 3).isSome=true:=ai
@[go_sem] theorem undT_3:Tryz.prog.underlying 3=some (.int .i64):=ai
@[go_sem] theorem eqShape_3:bO Tryz.prog 3=some .int:=ai
@[go_sem] theorem zeroT_3:cB Tryz.prog 3=some [.d (.int .i64 0)]:=ai
@[go_sem] theorem cellsOf_4:Tryz.prog.cellsOf 4=1:=ai
@[go_sem] theorem aggT_4:dg Tryz.prog 4=some false:=ai
@[go_sem] theorem isBoolT_4:mq Tryz.prog 4=true:=ai
@[go_sem] theorem infoT_4:(Tryz.prog.info? 4).isSome=true:=ai
@[go_sem] theorem undT_4:Tryz.prog.underlying 4=some .bool:=ai
@[go_sem] theorem zeroT_4:cB Tryz.prog 4=some [.d (.bool false)]:=ai
@[go_sem] theorem zeroV_4:zeroV Tryz.prog 4=some (.d (.bool false)):=ai
@[go_sem] theorem cellsOf_5:Tryz.prog.cellsOf 5=1:=ai
@[go_sem] theorem aggT_5:dg Tryz.prog 5=some false:=ai
@[go_sem] theorem undT_5:Tryz.prog.underlying 5=some (.int .u8):=ai
@[go_sem] theorem cellsOf_9:Tryz.prog.cellsOf 9=1:=ai
@[go_sem] theorem bytesOf_9:Tryz.prog.bytesOf 9=16:=ai
@[go_sem] theorem aggT_9:dg Tryz.prog 9=some false:=ai
@[go_sem] theorem undT_9:Tryz.prog.underlying 9=some .string:=ai
@[go_sem] theorem eqShape_9:bO Tryz.prog 9=some .str:=ai
@[go_sem] theorem zeroT_9:cB Tryz.prog 9=some [.d (.str [])]:=ai
@[go_sem] theorem sliceT_22:bV Tryz.prog 22=some 124:=ai
@[go_sem] theorem aggT_22:dg Tryz.prog 22=some false:=ai
@[go_sem] theorem intT_22:oW Tryz.prog 22=none:=ai
@[go_sem] theorem undT_22:Tryz.prog.underlying 22=some (.slice 124):=ai
@[go_sem] theorem cellsOf_24:Tryz.prog.cellsOf 24=2:=ai
@[go_sem] theorem aggT_24:dg Tryz.prog 24=some true:=ai
@[go_sem] theorem zeroT_24:cB Tryz.prog 24=some [.ax, .ax]:=ai
@[go_sem] theorem placesT_24:cV Tryz.prog 24=some [(0,1),(1,1)]:=ai
@[go_sem] theorem cellsOf_25:Tryz.prog.cellsOf 25=1:=ai
@[go_sem] theorem sliceT_25:bV Tryz.prog 25=some 59:=ai
@[go_sem] theorem aggT_25:dg Tryz.prog 25=some false:=ai
@[go_sem] theorem intT_25:oW Tryz.prog 25=none:=ai
@[go_sem] theorem infoT_25:(Tryz.prog.info? 25).isSome=true:=ai
@[go_sem] theorem undT_25:Tryz.prog.underlying 25=some (.slice 59):=ai
@[go_sem] theorem zeroT_25:cB Tryz.prog 25=some [.ax]:=ai
@[go_sem] theorem cellsOf_26:Tryz.prog.cellsOf 26=1:=ai
@[go_sem] theorem sliceT_26:bV Tryz.prog 26=some 101:=ai
@[go_sem] theorem aggT_26:dg Tryz.prog 26=some false:=ai
@[go_sem] theorem intT_26:oW Tryz.prog 26=none:=ai
@[go_sem] theorem infoT_26:(Tryz.prog.info? 26).isSome=true:=ai
@[go_sem] theorem undT_26:Tryz.prog.underlying 26=some (.slice 101):=ai
@[go_sem] theorem sliceT_27:bV Tryz.prog 27=some 77:=ai
@[go_sem] theorem aggT_27:dg Tryz.prog 27=some false:=ai
@[go_sem] theorem intT_27:oW Tryz.prog 27=none:=ai
@[go_sem] theorem undT_27:Tryz.prog.underlying 27=some (.slice 77):=ai
@[go_sem] theorem cellsOf_29:Tryz.prog.cellsOf 29=5:=ai
@[go_sem] theorem aggT_29:dg Tryz.prog 29=some true:=ai
@[go_sem] theorem infoT_29:(Tryz.prog.info? 29).isSome=true:=ai
@[go_sem] theorem zeroT_29:cB Tryz.prog 29=some [.ax, .ax, .ax, .ax, .ax]:=ai
@[go_sem] theorem placesT_29:cV Tryz.prog 29=some [(0,2),(2,1),(3,1),(4,1)]:=ai
@[go_sem] theorem aggT_30:dg Tryz.prog 30=some false:=ai
@[go_sem] theorem undT_30:Tryz.prog.underlying 30=some (.int .i64):=ai
@[go_sem] theorem cellsOf_31:Tryz.prog.cellsOf 31=1:=ai
@[go_sem] theorem sliceT_31:bV Tryz.prog 31=some 33:=ai
@[go_sem] theorem aggT_31:dg Tryz.prog 31=some false:=ai
@[go_sem] theorem intT_31:oW Tryz.prog 31=none:=ai
@[go_sem] theorem infoT_31:(Tryz.prog.info? 31).isSome=true:=ai
@[go_sem] theorem undT_31:Tryz.prog.underlying 31=some (.slice 33):=ai
@[go_sem] theorem cellsOf_33:Tryz.prog.cellsOf 33=3:=ai
@[go_sem] theorem bytesOf_33:Tryz.prog.bytesOf 33=40:=ai
@[go_sem] theorem aggT_33:dg Tryz.prog 33=some true:=ai
@[go_sem] theorem infoT_33:(Tryz.prog.info? 33).isSome=true:=ai
@[go_sem] theorem zeroT_33:cB Tryz.prog 33=some [.d (.int .i64 0), .d (.int .i64 0), .ax]:=ai
@[go_sem] theorem zeroV_33:zeroV Tryz.prog 33=some (mQ [.d (.int .i64 0), .d (.int .i64 0), .ax]):=ai
@[go_sem] theorem placesT_33:cV Tryz.prog 33=some [(0,1),(1,1),(2,1)]:=ai
@[go_sem] theorem cellsOf_36:Tryz.prog.cellsOf 36=1:=ai
@[go_sem] theorem aggT_36:dg Tryz.prog 36=some false:=ai
@[go_sem] theorem infoT_36:(Tryz.prog.info? 36).isSome=true:=ai
@[go_sem] theorem zeroT_36:cB Tryz.prog 36=some [.d (.int .i64 0)]:=ai
@[go_sem] theorem sliceT_41:bV Tryz.prog 41=some 25:=ai
@[go_sem] theorem undT_41:Tryz.prog.underlying 41=some (.slice 25):=ai
@[go_sem] theorem sliceT_48:bV Tryz.prog 48=some 53:=ai
@[go_sem] theorem intT_48:oW Tryz.prog 48=none:=ai
@[go_sem] theorem undT_48:Tryz.prog.underlying 48=some (.slice 53):=ai
@[go_sem] theorem sliceT_49:bV Tryz.prog 49=some 5:=ai
@[go_sem] theorem undT_49:Tryz.prog.underlying 49=some (.slice 5):=ai
@[go_sem] theorem cellsOf_53:Tryz.prog.cellsOf 53=7:=ai
@[go_sem] theorem bytesOf_53:Tryz.prog.bytesOf 53=88:=ai
@[go_sem] theorem aggT_53:dg Tryz.prog 53=some true:=ai
@[go_sem] theorem infoT_53:(Tryz.prog.info? 53).isSome=true:=ai
@[go_sem] theorem zeroT_53:cB Tryz.prog 53=some [.d (.int .i64 0), .d (.int .i64 0), .ax, .d (.int .i64 0), .d (.int .i64 0), .ax, .d (.bool false)]:=ai
@[go_sem] theorem cellsOf_59:Tryz.prog.cellsOf 59=4:=ai
@[go_sem] theorem bytesOf_59:Tryz.prog.bytesOf 59=48:=ai
@[go_sem] theorem aggT_59:dg Tryz.prog 59=some true:=ai
@[go_sem] theorem infoT_59:(Tryz.prog.info? 59).isSome=true:=ai
@[go_sem] theorem zeroT_59:cB Tryz.prog 59=some [.d (.int .i64 0), .d (.int .i64 0), .d (.int .i64 0), .ax]:=ai
@[go_sem] theorem placesT_59:cV Tryz.prog 59=some [(0,1),(1,3)]:=ai
@[go_sem] theorem cellsOf_77:Tryz.prog.cellsOf 77=2:=ai
@[go_sem] theorem bytesOf_77:Tryz.prog.bytesOf 77=16:=ai
@[go_sem] theorem aggT_77:dg Tryz.prog 77=some true:=ai
@[go_sem] theorem infoT_77:(Tryz.prog.info? 77).isSome=true:=ai
@[go_sem] theorem zeroT_77:cB Tryz.prog 77=some [.d (.int .i64 0), .d (.int .i64 0)]:=ai
@[go_sem] theorem placesT_77:cV Tryz.prog 77=some [(0,1),(1,1)]:=ai
@[go_sem] theorem cellsOf_90:Tryz.prog.cellsOf 90=1:=ai
@[go_sem] theorem aggT_90:dg Tryz.prog 90=some false:=ai
@[go_sem] theorem infoT_90:(Tryz.prog.info? 90).isSome=true:=ai
@[go_sem] theorem zeroT_90:cB Tryz.prog 90=some [.d .cF]:=ai
@[go_sem] theorem cellsOf_93:Tryz.prog.cellsOf 93=1:=ai
@[go_sem] theorem aggT_93:dg Tryz.prog 93=some false:=ai
@[go_sem] theorem infoT_93:(Tryz.prog.info? 93).isSome=true:=ai
@[go_sem] theorem undT_93:Tryz.prog.underlying 93=some (.map 3 33):=ai
@[go_sem] theorem mapT_93:sA Tryz.prog 93=some (3,33):=ai
@[go_sem] theorem cellsOf_95:Tryz.prog.cellsOf 95=6:=ai
@[go_sem] theorem aggT_95:dg Tryz.prog 95=some true:=ai
@[go_sem] theorem infoT_95:(Tryz.prog.info? 95).isSome=true:=ai
@[go_sem] theorem zeroT_95:cB Tryz.prog 95=some [.ax, .ax, .ax, .ax, .ax, .d .dL]:=ai
@[go_sem] theorem placesT_95:cV Tryz.prog 95=some [(0,5),(5,1)]:=ai
@[go_sem] theorem cellsOf_101:Tryz.prog.cellsOf 101=6:=ai
@[go_sem] theorem bytesOf_101:Tryz.prog.bytesOf 101=80:=ai
@[go_sem] theorem aggT_101:dg Tryz.prog 101=some true:=ai
@[go_sem] theorem infoT_101:(Tryz.prog.info? 101).isSome=true:=ai
@[go_sem] theorem zeroT_101:cB Tryz.prog 101=some [.d (.int .i64 0), .d (.int .i64 0), .ax, .d (.int .i64 0), .d (.int .i64 0), .ax]:=ai
@[go_sem] theorem placesT_101:cV Tryz.prog 101=some [(0,3),(3,3)]:=ai
@[go_sem] theorem cellsOf_106:Tryz.prog.cellsOf 106=6:=ai
@[go_sem] theorem bytesOf_106:Tryz.prog.bytesOf 106=80:=ai
@[go_sem] theorem sliceT_106:bV Tryz.prog 106=none:=ai
@[go_sem] theorem arrT_106:Aa Tryz.prog 106=some (2,33):=ai
@[go_sem] theorem aggT_106:dg Tryz.prog 106=some true:=ai
@[go_sem] theorem infoT_106:(Tryz.prog.info? 106).isSome=true:=ai
@[go_sem] theorem zeroT_106:cB Tryz.prog 106=some [.d (.int .i64 0), .d (.int .i64 0), .ax, .d (.int .i64 0), .d (.int .i64 0), .ax]:=ai
@[go_sem] theorem placesT_106:cV Tryz.prog 106=some [(0,3),(3,3)]:=ai
@[go_sem] theorem sliceT_117:bV Tryz.prog 117=some 106:=ai
@[go_sem] theorem aggT_117:dg Tryz.prog 117=some false:=ai
@[go_sem] theorem intT_117:oW Tryz.prog 117=none:=ai
@[go_sem] theorem undT_117:Tryz.prog.underlying 117=some (.slice 106):=ai
@[go_sem] theorem cellsOf_124:Tryz.prog.cellsOf 124=2:=ai
@[go_sem] theorem bytesOf_124:Tryz.prog.bytesOf 124=24:=ai
@[go_sem] theorem aggT_124:dg Tryz.prog 124=some true:=ai
@[go_sem] theorem infoT_124:(Tryz.prog.info? 124).isSome=true:=ai
@[go_sem] theorem zeroT_124:cB Tryz.prog 124=some [.d (.str []), .d (.int .i64 0)]:=ai
@[go_sem] theorem placesT_124:cV Tryz.prog 124=some [(0,1),(1,1)]:=ai
@[go_sem] theorem cellsOf_134:Tryz.prog.cellsOf 134=1:=ai
@[go_sem] theorem aggT_134:dg Tryz.prog 134=some false:=ai
@[go_sem] theorem infoT_134:(Tryz.prog.info? 134).isSome=true:=ai
@[go_sem] theorem zeroT_134:cB Tryz.prog 134=some [.d .lG]:=ai
@[go_sem] theorem zeroT_137:cB Tryz.prog 137=some [.d .dL, .ax, .d (.bool false)]:=ai
@[go_sem] theorem placesT_137:cV Tryz.prog 137=some [(0,1),(1,1),(2,1)]:=ai
@[go_sem] theorem cellsOf_142:Tryz.prog.cellsOf 142=1:=ai
@[go_sem] theorem sliceT_142:bV Tryz.prog 142=some 3:=ai
@[go_sem] theorem aggT_142:dg Tryz.prog 142=some false:=ai
@[go_sem] theorem intT_142:oW Tryz.prog 142=none:=ai
@[go_sem] theorem infoT_142:(Tryz.prog.info? 142).isSome=true:=ai
@[go_sem] theorem undT_142:Tryz.prog.underlying 142=some (.slice 3):=ai
@[go_sem] theorem sliceT_148:bV Tryz.prog 148=some 9:=ai
@[go_sem] theorem intT_148:oW Tryz.prog 148=none:=ai
@[go_sem] theorem undT_148:Tryz.prog.underlying 148=some (.slice 9):=ai
@[go_sem] theorem cellsOf_154:Tryz.prog.cellsOf 154=1:=ai
@[go_sem] theorem aggT_154:dg Tryz.prog 154=some false:=ai
@[go_sem] theorem infoT_154:(Tryz.prog.info? 154).isSome=true:=ai
@[go_sem] theorem zeroT_154:cB Tryz.prog 154=some [.d .cF]:=ai
@[go_sem] theorem cellsOf_162:Tryz.prog.cellsOf 162=0:=ai
@[go_sem] theorem infoT_162:(Tryz.prog.info? 162).isSome=true:=ai
@[go_sem] theorem plainIface_162:my Tryz.prog 162=true:=ai
@[go_sem] theorem zeroT_162:cB Tryz.prog 162=some []:=ai
@[go_sem] theorem zeroV_162:zeroV Tryz.prog 162=some (mQ []):=ai
@[go_sem] theorem placesT_162:cV Tryz.prog 162=some []:=ai
@[go_sem] theorem cellsOf_163:Tryz.prog.cellsOf 163=0:=ai
@[go_sem] theorem infoT_163:(Tryz.prog.info? 163).isSome=true:=ai
@[go_sem] theorem plainIface_163:my Tryz.prog 163=true:=ai
@[go_sem] theorem zeroT_163:cB Tryz.prog 163=some []:=ai
@[go_sem] theorem zeroV_163:zeroV Tryz.prog 163=some (mQ []):=ai
@[go_sem] theorem placesT_163:cV Tryz.prog 163=some []:=ai
@[go_sem] theorem zeroT_164:cB Tryz.prog 164=some [.d (.int .i64 0), .d (.int .i64 0)]:=ai
@[go_sem] theorem placesT_164:cV Tryz.prog 164=some [(0,1),(1,1)]:=ai
@[go_sem] theorem aggT_168:dg Tryz.prog 168=some false:=ai
@[go_sem] theorem cellsOf_175:Tryz.prog.cellsOf 175=1:=ai
@[go_sem] theorem aggT_175:dg Tryz.prog 175=some false:=ai
@[go_sem] theorem infoT_175:(Tryz.prog.info? 175).isSome=true:=ai
@[go_sem] theorem mapT_175:sA Tryz.prog 175=some (9,4):=ai
@[go_sem] theorem zeroT_175:cB Tryz.prog 175=some [.d .dL]:=ai
@[go_sem] theorem cellsOf_178:Tryz.prog.cellsOf 178=1:=ai
@[go_sem] theorem aggT_178:dg Tryz.prog 178=some false:=ai
@[go_sem] theorem infoT_178:(Tryz.prog.info? 178).isSome=true:=ai
@[go_sem] theorem mapT_178:sA Tryz.prog 178=some (3,4):=ai
@[go_sem] theorem zeroT_178:cB Tryz.prog 178=some [.d .dL]:=ai
@[go_sem] theorem cellsOf_209:Tryz.prog.cellsOf 209=1:=ai
@[go_sem] theorem aggT_209:dg Tryz.prog 209=some false:=ai
@[go_sem] theorem infoT_209:(Tryz.prog.info? 209).isSome=true:=ai
@[go_sem] theorem cellsOf_210:Tryz.prog.cellsOf 210=16:=ai
@[go_sem] theorem sliceT_210:bV Tryz.prog 210=none:=ai
@[go_sem] theorem arrT_210:Aa Tryz.prog 210=some (16,209):=ai
@[go_sem] theorem aggT_210:dg Tryz.prog 210=some true:=ai
@[go_sem] theorem infoT_210:(Tryz.prog.info? 210).isSome=true:=ai
@[go_sem] theorem zeroT_210:cB Tryz.prog 210=some [.d .cF, .d .cF, .d .cF, .d .cF, .d .cF, .d .cF, .d .cF, .d .cF, .d .cF, .d .cF, .d .cF, .d .cF, .d .cF, .d .cF, .d .cF, .d .cF]:=ai
@[go_sem] theorem placesT_210:cV Tryz.prog 210=some [(0,1),(1,1),(2,1),(3,1),(4,1),(5,1),(6,1),(7,1),(8,1),(9,1),(10,1),(11,1),(12,1),(13,1),(14,1),(15,1)]:=ai
@[go_sem] theorem zeroT_213:cB Tryz.prog 213=some [.ax, .ax]:=ai
@[go_sem] theorem placesT_213:cV Tryz.prog 213=some [(0,2)]:=ai
@[go_sem] theorem fieldT_24_0:b8 Tryz.prog 24 0=some 0:=ai
@[go_sem] theorem fieldT_24_1:b8 Tryz.prog 24 1=some 1:=ai
@[go_sem] theorem fieldT_29_0:b8 Tryz.prog 29 0=some 0:=ai
@[go_sem] theorem fieldT_29_1:b8 Tryz.prog 29 1=some 2:=ai
@[go_sem] theorem fieldT_29_2:b8 Tryz.prog 29 2=some 3:=ai
@[go_sem] theorem fieldT_29_3:b8 Tryz.prog 29 3=some 4:=ai
@[go_sem] theorem fieldT_33_0:b8 Tryz.prog 33 0=some 0:=ai
@[go_sem] theorem fieldT_33_1:b8 Tryz.prog 33 1=some 1:=ai
@[go_sem] theorem fieldT_33_2:b8 Tryz.prog 33 2=some 2:=ai
@[go_sem] theorem fieldT_53_0:b8 Tryz.prog 53 0=some 0:=ai
@[go_sem] theorem fieldT_53_1:b8 Tryz.prog 53 1=some 3:=ai
@[go_sem] theorem fieldT_53_2:b8 Tryz.prog 53 2=some 6:=ai
@[go_sem] theorem fieldT_59_0:b8 Tryz.prog 59 0=some 0:=ai
@[go_sem] theorem fieldT_59_1:b8 Tryz.prog 59 1=some 1:=ai
@[go_sem] theorem fieldT_77_0:b8 Tryz.prog 77 0=some 0:=ai
@[go_sem] theorem fieldT_77_1:b8 Tryz.prog 77 1=some 1:=ai
@[go_sem] theorem fieldT_95_0:b8 Tryz.prog 95 0=some 0:=ai
@[go_sem] theorem fieldT_95_1:b8 Tryz.prog 95 1=some 5:=ai
@[go_sem] theorem fieldT_101_0:b8 Tryz.prog 101 0=some 0:=ai
@[go_sem] theorem fieldT_101_1:b8 Tryz.prog 101 1=some 3:=ai
@[go_sem] theorem fieldT_124_0:b8 Tryz.prog 124 0=some 0:=ai
@[go_sem] theorem fieldT_124_1:b8 Tryz.prog 124 1=some 1:=ai
@[go_sem] theorem fieldT_137_0:b8 Tryz.prog 137 0=some 0:=ai
@[go_sem] theorem fieldT_137_1:b8 Tryz.prog 137 1=some 1:=ai
@[go_sem] theorem fieldT_137_2:b8 Tryz.prog 137 2=some 2:=ai
@[go_sem] theorem fieldT_213_0:b8 Tryz.prog 213 0=some 0:=ai
section
def kz(x y:ad):Prop:=(x.cA=true->y.cA=true)/\∀e,x.cz=some e->y.cz=some e
theorem kz.rfl' {x y:ad}(h:x=y):kz x y:=h ▸ ⟨id,fun _ h=>h⟩
theorem kz.fz (x:ad):kz x.fz x:=by cases x<;>exact⟨id,fun _ h=>h⟩
theorem kz.row (cs cs':List V):kz (.row cs) (.row cs'):=⟨fun _=>rfl,fun _ h=>by cases h⟩
mutual
theorem V.ke {B B':Nat->Prop}{φ aH:Place}{H H':Hp}{w:World}(hB:∀b, ¬B b-> ¬B' b):∀ (v:V) (val:Value),(∀id∈v.refs,kz (H'.o id) (H.o id)/\aH id=φ id/\H'.us id)->V.den B φ H w v val->V.den B' aH H' w v val
 | .d x,val,_,h=>D.aU (w:=w) (w':=w) (fun b _ hn=>⟨rfl,hB b hn⟩) x val h
 | .ax,_,_,h=>h
 | .ab,_,_,_=>trivial
 | .fH,_,_,h=>h
 | .pb es,val,_,h=>⟨D.aU (w:=w) (w':=w) (fun b _ hn=>⟨rfl,hB b hn⟩) (.sl es) val h.1,h.2⟩
 | .agg cs,val,hr,h=>by
   obtain⟨a,rfl,h1,h2⟩:=h
   exact⟨a,rfl,V.eG hB cs _ yf h1,h2⟩
 | .bY cs,val,hr,h=>by
   obtain⟨a,rfl,h1⟩:=h
   exact⟨a,rfl,V.eG hB cs _ yf h1⟩
 | .ptr id off,val,hr,h=>by
   exact VQ
 | .osl id ep,val,hr,h=>by
   obtain⟨a,b,c⟩:=hr id oU
   obtain⟨h0,h1,h2⟩:=h
   refine⟨h0,c,fun e he=> ?_⟩
   obtain⟨x,y⟩:=h2 e (a.2 e he)
   exact⟨x,fun heq=>(y heq).trans b.symm⟩
 | .pe id ep i sz off,val,hr,h=>by
   obtain⟨a,b,c⟩:=hr id oU
   obtain⟨h0,h1,h2⟩:=h
   refine⟨h0,c,fun e he=> ?_⟩
   obtain⟨x,y⟩:=h2 e (a.2 e he)
   exact SW
 | .pp cs off,val,_,h=>by
   obtain⟨a,ev,h1,h2,h3,h5,h4⟩:=h
   exact aaE
 | .func fn first cap,val,hr,h=>by
   obtain⟨f,c,rfl,h1,h2⟩:=h
   exact⟨f,c,rfl,V.eG hB first _ (fun id aw=>hr id (by simp[V.refs,aw])) h1,V.eG hB cap _ (fun id aw=>hr id (by simp[V.refs,aw])) h2⟩
 | .iface t x,val,hr,h=>by
   obtain⟨u,rfl,h⟩:=h
   exact⟨u,rfl,V.ke hB x u yf h⟩
 | .yq id off n,val,hr,h=>by
   exact VQ
 | .mp id,val,hr,h=>by
   obtain⟨a,b,c⟩:=hr id oU
   obtain⟨h0,h1,h2⟩:=h
   refine⟨h0,c,fun c8=> ?_⟩
   exact(h2 (a.1 c8)).trans b.symm
 | .kH id,val,hr,h=>by
   exact VQ
theorem V.eG {B B':Nat->Prop}{φ aH:Place}{H H':Hp}{w:World}(hB:∀b, ¬B b-> ¬B' b):∀ (vs:List V) (vals:List Value),(∀id∈V.aL vs,kz (H'.o id) (H.o id)/\aH id=φ id/\H'.us id)->V.aF B φ H w vs vals->V.aF B' aH H' w vs vals
 |[],_,_,h=>h
 |v::vs,_,hr,h=>by
  obtain⟨u,us,rfl,h1,h2⟩:=h
  exact⟨u,us,rfl,V.ke hB v u (fun id aw=>hr id (by simp[V.aL,aw])) h1,V.eG hB vs us (fun id aw=>hr id (by simp[V.aL,aw])) h2⟩
end
mutual
theorem V.jF {B:Nat->Prop}{φ:Place}{H:Hp}{w:World}:∀ (v:V) (val:Value),V.den B φ H w v val->∀id∈v.refs,H.us id
 | .osl id ep,_,h,j,hj| .ptr id off,_,h,j,hj| .pe id ep i sz off,_,h,j,hj| .yq id off n,_,h,j,hj| .mp id,_,h,j,hj| .kH id,_,h,j,hj=>by simp[V.refs]at hj;subst hj;exact h.2.1
 | .agg cs,_,h,j,hj=>by obtain⟨a,rfl,h,_⟩:=h;exact V.eo cs _ h j (by simpa[V.refs]using hj)
 | .bY cs,_,h,j,hj=>by obtain⟨a,rfl,h⟩:=h;exact V.eo cs _ h j (by simpa[V.refs]using hj)
 | .func fn first cap,_,h,j,hj=>by
   obtain⟨f,c,rfl,h1,h2⟩:=h
   rcases List.mem_append.1 (show j∈V.aL first++V.aL cap by simpa[V.refs]using hj)with hj|hj
   ·exact V.eo first _ h1 j hj
   ·exact V.eo cap _ h2 j hj
 | .iface t x,_,h,j,hj=>by obtain⟨u,rfl,h⟩:=h;exact V.jF x u h j (by simpa[V.refs]using hj)
 | .d _,_,_,_,hj| .ax,_,_,_,hj| .pp _ _,_,_,_,hj| .ab,_,_,_,hj| .pb _,_,_,_,hj| .fH,_,_,_,hj=>by simp[V.refs]at hj
theorem V.eo {B:Nat->Prop}{φ:Place}{H:Hp}{w:World}:∀ (vs:List V) (vals:List Value),V.aF B φ H w vs vals->∀id∈V.aL vs,H.us id
 |[],_,_,j,hj=>by simp[V.aL]at hj
 |v::vs,_,h,j,hj=>by
  obtain⟨u,us,rfl,h1,h2⟩:=h
  rcases List.mem_append.1 (show j∈v.refs++V.aL vs by simpa[V.aL]using hj)with hj|hj
  ·exact V.jF v u h1 j hj
  ·exact V.eo vs us h2 j hj
end
def fN(so:Nat->ad)(gone:Nat->Prop)(ty:TypeId)(sz:Nat)(es:List D)(x:V):Prop:=
 (x= .ax/\es=[]/\0<sz)\/∃id ep,gone id/\x= .osl id ep/\so id= .arr ep ty sz es
theorem Nc{xs ys:List Nat}:kX xs ys=true↔∀x∈xs,x∉ys:=by
 simp[kX,List.all_eq_true]
def nP(env:Nat->V):List V->Nat->Prop
 |[],_=>True
 |v::l,i=>(v= .ab\/v=env i)/\nP env l (i+1)
theorem IV{env:Nat->V}{i:Nat}:nP env [] i:=trivial
theorem EB{env:Nat->V}{l:List V}{i:Nat}(h:nP env l (i+1)):nP env (.ab::l) i:=⟨.inl rfl,h⟩
theorem Pv{env:Nat->V}{l:List V}{i:Nat}{v:V}(he:env i=v)(h:nP env l (i+1)):nP env (v::l) i:=⟨.inr he.symm,h⟩
theorem Dr{env:Nat->V}:∀ (l:List V) (i:Nat),nP env l i->∀j,aX l j= .ab\/aX l j=env (i+j)
 |[],i,_,j=>by rw[q9];exact .inl rfl
 |v::l,i,h,0=>by rw[oE];exact h.1
 |v::l,i,h,j+1=>by
  rw[oF]
  have:=Dr l (i+1) h.2 j
  rwa [show i+1+j=i+(j+1) by omega]at this
theorem JR{P:Program}{n bq:Nat}{gq:Operand}{ps:List Nat}{x y:IC}{Q:fK->S->Prop}{e:Nat->V}{o:Nat->ad}{nx:Nat}{f:FuncId}{cap:List V}(env:List V)(he:nP e env 0)
 (h:bP P f (.kH nx::cap) (ay o nx (.loop P.funcs.size n env ps x y .ready none)) (nx+1)
  (fun _ o' nx'=>∃nf m en p c d st pd,o' nx= .loop nf m en p c d st pd/\st≠ .busy/\qS Q pd ⟨e,ay o' nx (.loop nf m en p c d .exhausted pd),nx'⟩) (fun v o' nx'=>Q (.bN v) ⟨e,o',nx'⟩)):
 uC P n bq false gq ps x y Q ⟨e,o,nx⟩ (.func (.func f) [] cap):=by
 unfold uC CG
 refine⟨rfl, .inl ⟨env,fun i=> ?_, .inl h⟩⟩
 have:=Dr env 0 he i
 rwa [Nat.zero_add]at this
theorem bL.trans {b:Nat}{s s' s'':S}(h1:bL b s s')(h2:bL b s' s''):bL b s s'':=fun M φ w tm hH hd=>by
 obtain⟨aH,a1,a2,a3,a4,a5,a6⟩:=h1 M φ w tm hH hd
 obtain⟨EH,b1,b2,b3,b4,b5,b6⟩:=h2 M aH w tm a1 a2
 refine⟨EH,b1,b2,fun k hk=>a3 k (b3 k hk),b4,fun id aw hr=> ?_,fun id e' aw he=> ?_⟩
 ·obtain⟨c1,c2⟩:=b5 id aw hr
  obtain⟨c3,c4⟩:=a5 id aw c1
  exact⟨c3,c2.trans c4⟩
 ·obtain⟨e1,c1,c2,c3⟩:=b6 id e' aw he
  obtain⟨e0,d1,d2,d3⟩:=a6 id e1 aw c1
  exact⟨e0,d1,Nat.le_trans d2 c2,fun h=>(c3 af).trans (d3 af)⟩
theorem QQ{P:Program}{n bq:Nat}{gq:Operand}{ps:List Nat}{x y:IC}{Q:fK->S->Prop}{s s':S}{g:V}(hle:bL bq s s')(h:uC P n bq false gq ps x y Q s' (s'.ev gq)):uC P n bq false gq ps x y Q s g:=by
 unfold uC at h|-
 obtain⟨h1,h2⟩:=h
 refine⟨h1, .inr ?_⟩
 rcases h2 with h2|⟨s'',Mj,h2⟩
 ·exact⟨s',hle,h2⟩
 ·exact⟨s'',hle.trans Mj,h2⟩
def sU(P:Program)(n b id:Nat)(fq:IC)(K X:V->(Nat->ad)->Nat->Prop)(e:fK)(s:S):Prop:=
 match e with
 | .normal=>∃nf m en p c d pd,s.o id= .loop nf m en p c d .ready pd/\j7 P n b true fq (lB id K X) ⟨s.env,ay s.o id (.loop nf m en p c d .busy pd),s.nx⟩
 | .bN v=>X v s.o s.nx
 |_=>False
theorem dQ.aG {P:Program}{n:Nat}(bf:P.follows .mixedOrders=true){id:Nat}{args:List V}{o:Nat->ad}{nx:Nat}{K X:V->(Nat->ad)->Nat->Prop}{env:List V}{ps:List Nat}{jS fq:IC}{st:LoopState}{pd:Option ku}
 (ho:o id= .loop P.funcs.size n env ps jS fq st pd) (cq:id<nx) (Ft:ps.all (fun t=>decide (t<n))=true) (hl:args.length=ps.length)
 (h:j7 P n nx true jS (sU P n nx id fq K X) ⟨pS (aX env) ps args,o,nx⟩):dQ P id args o nx K X:=by
 refine dQ.we bf ho cq Ft hl (ej jS _ _ _ (fun e s h=> ?_) h)
 cases e with
 |normal=>
  obtain⟨nf,m,en,p,c,d,pd,h1,h2⟩:=h
  exact⟨nf,m,en,p,c,d,pd,h1,ej fq _ _ _ (fun _ _ h=>h) h2⟩
 |bN v=>exact h
 |_=>exact h.elim
theorem A3{P:Program}{n b id:Nat}{fq:IC}{K X:V->(Nat->ad)->Nat->Prop}{s:S}{nf m:Nat}{en:List V}{p:List Nat}{c d:IC}{pd:Option ku}(h:s.o id= .loop nf m en p c d .ready pd)
 (h2:j7 P n b true fq (lB id K X) ⟨s.env,ay s.o id (.loop nf m en p c d .busy pd),s.nx⟩):sU P n b id fq K X .normal s:=⟨nf,m,en,p,c,d,pd,h,h2⟩
def xT:List Nat->Nat->Nat->Nat
 |[],nx,k=>nx+k
 |i::_,_,0=>i
 |_::l,nx,k+1=>xT l nx k
theorem A4:∀ (l:List Nat) (nx k:Nat),xT l nx k∈l\/nx<=xT l nx k
 |[],nx,k=> .inr (Nat.le_add_right _ _)
 |i::_,_,0=> .inl (List.mem_cons_self ..)
 |_::l,nx,k+1=>(A4 l nx k).imp (List.mem_cons_of_mem _) id
theorem Ds{nx:Nat}:∀ (l:List Nat),l.Nodup->(∀i∈l,i<nx)->∀a b,xT l nx a=xT l nx b->a=b
 |[],_,_,a,b,e=>by simp only[xT]at e;omega
 |i::l,_,_,0,0,_=>rfl
 |i::l,hd,hl,0,b+1,e=>by
  simp only[xT]at e
  rcases A4 l nx b with h|h
  ·rw[<- e]at h;exact absurd h (List.nodup_cons.1 hd).1
  ·have:=hl i (List.mem_cons_self ..);omega
 |i::l,hd,hl,a+1,0,e=>by
  simp only[xT]at e
  rcases A4 l nx a with h|h
  ·rw[e]at h;exact absurd h (List.nodup_cons.1 hd).1
  ·have:=hl i (List.mem_cons_self ..);omega
 |i::l,hd,hl,a+1,b+1,e=>by
  simp only[xT]at e
  rw[Ds l (List.nodup_cons.1 hd).2 (fun j hj=>hl j (List.mem_cons_of_mem _ hj)) a b e]
def QR(f:Nat->Nat)(x:List Nat×List Nat):List Nat×List Nat:=(x.1.map f,x.2.map f)
theorem wG{f:Nat->Nat}(hf:∀a b,f a=f b->a=b){xs ys:List Nat}(hd:kX xs ys=true):kX (xs.map f) (ys.map f)=true:=by
 rw[Nc]at hd|-
 intro x hx hy
 obtain⟨a,ha,rfl⟩:=List.mem_map.1 hx
 obtain⟨b,hb,e⟩:=List.mem_map.1 hy
 rw[hf b a e]at hb
 exact hd a ha hb
theorem FB{f:Nat->Nat}(hf:∀a b,f a=f b->a=b){pr:List (List Nat)}(fp:List (List Nat×List Nat))(ho:eV pr fp=true):eV pr (fp.map (QR f))=true:=by
 unfold eV at ho|-
 rw[List.all_eq_true]at ho|-
 intro j hj
 rw[List.length_map]at hj
 have ho:=ho j hj
 rw[List.all_eq_true]at ho|-
 intro i hi
 have ho:=ho i hi
 have hm:∀k,(fp.map (QR f)).getD k ([],[])=QR f (fp.getD k ([],[])):=fun k=>by
  rw[List.getD_eq_getElem?_getD,List.getD_eq_getElem?_getD,List.getElem?_map]
  cases fp[k]? <;>rfl
 rw[hm,hm]
 rw[Bool.or_eq_true]at ho|-
 refine ho.imp (fun h=>h) (fun ho=> ?_)
 rw[Bool.and_eq_true,Bool.and_eq_true]at ho|-
 exact⟨⟨wG hf ho.1.1,wG hf ho.1.2⟩,wG hf ho.2⟩
theorem bD{ids:List Nat}{nx:Nat}(hd:ids.Nodup)(hl:∀i∈ids,i<nx){pr:List (List Nat)}(fp:List (List Nat×List Nat))(ho:eV pr fp=true):eV pr (fp.map (QR (xT ids nx)))=true:=
 FB (Ds ids hd hl) fp ho
section
variable {P:Program}{KB:List Nat->Fp->Prop}{pr:List (List Nat)}{l:List b7}{fr:Nat}{fp:Fp}{bad ws:List Nat}{s:S}{d:Option Nat}{op:Op}
end
end
section
structure Gr where
 x:V
 ty:TypeId
 sz:Nat
 es:List D
def Gr.ok (so:Nat->ad)(gone:Nat->Prop)(g:Gr):Prop:=fN so gone g.ty g.sz g.es g.x
def Nd(c:Nat)(G:List Gr)(so:Nat->ad)(gone:Nat->Prop)(v v':V):Prop:=
 v'= .ab\/(v'=v/\∀r∈v.refs,r<c)\/(∃i g,G[i]? =some g/\v'= .osl (c+i) 0/\v=g.x)\/∃y,v'= .d y/\dM so v=some y/\∀id∈v.ids,gone id/\∀g∈G,∀ep,g.x≠ .osl id ep
def iP(c:Nat)(G:List Gr)(so:Nat->ad)(gone:Nat->Prop)(env:Nat->V):List V->Nat->Prop
 |[],_=>True
 |v::l,i=>Nd c G so gone (env i) v/\iP c G so gone env l (i+1)
def sV(c:Nat)(G:List Gr)(so:Nat->ad)(gone:Nat->Prop):List V->List V->Prop
 |[],[]=>True
 |v::l,v'::l'=>Nd c G so gone v v'/\sV c G so gone l l'
 |_,_=>False
def Dt(c:Nat)(G:List Gr)(so:Nat->ad)(gone:Nat->Prop)(x x':ad):Prop:=
 x'= .no\/(x=x'/\∀r∈x'.refs,r<c)\/∃cs cs',x= .row cs/\x'= .row cs'/\sV c G so gone cs cs'
section
variable {c:Nat}{G:List Gr}{so:Nat->ad}{gone:Nat->Prop}
theorem HE{env:Nat->V}:∀ (l:List V) (i:Nat),iP c G so gone env l i->∀j,Nd c G so gone (env (i+j)) (aX l j)
 |[],i,_,j=>by rw[q9];exact .inl rfl
 |v::l,i,h,0=>by rw[oE];exact h.1
 |v::l,i,h,j+1=>by
  rw[oF]
  have:=HE l (i+1) h.2 j
  rwa [show i+1+j=i+(j+1) by omega]at this
variable {env:Nat->V}{i:Nat}{l l':List V}{v:V}{y:D}
theorem gO:iP c G so gone env [] i:=trivial
theorem cD(h:iP c G so gone env l (i+1)):iP c G so gone env (.ab::l) i:=⟨.inl rfl,h⟩
theorem cZ(he:env i= .d y)(h:iP c G so gone env l (i+1)):iP c G so gone env (.d y::l) i:=⟨.inr (.inl ⟨he.symm,fun r hr=>by rw[he]at hr;simp[V.refs]at hr⟩),h⟩
theorem iA(he:env i=v)(hr:∀r∈v.refs,r<c)(h:iP c G so gone env l (i+1)):iP c G so gone env (v::l) i:=⟨.inr (.inl ⟨he.symm,fun r Jn=>hr r (he ▸ Jn)⟩),h⟩
theorem jI(k:Nat){g:Gr}{n:Nat}(hg:G[k]? =some g)(hn:n=c+k)(he:env i=g.x)(h:iP c G so gone env l (i+1)):iP c G so gone env (.osl n 0::l) i:=⟨.inr (.inr (.inl ⟨k,g,hg,by rw[hn],he⟩)),h⟩
theorem l0(ht:dM so (env i)=some y)(hi:∀id∈(env i).ids,gone id/\∀g∈G,∀ep,g.x≠ .osl id ep)(h:iP c G so gone env l (i+1)):iP c G so gone env (.d y::l) i:=⟨.inr (.inr (.inr ⟨y,rfl,ht,hi⟩)),h⟩
theorem jO:sV c G so gone [] []:=trivial
theorem jN(h:sV c G so gone l l'):sV c G so gone (.d y::l) (.d y::l'):=⟨.inr (.inl ⟨rfl,fun r hr=>by simp[V.refs]at hr⟩),h⟩
theorem vj(hr:∀r∈v.refs,r<c)(h:sV c G so gone l l'):sV c G so gone (v::l) (v::l'):=⟨.inr (.inl ⟨rfl,hr⟩),h⟩
theorem vl(k:Nat){g:Gr}{n:Nat}(hg:G[k]? =some g)(hn:n=c+k)(he:v=g.x)(h:sV c G so gone l l'):sV c G so gone (v::l) (.osl n 0::l'):=⟨.inr (.inr (.inl ⟨k,g,hg,by rw[hn],he⟩)),h⟩
theorem A5(ht:dM so v=some y)(hi:∀id∈v.ids,gone id/\∀g∈G,∀ep,g.x≠ .osl id ep)(h:sV c G so gone l l'):sV c G so gone (v::l) (.d y::l'):=⟨.inr (.inr (.inr ⟨y,rfl,ht,hi⟩)),h⟩
theorem js{x:ad}:Dt c G so gone x .no:= .inl rfl
theorem bn{x x':ad}(h:x=x')(hr:∀r∈x'.refs,r<c):Dt c G so gone x x':= .inr (.inl ⟨h,hr⟩)
theorem jM{x:ad}{cs cs':List V}(h:x= .row cs)(hr:sV c G so gone cs cs'):Dt c G so gone x (.row cs'):= .inr (.inr ⟨cs,cs',h,rfl,hr⟩)
end
theorem rj{c:Nat}{G:List Gr}{so:Nat->ad}{gone:Nat->Prop}{B B':Nat->Prop}{φ aH:Place}{H H':Hp}{w:World}(hc:∀v v' val,Nd c G so gone v v'->V.den B φ H w v val->V.den B' aH H' w v' val):
 ∀ (l l':List V) (vals:List Value),sV c G so gone l l'->V.aF B φ H w l vals->V.aF B' aH H' w l' vals
 |[],[],_,_,h=>h
 |v::l,v'::l',_,h,hd=>by
  obtain⟨u,us,rfl,h1,h2⟩:=hd
  exact⟨u,us,rfl,hc _ _ _ h.1 h1,rj hc l l' us h.2 h2⟩
 |[],_::_,_,h,_=>h.elim
 |_::_,[],_,h,_=>h.elim
def Nf(φ:Place)(c:Nat)(G:List Gr):Place:=fun id=>if id<c then φ id else match G[id - c]? with
 |some g=>(match g.x with| .osl j _=>φ j|_=> .slice none 0 0)
 |none=>φ id
theorem bL.see (gone:Nat->Prop)(G:List Gr)(c:Nat){b:Nat}{e:Nat->V}{so:Nat->ad}{m:Nat}(l:List V){o':Nat->ad}{nx':Nat}(uq:nx'=c+G.length)(hb:b<=c)
 (ho:∀id,id<c->Dt c G so gone (so id) (o' id)) (hG:∀i g,G[i]? =some g->o' (c+i)= .arr 0 g.ty g.sz g.es/\g.ok so gone) (hh:∀id,nx'<=id->o' id= .no) (zm:∀id,gone id->id<c->o' id= .no)
 (We:∀ (i j:Nat) (gi gj:Gr) (id ep fT:Nat),G[i]? =some gi->G[j]? =some gj->gi.x= .osl id ep->gj.x= .osl id fT->i=j) (he:iP c G so gone e l 0):bL b ⟨e,so,m⟩ ⟨aX l,o',nx'⟩:=by
 subst uq
 intro M φ w tm hH hd
 let aH:Place:=Nf φ c G
 let H':Hp:=hp o' (c+G.length)
 let H:Hp:=⟨so,fun id=>id<m⟩
 have JS:∀id,id<c->aH id=φ id:=fun id aw=>if_pos aw
 have Ng:∀i g,G[i]? =some g->aH (c+i)=(match g.x with| .osl j _=>φ j|_=> .slice none 0 0):=fun i g hg=>by
  show Nf φ c G (c+i)=_
  unfold Nf
  rw[if_neg (by omega),show c+i - c=i by omega,hg]
 have hold:∀id k,(o' id).live=true->eB (aH id)=some k->∃j,(so j).live=true/\eB (φ j)=some k/\((id<c/\j=id)\/∃i g ep,id=c+i/\G[i]? =some g/\gone j/\g.x= .osl j ep):=by
  intro id k h1 h2
  by_cases cq:id<c
  ·rw[JS id cq]at h2
   rcases ho id cq with h3|⟨h3,_⟩|⟨cs,cs',h3,h4,_⟩
   ·rw[h3]at h1;cases h1
   ·exact⟨id,by rw[h3];exact h1,h2, .inl ⟨cq,rfl⟩⟩
   ·exact⟨id,by rw[h3];rfl,h2, .inl ⟨cq,rfl⟩⟩
  ·by_cases BE:c+G.length<=id
   ·rw[hh id BE]at h1;cases h1
   ·obtain⟨i,rfl⟩:∃i,id=c+i:=⟨id - c,af⟩
    obtain⟨g,hg⟩:∃g,G[i]? =some g:=⟨G[i]'af,aE⟩
    rw[Ng i g hg]at h2
    obtain⟨_,aY⟩:=hG i g hg
    rcases aY with⟨h3,_,_⟩|⟨j,ep,hj,h3,qn⟩
    ·rw[h3]at h2;cases h2
    ·rw[h3]at h2
     exact⟨j,by rw[qn];rfl,h2, .inr ⟨i,g,ep,rfl,hg,hj,h3⟩⟩
 have cX:∀k,cI aH H' k->cI φ H k:=by
  rintro k ⟨id,h1,h2⟩
  obtain⟨j,g1,g2,_⟩:=hold id k h1 h2
  exact⟨j,g1,g2⟩
 have hB:∀k, ¬ao M φ H k-> ¬ao M aH H' k:=fun k h h'=>h (h'.imp id (cX k))
 have GV:∀id,id<c->kz (H'.o id) (H.o id)/\aH id=φ id/\H'.us id:=fun id aw=>by
  refine⟨?_,JS id aw,(by show id<c+G.length;omega)⟩
  show kz (o' id) (so id)
  rcases ho id aw with h3|⟨h3,_⟩|⟨cs,cs',h3,h4,_⟩
  ·rw[h3];exact⟨fun h=>jQ,fun e h=>jQ⟩
  ·exact kz.rfl' h3.symm
  ·rw[h3,h4];exact kz.row _ _
 have fS:∀ (v:V) (val:Value),(∀r∈v.refs,r<c)->V.den (ao M φ H) φ H w v val->V.den (ao M aH H') aH H' w v val:=fun v val hr h=>
  V.ke (H:=H) (H':=H') hB v val (fun id aw=>GV id (hr id aw)) h
 have lE:∀ (v:List V) (val:List Value),(∀r∈V.aL v,r<c)->V.aF (ao M φ H) φ H w v val->V.aF (ao M aH H') aH H' w v val:=fun v val hr h=>
  V.eG (H:=H) (H':=H') hB v val (fun id aw=>GV id (hr id aw)) h
 have agW:∀ (v:V) (y:D) (val:Value),dM so v=some y->(∀id∈v.ids,gone id/\∀g∈G,∀ep,g.x≠ .osl id ep)->V.den (ao M φ H) φ H w v val->D.den (ao M aH H') w y val:=fun v y val h1 h2 h3=>by
  obtain⟨f1,f2,f3,f4,f5⟩:=cY (H:=H) hH v.ids (fun id aw=>cS v val h3 id aw)
  have O7:∀k,cI φ (H.put (bG H.o v.ids)) k->cI φ H k:=by
   rintro k ⟨id,g1,g2⟩
   by_cases aw:id∈v.ids
   ·rw[f3 id aw]at g1
    refine⟨id, ?_,g2⟩
    revert g1
    cases H.o id<;>simp[ad.fz,ad.live]
   ·rw[f4 id aw]at g1;exact⟨id,g1,g2⟩
  have h4:V.den (ao M φ (H.put (bG H.o v.ids))) φ (H.put (bG H.o v.ids)) w v val:=
   V.ke (H:=H) (fun k h h'=>h (h'.imp id (O7 k))) v val (fun id aw=>by
     have ec:H.us id:=(V.jF v val h3) id aw
     refine⟨?_,rfl,(f5 id).2 ec⟩
     by_cases hm:id∈v.ids
     ·rw[f3 id hm];exact kz.fz _
     ·rw[f4 id hm];exact kz.rfl' rfl) h3
  have h5:=eN f1 (o:=so) v y val (fun id aw=>f3 id aw) h1 h4
  refine D.aU (w:=w) (w':=w) (fun k _ hn=>⟨rfl,fun hk=>hn (hk.imp id ?_)⟩) y val h5
  rintro⟨id,g1,g2⟩
  obtain⟨j,k1,k2,k3⟩:=hold id k g1 g2
  refine⟨j, ?_,k2⟩
  have:j∉v.ids:=fun hm=>by
   obtain⟨k4,k5⟩:=h2 j hm
   rcases k3 with⟨k6,k7⟩|⟨i,g,ep,k6,k8,k9,k10⟩
   ·subst k7
    have:=zm _ k4 k6
    have g1:(o' j).live=true:=g1
    rw[this]at g1
    cases g1
   ·exact k5 g (List.mem_of_getElem? k8) ep k10
  rw[f4 j this];exact k1
 have HG:∀i g val,G[i]? =some g->V.den (ao M φ H) φ H w g.x val->V.den (ao M aH H') aH H' w (.osl (c+i) 0) val:=by
  intro i g val hg this
  obtain⟨Kw,aY⟩:=hG i g hg
  have cq:c+i<c+G.length:=by have:=(List.getElem?_eq_some_iff.1 hg).1;omega
  rcases aY with⟨h3,_,_⟩|⟨j,ep,hj,h3,qn⟩
  ·rw[h3]at this
   simp only[V.den]at this
   rw[this]
   refine⟨rfl,cq,fun e' ql=> ?_⟩
   have ql:(o' (c+i)).cz=some e':=ql
   rw[Kw]at ql
   simp only[ad.cz,Option.some.injEq]at ql
   subst ql
   exact⟨Nat.le_refl _,fun _=>by rw[Ng i g hg,h3]⟩
  ·rw[h3]at this
   obtain⟨g1,g2,g3⟩:=this
   refine⟨g1,cq,fun e' ql=> ?_⟩
   have ql:(o' (c+i)).cz=some e':=ql
   rw[Kw]at ql
   simp only[ad.cz,Option.some.injEq]at ql
   subst ql
   have vF:(H.o j).cz=some ep:=by show(so j).cz=_;rw[qn];rfl
   exact⟨Nat.le_refl _,fun _=>by rw[Ng i g hg,h3];exact(g3 ep vF).2 rfl⟩
 have U1:∀v v' val,Nd c G so gone v v'->V.den (ao M φ H) φ H w v val->V.den (ao M aH H') aH H' w v' val:=by
  intro v v' val h h1
  rcases h with rfl|⟨rfl,h2⟩|⟨i,g,hg,rfl,rfl⟩|⟨y,rfl,h2,h3⟩
  ·trivial
  ·exact fS _ _ h2 h1
  ·exact HG i g _ hg h1
  ·exact agW v y val h2 h3 h1
 refine⟨aH,⟨fun id=> ?_,fun id hu=>hh id (by have: ¬id<c+G.length:=hu;omega),fun i j k h1 h2 h3 h4=> ?_,fun k hk=>hH.ours k (cX k hk),hH.BD⟩,fun i=> ?_,cX,by show b<=c+G.length;omega,fun id aw hr=> ?_,fun id e' aw ql=> ?_⟩
 ·have ba:aS M φ H w id:=hH.ok id
  show aS M aH H' w id
  unfold aS at ba|-
  by_cases cq:id<c
  ·rcases ho id cq with h3|⟨h3,hrefs⟩|⟨cs,cs',h3,h4,c8⟩
   ·have e2:H'.o id= .no:=h3
    rw[e2];trivial
   ·have e1:H.o id=o' id:=h3
    have e2:H'.o id=o' id:=rfl
    rw[e1]at ba
    rw[e2,JS id cq]
    cases ym:o' id with
    |no=>trivial
    |row cs=>
     simp only[ym]at ba hrefs|-
     exact SQ
    |arr ep ty sz es=>
     simp only[ym]at ba|-
     obtain⟨k1,xs,k2,evs,k3,k4,k5⟩:=ba
     exact Sg
    |uI ep es=>
     simp only[ym]at ba|-
     exact D.aU (fun b _ hn=>⟨rfl,hB b hn⟩) _ _ ba
    |map kt vt es=>
     simp only[ym]at ba|-
     obtain⟨b,es',clock,k1,k2,k4,k3⟩:=ba
     exact Sd
    |cc l=>
     simp only[ym]at ba|-
     exact kY.mono (fun b _ hn=>⟨rfl,hB b hn⟩) ba
    |rW l last=>
     simp only[ym]at ba|-
     obtain⟨b,k1,k2⟩:=ba
     exact SK
    |z7 s pos=>
     simp only[ym]at ba|-
     exact ba
    |loop nf n env ps a b st pd=>
     simp only[ym]at ba hrefs|-
     exact S9
   ·have e1:H.o id= .row cs:=h3
    have e2:H'.o id= .row cs':=h4
    rw[e1]at ba
    rw[e2,JS id cq]
    obtain⟨b,ed,ty,k1,k2,k3,k4⟩:=ba
    exact⟨b,ed,ty,k1,k2,rj U1 _ _ _ c8 k3,k4⟩
  ·by_cases BE:c+G.length<=id
   ·have e2:H'.o id= .no:=hh id BE
    rw[e2];trivial
   ·obtain⟨i,rfl⟩:∃i,id=c+i:=⟨id - c,af⟩
    obtain⟨g,hg⟩:∃g,G[i]? =some g:=⟨G[i]'af,aE⟩
    obtain⟨Kw,aY⟩:=hG i g hg
    have e2:H'.o (c+i)= .arr 0 g.ty g.sz g.es:=Kw
    rw[e2]
    rcases aY with⟨h3,h4,eA⟩|⟨j,ep,hj,h3,qn⟩
    ·rw[h4]
     refine⟨eA,[], ?_,[],aE,aE,rfl⟩
     rw[Ng i g hg,h3]
     exact World.ownsRow_nil _ _ _ _
    ·have this:aS M φ H w j:=hH.ok j
     unfold aS at this
     have e3:H.o j= .arr ep g.ty g.sz g.es:=qn
     simp only[e3]at this
     obtain⟨k1,xs,k2,evs,k3,k4,k5⟩:=this
     exact⟨k1,xs,by rw[Ng i g hg,h3];exact k2,evs,k3,k4,D.aV (fun b _ hn=>⟨rfl,hB b hn⟩) _ _ k5⟩
 ·obtain⟨i',a1,a2,a3⟩:=hold i k h1 h3
  obtain⟨j',b1,b2,b3⟩:=hold j k h2 h4
  have:=hH.apart i' j' k a1 b1 a2 b2
  subst this
  have iu:∀BG,(o' BG).live=true->BG<c->gone BG->False:=fun BG g1 g2 g3=>by
   rw[zm _ g3 g2]at g1
   cases g1
  rcases a3 with⟨a3,a4⟩|⟨ia,ga,ea,a3,a4,a5,a6⟩<;>rcases b3 with⟨b3,b4⟩|⟨ib,gb,eb,b3,b4,b5,b6⟩
  ·omega
  ·exact(iu i h1 a3 (a4 ▸ b5)).elim
  ·exact(iu j h2 b3 (b4 ▸ a5)).elim
  ·have:=We ia ib ga gb _ _ _ a4 b4 a6 b6
   omega
 ·have hi:=HE l 0 he i
  rw[Nat.zero_add]at hi
  exact U1 _ _ _ hi (hd i)
 ·have cq:id<c:=af
  have hr:(o' id).cA=true:=hr
  exact⟨(GV id cq).1.1 hr,JS id cq⟩
 ·have cq:id<c:=af
  have ql:(o' id).cz=some e':=ql
  exact⟨e',(GV id cq).1.2 e' ql,Nat.le_refl _,fun _=>JS id cq⟩
theorem bL.aez (gone:Nat->Prop)(c:Nat){b:Nat}{e:Nat->V}{so:Nat->ad}{m:Nat}(l:List V){o':Nat->ad}(hb:b<=c)
 (ho:∀id,id<c->Dt c [] so gone (so id) (o' id)) (hh:∀id,c<=id->o' id= .no) (zm:∀id,gone id->id<c->o' id= .no) (he:iP c [] so gone e l 0):bL b ⟨e,so,m⟩ ⟨aX l,o',c⟩:=
 bL.see gone [] c l rfl hb ho (fun i g h=>by cases h) hh zm (fun i j gi gj id ep fT h=>by cases h) he
theorem bL.uD (gone:Nat->Prop)(x:V)(c:Nat){ty:TypeId}{sz:Nat}{es:List D}{b:Nat}{e:Nat->V}{so:Nat->ad}{m:Nat}(l:List V){o':Nat->ad}(hb:b<=c)
 (ho:∀id,id<c->Dt c [⟨x,ty,sz,es⟩] so gone (so id) (o' id)) (hc:o' c= .arr 0 ty sz es) (hx:fN so gone ty sz es x) (hh:∀id,c+1<=id->o' id= .no) (zm:∀id,gone id->id<c->o' id= .no)
 (he:iP c [⟨x,ty,sz,es⟩] so gone e l 0):bL b ⟨e,so,m⟩ ⟨aX l,o',c+1⟩:=
 bL.see gone [⟨x,ty,sz,es⟩] c l rfl hb ho (fun i g h=>by
  match i,h with
  |0,h=>simp at h;subst h;exact⟨hc,hx⟩) hh zm (fun i j gi gj id ep fT h h' _ _=>by
  match i,j,h,h' with
  |0,0,_,_=>rfl) he
theorem lt1{P:Nat->Prop}(h:P 0):∀id,id<1->P id:=fun id aw=>by
 have e:id=0:=af
 rw[e];exact h
theorem lt2{P:Nat->Prop}(h:P 0)(h1:P 1):∀id,id<2->P id:=fun id aw=>by
 rcases(by omega:id=0\/id=1)with rfl|rfl<;>assumption
theorem lt0{P:Nat->Prop}:∀id,id<0->P id:=fun id aw=>af
@[go_sem] theorem ahq (b:Bool):(b==false)= !b:=B1
@[go_sem] theorem ahr (b:Bool):(b==true)=b:=B1
@[go_sem] theorem aeA (c:Bool) (v:V):V.AP c (V.AP c v)=V.AP c v:=by cases c<;>rfl
@[go_sem] theorem aeB (c:Bool):(c&&c)=c:=by cases c<;>rfl
@[go_sem] theorem Z9 {α:Type} (f:α->D) (l:List α) (n:Nat) (h:∀x,(f x).cells.length=n):((l.map f).all fun z=>z.cells.length==n)=true:=by
  simp[List.all_eq_true,h]
attribute [go_sem] implies_true
attribute [go_sem] Option.isSome_none Option.getD_some Option.getD_none
theorem structOf{P:Program}{t:TypeId}(h:(match P.underlying t with|some (.struct _)=>true|_=>false)=true):∃fs,P.underlying t=some (.struct fs):=by
 split at h
 ·exact⟨_,by assumption⟩
 ·cases h
theorem bp{pr:List (List Nat)}{fp:List (List Nat×List Nat)}(h:fp.all (fun x=>x.2.isEmpty)=true):eV pr fp=true:=by
 have e:∀i,(fp.getD i ([],[])).2=[]:=fun i=>by
  rw[List.getD_eq_getElem?_getD]
  cases hi:fp[i]? with
  |none=>rfl
  |some x=>simpa using List.all_eq_true.1 h x (List.mem_of_getElem? hi)
 simp only[eV,List.all_eq_true,e,kX,List.all_nil,Bool.and_self,Bool.or_true,implies_true]
structure eS (base:Nat) (h o:Nat->ad) (nx:Nat):Prop where
 cu:Good o nx
 le:base<=nx
 eq:∀id,id<base->o id=h id
def StK(base:Nat)(h:Nat->ad)(v:V)(o:Nat->ad)(nx:Nat)(K:V->(Nat->ad)->Nat->Prop):Prop:=
 ∀o' nx',nx<=nx'->eS base h o' nx'->(∀id,base<=id->id<nx->o' id=o id)->K v o' nx'
def wH(P:Program)(g:FuncId)(args:List V)(base:Nat)(h h2:Nat->ad)(v:V):Prop:=
 ∀o nx,eS base h o nx->∀K X,StK base h2 v o nx K->bP P g args o nx K X
theorem eS.ay {base:Nat}{h o:Nat->ad}{nx m i:Nat}{x:ad}(hI:eS base h o nx)(hb:base<=i)(hi:i<m)(hm:nx<=m)(hx:x.refs.all (fun r=>decide (r<m))=true):eS base h (YtlhemmpklhhgoaaGreat.ay o i x) m:=
 ⟨(hI.cu.mono hm).ay hi hx,Nat.le_trans hI.le hm,fun id aw=>by rw[ae _ _ _ _ (by omega)];exact hI.eq id aw⟩
theorem eS.mono {base:Nat}{h o:Nat->ad}{nx m:Nat}(hI:eS base h o nx)(hm:nx<=m):eS base h o m:=⟨hI.cu.mono hm,Nat.le_trans hI.le hm,hI.eq⟩
def ext(base:Nat)(h o:Nat->ad):Nat->ad:=fun id=>if id<base then h id else o id
theorem eS.ext {base c:Nat}{h o:Nat->ad}{nx:Nat}(hI:eS base h o nx)(hc:c<=nx)(hb:base<=c):eS c (YtlhemmpklhhgoaaGreat.ext base h o) o nx:=
 ⟨hI.cu,hc,fun id _=>by unfold YtlhemmpklhhgoaaGreat.ext;split<;>first|exact hI.eq id (by assumption)|rfl⟩
theorem wH.ext {P:Program}{g:FuncId}{args:List V}{base c:Nat}{h h2:Nat->ad}{v:V}(hS:wH P g args base h h2 v)(hb:base<=c)(o0:Nat->ad):wH P g args c (YtlhemmpklhhgoaaGreat.ext base h o0) (YtlhemmpklhhgoaaGreat.ext base h2 o0) v:=by
 intro o nx hI K X hK
 refine hS o nx ⟨hI.cu,Nat.le_trans hb hI.le,fun id aw=>by rw[hI.eq id (by omega)];unfold YtlhemmpklhhgoaaGreat.ext;rw[if_pos aw]⟩ K X fun o' nx' h1 h2 h3=>hK o' nx' h1 ⟨h2.cu,Nat.le_trans hI.le h1,fun id aw=> ?_⟩ (fun id h4 h5=>h3 id af h5)
 unfold YtlhemmpklhhgoaaGreat.ext
 split
 ·exact h2.eq id (by assumption)
 ·rename_i hn
  rw[h3 id (by omega) (by have:=hI.le;omega),hI.eq id aw]
  unfold YtlhemmpklhhgoaaGreat.ext;rw[if_neg hn]
theorem StK.ext {base c:Nat}{h o:Nat->ad}{v:V}{o1:Nat->ad}{nx BK:Nat}{K:V->(Nat->ad)->Nat->Prop}(hK:StK base h v o nx K)(hb:base<=c)(hn:nx<=BK)(hc:nx<=c)(ho:∀id,base<=id->id<nx->o1 id=o id):StK c (YtlhemmpklhhgoaaGreat.ext base h o1) v o1 BK K:=by
 intro o' nx' h1 h2 h3
 refine hK o' nx' af ⟨h2.cu,Nat.le_trans hb h2.le,fun id aw=> ?_⟩ fun id h4 h5=> ?_
 ·rw[h2.eq id (by omega)];unfold YtlhemmpklhhgoaaGreat.ext;rw[if_pos aw]
 ·rw[h2.eq id (by omega), <- ho id h4 h5];unfold YtlhemmpklhhgoaaGreat.ext;rw[if_neg (by omega)]
def aQ{α σ:Type}(step:σ->α->σ×Bool)(s:σ):List α->σ×Bool
 |[]=>(s,true)
 |x::l=>if(step s x).2=true then aQ step (step s x).1 l else((step s x).1,false)
theorem nQ{P:Program}{id:Nat}{args:List V}{e:Nat->V}{o:Nat->ad}{nx:Nat}{K X:V->(Nat->ad)->Nat->Prop}(h:dQ P id args o nx K X):y0 P id K X ⟨e,o,nx⟩ args:=by unfold y0;exact h
theorem uV{α:Type}(f:Nat->α)(i:Nat)(x y:α):ay (ay f i x) i y=ay f i y:=by
 funext j;simp only[ay];split<;>rfl
attribute [go_sem] Int.cast_ofNat_Int
section
variable {P:Program}{n:Nat}{ps:List Nat}{x y:IC}{env:List V}{L:LoopState->Option ku->ad}
def jj(P:Program)(n:Nat)(env:List V)(ps:List Nat)(x y:IC)(L:LoopState->Option ku->ad):Prop:=∀st pd,L st pd= .loop P.funcs.size n env ps x y st pd
theorem FC{bq:Nat}{gq:Operand}{Q:fK->S->Prop}{e:Nat->V}{o:Nat->ad}{nx:Nat}{f:FuncId}{cap:List V}(env:List V)(he:nP e env 0)
 (h:∀L,jj P n env ps x y L->bP P f (.kH nx::cap) (ay o nx (L .ready none)) (nx+1)
  (fun _ o' nx'=>∃st pd,o' nx=L st pd/\st≠ .busy/\qS Q pd ⟨e,ay o' nx (L .exhausted pd),nx'⟩) (fun v o' nx'=>Q (.bN v) ⟨e,o',nx'⟩)):
 uC P n bq false gq ps x y Q ⟨e,o,nx⟩ (.func (.func f) [] cap):=by
 refine JR env he ?_
 have:=h (fun st pd=> .loop P.funcs.size n env ps x y st pd) (fun _ _=>rfl)
 refine this.mono (fun v o' nx' hh=> ?_) (fun v o' nx' hh=>hh)
 obtain⟨st,pd,h1,h2,h3⟩:=hh
 exact⟨_,_,_,_,_,_,_,_,h1,h2,h3⟩
theorem wI(hL:jj P n env ps x y L)(bf:P.follows .mixedOrders=true){id:Nat}{args:List V}{o:Nat->ad}{nx:Nat}{K X:V->(Nat->ad)->Nat->Prop}{st:LoopState}{pd:Option ku}
 (ho:o id=L st pd) (cq:id<nx) (Ft:ps.all (fun t=>decide (t<n))=true) (hl:args.length=ps.length)
 (h:j7 P n nx true x (sU P n nx id y K X) ⟨pS (aX env) ps args,o,nx⟩):dQ P id args o nx K X:=
 dQ.aG bf (ho.trans (hL st pd)) cq Ft hl h
theorem nR(hL:jj P n env ps x y L){b id:Nat}{fq:IC}{K X:V->(Nat->ad)->Nat->Prop}{e:Nat->V}{o:Nat->ad}{nx:Nat}{pd:Option ku}(h:o id=L .ready pd)
 (h2:j7 P n b true fq (lB id K X) ⟨e,ay o id (L .busy pd),nx⟩):sU P n b id fq K X .normal ⟨e,o,nx⟩:=by
 refine A3 (h.trans (hL _ _)) ?_
 rw[<- hL];exact h2
theorem sW(hL:jj P n env ps x y L){id:Nat}{K X:V->(Nat->ad)->Nat->Prop}{e:Nat->V}{o:Nat->ad}{nx:Nat}{st:LoopState}{pd:Option ku}(h:o id=L st pd)(k:K (.d (.bool true)) (ay o id (L .ready none)) nx):lB id K X .normal ⟨e,o,nx⟩:=
 ⟨_,_,_,_,_,_,_,_,h.trans (hL _ _),by rw[<- hL];exact k⟩
theorem wJ(hL:jj P n env ps x y L){id:Nat}{K X:V->(Nat->ad)->Nat->Prop}{e:Nat->V}{o:Nat->ad}{nx:Nat}{st:LoopState}{pd:Option ku}(h:o id=L st pd)(k:K (.d (.bool false)) (ay o id (L .done (some .ret))) nx):lB id K X .ret ⟨e,o,nx⟩:=
 ⟨_,_,_,_,_,_,_,_,h.trans (hL _ _),by rw[<- hL];exact k⟩
theorem tU(hL:jj P n env ps x y L){id j:Nat}{K X:V->(Nat->ad)->Nat->Prop}{e:Nat->V}{o:Nat->ad}{nx:Nat}{st:LoopState}{pd:Option ku}(h:o id=L st pd)(k:K (.d (.bool false)) (ay o id (L .done (some (.exit j)))) nx):lB id K X (.exit j) ⟨e,o,nx⟩:=
 ⟨_,_,_,_,_,_,_,_,h.trans (hL _ _),by rw[<- hL];exact k⟩
theorem jj.no (hL:jj P n env ps x y L)(st:LoopState)(pd:Option ku):L st pd≠ .no:=by rw[hL];exact ad.noConfusion
theorem jj.refs (hL:jj P n env ps x y L)(st:LoopState)(pd:Option ku):(L st pd).refs=V.aL env:=by rw[hL];rfl
end
end
attribute [go_sem_proc] Int.reduceBEq Int.reduceBNe Int.reduceLT Int.reduceLE Int.reduceEq Int.reduceNe Nat.reducePow Nat.reduceEqDiff Nat.reduceAdd Nat.reduceSub Nat.reduceMul Nat.reduceLeDiff Nat.reduceBEq Nat.reduceLT reduceIte reduceCtorEq Int.reduceToNat
attribute [go_sem] List.range_zero Option.isSome_some and_self List.cons.injEq
theorem I1(n low high:Int):aW Tryz.prog 114 [.i n, .i low, .i high] (.ret [.bool (dU n low high)]):=by
 refine aW.aG mix ads aE ?_
 rw[adr]
 refine a7 ?_
 rfl
theorem Nh{t:Tm}{left depth:Int}(h:left<1\/depth<1):eQ t left depth= -1:=by cases t;simp[eQ,h]
theorem pW{l:List Tm}{left depth:Int}(h:left<0):cH l left depth=left:=by
 cases l with
 |nil=>rfl
 |cons k l=>simp[cH,show ¬ (0<=left) by omega]
theorem Ni:∀t:Tm,∀left depth:Int, -1<=eQ t left depth/\(1<=left->eQ t left depth<=left - 1)/\(left<1->eQ t left depth= -1):=by
 refine Tm.ind fun op n kids ih left depth=> ?_
 have hs:∀ (l:List Tm) (left d:Int),(∀k∈l,k∈kids)-> -1<=left-> -1<=cH l left d/\cH l left d<=left:=by
  intro l
  induction l with
  |nil=>intro left d _ h;simp[cH,h]
  |cons k l Yh=>
   intro left d hk h
   simp only[cH]
   split
   ·rename_i h0
    have h1:=ih k (hk k aE) left d
    have h2:=Yh (eQ k left d) d (fun x hx=>hk x kE) h1.1
    by_cases hl:1<=left
    ·have:=h1.2.1 hl;omega
    ·have:=h1.2.2 af;omega
   ·omega
 simp only[eQ]
 split
 ·rename_i h;refine⟨af,fun h1=> ?_,fun _=>rfl⟩;omega
 ·rename_i h
  have:=hs kids (left - 1) (depth - 1) (fun _ h=>h) af
  exact⟨this.1,fun _=>this.2,fun h=>af⟩
theorem JT(l:List Tm)(left d:Int)(h: -1<=left): -1<=cH l left d/\cH l left d<=left:=by
 induction l generalizing left with
 |nil=>simp[cH,h]
 |cons k l Yh=>
  simp only[cH]
  split
  ·have h1:=Ni k left d
   have h2:=Yh (eQ k left d) h1.1
   by_cases hl:1<=left
   ·have:=h1.2.1 hl;omega
   ·have:=h1.2.2 af;omega
  ·omega
theorem pz(a b:List Tm)(left d:Int):cH (a++b) left d=cH b (cH a left d) d:=by
 induction a generalizing left with
 |nil=>rfl
 |cons k a ih=>
  simp only[List.cons_append,cH]
  split
  ·exact ih _
  ·rename_i h;rw[pW (by omega)]
theorem Du{l:List Tm}{i:Nat}{k:Tm}(hi:l[i]? =some k)(left d:Int)(h:0<=cH (l.take i) left d):cH (l.take (i+1)) left d=eQ k (cH (l.take i) left d) d:=by
 rw[List.take_add_one,hi,pz]
 simp[cH,h]
theorem Dv{l:List Tm}{i:Nat}(left d:Int)(h:cH (l.take i) left d<0):cH l left d=cH (l.take i) left d:=by
 conv=>lhs;rw[<- List.take_append_drop i l]
 rw[pz,pW h]
@[reducible] def pX (cs:List V):Nat->ad:=ay (fun _=> .no) 0 (.row cs)
@[reducible] def FE (cs ds:List V):Nat->ad:=ay (ay (fun _=> .no) 0 (.row cs)) 1 (.row ds)
theorem cT{cs:List V}(h:(ad.row cs).refs.all (fun r=>decide (r<1))=true):Good (pX cs) 1:=(Good.nil (nx:=1)).ay af h
theorem kR{cs ds:List V}(h:(ad.row cs).refs.all (fun r=>decide (r<2))=true)(h2:(ad.row ds).refs.all (fun r=>decide (r<2))=true):Good (FE cs ds) 2:=((Good.nil (nx:=2)).ay af h).ay af h2
theorem bL.d1 {e:Nat->V}{so o:Nat->ad}{m:Nat}(l:List V)(hg:Good o 1)(hm:1<=m)(h0:so 0=o 0)(he:lP 1 e l 0):bL 0 ⟨e,so,m⟩ ⟨aX l,o,1⟩:=
 bL.bS l (Nat.zero_le _) hm hg (fun id h=>by obtain rfl:id=0:=af
                                             exact h0) he
theorem bL.d2 {e:Nat->V}{so o:Nat->ad}{m:Nat}(l:List V)(hg:Good o 2)(hm:2<=m)(h0:so 0=o 0)(h1:so 1=o 1)(he:lP 2 e l 0):bL 0 ⟨e,so,m⟩ ⟨aX l,o,2⟩:=
 bL.bS l (Nat.zero_le _) hm hg (fun id h=>by
  rcases(by omega:id=0\/id=1)with rfl|rfl
  ·exact h0
  ·exact h1) he
@[reducible] def Tm.row (t:Tm):List V:=[.d (.i t.op), .d (.i t.n), .d (.sl (t.kids.map Tm.d))]
theorem Dw(t:Tm)(left depth:Int):eQ t left depth=if left<1\/depth<1 then -1 else cH t.kids (left - 1) (depth - 1):=by cases t;simp[eQ,Tm.kids]
theorem A6:∀t:Tm,t.fits->∀left depth:Int, -1<=left/\left<=1000000-> -1<=depth/\depth<=1000000->aW Tryz.prog 87 [t.d, .i left, .i depth] (.ret [.i (eQ t left depth)]):=by
 refine Tm.ek fun t ih hf left depth hl hd=> ?_
 have xP:=(Tm.cj _).1 hf
 refine aW.aG mix agQ aE ?_
 rw[c87]
 refine a7 ?_
 refine ak (fun h1=> ?_) (fun h1=> ?_)
 ·refine a7 ?_
  simp at h1
  rw[Nh h1]
 ·simp at h1
  refine a7 ?_
  rw[wrap64 (n:=left - 1) (by omega) (by omega),Dw,if_neg (by omega)]
  refine aD (fun k:Nat=>⟨aX [.ab, .d (.i (cH (t.kids.take k) (left - 1) (depth - 1))), .d (.i depth), .ptr 0 0, .ab, .ab, .ab, .d (.i k)],pX t.row,1⟩)
   (fun k=>k<=t.kids.length) (fun k=>t.kids.length - k) 0 (Nat.zero_le _) (bL.d1 _ (cT rfl) af rfl ?_) (fun k hk=> ?_)
  ·exact dT
  have hb:=JT (t.kids.take k) (left - 1) (depth - 1) af
  refine a7 ?_
  refine ak (fun h2=> ?_) (fun h2=> ?_)
  ·simp at h2
   obtain⟨x,hx⟩:∃x,t.kids[k]? =some x:=⟨t.kids[k],by simp[h2.1]⟩
   have cf:=List.mem_of_getElem? hx
   refine kU hx ?_
   rw[wrap64 (n:=depth - 1) (by omega) (by omega)]
   refine aq (ih x cf (xP.2 x cf) _ _ af af) rfl ?_
   refine a7 ?_
   rw[<- Du hx _ _ h2.2]
   refine aj (k+1) h2.1 af (bL.d1 _ (cT rfl) af rfl ?_)
   exact dT
  ·refine a7 ?_
   simp only[Bool.and_eq_false_iff,decide_eq_false_iff_not]at h2
   congr 3
   rcases h2 with h2|h2
   ·rw[List.take_of_length_le (by omega)]
   ·exact Dv _ _ af
theorem Yi(s:List UInt8)(hs:s.length<=9223372036854775807):aW Tryz.prog 139 [.str s] (.ret [.bool (j8 s)]):=by
 refine aW.aG mix adK aE ?_
 rw[adJ]
 refine a7 ?_
 refine aD (fun k:Nat=>⟨aX [.d (.str s), .ab, .ab, .d (.i k)],fun _=> .no,0⟩)
  (fun k=>k<=s.length/\(s.take k).all letterF=true) (fun k=>s.length - k) 0 ⟨Nat.zero_le _,aE⟩ (bL.d0 _ ?_) (fun k hk=> ?_)
 ·exact dT
 refine a7 ?_
 refine ak (fun h2=> ?_) (fun h2=> ?_)
 ·simp at h2
  obtain⟨x,hx⟩:∃x,s[k]? =some x:=⟨s[k],by simp[h2]⟩
  refine kU hx ?_
  refine ak (fun h3=> ?_) (fun h3=> ?_)
  ·refine a7 ?_
   have:j8 s=false:=by
    have:s.all letterF=false:=by
     rw[List.all_eq_false]
     refine⟨x,List.mem_of_getElem? hx, ?_⟩
     simp only[letterF,h3];simp
    simp[j8,this]
   rw[this]
  ·refine a7 ?_
   refine aj (k+1) ⟨h2, ?_⟩ af (bL.d0 _ ?_)
   ·rw[List.take_add_one,hx,List.all_append,hk.2]
    simp[letterF,h3]
   ·exact dT
 ·refine a7 ?_
  refine aq (I1 _ _ _) rfl ?_
  refine a7 ?_
  simp at h2
  have:=hk.2
  rw[List.take_of_length_le (by omega)]at this
  simp[j8,this]
theorem HH(l:List dX)(bs:List (List UInt8))(hl:l.length<=1000)(hb:bs.length<=1000)(hs:∀x∈l,x.name.length<=9223372036854775807):
 aW Tryz.prog 115 [.sl (l.map dX.d), .sl (bs.map .str)] (.ret [.sl (((cG l bs).getD []).map .str), .bool (cG l bs).isSome]):=by
 refine aW.aG mix adu aE ?_
 rw[adt]
 refine a7 ?_
 refine aD (fun k:Nat=>⟨aX [.d (.sl (l.map dX.d)), .d (.sl ((bs++(l.take k).map (·.name)).map .str)), .ab, .ab, .ab, .ab, .d (.i k)],fun _=> .no,0⟩)
  (fun k=>k<=l.length/\cG l bs=cG (l.drop k) (bs++(l.take k).map (·.name))) (fun k=>l.length - k) 0 ⟨Nat.zero_le _,aE⟩ (bL.d0 _ ?_) (fun k hk=> ?_)
 ·simp only[List.take_zero,List.map_nil,List.append_nil]
  exact dT
 refine a7 ?_
 refine ak (fun h2=> ?_) (fun h2=> ?_)
 ·simp at h2
  obtain⟨x,hx⟩:∃x,l[k]? =some x:=⟨l[k],by simp[h2]⟩
  have cf:=List.mem_of_getElem? hx
  have CW:l.drop k=x::l.drop (k+1):=by
   rw[List.drop_eq_getElem_cons h2]
   rw[List.getElem?_eq_getElem h2]at hx;injection hx with hx;rw[hx]
  generalize hB:bs++(l.take k).map (·.name)=B at*
  have hBl:B.length<=2000:=by rw[<- hB];simp;omega
  refine a7 ?_
  refine aD (fun j:Nat=>⟨aX [.d (.sl (l.map dX.d)), .d (.sl (B.map .str)), .ab, .ab, .ab, .ab, .d (.i k), .d (.i j)],fun _=> .no,0⟩)
   (fun j=>j<=B.length/\(B.take j).any (· ==x.name)=false) (fun j=>B.length - j) 0 ⟨Nat.zero_le _,aE⟩ (bL.d0 _ ?_) (fun j hj=> ?_)
  ·exact dT
  refine a7 ?_
  refine ak (fun h3=> ?_) (fun h3=> ?_)
  ·simp at h3
   obtain⟨y,hy⟩:∃y,B[j]? =some y:=⟨B[j],by simp[h3]⟩
   simp+contextual only[go_sem,hx,hy]
   refine aK bF ?_
   refine a7 ?_
   refine ak (fun h4=> ?_) (fun h4=> ?_)
   ·refine a7 ?_
    have:cG l bs=none:=by
     rw[hk.2,CW,cG,if_pos]
     rw[List.any_eq_true]
     exact⟨y,List.mem_of_getElem? hy,h4⟩
    rw[this];rfl
   ·refine a7 ?_
    refine aj (j+1) ⟨h3, ?_⟩ af (bL.d0 _ ?_)
    ·rw[List.take_add_one,hy,List.any_append,hj.2]
     simp only[Option.toList_some,List.any_cons,h4,List.any_nil,Bool.or_false]
    ·exact dT
  ·simp at h3
   have Yj:=hj.2
   rw[List.take_of_length_le (by omega)]at Yj
   refine kU hx ?_
   refine aq (Yi x.name (hs x cf)) rfl ?_
   refine kU hx ?_
   refine iL (gH [.bool (dU x.args 0 4)] ?_ ?_)
   ·exact GM
   refine a7 ?_
   refine ak (fun h4=> ?_) (fun h4=> ?_)
   ·refine a7 ?_
    have:cG l bs=none:=by
     rw[hk.2,CW,cG,if_neg (by rw[Yj];exact Bool.false_ne_true),if_pos h4]
    rw[this];rfl
   ·have e1:B.length<=140737488355328:=af
    have e2:B.length*16<=140737488355328:=af
    have e3:B.length<=140737488355327:=af
    have e4:(B.length+1)*16<=140737488355328:=af
    simp+contextual only[go_sem,hx,e1,e2,e3,e4]
    refine aK bF ?_
    refine a7 ?_
    have hn:cG l bs=cG (l.drop (k+1)) (bs++(l.take (k+1)).map (·.name)):=by
     rw[hk.2,CW,cG,if_neg (by rw[Yj];exact Bool.false_ne_true),if_neg (by rw[h4];exact Bool.false_ne_true), <- hB,List.take_add_one,hx]
     simp
    refine aj (k+1) ⟨h2,hn⟩ af (bL.aez (fun _=>True) 0 _ (Nat.le_refl _) lt0 (fun _ _=>rfl) (fun _ _ _=>rfl) ?_)
    have hB2:(bs++(l.take (k+1)).map (·.name)).map D.str=B.map D.str++[D.str x.name]:=by
     rw[<- hB,List.take_add_one,hx];simp
    rw[hB2]
    exact jH
 ·refine a7 ?_
  simp at h2
  have:cG l bs=some (bs++l.map (·.name)):=by
   rw[hk.2,List.drop_eq_nil_of_le (by omega),cG,List.take_of_length_le (by omega)]
  rw[this,List.take_of_length_le (by omega)]
  rfl
theorem Yk(a b:List UInt8)(m n:Int):pf Tryz.prog 100 124 (.agg [.str a, .i m]) (.agg [.str b, .i n])=some (a==b&&m==n):=by
 have h1:bO Tryz.prog 124=some (.struct [(9,0),(3,1)]):=ai
 have h2:bO Tryz.prog 9=some .str:=ai
 have h3:bO Tryz.prog 3=some .int:=ai
 have h4:dg Tryz.prog 9=some false:=ai
 have h5:dg Tryz.prog 3=some false:=ai
 simp[pf,h1,h2,h3,h4,h5,yu,PH,iW,EJ]
@[go_sem] theorem agX (o:Nat->ad) (ng:Bool) (a b:List UInt8) (m n:Int):qu Tryz.prog o 124 ng (.d (.agg [.str a, .i m])) (.d (.agg [.str b, .i n]))=some (.d (.bool (a==b&&m==n))):=by
  obtain⟨fs,h⟩:∃fs,Tryz.prog.underlying 124=some (.struct fs):=structOf ai
  have h2:Tryz.prog.eqGuardType Tryz.prog.depth 124=false:=ai
  unfold qu
  rw[h]
  dsimp only
  rw[if_pos h2,Yk]
  rfl
theorem JU{l:List dX}{bs B:List (List UInt8)}(h:cG l bs=some B):B=bs++l.map (·.name):=by
 induction l generalizing bs with
 |nil=>simp[cG]at h;simp[h]
 |cons x l ih=>
  simp only[cG]at h
  split at h
  ·cases h
  ·split at h
   ·cases h
   ·rw[ih h];simp
structure az.Fits (s:az):Prop where
 lc:s.cons.length<=9223372036854775807
 lf:s.bZ.length<=9223372036854775807
 nc:∀x∈s.cons,x.name.length<=9223372036854775807
 nf:∀x∈s.bZ,x.name.length<=9223372036854775807
theorem U2(s:az)(hs:s.Fits):aW Tryz.prog 75 [s.d] (.ret [.bool (ji s)]):=by
 refine aW.aG mix agJ aE ?_
 rw[c75]
 refine a7 ?_
 refine aq (I1 _ _ _) rfl ?_
 refine a7 ?_
 cases h1:(!dU s.cons.length 2 12||decide (8<(s.bZ.length:Int)))with
 |true=>
  refine kU h1 ?_
  simp only[ji,h1,if_true]
 |false=>
  simp[dU]at h1
  obtain⟨a,b,r,hc⟩:∃a b r,s.cons=a::b::r:=by
   match h:s.cons with
   |[]=>exact GG
   |[a]=>exact GG
   |a::b::r=>exact⟨a,b,r,rfl⟩
  have fh:(!dU s.cons.length 2 12||decide (8<(s.bZ.length:Int)))=false:=by simp[dU];omega
  simp+contextual only[go_sem,fh,hc]
  have uE:ji s=if(!mX a fB|| !mX b tB)=true then false else match cG s.cons []with
   |none=>false
   |some l=>(cG s.bZ l).isSome:=by
   unfold ji
   rw[if_neg (by rw[fh];exact Bool.false_ne_true),hc]
   dsimp only
   rfl
  refine ak (fun h2=> ?_) (fun h2=> ?_)
  ·refine a7 ?_
   have mR:(!mX a fB|| !mX b tB)=true:=h2
   rw[uE,if_pos mR]
  ·simp+contextual only[go_sem,hc]
   have hl:(a::b::r).length<=1000:=by rw[<- hc];omega
   have BH:=HH (a::b::r) [] hl aE (by rw[<- hc];exact hs.nc)
   simp only[List.map_cons,List.map_nil]at BH
   refine bE BH ?_
   have mR:(!mX a fB|| !mX b tB)=false:=h2
   rw[uE,if_neg (by rw[mR];exact Bool.false_ne_true),hc]
   cases hn:cG (a::b::r) []with
   |none=>simp+contextual only[go_sem,hn]
   |some B=>
    refine kU hn ?_
    have hB:B.length<=1000:=by
     have:=JU hn
     rw[this];simp at hl|-;omega
    have agY:=HH s.bZ B af hB hs.nf
    refine bE agY ?_
    simp+contextual only[go_sem]
end Go.Proofs.YtlhemmpklhhgoaaGreat
