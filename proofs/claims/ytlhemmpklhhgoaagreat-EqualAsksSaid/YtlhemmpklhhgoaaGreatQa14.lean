/-
  A PART OF THE PROOF. Conditions: none.
-/
import Derived.Test.YtlhemmpklhhgoaaGreatRows
import Derived.Shelf.SlMaps.Clone
import Derived.Test.YtlhemmpklhhgoaaGreatQa13
set_option linter.unusedSimpArgs false
set_option linter.unusedVariables false
section
namespace Go.Proofs.YtlhemmpklhhgoaaGreat
open Go.Shelf
def Dt:Go.Shelf.Ren:=⟨fun|5=>100|7=>130|n=>n,fun|23=>93|25=>3|3=>33|4=>4|20=>20|n=>n,fun|n=>n⟩
theorem S8:Go.Proofs.SlLaysW.n5 Tryz.prog Dt:={
 mixed:=ai
 f5:=⟨Tryz.f100.name,cE,Tryz.func100.trans (congrArg some ai)⟩
 f7:=Tryz.func130.trans (congrArg some ai)
 t4:=Tryz.underlying4
 a4:=Tryz.isAgg4
 z4:=Tryz.sizeOf4
 v4:=Tryz.zeroValue4
 t20:=Tryz.underlying20
 a20:=Tryz.isAgg20
 z20:=Tryz.sizeOf20
 v20:=Tryz.zeroValue20
 t23:=Tryz.underlying93
 a23:=Tryz.isAgg93
 z23:=Tryz.sizeOf93
 v23:=Tryz.zeroValue93}
theorem JD:EV Tryz.prog 100:=⟨⟨_,Tryz.func100,ai,ai⟩,fun w b es clock hb=>AnyW.maps_Clone S8 b es clock w hb⟩
end Go.Proofs.YtlhemmpklhhgoaaGreat
end
namespace Go.Proofs.YtlhemmpklhhgoaaGreat
theorem mix:Tryz.prog.follows .mixedOrders=true:=ai
def zn:Tr FD:= .e fun _=> .no
theorem zt{f:Nat->Nat}:Tr.E9 (fun(g:Nat) (d:FD)=>d.Ok Tryz.prog g) zn f:=fun _=>trivial
def Z7:Tr FD:=
 (.n .no (.n .no (.n .no (.n .no (.n (.fn 34 c15 [.cell 6 29, .tmp 7]) (.n .no (.n (.fn 27 c63 [.cell 6 95, .tmp 7]) zn (.n (.fn 15 ZZ [.tmp 6]) zn zn)) (.n .no (.n (.fn 4 SM [.tmp 2]) zn zn) zn)) (.n (.fn 9 c47 [.cell 4 33]) (.n (.fn 167 c79 [.cell 2 95, .tmp 3]) zn zn) (.n (.fn 4 YQ [.tmp 2]) (.n (.fn 49 Zx []) zn zn) zn))) (.n .no (.n .no (.n .no (.n (.fn 11 Y8 []) zn zn) (.n (.fn 14 S6 [.tmp 4]) zn zn)) (.n (.fn 133 Sv []) (.n (.fn 8 SR [.tmp 3]) zn zn) zn)) (.n .no zn (.n (.fn 46 Sy [.tmp 2]) (.n (.fn 168 ZN [.tmp 8, .tmp 9]) zn zn) zn)))) (.n .no (.n .no (.n (.fn 40 c35 [.tmp 6, .tmp 7]) (.n (.fn 45 c67 [.tmp 2, .tmp 3]) zn (.n (.fn 14 S2 [.tmp 4]) zn zn)) (.n (.fn 22 c99 [.tmp 4]) (.n (.fn 8 Zv [.tmp 2]) zn zn) zn)) (.n (.fn 6 c51 [.cell 2 33]) (.n .no (.n (.fn 18 SI [.tmp 4]) zn zn) zn) (.n .no (.n (.fn 32 ZF []) zn zn) zn))) (.n .no (.n .no zn (.n (.fn 6 YK [.cell 2 33]) (.n (.fn 39 SV [.cell 4 4]) zn zn) zn)) (.n .no (.n (.fn 35 c91 [.tmp 8]) zn zn) (.n .no (.n (.fn 19 S0 [.cell 0 210]) zn zn) zn))))) (.n .no (.n .no (.n .no (.n .no (.n (.fn 66 c65 [.cell 2 29]) (.n (.fn 32 SC [.tmp 4, .tmp 5, .tmp 6]) zn zn) (.n (.fn 6 Z3 [.tmp 2]) zn zn)) (.n .no (.n (.fn 13 Zr [.tmp 4]) zn zn) zn)) (.n (.fn 10 c49 [.cell 0 29]) (.n .no (.n (.fn 28 SG [.tmp 2]) zn zn) zn) (.n .no (.n (.fn 65 ZB []) zn zn) zn))) (.n (.fn 46 c25 [.tmp 4]) (.n .no (.n (.fn 33 c73 [.tmp 4]) zn (.n (.fn 28 Z5 [.tmp 8, .tmp 9]) zn zn)) (.n (.fn 8 YG [.tmp 2]) (.n (.fn 18 SS [.tmp 4]) zn zn) zn)) (.n .no zn (.n (.fn 15 SA [.tmp 2]) (.n (.fn 25 ZR [.tmp 2]) zn zn) zn)))) (.n .no (.n (.fn 70 c21 [.tmp 4]) (.n .no (.n (.fn 9 c69 [.tmp 2]) (.n (.fn 32 SE [.tmp 6]) zn zn) (.n (.fn 27 S4 [.tmp 4]) zn zn)) (.n (.dfr 6 JA Ss 131 3 [.tmp 2] [.cell 2 36] 14 5 5 Jy) (.n (.fn 17 SP [.tmp 4]) zn zn) zn)) (.n .no (.n (.fn 8 c85 [.cell 4 33]) (.n (.fn 4 SK [.tmp 2]) zn zn) zn) (.n .no (.n (.fn 17 ZJ [.tmp 4]) zn zn) zn))) (.n .no (.n .no zn (.n (.fn 17 YM []) (.n (.fn 17 SX [.tmp 6]) zn zn) zn)) (.n .no zn (.n .no (.n (.fn 7 ZV [.tmp 2]) zn zn) zn)))))) (.n .no (.n .no (.n .no (.n (.fn 62 c16 [.cell 6 29, .tmp 7]) (.n .no (.n (.fn 45 c64 [.cell 6 95, .tmp 7]) zn (.n (.fn 36 Z1 [.tmp 10]) zn zn)) (.n .no (.n (.fn 16 SN [.cell 2 4]) zn zn) zn)) (.n (.fn 5 c48 [.cell 2 33]) (.n (.fn 5 c80 [.cell 2 33]) (.n (.fn 24 SF [.tmp 3]) zn zn) zn) (.n (.fn 21 Mv [.cell 4 33]) (.n (.fn 56 Zz []) zn zn) zn))) (.n (.fn 94 c24 [.cell 2 43, .tmp 3]) (.n (.fn 46 c40 [.tmp 4]) (.n .no (.n (.fn 14 Za []) zn zn) (.n (.fn 14 S7 [.tmp 4]) zn zn)) (.n (.fn 9 Sw [.tmp 2]) zn zn)) (.n .no (.n (.fn 9 c88 [.tmp 4]) zn zn) (.n (.fn 14 Sz [.tmp 6]) (.n (.fn 19 ZP [.tmp 2]) zn zn) zn)))) (.n .no (.n .no (.n .no (.n (.fn 33 c68 [.cell 4 33]) (.n (.fn 47 SD []) zn zn) (.n (.fn 27 S3 [.tmp 4]) zn zn)) (.n .mpc (.n (.fn 8 SO []) zn zn) zn)) (.n (.fn 2 c52 [.cell 0 33]) (.n .no (.n (.fn 34 SJ [.cell 6 4]) zn zn) zn) (.n .no (.n (.fn 133 ZH [.tmp 6]) zn zn) zn))) (.n .no (.n .no zn (.n (.fn 24 Sx [.tmp 4]) (.n (.fn 8 SW []) zn zn) zn)) (.n (.fn 42 c60 [.tmp 4]) zn (.n .no (.n (.fn 76 ZT []) zn zn) zn))))) (.n .no (.n .no (.n .no (.n .no (.n (.fn 16 c66 [.tmp 4]) zn (.n (.fn 14 S1 [.tmp 4]) zn zn)) (.n .no (.n (.fn 134 Zt []) zn zn) zn)) (.n (.fn 2 c50 [.cell 0 33]) (.n .no (.n (.fn 15 SH [.tmp 6]) zn zn) zn) (.n .no (.n (.fn 57 ZD [.tmp 6, .tmp 7]) zn zn) zn))) (.n .no (.n .no (.n (.fn 50 c74 [.tmp 4]) zn zn) (.n (.fn 8 YI [.tmp 2]) (.n (.fn 7 SU [.tmp 3]) zn zn) zn)) (.n .no zn (.n .no (.n (.fn 19 SZ [.tmp 4]) zn zn) zn)))) (.n (.fn 101 c14 [.tmp 0]) (.n .no (.n .no (.n .no (.n (.fn 5 Y6 [.tmp 2]) zn zn) (.n (.fn 27 S5 [.tmp 4]) zn zn)) (.n (.fn 7 Su []) (.n (.fn 9 SQ [.tmp 4]) zn zn) zn)) (.n .no zn (.n .no (.n (.fn 84 ZL [.tmp 8]) zn zn) zn))) (.n .no (.n (.fn 10 c46 [.cell 0 29]) zn (.n (.fn 9 YO [.tmp 2]) (.n (.fn 10 SY [.tmp 4]) zn zn) zn)) (.n (.fn 12 c62 [.cell 0 24]) (.n .no (.n (.fn 13 SL [.tmp 4]) zn zn) zn) (.n (.fn 19 SB [.tmp 4]) (.n (.fn 33 ZX [.tmp 2]) zn zn) zn)))))))
noncomputable def bI:Nat->FD:=Z7.get
theorem gB:∀g,(bI g).Ok Tryz.prog g:=
 Tr.yU (p:=fun g d=>d.Ok Tryz.prog g) (f:=fun g=>g) Z7
   ⟨trivial,⟨trivial,⟨trivial,⟨trivial,⟨abU,⟨trivial,⟨Yv,zt,⟨Z0,zt,zt⟩⟩,⟨trivial,⟨PD,zt,zt⟩,zt⟩⟩,⟨ab6,⟨YB,zt,zt⟩,⟨YR,⟨Zy,zt,zt⟩,zt⟩⟩⟩,⟨trivial,⟨trivial,⟨trivial,⟨Y9,zt,zt⟩,⟨PX,zt,zt⟩⟩,⟨Pl,⟨PI,zt,zt⟩,zt⟩⟩,⟨trivial,zt,⟨Pp,⟨ZO,zt,zt⟩,zt⟩⟩⟩⟩,⟨trivial,⟨trivial,⟨Sr,⟨acg,zt,⟨PT,zt,zt⟩⟩,⟨YF,⟨Zw,zt,zt⟩,zt⟩⟩,⟨aca,⟨trivial,⟨Pz,zt,zt⟩,zt⟩,⟨trivial,⟨ZG,zt,zt⟩,zt⟩⟩⟩,⟨trivial,⟨trivial,zt,⟨YL,⟨PL,zt,zt⟩,zt⟩⟩,⟨trivial,⟨YE,zt,zt⟩,⟨trivial,⟨PR,zt,zt⟩,zt⟩⟩⟩⟩⟩,⟨trivial,⟨trivial,⟨trivial,⟨trivial,⟨acf,⟨Pt,zt,zt⟩,⟨Z4,zt,zt⟩⟩,⟨trivial,⟨Zs,zt,zt⟩,zt⟩⟩,⟨ab8,⟨trivial,⟨Px,zt,zt⟩,zt⟩,⟨trivial,⟨ZC,zt,zt⟩,zt⟩⟩⟩,⟨ab0,⟨trivial,⟨Yz,zt,⟨Z6,zt,zt⟩⟩,⟨YH,⟨PJ,zt,zt⟩,zt⟩⟩,⟨trivial,zt,⟨Pr,⟨ZS,zt,zt⟩,zt⟩⟩⟩⟩,⟨trivial,⟨Yr,⟨trivial,⟨ach,⟨Pv,zt,zt⟩,⟨PV,zt,zt⟩⟩,⟨⟨JB,Jz⟩,⟨PG,zt,zt⟩,zt⟩⟩,⟨trivial,⟨acq,⟨PB,zt,zt⟩,zt⟩,⟨trivial,⟨ZK,zt,zt⟩,zt⟩⟩⟩,⟨trivial,⟨trivial,zt,⟨YN,⟨PN,zt,zt⟩,zt⟩⟩,⟨trivial,zt,⟨trivial,⟨ZW,zt,zt⟩,zt⟩⟩⟩⟩⟩⟩,⟨trivial,⟨trivial,⟨trivial,⟨abV,⟨trivial,⟨Yw,zt,⟨Z2,zt,zt⟩⟩,⟨trivial,⟨PE,zt,zt⟩,zt⟩⟩,⟨ab7,⟨YC,⟨Pw,zt,zt⟩,zt⟩,⟨JC,⟨ZA,zt,zt⟩,zt⟩⟩⟩,⟨abZ,⟨Yt,⟨trivial,⟨Zb,zt,zt⟩,⟨PY,zt,zt⟩⟩,⟨Pm,zt,zt⟩⟩,⟨trivial,⟨YD,zt,zt⟩,⟨Pq,⟨ZQ,zt,zt⟩,zt⟩⟩⟩⟩,⟨trivial,⟨trivial,⟨trivial,⟨Yy,⟨Pu,zt,zt⟩,⟨PU,zt,zt⟩⟩,⟨JD,⟨PF,zt,zt⟩,zt⟩⟩,⟨acb,⟨trivial,⟨PA,zt,zt⟩,zt⟩,⟨trivial,⟨ZI,zt,zt⟩,zt⟩⟩⟩,⟨trivial,⟨trivial,zt,⟨Po,⟨PM,zt,zt⟩,zt⟩⟩,⟨Yu,zt,⟨trivial,⟨ZU,zt,zt⟩,zt⟩⟩⟩⟩⟩,⟨trivial,⟨trivial,⟨trivial,⟨trivial,⟨Yx,zt,⟨PS,zt,zt⟩⟩,⟨trivial,⟨Zu,zt,zt⟩,zt⟩⟩,⟨ab9,⟨trivial,⟨Py,zt,zt⟩,zt⟩,⟨trivial,⟨ZE,zt,zt⟩,zt⟩⟩⟩,⟨trivial,⟨trivial,⟨YA,zt,zt⟩,⟨YJ,⟨PK,zt,zt⟩,zt⟩⟩,⟨trivial,zt,⟨trivial,⟨PQ,zt,zt⟩,zt⟩⟩⟩⟩,⟨abT,⟨trivial,⟨trivial,⟨trivial,⟨Y7,zt,zt⟩,⟨PW,zt,zt⟩⟩,⟨Pk,⟨PH,zt,zt⟩,zt⟩⟩,⟨trivial,zt,⟨trivial,⟨ZM,zt,zt⟩,zt⟩⟩⟩,⟨trivial,⟨ab5,zt,⟨YP,⟨PO,zt,zt⟩,zt⟩⟩,⟨ace,⟨trivial,⟨PC,zt,zt⟩,zt⟩,⟨Ps,⟨ZY,zt,zt⟩,zt⟩⟩⟩⟩⟩⟩⟩
end Go.Proofs.YtlhemmpklhhgoaaGreat
namespace Go.Proofs.YtlhemmpklhhgoaaGreat
@[go_sem] theorem cellsOf_3:Tryz.prog.cellsOf 3=1:=ai
@[go_sem] theorem bytesOf_3:Tryz.prog.bytesOf 3=8:=ai
@[go_sem] theorem aggT_3:db Tryz.prog 3=some false:=ai
@[go_sem] theorem infoT_3:(Tryz.prog.info? 3).isSome=true:=ai
@[go_sem] theorem undT_3:Tryz.prog.underlying 3=some (.int .i64):=ai
@[go_sem] theorem eqShape_3:bC Tryz.prog 3=some .int:=ai
@[go_sem] theorem zeroT_3:ct Tryz.prog 3=some [.d (.int .i64 0)]:=ai
@[go_sem] theorem cellsOf_4:Tryz.prog.cellsOf 4=1:=ai
@[go_sem] theorem aggT_4:db Tryz.prog 4=some false:=ai
@[go_sem] theorem infoT_4:(Tryz.prog.info? 4).isSome=true:=ai
@[go_sem] theorem zeroT_4:ct Tryz.prog 4=some [.d (.bool false)]:=ai
@[go_sem] theorem zeroV_4:zeroV Tryz.prog 4=some (.d (.bool false)):=ai
@[go_sem] theorem cellsOf_9:Tryz.prog.cellsOf 9=1:=ai
@[go_sem] theorem bytesOf_9:Tryz.prog.bytesOf 9=16:=ai
@[go_sem] theorem aggT_9:db Tryz.prog 9=some false:=ai
@[go_sem] theorem undT_9:Tryz.prog.underlying 9=some .string:=ai
@[go_sem] theorem eqShape_9:bC Tryz.prog 9=some .str:=ai
@[go_sem] theorem zeroT_9:ct Tryz.prog 9=some [.d (.str [])]:=ai
@[go_sem] theorem sliceT_22:bP Tryz.prog 22=some 124:=ai
@[go_sem] theorem aggT_22:db Tryz.prog 22=some false:=ai
@[go_sem] theorem undT_22:Tryz.prog.underlying 22=some (.slice 124):=ai
@[go_sem] theorem cellsOf_24:Tryz.prog.cellsOf 24=2:=ai
@[go_sem] theorem aggT_24:db Tryz.prog 24=some true:=ai
@[go_sem] theorem cellsOf_25:Tryz.prog.cellsOf 25=1:=ai
@[go_sem] theorem sliceT_25:bP Tryz.prog 25=some 59:=ai
@[go_sem] theorem aggT_25:db Tryz.prog 25=some false:=ai
@[go_sem] theorem intT_25:tE Tryz.prog 25=none:=ai
@[go_sem] theorem infoT_25:(Tryz.prog.info? 25).isSome=true:=ai
@[go_sem] theorem undT_25:Tryz.prog.underlying 25=some (.slice 59):=ai
@[go_sem] theorem sliceT_26:bP Tryz.prog 26=some 101:=ai
@[go_sem] theorem aggT_26:db Tryz.prog 26=some false:=ai
@[go_sem] theorem undT_26:Tryz.prog.underlying 26=some (.slice 101):=ai
@[go_sem] theorem sliceT_27:bP Tryz.prog 27=some 77:=ai
@[go_sem] theorem aggT_27:db Tryz.prog 27=some false:=ai
@[go_sem] theorem undT_27:Tryz.prog.underlying 27=some (.slice 77):=ai
@[go_sem] theorem cellsOf_29:Tryz.prog.cellsOf 29=5:=ai
@[go_sem] theorem aggT_29:db Tryz.prog 29=some true:=ai
@[go_sem] theorem aggT_30:db Tryz.prog 30=some false:=ai
@[go_sem] theorem undT_30:Tryz.prog.underlying 30=some (.int .i64):=ai
@[go_sem] theorem cellsOf_31:Tryz.prog.cellsOf 31=1:=ai
@[go_sem] theorem sliceT_31:bP Tryz.prog 31=some 33:=ai
@[go_sem] theorem aggT_31:db Tryz.prog 31=some false:=ai
@[go_sem] theorem intT_31:tE Tryz.prog 31=none:=ai
@[go_sem] theorem infoT_31:(Tryz.prog.info? 31).isSome=true:=ai
@[go_sem] theorem undT_31:Tryz.prog.underlying 31=some (.slice 33):=ai
@[go_sem] theorem cellsOf_33:Tryz.prog.cellsOf 33=3:=ai
@[go_sem] theorem bytesOf_33:Tryz.prog.bytesOf 33=40:=ai
@[go_sem] theorem aggT_33:db Tryz.prog 33=some true:=ai
@[go_sem] theorem infoT_33:(Tryz.prog.info? 33).isSome=true:=ai
@[go_sem] theorem zeroT_33:ct Tryz.prog 33=some [.d (.int .i64 0), .d (.int .i64 0), .aM]:=ai
@[go_sem] theorem zeroV_33:zeroV Tryz.prog 33=some (lR [.d (.int .i64 0), .d (.int .i64 0), .aM]):=ai
@[go_sem] theorem placesT_33:cW Tryz.prog 33=some [(0,1),(1,1),(2,1)]:=ai
@[go_sem] theorem cellsOf_36:Tryz.prog.cellsOf 36=1:=ai
@[go_sem] theorem aggT_36:db Tryz.prog 36=some false:=ai
@[go_sem] theorem infoT_36:(Tryz.prog.info? 36).isSome=true:=ai
@[go_sem] theorem zeroT_36:ct Tryz.prog 36=some [.d (.int .i64 0)]:=ai
@[go_sem] theorem cellsOf_59:Tryz.prog.cellsOf 59=4:=ai
@[go_sem] theorem bytesOf_59:Tryz.prog.bytesOf 59=48:=ai
@[go_sem] theorem aggT_59:db Tryz.prog 59=some true:=ai
@[go_sem] theorem infoT_59:(Tryz.prog.info? 59).isSome=true:=ai
@[go_sem] theorem zeroT_59:ct Tryz.prog 59=some [.d (.int .i64 0), .d (.int .i64 0), .d (.int .i64 0), .aM]:=ai
@[go_sem] theorem placesT_59:cW Tryz.prog 59=some [(0,1),(1,3)]:=ai
@[go_sem] theorem cellsOf_77:Tryz.prog.cellsOf 77=2:=ai
@[go_sem] theorem aggT_77:db Tryz.prog 77=some true:=ai
@[go_sem] theorem infoT_77:(Tryz.prog.info? 77).isSome=true:=ai
@[go_sem] theorem zeroT_77:ct Tryz.prog 77=some [.d (.int .i64 0), .d (.int .i64 0)]:=ai
@[go_sem] theorem placesT_77:cW Tryz.prog 77=some [(0,1),(1,1)]:=ai
@[go_sem] theorem cellsOf_90:Tryz.prog.cellsOf 90=1:=ai
@[go_sem] theorem aggT_90:db Tryz.prog 90=some false:=ai
@[go_sem] theorem infoT_90:(Tryz.prog.info? 90).isSome=true:=ai
@[go_sem] theorem zeroT_90:ct Tryz.prog 90=some [.d .b8]:=ai
@[go_sem] theorem cellsOf_93:Tryz.prog.cellsOf 93=1:=ai
@[go_sem] theorem aggT_93:db Tryz.prog 93=some false:=ai
@[go_sem] theorem infoT_93:(Tryz.prog.info? 93).isSome=true:=ai
@[go_sem] theorem undT_93:Tryz.prog.underlying 93=some (.map 3 33):=ai
@[go_sem] theorem mapT_93:qY Tryz.prog 93=some (3,33):=ai
@[go_sem] theorem cellsOf_95:Tryz.prog.cellsOf 95=6:=ai
@[go_sem] theorem aggT_95:db Tryz.prog 95=some true:=ai
@[go_sem] theorem infoT_95:(Tryz.prog.info? 95).isSome=true:=ai
@[go_sem] theorem zeroT_95:ct Tryz.prog 95=some [.aM, .aM, .aM, .aM, .aM, .d .dC]:=ai
@[go_sem] theorem placesT_95:cW Tryz.prog 95=some [(0,5),(5,1)]:=ai
@[go_sem] theorem cellsOf_101:Tryz.prog.cellsOf 101=6:=ai
@[go_sem] theorem aggT_101:db Tryz.prog 101=some true:=ai
@[go_sem] theorem infoT_101:(Tryz.prog.info? 101).isSome=true:=ai
@[go_sem] theorem zeroT_101:ct Tryz.prog 101=some [.d (.int .i64 0), .d (.int .i64 0), .aM, .d (.int .i64 0), .d (.int .i64 0), .aM]:=ai
@[go_sem] theorem placesT_101:cW Tryz.prog 101=some [(0,3),(3,3)]:=ai
@[go_sem] theorem cellsOf_106:Tryz.prog.cellsOf 106=6:=ai
@[go_sem] theorem bytesOf_106:Tryz.prog.bytesOf 106=80:=ai
@[go_sem] theorem sliceT_106:bP Tryz.prog 106=none:=ai
@[go_sem] theorem arrT_106:x4 Tryz.prog 106=some (2,33):=ai
@[go_sem] theorem aggT_106:db Tryz.prog 106=some true:=ai
@[go_sem] theorem infoT_106:(Tryz.prog.info? 106).isSome=true:=ai
@[go_sem] theorem zeroT_106:ct Tryz.prog 106=some [.d (.int .i64 0), .d (.int .i64 0), .aM, .d (.int .i64 0), .d (.int .i64 0), .aM]:=ai
@[go_sem] theorem placesT_106:cW Tryz.prog 106=some [(0,3),(3,3)]:=ai
@[go_sem] theorem sliceT_117:bP Tryz.prog 117=some 106:=ai
@[go_sem] theorem intT_117:tE Tryz.prog 117=none:=ai
@[go_sem] theorem undT_117:Tryz.prog.underlying 117=some (.slice 106):=ai
@[go_sem] theorem cellsOf_124:Tryz.prog.cellsOf 124=2:=ai
@[go_sem] theorem aggT_124:db Tryz.prog 124=some true:=ai
@[go_sem] theorem infoT_124:(Tryz.prog.info? 124).isSome=true:=ai
@[go_sem] theorem zeroT_124:ct Tryz.prog 124=some [.d (.str []), .d (.int .i64 0)]:=ai
@[go_sem] theorem placesT_124:cW Tryz.prog 124=some [(0,1),(1,1)]:=ai
@[go_sem] theorem cellsOf_134:Tryz.prog.cellsOf 134=1:=ai
@[go_sem] theorem aggT_134:db Tryz.prog 134=some false:=ai
@[go_sem] theorem infoT_134:(Tryz.prog.info? 134).isSome=true:=ai
@[go_sem] theorem zeroT_134:ct Tryz.prog 134=some [.d .kC]:=ai
@[go_sem] theorem zeroT_137:ct Tryz.prog 137=some [.d .dC, .aM, .d (.bool false)]:=ai
@[go_sem] theorem placesT_137:cW Tryz.prog 137=some [(0,1),(1,1),(2,1)]:=ai
@[go_sem] theorem sliceT_142:bP Tryz.prog 142=some 3:=ai
@[go_sem] theorem intT_142:tE Tryz.prog 142=none:=ai
@[go_sem] theorem undT_142:Tryz.prog.underlying 142=some (.slice 3):=ai
@[go_sem] theorem sliceT_148:bP Tryz.prog 148=some 9:=ai
@[go_sem] theorem intT_148:tE Tryz.prog 148=none:=ai
@[go_sem] theorem undT_148:Tryz.prog.underlying 148=some (.slice 9):=ai
@[go_sem] theorem cellsOf_154:Tryz.prog.cellsOf 154=1:=ai
@[go_sem] theorem aggT_154:db Tryz.prog 154=some false:=ai
@[go_sem] theorem infoT_154:(Tryz.prog.info? 154).isSome=true:=ai
@[go_sem] theorem zeroT_154:ct Tryz.prog 154=some [.d .b8]:=ai
@[go_sem] theorem cellsOf_162:Tryz.prog.cellsOf 162=0:=ai
@[go_sem] theorem infoT_162:(Tryz.prog.info? 162).isSome=true:=ai
@[go_sem] theorem plainIface_162:lG Tryz.prog 162=true:=ai
@[go_sem] theorem zeroT_162:ct Tryz.prog 162=some []:=ai
@[go_sem] theorem zeroV_162:zeroV Tryz.prog 162=some (lR []):=ai
@[go_sem] theorem placesT_162:cW Tryz.prog 162=some []:=ai
@[go_sem] theorem cellsOf_163:Tryz.prog.cellsOf 163=0:=ai
@[go_sem] theorem infoT_163:(Tryz.prog.info? 163).isSome=true:=ai
@[go_sem] theorem plainIface_163:lG Tryz.prog 163=true:=ai
@[go_sem] theorem zeroT_163:ct Tryz.prog 163=some []:=ai
@[go_sem] theorem zeroV_163:zeroV Tryz.prog 163=some (lR []):=ai
@[go_sem] theorem placesT_163:cW Tryz.prog 163=some []:=ai
@[go_sem] theorem zeroT_164:ct Tryz.prog 164=some [.d (.int .i64 0), .d (.int .i64 0)]:=ai
@[go_sem] theorem placesT_164:cW Tryz.prog 164=some [(0,1),(1,1)]:=ai
@[go_sem] theorem aggT_168:db Tryz.prog 168=some false:=ai
@[go_sem] theorem cellsOf_175:Tryz.prog.cellsOf 175=1:=ai
@[go_sem] theorem aggT_175:db Tryz.prog 175=some false:=ai
@[go_sem] theorem infoT_175:(Tryz.prog.info? 175).isSome=true:=ai
@[go_sem] theorem mapT_175:qY Tryz.prog 175=some (9,4):=ai
@[go_sem] theorem zeroT_175:ct Tryz.prog 175=some [.d .dC]:=ai
@[go_sem] theorem cellsOf_178:Tryz.prog.cellsOf 178=1:=ai
@[go_sem] theorem aggT_178:db Tryz.prog 178=some false:=ai
@[go_sem] theorem infoT_178:(Tryz.prog.info? 178).isSome=true:=ai
@[go_sem] theorem mapT_178:qY Tryz.prog 178=some (3,4):=ai
@[go_sem] theorem zeroT_178:ct Tryz.prog 178=some [.d .dC]:=ai
@[go_sem] theorem cellsOf_209:Tryz.prog.cellsOf 209=1:=ai
@[go_sem] theorem aggT_209:db Tryz.prog 209=some false:=ai
@[go_sem] theorem infoT_209:(Tryz.prog.info? 209).isSome=true:=ai
@[go_sem] theorem cellsOf_210:Tryz.prog.cellsOf 210=16:=ai
@[go_sem] theorem sliceT_210:bP Tryz.prog 210=none:=ai
@[go_sem] theorem arrT_210:x4 Tryz.prog 210=some (16,209):=ai
@[go_sem] theorem aggT_210:db Tryz.prog 210=some true:=ai
@[go_sem] theorem infoT_210:(Tryz.prog.info? 210).isSome=true:=ai
@[go_sem] theorem zeroT_210:ct Tryz.prog 210=some [.d .b8, .d .b8, .d .b8, .d .b8, .d .b8, .d .b8, .d .b8, .d .b8, .d .b8, .d .b8, .d .b8, .d .b8, .d .b8, .d .b8, .d .b8, .d .b8]:=ai
@[go_sem] theorem placesT_210:cW Tryz.prog 210=some [(0,1),(1,1),(2,1),(3,1),(4,1),(5,1),(6,1),(7,1),(8,1),(9,1),(10,1),(11,1),(12,1),(13,1),(14,1),(15,1)]:=ai
@[go_sem] theorem zeroT_213:ct Tryz.prog 213=some [.aM, .aM]:=ai
@[go_sem] theorem placesT_213:cW Tryz.prog 213=some [(0,2)]:=ai
@[go_sem] theorem fieldT_24_0:bS Tryz.prog 24 0=some 0:=ai
@[go_sem] theorem fieldT_24_1:bS Tryz.prog 24 1=some 1:=ai
@[go_sem] theorem fieldT_29_0:bS Tryz.prog 29 0=some 0:=ai
@[go_sem] theorem fieldT_29_1:bS Tryz.prog 29 1=some 2:=ai
@[go_sem] theorem fieldT_29_2:bS Tryz.prog 29 2=some 3:=ai
@[go_sem] theorem fieldT_29_3:bS Tryz.prog 29 3=some 4:=ai
@[go_sem] theorem fieldT_33_0:bS Tryz.prog 33 0=some 0:=ai
@[go_sem] theorem fieldT_33_1:bS Tryz.prog 33 1=some 1:=ai
@[go_sem] theorem fieldT_33_2:bS Tryz.prog 33 2=some 2:=ai
@[go_sem] theorem fieldT_59_0:bS Tryz.prog 59 0=some 0:=ai
@[go_sem] theorem fieldT_59_1:bS Tryz.prog 59 1=some 1:=ai
@[go_sem] theorem fieldT_77_0:bS Tryz.prog 77 0=some 0:=ai
@[go_sem] theorem fieldT_77_1:bS Tryz.prog 77 1=some 1:=ai
@[go_sem] theorem fieldT_95_0:bS Tryz.prog 95 0=some 0:=ai
@[go_sem] theorem fieldT_95_1:bS Tryz.prog 95 1=some 5:=ai
@[go_sem] theorem fieldT_101_0:bS Tryz.prog 101 0=some 0:=ai
@[go_sem] theorem fieldT_101_1:bS Tryz.prog 101 1=some 3:=ai
@[go_sem] theorem fieldT_124_0:bS Tryz.prog 124 0=some 0:=ai
@[go_sem] theorem fieldT_124_1:bS Tryz.prog 124 1=some 1:=ai
@[go_sem] theorem fieldT_137_0:bS Tryz.prog 137 0=some 0:=ai
@[go_sem] theorem fieldT_137_1:bS Tryz.prog 137 1=some 1:=ai
@[go_sem] theorem fieldT_137_2:bS Tryz.prog 137 2=some 2:=ai
@[go_sem] theorem fieldT_213_0:bS Tryz.prog 213 0=some 0:=ai
section
def mV(x y:aa):Prop:=(x.bY=true->y.bY=true)/\∀e,x.b9=some e->y.b9=some e
theorem mV.rfl' {x y:aa}(h:x=y):mV x y:=h ▸ ⟨id,fun _ h=>h⟩
theorem mV.fz (x:aa):mV x.fz x:=by cases x<;>exact⟨id,fun _ h=>h⟩
theorem mV.row (cs cs':List V):mV (.row cs) (.row cs'):=⟨fun _=>rfl,fun _ h=>by cases h⟩
mutual
theorem V.mW {B B':Nat->Prop}{φ aC:Place}{H H':Hp}{w:World}(hB:∀b, ¬B b-> ¬B' b):∀ (v:V) (val:Value),(∀id∈v.refs,mV (H'.o id) (H.o id)/\aC id=φ id/\H'.us id)->V.den B φ H w v val->V.den B' aC H' w v val
 | .d x,val,_,h=>D.aP (w:=w) (w':=w) (fun b _ hn=>⟨rfl,hB b hn⟩) x val h
 | .aM,_,_,h=>h
 | .ab,_,_,_=>trivial
 | .fD,_,_,h=>h
 | .oA es,val,_,h=>⟨D.aP (w:=w) (w':=w) (fun b _ hn=>⟨rfl,hB b hn⟩) (.sl es) val h.1,h.2⟩
 | .agg cs,val,hr,h=>by
   obtain⟨a,rfl,h1,h2⟩:=h
   exact⟨a,rfl,V.fS hB cs _ wq h1,h2⟩
 | .bN cs,val,hr,h=>by
   obtain⟨a,rfl,h1⟩:=h
   exact⟨a,rfl,V.fS hB cs _ wq h1⟩
 | .ptr id off,val,hr,h=>by
   exact zw8
 | .osl id ep,val,hr,h=>by
   obtain⟨a,b,c⟩:=hr id xR
   obtain⟨h0,h1,h2⟩:=h
   refine⟨h0,c,fun e he=> ?_⟩
   obtain⟨x,y⟩:=h2 e (a.2 e he)
   exact⟨x,fun heq=>(y heq).trans b.symm⟩
 | .pe id ep i sz off,val,hr,h=>by
   obtain⟨a,b,c⟩:=hr id xR
   obtain⟨h0,h1,h2⟩:=h
   refine⟨h0,c,fun e he=> ?_⟩
   obtain⟨x,y⟩:=h2 e (a.2 e he)
   exact NT
 | .pp cs off,val,_,h=>by
   obtain⟨a,ev,h1,h2,h3,h5,h4⟩:=h
   exact VE
 | .func fn first cap,val,hr,h=>by
   obtain⟨f,c,rfl,h1,h2⟩:=h
   exact⟨f,c,rfl,V.fS hB first _ (fun id aw=>hr id (by simp[V.refs,aw])) h1,V.fS hB cap _ (fun id aw=>hr id (by simp[V.refs,aw])) h2⟩
 | .iface t x,val,hr,h=>by
   obtain⟨u,rfl,h⟩:=h
   exact⟨u,rfl,V.mW hB x u wq h⟩
 | .wC id off n,val,hr,h=>by
   exact zw8
 | .mp id,val,hr,h=>by
   obtain⟨a,b,c⟩:=hr id xR
   obtain⟨h0,h1,h2⟩:=h
   refine⟨h0,c,fun cN=> ?_⟩
   exact(h2 (a.1 cN)).trans b.symm
 | .kz id,val,hr,h=>by
   exact zw8
theorem V.fS {B B':Nat->Prop}{φ aC:Place}{H H':Hp}{w:World}(hB:∀b, ¬B b-> ¬B' b):∀ (vs:List V) (vals:List Value),(∀id∈V.aN vs,mV (H'.o id) (H.o id)/\aC id=φ id/\H'.us id)->V.az B φ H w vs vals->V.az B' aC H' w vs vals
 |[],_,_,h=>h
 |v::vs,_,hr,h=>by
  obtain⟨u,us,rfl,h1,h2⟩:=h
  exact⟨u,us,rfl,V.mW hB v u (fun id aw=>hr id (by simp[V.aN,aw])) h1,V.fS hB vs us (fun id aw=>hr id (by simp[V.aN,aw])) h2⟩
end
mutual
theorem V.nC {B:Nat->Prop}{φ:Place}{H:Hp}{w:World}:∀ (v:V) (val:Value),V.den B φ H w v val->∀id∈v.refs,H.us id
 | .osl id ep,_,h,j,hj| .ptr id off,_,h,j,hj| .pe id ep i sz off,_,h,j,hj| .wC id off n,_,h,j,hj| .mp id,_,h,j,hj| .kz id,_,h,j,hj=>by simp[V.refs]at hj;subst hj;exact h.2.1
 | .agg cs,_,h,j,hj=>by obtain⟨a,rfl,h,_⟩:=h;exact V.fI cs _ h j (by simpa[V.refs]using hj)
 | .bN cs,_,h,j,hj=>by obtain⟨a,rfl,h⟩:=h;exact V.fI cs _ h j (by simpa[V.refs]using hj)
 | .func fn first cap,_,h,j,hj=>by
   obtain⟨f,c,rfl,h1,h2⟩:=h
   rcases List.mem_append.1 (show j∈V.aN first++V.aN cap by simpa[V.refs]using hj)with hj|hj
   ·exact V.fI first _ h1 j hj
   ·exact V.fI cap _ h2 j hj
 | .iface t x,_,h,j,hj=>by obtain⟨u,rfl,h⟩:=h;exact V.nC x u h j (by simpa[V.refs]using hj)
 | .d _,_,_,_,hj| .aM,_,_,_,hj| .pp _ _,_,_,_,hj| .ab,_,_,_,hj| .oA _,_,_,_,hj| .fD,_,_,_,hj=>by simp[V.refs]at hj
theorem V.fI {B:Nat->Prop}{φ:Place}{H:Hp}{w:World}:∀ (vs:List V) (vals:List Value),V.az B φ H w vs vals->∀id∈V.aN vs,H.us id
 |[],_,_,j,hj=>by simp[V.aN]at hj
 |v::vs,_,h,j,hj=>by
  obtain⟨u,us,rfl,h1,h2⟩:=h
  rcases List.mem_append.1 (show j∈v.refs++V.aN vs by simpa[V.aN]using hj)with hj|hj
  ·exact V.nC v u h1 j hj
  ·exact V.fI vs us h2 j hj
end
def js(so:Nat->aa)(gone:Nat->Prop)(ty:TypeId)(sz:Nat)(es:List D)(x:V):Prop:=
 (x= .aM/\es=[]/\0<sz)\/∃id ep,gone id/\x= .osl id ep/\so id= .arr ep ty sz es
theorem JE{xs ys:List Nat}:j5 xs ys=true↔∀x∈xs,x∉ys:=by
 simp[j5,List.all_eq_true]
def mX(env:Nat->V):List V->Nat->Prop
 |[],_=>True
 |v::l,i=>(v= .ab\/v=env i)/\mX env l (i+1)
theorem FP{env:Nat->V}{i:Nat}:mX env [] i:=trivial
theorem CC{env:Nat->V}{l:List V}{i:Nat}(h:mX env l (i+1)):mX env (.ab::l) i:=⟨.inl rfl,h⟩
theorem Li{env:Nat->V}{l:List V}{i:Nat}{v:V}(he:env i=v)(h:mX env l (i+1)):mX env (v::l) i:=⟨.inr he.symm,h⟩
theorem BE{env:Nat->V}:∀ (l:List V) (i:Nat),mX env l i->∀j,bf l j= .ab\/bf l j=env (i+j)
 |[],i,_,j=>by rw[qc];exact .inl rfl
 |v::l,i,h,0=>by rw[nA];exact h.1
 |v::l,i,h,j+1=>by
  rw[nB]
  have:=BE l (i+1) h.2 j
  rwa [show i+1+j=i+(j+1) by omega]at this
theorem GL{P:Program}{n bq:Nat}{gq:Operand}{ps:List Nat}{x y:IC}{Q:fw->S->Prop}{e:Nat->V}{o:Nat->aa}{nx:Nat}{f:FuncId}{cap:List V}(env:List V)(he:mX e env 0)
 (h:cO P f (.kz nx::cap) (aA o nx (.loop P.funcs.size n env ps x y .ready none)) (nx+1)
  (fun _ o' nx'=>∃nf m en p c d st pd,o' nx= .loop nf m en p c d st pd/\st≠ .busy/\rh Q pd ⟨e,aA o' nx (.loop nf m en p c d .exhausted pd),nx'⟩) (fun v o' nx'=>Q (.bB v) ⟨e,o',nx'⟩)):
 Bh P n bq false gq ps x y Q ⟨e,o,nx⟩ (.func (.func f) [] cap):=by
 unfold Bh AS
 refine⟨rfl, .inl ⟨env,fun i=> ?_, .inl h⟩⟩
 have:=BE env 0 he i
 rwa [Nat.zero_add]at this
theorem bM.trans {b:Nat}{s s' s'':S}(h1:bM b s s')(h2:bM b s' s''):bM b s s'':=fun M φ w tm hH hd=>by
 obtain⟨aC,a1,a2,a3,a4,a5,a6⟩:=h1 M φ w tm hH hd
 obtain⟨CG,b1,b2,b3,b4,b5,b6⟩:=h2 M aC w tm a1 a2
 refine⟨CG,b1,b2,fun k hk=>a3 k (b3 k hk),b4,fun id aw hr=> ?_,fun id e' aw he=> ?_⟩
 ·obtain⟨c1,c2⟩:=b5 id aw hr
  obtain⟨c3,c4⟩:=a5 id aw c1
  exact⟨c3,c2.trans c4⟩
 ·obtain⟨e1,c1,c2,c3⟩:=b6 id e' aw he
  obtain⟨e0,d1,d2,d3⟩:=a6 id e1 aw c1
  exact⟨e0,d1,Nat.le_trans d2 c2,fun h=>(c3 ae).trans (d3 ae)⟩
def rB(P:Program)(n b id:Nat)(eT:IC)(K X:V->(Nat->aa)->Nat->Prop)(e:fw)(s:S):Prop:=
 match e with
 | .normal=>∃nf m en p c d pd,s.o id= .loop nf m en p c d .ready pd/\kq P n b true eT (ku id K X) ⟨s.env,aA s.o id (.loop nf m en p c d .busy pd),s.nx⟩
 | .bB v=>X v s.o s.nx
 |_=>False
theorem dB.aJ {P:Program}{n:Nat}(aY:P.follows .mixedOrders=true){id:Nat}{args:List V}{o:Nat->aa}{nx:Nat}{K X:V->(Nat->aa)->Nat->Prop}{env:List V}{ps:List Nat}{je eT:IC}{st:LoopState}{pd:Option jA}
 (ho:o id= .loop P.funcs.size n env ps je eT st pd) (bW:id<nx) (Jd:ps.all (fun t=>decide (t<n))=true) (hl:args.length=ps.length)
 (h:kq P n nx true je (rB P n nx id eT K X) ⟨qb (bf env) ps args,o,nx⟩):dB P id args o nx K X:=by
 refine dB.uu aY ho bW Jd hl (dQ je _ _ _ (fun e s h=> ?_) h)
 cases e with
 |normal=>
  obtain⟨nf,m,en,p,c,d,pd,h1,h2⟩:=h
  exact⟨nf,m,en,p,c,d,pd,h1,dQ eT _ _ _ (fun _ _ h=>h) h2⟩
 |bB v=>exact h
 |_=>exact h.elim
theorem yV{P:Program}{n b id:Nat}{eT:IC}{K X:V->(Nat->aa)->Nat->Prop}{s:S}{nf m:Nat}{en:List V}{p:List Nat}{c d:IC}{pd:Option jA}(h:s.o id= .loop nf m en p c d .ready pd)
 (h2:kq P n b true eT (ku id K X) ⟨s.env,aA s.o id (.loop nf m en p c d .busy pd),s.nx⟩):rB P n b id eT K X .normal s:=⟨nf,m,en,p,c,d,pd,h,h2⟩
def vZ:List Nat->Nat->Nat->Nat
 |[],nx,k=>nx+k
 |i::_,_,0=>i
 |_::l,nx,k+1=>vZ l nx k
theorem yW:∀ (l:List Nat) (nx k:Nat),vZ l nx k∈l\/nx<=vZ l nx k
 |[],nx,k=> .inr (Nat.le_add_right _ _)
 |i::_,_,0=> .inl (List.mem_cons_self ..)
 |_::l,nx,k+1=>(yW l nx k).imp (List.mem_cons_of_mem _) id
theorem BF{nx:Nat}:∀ (l:List Nat),l.Nodup->(∀i∈l,i<nx)->∀a b,vZ l nx a=vZ l nx b->a=b
 |[],_,_,a,b,e=>by simp only[vZ]at e;omega
 |i::l,_,_,0,0,_=>rfl
 |i::l,hd,hl,0,b+1,e=>by
  simp only[vZ]at e
  rcases yW l nx b with h|h
  ·rw[<- e]at h;exact absurd h (List.nodup_cons.1 hd).1
  ·have:=hl i (List.mem_cons_self ..);omega
 |i::l,hd,hl,a+1,0,e=>by
  simp only[vZ]at e
  rcases yW l nx a with h|h
  ·rw[e]at h;exact absurd h (List.nodup_cons.1 hd).1
  ·have:=hl i (List.mem_cons_self ..);omega
 |i::l,hd,hl,a+1,b+1,e=>by
  simp only[vZ]at e
  rw[BF l (List.nodup_cons.1 hd).2 (fun j hj=>hl j (List.mem_cons_of_mem _ hj)) a b e]
def Mx(f:Nat->Nat)(x:List Nat×List Nat):List Nat×List Nat:=(x.1.map f,x.2.map f)
theorem uM{f:Nat->Nat}(hf:∀a b,f a=f b->a=b){xs ys:List Nat}(hd:j5 xs ys=true):j5 (xs.map f) (ys.map f)=true:=by
 rw[JE]at hd|-
 intro x hx hy
 obtain⟨a,ha,rfl⟩:=List.mem_map.1 hx
 obtain⟨b,hb,e⟩:=List.mem_map.1 hy
 rw[hf b a e]at hb
 exact hd a ha hb
theorem Du{f:Nat->Nat}(hf:∀a b,f a=f b->a=b){pr:List (List Nat)}(fp:List (List Nat×List Nat))(ho:eC pr fp=true):eC pr (fp.map (Mx f))=true:=by
 unfold eC at ho|-
 rw[List.all_eq_true]at ho|-
 intro j hj
 rw[List.length_map]at hj
 have ho:=ho j hj
 rw[List.all_eq_true]at ho|-
 intro i hi
 have ho:=ho i hi
 have hm:∀k,(fp.map (Mx f)).getD k ([],[])=Mx f (fp.getD k ([],[])):=fun k=>by
  rw[List.getD_eq_getElem?_getD,List.getD_eq_getElem?_getD,List.getElem?_map]
  cases fp[k]? <;>rfl
 rw[hm,hm]
 rw[Bool.or_eq_true]at ho|-
 refine ho.imp (fun h=>h) (fun ho=> ?_)
 rw[Bool.and_eq_true,Bool.and_eq_true]at ho|-
 exact⟨⟨uM hf ho.1.1,uM hf ho.1.2⟩,uM hf ho.2⟩
theorem cK{ids:List Nat}{nx:Nat}(hd:ids.Nodup)(hl:∀i∈ids,i<nx){pr:List (List Nat)}(fp:List (List Nat×List Nat))(ho:eC pr fp=true):eC pr (fp.map (Mx (vZ ids nx)))=true:=
 Du (BF ids hd hl) fp ho
section
variable {P:Program}{KB:List Nat->Fp->Prop}{pr:List (List Nat)}{l:List bK}{fr:Nat}{fp:Fp}{bad ws:List Nat}{s:S}{d:Option Nat}{op:Op}
end
end
section
structure Gr where
 x:V
 ty:TypeId
 sz:Nat
 es:List D
def Gr.ok (so:Nat->aa)(gone:Nat->Prop)(g:Gr):Prop:=js so gone g.ty g.sz g.es g.x
def JF(c:Nat)(G:List Gr)(so:Nat->aa)(gone:Nat->Prop)(v v':V):Prop:=
 v'= .ab\/(v'=v/\∀r∈v.refs,r<c)\/(∃i g,G[i]? =some g/\v'= .osl (c+i) 0/\v=g.x)\/∃y,v'= .d y/\dL so v=some y/\∀id∈v.ids,gone id/\∀g∈G,∀ep,g.x≠ .osl id ep
def kx(c:Nat)(G:List Gr)(so:Nat->aa)(gone:Nat->Prop)(env:Nat->V):List V->Nat->Prop
 |[],_=>True
 |v::l,i=>JF c G so gone (env i) v/\kx c G so gone env l (i+1)
def uN(c:Nat)(G:List Gr)(so:Nat->aa)(gone:Nat->Prop):List V->List V->Prop
 |[],[]=>True
 |v::l,v'::l'=>JF c G so gone v v'/\uN c G so gone l l'
 |_,_=>False
def BG(c:Nat)(G:List Gr)(so:Nat->aa)(gone:Nat->Prop)(x x':aa):Prop:=
 x'= .no\/(x=x'/\∀r∈x'.refs,r<c)\/∃cs cs',x= .row cs/\x'= .row cs'/\uN c G so gone cs cs'
section
variable {c:Nat}{G:List Gr}{so:Nat->aa}{gone:Nat->Prop}
theorem Fa{env:Nat->V}:∀ (l:List V) (i:Nat),kx c G so gone env l i->∀j,JF c G so gone (env (i+j)) (bf l j)
 |[],i,_,j=>by rw[qc];exact .inl rfl
 |v::l,i,h,0=>by rw[nA];exact h.1
 |v::l,i,h,j+1=>by
  rw[nB]
  have:=Fa l (i+1) h.2 j
  rwa [show i+1+j=i+(j+1) by omega]at this
variable {env:Nat->V}{i:Nat}{l l':List V}{v:V}{y:D}
theorem fY:kx c G so gone env [] i:=trivial
theorem eO(h:kx c G so gone env l (i+1)):kx c G so gone env (.ab::l) i:=⟨.inl rfl,h⟩
theorem du(he:env i= .d y)(h:kx c G so gone env l (i+1)):kx c G so gone env (.d y::l) i:=⟨.inr (.inl ⟨he.symm,fun r hr=>by rw[he]at hr;simp[V.refs]at hr⟩),h⟩
theorem kW(he:env i=v)(hr:∀r∈v.refs,r<c)(h:kx c G so gone env l (i+1)):kx c G so gone env (v::l) i:=⟨.inr (.inl ⟨he.symm,fun r Ge=>hr r (he ▸ Ge)⟩),h⟩
theorem jY(k:Nat){g:Gr}{n:Nat}(hg:G[k]? =some g)(hn:n=c+k)(he:env i=g.x)(h:kx c G so gone env l (i+1)):kx c G so gone env (.osl n 0::l) i:=⟨.inr (.inr (.inl ⟨k,g,hg,by rw[hn],he⟩)),h⟩
theorem kX(ht:dL so (env i)=some y)(hi:∀id∈(env i).ids,gone id/\∀g∈G,∀ep,g.x≠ .osl id ep)(h:kx c G so gone env l (i+1)):kx c G so gone env (.d y::l) i:=⟨.inr (.inr (.inr ⟨y,rfl,ht,hi⟩)),h⟩
theorem zY:uN c G so gone [] []:=trivial
theorem CE(h:uN c G so gone l l'):uN c G so gone (.d y::l) (.d y::l'):=⟨.inr (.inl ⟨rfl,fun r hr=>by simp[V.refs]at hr⟩),h⟩
theorem S9(hr:∀r∈v.refs,r<c)(h:uN c G so gone l l'):uN c G so gone (v::l) (v::l'):=⟨.inr (.inl ⟨rfl,hr⟩),h⟩
theorem HU(k:Nat){g:Gr}{n:Nat}(hg:G[k]? =some g)(hn:n=c+k)(he:v=g.x)(h:uN c G so gone l l'):uN c G so gone (v::l) (.osl n 0::l'):=⟨.inr (.inr (.inl ⟨k,g,hg,by rw[hn],he⟩)),h⟩
theorem nD{x:aa}:BG c G so gone x .no:= .inl rfl
theorem eQ{x x':aa}(h:x=x')(hr:∀r∈x'.refs,r<c):BG c G so gone x x':= .inr (.inl ⟨h,hr⟩)
theorem zX{x:aa}{cs cs':List V}(h:x= .row cs)(hr:uN c G so gone cs cs'):BG c G so gone x (.row cs'):= .inr (.inr ⟨cs,cs',h,rfl,hr⟩)
end
theorem qg{c:Nat}{G:List Gr}{so:Nat->aa}{gone:Nat->Prop}{B B':Nat->Prop}{φ aC:Place}{H H':Hp}{w:World}(hc:∀v v' val,JF c G so gone v v'->V.den B φ H w v val->V.den B' aC H' w v' val):
 ∀ (l l':List V) (vals:List Value),uN c G so gone l l'->V.az B φ H w l vals->V.az B' aC H' w l' vals
 |[],[],_,_,h=>h
 |v::l,v'::l',_,h,hd=>by
  obtain⟨u,us,rfl,h1,h2⟩:=hd
  exact⟨u,us,rfl,hc _ _ _ h.1 h1,qg hc l l' us h.2 h2⟩
 |[],_::_,_,h,_=>h.elim
 |_::_,[],_,h,_=>h.elim
def JG(φ:Place)(c:Nat)(G:List Gr):Place:=fun id=>if id<c then φ id else match G[id - c]? with
 |some g=>(match g.x with| .osl j _=>φ j|_=> .slice none 0 0)
 |none=>φ id
theorem bM.see (gone:Nat->Prop)(G:List Gr)(c:Nat){b:Nat}{e:Nat->V}{so:Nat->aa}{m:Nat}(l:List V){o':Nat->aa}{nx':Nat}(s7:nx'=c+G.length)(hb:b<=c)
 (ho:∀id,id<c->BG c G so gone (so id) (o' id)) (hG:∀i g,G[i]? =some g->o' (c+i)= .arr 0 g.ty g.sz g.es/\g.ok so gone) (hh:∀id,nx'<=id->o' id= .no) (xr:∀id,gone id->id<c->o' id= .no)
 (Q8:∀ (i j:Nat) (gi gj:Gr) (id ep fF:Nat),G[i]? =some gi->G[j]? =some gj->gi.x= .osl id ep->gj.x= .osl id fF->i=j) (he:kx c G so gone e l 0):bM b ⟨e,so,m⟩ ⟨bf l,o',nx'⟩:=by
 subst s7
 intro M φ w tm hH hd
 let aC:Place:=JG φ c G
 let H':Hp:=hp o' (c+G.length)
 let H:Hp:=⟨so,fun id=>id<m⟩
 have GM:∀id,id<c->aC id=φ id:=fun id aw=>if_pos aw
 have JH:∀i g,G[i]? =some g->aC (c+i)=(match g.x with| .osl j _=>φ j|_=> .slice none 0 0):=fun i g hg=>by
  show JG φ c G (c+i)=_
  unfold JG
  rw[if_neg (by omega),show c+i - c=i by omega,hg]
 have hold:∀id k,(o' id).live=true->eN (aC id)=some k->∃j,(so j).live=true/\eN (φ j)=some k/\((id<c/\j=id)\/∃i g ep,id=c+i/\G[i]? =some g/\gone j/\g.x= .osl j ep):=by
  intro id k h1 h2
  by_cases bW:id<c
  ·rw[GM id bW]at h2
   rcases ho id bW with h3|⟨h3,_⟩|⟨cs,cs',h3,h4,_⟩
   ·rw[h3]at h1;cases h1
   ·exact⟨id,by rw[h3];exact h1,h2, .inl ⟨bW,rfl⟩⟩
   ·exact⟨id,by rw[h3];rfl,h2, .inl ⟨bW,rfl⟩⟩
  ·by_cases zG:c+G.length<=id
   ·rw[hh id zG]at h1;cases h1
   ·obtain⟨i,rfl⟩:∃i,id=c+i:=⟨id - c,ae⟩
    obtain⟨g,hg⟩:∃g,G[i]? =some g:=⟨G[i]'ae,aG⟩
    rw[JH i g hg]at h2
    obtain⟨_,aS⟩:=hG i g hg
    rcases aS with⟨h3,_,_⟩|⟨j,ep,hj,h3,lS⟩
    ·rw[h3]at h2;cases h2
    ·rw[h3]at h2
     exact⟨j,by rw[lS];rfl,h2, .inr ⟨i,g,ep,rfl,hg,hj,h3⟩⟩
 have cQ:∀k,cF aC H' k->cF φ H k:=by
  rintro k ⟨id,h1,h2⟩
  obtain⟨j,g1,g2,_⟩:=hold id k h1 h2
  exact⟨j,g1,g2⟩
 have hB:∀k, ¬ak M φ H k-> ¬ak M aC H' k:=fun k h h'=>h (h'.imp id (cQ k))
 have Et:∀id,id<c->mV (H'.o id) (H.o id)/\aC id=φ id/\H'.us id:=fun id aw=>by
  refine⟨?_,GM id aw,(by show id<c+G.length;omega)⟩
  show mV (o' id) (so id)
  rcases ho id aw with h3|⟨h3,_⟩|⟨cs,cs',h3,h4,_⟩
  ·rw[h3];exact⟨fun h=>(by cases h),fun e h=>(by cases h)⟩
  ·exact mV.rfl' h3.symm
  ·rw[h3,h4];exact mV.row _ _
 have eA:∀ (v:V) (val:Value),(∀r∈v.refs,r<c)->V.den (ak M φ H) φ H w v val->V.den (ak M aC H') aC H' w v val:=fun v val hr h=>
  V.mW (H:=H) (H':=H') hB v val (fun id aw=>Et id (hr id aw)) h
 have pw:∀ (v:List V) (val:List Value),(∀r∈V.aN v,r<c)->V.az (ak M φ H) φ H w v val->V.az (ak M aC H') aC H' w v val:=fun v val hr h=>
  V.fS (H:=H) (H':=H') hB v val (fun id aw=>Et id (hr id aw)) h
 have acw:∀ (v:V) (y:D) (val:Value),dL so v=some y->(∀id∈v.ids,gone id/\∀g∈G,∀ep,g.x≠ .osl id ep)->V.den (ak M φ H) φ H w v val->D.den (ak M aC H') w y val:=fun v y val h1 h2 h3=>by
  obtain⟨f1,f2,f3,f4,f5⟩:=cX (H:=H) hH v.ids (fun id aw=>cR v val h3 id aw)
  have Z8:∀k,cF φ (H.put (b7 H.o v.ids)) k->cF φ H k:=by
   rintro k ⟨id,g1,g2⟩
   by_cases aw:id∈v.ids
   ·rw[f3 id aw]at g1
    refine⟨id, ?_,g2⟩
    revert g1
    cases H.o id<;>simp[aa.fz,aa.live]
   ·rw[f4 id aw]at g1;exact⟨id,g1,g2⟩
  have h4:V.den (ak M φ (H.put (b7 H.o v.ids))) φ (H.put (b7 H.o v.ids)) w v val:=
   V.mW (H:=H) (fun k h h'=>h (h'.imp id (Z8 k))) v val (fun id aw=>by
     have e7:H.us id:=(V.nC v val h3) id aw
     refine⟨?_,rfl,(f5 id).2 e7⟩
     by_cases hm:id∈v.ids
     ·rw[f3 id hm];exact mV.fz _
     ·rw[f4 id hm];exact mV.rfl' rfl) h3
  have h5:=fu f1 (o:=so) v y val (fun id aw=>f3 id aw) h1 h4
  refine D.aP (w:=w) (w':=w) (fun k _ hn=>⟨rfl,fun hk=>hn (hk.imp id ?_)⟩) y val h5
  rintro⟨id,g1,g2⟩
  obtain⟨j,k1,k2,k3⟩:=hold id k g1 g2
  refine⟨j, ?_,k2⟩
  have:j∉v.ids:=fun hm=>by
   obtain⟨k4,k5⟩:=h2 j hm
   rcases k3 with⟨k6,k7⟩|⟨i,g,ep,k6,k8,k9,k10⟩
   ·subst k7
    have:=xr _ k4 k6
    have g1:(o' j).live=true:=g1
    rw[this]at g1
    cases g1
   ·exact k5 g (List.mem_of_getElem? k8) ep k10
  rw[f4 j this];exact k1
 have Z9:∀i g val,G[i]? =some g->V.den (ak M φ H) φ H w g.x val->V.den (ak M aC H') aC H' w (.osl (c+i) 0) val:=by
  intro i g val hg this
  obtain⟨Hm,aS⟩:=hG i g hg
  have bW:c+i<c+G.length:=by have:=(List.getElem?_eq_some_iff.1 hg).1;omega
  rcases aS with⟨h3,_,_⟩|⟨j,ep,hj,h3,lS⟩
  ·rw[h3]at this
   simp only[V.den]at this
   rw[this]
   refine⟨rfl,bW,fun e' pb=> ?_⟩
   have pb:(o' (c+i)).b9=some e':=pb
   rw[Hm]at pb
   simp only[aa.b9,Option.some.injEq]at pb
   subst pb
   exact⟨Nat.le_refl _,fun _=>by rw[JH i g hg,h3]⟩
  ·rw[h3]at this
   obtain⟨g1,g2,g3⟩:=this
   refine⟨g1,bW,fun e' pb=> ?_⟩
   have pb:(o' (c+i)).b9=some e':=pb
   rw[Hm]at pb
   simp only[aa.b9,Option.some.injEq]at pb
   subst pb
   have tM:(H.o j).b9=some ep:=by show(so j).b9=_;rw[lS];rfl
   exact⟨Nat.le_refl _,fun _=>by rw[JH i g hg,h3];exact(g3 ep tM).2 rfl⟩
 have PZ:∀v v' val,JF c G so gone v v'->V.den (ak M φ H) φ H w v val->V.den (ak M aC H') aC H' w v' val:=by
  intro v v' val h h1
  rcases h with rfl|⟨rfl,h2⟩|⟨i,g,hg,rfl,rfl⟩|⟨y,rfl,h2,h3⟩
  ·trivial
  ·exact eA _ _ h2 h1
  ·exact Z9 i g _ hg h1
  ·exact acw v y val h2 h3 h1
 refine⟨aC,⟨fun id=> ?_,fun id hu=>hh id (by have: ¬id<c+G.length:=hu;omega),fun i j k h1 h2 h3 h4=> ?_,fun k hk=>hH.ours k (cQ k hk),hH.zE⟩,fun i=> ?_,cQ,by show b<=c+G.length;omega,fun id aw hr=> ?_,fun id e' aw pb=> ?_⟩
 ·have aW:aO M φ H w id:=hH.ok id
  show aO M aC H' w id
  unfold aO at aW|-
  by_cases bW:id<c
  ·rcases ho id bW with h3|⟨h3,hrefs⟩|⟨cs,cs',h3,h4,cN⟩
   ·have e2:H'.o id= .no:=h3
    rw[e2];trivial
   ·have e1:H.o id=o' id:=h3
    have e2:H'.o id=o' id:=rfl
    rw[e1]at aW
    rw[e2,GM id bW]
    cases CX:o' id with
    |no=>trivial
    |row cs=>
     simp only[CX]at aW hrefs|-
     exact WL
    |arr ep ty sz es=>
     simp only[CX]at aW|-
     obtain⟨k1,xs,k2,evs,k3,k4,k5⟩:=aW
     exact V6
    |sZ ep es=>
     simp only[CX]at aW|-
     exact D.aP (fun b _ hn=>⟨rfl,hB b hn⟩) _ _ aW
    |map kt vt es=>
     simp only[CX]at aW|-
     obtain⟨b,es',clock,k1,k2,k4,k3⟩:=aW
     exact V3
    |cZ l=>
     simp only[CX]at aW|-
     exact j6.mono (fun b _ hn=>⟨rfl,hB b hn⟩) aW
    |qS l last=>
     simp only[CX]at aW|-
     obtain⟨b,k1,k2⟩:=aW
     exact NQ
    |xZ s pos=>
     simp only[CX]at aW|-
     exact aW
    |loop nf n env ps a b st pd=>
     simp only[CX]at aW hrefs|-
     exact N4
   ·have e1:H.o id= .row cs:=h3
    have e2:H'.o id= .row cs':=h4
    rw[e1]at aW
    rw[e2,GM id bW]
    obtain⟨b,dJ,ty,k1,k2,k3,k4⟩:=aW
    exact⟨b,dJ,ty,k1,k2,qg PZ _ _ _ cN k3,k4⟩
  ·by_cases zG:c+G.length<=id
   ·have e2:H'.o id= .no:=hh id zG
    rw[e2];trivial
   ·obtain⟨i,rfl⟩:∃i,id=c+i:=⟨id - c,ae⟩
    obtain⟨g,hg⟩:∃g,G[i]? =some g:=⟨G[i]'ae,aG⟩
    obtain⟨Hm,aS⟩:=hG i g hg
    have e2:H'.o (c+i)= .arr 0 g.ty g.sz g.es:=Hm
    rw[e2]
    rcases aS with⟨h3,h4,dV⟩|⟨j,ep,hj,h3,lS⟩
    ·rw[h4]
     refine⟨dV,[], ?_,[],aG,aG,rfl⟩
     rw[JH i g hg,h3]
     exact World.ownsRow_nil _ _ _ _
    ·have this:aO M φ H w j:=hH.ok j
     unfold aO at this
     have e3:H.o j= .arr ep g.ty g.sz g.es:=lS
     simp only[e3]at this
     obtain⟨k1,xs,k2,evs,k3,k4,k5⟩:=this
     exact⟨k1,xs,by rw[JH i g hg,h3];exact k2,evs,k3,k4,D.aQ (fun b _ hn=>⟨rfl,hB b hn⟩) _ _ k5⟩
 ·obtain⟨i',a1,a2,a3⟩:=hold i k h1 h3
  obtain⟨j',b1,b2,b3⟩:=hold j k h2 h4
  have:=hH.apart i' j' k a1 b1 a2 b2
  subst this
  have j8:∀zJ,(o' zJ).live=true->zJ<c->gone zJ->False:=fun zJ g1 g2 g3=>by
   rw[xr _ g3 g2]at g1
   cases g1
  rcases a3 with⟨a3,a4⟩|⟨ia,ga,ea,a3,a4,a5,a6⟩<;>rcases b3 with⟨b3,b4⟩|⟨ib,gb,eb,b3,b4,b5,b6⟩
  ·omega
  ·exact(j8 i h1 a3 (a4 ▸ b5)).elim
  ·exact(j8 j h2 b3 (b4 ▸ a5)).elim
  ·have:=Q8 ia ib ga gb _ _ _ a4 b4 a6 b6
   omega
 ·have hi:=Fa l 0 he i
  rw[Nat.zero_add]at hi
  exact PZ _ _ _ hi (hd i)
 ·have bW:id<c:=ae
  have hr:(o' id).bY=true:=hr
  exact⟨(Et id bW).1.1 hr,GM id bW⟩
 ·have bW:id<c:=ae
  have pb:(o' id).b9=some e':=pb
  exact⟨e',(Et id bW).1.2 e' pb,Nat.le_refl _,fun _=>GM id bW⟩
theorem bM.aaa (gone:Nat->Prop)(c:Nat){b:Nat}{e:Nat->V}{so:Nat->aa}{m:Nat}(l:List V){o':Nat->aa}(hb:b<=c)
 (ho:∀id,id<c->BG c [] so gone (so id) (o' id)) (hh:∀id,c<=id->o' id= .no) (xr:∀id,gone id->id<c->o' id= .no) (he:kx c [] so gone e l 0):bM b ⟨e,so,m⟩ ⟨bf l,o',c⟩:=
 bM.see gone [] c l rfl hb ho (fun i g h=>by cases h) hh xr (fun i j gi gj id ep fF h=>by cases h) he
theorem bM.My (gone:Nat->Prop)(x:V)(c:Nat){ty:TypeId}{sz:Nat}{es:List D}{b:Nat}{e:Nat->V}{so:Nat->aa}{m:Nat}(l:List V){o':Nat->aa}(hb:b<=c)
 (ho:∀id,id<c->BG c [⟨x,ty,sz,es⟩] so gone (so id) (o' id)) (hc:o' c= .arr 0 ty sz es) (hx:js so gone ty sz es x) (hh:∀id,c+1<=id->o' id= .no) (xr:∀id,gone id->id<c->o' id= .no)
 (he:kx c [⟨x,ty,sz,es⟩] so gone e l 0):bM b ⟨e,so,m⟩ ⟨bf l,o',c+1⟩:=
 bM.see gone [⟨x,ty,sz,es⟩] c l rfl hb ho (fun i g h=>by
  match i,h with
  |0,h=>simp at h;subst h;exact⟨hc,hx⟩) hh xr (fun i j gi gj id ep fF h h' _ _=>by
  match i,j,h,h' with
  |0,0,_,_=>rfl) he
theorem lt1{P:Nat->Prop}(h:P 0):∀id,id<1->P id:=fun id aw=>by
 have e:id=0:=ae
 rw[e];exact h
theorem lt0{P:Nat->Prop}:∀id,id<0->P id:=fun id aw=>ae
@[go_sem] theorem acW (b:Bool):(b==false)= !b:=z8
@[go_sem] theorem acX (b:Bool):(b==true)=b:=z8
@[go_sem] theorem aab (c:Bool) (v:V):V.yI c (V.yI c v)=V.yI c v:=by cases c<;>rfl
@[go_sem] theorem aac (c:Bool):(c&&c)=c:=by cases c<;>rfl
@[go_sem] theorem U2 {α:Type} (f:α->D) (l:List α) (n:Nat) (h:∀x,(f x).cells.length=n):((l.map f).all fun z=>z.cells.length==n)=true:=by
  simp[List.all_eq_true,h]
attribute [go_sem] implies_true
attribute [go_sem] Option.isSome_none Option.getD_some Option.getD_none
theorem structOf{P:Program}{t:TypeId}(h:(match P.underlying t with|some (.struct _)=>true|_=>false)=true):∃fs,P.underlying t=some (.struct fs):=by
 split at h
 ·exact⟨_,by assumption⟩
 ·cases h
theorem bc{pr:List (List Nat)}{fp:List (List Nat×List Nat)}(h:fp.all (fun x=>x.2.isEmpty)=true):eC pr fp=true:=by
 have e:∀i,(fp.getD i ([],[])).2=[]:=fun i=>by
  rw[List.getD_eq_getElem?_getD]
  cases hi:fp[i]? with
  |none=>rfl
  |some x=>simpa using List.all_eq_true.1 h x (List.mem_of_getElem? hi)
 simp only[eC,List.all_eq_true,e,j5,List.all_nil,Bool.and_self,Bool.or_true,implies_true]
structure eY (base:Nat) (h o:Nat->aa) (nx:Nat):Prop where
 cq:Good o nx
 le:base<=nx
 eq:∀id,id<base->o id=h id
def StK(base:Nat)(h:Nat->aa)(v:V)(o:Nat->aa)(nx:Nat)(K:V->(Nat->aa)->Nat->Prop):Prop:=
 ∀o' nx',nx<=nx'->eY base h o' nx'->(∀id,base<=id->id<nx->o' id=o id)->K v o' nx'
def uO(P:Program)(g:FuncId)(args:List V)(base:Nat)(h h2:Nat->aa)(v:V):Prop:=
 ∀o nx,eY base h o nx->∀K X,StK base h2 v o nx K->cO P g args o nx K X
theorem eY.aA {base:Nat}{h o:Nat->aa}{nx m i:Nat}{x:aa}(hI:eY base h o nx)(hb:base<=i)(hi:i<m)(hm:nx<=m)(hx:x.refs.all (fun r=>decide (r<m))=true):eY base h (YtlhemmpklhhgoaaGreat.aA o i x) m:=
 ⟨(hI.cq.mono hm).aA hi hx,Nat.le_trans hI.le hm,fun id aw=>by rw[ag _ _ _ _ (by omega)];exact hI.eq id aw⟩
theorem eY.mono {base:Nat}{h o:Nat->aa}{nx m:Nat}(hI:eY base h o nx)(hm:nx<=m):eY base h o m:=⟨hI.cq.mono hm,Nat.le_trans hI.le hm,hI.eq⟩
def ext(base:Nat)(h o:Nat->aa):Nat->aa:=fun id=>if id<base then h id else o id
theorem eY.ext {base c:Nat}{h o:Nat->aa}{nx:Nat}(hI:eY base h o nx)(hc:c<=nx)(hb:base<=c):eY c (YtlhemmpklhhgoaaGreat.ext base h o) o nx:=
 ⟨hI.cq,hc,fun id _=>by unfold YtlhemmpklhhgoaaGreat.ext;split<;>first|exact hI.eq id (by assumption)|rfl⟩
theorem uO.ext {P:Program}{g:FuncId}{args:List V}{base c:Nat}{h h2:Nat->aa}{v:V}(hS:uO P g args base h h2 v)(hb:base<=c)(o0:Nat->aa):uO P g args c (YtlhemmpklhhgoaaGreat.ext base h o0) (YtlhemmpklhhgoaaGreat.ext base h2 o0) v:=by
 intro o nx hI K X hK
 refine hS o nx ⟨hI.cq,Nat.le_trans hb hI.le,fun id aw=>by rw[hI.eq id (by omega)];unfold YtlhemmpklhhgoaaGreat.ext;rw[if_pos aw]⟩ K X fun o' nx' h1 h2 h3=>hK o' nx' h1 ⟨h2.cq,Nat.le_trans hI.le h1,fun id aw=> ?_⟩ (fun id h4 h5=>h3 id ae h5)
 unfold YtlhemmpklhhgoaaGreat.ext
 split
 ·exact h2.eq id (by assumption)
 ·rename_i hn
  rw[h3 id (by omega) (by have:=hI.le;omega),hI.eq id aw]
  unfold YtlhemmpklhhgoaaGreat.ext;rw[if_neg hn]
theorem StK.ext {base c:Nat}{h o:Nat->aa}{v:V}{o1:Nat->aa}{nx zL:Nat}{K:V->(Nat->aa)->Nat->Prop}(hK:StK base h v o nx K)(hb:base<=c)(hn:nx<=zL)(hc:nx<=c)(ho:∀id,base<=id->id<nx->o1 id=o id):StK c (YtlhemmpklhhgoaaGreat.ext base h o1) v o1 zL K:=by
 intro o' nx' h1 h2 h3
 refine hK o' nx' ae ⟨h2.cq,Nat.le_trans hb h2.le,fun id aw=> ?_⟩ fun id h4 h5=> ?_
 ·rw[h2.eq id (by omega)];unfold YtlhemmpklhhgoaaGreat.ext;rw[if_pos aw]
 ·rw[h2.eq id (by omega), <- ho id h4 h5];unfold YtlhemmpklhhgoaaGreat.ext;rw[if_neg (by omega)]
def aI{α σ:Type}(step:σ->α->σ×Bool)(s:σ):List α->σ×Bool
 |[]=>(s,true)
 |x::l=>if(step s x).2=true then aI step (step s x).1 l else((step s x).1,false)
theorem sy{P:Program}{id:Nat}{args:List V}{e:Nat->V}{o:Nat->aa}{nx:Nat}{K X:V->(Nat->aa)->Nat->Prop}(h:dB P id args o nx K X):xe P id K X ⟨e,o,nx⟩ args:=by unfold xe;exact h
theorem tl{α:Type}(f:Nat->α)(i:Nat)(x y:α):aA (aA f i x) i y=aA f i y:=by
 funext j;simp only[aA];split<;>rfl
attribute [go_sem] Int.cast_ofNat_Int
section
variable {P:Program}{n:Nat}{ps:List Nat}{x y:IC}{env:List V}{L:LoopState->Option jA->aa}
def iG(P:Program)(n:Nat)(env:List V)(ps:List Nat)(x y:IC)(L:LoopState->Option jA->aa):Prop:=∀st pd,L st pd= .loop P.funcs.size n env ps x y st pd
theorem JI{bq:Nat}{gq:Operand}{Q:fw->S->Prop}{e:Nat->V}{o:Nat->aa}{nx:Nat}{f:FuncId}{cap:List V}(env:List V)(he:mX e env 0)
 (h:∀L,iG P n env ps x y L->cO P f (.kz nx::cap) (aA o nx (L .ready none)) (nx+1)
  (fun _ o' nx'=>∃st pd,o' nx=L st pd/\st≠ .busy/\rh Q pd ⟨e,aA o' nx (L .exhausted pd),nx'⟩) (fun v o' nx'=>Q (.bB v) ⟨e,o',nx'⟩)):
 Bh P n bq false gq ps x y Q ⟨e,o,nx⟩ (.func (.func f) [] cap):=by
 refine GL env he ?_
 have:=h (fun st pd=> .loop P.funcs.size n env ps x y st pd) (fun _ _=>rfl)
 refine this.mono (fun v o' nx' hh=> ?_) (fun v o' nx' hh=>hh)
 obtain⟨st,pd,h1,h2,h3⟩:=hh
 exact⟨_,_,_,_,_,_,_,_,h1,h2,h3⟩
theorem BH(hL:iG P n env ps x y L)(aY:P.follows .mixedOrders=true){id:Nat}{args:List V}{o:Nat->aa}{nx:Nat}{K X:V->(Nat->aa)->Nat->Prop}{st:LoopState}{pd:Option jA}
 (ho:o id=L st pd) (bW:id<nx) (Jd:ps.all (fun t=>decide (t<n))=true) (hl:args.length=ps.length)
 (h:kq P n nx true x (rB P n nx id y K X) ⟨qb (bf env) ps args,o,nx⟩):dB P id args o nx K X:=
 dB.aJ aY (ho.trans (hL st pd)) bW Jd hl h
theorem qh(hL:iG P n env ps x y L){b id:Nat}{eT:IC}{K X:V->(Nat->aa)->Nat->Prop}{e:Nat->V}{o:Nat->aa}{nx:Nat}{pd:Option jA}(h:o id=L .ready pd)
 (h2:kq P n b true eT (ku id K X) ⟨e,aA o id (L .busy pd),nx⟩):rB P n b id eT K X .normal ⟨e,o,nx⟩:=by
 refine yV (h.trans (hL _ _)) ?_
 rw[<- hL];exact h2
theorem xw(hL:iG P n env ps x y L){id:Nat}{K X:V->(Nat->aa)->Nat->Prop}{e:Nat->V}{o:Nat->aa}{nx:Nat}{st:LoopState}{pd:Option jA}(h:o id=L st pd)(k:K (.d (.bool true)) (aA o id (L .ready none)) nx):ku id K X .normal ⟨e,o,nx⟩:=
 ⟨_,_,_,_,_,_,_,_,h.trans (hL _ _),by rw[<- hL];exact k⟩
theorem uP(hL:iG P n env ps x y L){id:Nat}{K X:V->(Nat->aa)->Nat->Prop}{e:Nat->V}{o:Nat->aa}{nx:Nat}{st:LoopState}{pd:Option jA}(h:o id=L st pd)(k:K (.d (.bool false)) (aA o id (L .done (some .ret))) nx):ku id K X .ret ⟨e,o,nx⟩:=
 ⟨_,_,_,_,_,_,_,_,h.trans (hL _ _),by rw[<- hL];exact k⟩
theorem sA(hL:iG P n env ps x y L){id j:Nat}{K X:V->(Nat->aa)->Nat->Prop}{e:Nat->V}{o:Nat->aa}{nx:Nat}{st:LoopState}{pd:Option jA}(h:o id=L st pd)(k:K (.d (.bool false)) (aA o id (L .done (some (.exit j)))) nx):ku id K X (.exit j) ⟨e,o,nx⟩:=
 ⟨_,_,_,_,_,_,_,_,h.trans (hL _ _),by rw[<- hL];exact k⟩
theorem iG.no (hL:iG P n env ps x y L)(st:LoopState)(pd:Option jA):L st pd≠ .no:=by rw[hL];exact aa.noConfusion
theorem iG.refs (hL:iG P n env ps x y L)(st:LoopState)(pd:Option jA):(L st pd).refs=V.aN env:=by rw[hL];rfl
end
end
attribute [go_sem_proc] Int.reduceBEq Int.reduceBNe Int.reduceLT Int.reduceLE Int.reduceEq Int.reduceNe Nat.reducePow Nat.reduceEqDiff Nat.reduceAdd Nat.reduceSub Nat.reduceMul Nat.reduceLeDiff Nat.reduceBEq Nat.reduceLT reduceIte reduceCtorEq Int.reduceToNat
attribute [go_sem] List.range_zero Option.isSome_some and_self List.cons.injEq
theorem FT(n low high:Int):aV Tryz.prog 114 [.i n, .i low, .i high] (.ret [.bool (dF n low high)]):=by
 refine aV.aJ mix YV aG ?_
 rw[YU]
 refine cn ?_
 rfl
theorem JJ{t:Tm}{left depth:Int}(h:left<1\/depth<1):gy t left depth= -1:=by cases t;simp[gy,h]
theorem lJ{l:List Tm}{left depth:Int}(h:left<0):bQ l left depth=left:=by
 cases l with
 |nil=>rfl
 |cons k l=>simp[bQ,show ¬ (0<=left) by omega]
theorem JK:∀t:Tm,∀left depth:Int, -1<=gy t left depth/\(1<=left->gy t left depth<=left - 1)/\(left<1->gy t left depth= -1):=by
 refine Tm.ind fun op n kids ih left depth=> ?_
 have hs:∀ (l:List Tm) (left d:Int),(∀k∈l,k∈kids)-> -1<=left-> -1<=bQ l left d/\bQ l left d<=left:=by
  intro l
  induction l with
  |nil=>intro left d _ h;simp[bQ,h]
  |cons k l Ta=>
   intro left d hk h
   simp only[bQ]
   split
   ·rename_i h0
    have h1:=ih k (hk k aG) left d
    have h2:=Ta (gy k left d) d (fun x hx=>hk x nY) h1.1
    by_cases hl:1<=left
    ·have:=h1.2.1 hl;omega
    ·have:=h1.2.2 ae;omega
   ·omega
 simp only[gy]
 split
 ·rename_i h;refine⟨ae,fun h1=> ?_,fun _=>rfl⟩;omega
 ·rename_i h
  have:=hs kids (left - 1) (depth - 1) (fun _ h=>h) ae
  exact⟨this.1,fun _=>this.2,fun h=>ae⟩
theorem GN(l:List Tm)(left d:Int)(h: -1<=left): -1<=bQ l left d/\bQ l left d<=left:=by
 induction l generalizing left with
 |nil=>simp[bQ,h]
 |cons k l Ta=>
  simp only[bQ]
  split
  ·have h1:=JK k left d
   have h2:=Ta (gy k left d) h1.1
   by_cases hl:1<=left
   ·have:=h1.2.1 hl;omega
   ·have:=h1.2.2 ae;omega
  ·omega
theorem oq(a b:List Tm)(left d:Int):bQ (a++b) left d=bQ b (bQ a left d) d:=by
 induction a generalizing left with
 |nil=>rfl
 |cons k a ih=>
  simp only[List.cons_append,bQ]
  split
  ·exact ih _
  ·rename_i h;rw[lJ (by omega)]
theorem BI{l:List Tm}{i:Nat}{k:Tm}(hi:l[i]? =some k)(left d:Int)(h:0<=bQ (l.take i) left d):bQ (l.take (i+1)) left d=gy k (bQ (l.take i) left d) d:=by
 rw[List.take_add_one,hi,oq]
 simp[bQ,h]
theorem BJ{l:List Tm}{i:Nat}(left d:Int)(h:bQ (l.take i) left d<0):bQ l left d=bQ (l.take i) left d:=by
 conv=>lhs;rw[<- List.take_append_drop i l]
 rw[oq,lJ h]
@[reducible] def oR (cs:List V):Nat->aa:=aA (fun _=> .no) 0 (.row cs)
@[reducible] def Dv (cs ds:List V):Nat->aa:=aA (aA (fun _=> .no) 0 (.row cs)) 1 (.row ds)
theorem cu{cs:List V}(h:(aa.row cs).refs.all (fun r=>decide (r<1))=true):Good (oR cs) 1:=(Good.nil (nx:=1)).aA ae h
theorem jT{cs ds:List V}(h:(aa.row cs).refs.all (fun r=>decide (r<2))=true)(h2:(aa.row ds).refs.all (fun r=>decide (r<2))=true):Good (Dv cs ds) 2:=((Good.nil (nx:=2)).aA ae h).aA ae h2
theorem bM.d1 {e:Nat->V}{so o:Nat->aa}{m:Nat}(l:List V)(hg:Good o 1)(hm:1<=m)(h0:so 0=o 0)(he:kL 1 e l 0):bM 0 ⟨e,so,m⟩ ⟨bf l,o,1⟩:=
 bM.bH l (Nat.zero_le _) hm hg (fun id h=>by obtain rfl:id=0:=ae
                                             exact h0) he
theorem bM.d2 {e:Nat->V}{so o:Nat->aa}{m:Nat}(l:List V)(hg:Good o 2)(hm:2<=m)(h0:so 0=o 0)(h1:so 1=o 1)(he:kL 2 e l 0):bM 0 ⟨e,so,m⟩ ⟨bf l,o,2⟩:=
 bM.bH l (Nat.zero_le _) hm hg (fun id h=>by
  rcases(by omega:id=0\/id=1)with rfl|rfl
  ·exact h0
  ·exact h1) he
@[reducible] def Tm.row (t:Tm):List V:=[.d (.i t.op), .d (.i t.n), .d (.sl (t.kids.map Tm.d))]
theorem uQ(t:Tm)(left depth:Int):gy t left depth=if left<1\/depth<1 then -1 else bQ t.kids (left - 1) (depth - 1):=by cases t;simp[gy,Tm.kids]
theorem Fb:∀t:Tm,t.fits->∀left depth:Int, -1<=left/\left<=1000000-> -1<=depth/\depth<=1000000->aV Tryz.prog 87 [t.d, .i left, .i depth] (.ret [.i (gy t left depth)]):=by
 refine Tm.fg fun t ih hf left depth hl hd=> ?_
 have vV:=(Tm.bF _).1 hf
 refine aV.aJ mix acr aG ?_
 rw[c87]
 refine cn ?_
 refine au (fun h1=> ?_) (fun h1=> ?_)
 ·refine cn ?_
  simp at h1
  rw[JJ h1]
 ·simp at h1
  refine cn ?_
  rw[wrap64 (n:=left - 1) (by omega) (by omega),uQ,if_neg (by omega)]
  refine aF (fun k:Nat=>⟨bf [.ab, .d (.i (bQ (t.kids.take k) (left - 1) (depth - 1))), .d (.i depth), .ptr 0 0, .ab, .ab, .ab, .d (.i k)],oR t.row,1⟩)
   (fun k=>k<=t.kids.length) (fun k=>t.kids.length - k) 0 (Nat.zero_le _) (bM.d1 _ (cu rfl) ae rfl ?_) (fun k hk=> ?_)
  ·exact dU
  have hb:=GN (t.kids.take k) (left - 1) (depth - 1) ae
  refine cn ?_
  refine au (fun h2=> ?_) (fun h2=> ?_)
  ·simp at h2
   obtain⟨x,hx⟩:∃x,t.kids[k]? =some x:=⟨t.kids[k],by simp[h2.1]⟩
   have cL:=List.mem_of_getElem? hx
   refine jX hx ?_
   rw[wrap64 (n:=depth - 1) (by omega) (by omega)]
   refine aj (ih x cL (vV.2 x cL) _ _ ae ae) rfl ?_
   refine cn ?_
   rw[<- BI hx _ _ h2.2]
   refine aq (k+1) h2.1 ae (bM.d1 _ (cu rfl) ae rfl ?_)
   exact dU
  ·refine cn ?_
   simp only[Bool.and_eq_false_iff,decide_eq_false_iff_not]at h2
   congr 3
   rcases h2 with h2|h2
   ·rw[List.take_of_length_le (by omega)]
   ·exact BJ _ _ ae
theorem Tb(s:List UInt8)(hs:s.length<=9223372036854775807):aV Tryz.prog 139 [.str s] (.ret [.bool (jq s)]):=by
 refine aV.aJ mix Zh aG ?_
 rw[Zg]
 refine cn ?_
 refine aF (fun k:Nat=>⟨bf [.d (.str s), .ab, .ab, .d (.i k)],fun _=> .no,0⟩)
  (fun k=>k<=s.length/\(s.take k).all letterF=true) (fun k=>s.length - k) 0 ⟨Nat.zero_le _,aG⟩ (bM.d0 _ ?_) (fun k hk=> ?_)
 ·exact dU
 refine cn ?_
 refine au (fun h2=> ?_) (fun h2=> ?_)
 ·simp at h2
  obtain⟨x,hx⟩:∃x,s[k]? =some x:=⟨s[k],by simp[h2]⟩
  refine jX hx ?_
  refine au (fun h3=> ?_) (fun h3=> ?_)
  ·refine cn ?_
   have:jq s=false:=by
    have:s.all letterF=false:=by
     rw[List.all_eq_false]
     refine⟨x,List.mem_of_getElem? hx, ?_⟩
     simp only[letterF,h3];simp
    simp[jq,this]
   rw[this]
  ·refine cn ?_
   refine aq (k+1) ⟨h2, ?_⟩ ae (bM.d0 _ ?_)
   ·rw[List.take_add_one,hx,List.all_append,hk.2]
    simp[letterF,h3]
   ·exact dU
 ·refine cn ?_
  refine aj (FT _ _ _) rfl ?_
  refine cn ?_
  simp at h2
  have:=hk.2
  rw[List.take_of_length_le (by omega)]at this
  simp[jq,this]
theorem Fc(l:List jD)(bs:List (List UInt8))(hl:l.length<=1000)(hb:bs.length<=1000)(hs:∀x∈l,x.name.length<=9223372036854775807):
 aV Tryz.prog 115 [.sl (l.map jD.d), .sl (bs.map .str)] (.ret [.sl (((cc l bs).getD []).map .str), .bool (cc l bs).isSome]):=by
 refine aV.aJ mix YX aG ?_
 rw[YW]
 refine cn ?_
 refine aF (fun k:Nat=>⟨bf [.d (.sl (l.map jD.d)), .d (.sl ((bs++(l.take k).map (·.name)).map .str)), .ab, .ab, .ab, .ab, .d (.i k)],fun _=> .no,0⟩)
  (fun k=>k<=l.length/\cc l bs=cc (l.drop k) (bs++(l.take k).map (·.name))) (fun k=>l.length - k) 0 ⟨Nat.zero_le _,aG⟩ (bM.d0 _ ?_) (fun k hk=> ?_)
 ·simp only[List.take_zero,List.map_nil,List.append_nil]
  exact dU
 refine cn ?_
 refine au (fun h2=> ?_) (fun h2=> ?_)
 ·simp at h2
  obtain⟨x,hx⟩:∃x,l[k]? =some x:=⟨l[k],by simp[h2]⟩
  have cL:=List.mem_of_getElem? hx
  have A8:l.drop k=x::l.drop (k+1):=by
   rw[List.drop_eq_getElem_cons h2]
   rw[List.getElem?_eq_getElem h2]at hx;injection hx with hx;rw[hx]
  generalize hB:bs++(l.take k).map (·.name)=B at*
  have hBl:B.length<=2000:=by rw[<- hB];simp;omega
  refine cn ?_
  refine aF (fun j:Nat=>⟨bf [.d (.sl (l.map jD.d)), .d (.sl (B.map .str)), .ab, .ab, .ab, .ab, .d (.i k), .d (.i j)],fun _=> .no,0⟩)
   (fun j=>j<=B.length/\(B.take j).any (· ==x.name)=false) (fun j=>B.length - j) 0 ⟨Nat.zero_le _,aG⟩ (bM.d0 _ ?_) (fun j hj=> ?_)
  ·exact dU
  refine cn ?_
  refine au (fun h3=> ?_) (fun h3=> ?_)
  ·simp at h3
   obtain⟨y,hy⟩:∃y,B[j]? =some y:=⟨B[j],by simp[h3]⟩
   simp+contextual only[go_sem,hx,hy]
   refine aL cE ?_
   refine cn ?_
   refine au (fun h4=> ?_) (fun h4=> ?_)
   ·refine cn ?_
    have:cc l bs=none:=by
     rw[hk.2,A8,cc,if_pos]
     rw[List.any_eq_true]
     exact⟨y,List.mem_of_getElem? hy,h4⟩
    rw[this];rfl
   ·refine cn ?_
    refine aq (j+1) ⟨h3, ?_⟩ ae (bM.d0 _ ?_)
    ·rw[List.take_add_one,hy,List.any_append,hj.2]
     simp only[Option.toList_some,List.any_cons,h4,List.any_nil,Bool.or_false]
    ·exact dU
  ·simp at h3
   have Tc:=hj.2
   rw[List.take_of_length_le (by omega)]at Tc
   refine jX hx ?_
   refine aj (Tb x.name (hs x cL)) rfl ?_
   refine jX hx ?_
   refine gR (fR [.bool (dF x.args 0 4)] ?_ ?_)
   ·refine cn ?_
    exact Ee
   refine cn ?_
   refine au (fun h4=> ?_) (fun h4=> ?_)
   ·refine cn ?_
    have:cc l bs=none:=by
     rw[hk.2,A8,cc,if_neg (by rw[Tc];exact Bool.false_ne_true),if_pos h4]
    rw[this];rfl
   ·have e1:B.length<=140737488355328:=ae
    have e2:B.length*16<=140737488355328:=ae
    have e3:B.length<=140737488355327:=ae
    have e4:(B.length+1)*16<=140737488355328:=ae
    simp+contextual only[go_sem,hx,e1,e2,e3,e4]
    refine aL cE ?_
    refine cn ?_
    have hn:cc l bs=cc (l.drop (k+1)) (bs++(l.take (k+1)).map (·.name)):=by
     rw[hk.2,A8,cc,if_neg (by rw[Tc];exact Bool.false_ne_true),if_neg (by rw[h4];exact Bool.false_ne_true), <- hB,List.take_add_one,hx]
     simp
    refine aq (k+1) ⟨h2,hn⟩ ae (bM.aaa (fun _=>True) 0 _ (Nat.le_refl _) lt0 (fun _ _=>rfl) (fun _ _ _=>rfl) ?_)
    have hB2:(bs++(l.take (k+1)).map (·.name)).map D.str=B.map D.str++[D.str x.name]:=by
     rw[<- hB,List.take_add_one,hx];simp
    rw[hB2]
    exact CA
 ·refine cn ?_
  simp at h2
  have:cc l bs=some (bs++l.map (·.name)):=by
   rw[hk.2,List.drop_eq_nil_of_le (by omega),cc,List.take_of_length_le (by omega)]
  rw[this,List.take_of_length_le (by omega)]
  rfl
theorem Td(a b:List UInt8)(m n:Int):n6 Tryz.prog 100 124 (.agg [.str a, .i m]) (.agg [.str b, .i n])=some (a==b&&m==n):=by
 have h1:bC Tryz.prog 124=some (.struct [(9,0),(3,1)]):=ai
 have h2:bC Tryz.prog 9=some .str:=ai
 have h3:bC Tryz.prog 3=some .int:=ai
 have h4:db Tryz.prog 9=some false:=ai
 have h5:db Tryz.prog 3=some false:=ai
 simp[n6,h1,h2,h3,h4,h5,wE,Ls,ij,CI]
@[go_sem] theorem acx (o:Nat->aa) (mj:Bool) (a b:List UInt8) (m n:Int):xW Tryz.prog o 124 mj (.d (.agg [.str a, .i m])) (.d (.agg [.str b, .i n]))=some (.d (.bool (a==b&&m==n))):=by
  obtain⟨fs,h⟩:∃fs,Tryz.prog.underlying 124=some (.struct fs):=structOf ai
  have h2:Tryz.prog.eqGuardType Tryz.prog.depth 124=false:=ai
  unfold xW
  rw[h]
  dsimp only
  rw[if_pos h2,Td]
  rfl
theorem GO{l:List jD}{bs B:List (List UInt8)}(h:cc l bs=some B):B=bs++l.map (·.name):=by
 induction l generalizing bs with
 |nil=>simp[cc]at h;simp[h]
 |cons x l ih=>
  simp only[cc]at h
  split at h
  ·cases h
  ·split at h
   ·cases h
   ·rw[ih h];simp
structure aB.Fits (s:aB):Prop where
 lc:s.cons.length<=9223372036854775807
 lf:s.cC.length<=9223372036854775807
 nc:∀x∈s.cons,x.name.length<=9223372036854775807
 nf:∀x∈s.cC,x.name.length<=9223372036854775807
theorem aad(s:aB)(hs:s.Fits):aV Tryz.prog 75 [s.d] (.ret [.bool (lH s)]):=by
 refine aV.aJ mix acm aG ?_
 rw[c75]
 refine cn ?_
 refine aj (FT _ _ _) rfl ?_
 refine cn ?_
 cases h1:(!dF s.cons.length 2 12||decide (8<(s.cC.length:Int)))with
 |true=>
  refine jX h1 ?_
  simp only[lH,h1,if_true]
 |false=>
  simp[dF]at h1
  obtain⟨a,b,r,hc⟩:∃a b r,s.cons=a::b::r:=by
   match h:s.cons with
   |[]=>exact Eh
   |[a]=>exact Eh
   |a::b::r=>exact⟨a,b,r,rfl⟩
  have eM:(!dF s.cons.length 2 12||decide (8<(s.cC.length:Int)))=false:=by simp[dF];omega
  simp+contextual only[go_sem,eM,hc]
  have BK:lH s=if(!l8 a fB|| !l8 b tB)=true then false else match cc s.cons []with
   |none=>false
   |some l=>(cc s.cC l).isSome:=by
   unfold lH
   rw[if_neg (by rw[eM];exact Bool.false_ne_true),hc]
   dsimp only
   rfl
  refine au (fun h2=> ?_) (fun h2=> ?_)
  ·refine cn ?_
   have iK:(!l8 a fB|| !l8 b tB)=true:=h2
   rw[BK,if_pos iK]
  ·simp+contextual only[go_sem,hc]
   have hl:(a::b::r).length<=1000:=by rw[<- hc];omega
   have vC:=Fc (a::b::r) [] hl aG (by rw[<- hc];exact hs.nc)
   simp only[List.map_cons,List.map_nil]at vC
   refine ba vC ?_
   have iK:(!l8 a fB|| !l8 b tB)=false:=h2
   rw[BK,if_neg (by rw[iK];exact Bool.false_ne_true),hc]
   cases hn:cc (a::b::r) []with
   |none=>simp+contextual only[go_sem,hn]
   |some B=>
    refine jX hn ?_
    have hB:B.length<=1000:=by
     have:=GO hn
     rw[this];simp at hl|-;omega
    have acz:=Fc s.cC B ae hB hs.nf
    refine ba acz ?_
    simp+contextual only[go_sem]
theorem CD{l:List jD}{n:Int}{x:jD}(h:l[n.toNat]? =some x):gS l n=x.args:=by simp[gS,h]
theorem Ei{l:List jD}{n:Int}(h:dF n 0 (l.length - 1)=true):0<=n/\∃x,l[n.toNat]? =some x:=by
 simp[dF]at h
 exact⟨h.1,l[n.toNat]'ae,aG⟩
theorem Te(s:aB)(t:Tm)(hs:s.Fits)(ht:t.kids.length<=9223372036854775807):aV Tryz.prog 127 [s.d,t.d] (.ret [.bool (bn s t)]):=by
 refine aV.aJ mix Y5 aG ?_
 rw[Y4]
 refine cn ?_
 rcases(by omega:t.op=1\/t.op=2\/t.op=3\/t.op=4\/t.op=5\/t.op=8\/(t.op=6\/t.op=7\/t.op=9\/t.op=10\/t.op=11\/t.op=12\/t.op=13\/t.op=14\/t.op=15)\/(t.op<1\/15<t.op))with h|h|h|h|h|h|h|h
 ·have hn:bn s t=((t.kids.length:Int)==0&&dF t.n 0 19):=by simp[bn,h]
  refine jX h ?_
  refine gR (fR [.bool (dF t.n 0 19)] ?_ ?_)
  ·refine cn ?_
   exact Ee
  refine jX h ?_
  rw[hn]
 ·have hn:bn s t=((t.kids.length:Int)==0&&dF t.n (-1000000) 1000000):=by simp[bn,h]
  refine jX h ?_
  refine gR (fR [.bool (dF t.n (-1000000) 1000000)] ?_ ?_)
  ·refine cn ?_
   exact Ee
  refine jX h ?_
  rw[hn]
 ·have hn:bn s t=(dF t.n 0 (s.cons.length - 1)&&(t.kids.length:Int)==gS s.cons t.n):=by simp[bn,h]
  refine jX h ?_
  rw[wrap64 (by have:=hs.lc;omega) (by have:=hs.lc;omega)]
  refine aj (FT _ _ _) rfl ?_
  cases hI:dF t.n 0 (s.cons.length - 1)with
  |false=>
   exact QY
  |true=>
   exact QN
 ·have hn:bn s t=(dF t.n 0 (s.cC.length - 1)&&(t.kids.length:Int)==gS s.cC t.n):=by simp[bn,h]
  refine jX h ?_
  rw[wrap64 (by have:=hs.lf;omega) (by have:=hs.lf;omega)]
  refine aj (FT _ _ _) rfl ?_
  cases hI:dF t.n 0 (s.cC.length - 1)with
  |false=>
   exact QY
  |true=>
   exact QN
 ·have hn:bn s t=(dF t.n 0 (s.cC.length - 1)&&decide ((t.kids.length:Int)<gS s.cC t.n)):=by simp[bn,h]
  refine jX h ?_
  rw[wrap64 (by have:=hs.lf;omega) (by have:=hs.lf;omega)]
  refine aj (FT _ _ _) rfl ?_
  cases hI:dF t.n 0 (s.cC.length - 1)with
  |false=>
   exact QY
  |true=>
   exact QN
 ·have hn:bn s t=((t.kids.length:Int)==2&&dF t.n 0 19):=by simp[bn,h]
  refine jX h ?_
  refine gR (fR [.bool (dF t.n 0 19)] ?_ ?_)
  ·refine cn ?_
   exact Ee
  refine jX h ?_
  rw[hn]
 ·have hn:bn s t=((t.kids.length:Int)==2&&t.n==0):=by
   rcases h with h|h|h|h|h|h|h|h|h<;>simp[bn,h,dF]
  rw[hn]
  rcases h with h|h|h|h|h|h|h|h|h<;>simp+contextual only[go_sem,h]
 ·have hn:bn s t=false:=by
   simp[bn,dF,show ¬ (t.op=1) by omega,show ¬ (t.op=2) by omega,show ¬ (t.op=3) by omega,show ¬ (t.op=4) by omega,show ¬ (t.op=5) by omega,show ¬ (t.op=8) by omega,show ¬ (6<=t.op/\t.op<=15) by omega]
  have e:∀k:Int,1<=k->k<=15->(t.op==k)=false:=fun k h1 h2=>by simp;omega
  simp+contextual only[go_sem,e 1 (by omega) (by omega),e 2 (by omega) (by omega),e 3 (by omega) (by omega),e 4 (by omega) (by omega),e 5 (by omega) (by omega),e 6 (by omega) (by omega),e 7 (by omega) (by omega),e 8 (by omega) (by omega),e 9 (by omega) (by omega),e 10 (by omega) (by omega),e 11 (by omega) (by omega),e 12 (by omega) (by omega),e 13 (by omega) (by omega),e 14 (by omega) (by omega),e 15 (by omega) (by omega)]
  rw[hn]
theorem kM(s:aB)(t:Tm):gU s t=(bn s t&&t.kids.all (gU s)):=by
 have:∀l:List Tm,te s l=l.all (gU s):=fun l=>by
  induction l with
  |nil=>rfl
  |cons k l ih=>simp[te,ih]
 cases t;simp[gU,this,Tm.kids]
theorem kN{α:Type}{l:List α}{p:α->Bool}{k:Nat}{x:α}(hx:l[k]? =some x)(h:p x=false):l.all p=false:=by
 rw[List.all_eq_false];exact⟨x,List.mem_of_getElem? hx,by rw[h];exact Bool.false_ne_true⟩
theorem mY{α:Type}{l:List α}{p:α->Bool}{k:Nat}{x:α}(hx:l[k]? =some x)(h0:(l.take k).all p=true)(h:p x=true):(l.take (k+1)).all p=true:=by
 rw[List.take_add_one,hx,List.all_append,h0];simp[h]
theorem mZ{α:Type}{l:List α}{p:α->Bool}{k:Nat}(h0:(l.take k).all p=true)(h:l.length<=k):l.all p=true:=by
 rwa [List.take_of_length_le h]at h0
theorem aD{α:Type}{l:List α}{k:Nat}(h:k<l.length):∃x,l[k]? =some x:=⟨l[k],by simp[h]⟩
@[reducible] def aB.row (s:aB):List V:=[.d (.sl (s.cons.map jD.d)), .d (.sl (s.cC.map jD.d))]
theorem Mz(s:aB)(hs:s.Fits):∀t:Tm,t.fits->aV Tryz.prog 94 [s.d,t.d] (.ret [.bool (gU s t)]):=by
 refine Tm.fg fun t ih hf=> ?_
 have vV:=(Tm.bF _).1 hf
 refine aV.aJ mix acv aG ?_
 rw[c94]
 refine cn ?_
 refine aj (Te s t hs vV.1) rfl ?_
 refine cn ?_
 rw[kM]
 refine au (fun h1=> ?_) (fun h1=> ?_)
 ·refine cn ?_
  simp at h1;simp[h1]
 ·simp at h1
  rw[h1,Bool.true_and]
  refine cn ?_
  refine aF (fun k:Nat=>⟨bf [.ab, .ab, .ptr 0 0, .ptr 1 0, .ab, .d (.i k)],Dv s.row t.row,2⟩)
   (fun k=>k<=t.kids.length/\(t.kids.take k).all (gU s)=true) (fun k=>t.kids.length - k) 0 ⟨Nat.zero_le _,aG⟩ (bM.d2 _ (jT rfl rfl) ae rfl rfl ?_) (fun k hk=> ?_)
  ·exact dU
  refine cn ?_
  refine au (fun h2=> ?_) (fun h2=> ?_)
  ·simp at h2
   obtain⟨x,hx⟩:=aD h2
   have cL:=List.mem_of_getElem? hx
   refine jX hx ?_
   refine aX (ih x cL (vV.2 x cL)) rfl ?_
   refine cn ?_
   refine aL cE ?_
   refine cn ?_
   refine au (fun h3=> ?_) (fun h3=> ?_)
   ·refine cn ?_
    simp at h3
    rw[kN hx h3]
   ·refine cn ?_
    simp at h3
    refine aq (k+1) ⟨h2,mY hx hk.2 h3⟩ ae (bM.d2 _ (jT rfl rfl) ae rfl rfl ?_)
    exact dU
  ·refine cn ?_
   simp at h2
   rw[mZ hk.2 h2]
theorem JL(s:aB)(hs:s.Fits)(t:Tm)(hf:t.fits):aV Tryz.prog 43 [s.d,t.d] (.ret [.bool (ew s t)]):=by
 refine aV.aJ mix ab4 aG ?_
 rw[c43]
 refine cn ?_
 refine aj (Fb t hf 40 12 ae ae) rfl ?_
 refine cn ?_
 refine gR (fR [.bool (gU s t)] ?_ ?_)
 ·refine cn ?_
  exact fun _=>Mz s hs t hf
 refine cn ?_
 rfl
theorem rC(t:Tm):dR t=(t.kids.all dR&&((decide (1<=t.op)&&decide (t.op<=3))||t.op==5)):=by
 have:∀l:List Tm,tf l=l.all dR:=fun l=>by
  induction l with
  |nil=>rfl
  |cons k l ih=>simp[tf,ih]
 cases t;simp only[dR,this,Tm.kids,Tm.op];rfl
theorem MA:∀t:Tm,t.fits->aV Tryz.prog 92 [t.d] (.ret [.bool (dR t)]):=by
 refine Tm.fg fun t ih hf=> ?_
 have vV:=(Tm.bF _).1 hf
 refine aV.aJ mix acs aG ?_
 rw[c92,rC]
 refine cn ?_
 refine aF (fun k:Nat=>⟨bf [.ab, .ptr 0 0, .ab, .d (.i k)],oR t.row,1⟩)
  (fun k=>k<=t.kids.length/\(t.kids.take k).all dR=true) (fun k=>t.kids.length - k) 0 ⟨Nat.zero_le _,aG⟩ (bM.d1 _ (cu rfl) ae rfl ?_) (fun k hk=> ?_)
 ·exact dU
 refine cn ?_
 refine au (fun h2=> ?_) (fun h2=> ?_)
 ·simp at h2
  obtain⟨x,hx⟩:=aD h2
  have cL:=List.mem_of_getElem? hx
  refine jX hx ?_
  refine aj (ih x cL (vV.2 x cL)) rfl ?_
  refine cn ?_
  refine au (fun h3=> ?_) (fun h3=> ?_)
  ·refine cn ?_
   simp at h3
   rw[kN hx h3];rfl
  ·refine cn ?_
   simp at h3
   refine aq (k+1) ⟨h2,mY hx hk.2 h3⟩ ae (bM.d1 _ (cu rfl) ae rfl ?_)
   exact dU
 ·refine cn ?_
  simp at h2
  rw[mZ hk.2 h2];rfl
theorem gW:∀l l':List Tm,l.length=l'.length->(gV l l'=true↔∀ (i:Nat) (x y:Tm),l[i]? =some x->l'[i]? =some y->ir x y=true)
 |[],l',_=>by simp[gV]
 |k::l,k'::l',h=>by
  simp only[gV,Bool.and_eq_true]
  rw[gW l l' (by simpa using h)]
  constructor
  ·rintro⟨h1,h2⟩ i x y hx hy
   cases i with
   |zero=>simp at hx hy;subst hx;subst hy;exact h1
   |succ i=>exact h2 i x y wy (by simpa using hy)
  ·intro h3
   exact⟨h3 0 k k' rfl rfl,fun i x y hx hy=>h3 (i+1) x y wy (by simpa using hy)⟩
 |_::_,[],h=>by simp at h
theorem qi(a b:Tm):ir a b=(a.op==b.op&&a.n==b.n&&a.kids.length==b.kids.length&&gV a.kids b.kids):=by cases a;cases b;simp[ir,Tm.op,Tm.n,Tm.kids]
theorem rD:∀a:Tm,a.fits->∀b:Tm,b.fits->aV Tryz.prog 40 [a.d,b.d] (.ret [.bool (ir a b)]):=by
 refine Tm.fg fun t ih hf b hb=> ?_
 have vV:=(Tm.bF _).1 hf
 have wI:=(Tm.bF _).1 hb
 refine aV.aJ mix Yt aG ?_
 rw[c40,qi]
 refine cn ?_
 refine au (fun h1=> ?_) (fun h1=> ?_)
 ·refine cn ?_
  have:(t.op==b.op&&t.n==b.n&&t.kids.length==b.kids.length)=false:=by
   rw[Bool.eq_false_iff]
   intro h
   simp at h
   simp[h]at h1
  rw[this];rfl
 ·have eM:t.op=b.op/\t.n=b.n/\t.kids.length=b.kids.length:=by
   simp at h1
   refine⟨h1.1.1,h1.1.2,by have:=h1.2;omega⟩
  rw[show(t.op==b.op&&t.n==b.n&&t.kids.length==b.kids.length)=true by simp[eM],Bool.true_and]
  have hl:=eM.2.2
  refine cn ?_
  refine aF (fun k:Nat=>⟨bf [.ab, .ab, .ptr 0 0, .ptr 1 0, .ab, .d (.i k)],Dv t.row b.row,2⟩)
   (fun k=>k<=t.kids.length/\∀i,i<k->∀x y,t.kids[i]? =some x->b.kids[i]? =some y->ir x y=true) (fun k=>t.kids.length - k) 0 ⟨Nat.zero_le _,fun i h=>ae⟩ (bM.d2 _ (jT rfl rfl) ae rfl rfl ?_) (fun k hk=> ?_)
  ·exact dU
  refine cn ?_
  refine au (fun h2=> ?_) (fun h2=> ?_)
  ·simp at h2
   obtain⟨x,hx⟩:=aD h2
   obtain⟨y,hy⟩:=aD (l:=b.kids) (k:=k) ae
   have cL:=List.mem_of_getElem? hx
   have MB:=List.mem_of_getElem? hy
   simp+contextual only[go_sem,hx,hy]
   refine aX (ih x cL (vV.2 x cL) y (wI.2 y MB)) rfl ?_
   refine cn ?_
   refine aL cE ?_
   refine cn ?_
   refine au (fun h3=> ?_) (fun h3=> ?_)
   ·refine cn ?_
    simp at h3
    have:gV t.kids b.kids=false:=by
     rw[Bool.eq_false_iff]
     intro h
     have:=(gW _ _ hl).1 h k x y hx hy
     rw[h3]at this;cases this
    rw[this]
   ·refine cn ?_
    simp at h3
    refine aq (k+1) ⟨h2,fun i hi u v hu hv=> ?_⟩ ae (bM.d2 _ (jT rfl rfl) ae rfl rfl ?_)
    ·by_cases e:i=k
     ·subst e
      rw[hx]at hu;rw[hy]at hv
      exact NF
     ·exact hk.2 i ae u v hu hv
    ·exact dU
  ·refine cn ?_
   simp at h2
   have:gV t.kids b.kids=true:=(gW _ _ hl).2 fun i x y hx hy=>hk.2 i (by have:=(List.getElem?_eq_some_iff.1 hx).1;omega) x y hx hy
   rw[this]
theorem qj(t:Tm)(hf:t.fits):aV Tryz.prog 61 [t.d] (.ret [.bool (dS t)]):=by
 refine aV.aJ mix acd aG ?_
 rw[c61]
 refine cn ?_
 refine aj (Fb t hf 50 14 ae ae) rfl ?_
 refine cn ?_
 rfl
theorem Dw(s:aB)(hs:s.Fits):aV Tryz.prog 78 [s.d] (.ret [.bool (iX s)]):=by
 refine aV.aJ mix acp aG ?_
 rw[c78]
 refine cn ?_
 refine au (fun h1=> ?_) (fun h1=> ?_)
 ·refine cn ?_
  simp only[iX,h1];rfl
 ·have e:iX s=(fA s.cons&&fA s.cC):=by simp only[iX,h1];rfl
  rw[e]
  simp at h1
  refine cn ?_
  refine aF (fun k:Nat=>⟨bf [.ab, .ptr 0 0, .ab, .d (.i k)],oR s.row,1⟩)
   (fun k=>k<=s.cons.length/\fA (s.cons.take k)=true) (fun k=>s.cons.length - k) 0 ⟨Nat.zero_le _,by simp[fA]⟩ (bM.d1 _ (cu rfl) ae rfl ?_) (fun k hk=> ?_)
  ·exact dU
  refine cn ?_
  refine au (fun h2=> ?_) (fun h2=> ?_)
  ·simp at h2
   obtain⟨x,hx⟩:=aD h2
   refine jX hx ?_
   refine au (fun h3=> ?_) (fun h3=> ?_)
   ·refine cn ?_
    rw[show fA s.cons=false from kN hx (by simpa using h3)];rfl
   ·refine cn ?_
    refine aq (k+1) ⟨h2,mY hx hk.2 (by simpa using h3)⟩ ae (bM.d1 _ (cu rfl) ae rfl ?_)
    exact dU
  ·simp at h2
   rw[show fA s.cons=true from mZ hk.2 h2,Bool.true_and]
   refine cn ?_
   refine aF (fun k:Nat=>⟨bf [.ab, .ptr 0 0, .ab, .ab, .d (.i k)],oR s.row,1⟩)
    (fun k=>k<=s.cC.length/\fA (s.cC.take k)=true) (fun k=>s.cC.length - k) 0 ⟨Nat.zero_le _,by simp[fA]⟩ (bM.d1 _ (cu rfl) ae rfl ?_) (fun k hk=> ?_)
   ·exact dU
   refine cn ?_
   refine au (fun h4=> ?_) (fun h4=> ?_)
   ·simp at h4
    obtain⟨x,hx⟩:=aD h4
    refine jX hx ?_
    refine au (fun h3=> ?_) (fun h3=> ?_)
    ·refine cn ?_
     rw[show fA s.cC=false from kN hx (by simpa using h3)]
    ·refine cn ?_
     refine aq (k+1) ⟨h4,mY hx hk.2 (by simpa using h3)⟩ ae (bM.d1 _ (cu rfl) ae rfl ?_)
     exact dU
   ·simp at h4
    rw[show fA s.cC=true from mZ hk.2 h4]
    simp+contextual only[go_sem]
end Go.Proofs.YtlhemmpklhhgoaaGreat
