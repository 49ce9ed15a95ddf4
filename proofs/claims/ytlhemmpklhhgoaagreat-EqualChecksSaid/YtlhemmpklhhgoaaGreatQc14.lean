/-
  A PART OF THE PROOF. Conditions: none.
-/
import Derived.Test.YtlhemmpklhhgoaaGreatRows
import Derived.Shelf.SlMaps.Clone
import Derived.Test.YtlhemmpklhhgoaaGreatQc13
set_option linter.unusedSimpArgs false
set_option linter.unusedVariables false
section
namespace Go.Proofs.YtlhemmpklhhgoaaGreat
open Go.Shelf
def Ai:Go.Shelf.Ren:=⟨fun|5=>100|7=>130|n=>n,fun|23=>93|25=>3|3=>33|4=>4|20=>20|n=>n,fun|n=>n⟩
theorem Oe:Go.Proofs.SlLaysW.n5 Tryz.prog Ai:={
 mixed:=ae
 f5:=⟨Tryz.f100.name,dU,Tryz.func100.trans (congrArg some ae)⟩
 f7:=Tryz.func130.trans (congrArg some ae)
 t4:=Tryz.underlying4
 a4:=Tryz.isAgg4
 z4:=Tryz.sizeOf4
 v4:=Tryz.zeroValue4
 t20:=Tryz.underlying20
 a20:=Tryz.isAgg20
 z20:=Tryz.sizeOf20
 v20:=Tryz.zeroValue20
 t23:=Tryz.underlying93
 a23:=Tryz.isAgg93
 z23:=Tryz.sizeOf93
 v23:=Tryz.zeroValue93}
theorem Of:BH Tryz.prog 100:=⟨⟨_,Tryz.func100,ae,ae⟩,fun w b es clock hb=>AnyW.maps_Clone Oe b es clock w hb⟩
end Go.Proofs.YtlhemmpklhhgoaaGreat
end
namespace Go.Proofs.YtlhemmpklhhgoaaGreat
theorem mix:Tryz.prog.follows .mixedOrders=true:=ae
def zn:Tr FD:= .e fun _=> .no
theorem zt{f:Nat->Nat}:Tr.BV (fun(g:Nat) (d:FD)=>d.Ok Tryz.prog g) zn f:=fun _=>trivial
def Vj:Tr FD:=
 (.n .no (.n .no (.n .no (.n .no (.n (.fn 34 c15 [.cell 6 29, .tmp 7]) (.n .no (.n (.fn 27 c63 [.cell 6 95, .tmp 7]) zn (.n (.fn 15 Vb [.tmp 6]) zn zn)) (.n .no (.n (.fn 4 NT [.tmp 2]) zn zn) zn)) (.n (.fn 9 c47 [.cell 4 33]) (.n (.fn 167 Y8 [.cell 2 95, .tmp 3]) zn zn) (.n (.fn 4 T3 [.tmp 2]) (.n (.fn 49 UI []) zn zn) zn))) (.n .no (.n .no (.n .no (.n (.fn 11 Un []) zn zn) (.n (.fn 14 Oc [.tmp 4]) zn zn)) (.n (.fn 133 TP []) (.n (.fn 8 NY [.tmp 3]) zn zn) zn)) (.n .no zn (.n (.fn 46 NH [.tmp 2]) (.n (.fn 168 UZ [.tmp 8, .tmp 9]) zn zn) zn)))) (.n .no (.n .no (.n (.fn 40 c35 [.tmp 6, .tmp 7]) (.n (.fn 45 c67 [.tmp 2, .tmp 3]) zn (.n (.fn 14 N8 [.tmp 4]) zn zn)) (.n (.fn 22 Zh [.tmp 4]) (.n (.fn 8 UG [.tmp 2]) zn zn) zn)) (.n (.fn 6 c51 [.cell 2 33]) (.n .no (.n (.fn 18 NP [.tmp 4]) zn zn) zn) (.n .no (.n (.fn 32 UQ []) zn zn) zn))) (.n .no (.n .no zn (.n (.fn 6 TX [.cell 2 33]) (.n (.fn 39 N1 [.cell 4 4]) zn zn) zn)) (.n .no (.n (.fn 35 Zd [.tmp 8]) zn zn) (.n .no (.n (.fn 19 N6 [.cell 0 210]) zn zn) zn))))) (.n .no (.n .no (.n .no (.n .no (.n (.fn 66 c65 [.cell 2 29]) (.n (.fn 32 NK [.tmp 4, .tmp 5, .tmp 6]) zn zn) (.n (.fn 6 Vf [.tmp 2]) zn zn)) (.n .no (.n (.fn 13 UC [.tmp 4]) zn zn) zn)) (.n (.fn 10 c49 [.cell 0 29]) (.n .no (.n (.fn 28 NN [.tmp 2]) zn zn) zn) (.n .no (.n (.fn 65 UM []) zn zn) zn))) (.n (.fn 46 c25 [.tmp 4]) (.n .no (.n (.fn 33 c73 [.tmp 4]) zn (.n (.fn 28 Vh [.tmp 8, .tmp 9]) zn zn)) (.n (.fn 8 TT [.tmp 2]) (.n (.fn 18 NZ [.tmp 4]) zn zn) zn)) (.n .no zn (.n (.fn 15 NJ [.tmp 2]) (.n (.fn 25 U3 [.tmp 2]) zn zn) zn)))) (.n .no (.n (.fn 70 c21 [.tmp 4]) (.n .no (.n (.fn 9 c69 [.tmp 2]) (.n (.fn 32 NL [.tmp 6]) zn zn) (.n (.fn 27 Oa [.tmp 4]) zn zn)) (.n (.Yk 6 Kx TM 131 3 [.tmp 2] [.cell 2 36] 14 5 5 TF) (.n (.fn 17 NW [.tmp 4]) zn zn) zn)) (.n .no (.n (.fn 8 c85 [.cell 4 33]) (.n (.fn 4 NR [.tmp 2]) zn zn) zn) (.n .no (.n (.fn 17 UU [.tmp 4]) zn zn) zn))) (.n .no (.n .no zn (.n (.fn 17 TZ []) (.n (.fn 17 N3 [.tmp 6]) zn zn) zn)) (.n .no zn (.n .no (.n (.fn 7 U7 [.tmp 2]) zn zn) zn)))))) (.n .no (.n .no (.n .no (.n (.fn 62 c16 [.cell 6 29, .tmp 7]) (.n .no (.n (.fn 45 c64 [.cell 6 95, .tmp 7]) zn (.n (.fn 36 Vd [.tmp 10]) zn zn)) (.n .no (.n (.fn 16 NU [.cell 2 4]) zn zn) zn)) (.n (.fn 5 c48 [.cell 2 33]) (.n (.fn 5 c80 [.cell 2 33]) (.n (.fn 24 NM [.tmp 3]) zn zn) zn) (.n (.fn 21 NG [.cell 4 33]) (.n (.fn 56 UK []) zn zn) zn))) (.n (.fn 94 c24 [.cell 2 43, .tmp 3]) (.n (.fn 46 YH [.tmp 4]) (.n .no (.n (.fn 14 Up []) zn zn) (.n (.fn 14 Od [.tmp 4]) zn zn)) (.n (.fn 9 TR [.tmp 2]) zn zn)) (.n .no (.n (.fn 9 c88 [.tmp 4]) zn zn) (.n (.fn 14 NI [.tmp 6]) (.n (.fn 19 U1 [.tmp 2]) zn zn) zn)))) (.n .no (.n .no (.n .no (.n (.fn 33 YZ [.cell 4 33]) (.n (.fn 47 Uj []) zn zn) (.n (.fn 27 N9 [.tmp 4]) zn zn)) (.n .Yl (.n (.fn 8 NV []) zn zn) zn)) (.n (.fn 2 c52 [.cell 0 33]) (.n .no (.n (.fn 34 NQ [.cell 6 4]) zn zn) zn) (.n .no (.n (.fn 133 US [.tmp 6]) zn zn) zn))) (.n .no (.n .no zn (.n (.fn 24 NF [.tmp 4]) (.n (.fn 8 N2 []) zn zn) zn)) (.n (.fn 42 c60 [.tmp 4]) zn (.n .no (.n (.fn 76 U5 []) zn zn) zn))))) (.n .no (.n .no (.n .no (.n .no (.n (.fn 16 YX [.tmp 4]) zn (.n (.fn 14 N7 [.tmp 4]) zn zn)) (.n .no (.n (.fn 134 UE []) zn zn) zn)) (.n (.fn 2 c50 [.cell 0 33]) (.n .no (.n (.fn 15 NO [.tmp 6]) zn zn) zn) (.n .no (.n (.fn 57 UO [.tmp 6, .tmp 7]) zn zn) zn))) (.n .no (.n .no (.n (.fn 50 c74 [.tmp 4]) zn zn) (.n (.fn 8 TV [.tmp 2]) (.n (.fn 7 N0 [.tmp 3]) zn zn) zn)) (.n .no zn (.n .no (.n (.fn 19 N5 [.tmp 4]) zn zn) zn)))) (.n (.fn 101 c14 [.tmp 0]) (.n .no (.n .no (.n .no (.n (.fn 5 Ul [.tmp 2]) zn zn) (.n (.fn 27 Ob [.tmp 4]) zn zn)) (.n (.fn 7 TN []) (.n (.fn 9 NX [.tmp 4]) zn zn) zn)) (.n .no zn (.n .no (.n (.fn 84 UX [.tmp 8]) zn zn) zn))) (.n .no (.n (.fn 10 c46 [.cell 0 29]) zn (.n (.fn 9 T1 [.tmp 2]) (.n (.fn 10 N4 [.tmp 4]) zn zn) zn)) (.n (.fn 12 c62 [.cell 0 24]) (.n .no (.n (.fn 13 NS [.tmp 4]) zn zn) zn) (.n (.fn 19 Uf [.tmp 4]) (.n (.fn 33 U9 [.tmp 2]) zn zn) zn)))))))
noncomputable def bu:Nat->FD:=Vj.get
theorem eZ:∀g,(bu g).Ok Tryz.prog g:=
 Tr.vS (p:=fun g d=>d.Ok Tryz.prog g) (f:=fun g=>g) Vj
   ⟨trivial,⟨trivial,⟨trivial,⟨trivial,⟨Yx,⟨trivial,⟨YU,zt,⟨Vc,zt,zt⟩⟩,⟨trivial,⟨KQ,zt,zt⟩,zt⟩⟩,⟨YL,⟨TJ,zt,zt⟩,⟨T4,⟨UJ,zt,zt⟩,zt⟩⟩⟩,⟨trivial,⟨trivial,⟨trivial,⟨Uo,zt,zt⟩,⟨Ld,zt,zt⟩⟩,⟨TQ,⟨KY,zt,zt⟩,zt⟩⟩,⟨trivial,zt,⟨KA,⟨U0,zt,zt⟩,zt⟩⟩⟩⟩,⟨trivial,⟨trivial,⟨YE,⟨YY,zt,⟨K9,zt,zt⟩⟩,⟨TL,⟨UH,zt,zt⟩,zt⟩⟩,⟨YP,⟨trivial,⟨KL,zt,zt⟩,zt⟩,⟨trivial,⟨UR,zt,zt⟩,zt⟩⟩⟩,⟨trivial,⟨trivial,zt,⟨TY,⟨K1,zt,zt⟩,zt⟩⟩,⟨trivial,⟨TK,zt,zt⟩,⟨trivial,⟨K7,zt,zt⟩,zt⟩⟩⟩⟩⟩,⟨trivial,⟨trivial,⟨trivial,⟨trivial,⟨YW,⟨KG,zt,zt⟩,⟨Vg,zt,zt⟩⟩,⟨trivial,⟨UD,zt,zt⟩,zt⟩⟩,⟨YN,⟨trivial,⟨KJ,zt,zt⟩,zt⟩,⟨trivial,⟨UN,zt,zt⟩,zt⟩⟩⟩,⟨YD,⟨trivial,⟨Y2,zt,⟨Vi,zt,zt⟩⟩,⟨TU,⟨KZ,zt,zt⟩,zt⟩⟩,⟨trivial,zt,⟨KF,⟨U4,zt,zt⟩,zt⟩⟩⟩⟩,⟨trivial,⟨Yz,⟨trivial,⟨Y0,⟨KH,zt,zt⟩,⟨Lb,zt,zt⟩⟩,⟨⟨ND,NC⟩,⟨KU,zt,zt⟩,zt⟩⟩,⟨trivial,⟨Za,⟨KN,zt,zt⟩,zt⟩,⟨trivial,⟨UW,zt,zt⟩,zt⟩⟩⟩,⟨trivial,⟨trivial,zt,⟨T0,⟨K4,zt,zt⟩,zt⟩⟩,⟨trivial,zt,⟨trivial,⟨U8,zt,zt⟩,zt⟩⟩⟩⟩⟩⟩,⟨trivial,⟨trivial,⟨trivial,⟨Yy,⟨trivial,⟨YV,zt,⟨Ve,zt,zt⟩⟩,⟨trivial,⟨KR,zt,zt⟩,zt⟩⟩,⟨YM,⟨Y9,⟨KI,zt,zt⟩,zt⟩,⟨Kz,⟨UL,zt,zt⟩,zt⟩⟩⟩,⟨YC,⟨TG,⟨trivial,⟨Uq,zt,zt⟩,⟨Le,zt,zt⟩⟩,⟨TS,zt,zt⟩⟩,⟨trivial,⟨Zc,zt,zt⟩,⟨KC,⟨U2,zt,zt⟩,zt⟩⟩⟩⟩,⟨trivial,⟨trivial,⟨trivial,⟨TI,⟨Uk,zt,zt⟩,⟨La,zt,zt⟩⟩,⟨Of,⟨KT,zt,zt⟩,zt⟩⟩,⟨YQ,⟨trivial,⟨KM,zt,zt⟩,zt⟩,⟨trivial,⟨UT,zt,zt⟩,zt⟩⟩⟩,⟨trivial,⟨trivial,zt,⟨Ky,⟨K2,zt,zt⟩,zt⟩⟩,⟨YR,zt,⟨trivial,⟨U6,zt,zt⟩,zt⟩⟩⟩⟩⟩,⟨trivial,⟨trivial,⟨trivial,⟨trivial,⟨TH,zt,⟨K8,zt,zt⟩⟩,⟨trivial,⟨UF,zt,zt⟩,zt⟩⟩,⟨YO,⟨trivial,⟨KK,zt,zt⟩,zt⟩,⟨trivial,⟨UP,zt,zt⟩,zt⟩⟩⟩,⟨trivial,⟨trivial,⟨Y3,zt,zt⟩,⟨TW,⟨K0,zt,zt⟩,zt⟩⟩,⟨trivial,zt,⟨trivial,⟨K6,zt,zt⟩,zt⟩⟩⟩⟩,⟨Yw,⟨trivial,⟨trivial,⟨trivial,⟨Um,zt,zt⟩,⟨Lc,zt,zt⟩⟩,⟨TO,⟨KW,zt,zt⟩,zt⟩⟩,⟨trivial,zt,⟨trivial,⟨UY,zt,zt⟩,zt⟩⟩⟩,⟨trivial,⟨YK,zt,⟨T2,⟨K5,zt,zt⟩,zt⟩⟩,⟨YT,⟨trivial,⟨KO,zt,zt⟩,zt⟩,⟨Ug,⟨Va,zt,zt⟩,zt⟩⟩⟩⟩⟩⟩⟩
end Go.Proofs.YtlhemmpklhhgoaaGreat
namespace Go.Proofs.YtlhemmpklhhgoaaGreat
@[go_sem] theorem cellsOf_3:Tryz.prog.cellsOf 3=1:=ae
@[go_sem] theorem bytesOf_3:Tryz.prog.bytesOf 3=8:=ae
@[go_sem] theorem aggT_3:dc Tryz.prog 3=some false:=ae
@[go_sem] theorem infoT_3:(Tryz.prog.info? 3).isSome=true:=ae
@[go_sem] theorem undT_3:Tryz.prog.underlying 3=some (.int .i64):=ae
@[go_sem] theorem eqShape_3:bB Tryz.prog 3=some .int:=ae
@[go_sem] theorem zeroT_3:cN Tryz.prog 3=some [.d (.int .i64 0)]:=ae
@[go_sem] theorem cellsOf_4:Tryz.prog.cellsOf 4=1:=ae
@[go_sem] theorem aggT_4:dc Tryz.prog 4=some false:=ae
@[go_sem] theorem isBoolT_4:jJ Tryz.prog 4=true:=ae
@[go_sem] theorem infoT_4:(Tryz.prog.info? 4).isSome=true:=ae
@[go_sem] theorem zeroT_4:cN Tryz.prog 4=some [.d (.bool false)]:=ae
@[go_sem] theorem zeroV_4:zeroV Tryz.prog 4=some (.d (.bool false)):=ae
@[go_sem] theorem cellsOf_9:Tryz.prog.cellsOf 9=1:=ae
@[go_sem] theorem bytesOf_9:Tryz.prog.bytesOf 9=16:=ae
@[go_sem] theorem aggT_9:dc Tryz.prog 9=some false:=ae
@[go_sem] theorem undT_9:Tryz.prog.underlying 9=some .string:=ae
@[go_sem] theorem eqShape_9:bB Tryz.prog 9=some .str:=ae
@[go_sem] theorem zeroT_9:cN Tryz.prog 9=some [.d (.str [])]:=ae
@[go_sem] theorem sliceT_22:bJ Tryz.prog 22=some 124:=ae
@[go_sem] theorem aggT_22:dc Tryz.prog 22=some false:=ae
@[go_sem] theorem undT_22:Tryz.prog.underlying 22=some (.slice 124):=ae
@[go_sem] theorem cellsOf_24:Tryz.prog.cellsOf 24=2:=ae
@[go_sem] theorem aggT_24:dc Tryz.prog 24=some true:=ae
@[go_sem] theorem sliceT_25:bJ Tryz.prog 25=some 59:=ae
@[go_sem] theorem aggT_25:dc Tryz.prog 25=some false:=ae
@[go_sem] theorem undT_25:Tryz.prog.underlying 25=some (.slice 59):=ae
@[go_sem] theorem sliceT_26:bJ Tryz.prog 26=some 101:=ae
@[go_sem] theorem aggT_26:dc Tryz.prog 26=some false:=ae
@[go_sem] theorem undT_26:Tryz.prog.underlying 26=some (.slice 101):=ae
@[go_sem] theorem sliceT_27:bJ Tryz.prog 27=some 77:=ae
@[go_sem] theorem aggT_27:dc Tryz.prog 27=some false:=ae
@[go_sem] theorem undT_27:Tryz.prog.underlying 27=some (.slice 77):=ae
@[go_sem] theorem cellsOf_29:Tryz.prog.cellsOf 29=5:=ae
@[go_sem] theorem aggT_29:dc Tryz.prog 29=some true:=ae
@[go_sem] theorem aggT_30:dc Tryz.prog 30=some false:=ae
@[go_sem] theorem undT_30:Tryz.prog.underlying 30=some (.int .i64):=ae
@[go_sem] theorem cellsOf_31:Tryz.prog.cellsOf 31=1:=ae
@[go_sem] theorem sliceT_31:bJ Tryz.prog 31=some 33:=ae
@[go_sem] theorem aggT_31:dc Tryz.prog 31=some false:=ae
@[go_sem] theorem intT_31:uR Tryz.prog 31=none:=ae
@[go_sem] theorem infoT_31:(Tryz.prog.info? 31).isSome=true:=ae
@[go_sem] theorem undT_31:Tryz.prog.underlying 31=some (.slice 33):=ae
@[go_sem] theorem cellsOf_33:Tryz.prog.cellsOf 33=3:=ae
@[go_sem] theorem bytesOf_33:Tryz.prog.bytesOf 33=40:=ae
@[go_sem] theorem aggT_33:dc Tryz.prog 33=some true:=ae
@[go_sem] theorem infoT_33:(Tryz.prog.info? 33).isSome=true:=ae
@[go_sem] theorem zeroT_33:cN Tryz.prog 33=some [.d (.int .i64 0), .d (.int .i64 0), .a8]:=ae
@[go_sem] theorem zeroV_33:zeroV Tryz.prog 33=some (lV [.d (.int .i64 0), .d (.int .i64 0), .a8]):=ae
@[go_sem] theorem placesT_33:eQ Tryz.prog 33=some [(0,1),(1,1),(2,1)]:=ae
@[go_sem] theorem cellsOf_59:Tryz.prog.cellsOf 59=4:=ae
@[go_sem] theorem aggT_59:dc Tryz.prog 59=some true:=ae
@[go_sem] theorem infoT_59:(Tryz.prog.info? 59).isSome=true:=ae
@[go_sem] theorem zeroT_59:cN Tryz.prog 59=some [.d (.int .i64 0), .d (.int .i64 0), .d (.int .i64 0), .a8]:=ae
@[go_sem] theorem cellsOf_77:Tryz.prog.cellsOf 77=2:=ae
@[go_sem] theorem aggT_77:dc Tryz.prog 77=some true:=ae
@[go_sem] theorem infoT_77:(Tryz.prog.info? 77).isSome=true:=ae
@[go_sem] theorem zeroT_77:cN Tryz.prog 77=some [.d (.int .i64 0), .d (.int .i64 0)]:=ae
@[go_sem] theorem placesT_77:eQ Tryz.prog 77=some [(0,1),(1,1)]:=ae
@[go_sem] theorem cellsOf_90:Tryz.prog.cellsOf 90=1:=ae
@[go_sem] theorem aggT_90:dc Tryz.prog 90=some false:=ae
@[go_sem] theorem infoT_90:(Tryz.prog.info? 90).isSome=true:=ae
@[go_sem] theorem zeroT_90:cN Tryz.prog 90=some [.d .bK]:=ae
@[go_sem] theorem aggT_93:dc Tryz.prog 93=some false:=ae
@[go_sem] theorem undT_93:Tryz.prog.underlying 93=some (.map 3 33):=ae
@[go_sem] theorem mapT_93:oH Tryz.prog 93=some (3,33):=ae
@[go_sem] theorem cellsOf_95:Tryz.prog.cellsOf 95=6:=ae
@[go_sem] theorem aggT_95:dc Tryz.prog 95=some true:=ae
@[go_sem] theorem infoT_95:(Tryz.prog.info? 95).isSome=true:=ae
@[go_sem] theorem zeroT_95:cN Tryz.prog 95=some [.a8, .a8, .a8, .a8, .a8, .d .eJ]:=ae
@[go_sem] theorem placesT_95:eQ Tryz.prog 95=some [(0,5),(5,1)]:=ae
@[go_sem] theorem cellsOf_101:Tryz.prog.cellsOf 101=6:=ae
@[go_sem] theorem aggT_101:dc Tryz.prog 101=some true:=ae
@[go_sem] theorem infoT_101:(Tryz.prog.info? 101).isSome=true:=ae
@[go_sem] theorem zeroT_101:cN Tryz.prog 101=some [.d (.int .i64 0), .d (.int .i64 0), .a8, .d (.int .i64 0), .d (.int .i64 0), .a8]:=ae
@[go_sem] theorem cellsOf_124:Tryz.prog.cellsOf 124=2:=ae
@[go_sem] theorem aggT_124:dc Tryz.prog 124=some true:=ae
@[go_sem] theorem infoT_124:(Tryz.prog.info? 124).isSome=true:=ae
@[go_sem] theorem zeroT_124:cN Tryz.prog 124=some [.d (.str []), .d (.int .i64 0)]:=ae
@[go_sem] theorem placesT_124:eQ Tryz.prog 124=some [(0,1),(1,1)]:=ae
@[go_sem] theorem sliceT_142:bJ Tryz.prog 142=some 3:=ae
@[go_sem] theorem intT_142:uR Tryz.prog 142=none:=ae
@[go_sem] theorem undT_142:Tryz.prog.underlying 142=some (.slice 3):=ae
@[go_sem] theorem sliceT_148:bJ Tryz.prog 148=some 9:=ae
@[go_sem] theorem intT_148:uR Tryz.prog 148=none:=ae
@[go_sem] theorem undT_148:Tryz.prog.underlying 148=some (.slice 9):=ae
@[go_sem] theorem cellsOf_154:Tryz.prog.cellsOf 154=1:=ae
@[go_sem] theorem aggT_154:dc Tryz.prog 154=some false:=ae
@[go_sem] theorem infoT_154:(Tryz.prog.info? 154).isSome=true:=ae
@[go_sem] theorem zeroT_154:cN Tryz.prog 154=some [.d .bK]:=ae
@[go_sem] theorem aggT_168:dc Tryz.prog 168=some false:=ae
@[go_sem] theorem cellsOf_175:Tryz.prog.cellsOf 175=1:=ae
@[go_sem] theorem aggT_175:dc Tryz.prog 175=some false:=ae
@[go_sem] theorem infoT_175:(Tryz.prog.info? 175).isSome=true:=ae
@[go_sem] theorem mapT_175:oH Tryz.prog 175=some (9,4):=ae
@[go_sem] theorem zeroT_175:cN Tryz.prog 175=some [.d .eJ]:=ae
@[go_sem] theorem cellsOf_178:Tryz.prog.cellsOf 178=1:=ae
@[go_sem] theorem aggT_178:dc Tryz.prog 178=some false:=ae
@[go_sem] theorem infoT_178:(Tryz.prog.info? 178).isSome=true:=ae
@[go_sem] theorem mapT_178:oH Tryz.prog 178=some (3,4):=ae
@[go_sem] theorem zeroT_178:cN Tryz.prog 178=some [.d .eJ]:=ae
@[go_sem] theorem cellsOf_209:Tryz.prog.cellsOf 209=1:=ae
@[go_sem] theorem aggT_209:dc Tryz.prog 209=some false:=ae
@[go_sem] theorem infoT_209:(Tryz.prog.info? 209).isSome=true:=ae
@[go_sem] theorem cellsOf_210:Tryz.prog.cellsOf 210=16:=ae
@[go_sem] theorem sliceT_210:bJ Tryz.prog 210=none:=ae
@[go_sem] theorem arrT_210:wS Tryz.prog 210=some (16,209):=ae
@[go_sem] theorem aggT_210:dc Tryz.prog 210=some true:=ae
@[go_sem] theorem infoT_210:(Tryz.prog.info? 210).isSome=true:=ae
@[go_sem] theorem zeroT_210:cN Tryz.prog 210=some [.d .bK, .d .bK, .d .bK, .d .bK, .d .bK, .d .bK, .d .bK, .d .bK, .d .bK, .d .bK, .d .bK, .d .bK, .d .bK, .d .bK, .d .bK, .d .bK]:=ae
@[go_sem] theorem placesT_210:eQ Tryz.prog 210=some [(0,1),(1,1),(2,1),(3,1),(4,1),(5,1),(6,1),(7,1),(8,1),(9,1),(10,1),(11,1),(12,1),(13,1),(14,1),(15,1)]:=ae
@[go_sem] theorem zeroT_213:cN Tryz.prog 213=some [.a8, .a8]:=ae
@[go_sem] theorem placesT_213:eQ Tryz.prog 213=some [(0,2)]:=ae
@[go_sem] theorem fieldT_24_0:bR Tryz.prog 24 0=some 0:=ae
@[go_sem] theorem fieldT_24_1:bR Tryz.prog 24 1=some 1:=ae
@[go_sem] theorem fieldT_29_0:bR Tryz.prog 29 0=some 0:=ae
@[go_sem] theorem fieldT_29_1:bR Tryz.prog 29 1=some 2:=ae
@[go_sem] theorem fieldT_29_2:bR Tryz.prog 29 2=some 3:=ae
@[go_sem] theorem fieldT_29_3:bR Tryz.prog 29 3=some 4:=ae
@[go_sem] theorem fieldT_33_0:bR Tryz.prog 33 0=some 0:=ae
@[go_sem] theorem fieldT_33_1:bR Tryz.prog 33 1=some 1:=ae
@[go_sem] theorem fieldT_33_2:bR Tryz.prog 33 2=some 2:=ae
@[go_sem] theorem fieldT_59_0:bR Tryz.prog 59 0=some 0:=ae
@[go_sem] theorem fieldT_59_1:bR Tryz.prog 59 1=some 1:=ae
@[go_sem] theorem fieldT_77_0:bR Tryz.prog 77 0=some 0:=ae
@[go_sem] theorem fieldT_77_1:bR Tryz.prog 77 1=some 1:=ae
@[go_sem] theorem fieldT_95_0:bR Tryz.prog 95 0=some 0:=ae
@[go_sem] theorem fieldT_95_1:bR Tryz.prog 95 1=some 5:=ae
@[go_sem] theorem fieldT_101_0:bR Tryz.prog 101 0=some 0:=ae
@[go_sem] theorem fieldT_101_1:bR Tryz.prog 101 1=some 3:=ae
@[go_sem] theorem fieldT_124_0:bR Tryz.prog 124 0=some 0:=ae
@[go_sem] theorem fieldT_124_1:bR Tryz.prog 124 1=some 1:=ae
@[go_sem] theorem fieldT_213_0:bR Tryz.prog 213 0=some 0:=ae
section
def nM(x y:aa):Prop:=(x.bI=true->y.bI=true)/\∀e,x.bL=some e->y.bL=some e
theorem nM.rfl' {x y:aa}(h:x=y):nM x y:=h ▸ ⟨id,fun _ h=>h⟩
theorem nM.fz (x:aa):nM x.fz x:=by cases x<;>exact⟨id,fun _ h=>h⟩
theorem nM.row (cs cs':List V):nM (.row cs) (.row cs'):=⟨fun _=>rfl,fun _ h=>by cases h⟩
mutual
theorem V.nN {B B':Nat->Prop}{φ aA:Place}{H H':Hp}{w:World}(hB:∀b, ¬B b-> ¬B' b):∀ (v:V) (val:Value),(∀id∈v.refs,nM (H'.o id) (H.o id)/\aA id=φ id/\H'.us id)->V.den B φ H w v val->V.den B' aA H' w v val
 | .d x,val,_,h=>D.aG (w:=w) (w':=w) (fun b _ hn=>⟨rfl,hB b hn⟩) x val h
 | .a8,_,_,h=>h
 | .ab,_,_,_=>trivial
 | .ek,_,_,h=>h
 | .oj es,val,_,h=>⟨D.aG (w:=w) (w':=w) (fun b _ hn=>⟨rfl,hB b hn⟩) (.sl es) val h.1,h.2⟩
 | .agg cs,val,hr,h=>by
   obtain⟨a,rfl,h1,h2⟩:=h
   exact⟨a,rfl,V.gL hB cs _ Cm h1,h2⟩
 | .bC cs,val,hr,h=>by
   obtain⟨a,rfl,h1⟩:=h
   exact⟨a,rfl,V.gL hB cs _ Cm h1⟩
 | .ptr id off,val,hr,h=>by
   exact Xd
 | .osl id ep,val,hr,h=>by
   obtain⟨a,b,c⟩:=hr id uJ
   obtain⟨h0,h1,h2⟩:=h
   refine⟨h0,c,fun e he=> ?_⟩
   obtain⟨x,y⟩:=h2 e (a.2 e he)
   exact⟨x,fun heq=>(y heq).trans b.symm⟩
 | .pe id ep i sz off,val,hr,h=>by
   obtain⟨a,b,c⟩:=hr id uJ
   obtain⟨h0,h1,h2⟩:=h
   refine⟨h0,c,fun e he=> ?_⟩
   obtain⟨x,y⟩:=h2 e (a.2 e he)
   exact RQ
 | .pp cs off,val,_,h=>by
   obtain⟨a,ev,h1,h2,h3,h5,h4⟩:=h
   exact QF
 | .func fn first cap,val,hr,h=>by
   obtain⟨f,c,rfl,h1,h2⟩:=h
   exact⟨f,c,rfl,V.gL hB first _ (fun id aq=>hr id (by simp[V.refs,aq])) h1,V.gL hB cap _ (fun id aq=>hr id (by simp[V.refs,aq])) h2⟩
 | .iface t x,val,hr,h=>by
   obtain⟨u,rfl,h⟩:=h
   exact⟨u,rfl,V.nN hB x u Cm h⟩
 | .tu id off n,val,hr,h=>by
   exact Xd
 | .mp id,val,hr,h=>by
   obtain⟨a,b,c⟩:=hr id uJ
   obtain⟨h0,h1,h2⟩:=h
   refine⟨h0,c,fun cn=> ?_⟩
   exact(h2 (a.1 cn)).trans b.symm
 | .jc id,val,hr,h=>by
   exact Xd
theorem V.gL {B B':Nat->Prop}{φ aA:Place}{H H':Hp}{w:World}(hB:∀b, ¬B b-> ¬B' b):∀ (vs:List V) (vals:List Value),(∀id∈V.aO vs,nM (H'.o id) (H.o id)/\aA id=φ id/\H'.us id)->V.az B φ H w vs vals->V.az B' aA H' w vs vals
 |[],_,_,h=>h
 |v::vs,_,hr,h=>by
  obtain⟨u,us,rfl,h1,h2⟩:=h
  exact⟨u,us,rfl,V.nN hB v u (fun id aq=>hr id (by simp[V.aO,aq])) h1,V.gL hB vs us (fun id aq=>hr id (by simp[V.aO,aq])) h2⟩
end
mutual
theorem V.oZ {B:Nat->Prop}{φ:Place}{H:Hp}{w:World}:∀ (v:V) (val:Value),V.den B φ H w v val->∀id∈v.refs,H.us id
 | .osl id ep,_,h,j,hj| .ptr id off,_,h,j,hj| .pe id ep i sz off,_,h,j,hj| .tu id off n,_,h,j,hj| .mp id,_,h,j,hj| .jc id,_,h,j,hj=>by simp[V.refs]at hj;subst hj;exact h.2.1
 | .agg cs,_,h,j,hj=>by obtain⟨a,rfl,h,_⟩:=h;exact V.ik cs _ h j (by simpa[V.refs]using hj)
 | .bC cs,_,h,j,hj=>by obtain⟨a,rfl,h⟩:=h;exact V.ik cs _ h j (by simpa[V.refs]using hj)
 | .func fn first cap,_,h,j,hj=>by
   obtain⟨f,c,rfl,h1,h2⟩:=h
   rcases List.mem_append.1 (show j∈V.aO first++V.aO cap by simpa[V.refs]using hj)with hj|hj
   ·exact V.ik first _ h1 j hj
   ·exact V.ik cap _ h2 j hj
 | .iface t x,_,h,j,hj=>by obtain⟨u,rfl,h⟩:=h;exact V.oZ x u h j (by simpa[V.refs]using hj)
 | .d _,_,_,_,hj| .a8,_,_,_,hj| .pp _ _,_,_,_,hj| .ab,_,_,_,hj| .oj _,_,_,_,hj| .ek,_,_,_,hj=>by simp[V.refs]at hj
theorem V.ik {B:Nat->Prop}{φ:Place}{H:Hp}{w:World}:∀ (vs:List V) (vals:List Value),V.az B φ H w vs vals->∀id∈V.aO vs,H.us id
 |[],_,_,j,hj=>by simp[V.aO]at hj
 |v::vs,_,h,j,hj=>by
  obtain⟨u,us,rfl,h1,h2⟩:=h
  rcases List.mem_append.1 (show j∈v.refs++V.aO vs by simpa[V.aO]using hj)with hj|hj
  ·exact V.oZ v u h1 j hj
  ·exact V.ik vs us h2 j hj
end
def mG(so:Nat->aa)(gone:Nat->Prop)(ty:TypeId)(sz:Nat)(es:List D)(x:V):Prop:=
 (x= .a8/\es=[]/\0<sz)\/∃id ep,gone id/\x= .osl id ep/\so id= .arr ep ty sz es
def kW(env:Nat->V):List V->Nat->Prop
 |[],_=>True
 |v::l,i=>(v= .ab\/v=env i)/\kW env l (i+1)
theorem Cl{env:Nat->V}{i:Nat}:kW env [] i:=trivial
theorem zf{env:Nat->V}{l:List V}{i:Nat}(h:kW env l (i+1)):kW env (.ab::l) i:=⟨.inl rfl,h⟩
theorem G6{env:Nat->V}{l:List V}{i:Nat}{v:V}(he:env i=v)(h:kW env l (i+1)):kW env (v::l) i:=⟨.inr he.symm,h⟩
theorem yk{env:Nat->V}:∀ (l:List V) (i:Nat),kW env l i->∀j,bc l j= .ab\/bc l j=env (i+j)
 |[],i,_,j=>by rw[nI];exact .inl rfl
 |v::l,i,h,0=>by rw[lC];exact h.1
 |v::l,i,h,j+1=>by
  rw[lD]
  have:=yk l (i+1) h.2 j
  rwa [show i+1+j=i+(j+1) by omega]at this
theorem Dc{P:Program}{n bq:Nat}{gq:Operand}{ps:List Nat}{x y:IC}{Q:eM->S->Prop}{e:Nat->V}{o:Nat->aa}{nx:Nat}{f:FuncId}{cap:List V}(env:List V)(he:kW e env 0)
 (h:dV P f (.jc nx::cap) (aM o nx (.loop P.funcs.size n env ps x y .ready none)) (nx+1)
  (fun _ o' nx'=>∃nf m en p c d st pd,o' nx= .loop nf m en p c d st pd/\st≠ .busy/\oO Q pd ⟨e,aM o' nx (.loop nf m en p c d .exhausted pd),nx'⟩) (fun v o' nx'=>Q (.bf v) ⟨e,o',nx'⟩)):
 xZ P n bq false gq ps x y Q ⟨e,o,nx⟩ (.func (.func f) [] cap):=by
 unfold xZ xB
 refine⟨rfl, .inl ⟨env,fun i=> ?_, .inl h⟩⟩
 have:=yk env 0 he i
 rwa [Nat.zero_add]at this
theorem bM.trans {b:Nat}{s s' s'':S}(h1:bM b s s')(h2:bM b s' s''):bM b s s'':=fun M φ w tm hH hd=>by
 obtain⟨aA,a1,a2,a3,a4,a5,a6⟩:=h1 M φ w tm hH hd
 obtain⟨zi,b1,b2,b3,b4,b5,b6⟩:=h2 M aA w tm a1 a2
 refine⟨zi,b1,b2,fun k hk=>a3 k (b3 k hk),b4,fun id aq hr=> ?_,fun id e' aq he=> ?_⟩
 ·obtain⟨c1,c2⟩:=b5 id aq hr
  obtain⟨c3,c4⟩:=a5 id aq c1
  exact⟨c3,c2.trans c4⟩
 ·obtain⟨e1,c1,c2,c3⟩:=b6 id e' aq he
  obtain⟨e0,d1,d2,d3⟩:=a6 id e1 aq c1
  exact⟨e0,d1,Nat.le_trans d2 c2,fun h=>(c3 af).trans (d3 af)⟩
def o6(P:Program)(n b id:Nat)(eL:IC)(K X:V->(Nat->aa)->Nat->Prop)(e:eM)(s:S):Prop:=
 match e with
 | .normal=>∃nf m en p c d pd,s.o id= .loop nf m en p c d .ready pd/\jW P n b true eL (ja id K X) ⟨s.env,aM s.o id (.loop nf m en p c d .busy pd),s.nx⟩
 | .bf v=>X v s.o s.nx
 |_=>False
theorem cV.aN {P:Program}{n:Nat}(aU:P.follows .mixedOrders=true){id:Nat}{args:List V}{o:Nat->aa}{nx:Nat}{K X:V->(Nat->aa)->Nat->Prop}{env:List V}{ps:List Nat}{iR eL:IC}{st:LoopState}{pd:Option iu}
 (ho:o id= .loop P.funcs.size n env ps iR eL st pd) (bQ:id<nx) (Fm:ps.all (fun t=>decide (t<n))=true) (hl:args.length=ps.length)
 (h:jW P n nx true iR (o6 P n nx id eL K X) ⟨nH (bc env) ps args,o,nx⟩):cV P id args o nx K X:=by
 refine cV.rB aU ho bQ Fm hl (eh iR _ _ _ (fun e s h=> ?_) h)
 cases e with
 |normal=>
  obtain⟨nf,m,en,p,c,d,pd,h1,h2⟩:=h
  exact⟨nf,m,en,p,c,d,pd,h1,eh eL _ _ _ (fun _ _ h=>h) h2⟩
 |bf v=>exact h
 |_=>exact h.elim
theorem vT{P:Program}{n b id:Nat}{eL:IC}{K X:V->(Nat->aa)->Nat->Prop}{s:S}{nf m:Nat}{en:List V}{p:List Nat}{c d:IC}{pd:Option iu}(h:s.o id= .loop nf m en p c d .ready pd)
 (h2:jW P n b true eL (ja id K X) ⟨s.env,aM s.o id (.loop nf m en p c d .busy pd),s.nx⟩):o6 P n b id eL K X .normal s:=⟨nf,m,en,p,c,d,pd,h,h2⟩
section
variable {P:Program}{KB:List Nat->Fp->Prop}{pr:List (List Nat)}{l:List bw}{fr:Nat}{fp:Fp}{bad ws:List Nat}{s:S}{d:Option Nat}{op:Op}
end
end
section
structure Gr where
 x:V
 ty:TypeId
 sz:Nat
 es:List D
def Gr.ok (so:Nat->aa)(gone:Nat->Prop)(g:Gr):Prop:=mG so gone g.ty g.sz g.es g.x
def FP(c:Nat)(G:List Gr)(so:Nat->aa)(gone:Nat->Prop)(v v':V):Prop:=
 v'= .ab\/(v'=v/\∀r∈v.refs,r<c)\/(∃i g,G[i]? =some g/\v'= .osl (c+i) 0/\v=g.x)\/∃y,v'= .d y/\du so v=some y/\∀id∈v.ids,gone id/\∀g∈G,∀ep,g.x≠ .osl id ep
def jO(c:Nat)(G:List Gr)(so:Nat->aa)(gone:Nat->Prop)(env:Nat->V):List V->Nat->Prop
 |[],_=>True
 |v::l,i=>FP c G so gone (env i) v/\jO c G so gone env l (i+1)
def vU(c:Nat)(G:List Gr)(so:Nat->aa)(gone:Nat->Prop):List V->List V->Prop
 |[],[]=>True
 |v::l,v'::l'=>FP c G so gone v v'/\vU c G so gone l l'
 |_,_=>False
def Dd(c:Nat)(G:List Gr)(so:Nat->aa)(gone:Nat->Prop)(x x':aa):Prop:=
 x'= .no\/(x=x'/\∀r∈x'.refs,r<c)\/∃cs cs',x= .row cs/\x'= .row cs'/\vU c G so gone cs cs'
section
variable {c:Nat}{G:List Gr}{so:Nat->aa}{gone:Nat->Prop}
theorem BW{env:Nat->V}:∀ (l:List V) (i:Nat),jO c G so gone env l i->∀j,FP c G so gone (env (i+j)) (bc l j)
 |[],i,_,j=>by rw[nI];exact .inl rfl
 |v::l,i,h,0=>by rw[lC];exact h.1
 |v::l,i,h,j+1=>by
  rw[lD]
  have:=BW l (i+1) h.2 j
  rwa [show i+1+j=i+(j+1) by omega]at this
variable {env:Nat->V}{i:Nat}{l l':List V}{v:V}{y:D}
theorem D4:jO c G so gone env [] i:=trivial
theorem Ck(h:jO c G so gone env l (i+1)):jO c G so gone env (.ab::l) i:=⟨.inl rfl,h⟩
theorem D5(he:env i= .d y)(h:jO c G so gone env l (i+1)):jO c G so gone env (.d y::l) i:=⟨.inr (.inl ⟨he.symm,fun r hr=>by rw[he]at hr;simp[V.refs]at hr⟩),h⟩
theorem Ly(he:env i=v)(hr:∀r∈v.refs,r<c)(h:jO c G so gone env l (i+1)):jO c G so gone env (v::l) i:=⟨.inr (.inl ⟨he.symm,fun r CJ=>hr r (he ▸ CJ)⟩),h⟩
theorem Lx(k:Nat){g:Gr}{n:Nat}(hg:G[k]? =some g)(hn:n=c+k)(he:env i=g.x)(h:jO c G so gone env l (i+1)):jO c G so gone env (.osl n 0::l) i:=⟨.inr (.inr (.inl ⟨k,g,hg,by rw[hn],he⟩)),h⟩
theorem Lz(ht:du so (env i)=some y)(hi:∀id∈(env i).ids,gone id/\∀g∈G,∀ep,g.x≠ .osl id ep)(h:jO c G so gone env l (i+1)):jO c G so gone env (.d y::l) i:=⟨.inr (.inr (.inr ⟨y,rfl,ht,hi⟩)),h⟩
theorem Ec:vU c G so gone [] []:=trivial
theorem Eb(h:vU c G so gone l l'):vU c G so gone (.d y::l) (.d y::l'):=⟨.inr (.inl ⟨rfl,fun r hr=>by simp[V.refs]at hr⟩),h⟩
theorem LL(k:Nat){g:Gr}{n:Nat}(hg:G[k]? =some g)(hn:n=c+k)(he:v=g.x)(h:vU c G so gone l l'):vU c G so gone (v::l) (.osl n 0::l'):=⟨.inr (.inr (.inl ⟨k,g,hg,by rw[hn],he⟩)),h⟩
theorem vV{x:aa}:Dd c G so gone x .no:= .inl rfl
theorem lr{x x':aa}(h:x=x')(hr:∀r∈x'.refs,r<c):Dd c G so gone x x':= .inr (.inl ⟨h,hr⟩)
theorem Ea{x:aa}{cs cs':List V}(h:x= .row cs)(hr:vU c G so gone cs cs'):Dd c G so gone x (.row cs'):= .inr (.inr ⟨cs,cs',h,rfl,hr⟩)
end
theorem nO{c:Nat}{G:List Gr}{so:Nat->aa}{gone:Nat->Prop}{B B':Nat->Prop}{φ aA:Place}{H H':Hp}{w:World}(hc:∀v v' val,FP c G so gone v v'->V.den B φ H w v val->V.den B' aA H' w v' val):
 ∀ (l l':List V) (vals:List Value),vU c G so gone l l'->V.az B φ H w l vals->V.az B' aA H' w l' vals
 |[],[],_,_,h=>h
 |v::l,v'::l',_,h,hd=>by
  obtain⟨u,us,rfl,h1,h2⟩:=hd
  exact⟨u,us,rfl,hc _ _ _ h.1 h1,nO hc l l' us h.2 h2⟩
 |[],_::_,_,h,_=>h.elim
 |_::_,[],_,h,_=>h.elim
def FQ(φ:Place)(c:Nat)(G:List Gr):Place:=fun id=>if id<c then φ id else match G[id - c]? with
 |some g=>(match g.x with| .osl j _=>φ j|_=> .slice none 0 0)
 |none=>φ id
theorem bM.see (gone:Nat->Prop)(G:List Gr)(c:Nat){b:Nat}{e:Nat->V}{so:Nat->aa}{m:Nat}(l:List V){o':Nat->aa}{nx':Nat}(sI:nx'=c+G.length)(hb:b<=c)
 (ho:∀id,id<c->Dd c G so gone (so id) (o' id)) (hG:∀i g,G[i]? =some g->o' (c+i)= .arr 0 g.ty g.sz g.es/\g.ok so gone) (hh:∀id,nx'<=id->o' id= .no) (uq:∀id,gone id->id<c->o' id= .no)
 (Mg:∀ (i j:Nat) (gi gj:Gr) (id ep fK:Nat),G[i]? =some gi->G[j]? =some gj->gi.x= .osl id ep->gj.x= .osl id fK->i=j) (he:jO c G so gone e l 0):bM b ⟨e,so,m⟩ ⟨bc l,o',nx'⟩:=by
 subst sI
 intro M φ w tm hH hd
 let aA:Place:=FQ φ c G
 let H':Hp:=hp o' (c+G.length)
 let H:Hp:=⟨so,fun id=>id<m⟩
 have De:∀id,id<c->aA id=φ id:=fun id aq=>if_pos aq
 have FR:∀i g,G[i]? =some g->aA (c+i)=(match g.x with| .osl j _=>φ j|_=> .slice none 0 0):=fun i g hg=>by
  show FQ φ c G (c+i)=_
  unfold FQ
  rw[if_neg (by omega),show c+i - c=i by omega,hg]
 have hold:∀id k,(o' id).live=true->dK (aA id)=some k->∃j,(so j).live=true/\dK (φ j)=some k/\((id<c/\j=id)\/∃i g ep,id=c+i/\G[i]? =some g/\gone j/\g.x= .osl j ep):=by
  intro id k h1 h2
  by_cases bQ:id<c
  ·rw[De id bQ]at h2
   rcases ho id bQ with h3|⟨h3,_⟩|⟨cs,cs',h3,h4,_⟩
   ·rw[h3]at h1;cases h1
   ·exact⟨id,by rw[h3];exact h1,h2, .inl ⟨bQ,rfl⟩⟩
   ·exact⟨id,by rw[h3];rfl,h2, .inl ⟨bQ,rfl⟩⟩
  ·by_cases wB:c+G.length<=id
   ·rw[hh id wB]at h1;cases h1
   ·obtain⟨i,rfl⟩:∃i,id=c+i:=⟨id - c,af⟩
    obtain⟨g,hg⟩:∃g,G[i]? =some g:=⟨G[i]'af,aK⟩
    rw[FR i g hg]at h2
    obtain⟨_,aP⟩:=hG i g hg
    rcases aP with⟨h3,_,_⟩|⟨j,ep,hj,h3,mR⟩
    ·rw[h3]at h2;cases h2
    ·rw[h3]at h2
     exact⟨j,by rw[mR];rfl,h2, .inr ⟨i,g,ep,rfl,hg,hj,h3⟩⟩
 have cw:∀k,cu aA H' k->cu φ H k:=by
  rintro k ⟨id,h1,h2⟩
  obtain⟨j,g1,g2,_⟩:=hold id k h1 h2
  exact⟨j,g1,g2⟩
 have hB:∀k, ¬ai M φ H k-> ¬ai M aA H' k:=fun k h h'=>h (h'.imp id (cw k))
 have EI:∀id,id<c->nM (H'.o id) (H.o id)/\aA id=φ id/\H'.us id:=fun id aq=>by
  refine⟨?_,De id aq,(by show id<c+G.length;omega)⟩
  show nM (o' id) (so id)
  rcases ho id aq with h3|⟨h3,_⟩|⟨cs,cs',h3,h4,_⟩
  ·rw[h3];exact⟨fun h=>(by cases h),fun e h=>(by cases h)⟩
  ·exact nM.rfl' h3.symm
  ·rw[h3,h4];exact nM.row _ _
 have eI:∀ (v:V) (val:Value),(∀r∈v.refs,r<c)->V.den (ai M φ H) φ H w v val->V.den (ai M aA H') aA H' w v val:=fun v val hr h=>
  V.nN (H:=H) (H':=H') hB v val (fun id aq=>EI id (hr id aq)) h
 have qK:∀ (v:List V) (val:List Value),(∀r∈V.aO v,r<c)->V.az (ai M φ H) φ H w v val->V.az (ai M aA H') aA H' w v val:=fun v val hr h=>
  V.gL (H:=H) (H':=H') hB v val (fun id aq=>EI id (hr id aq)) h
 have Zi:∀ (v:V) (y:D) (val:Value),du so v=some y->(∀id∈v.ids,gone id/\∀g∈G,∀ep,g.x≠ .osl id ep)->V.den (ai M φ H) φ H w v val->D.den (ai M aA H') w y val:=fun v y val h1 h2 h3=>by
  obtain⟨f1,f2,f3,f4,f5⟩:=cI (H:=H) hH v.ids (fun id aq=>cJ v val h3 id aq)
  have hB1:∀k,cu φ (H.put (cq H.o v.ids)) k->cu φ H k:=by
   rintro k ⟨id,g1,g2⟩
   by_cases aq:id∈v.ids
   ·rw[f3 id aq]at g1
    refine⟨id, ?_,g2⟩
    revert g1
    cases H.o id<;>simp[aa.fz,aa.live]
   ·rw[f4 id aq]at g1;exact⟨id,g1,g2⟩
  have h4:V.den (ai M φ (H.put (cq H.o v.ids))) φ (H.put (cq H.o v.ids)) w v val:=
   V.nN (H:=H) (fun k h h'=>h (h'.imp id (hB1 k))) v val (fun id aq=>by
     have ed:H.us id:=(V.oZ v val h3) id aq
     refine⟨?_,rfl,(f5 id).2 ed⟩
     by_cases hm:id∈v.ids
     ·rw[f3 id hm];exact nM.fz _
     ·rw[f4 id hm];exact nM.rfl' rfl) h3
  have h5:=eR f1 (o:=so) v y val (fun id aq=>f3 id aq) h1 h4
  refine D.aG (w:=w) (w':=w) (fun k _ hn=>⟨rfl,fun hk=>hn (hk.imp id ?_)⟩) y val h5
  rintro⟨id,g1,g2⟩
  obtain⟨j,k1,k2,k3⟩:=hold id k g1 g2
  refine⟨j, ?_,k2⟩
  have:j∉v.ids:=fun hm=>by
   obtain⟨k4,k5⟩:=h2 j hm
   rcases k3 with⟨k6,k7⟩|⟨i,g,ep,k6,k8,k9,W0⟩
   ·subst k7
    have:=uq _ k4 k6
    have g1:(o' j).live=true:=g1
    rw[this]at g1
    cases g1
   ·exact k5 g (List.mem_of_getElem? k8) ep W0
  rw[f4 j this];exact k1
 have Vk:∀i g val,G[i]? =some g->V.den (ai M φ H) φ H w g.x val->V.den (ai M aA H') aA H' w (.osl (c+i) 0) val:=by
  intro i g val hg this
  obtain⟨DG,aP⟩:=hG i g hg
  have bQ:c+i<c+G.length:=by have:=(List.getElem?_eq_some_iff.1 hg).1;omega
  rcases aP with⟨h3,_,_⟩|⟨j,ep,hj,h3,mR⟩
  ·rw[h3]at this
   simp only[V.den]at this
   rw[this]
   refine⟨rfl,bQ,fun e' mO=> ?_⟩
   have mO:(o' (c+i)).bL=some e':=mO
   rw[DG]at mO
   simp only[aa.bL,Option.some.injEq]at mO
   subst mO
   exact⟨Nat.le_refl _,fun _=>by rw[FR i g hg,h3]⟩
  ·rw[h3]at this
   obtain⟨g1,g2,g3⟩:=this
   refine⟨g1,bQ,fun e' mO=> ?_⟩
   have mO:(o' (c+i)).bL=some e':=mO
   rw[DG]at mO
   simp only[aa.bL,Option.some.injEq]at mO
   subst mO
   have qT:(H.o j).bL=some ep:=by show(so j).bL=_;rw[mR];rfl
   exact⟨Nat.le_refl _,fun _=>by rw[FR i g hg,h3];exact(g3 ep qT).2 rfl⟩
 have Lf:∀v v' val,FP c G so gone v v'->V.den (ai M φ H) φ H w v val->V.den (ai M aA H') aA H' w v' val:=by
  intro v v' val h h1
  rcases h with rfl|⟨rfl,h2⟩|⟨i,g,hg,rfl,rfl⟩|⟨y,rfl,h2,h3⟩
  ·trivial
  ·exact eI _ _ h2 h1
  ·exact Vk i g _ hg h1
  ·exact Zi v y val h2 h3 h1
 refine⟨aA,⟨fun id=> ?_,fun id hu=>hh id (by have: ¬id<c+G.length:=hu;omega),fun i j k h1 h2 h3 h4=> ?_,fun k hk=>hH.ours k (cw k hk),hH.wA⟩,fun i=> ?_,cw,by show b<=c+G.length;omega,fun id aq hr=> ?_,fun id e' aq mO=> ?_⟩
 ·have aR:aF M φ H w id:=hH.ok id
  show aF M aA H' w id
  unfold aF at aR|-
  by_cases bQ:id<c
  ·rcases ho id bQ with h3|⟨h3,hrefs⟩|⟨cs,cs',h3,h4,cn⟩
   ·have e2:H'.o id= .no:=h3
    rw[e2];trivial
   ·have e1:H.o id=o' id:=h3
    have e2:H'.o id=o' id:=rfl
    rw[e1]at aR
    rw[e2,De id bQ]
    cases DV:o' id with
    |no=>trivial
    |row cs=>
     simp only[DV]at aR hrefs|-
     exact RL
    |arr ep ty sz es=>
     simp only[DV]at aR|-
     obtain⟨k1,xs,k2,evs,k3,k4,k5⟩:=aR
     exact Q5
    |qo ep es=>
     simp only[DV]at aR|-
     exact D.aG (fun b _ hn=>⟨rfl,hB b hn⟩) _ _ aR
    |map kt vt es=>
     simp only[DV]at aR|-
     obtain⟨b,es',clock,k1,k2,k4,k3⟩:=aR
     exact Q2
    |cO l=>
     simp only[DV]at aR|-
     exact iQ.mono (fun b _ hn=>⟨rfl,hB b hn⟩) aR
    |oB l last=>
     simp only[DV]at aR|-
     obtain⟨b,k1,k2⟩:=aR
     exact Jo
    |uP s pos=>
     simp only[DV]at aR|-
     exact aR
    |loop nf n env ps a b st pd=>
     simp only[DV]at aR hrefs|-
     exact Jq
   ·have e1:H.o id= .row cs:=h3
    have e2:H'.o id= .row cs':=h4
    rw[e1]at aR
    rw[e2,De id bQ]
    obtain⟨b,da,ty,k1,k2,k3,k4⟩:=aR
    exact⟨b,da,ty,k1,k2,nO Lf _ _ _ cn k3,k4⟩
  ·by_cases wB:c+G.length<=id
   ·have e2:H'.o id= .no:=hh id wB
    rw[e2];trivial
   ·obtain⟨i,rfl⟩:∃i,id=c+i:=⟨id - c,af⟩
    obtain⟨g,hg⟩:∃g,G[i]? =some g:=⟨G[i]'af,aK⟩
    obtain⟨DG,aP⟩:=hG i g hg
    have e2:H'.o (c+i)= .arr 0 g.ty g.sz g.es:=DG
    rw[e2]
    rcases aP with⟨h3,h4,dn⟩|⟨j,ep,hj,h3,mR⟩
    ·rw[h4]
     refine⟨dn,[], ?_,[],aK,aK,rfl⟩
     rw[FR i g hg,h3]
     exact World.ownsRow_nil _ _ _ _
    ·have this:aF M φ H w j:=hH.ok j
     unfold aF at this
     have e3:H.o j= .arr ep g.ty g.sz g.es:=mR
     simp only[e3]at this
     obtain⟨k1,xs,k2,evs,k3,k4,k5⟩:=this
     exact⟨k1,xs,by rw[FR i g hg,h3];exact k2,evs,k3,k4,D.aI (fun b _ hn=>⟨rfl,hB b hn⟩) _ _ k5⟩
 ·obtain⟨i',a1,a2,a3⟩:=hold i k h1 h3
  obtain⟨j',b1,b2,b3⟩:=hold j k h2 h4
  have:=hH.apart i' j' k a1 b1 a2 b2
  subst this
  have j7:∀zd,(o' zd).live=true->zd<c->gone zd->False:=fun zd g1 g2 g3=>by
   rw[uq _ g3 g2]at g1
   cases g1
  rcases a3 with⟨a3,a4⟩|⟨ia,ga,ea,a3,a4,a5,a6⟩<;>rcases b3 with⟨b3,b4⟩|⟨ib,gb,eb,b3,b4,b5,b6⟩
  ·omega
  ·exact(j7 i h1 a3 (a4 ▸ b5)).elim
  ·exact(j7 j h2 b3 (b4 ▸ a5)).elim
  ·have:=Mg ia ib ga gb _ _ _ a4 b4 a6 b6
   omega
 ·have hi:=BW l 0 he i
  rw[Nat.zero_add]at hi
  exact Lf _ _ _ hi (hd i)
 ·have bQ:id<c:=af
  have hr:(o' id).bI=true:=hr
  exact⟨(EI id bQ).1.1 hr,De id bQ⟩
 ·have bQ:id<c:=af
  have mO:(o' id).bL=some e':=mO
  exact⟨e',(EI id bQ).1.2 e' mO,Nat.le_refl _,fun _=>De id bQ⟩
theorem bM.Vl (gone:Nat->Prop)(c:Nat){b:Nat}{e:Nat->V}{so:Nat->aa}{m:Nat}(l:List V){o':Nat->aa}(hb:b<=c)
 (ho:∀id,id<c->Dd c [] so gone (so id) (o' id)) (hh:∀id,c<=id->o' id= .no) (uq:∀id,gone id->id<c->o' id= .no) (he:jO c [] so gone e l 0):bM b ⟨e,so,m⟩ ⟨bc l,o',c⟩:=
 bM.see gone [] c l rfl hb ho (fun i g h=>by cases h) hh uq (fun i j gi gj id ep fK h=>by cases h) he
theorem bM.Og (gone:Nat->Prop)(x:V)(c:Nat){ty:TypeId}{sz:Nat}{es:List D}{b:Nat}{e:Nat->V}{so:Nat->aa}{m:Nat}(l:List V){o':Nat->aa}(hb:b<=c)
 (ho:∀id,id<c->Dd c [⟨x,ty,sz,es⟩] so gone (so id) (o' id)) (hc:o' c= .arr 0 ty sz es) (hx:mG so gone ty sz es x) (hh:∀id,c+1<=id->o' id= .no) (uq:∀id,gone id->id<c->o' id= .no)
 (he:jO c [⟨x,ty,sz,es⟩] so gone e l 0):bM b ⟨e,so,m⟩ ⟨bc l,o',c+1⟩:=
 bM.see gone [⟨x,ty,sz,es⟩] c l rfl hb ho (fun i g h=>by
  match i,h with
  |0,h=>simp at h;subst h;exact⟨hc,hx⟩) hh uq (fun i j gi gj id ep fK h h' _ _=>by
  match i,j,h,h' with
  |0,0,_,_=>rfl) he
theorem lt1{P:Nat->Prop}(h:P 0):∀id,id<1->P id:=fun id aq=>by
 have e:id=0:=af
 rw[e];exact h
theorem lt0{P:Nat->Prop}:∀id,id<0->P id:=fun id aq=>af
@[go_sem] theorem aab (b:Bool):(b==false)= !b:=wO
@[go_sem] theorem aac (b:Bool):(b==true)=b:=wO
@[go_sem] theorem Vm (c:Bool) (v:V):V.vF c (V.vF c v)=V.vF c v:=by cases c<;>rfl
@[go_sem] theorem Vn (c:Bool):(c&&c)=c:=by cases c<;>rfl
@[go_sem] theorem Qe {α:Type} (f:α->D) (l:List α) (n:Nat) (h:∀x,(f x).cells.length=n):((l.map f).all fun z=>z.cells.length==n)=true:=by
  simp[List.all_eq_true,h]
attribute [go_sem] implies_true
attribute [go_sem] Option.isSome_none Option.getD_some Option.getD_none
theorem structOf{P:Program}{t:TypeId}(h:(match P.underlying t with|some (.struct _)=>true|_=>false)=true):∃fs,P.underlying t=some (.struct fs):=by
 split at h
 ·exact⟨_,by assumption⟩
 ·cases h
theorem bG{pr:List (List Nat)}{fp:List (List Nat×List Nat)}(h:fp.all (fun x=>x.2.isEmpty)=true):fY pr fp=true:=by
 have e:∀i,(fp.getD i ([],[])).2=[]:=fun i=>by
  rw[List.getD_eq_getElem?_getD]
  cases hi:fp[i]? with
  |none=>rfl
  |some x=>simpa using List.all_eq_true.1 h x (List.mem_of_getElem? hi)
 simp only[fY,List.all_eq_true,e,kn,List.all_nil,Bool.and_self,Bool.or_true,implies_true]
structure dR (base:Nat) (h o:Nat->aa) (nx:Nat):Prop where
 bZ:Good o nx
 le:base<=nx
 eq:∀id,id<base->o id=h id
def Vo(base:Nat)(h:Nat->aa)(v:V)(o:Nat->aa)(nx:Nat)(K:V->(Nat->aa)->Nat->Prop):Prop:=
 ∀o' nx',nx<=nx'->dR base h o' nx'->(∀id,base<=id->id<nx->o' id=o id)->K v o' nx'
def rV(P:Program)(g:FuncId)(args:List V)(base:Nat)(h h2:Nat->aa)(v:V):Prop:=
 ∀o nx,dR base h o nx->∀K X,Vo base h2 v o nx K->dV P g args o nx K X
theorem dR.aM {base:Nat}{h o:Nat->aa}{nx m i:Nat}{x:aa}(hI:dR base h o nx)(hb:base<=i)(hi:i<m)(hm:nx<=m)(hx:x.refs.all (fun r=>decide (r<m))=true):dR base h (YtlhemmpklhhgoaaGreat.aM o i x) m:=
 ⟨(hI.bZ.mono hm).aM hi hx,Nat.le_trans hI.le hm,fun id aq=>by rw[ah _ _ _ _ (by omega)];exact hI.eq id aq⟩
theorem dR.mono {base:Nat}{h o:Nat->aa}{nx m:Nat}(hI:dR base h o nx)(hm:nx<=m):dR base h o m:=⟨hI.bZ.mono hm,Nat.le_trans hI.le hm,hI.eq⟩
def ext(base:Nat)(h o:Nat->aa):Nat->aa:=fun id=>if id<base then h id else o id
theorem dR.ext {base c:Nat}{h o:Nat->aa}{nx:Nat}(hI:dR base h o nx)(hc:c<=nx)(hb:base<=c):dR c (YtlhemmpklhhgoaaGreat.ext base h o) o nx:=
 ⟨hI.bZ,hc,fun id _=>by unfold YtlhemmpklhhgoaaGreat.ext;split<;>first|exact hI.eq id (by assumption)|rfl⟩
theorem rV.ext {P:Program}{g:FuncId}{args:List V}{base c:Nat}{h h2:Nat->aa}{v:V}(hS:rV P g args base h h2 v)(hb:base<=c)(o0:Nat->aa):rV P g args c (YtlhemmpklhhgoaaGreat.ext base h o0) (YtlhemmpklhhgoaaGreat.ext base h2 o0) v:=by
 intro o nx hI K X hK
 refine hS o nx ⟨hI.bZ,Nat.le_trans hb hI.le,fun id aq=>by rw[hI.eq id (by omega)];unfold YtlhemmpklhhgoaaGreat.ext;rw[if_pos aq]⟩ K X fun o' nx' h1 h2 h3=>hK o' nx' h1 ⟨h2.bZ,Nat.le_trans hI.le h1,fun id aq=> ?_⟩ (fun id h4 h5=>h3 id af h5)
 unfold YtlhemmpklhhgoaaGreat.ext
 split
 ·exact h2.eq id (by assumption)
 ·rename_i hn
  rw[h3 id (by omega) (by have:=hI.le;omega),hI.eq id aq]
  unfold YtlhemmpklhhgoaaGreat.ext;rw[if_neg hn]
theorem Vo.ext {base c:Nat}{h o:Nat->aa}{v:V}{o1:Nat->aa}{nx wF:Nat}{K:V->(Nat->aa)->Nat->Prop}(hK:Vo base h v o nx K)(hb:base<=c)(hn:nx<=wF)(hc:nx<=c)(ho:∀id,base<=id->id<nx->o1 id=o id):Vo c (YtlhemmpklhhgoaaGreat.ext base h o1) v o1 wF K:=by
 intro o' nx' h1 h2 h3
 refine hK o' nx' af ⟨h2.bZ,Nat.le_trans hb h2.le,fun id aq=> ?_⟩ fun id h4 h5=> ?_
 ·rw[h2.eq id (by omega)];unfold YtlhemmpklhhgoaaGreat.ext;rw[if_pos aq]
 ·rw[h2.eq id (by omega), <- ho id h4 h5];unfold YtlhemmpklhhgoaaGreat.ext;rw[if_neg (by omega)]
def aD{α σ:Type}(step:σ->α->σ×Bool)(s:σ):List α->σ×Bool
 |[]=>(s,true)
 |x::l=>if(step s x).2=true then aD step (step s x).1 l else((step s x).1,false)
theorem pS{P:Program}{id:Nat}{args:List V}{e:Nat->V}{o:Nat->aa}{nx:Nat}{K X:V->(Nat->aa)->Nat->Prop}(h:cV P id args o nx K X):ud P id K X ⟨e,o,nx⟩ args:=by unfold ud;exact h
theorem qA{α:Type}(f:Nat->α)(i:Nat)(x y:α):aM (aM f i x) i y=aM f i y:=by
 funext j;simp only[aM];split<;>rfl
attribute [go_sem] Int.cast_ofNat_Int
section
variable {P:Program}{n:Nat}{ps:List Nat}{x y:IC}{env:List V}{L:LoopState->Option iu->aa}
def gh(P:Program)(n:Nat)(env:List V)(ps:List Nat)(x y:IC)(L:LoopState->Option iu->aa):Prop:=∀st pd,L st pd= .loop P.funcs.size n env ps x y st pd
theorem FT{bq:Nat}{gq:Operand}{Q:eM->S->Prop}{e:Nat->V}{o:Nat->aa}{nx:Nat}{f:FuncId}{cap:List V}(env:List V)(he:kW e env 0)
 (h:∀L,gh P n env ps x y L->dV P f (.jc nx::cap) (aM o nx (L .ready none)) (nx+1)
  (fun _ o' nx'=>∃st pd,o' nx=L st pd/\st≠ .busy/\oO Q pd ⟨e,aM o' nx (L .exhausted pd),nx'⟩) (fun v o' nx'=>Q (.bf v) ⟨e,o',nx'⟩)):
 xZ P n bq false gq ps x y Q ⟨e,o,nx⟩ (.func (.func f) [] cap):=by
 refine Dc env he ?_
 have:=h (fun st pd=> .loop P.funcs.size n env ps x y st pd) (fun _ _=>rfl)
 refine this.mono (fun v o' nx' hh=> ?_) (fun v o' nx' hh=>hh)
 obtain⟨st,pd,h1,h2,h3⟩:=hh
 exact⟨_,_,_,_,_,_,_,_,h1,h2,h3⟩
theorem yl(hL:gh P n env ps x y L)(aU:P.follows .mixedOrders=true){id:Nat}{args:List V}{o:Nat->aa}{nx:Nat}{K X:V->(Nat->aa)->Nat->Prop}{st:LoopState}{pd:Option iu}
 (ho:o id=L st pd) (bQ:id<nx) (Fm:ps.all (fun t=>decide (t<n))=true) (hl:args.length=ps.length)
 (h:jW P n nx true x (o6 P n nx id y K X) ⟨nH (bc env) ps args,o,nx⟩):cV P id args o nx K X:=
 cV.aN aU (ho.trans (hL st pd)) bQ Fm hl h
theorem nP(hL:gh P n env ps x y L){b id:Nat}{eL:IC}{K X:V->(Nat->aa)->Nat->Prop}{e:Nat->V}{o:Nat->aa}{nx:Nat}{pd:Option iu}(h:o id=L .ready pd)
 (h2:jW P n b true eL (ja id K X) ⟨e,aM o id (L .busy pd),nx⟩):o6 P n b id eL K X .normal ⟨e,o,nx⟩:=by
 refine vT (h.trans (hL _ _)) ?_
 rw[<- hL];exact h2
theorem ur(hL:gh P n env ps x y L){id:Nat}{K X:V->(Nat->aa)->Nat->Prop}{e:Nat->V}{o:Nat->aa}{nx:Nat}{st:LoopState}{pd:Option iu}(h:o id=L st pd)(k:K (.d (.bool true)) (aM o id (L .ready none)) nx):ja id K X .normal ⟨e,o,nx⟩:=
 ⟨_,_,_,_,_,_,_,_,h.trans (hL _ _),by rw[<- hL];exact k⟩
theorem rW(hL:gh P n env ps x y L){id:Nat}{K X:V->(Nat->aa)->Nat->Prop}{e:Nat->V}{o:Nat->aa}{nx:Nat}{st:LoopState}{pd:Option iu}(h:o id=L st pd)(k:K (.d (.bool false)) (aM o id (L .done (some .ret))) nx):ja id K X .ret ⟨e,o,nx⟩:=
 ⟨_,_,_,_,_,_,_,_,h.trans (hL _ _),by rw[<- hL];exact k⟩
theorem pT(hL:gh P n env ps x y L){id j:Nat}{K X:V->(Nat->aa)->Nat->Prop}{e:Nat->V}{o:Nat->aa}{nx:Nat}{st:LoopState}{pd:Option iu}(h:o id=L st pd)(k:K (.d (.bool false)) (aM o id (L .done (some (.exit j)))) nx):ja id K X (.exit j) ⟨e,o,nx⟩:=
 ⟨_,_,_,_,_,_,_,_,h.trans (hL _ _),by rw[<- hL];exact k⟩
theorem gh.no (hL:gh P n env ps x y L)(st:LoopState)(pd:Option iu):L st pd≠ .no:=by rw[hL];exact aa.noConfusion
theorem gh.refs (hL:gh P n env ps x y L)(st:LoopState)(pd:Option iu):(L st pd).refs=V.aO env:=by rw[hL];rfl
end
end
attribute [go_sem_proc] Int.reduceBEq Int.reduceBNe Int.reduceLT Int.reduceLE Int.reduceEq Int.reduceNe Nat.reducePow Nat.reduceEqDiff Nat.reduceAdd Nat.reduceSub Nat.reduceMul Nat.reduceLeDiff Nat.reduceBEq Nat.reduceLT reduceIte reduceCtorEq Int.reduceToNat
attribute [go_sem] List.range_zero Option.isSome_some and_self List.cons.injEq
theorem Co(n low high:Int):aY Tryz.prog 114 [.i n, .i low, .i high] (.ret [.bool (c6 n low high)]):=by
 refine aY.aN mix T6 aK ?_
 rw[T5]
 refine bX ?_
 rfl
theorem FU{t:Tm}{left depth:Int}(h:left<1\/depth<1):fR t left depth= -1:=by cases t;simp[fR,h]
theorem mH{l:List Tm}{left depth:Int}(h:left<0):bO l left depth=left:=by
 cases l with
 |nil=>rfl
 |cons k l=>simp[bO,show ¬ (0<=left) by omega]
theorem FV:∀t:Tm,∀left depth:Int, -1<=fR t left depth/\(1<=left->fR t left depth<=left - 1)/\(left<1->fR t left depth= -1):=by
 refine Tm.ind fun op n kids ih left depth=> ?_
 have hs:∀ (l:List Tm) (left d:Int),(∀k∈l,k∈kids)-> -1<=left-> -1<=bO l left d/\bO l left d<=left:=by
  intro l
  induction l with
  |nil=>intro left d _ h;simp[bO,h]
  |cons k l Oh=>
   intro left d hk h
   simp only[bO]
   split
   ·rename_i h0
    have h1:=ih k (hk k aK) left d
    have h2:=Oh (fR k left d) d (fun x hx=>hk x pw) h1.1
    by_cases hl:1<=left
    ·have:=h1.2.1 hl;omega
    ·have:=h1.2.2 af;omega
   ·omega
 simp only[fR]
 split
 ·rename_i h;refine⟨af,fun h1=> ?_,fun _=>rfl⟩;omega
 ·rename_i h
  have:=hs kids (left - 1) (depth - 1) (fun _ h=>h) af
  exact⟨this.1,fun _=>this.2,fun h=>af⟩
theorem Df(l:List Tm)(left d:Int)(h: -1<=left): -1<=bO l left d/\bO l left d<=left:=by
 induction l generalizing left with
 |nil=>simp[bO,h]
 |cons k l Oh=>
  simp only[bO]
  split
  ·have h1:=FV k left d
   have h2:=Oh (fR k left d) h1.1
   by_cases hl:1<=left
   ·have:=h1.2.1 hl;omega
   ·have:=h1.2.2 af;omega
  ·omega
theorem l9(a b:List Tm)(left d:Int):bO (a++b) left d=bO b (bO a left d) d:=by
 induction a generalizing left with
 |nil=>rfl
 |cons k a ih=>
  simp only[List.cons_append,bO]
  split
  ·exact ih _
  ·rename_i h;rw[mH (by omega)]
theorem ym{l:List Tm}{i:Nat}{k:Tm}(hi:l[i]? =some k)(left d:Int)(h:0<=bO (l.take i) left d):bO (l.take (i+1)) left d=fR k (bO (l.take i) left d) d:=by
 rw[List.take_add_one,hi,l9]
 simp[bO,h]
theorem yn{l:List Tm}{i:Nat}(left d:Int)(h:bO (l.take i) left d<0):bO l left d=bO (l.take i) left d:=by
 conv=>lhs;rw[<- List.take_append_drop i l]
 rw[l9,mH h]
@[reducible] def mI (cs:List V):Nat->aa:=aM (fun _=> .no) 0 (.row cs)
@[reducible] def Aj (cs ds:List V):Nat->aa:=aM (aM (fun _=> .no) 0 (.row cs)) 1 (.row ds)
theorem b7{cs:List V}(h:(aa.row cs).refs.all (fun r=>decide (r<1))=true):Good (mI cs) 1:=(Good.nil (nx:=1)).aM af h
theorem iM{cs ds:List V}(h:(aa.row cs).refs.all (fun r=>decide (r<2))=true)(h2:(aa.row ds).refs.all (fun r=>decide (r<2))=true):Good (Aj cs ds) 2:=((Good.nil (nx:=2)).aM af h).aM af h2
theorem bM.d1 {e:Nat->V}{so o:Nat->aa}{m:Nat}(l:List V)(hg:Good o 1)(hm:1<=m)(h0:so 0=o 0)(he:jn 1 e l 0):bM 0 ⟨e,so,m⟩ ⟨bc l,o,1⟩:=
 bM.bP l (Nat.zero_le _) hm hg (fun id h=>by obtain rfl:id=0:=af
                                             exact h0) he
theorem bM.d2 {e:Nat->V}{so o:Nat->aa}{m:Nat}(l:List V)(hg:Good o 2)(hm:2<=m)(h0:so 0=o 0)(h1:so 1=o 1)(he:jn 2 e l 0):bM 0 ⟨e,so,m⟩ ⟨bc l,o,2⟩:=
 bM.bP l (Nat.zero_le _) hm hg (fun id h=>by
  rcases(by omega:id=0\/id=1)with rfl|rfl
  ·exact h0
  ·exact h1) he
@[reducible] def Tm.row (t:Tm):List V:=[.d (.i t.op), .d (.i t.n), .d (.sl (t.kids.map Tm.d))]
theorem yo(t:Tm)(left depth:Int):fR t left depth=if left<1\/depth<1 then -1 else bO t.kids (left - 1) (depth - 1):=by cases t;simp[fR,Tm.kids]
theorem BX:∀t:Tm,t.fits->∀left depth:Int, -1<=left/\left<=1000000-> -1<=depth/\depth<=1000000->aY Tryz.prog 87 [t.d, .i left, .i depth] (.ret [.i (fR t left depth)]):=by
 refine Tm.fe fun t ih hf left depth hl hd=> ?_
 have sZ:=(Tm.bA _).1 hf
 refine aY.aN mix Zb aK ?_
 rw[c87]
 refine bX ?_
 refine ak (fun h1=> ?_) (fun h1=> ?_)
 ·refine bX ?_
  simp at h1
  rw[FU h1]
 ·simp at h1
  refine bX ?_
  rw[wrap64 (n:=left - 1) (by omega) (by omega),yo,if_neg (by omega)]
  refine aL (fun k:Nat=>⟨bc [.ab, .d (.i (bO (t.kids.take k) (left - 1) (depth - 1))), .d (.i depth), .ptr 0 0, .ab, .ab, .ab, .d (.i k)],mI t.row,1⟩)
   (fun k=>k<=t.kids.length) (fun k=>t.kids.length - k) 0 (Nat.zero_le _) (bM.d1 _ (b7 rfl) af rfl ?_) (fun k hk=> ?_)
  ·exact ec
  have hb:=Df (t.kids.take k) (left - 1) (depth - 1) af
  refine bX ?_
  refine ak (fun h2=> ?_) (fun h2=> ?_)
  ·simp at h2
   obtain⟨x,hx⟩:∃x,t.kids[k]? =some x:=⟨t.kids[k],by simp[h2.1]⟩
   have gv:=List.mem_of_getElem? hx
   refine iO hx ?_
   rw[wrap64 (n:=depth - 1) (by omega) (by omega)]
   refine aw (ih x gv (sZ.2 x gv) _ _ af af) rfl ?_
   refine bX ?_
   rw[<- ym hx _ _ h2.2]
   refine ax (k+1) h2.1 af (bM.d1 _ (b7 rfl) af rfl ?_)
   exact ec
  ·refine bX ?_
   simp only[Bool.and_eq_false_iff,decide_eq_false_iff_not]at h2
   congr 3
   rcases h2 with h2|h2
   ·rw[List.take_of_length_le (by omega)]
   ·exact yn _ _ af
theorem Oi(s:List UInt8)(hs:s.length<=9223372036854775807):aY Tryz.prog 139 [.str s] (.ret [.bool (hY s)]):=by
 refine aY.aN mix Us aK ?_
 rw[Ur]
 refine bX ?_
 refine aL (fun k:Nat=>⟨bc [.d (.str s), .ab, .ab, .d (.i k)],fun _=> .no,0⟩)
  (fun k=>k<=s.length/\(s.take k).all letterF=true) (fun k=>s.length - k) 0 ⟨Nat.zero_le _,aK⟩ (bM.d0 _ ?_) (fun k hk=> ?_)
 ·exact ec
 refine bX ?_
 refine ak (fun h2=> ?_) (fun h2=> ?_)
 ·simp at h2
  obtain⟨x,hx⟩:∃x,s[k]? =some x:=⟨s[k],by simp[h2]⟩
  refine iO hx ?_
  refine ak (fun h3=> ?_) (fun h3=> ?_)
  ·refine bX ?_
   have:hY s=false:=by
    have:s.all letterF=false:=by
     rw[List.all_eq_false]
     refine⟨x,List.mem_of_getElem? hx, ?_⟩
     simp only[letterF,h3];simp
    simp[hY,this]
   rw[this]
  ·refine bX ?_
   refine ax (k+1) ⟨h2, ?_⟩ af (bM.d0 _ ?_)
   ·rw[List.take_add_one,hx,List.all_append,hk.2]
    simp[letterF,h3]
   ·exact ec
 ·refine bX ?_
  refine aw (Co _ _ _) rfl ?_
  refine bX ?_
  simp at h2
  have:=hk.2
  rw[List.take_of_length_le (by omega)]at this
  simp[hY,this]
theorem BZ(l:List jX)(bs:List (List UInt8))(hl:l.length<=1000)(hb:bs.length<=1000)(hs:∀x∈l,x.name.length<=9223372036854775807):
 aY Tryz.prog 115 [.sl (l.map jX.d), .sl (bs.map .str)] (.ret [.sl (((bN l bs).getD []).map .str), .bool (bN l bs).isSome]):=by
 refine aY.aN mix T8 aK ?_
 rw[T7]
 refine bX ?_
 refine aL (fun k:Nat=>⟨bc [.d (.sl (l.map jX.d)), .d (.sl ((bs++(l.take k).map (·.name)).map .str)), .ab, .ab, .ab, .ab, .d (.i k)],fun _=> .no,0⟩)
  (fun k=>k<=l.length/\bN l bs=bN (l.drop k) (bs++(l.take k).map (·.name))) (fun k=>l.length - k) 0 ⟨Nat.zero_le _,aK⟩ (bM.d0 _ ?_) (fun k hk=> ?_)
 ·simp only[List.take_zero,List.map_nil,List.append_nil]
  exact ec
 refine bX ?_
 refine ak (fun h2=> ?_) (fun h2=> ?_)
 ·simp at h2
  obtain⟨x,hx⟩:∃x,l[k]? =some x:=⟨l[k],by simp[h2]⟩
  have gv:=List.mem_of_getElem? hx
  have xQ:l.drop k=x::l.drop (k+1):=by
   rw[List.drop_eq_getElem_cons h2]
   rw[List.getElem?_eq_getElem h2]at hx;injection hx with hx;rw[hx]
  generalize hB:bs++(l.take k).map (·.name)=B at*
  have hBl:B.length<=2000:=by rw[<- hB];simp;omega
  refine bX ?_
  refine aL (fun j:Nat=>⟨bc [.d (.sl (l.map jX.d)), .d (.sl (B.map .str)), .ab, .ab, .ab, .ab, .d (.i k), .d (.i j)],fun _=> .no,0⟩)
   (fun j=>j<=B.length/\(B.take j).any (· ==x.name)=false) (fun j=>B.length - j) 0 ⟨Nat.zero_le _,aK⟩ (bM.d0 _ ?_) (fun j hj=> ?_)
  ·exact ec
  refine bX ?_
  refine ak (fun h3=> ?_) (fun h3=> ?_)
  ·simp at h3
   obtain⟨y,hy⟩:∃y,B[j]? =some y:=⟨B[j],by simp[h3]⟩
   simp+contextual only[go_sem,hx,hy]
   refine bg dU ?_
   refine bX ?_
   refine ak (fun h4=> ?_) (fun h4=> ?_)
   ·refine bX ?_
    have:bN l bs=none:=by
     rw[hk.2,xQ,bN,if_pos]
     rw[List.any_eq_true]
     exact⟨y,List.mem_of_getElem? hy,h4⟩
    rw[this];rfl
   ·refine bX ?_
    refine ax (j+1) ⟨h3, ?_⟩ af (bM.d0 _ ?_)
    ·rw[List.take_add_one,hy,List.any_append,hj.2]
     simp only[Option.toList_some,List.any_cons,h4,List.any_nil,Bool.or_false]
    ·exact ec
  ·simp at h3
   have Oj:=hj.2
   rw[List.take_of_length_le (by omega)]at Oj
   refine iO hx ?_
   refine aw (Oi x.name (hs x gv)) rfl ?_
   refine iO hx ?_
   refine fu (eG [.bool (c6 x.args 0 4)] ?_ ?_)
   ·refine bX ?_
    exact A3
   refine bX ?_
   refine ak (fun h4=> ?_) (fun h4=> ?_)
   ·refine bX ?_
    have:bN l bs=none:=by
     rw[hk.2,xQ,bN,if_neg (by rw[Oj];exact Bool.false_ne_true),if_pos h4]
    rw[this];rfl
   ·have e1:B.length<=140737488355328:=af
    have e2:B.length*16<=140737488355328:=af
    have e3:B.length<=140737488355327:=af
    have e4:(B.length+1)*16<=140737488355328:=af
    simp+contextual only[go_sem,hx,e1,e2,e3,e4]
    refine bg dU ?_
    refine bX ?_
    have hn:bN l bs=bN (l.drop (k+1)) (bs++(l.take (k+1)).map (·.name)):=by
     rw[hk.2,xQ,bN,if_neg (by rw[Oj];exact Bool.false_ne_true),if_neg (by rw[h4];exact Bool.false_ne_true), <- hB,List.take_add_one,hx]
     simp
    refine ax (k+1) ⟨h2,hn⟩ af (bM.Vl (fun _=>True) 0 _ (Nat.le_refl _) lt0 (fun _ _=>rfl) (fun _ _ _=>rfl) ?_)
    have Wh:(bs++(l.take (k+1)).map (·.name)).map D.str=B.map D.str++[D.str x.name]:=by
     rw[<- hB,List.take_add_one,hx];simp
    rw[Wh]
    exact DF
 ·refine bX ?_
  simp at h2
  have:bN l bs=some (bs++l.map (·.name)):=by
   rw[hk.2,List.drop_eq_nil_of_le (by omega),bN,List.take_of_length_le (by omega)]
  rw[this,List.take_of_length_le (by omega)]
  rfl
theorem Ol(a b:List UInt8)(m n:Int):oo Tryz.prog 100 124 (.agg [.str a, .i m]) (.agg [.str b, .i n])=some (a==b&&m==n):=by
 have h1:bB Tryz.prog 124=some (.struct [(9,0),(3,1)]):=ae
 have h2:bB Tryz.prog 9=some .str:=ae
 have h3:bB Tryz.prog 3=some .int:=ae
 have h4:dc Tryz.prog 9=some false:=ae
 have h5:dc Tryz.prog 3=some false:=ae
 simp[oo,h1,h2,h3,h4,h5,wW,L7,gS,Ev]
@[go_sem] theorem Zj (o:Nat->aa) (mi:Bool) (a b:List UInt8) (m n:Int):DJ Tryz.prog o 124 mi (.d (.agg [.str a, .i m])) (.d (.agg [.str b, .i n]))=some (.d (.bool (a==b&&m==n))):=by
  obtain⟨fs,h⟩:∃fs,Tryz.prog.underlying 124=some (.struct fs):=structOf ae
  have h2:Tryz.prog.eqGuardType Tryz.prog.depth 124=false:=ae
  unfold DJ
  rw[h]
  dsimp only
  rw[if_pos h2,Ol]
  rfl
theorem Dg{l:List jX}{bs B:List (List UInt8)}(h:bN l bs=some B):B=bs++l.map (·.name):=by
 induction l generalizing bs with
 |nil=>simp[bN]at h;simp[h]
 |cons x l ih=>
  simp only[bN]at h
  split at h
  ·cases h
  ·split at h
   ·cases h
   ·rw[ih h];simp
structure aJ.Fits (s:aJ):Prop where
 lc:s.cons.length<=9223372036854775807
 lf:s.cA.length<=9223372036854775807
 nc:∀x∈s.cons,x.name.length<=9223372036854775807
 nf:∀x∈s.cA,x.name.length<=9223372036854775807
theorem Vp(s:aJ)(hs:s.Fits):aY Tryz.prog 75 [s.d] (.ret [.bool (kQ s)]):=by
 refine aY.aN mix Y4 aK ?_
 rw[c75]
 refine bX ?_
 refine aw (Co _ _ _) rfl ?_
 refine bX ?_
 cases h1:(!c6 s.cons.length 2 12||decide (8<(s.cA.length:Int)))with
 |true=>
  refine iO h1 ?_
  simp only[kQ,h1,if_true]
 |false=>
  simp[c6]at h1
  obtain⟨a,b,r,hc⟩:∃a b r,s.cons=a::b::r:=by
   match h:s.cons with
   |[]=>exact A4
   |[a]=>exact A4
   |a::b::r=>exact⟨a,b,r,rfl⟩
  have jD:(!c6 s.cons.length 2 12||decide (8<(s.cA.length:Int)))=false:=by simp[c6];omega
  simp+contextual only[go_sem,jD,hc]
  have yp:kQ s=if(!j8 a fB|| !j8 b tB)=true then false else match bN s.cons []with
   |none=>false
   |some l=>(bN s.cA l).isSome:=by
   unfold kQ
   rw[if_neg (by rw[jD];exact Bool.false_ne_true),hc]
   dsimp only
   rfl
  refine ak (fun h2=> ?_) (fun h2=> ?_)
  ·refine bX ?_
   have pH:(!j8 a fB|| !j8 b tB)=true:=h2
   rw[yp,if_pos pH]
  ·simp+contextual only[go_sem,hc]
   have hl:(a::b::r).length<=1000:=by rw[<- hc];omega
   have wD:=BZ (a::b::r) [] hl aK (by rw[<- hc];exact hs.nc)
   simp only[List.map_cons,List.map_nil]at wD
   refine cW wD ?_
   have pH:(!j8 a fB|| !j8 b tB)=false:=h2
   rw[yp,if_neg (by rw[pH];exact Bool.false_ne_true),hc]
   cases hn:bN (a::b::r) []with
   |none=>simp+contextual only[go_sem,hn]
   |some B=>
    refine iO hn ?_
    have hB:B.length<=1000:=by
     have:=Dg hn
     rw[this];simp at hl|-;omega
    have Zk:=BZ s.cA B af hB hs.nf
    refine cW Zk ?_
    simp+contextual only[go_sem]
theorem zg{l:List jX}{n:Int}{x:jX}(h:l[n.toNat]? =some x):fw l n=x.args:=by simp[fw,h]
theorem A5{l:List jX}{n:Int}(h:c6 n 0 (l.length - 1)=true):0<=n/\∃x,l[n.toNat]? =some x:=by
 simp[c6]at h
 exact⟨h.1,l[n.toNat]'af,aK⟩
theorem Om(s:aJ)(t:Tm)(hs:s.Fits)(ht:t.kids.length<=9223372036854775807):aY Tryz.prog 127 [s.d,t.d] (.ret [.bool (aX s t)]):=by
 refine aY.aN mix Ui aK ?_
 rw[Uh]
 refine bX ?_
 rcases(by omega:t.op=1\/t.op=2\/t.op=3\/t.op=4\/t.op=5\/t.op=8\/(t.op=6\/t.op=7\/t.op=9\/t.op=10\/t.op=11\/t.op=12\/t.op=13\/t.op=14\/t.op=15)\/(t.op<1\/15<t.op))with h|h|h|h|h|h|h|h
 ·have hn:aX s t=((t.kids.length:Int)==0&&c6 t.n 0 19):=by simp[aX,h]
  refine iO h ?_
  refine fu (eG [.bool (c6 t.n 0 19)] ?_ ?_)
  ·refine bX ?_
   exact A3
  refine iO h ?_
  rw[hn]
 ·have hn:aX s t=((t.kids.length:Int)==0&&c6 t.n (-1000000) 1000000):=by simp[aX,h]
  refine iO h ?_
  refine fu (eG [.bool (c6 t.n (-1000000) 1000000)] ?_ ?_)
  ·refine bX ?_
   exact A3
  refine iO h ?_
  rw[hn]
 ·have hn:aX s t=(c6 t.n 0 (s.cons.length - 1)&&(t.kids.length:Int)==fw s.cons t.n):=by simp[aX,h]
  refine iO h ?_
  rw[wrap64 (by have:=hs.lc;omega) (by have:=hs.lc;omega)]
  refine aw (Co _ _ _) rfl ?_
  cases hI:c6 t.n 0 (s.cons.length - 1)with
  |false=>
   exact L4
  |true=>
   exact LS
 ·have hn:aX s t=(c6 t.n 0 (s.cA.length - 1)&&(t.kids.length:Int)==fw s.cA t.n):=by simp[aX,h]
  refine iO h ?_
  rw[wrap64 (by have:=hs.lf;omega) (by have:=hs.lf;omega)]
  refine aw (Co _ _ _) rfl ?_
  cases hI:c6 t.n 0 (s.cA.length - 1)with
  |false=>
   exact L4
  |true=>
   exact LS
 ·have hn:aX s t=(c6 t.n 0 (s.cA.length - 1)&&decide ((t.kids.length:Int)<fw s.cA t.n)):=by simp[aX,h]
  refine iO h ?_
  rw[wrap64 (by have:=hs.lf;omega) (by have:=hs.lf;omega)]
  refine aw (Co _ _ _) rfl ?_
  cases hI:c6 t.n 0 (s.cA.length - 1)with
  |false=>
   exact L4
  |true=>
   exact LS
 ·have hn:aX s t=((t.kids.length:Int)==2&&c6 t.n 0 19):=by simp[aX,h]
  refine iO h ?_
  refine fu (eG [.bool (c6 t.n 0 19)] ?_ ?_)
  ·refine bX ?_
   exact A3
  refine iO h ?_
  rw[hn]
 ·have hn:aX s t=((t.kids.length:Int)==2&&t.n==0):=by
   rcases h with h|h|h|h|h|h|h|h|h<;>simp[aX,h,c6]
  rw[hn]
  rcases h with h|h|h|h|h|h|h|h|h<;>simp+contextual only[go_sem,h]
 ·have hn:aX s t=false:=by
   simp[aX,c6,show ¬ (t.op=1) by omega,show ¬ (t.op=2) by omega,show ¬ (t.op=3) by omega,show ¬ (t.op=4) by omega,show ¬ (t.op=5) by omega,show ¬ (t.op=8) by omega,show ¬ (6<=t.op/\t.op<=15) by omega]
  have e:∀k:Int,1<=k->k<=15->(t.op==k)=false:=fun k h1 h2=>by simp;omega
  simp+contextual only[go_sem,e 1 (by omega) (by omega),e 2 (by omega) (by omega),e 3 (by omega) (by omega),e 4 (by omega) (by omega),e 5 (by omega) (by omega),e 6 (by omega) (by omega),e 7 (by omega) (by omega),e 8 (by omega) (by omega),e 9 (by omega) (by omega),e 10 (by omega) (by omega),e 11 (by omega) (by omega),e 12 (by omega) (by omega),e 13 (by omega) (by omega),e 14 (by omega) (by omega),e 15 (by omega) (by omega)]
  rw[hn]
theorem jo(s:aJ)(t:Tm):fA s t=(aX s t&&t.kids.all (fA s)):=by
 have:∀l:List Tm,qv s l=l.all (fA s):=fun l=>by
  induction l with
  |nil=>rfl
  |cons k l ih=>simp[qv,ih]
 cases t;simp[fA,this,Tm.kids]
theorem jq{α:Type}{l:List α}{p:α->Bool}{k:Nat}{x:α}(hx:l[k]? =some x)(h:p x=false):l.all p=false:=by
 rw[List.all_eq_false];exact⟨x,List.mem_of_getElem? hx,by rw[h];exact Bool.false_ne_true⟩
theorem kX{α:Type}{l:List α}{p:α->Bool}{k:Nat}{x:α}(hx:l[k]? =some x)(h0:(l.take k).all p=true)(h:p x=true):(l.take (k+1)).all p=true:=by
 rw[List.take_add_one,hx,List.all_append,h0];simp[h]
theorem kY{α:Type}{l:List α}{p:α->Bool}{k:Nat}(h0:(l.take k).all p=true)(h:l.length<=k):l.all p=true:=by
 rwa [List.take_of_length_le h]at h0
theorem aH{α:Type}{l:List α}{k:Nat}(h:k<l.length):∃x,l[k]? =some x:=⟨l[k],by simp[h]⟩
@[reducible] def aJ.row (s:aJ):List V:=[.d (.sl (s.cons.map jX.d)), .d (.sl (s.cA.map jX.d))]
theorem Iq(s:aJ)(hs:s.Fits):∀t:Tm,t.fits->aY Tryz.prog 94 [s.d,t.d] (.ret [.bool (fA s t)]):=by
 refine Tm.fe fun t ih hf=> ?_
 have sZ:=(Tm.bA _).1 hf
 refine aY.aN mix Zg aK ?_
 rw[c94]
 refine bX ?_
 refine aw (Om s t hs sZ.1) rfl ?_
 refine bX ?_
 rw[jo]
 refine ak (fun h1=> ?_) (fun h1=> ?_)
 ·refine bX ?_
  simp at h1;simp[h1]
 ·simp at h1
  rw[h1,Bool.true_and]
  refine bX ?_
  refine aL (fun k:Nat=>⟨bc [.ab, .ab, .ptr 0 0, .ptr 1 0, .ab, .d (.i k)],Aj s.row t.row,2⟩)
   (fun k=>k<=t.kids.length/\(t.kids.take k).all (fA s)=true) (fun k=>t.kids.length - k) 0 ⟨Nat.zero_le _,aK⟩ (bM.d2 _ (iM rfl rfl) af rfl rfl ?_) (fun k hk=> ?_)
  ·exact ec
  refine bX ?_
  refine ak (fun h2=> ?_) (fun h2=> ?_)
  ·simp at h2
   obtain⟨x,hx⟩:=aH h2
   have gv:=List.mem_of_getElem? hx
   refine iO hx ?_
   refine bp (ih x gv (sZ.2 x gv)) rfl ?_
   refine bX ?_
   refine bg dU ?_
   refine bX ?_
   refine ak (fun h3=> ?_) (fun h3=> ?_)
   ·refine bX ?_
    simp at h3
    rw[jq hx h3]
   ·refine bX ?_
    simp at h3
    refine ax (k+1) ⟨h2,kX hx hk.2 h3⟩ af (bM.d2 _ (iM rfl rfl) af rfl rfl ?_)
    exact ec
  ·refine bX ?_
   simp at h2
   rw[kY hk.2 h2]
theorem On(s:aJ)(hs:s.Fits)(t:Tm)(hf:t.fits):aY Tryz.prog 43 [s.d,t.d] (.ret [.bool (hZ s t)]):=by
 refine aY.aN mix YJ aK ?_
 rw[c43]
 refine bX ?_
 refine aw (BX t hf 40 12 af af) rfl ?_
 refine bX ?_
 refine fu (eG [.bool (fA s t)] ?_ ?_)
 ·refine bX ?_
  exact fun _=>Iq s hs t hf
 refine bX ?_
 rfl
theorem o7(t:Tm):ey t=(t.kids.all ey&&((decide (1<=t.op)&&decide (t.op<=3))||t.op==5)):=by
 have:∀l:List Tm,qw l=l.all ey:=fun l=>by
  induction l with
  |nil=>rfl
  |cons k l ih=>simp[qw,ih]
 cases t;simp only[ey,this,Tm.kids,Tm.op];rfl
theorem Ir:∀t:Tm,t.fits->aY Tryz.prog 92 [t.d] (.ret [.bool (ey t)]):=by
 refine Tm.fe fun t ih hf=> ?_
 have sZ:=(Tm.bA _).1 hf
 refine aY.aN mix Ze aK ?_
 rw[c92,o7]
 refine bX ?_
 refine aL (fun k:Nat=>⟨bc [.ab, .ptr 0 0, .ab, .d (.i k)],mI t.row,1⟩)
  (fun k=>k<=t.kids.length/\(t.kids.take k).all ey=true) (fun k=>t.kids.length - k) 0 ⟨Nat.zero_le _,aK⟩ (bM.d1 _ (b7 rfl) af rfl ?_) (fun k hk=> ?_)
 ·exact ec
 refine bX ?_
 refine ak (fun h2=> ?_) (fun h2=> ?_)
 ·simp at h2
  obtain⟨x,hx⟩:=aH h2
  have gv:=List.mem_of_getElem? hx
  refine iO hx ?_
  refine aw (ih x gv (sZ.2 x gv)) rfl ?_
  refine bX ?_
  refine ak (fun h3=> ?_) (fun h3=> ?_)
  ·refine bX ?_
   simp at h3
   rw[jq hx h3];rfl
  ·refine bX ?_
   simp at h3
   refine ax (k+1) ⟨h2,kX hx hk.2 h3⟩ af (bM.d1 _ (b7 rfl) af rfl ?_)
   exact ec
 ·refine bX ?_
  simp at h2
  rw[kY hk.2 h2];rfl
theorem fE:∀l l':List Tm,l.length=l'.length->(fC l l'=true↔∀ (i:Nat) (x y:Tm),l[i]? =some x->l'[i]? =some y->ig x y=true)
 |[],l',_=>by simp[fC]
 |k::l,k'::l',h=>by
  simp only[fC,Bool.and_eq_true]
  rw[fE l l' (by simpa using h)]
  constructor
  ·rintro⟨h1,h2⟩ i x y hx hy
   cases i with
   |zero=>simp at hx hy;subst hx;subst hy;exact h1
   |succ i=>exact h2 i x y tn (by simpa using hy)
  ·intro h3
   exact⟨h3 0 k k' rfl rfl,fun i x y hx hy=>h3 (i+1) x y tn (by simpa using hy)⟩
 |_::_,[],h=>by simp at h
theorem nQ(a b:Tm):ig a b=(a.op==b.op&&a.n==b.n&&a.kids.length==b.kids.length&&fC a.kids b.kids):=by cases a;cases b;simp[ig,Tm.op,Tm.n,Tm.kids]
theorem Oo:∀a:Tm,a.fits->∀b:Tm,b.fits->aY Tryz.prog 40 [a.d,b.d] (.ret [.bool (ig a b)]):=by
 refine Tm.fe fun t ih hf b hb=> ?_
 have sZ:=(Tm.bA _).1 hf
 have Ex:=(Tm.bA _).1 hb
 refine aY.aN mix TG aK ?_
 rw[YH,nQ]
 refine bX ?_
 refine ak (fun h1=> ?_) (fun h1=> ?_)
 ·refine bX ?_
  have:(t.op==b.op&&t.n==b.n&&t.kids.length==b.kids.length)=false:=by
   rw[Bool.eq_false_iff]
   intro h
   simp at h
   simp[h]at h1
  rw[this];rfl
 ·have jD:t.op=b.op/\t.n=b.n/\t.kids.length=b.kids.length:=by
   simp at h1
   refine⟨h1.1.1,h1.1.2,by have:=h1.2;omega⟩
  rw[show(t.op==b.op&&t.n==b.n&&t.kids.length==b.kids.length)=true by simp[jD],Bool.true_and]
  have hl:=jD.2.2
  refine bX ?_
  refine aL (fun k:Nat=>⟨bc [.ab, .ab, .ptr 0 0, .ptr 1 0, .ab, .d (.i k)],Aj t.row b.row,2⟩)
   (fun k=>k<=t.kids.length/\∀i,i<k->∀x y,t.kids[i]? =some x->b.kids[i]? =some y->ig x y=true) (fun k=>t.kids.length - k) 0 ⟨Nat.zero_le _,fun i h=>af⟩ (bM.d2 _ (iM rfl rfl) af rfl rfl ?_) (fun k hk=> ?_)
  ·exact ec
  refine bX ?_
  refine ak (fun h2=> ?_) (fun h2=> ?_)
  ·simp at h2
   obtain⟨x,hx⟩:=aH h2
   obtain⟨y,hy⟩:=aH (l:=b.kids) (k:=k) af
   have gv:=List.mem_of_getElem? hx
   have Is:=List.mem_of_getElem? hy
   simp+contextual only[go_sem,hx,hy]
   refine bp (ih x gv (sZ.2 x gv) y (Ex.2 y Is)) rfl ?_
   refine bX ?_
   refine bg dU ?_
   refine bX ?_
   refine ak (fun h3=> ?_) (fun h3=> ?_)
   ·refine bX ?_
    simp at h3
    have:fC t.kids b.kids=false:=by
     rw[Bool.eq_false_iff]
     intro h
     have:=(fE _ _ hl).1 h k x y hx hy
     rw[h3]at this;cases this
    rw[this]
   ·refine bX ?_
    simp at h3
    refine ax (k+1) ⟨h2,fun i hi u v hu hv=> ?_⟩ af (bM.d2 _ (iM rfl rfl) af rfl rfl ?_)
    ·by_cases e:i=k
     ·subst e
      rw[hx]at hu;rw[hy]at hv
      exact Rf
     ·exact hk.2 i af u v hu hv
    ·exact ec
  ·refine bX ?_
   simp at h2
   have:fC t.kids b.kids=true:=(fE _ _ hl).2 fun i x y hx hy=>hk.2 i (by have:=(List.getElem?_eq_some_iff.1 hx).1;omega) x y hx hy
   rw[this]
theorem vW(t:Tm)(hf:t.fits):aY Tryz.prog 61 [t.d] (.ret [.bool (fD t)]):=by
 refine aY.aN mix YS aK ?_
 rw[c61]
 refine bX ?_
 refine aw (BX t hf 50 14 af af) rfl ?_
 refine bX ?_
 rfl
theorem Ak(s:aJ)(hs:s.Fits):aY Tryz.prog 78 [s.d] (.ret [.bool (gJ s)]):=by
 refine aY.aN mix Y7 aK ?_
 rw[c78]
 refine bX ?_
 refine ak (fun h1=> ?_) (fun h1=> ?_)
 ·refine bX ?_
  simp only[gJ,h1];rfl
 ·have e:gJ s=(ei s.cons&&ei s.cA):=by simp only[gJ,h1];rfl
  rw[e]
  simp at h1
  refine bX ?_
  refine aL (fun k:Nat=>⟨bc [.ab, .ptr 0 0, .ab, .d (.i k)],mI s.row,1⟩)
   (fun k=>k<=s.cons.length/\ei (s.cons.take k)=true) (fun k=>s.cons.length - k) 0 ⟨Nat.zero_le _,by simp[ei]⟩ (bM.d1 _ (b7 rfl) af rfl ?_) (fun k hk=> ?_)
  ·exact ec
  refine bX ?_
  refine ak (fun h2=> ?_) (fun h2=> ?_)
  ·simp at h2
   obtain⟨x,hx⟩:=aH h2
   refine iO hx ?_
   refine ak (fun h3=> ?_) (fun h3=> ?_)
   ·refine bX ?_
    rw[show ei s.cons=false from jq hx (by simpa using h3)];rfl
   ·refine bX ?_
    refine ax (k+1) ⟨h2,kX hx hk.2 (by simpa using h3)⟩ af (bM.d1 _ (b7 rfl) af rfl ?_)
    exact ec
  ·simp at h2
   rw[show ei s.cons=true from kY hk.2 h2,Bool.true_and]
   refine bX ?_
   refine aL (fun k:Nat=>⟨bc [.ab, .ptr 0 0, .ab, .ab, .d (.i k)],mI s.row,1⟩)
    (fun k=>k<=s.cA.length/\ei (s.cA.take k)=true) (fun k=>s.cA.length - k) 0 ⟨Nat.zero_le _,by simp[ei]⟩ (bM.d1 _ (b7 rfl) af rfl ?_) (fun k hk=> ?_)
   ·exact ec
   refine bX ?_
   refine ak (fun h4=> ?_) (fun h4=> ?_)
   ·simp at h4
    obtain⟨x,hx⟩:=aH h4
    refine iO hx ?_
    refine ak (fun h3=> ?_) (fun h3=> ?_)
    ·refine bX ?_
     rw[show ei s.cA=false from jq hx (by simpa using h3)]
    ·refine bX ?_
     refine ax (k+1) ⟨h4,kX hx hk.2 (by simpa using h3)⟩ af (bM.d1 _ (b7 rfl) af rfl ?_)
     exact ec
   ·simp at h4
    rw[show ei s.cA=true from kY hk.2 h4]
    simp+contextual only[go_sem]
end Go.Proofs.YtlhemmpklhhgoaaGreat
