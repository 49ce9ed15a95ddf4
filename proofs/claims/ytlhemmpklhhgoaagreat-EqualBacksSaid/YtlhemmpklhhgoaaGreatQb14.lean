/-
  A PART OF THE PROOF. Conditions: none.
-/
import Derived.Test.YtlhemmpklhhgoaaGreatRows
import Derived.Shelf.SlMaps.Clone
import Derived.Test.YtlhemmpklhhgoaaGreatQb13
set_option linter.unusedSimpArgs false
set_option linter.unusedVariables false
section
namespace Go.Proofs.YtlhemmpklhhgoaaGreat
open Go.Shelf
def A6:Go.Shelf.Ren:=⟨fun|5=>100|7=>130|n=>n,fun|23=>93|25=>3|3=>33|4=>4|20=>20|n=>n,fun|n=>n⟩
theorem PG:Go.Proofs.SlLaysW.n5 Tryz.prog A6:={
 mixed:=ag
 f5:=⟨Tryz.f100.name,cA,Tryz.func100.trans (congrArg some ag)⟩
 f7:=Tryz.func130.trans (congrArg some ag)
 t4:=Tryz.underlying4
 a4:=Tryz.isAgg4
 z4:=Tryz.sizeOf4
 v4:=Tryz.zeroValue4
 t20:=Tryz.underlying20
 a20:=Tryz.isAgg20
 z20:=Tryz.sizeOf20
 v20:=Tryz.zeroValue20
 t23:=Tryz.underlying93
 a23:=Tryz.isAgg93
 z23:=Tryz.sizeOf93
 v23:=Tryz.zeroValue93}
theorem PH:Cv Tryz.prog 100:=⟨⟨_,Tryz.func100,ag,ag⟩,fun w b es clock hb=>AnyW.maps_Clone PG b es clock w hb⟩
end Go.Proofs.YtlhemmpklhhgoaaGreat
end
namespace Go.Proofs.YtlhemmpklhhgoaaGreat
theorem mix:Tryz.prog.follows .mixedOrders=true:=ag
def zn:Tr FD:= .e fun _=> .no
theorem zt{f:Nat->Nat}:Tr.CJ (fun(g:Nat) (d:FD)=>d.Ok Tryz.prog g) zn f:=fun _=>trivial
def Wz:Tr FD:=
 (.n .no (.n .no (.n .no (.n .no (.n (.fn 34 c15 [.cell 6 29, .tmp 7]) (.n .no (.n (.fn 27 c63 [.cell 6 95, .tmp 7]) zn (.n (.fn 15 Wr [.tmp 6]) zn zn)) (.n .no (.n (.fn 4 Pk [.tmp 2]) zn zn) zn)) (.n (.fn 9 c47 [.cell 4 33]) (.n (.fn 167 c79 [.cell 2 95, .tmp 3]) zn zn) (.n (.fn 4 Vj [.tmp 2]) (.n (.fn 49 VZ []) zn zn) zn))) (.n .no (.n .no (.n .no (.n (.fn 11 VE []) zn zn) (.n (.fn 14 PE [.tmp 4]) zn zn)) (.n (.fn 133 Vb []) (.n (.fn 8 Pq [.tmp 3]) zn zn) zn)) (.n .no zn (.n (.fn 46 O5 [.tmp 2]) (.n (.fn 168 Wf [.tmp 8, .tmp 9]) zn zn) zn)))) (.n .no (.n .no (.n (.fn 40 c35 [.tmp 6, .tmp 7]) (.n (.fn 45 c67 [.tmp 2, .tmp 3]) zn (.n (.fn 14 PA [.tmp 4]) zn zn)) (.n (.fn 22 c99 [.tmp 4]) (.n (.fn 8 VX [.tmp 2]) zn zn) zn)) (.n (.fn 6 c51 [.cell 2 33]) (.n .no (.n (.fn 18 Pf [.tmp 4]) zn zn) zn) (.n .no (.n (.fn 32 V7 []) zn zn) zn))) (.n .no (.n .no zn (.n (.fn 6 O0 [.cell 2 33]) (.n (.fn 39 Pt [.cell 4 4]) zn zn) zn)) (.n .no (.n (.fn 35 c91 [.tmp 8]) zn zn) (.n .no (.n (.fn 19 Py [.cell 0 210]) zn zn) zn))))) (.n .no (.n .no (.n .no (.n .no (.n (.fn 66 c65 [.cell 2 29]) (.n (.fn 32 O8 [.tmp 4, .tmp 5, .tmp 6]) zn zn) (.n (.fn 6 Wv [.tmp 2]) zn zn)) (.n .no (.n (.fn 13 VT [.tmp 4]) zn zn) zn)) (.n (.fn 10 c49 [.cell 0 29]) (.n .no (.n (.fn 28 Pb [.tmp 2]) zn zn) zn) (.n .no (.n (.fn 65 V3 []) zn zn) zn))) (.n (.fn 46 c25 [.tmp 4]) (.n .no (.n (.fn 33 c73 [.tmp 4]) zn (.n (.fn 28 Wx [.tmp 8, .tmp 9]) zn zn)) (.n (.fn 8 OY [.tmp 2]) (.n (.fn 18 Pr [.tmp 4]) zn zn) zn)) (.n .no zn (.n (.fn 15 O7 [.tmp 2]) (.n (.fn 25 Wj [.tmp 2]) zn zn) zn)))) (.n .no (.n (.fn 70 ZN [.tmp 4]) (.n .no (.n (.fn 9 c69 [.tmp 2]) (.n (.fn 32 O9 [.tmp 6]) zn zn) (.n (.fn 27 PC [.tmp 4]) zn zn)) (.n (.Zx 6 LS U8 131 3 [.tmp 2] [.cell 2 36] 14 5 5 UW) (.n (.fn 17 Po [.tmp 4]) zn zn) zn)) (.n .no (.n (.fn 8 c85 [.cell 4 33]) (.n (.fn 4 Ph [.tmp 2]) zn zn) zn) (.n .no (.n (.fn 17 Wb [.tmp 4]) zn zn) zn))) (.n .no (.n .no zn (.n (.fn 17 Vf []) (.n (.fn 17 Pv [.tmp 6]) zn zn) zn)) (.n .no zn (.n .no (.n (.fn 7 Wn [.tmp 2]) zn zn) zn)))))) (.n .no (.n .no (.n .no (.n (.fn 62 c16 [.cell 6 29, .tmp 7]) (.n .no (.n (.fn 45 c64 [.cell 6 95, .tmp 7]) zn (.n (.fn 36 Wt [.tmp 10]) zn zn)) (.n .no (.n (.fn 16 Pl [.cell 2 4]) zn zn) zn)) (.n (.fn 5 c48 [.cell 2 33]) (.n (.fn 5 c80 [.cell 2 33]) (.n (.fn 24 Pa [.tmp 3]) zn zn) zn) (.n (.fn 21 O4 [.cell 4 33]) (.n (.fn 56 V1 []) zn zn) zn))) (.n (.fn 94 c24 [.cell 2 43, .tmp 3]) (.n (.fn 46 ZU [.tmp 4]) (.n .no (.n (.fn 14 VG []) zn zn) (.n (.fn 14 PF [.tmp 4]) zn zn)) (.n (.fn 9 Vd [.tmp 2]) zn zn)) (.n .no (.n (.fn 9 c88 [.tmp 4]) zn zn) (.n (.fn 14 O6 [.tmp 6]) (.n (.fn 19 Wh [.tmp 2]) zn zn) zn)))) (.n .no (.n .no (.n .no (.n (.fn 33 c68 [.cell 4 33]) (.n (.fn 47 VA []) zn zn) (.n (.fn 27 PB [.tmp 4]) zn zn)) (.n .Zy (.n (.fn 8 Pm []) zn zn) zn)) (.n (.fn 2 c52 [.cell 0 33]) (.n .no (.n (.fn 34 Pg [.cell 6 4]) zn zn) zn) (.n .no (.n (.fn 133 V9 [.tmp 6]) zn zn) zn))) (.n .no (.n .no zn (.n (.fn 24 O2 [.tmp 4]) (.n (.fn 8 Pu []) zn zn) zn)) (.n (.fn 42 Z6 [.tmp 4]) zn (.n .no (.n (.fn 76 Wl []) zn zn) zn))))) (.n .no (.n .no (.n .no (.n .no (.n (.fn 16 c66 [.tmp 4]) zn (.n (.fn 14 Pz [.tmp 4]) zn zn)) (.n .no (.n (.fn 134 VV []) zn zn) zn)) (.n (.fn 2 c50 [.cell 0 33]) (.n .no (.n (.fn 15 Pc [.tmp 6]) zn zn) zn) (.n .no (.n (.fn 57 V5 [.tmp 6, .tmp 7]) zn zn) zn))) (.n .no (.n .no (.n (.fn 50 c74 [.tmp 4]) zn zn) (.n (.fn 8 OZ [.tmp 2]) (.n (.fn 7 Ps [.tmp 3]) zn zn) zn)) (.n .no zn (.n .no (.n (.fn 19 Px [.tmp 4]) zn zn) zn)))) (.n (.fn 101 c14 [.tmp 0]) (.n .no (.n .no (.n .no (.n (.fn 5 VC [.tmp 2]) zn zn) (.n (.fn 27 PD [.tmp 4]) zn zn)) (.n (.fn 7 U9 []) (.n (.fn 9 Pp [.tmp 4]) zn zn) zn)) (.n .no zn (.n .no (.n (.fn 84 Wd [.tmp 8]) zn zn) zn))) (.n .no (.n (.fn 10 c46 [.cell 0 29]) zn (.n (.fn 9 Vh [.tmp 2]) (.n (.fn 10 Pw [.tmp 4]) zn zn) zn)) (.n (.fn 12 c62 [.cell 0 24]) (.n .no (.n (.fn 13 Pj [.tmp 4]) zn zn) zn) (.n (.fn 19 Vw [.tmp 4]) (.n (.fn 33 Wp [.tmp 2]) zn zn) zn)))))))
noncomputable def bA:Nat->FD:=Wz.get
theorem ff:∀g,(bA g).Ok Tryz.prog g:=
 Tr.wH (p:=fun g d=>d.Ok Tryz.prog g) (f:=fun g=>g) Wz
   ⟨trivial,⟨trivial,⟨trivial,⟨trivial,⟨ZK,⟨trivial,⟨Z9,zt,⟨Ws,zt,zt⟩⟩,⟨trivial,⟨Mb,zt,zt⟩,zt⟩⟩,⟨Z0,⟨U5,zt,zt⟩,⟨Vk,⟨V0,zt,zt⟩,zt⟩⟩⟩,⟨trivial,⟨trivial,⟨trivial,⟨VF,zt,zt⟩,⟨Mu,zt,zt⟩⟩,⟨Vc,⟨Mg,zt,zt⟩,zt⟩⟩,⟨trivial,zt,⟨LZ,⟨Wg,zt,zt⟩,zt⟩⟩⟩⟩,⟨trivial,⟨trivial,⟨ZS,⟨aab,zt,⟨Mq,zt,zt⟩⟩,⟨U7,⟨VY,zt,zt⟩,zt⟩⟩,⟨Z4,⟨trivial,⟨L7,zt,zt⟩,zt⟩,⟨trivial,⟨V8,zt,zt⟩,zt⟩⟩⟩,⟨trivial,⟨trivial,zt,⟨LW,⟨Mj,zt,zt⟩,zt⟩⟩,⟨trivial,⟨U6,zt,zt⟩,⟨trivial,⟨Mo,zt,zt⟩,zt⟩⟩⟩⟩⟩,⟨trivial,⟨trivial,⟨trivial,⟨trivial,⟨U0,⟨L2,zt,zt⟩,⟨Ww,zt,zt⟩⟩,⟨trivial,⟨VU,zt,zt⟩,zt⟩⟩,⟨Z2,⟨trivial,⟨L5,zt,zt⟩,zt⟩,⟨trivial,⟨V4,zt,zt⟩,zt⟩⟩⟩,⟨ZR,⟨trivial,⟨U3,zt,⟨Wy,zt,zt⟩⟩,⟨LU,⟨Mh,zt,zt⟩,zt⟩⟩,⟨trivial,zt,⟨L1,⟨Wk,zt,zt⟩,zt⟩⟩⟩⟩,⟨trivial,⟨UX,⟨trivial,⟨aac,⟨L3,zt,zt⟩,⟨Ms,zt,zt⟩⟩,⟨⟨OX,OW⟩,⟨Me,zt,zt⟩,zt⟩⟩,⟨trivial,⟨aaj,⟨L9,zt,zt⟩,zt⟩,⟨trivial,⟨Wc,zt,zt⟩,zt⟩⟩⟩,⟨trivial,⟨trivial,zt,⟨Vg,⟨Ml,zt,zt⟩,zt⟩⟩,⟨trivial,zt,⟨trivial,⟨Wo,zt,zt⟩,zt⟩⟩⟩⟩⟩⟩,⟨trivial,⟨trivial,⟨trivial,⟨ZL,⟨trivial,⟨aaa,zt,⟨Wu,zt,zt⟩⟩,⟨trivial,⟨Mc,zt,zt⟩,zt⟩⟩,⟨Z1,⟨aai,⟨L4,zt,zt⟩,zt⟩,⟨LY,⟨V2,zt,zt⟩,zt⟩⟩⟩,⟨ZQ,⟨UY,⟨trivial,⟨VH,zt,zt⟩,⟨Mv,zt,zt⟩⟩,⟨Ve,zt,zt⟩⟩,⟨trivial,⟨aal,zt,zt⟩,⟨L0,⟨Wi,zt,zt⟩,zt⟩⟩⟩⟩,⟨trivial,⟨trivial,⟨trivial,⟨U2,⟨VB,zt,zt⟩,⟨Mr,zt,zt⟩⟩,⟨PH,⟨Md,zt,zt⟩,zt⟩⟩,⟨Z5,⟨trivial,⟨L8,zt,zt⟩,zt⟩,⟨trivial,⟨Wa,zt,zt⟩,zt⟩⟩⟩,⟨trivial,⟨trivial,zt,⟨LX,⟨Mk,zt,zt⟩,zt⟩⟩,⟨UZ,zt,⟨trivial,⟨Wm,zt,zt⟩,zt⟩⟩⟩⟩⟩,⟨trivial,⟨trivial,⟨trivial,⟨trivial,⟨U1,zt,⟨Mp,zt,zt⟩⟩,⟨trivial,⟨VW,zt,zt⟩,zt⟩⟩,⟨Z3,⟨trivial,⟨L6,zt,zt⟩,zt⟩,⟨trivial,⟨V6,zt,zt⟩,zt⟩⟩⟩,⟨trivial,⟨trivial,⟨U4,zt,zt⟩,⟨LV,⟨Mi,zt,zt⟩,zt⟩⟩,⟨trivial,zt,⟨trivial,⟨Mn,zt,zt⟩,zt⟩⟩⟩⟩,⟨ZJ,⟨trivial,⟨trivial,⟨trivial,⟨VD,zt,zt⟩,⟨Mt,zt,zt⟩⟩,⟨Va,⟨Mf,zt,zt⟩,zt⟩⟩,⟨trivial,zt,⟨trivial,⟨We,zt,zt⟩,zt⟩⟩⟩,⟨trivial,⟨ZZ,zt,⟨Vi,⟨Mm,zt,zt⟩,zt⟩⟩,⟨Z8,⟨trivial,⟨Ma,zt,zt⟩,zt⟩,⟨Vx,⟨Wq,zt,zt⟩,zt⟩⟩⟩⟩⟩⟩⟩
end Go.Proofs.YtlhemmpklhhgoaaGreat
namespace Go.Proofs.YtlhemmpklhhgoaaGreat
@[go_sem] theorem cellsOf_3:Tryz.prog.cellsOf 3=1:=ag
@[go_sem] theorem bytesOf_3:Tryz.prog.bytesOf 3=8:=ag
@[go_sem] theorem aggT_3:c7 Tryz.prog 3=some false:=ag
@[go_sem] theorem infoT_3:(Tryz.prog.info? 3).isSome=true:=ag
@[go_sem] theorem undT_3:Tryz.prog.underlying 3=some (.int .i64):=ag
@[go_sem] theorem eqShape_3:bw Tryz.prog 3=some .int:=ag
@[go_sem] theorem zeroT_3:cJ Tryz.prog 3=some [.d (.int .i64 0)]:=ag
@[go_sem] theorem cellsOf_4:Tryz.prog.cellsOf 4=1:=ag
@[go_sem] theorem aggT_4:c7 Tryz.prog 4=some false:=ag
@[go_sem] theorem infoT_4:(Tryz.prog.info? 4).isSome=true:=ag
@[go_sem] theorem zeroT_4:cJ Tryz.prog 4=some [.d (.bool false)]:=ag
@[go_sem] theorem zeroV_4:zeroV Tryz.prog 4=some (.d (.bool false)):=ag
@[go_sem] theorem cellsOf_9:Tryz.prog.cellsOf 9=1:=ag
@[go_sem] theorem bytesOf_9:Tryz.prog.bytesOf 9=16:=ag
@[go_sem] theorem aggT_9:c7 Tryz.prog 9=some false:=ag
@[go_sem] theorem undT_9:Tryz.prog.underlying 9=some .string:=ag
@[go_sem] theorem eqShape_9:bw Tryz.prog 9=some .str:=ag
@[go_sem] theorem zeroT_9:cJ Tryz.prog 9=some [.d (.str [])]:=ag
@[go_sem] theorem sliceT_22:bN Tryz.prog 22=some 124:=ag
@[go_sem] theorem aggT_22:c7 Tryz.prog 22=some false:=ag
@[go_sem] theorem intT_22:oZ Tryz.prog 22=none:=ag
@[go_sem] theorem undT_22:Tryz.prog.underlying 22=some (.slice 124):=ag
@[go_sem] theorem cellsOf_24:Tryz.prog.cellsOf 24=2:=ag
@[go_sem] theorem aggT_24:c7 Tryz.prog 24=some true:=ag
@[go_sem] theorem zeroT_24:cJ Tryz.prog 24=some [.aE, .aE]:=ag
@[go_sem] theorem placesT_24:dh Tryz.prog 24=some [(0,1),(1,1)]:=ag
@[go_sem] theorem cellsOf_25:Tryz.prog.cellsOf 25=1:=ag
@[go_sem] theorem sliceT_25:bN Tryz.prog 25=some 59:=ag
@[go_sem] theorem aggT_25:c7 Tryz.prog 25=some false:=ag
@[go_sem] theorem intT_25:oZ Tryz.prog 25=none:=ag
@[go_sem] theorem infoT_25:(Tryz.prog.info? 25).isSome=true:=ag
@[go_sem] theorem undT_25:Tryz.prog.underlying 25=some (.slice 59):=ag
@[go_sem] theorem cellsOf_26:Tryz.prog.cellsOf 26=1:=ag
@[go_sem] theorem sliceT_26:bN Tryz.prog 26=some 101:=ag
@[go_sem] theorem aggT_26:c7 Tryz.prog 26=some false:=ag
@[go_sem] theorem intT_26:oZ Tryz.prog 26=none:=ag
@[go_sem] theorem infoT_26:(Tryz.prog.info? 26).isSome=true:=ag
@[go_sem] theorem undT_26:Tryz.prog.underlying 26=some (.slice 101):=ag
@[go_sem] theorem cellsOf_27:Tryz.prog.cellsOf 27=1:=ag
@[go_sem] theorem sliceT_27:bN Tryz.prog 27=some 77:=ag
@[go_sem] theorem aggT_27:c7 Tryz.prog 27=some false:=ag
@[go_sem] theorem intT_27:oZ Tryz.prog 27=none:=ag
@[go_sem] theorem infoT_27:(Tryz.prog.info? 27).isSome=true:=ag
@[go_sem] theorem undT_27:Tryz.prog.underlying 27=some (.slice 77):=ag
@[go_sem] theorem cellsOf_29:Tryz.prog.cellsOf 29=5:=ag
@[go_sem] theorem aggT_29:c7 Tryz.prog 29=some true:=ag
@[go_sem] theorem infoT_29:(Tryz.prog.info? 29).isSome=true:=ag
@[go_sem] theorem zeroT_29:cJ Tryz.prog 29=some [.aE, .aE, .aE, .aE, .aE]:=ag
@[go_sem] theorem placesT_29:dh Tryz.prog 29=some [(0,2),(2,1),(3,1),(4,1)]:=ag
@[go_sem] theorem aggT_30:c7 Tryz.prog 30=some false:=ag
@[go_sem] theorem undT_30:Tryz.prog.underlying 30=some (.int .i64):=ag
@[go_sem] theorem cellsOf_31:Tryz.prog.cellsOf 31=1:=ag
@[go_sem] theorem sliceT_31:bN Tryz.prog 31=some 33:=ag
@[go_sem] theorem aggT_31:c7 Tryz.prog 31=some false:=ag
@[go_sem] theorem intT_31:oZ Tryz.prog 31=none:=ag
@[go_sem] theorem infoT_31:(Tryz.prog.info? 31).isSome=true:=ag
@[go_sem] theorem undT_31:Tryz.prog.underlying 31=some (.slice 33):=ag
@[go_sem] theorem cellsOf_33:Tryz.prog.cellsOf 33=3:=ag
@[go_sem] theorem bytesOf_33:Tryz.prog.bytesOf 33=40:=ag
@[go_sem] theorem aggT_33:c7 Tryz.prog 33=some true:=ag
@[go_sem] theorem infoT_33:(Tryz.prog.info? 33).isSome=true:=ag
@[go_sem] theorem zeroT_33:cJ Tryz.prog 33=some [.d (.int .i64 0), .d (.int .i64 0), .aE]:=ag
@[go_sem] theorem zeroV_33:zeroV Tryz.prog 33=some (mo [.d (.int .i64 0), .d (.int .i64 0), .aE]):=ag
@[go_sem] theorem placesT_33:dh Tryz.prog 33=some [(0,1),(1,1),(2,1)]:=ag
@[go_sem] theorem cellsOf_59:Tryz.prog.cellsOf 59=4:=ag
@[go_sem] theorem bytesOf_59:Tryz.prog.bytesOf 59=48:=ag
@[go_sem] theorem aggT_59:c7 Tryz.prog 59=some true:=ag
@[go_sem] theorem infoT_59:(Tryz.prog.info? 59).isSome=true:=ag
@[go_sem] theorem zeroT_59:cJ Tryz.prog 59=some [.d (.int .i64 0), .d (.int .i64 0), .d (.int .i64 0), .aE]:=ag
@[go_sem] theorem placesT_59:dh Tryz.prog 59=some [(0,1),(1,3)]:=ag
@[go_sem] theorem cellsOf_77:Tryz.prog.cellsOf 77=2:=ag
@[go_sem] theorem bytesOf_77:Tryz.prog.bytesOf 77=16:=ag
@[go_sem] theorem aggT_77:c7 Tryz.prog 77=some true:=ag
@[go_sem] theorem infoT_77:(Tryz.prog.info? 77).isSome=true:=ag
@[go_sem] theorem zeroT_77:cJ Tryz.prog 77=some [.d (.int .i64 0), .d (.int .i64 0)]:=ag
@[go_sem] theorem placesT_77:dh Tryz.prog 77=some [(0,1),(1,1)]:=ag
@[go_sem] theorem cellsOf_90:Tryz.prog.cellsOf 90=1:=ag
@[go_sem] theorem aggT_90:c7 Tryz.prog 90=some false:=ag
@[go_sem] theorem infoT_90:(Tryz.prog.info? 90).isSome=true:=ag
@[go_sem] theorem zeroT_90:cJ Tryz.prog 90=some [.d .bO]:=ag
@[go_sem] theorem aggT_93:c7 Tryz.prog 93=some false:=ag
@[go_sem] theorem undT_93:Tryz.prog.underlying 93=some (.map 3 33):=ag
@[go_sem] theorem mapT_93:pa Tryz.prog 93=some (3,33):=ag
@[go_sem] theorem cellsOf_95:Tryz.prog.cellsOf 95=6:=ag
@[go_sem] theorem aggT_95:c7 Tryz.prog 95=some true:=ag
@[go_sem] theorem infoT_95:(Tryz.prog.info? 95).isSome=true:=ag
@[go_sem] theorem zeroT_95:cJ Tryz.prog 95=some [.aE, .aE, .aE, .aE, .aE, .d .eQ]:=ag
@[go_sem] theorem placesT_95:dh Tryz.prog 95=some [(0,5),(5,1)]:=ag
@[go_sem] theorem cellsOf_101:Tryz.prog.cellsOf 101=6:=ag
@[go_sem] theorem bytesOf_101:Tryz.prog.bytesOf 101=80:=ag
@[go_sem] theorem aggT_101:c7 Tryz.prog 101=some true:=ag
@[go_sem] theorem infoT_101:(Tryz.prog.info? 101).isSome=true:=ag
@[go_sem] theorem zeroT_101:cJ Tryz.prog 101=some [.d (.int .i64 0), .d (.int .i64 0), .aE, .d (.int .i64 0), .d (.int .i64 0), .aE]:=ag
@[go_sem] theorem placesT_101:dh Tryz.prog 101=some [(0,3),(3,3)]:=ag
@[go_sem] theorem cellsOf_124:Tryz.prog.cellsOf 124=2:=ag
@[go_sem] theorem bytesOf_124:Tryz.prog.bytesOf 124=24:=ag
@[go_sem] theorem aggT_124:c7 Tryz.prog 124=some true:=ag
@[go_sem] theorem infoT_124:(Tryz.prog.info? 124).isSome=true:=ag
@[go_sem] theorem zeroT_124:cJ Tryz.prog 124=some [.d (.str []), .d (.int .i64 0)]:=ag
@[go_sem] theorem placesT_124:dh Tryz.prog 124=some [(0,1),(1,1)]:=ag
@[go_sem] theorem sliceT_142:bN Tryz.prog 142=some 3:=ag
@[go_sem] theorem intT_142:oZ Tryz.prog 142=none:=ag
@[go_sem] theorem undT_142:Tryz.prog.underlying 142=some (.slice 3):=ag
@[go_sem] theorem sliceT_148:bN Tryz.prog 148=some 9:=ag
@[go_sem] theorem intT_148:oZ Tryz.prog 148=none:=ag
@[go_sem] theorem undT_148:Tryz.prog.underlying 148=some (.slice 9):=ag
@[go_sem] theorem cellsOf_154:Tryz.prog.cellsOf 154=1:=ag
@[go_sem] theorem aggT_154:c7 Tryz.prog 154=some false:=ag
@[go_sem] theorem infoT_154:(Tryz.prog.info? 154).isSome=true:=ag
@[go_sem] theorem zeroT_154:cJ Tryz.prog 154=some [.d .bO]:=ag
@[go_sem] theorem aggT_168:c7 Tryz.prog 168=some false:=ag
@[go_sem] theorem cellsOf_175:Tryz.prog.cellsOf 175=1:=ag
@[go_sem] theorem aggT_175:c7 Tryz.prog 175=some false:=ag
@[go_sem] theorem infoT_175:(Tryz.prog.info? 175).isSome=true:=ag
@[go_sem] theorem mapT_175:pa Tryz.prog 175=some (9,4):=ag
@[go_sem] theorem zeroT_175:cJ Tryz.prog 175=some [.d .eQ]:=ag
@[go_sem] theorem cellsOf_178:Tryz.prog.cellsOf 178=1:=ag
@[go_sem] theorem aggT_178:c7 Tryz.prog 178=some false:=ag
@[go_sem] theorem infoT_178:(Tryz.prog.info? 178).isSome=true:=ag
@[go_sem] theorem mapT_178:pa Tryz.prog 178=some (3,4):=ag
@[go_sem] theorem zeroT_178:cJ Tryz.prog 178=some [.d .eQ]:=ag
@[go_sem] theorem cellsOf_209:Tryz.prog.cellsOf 209=1:=ag
@[go_sem] theorem aggT_209:c7 Tryz.prog 209=some false:=ag
@[go_sem] theorem infoT_209:(Tryz.prog.info? 209).isSome=true:=ag
@[go_sem] theorem cellsOf_210:Tryz.prog.cellsOf 210=16:=ag
@[go_sem] theorem sliceT_210:bN Tryz.prog 210=none:=ag
@[go_sem] theorem arrT_210:xD Tryz.prog 210=some (16,209):=ag
@[go_sem] theorem aggT_210:c7 Tryz.prog 210=some true:=ag
@[go_sem] theorem infoT_210:(Tryz.prog.info? 210).isSome=true:=ag
@[go_sem] theorem zeroT_210:cJ Tryz.prog 210=some [.d .bO, .d .bO, .d .bO, .d .bO, .d .bO, .d .bO, .d .bO, .d .bO, .d .bO, .d .bO, .d .bO, .d .bO, .d .bO, .d .bO, .d .bO, .d .bO]:=ag
@[go_sem] theorem placesT_210:dh Tryz.prog 210=some [(0,1),(1,1),(2,1),(3,1),(4,1),(5,1),(6,1),(7,1),(8,1),(9,1),(10,1),(11,1),(12,1),(13,1),(14,1),(15,1)]:=ag
@[go_sem] theorem zeroT_213:cJ Tryz.prog 213=some [.aE, .aE]:=ag
@[go_sem] theorem placesT_213:dh Tryz.prog 213=some [(0,2)]:=ag
@[go_sem] theorem fieldT_24_0:bV Tryz.prog 24 0=some 0:=ag
@[go_sem] theorem fieldT_24_1:bV Tryz.prog 24 1=some 1:=ag
@[go_sem] theorem fieldT_29_0:bV Tryz.prog 29 0=some 0:=ag
@[go_sem] theorem fieldT_29_1:bV Tryz.prog 29 1=some 2:=ag
@[go_sem] theorem fieldT_29_2:bV Tryz.prog 29 2=some 3:=ag
@[go_sem] theorem fieldT_29_3:bV Tryz.prog 29 3=some 4:=ag
@[go_sem] theorem fieldT_33_0:bV Tryz.prog 33 0=some 0:=ag
@[go_sem] theorem fieldT_33_1:bV Tryz.prog 33 1=some 1:=ag
@[go_sem] theorem fieldT_33_2:bV Tryz.prog 33 2=some 2:=ag
@[go_sem] theorem fieldT_59_0:bV Tryz.prog 59 0=some 0:=ag
@[go_sem] theorem fieldT_59_1:bV Tryz.prog 59 1=some 1:=ag
@[go_sem] theorem fieldT_77_0:bV Tryz.prog 77 0=some 0:=ag
@[go_sem] theorem fieldT_77_1:bV Tryz.prog 77 1=some 1:=ag
@[go_sem] theorem fieldT_95_0:bV Tryz.prog 95 0=some 0:=ag
@[go_sem] theorem fieldT_95_1:bV Tryz.prog 95 1=some 5:=ag
@[go_sem] theorem fieldT_101_0:bV Tryz.prog 101 0=some 0:=ag
@[go_sem] theorem fieldT_101_1:bV Tryz.prog 101 1=some 3:=ag
@[go_sem] theorem fieldT_124_0:bV Tryz.prog 124 0=some 0:=ag
@[go_sem] theorem fieldT_124_1:bV Tryz.prog 124 1=some 1:=ag
@[go_sem] theorem fieldT_213_0:bV Tryz.prog 213 0=some 0:=ag
section
def lu(x y:ab):Prop:=(x.bM=true->y.bM=true)/\∀e,x.bQ=some e->y.bQ=some e
theorem lu.rfl' {x y:ab}(h:x=y):lu x y:=h ▸ ⟨id,fun _ h=>h⟩
theorem lu.fz (x:ab):lu x.fz x:=by cases x<;>exact⟨id,fun _ h=>h⟩
theorem lu.row (cs cs':List V):lu (.row cs) (.row cs'):=⟨fun _=>rfl,fun _ h=>by cases h⟩
mutual
theorem V.lx {B B':Nat->Prop}{φ aA:Place}{H H':Hp}{w:World}(hB:∀b, ¬B b-> ¬B' b):∀ (v:V) (val:Value),(∀id∈v.refs,lu (H'.o id) (H.o id)/\aA id=φ id/\H'.us id)->V.den B φ H w v val->V.den B' aA H' w v val
 | .d x,val,_,h=>D.aL (w:=w) (w':=w) (fun b _ hn=>⟨rfl,hB b hn⟩) x val h
 | .aE,_,_,h=>h
 | .aa,_,_,_=>trivial
 | .eg,_,_,h=>h
 | .oO es,val,_,h=>⟨D.aL (w:=w) (w':=w) (fun b _ hn=>⟨rfl,hB b hn⟩) (.sl es) val h.1,h.2⟩
 | .agg cs,val,hr,h=>by
   obtain⟨a,rfl,h1,h2⟩:=h
   exact⟨a,rfl,V.fN hB cs _ Df h1,h2⟩
 | .bH cs,val,hr,h=>by
   obtain⟨a,rfl,h1⟩:=h
   exact⟨a,rfl,V.fN hB cs _ Df h1⟩
 | .ptr id off,val,hr,h=>by
   exact Yu
 | .osl id ep,val,hr,h=>by
   obtain⟨a,b,c⟩:=hr id oR
   obtain⟨h0,h1,h2⟩:=h
   refine⟨h0,c,fun e he=> ?_⟩
   obtain⟨x,y⟩:=h2 e (a.2 e he)
   exact⟨x,fun heq=>(y heq).trans b.symm⟩
 | .pe id ep i sz off,val,hr,h=>by
   obtain⟨a,b,c⟩:=hr id oR
   obtain⟨h0,h1,h2⟩:=h
   refine⟨h0,c,fun e he=> ?_⟩
   obtain⟨x,y⟩:=h2 e (a.2 e he)
   exact Th
 | .pp cs off,val,_,h=>by
   obtain⟨a,ev,h1,h2,h3,h5,h4⟩:=h
   exact R0
 | .func fn first cap,val,hr,h=>by
   obtain⟨f,c,rfl,h1,h2⟩:=h
   exact⟨f,c,rfl,V.fN hB first _ (fun id au=>hr id (by simp[V.refs,au])) h1,V.fN hB cap _ (fun id au=>hr id (by simp[V.refs,au])) h2⟩
 | .iface t x,val,hr,h=>by
   obtain⟨u,rfl,h⟩:=h
   exact⟨u,rfl,V.lx hB x u Df h⟩
 | .uc id off n,val,hr,h=>by
   exact Yu
 | .mp id,val,hr,h=>by
   obtain⟨a,b,c⟩:=hr id oR
   obtain⟨h0,h1,h2⟩:=h
   refine⟨h0,c,fun cy=> ?_⟩
   exact(h2 (a.1 cy)).trans b.symm
 | .js id,val,hr,h=>by
   exact Yu
theorem V.fN {B B':Nat->Prop}{φ aA:Place}{H H':Hp}{w:World}(hB:∀b, ¬B b-> ¬B' b):∀ (vs:List V) (vals:List Value),(∀id∈V.aP vs,lu (H'.o id) (H.o id)/\aA id=φ id/\H'.us id)->V.az B φ H w vs vals->V.az B' aA H' w vs vals
 |[],_,_,h=>h
 |v::vs,_,hr,h=>by
  obtain⟨u,us,rfl,h1,h2⟩:=h
  exact⟨u,us,rfl,V.lx hB v u (fun id au=>hr id (by simp[V.aP,au])) h1,V.fN hB vs us (fun id au=>hr id (by simp[V.aP,au])) h2⟩
end
mutual
theorem V.lU {B:Nat->Prop}{φ:Place}{H:Hp}{w:World}:∀ (v:V) (val:Value),V.den B φ H w v val->∀id∈v.refs,H.us id
 | .osl id ep,_,h,j,hj| .ptr id off,_,h,j,hj| .pe id ep i sz off,_,h,j,hj| .uc id off n,_,h,j,hj| .mp id,_,h,j,hj| .js id,_,h,j,hj=>by simp[V.refs]at hj;subst hj;exact h.2.1
 | .agg cs,_,h,j,hj=>by obtain⟨a,rfl,h,_⟩:=h;exact V.fO cs _ h j (by simpa[V.refs]using hj)
 | .bH cs,_,h,j,hj=>by obtain⟨a,rfl,h⟩:=h;exact V.fO cs _ h j (by simpa[V.refs]using hj)
 | .func fn first cap,_,h,j,hj=>by
   obtain⟨f,c,rfl,h1,h2⟩:=h
   rcases List.mem_append.1 (show j∈V.aP first++V.aP cap by simpa[V.refs]using hj)with hj|hj
   ·exact V.fO first _ h1 j hj
   ·exact V.fO cap _ h2 j hj
 | .iface t x,_,h,j,hj=>by obtain⟨u,rfl,h⟩:=h;exact V.lU x u h j (by simpa[V.refs]using hj)
 | .d _,_,_,_,hj| .aE,_,_,_,hj| .pp _ _,_,_,_,hj| .aa,_,_,_,hj| .oO _,_,_,_,hj| .eg,_,_,_,hj=>by simp[V.refs]at hj
theorem V.fO {B:Nat->Prop}{φ:Place}{H:Hp}{w:World}:∀ (vs:List V) (vals:List Value),V.az B φ H w vs vals->∀id∈V.aP vs,H.us id
 |[],_,_,j,hj=>by simp[V.aP]at hj
 |v::vs,_,h,j,hj=>by
  obtain⟨u,us,rfl,h1,h2⟩:=h
  rcases List.mem_append.1 (show j∈v.refs++V.aP vs by simpa[V.aP]using hj)with hj|hj
  ·exact V.lU v u h1 j hj
  ·exact V.fO vs us h2 j hj
end
def j7(so:Nat->ab)(gone:Nat->Prop)(ty:TypeId)(sz:Nat)(es:List D)(x:V):Prop:=
 (x= .aE/\es=[]/\0<sz)\/∃id ep,gone id/\x= .osl id ep/\so id= .arr ep ty sz es
theorem GN{xs ys:List Nat}:je xs ys=true↔∀x∈xs,x∉ys:=by
 simp[je,List.all_eq_true]
def ly(env:Nat->V):List V->Nat->Prop
 |[],_=>True
 |v::l,i=>(v= .aa\/v=env i)/\ly env l (i+1)
theorem Dd{env:Nat->V}{i:Nat}:ly env [] i:=trivial
theorem Ac{env:Nat->V}{l:List V}{i:Nat}(h:ly env l (i+1)):ly env (.aa::l) i:=⟨.inl rfl,h⟩
theorem Ie{env:Nat->V}{l:List V}{i:Nat}{v:V}(he:env i=v)(h:ly env l (i+1)):ly env (v::l) i:=⟨.inr he.symm,h⟩
theorem yX{env:Nat->V}:∀ (l:List V) (i:Nat),ly env l i->∀j,ba l j= .aa\/ba l j=env (i+j)
 |[],i,_,j=>by rw[od];exact .inl rfl
 |v::l,i,h,0=>by rw[lS];exact h.1
 |v::l,i,h,j+1=>by
  rw[lT]
  have:=yX l (i+1) h.2 j
  rwa [show i+1+j=i+(j+1) by omega]at this
theorem D8{P:Program}{n bq:Nat}{gq:Operand}{ps:List Nat}{x y:IC}{Q:eT->S->Prop}{e:Nat->V}{o:Nat->ab}{nx:Nat}{f:FuncId}{cap:List V}(env:List V)(he:ly e env 0)
 (h:dA P f (.js nx::cap) (aI o nx (.loop P.funcs.size n env ps x y .ready none)) (nx+1)
  (fun _ o' nx'=>∃nf m en p c d st pd,o' nx= .loop nf m en p c d st pd/\st≠ .busy/\pq Q pd ⟨e,aI o' nx (.loop nf m en p c d .exhausted pd),nx'⟩) (fun v o' nx'=>Q (.bu v) ⟨e,o',nx'⟩)):
 yG P n bq false gq ps x y Q ⟨e,o,nx⟩ (.func (.func f) [] cap):=by
 unfold yG yf
 refine⟨rfl, .inl ⟨env,fun i=> ?_, .inl h⟩⟩
 have:=yX env 0 he i
 rwa [Nat.zero_add]at this
theorem bG.trans {b:Nat}{s s' s'':S}(h1:bG b s s')(h2:bG b s' s''):bG b s s'':=fun M φ w tm hH hd=>by
 obtain⟨aA,a1,a2,a3,a4,a5,a6⟩:=h1 M φ w tm hH hd
 obtain⟨Ah,b1,b2,b3,b4,b5,b6⟩:=h2 M aA w tm a1 a2
 refine⟨Ah,b1,b2,fun k hk=>a3 k (b3 k hk),b4,fun id au hr=> ?_,fun id e' au he=> ?_⟩
 ·obtain⟨c1,c2⟩:=b5 id au hr
  obtain⟨c3,c4⟩:=a5 id au c1
  exact⟨c3,c2.trans c4⟩
 ·obtain⟨e1,c1,c2,c3⟩:=b6 id e' au he
  obtain⟨e0,d1,d2,d3⟩:=a6 id e1 au c1
  exact⟨e0,d1,Nat.le_trans d2 c2,fun h=>(c3 af).trans (d3 af)⟩
def pE(P:Program)(n b id:Nat)(eS:IC)(K X:V->(Nat->ab)->Nat->Prop)(e:eT)(s:S):Prop:=
 match e with
 | .normal=>∃nf m en p c d pd,s.o id= .loop nf m en p c d .ready pd/\kq P n b true eS (jo id K X) ⟨s.env,aI s.o id (.loop nf m en p c d .busy pd),s.nx⟩
 | .bu v=>X v s.o s.nx
 |_=>False
theorem c6.aM {P:Program}{n:Nat}(aY:P.follows .mixedOrders=true){id:Nat}{args:List V}{o:Nat->ab}{nx:Nat}{K X:V->(Nat->ab)->Nat->Prop}{env:List V}{ps:List Nat}{jg eS:IC}{st:LoopState}{pd:Option iH}
 (ho:o id= .loop P.funcs.size n env ps jg eS st pd) (bR:id<nx) (Gi:ps.all (fun t=>decide (t<n))=true) (hl:args.length=ps.length)
 (h:kq P n nx true jg (pE P n nx id eS K X) ⟨n9 (ba env) ps args,o,nx⟩):c6 P id args o nx K X:=by
 refine c6.rZ aY ho bR Gi hl (ez jg _ _ _ (fun e s h=> ?_) h)
 cases e with
 |normal=>
  obtain⟨nf,m,en,p,c,d,pd,h1,h2⟩:=h
  exact⟨nf,m,en,p,c,d,pd,h1,ez eS _ _ _ (fun _ _ h=>h) h2⟩
 |bu v=>exact h
 |_=>exact h.elim
theorem wI{P:Program}{n b id:Nat}{eS:IC}{K X:V->(Nat->ab)->Nat->Prop}{s:S}{nf m:Nat}{en:List V}{p:List Nat}{c d:IC}{pd:Option iH}(h:s.o id= .loop nf m en p c d .ready pd)
 (h2:kq P n b true eS (jo id K X) ⟨s.env,aI s.o id (.loop nf m en p c d .busy pd),s.nx⟩):pE P n b id eS K X .normal s:=⟨nf,m,en,p,c,d,pd,h,h2⟩
def tM:List Nat->Nat->Nat->Nat
 |[],nx,k=>nx+k
 |i::_,_,0=>i
 |_::l,nx,k+1=>tM l nx k
theorem wJ:∀ (l:List Nat) (nx k:Nat),tM l nx k∈l\/nx<=tM l nx k
 |[],nx,k=> .inr (Nat.le_add_right _ _)
 |i::_,_,0=> .inl (List.mem_cons_self ..)
 |_::l,nx,k+1=>(wJ l nx k).imp (List.mem_cons_of_mem _) id
theorem yY{nx:Nat}:∀ (l:List Nat),l.Nodup->(∀i∈l,i<nx)->∀a b,tM l nx a=tM l nx b->a=b
 |[],_,_,a,b,e=>by simp only[tM]at e;omega
 |i::l,_,_,0,0,_=>rfl
 |i::l,hd,hl,0,b+1,e=>by
  simp only[tM]at e
  rcases wJ l nx b with h|h
  ·rw[<- e]at h;exact absurd h (List.nodup_cons.1 hd).1
  ·have:=hl i (List.mem_cons_self ..);omega
 |i::l,hd,hl,a+1,0,e=>by
  simp only[tM]at e
  rcases wJ l nx a with h|h
  ·rw[e]at h;exact absurd h (List.nodup_cons.1 hd).1
  ·have:=hl i (List.mem_cons_self ..);omega
 |i::l,hd,hl,a+1,b+1,e=>by
  simp only[tM]at e
  rw[yY l (List.nodup_cons.1 hd).2 (fun j hj=>hl j (List.mem_cons_of_mem _ hj)) a b e]
def Jv(f:Nat->Nat)(x:List Nat×List Nat):List Nat×List Nat:=(x.1.map f,x.2.map f)
theorem sB{f:Nat->Nat}(hf:∀a b,f a=f b->a=b){xs ys:List Nat}(hd:je xs ys=true):je (xs.map f) (ys.map f)=true:=by
 rw[GN]at hd|-
 intro x hx hy
 obtain⟨a,ha,rfl⟩:=List.mem_map.1 hx
 obtain⟨b,hb,e⟩:=List.mem_map.1 hy
 rw[hf b a e]at hb
 exact hd a ha hb
theorem A7{f:Nat->Nat}(hf:∀a b,f a=f b->a=b){pr:List (List Nat)}(fp:List (List Nat×List Nat))(ho:dK pr fp=true):dK pr (fp.map (Jv f))=true:=by
 unfold dK at ho|-
 rw[List.all_eq_true]at ho|-
 intro j hj
 rw[List.length_map]at hj
 have ho:=ho j hj
 rw[List.all_eq_true]at ho|-
 intro i hi
 have ho:=ho i hi
 have hm:∀k,(fp.map (Jv f)).getD k ([],[])=Jv f (fp.getD k ([],[])):=fun k=>by
  rw[List.getD_eq_getElem?_getD,List.getD_eq_getElem?_getD,List.getElem?_map]
  cases fp[k]? <;>rfl
 rw[hm,hm]
 rw[Bool.or_eq_true]at ho|-
 refine ho.imp (fun h=>h) (fun ho=> ?_)
 rw[Bool.and_eq_true,Bool.and_eq_true]at ho|-
 exact⟨⟨sB hf ho.1.1,sB hf ho.1.2⟩,sB hf ho.2⟩
theorem iW{ids:List Nat}{nx:Nat}(hd:ids.Nodup)(hl:∀i∈ids,i<nx){pr:List (List Nat)}(fp:List (List Nat×List Nat))(ho:dK pr fp=true):dK pr (fp.map (Jv (tM ids nx)))=true:=
 A7 (yY ids hd hl) fp ho
section
variable {P:Program}{KB:List Nat->Fp->Prop}{pr:List (List Nat)}{l:List bB}{fr:Nat}{fp:Fp}{bad ws:List Nat}{s:S}{d:Option Nat}{op:Op}
end
end
section
structure Gr where
 x:V
 ty:TypeId
 sz:Nat
 es:List D
def Gr.ok (so:Nat->ab)(gone:Nat->Prop)(g:Gr):Prop:=j7 so gone g.ty g.sz g.es g.x
def GO(c:Nat)(G:List Gr)(so:Nat->ab)(gone:Nat->Prop)(v v':V):Prop:=
 v'= .aa\/(v'=v/\∀r∈v.refs,r<c)\/(∃i g,G[i]? =some g/\v'= .osl (c+i) 0/\v=g.x)\/∃y,v'= .d y/\dv so v=some y/\∀id∈v.ids,gone id/\∀g∈G,∀ep,g.x≠ .osl id ep
def jq(c:Nat)(G:List Gr)(so:Nat->ab)(gone:Nat->Prop)(env:Nat->V):List V->Nat->Prop
 |[],_=>True
 |v::l,i=>GO c G so gone (env i) v/\jq c G so gone env l (i+1)
def sC(c:Nat)(G:List Gr)(so:Nat->ab)(gone:Nat->Prop):List V->List V->Prop
 |[],[]=>True
 |v::l,v'::l'=>GO c G so gone v v'/\sC c G so gone l l'
 |_,_=>False
def D9(c:Nat)(G:List Gr)(so:Nat->ab)(gone:Nat->Prop)(x x':ab):Prop:=
 x'= .no\/(x=x'/\∀r∈x'.refs,r<c)\/∃cs cs',x= .row cs/\x'= .row cs'/\sC c G so gone cs cs'
section
variable {c:Nat}{G:List Gr}{so:Nat->ab}{gone:Nat->Prop}
theorem CK{env:Nat->V}:∀ (l:List V) (i:Nat),jq c G so gone env l i->∀j,GO c G so gone (env (i+j)) (ba l j)
 |[],i,_,j=>by rw[od];exact .inl rfl
 |v::l,i,h,0=>by rw[lS];exact h.1
 |v::l,i,h,j+1=>by
  rw[lT]
  have:=CK l (i+1) h.2 j
  rwa [show i+1+j=i+(j+1) by omega]at this
variable {env:Nat->V}{i:Nat}{l l':List V}{v:V}{y:D}
theorem E0:jq c G so gone env [] i:=trivial
theorem Db(h:jq c G so gone env l (i+1)):jq c G so gone env (.aa::l) i:=⟨.inl rfl,h⟩
theorem E1(he:env i= .d y)(h:jq c G so gone env l (i+1)):jq c G so gone env (.d y::l) i:=⟨.inr (.inl ⟨he.symm,fun r hr=>by rw[he]at hr;simp[V.refs]at hr⟩),h⟩
theorem MV(he:env i=v)(hr:∀r∈v.refs,r<c)(h:jq c G so gone env l (i+1)):jq c G so gone env (v::l) i:=⟨.inr (.inl ⟨he.symm,fun r DD=>hr r (he ▸ DD)⟩),h⟩
theorem MU(k:Nat){g:Gr}{n:Nat}(hg:G[k]? =some g)(hn:n=c+k)(he:env i=g.x)(h:jq c G so gone env l (i+1)):jq c G so gone env (.osl n 0::l) i:=⟨.inr (.inr (.inl ⟨k,g,hg,by rw[hn],he⟩)),h⟩
theorem MW(ht:dv so (env i)=some y)(hi:∀id∈(env i).ids,gone id/\∀g∈G,∀ep,g.x≠ .osl id ep)(h:jq c G so gone env l (i+1)):jq c G so gone env (.d y::l) i:=⟨.inr (.inr (.inr ⟨y,rfl,ht,hi⟩)),h⟩
theorem rj:sC c G so gone [] []:=trivial
theorem oS(h:sC c G so gone l l'):sC c G so gone (.d y::l) (.d y::l'):=⟨.inr (.inl ⟨rfl,fun r hr=>by simp[V.refs]at hr⟩),h⟩
theorem wK(hr:∀r∈v.refs,r<c)(h:sC c G so gone l l'):sC c G so gone (v::l) (v::l'):=⟨.inr (.inl ⟨rfl,hr⟩),h⟩
theorem Ae(k:Nat){g:Gr}{n:Nat}(hg:G[k]? =some g)(hn:n=c+k)(he:v=g.x)(h:sC c G so gone l l'):sC c G so gone (v::l) (.osl n 0::l'):=⟨.inr (.inr (.inl ⟨k,g,hg,by rw[hn],he⟩)),h⟩
theorem wL{x:ab}:D9 c G so gone x .no:= .inl rfl
theorem gP{x x':ab}(h:x=x')(hr:∀r∈x'.refs,r<c):D9 c G so gone x x':= .inr (.inl ⟨h,hr⟩)
theorem ri{x:ab}{cs cs':List V}(h:x= .row cs)(hr:sC c G so gone cs cs'):D9 c G so gone x (.row cs'):= .inr (.inr ⟨cs,cs',h,rfl,hr⟩)
end
theorem oj{c:Nat}{G:List Gr}{so:Nat->ab}{gone:Nat->Prop}{B B':Nat->Prop}{φ aA:Place}{H H':Hp}{w:World}(hc:∀v v' val,GO c G so gone v v'->V.den B φ H w v val->V.den B' aA H' w v' val):
 ∀ (l l':List V) (vals:List Value),sC c G so gone l l'->V.az B φ H w l vals->V.az B' aA H' w l' vals
 |[],[],_,_,h=>h
 |v::l,v'::l',_,h,hd=>by
  obtain⟨u,us,rfl,h1,h2⟩:=hd
  exact⟨u,us,rfl,hc _ _ _ h.1 h1,oj hc l l' us h.2 h2⟩
 |[],_::_,_,h,_=>h.elim
 |_::_,[],_,h,_=>h.elim
def GP(φ:Place)(c:Nat)(G:List Gr):Place:=fun id=>if id<c then φ id else match G[id - c]? with
 |some g=>(match g.x with| .osl j _=>φ j|_=> .slice none 0 0)
 |none=>φ id
theorem bG.see (gone:Nat->Prop)(G:List Gr)(c:Nat){b:Nat}{e:Nat->V}{so:Nat->ab}{m:Nat}(l:List V){o':Nat->ab}{nx':Nat}(tj:nx'=c+G.length)(hb:b<=c)
 (ho:∀id,id<c->D9 c G so gone (so id) (o' id)) (hG:∀i g,G[i]? =some g->o' (c+i)= .arr 0 g.ty g.sz g.es/\g.ok so gone) (hh:∀id,nx'<=id->o' id= .no) (uX:∀id,gone id->id<c->o' id= .no)
 (ND:∀ (i j:Nat) (gi gj:Gr) (id ep fU:Nat),G[i]? =some gi->G[j]? =some gj->gi.x= .osl id ep->gj.x= .osl id fU->i=j) (he:jq c G so gone e l 0):bG b ⟨e,so,m⟩ ⟨ba l,o',nx'⟩:=by
 subst tj
 intro M φ w tm hH hd
 let aA:Place:=GP φ c G
 let H':Hp:=hp o' (c+G.length)
 let H:Hp:=⟨so,fun id=>id<m⟩
 have Ea:∀id,id<c->aA id=φ id:=fun id au=>if_pos au
 have GQ:∀i g,G[i]? =some g->aA (c+i)=(match g.x with| .osl j _=>φ j|_=> .slice none 0 0):=fun i g hg=>by
  show GP φ c G (c+i)=_
  unfold GP
  rw[if_neg (by omega),show c+i - c=i by omega,hg]
 have hold:∀id k,(o' id).live=true->dR (aA id)=some k->∃j,(so j).live=true/\dR (φ j)=some k/\((id<c/\j=id)\/∃i g ep,id=c+i/\G[i]? =some g/\gone j/\g.x= .osl j ep):=by
  intro id k h1 h2
  by_cases bR:id<c
  ·rw[Ea id bR]at h2
   rcases ho id bR with h3|⟨h3,_⟩|⟨cs,cs',h3,h4,_⟩
   ·rw[h3]at h1;cases h1
   ·exact⟨id,by rw[h3];exact h1,h2, .inl ⟨bR,rfl⟩⟩
   ·exact⟨id,by rw[h3];rfl,h2, .inl ⟨bR,rfl⟩⟩
  ·by_cases xi:c+G.length<=id
   ·rw[hh id xi]at h1;cases h1
   ·obtain⟨i,rfl⟩:∃i,id=c+i:=⟨id - c,af⟩
    obtain⟨g,hg⟩:∃g,G[i]? =some g:=⟨G[i]'af,aK⟩
    rw[GQ i g hg]at h2
    obtain⟨_,aQ⟩:=hG i g hg
    rcases aQ with⟨h3,_,_⟩|⟨j,ep,hj,h3,np⟩
    ·rw[h3]at h2;cases h2
    ·rw[h3]at h2
     exact⟨j,by rw[np];rfl,h2, .inr ⟨i,g,ep,rfl,hg,hj,h3⟩⟩
 have cC:∀k,cn aA H' k->cn φ H k:=by
  rintro k ⟨id,h1,h2⟩
  obtain⟨j,g1,g2,_⟩:=hold id k h1 h2
  exact⟨j,g1,g2⟩
 have hB:∀k, ¬ai M φ H k-> ¬ai M aA H' k:=fun k h h'=>h (h'.imp id (cC k))
 have FE:∀id,id<c->lu (H'.o id) (H.o id)/\aA id=φ id/\H'.us id:=fun id au=>by
  refine⟨?_,Ea id au,(by show id<c+G.length;omega)⟩
  show lu (o' id) (so id)
  rcases ho id au with h3|⟨h3,_⟩|⟨cs,cs',h3,h4,_⟩
  ·rw[h3];exact⟨fun h=>(by cases h),fun e h=>(by cases h)⟩
  ·exact lu.rfl' h3.symm
  ·rw[h3,h4];exact lu.row _ _
 have eP:∀ (v:V) (val:Value),(∀r∈v.refs,r<c)->V.den (ai M φ H) φ H w v val->V.den (ai M aA H') aA H' w v val:=fun v val hr h=>
  V.lx (H:=H) (H':=H') hB v val (fun id au=>FE id (hr id au)) h
 have nu:∀ (v:List V) (val:List Value),(∀r∈V.aP v,r<c)->V.az (ai M φ H) φ H w v val->V.az (ai M aA H') aA H' w v val:=fun v val hr h=>
  V.fN (H:=H) (H':=H') hB v val (fun id au=>FE id (hr id au)) h
 have aap:∀ (v:V) (y:D) (val:Value),dv so v=some y->(∀id∈v.ids,gone id/\∀g∈G,∀ep,g.x≠ .osl id ep)->V.den (ai M φ H) φ H w v val->D.den (ai M aA H') w y val:=fun v y val h1 h2 h3=>by
  obtain⟨f1,f2,f3,f4,f5⟩:=cG (H:=H) hH v.ids (fun id au=>cD v val h3 id au)
  have XR:∀k,cn φ (H.put (bP H.o v.ids)) k->cn φ H k:=by
   rintro k ⟨id,g1,g2⟩
   by_cases au:id∈v.ids
   ·rw[f3 id au]at g1
    refine⟨id, ?_,g2⟩
    revert g1
    cases H.o id<;>simp[ab.fz,ab.live]
   ·rw[f4 id au]at g1;exact⟨id,g1,g2⟩
  have h4:V.den (ai M φ (H.put (bP H.o v.ids))) φ (H.put (bP H.o v.ids)) w v val:=
   V.lx (H:=H) (fun k h h'=>h (h'.imp id (XR k))) v val (fun id au=>by
     have ee:H.us id:=(V.lU v val h3) id au
     refine⟨?_,rfl,(f5 id).2 ee⟩
     by_cases hm:id∈v.ids
     ·rw[f3 id hm];exact lu.fz _
     ·rw[f4 id hm];exact lu.rfl' rfl) h3
  have h5:=ey f1 (o:=so) v y val (fun id au=>f3 id au) h1 h4
  refine D.aL (w:=w) (w':=w) (fun k _ hn=>⟨rfl,fun hk=>hn (hk.imp id ?_)⟩) y val h5
  rintro⟨id,g1,g2⟩
  obtain⟨j,k1,k2,k3⟩:=hold id k g1 g2
  refine⟨j, ?_,k2⟩
  have:j∉v.ids:=fun hm=>by
   obtain⟨k4,k5⟩:=h2 j hm
   rcases k3 with⟨k6,k7⟩|⟨i,g,ep,k6,k8,k9,Yh⟩
   ·subst k7
    have:=uX _ k4 k6
    have g1:(o' j).live=true:=g1
    rw[this]at g1
    cases g1
   ·exact k5 g (List.mem_of_getElem? k8) ep Yh
  rw[f4 j this];exact k1
 have WA:∀i g val,G[i]? =some g->V.den (ai M φ H) φ H w g.x val->V.den (ai M aA H') aA H' w (.osl (c+i) 0) val:=by
  intro i g val hg this
  obtain⟨ED,aQ⟩:=hG i g hg
  have bR:c+i<c+G.length:=by have:=(List.getElem?_eq_some_iff.1 hg).1;omega
  rcases aQ with⟨h3,_,_⟩|⟨j,ep,hj,h3,np⟩
  ·rw[h3]at this
   simp only[V.den]at this
   rw[this]
   refine⟨rfl,bR,fun e' ni=> ?_⟩
   have ni:(o' (c+i)).bQ=some e':=ni
   rw[ED]at ni
   simp only[ab.bQ,Option.some.injEq]at ni
   subst ni
   exact⟨Nat.le_refl _,fun _=>by rw[GQ i g hg,h3]⟩
  ·rw[h3]at this
   obtain⟨g1,g2,g3⟩:=this
   refine⟨g1,bR,fun e' ni=> ?_⟩
   have ni:(o' (c+i)).bQ=some e':=ni
   rw[ED]at ni
   simp only[ab.bQ,Option.some.injEq]at ni
   subst ni
   have ry:(H.o j).bQ=some ep:=by show(so j).bQ=_;rw[np];rfl
   exact⟨Nat.le_refl _,fun _=>by rw[GQ i g hg,h3];exact(g3 ep ry).2 rfl⟩
 have Mw:∀v v' val,GO c G so gone v v'->V.den (ai M φ H) φ H w v val->V.den (ai M aA H') aA H' w v' val:=by
  intro v v' val h h1
  rcases h with rfl|⟨rfl,h2⟩|⟨i,g,hg,rfl,rfl⟩|⟨y,rfl,h2,h3⟩
  ·trivial
  ·exact eP _ _ h2 h1
  ·exact WA i g _ hg h1
  ·exact aap v y val h2 h3 h1
 refine⟨aA,⟨fun id=> ?_,fun id hu=>hh id (by have: ¬id<c+G.length:=hu;omega),fun i j k h1 h2 h3 h4=> ?_,fun k hk=>hH.ours k (cC k hk),hH.xg⟩,fun i=> ?_,cC,by show b<=c+G.length;omega,fun id au hr=> ?_,fun id e' au ni=> ?_⟩
 ·have aT:aJ M φ H w id:=hH.ok id
  show aJ M aA H' w id
  unfold aJ at aT|-
  by_cases bR:id<c
  ·rcases ho id bR with h3|⟨h3,hrefs⟩|⟨cs,cs',h3,h4,cy⟩
   ·have e2:H'.o id= .no:=h3
    rw[e2];trivial
   ·have e1:H.o id=o' id:=h3
    have e2:H'.o id=o' id:=rfl
    rw[e1]at aT
    rw[e2,Ea id bR]
    cases EP:o' id with
    |no=>trivial
    |row cs=>
     simp only[EP]at aT hrefs|-
     exact Td
    |arr ep ty sz es=>
     simp only[EP]at aT|-
     obtain⟨k1,xs,k2,evs,k3,k4,k5⟩:=aT
     exact Sr
    |qN ep es=>
     simp only[EP]at aT|-
     exact D.aL (fun b _ hn=>⟨rfl,hB b hn⟩) _ _ aT
    |map kt vt es=>
     simp only[EP]at aT|-
     obtain⟨b,es',clock,k1,k2,k4,k3⟩:=aT
     exact Sn
    |cM l=>
     simp only[EP]at aT|-
     exact jf.mono (fun b _ hn=>⟨rfl,hB b hn⟩) aT
    |oX l last=>
     simp only[EP]at aT|-
     obtain⟨b,k1,k2⟩:=aT
     exact Ks
    |vy s pos=>
     simp only[EP]at aT|-
     exact aT
    |loop nf n env ps a b st pd=>
     simp only[EP]at aT hrefs|-
     exact KG
   ·have e1:H.o id= .row cs:=h3
    have e2:H'.o id= .row cs':=h4
    rw[e1]at aT
    rw[e2,Ea id bR]
    obtain⟨b,df,ty,k1,k2,k3,k4⟩:=aT
    exact⟨b,df,ty,k1,k2,oj Mw _ _ _ cy k3,k4⟩
  ·by_cases xi:c+G.length<=id
   ·have e2:H'.o id= .no:=hh id xi
    rw[e2];trivial
   ·obtain⟨i,rfl⟩:∃i,id=c+i:=⟨id - c,af⟩
    obtain⟨g,hg⟩:∃g,G[i]? =some g:=⟨G[i]'af,aK⟩
    obtain⟨ED,aQ⟩:=hG i g hg
    have e2:H'.o (c+i)= .arr 0 g.ty g.sz g.es:=ED
    rw[e2]
    rcases aQ with⟨h3,h4,du⟩|⟨j,ep,hj,h3,np⟩
    ·rw[h4]
     refine⟨du,[], ?_,[],aK,aK,rfl⟩
     rw[GQ i g hg,h3]
     exact World.ownsRow_nil _ _ _ _
    ·have this:aJ M φ H w j:=hH.ok j
     unfold aJ at this
     have e3:H.o j= .arr ep g.ty g.sz g.es:=np
     simp only[e3]at this
     obtain⟨k1,xs,k2,evs,k3,k4,k5⟩:=this
     exact⟨k1,xs,by rw[GQ i g hg,h3];exact k2,evs,k3,k4,D.aO (fun b _ hn=>⟨rfl,hB b hn⟩) _ _ k5⟩
 ·obtain⟨i',a1,a2,a3⟩:=hold i k h1 h3
  obtain⟨j',b1,b2,b3⟩:=hold j k h2 h4
  have:=hH.apart i' j' k a1 b1 a2 b2
  subst this
  have kA:∀Aa,(o' Aa).live=true->Aa<c->gone Aa->False:=fun Aa g1 g2 g3=>by
   rw[uX _ g3 g2]at g1
   cases g1
  rcases a3 with⟨a3,a4⟩|⟨ia,ga,ea,a3,a4,a5,a6⟩<;>rcases b3 with⟨b3,b4⟩|⟨ib,gb,eb,b3,b4,b5,b6⟩
  ·omega
  ·exact(kA i h1 a3 (a4 ▸ b5)).elim
  ·exact(kA j h2 b3 (b4 ▸ a5)).elim
  ·have:=ND ia ib ga gb _ _ _ a4 b4 a6 b6
   omega
 ·have hi:=CK l 0 he i
  rw[Nat.zero_add]at hi
  exact Mw _ _ _ hi (hd i)
 ·have bR:id<c:=af
  have hr:(o' id).bM=true:=hr
  exact⟨(FE id bR).1.1 hr,Ea id bR⟩
 ·have bR:id<c:=af
  have ni:(o' id).bQ=some e':=ni
  exact⟨e',(FE id bR).1.2 e' ni,Nat.le_refl _,fun _=>Ea id bR⟩
theorem bG.WB (gone:Nat->Prop)(c:Nat){b:Nat}{e:Nat->V}{so:Nat->ab}{m:Nat}(l:List V){o':Nat->ab}(hb:b<=c)
 (ho:∀id,id<c->D9 c [] so gone (so id) (o' id)) (hh:∀id,c<=id->o' id= .no) (uX:∀id,gone id->id<c->o' id= .no) (he:jq c [] so gone e l 0):bG b ⟨e,so,m⟩ ⟨ba l,o',c⟩:=
 bG.see gone [] c l rfl hb ho (fun i g h=>by cases h) hh uX (fun i j gi gj id ep fU h=>by cases h) he
theorem bG.GR (gone:Nat->Prop)(x:V)(c:Nat){ty:TypeId}{sz:Nat}{es:List D}{b:Nat}{e:Nat->V}{so:Nat->ab}{m:Nat}(l:List V){o':Nat->ab}(hb:b<=c)
 (ho:∀id,id<c->D9 c [⟨x,ty,sz,es⟩] so gone (so id) (o' id)) (hc:o' c= .arr 0 ty sz es) (hx:j7 so gone ty sz es x) (hh:∀id,c+1<=id->o' id= .no) (uX:∀id,gone id->id<c->o' id= .no)
 (he:jq c [⟨x,ty,sz,es⟩] so gone e l 0):bG b ⟨e,so,m⟩ ⟨ba l,o',c+1⟩:=
 bG.see gone [⟨x,ty,sz,es⟩] c l rfl hb ho (fun i g h=>by
  match i,h with
  |0,h=>simp at h;subst h;exact⟨hc,hx⟩) hh uX (fun i j gi gj id ep fU h h' _ _=>by
  match i,j,h,h' with
  |0,0,_,_=>rfl) he
theorem lt1{P:Nat->Prop}(h:P 0):∀id,id<1->P id:=fun id au=>by
 have e:id=0:=af
 rw[e];exact h
theorem lt0{P:Nat->Prop}:∀id,id<0->P id:=fun id au=>af
@[go_sem] theorem aaO (b:Bool):(b==false)= !b:=xz
@[go_sem] theorem aaP (b:Bool):(b==true)=b:=xz
@[go_sem] theorem WC (c:Bool) (v:V):V.wq c (V.wq c v)=V.wq c v:=by cases c<;>rfl
@[go_sem] theorem WD (c:Bool):(c&&c)=c:=by cases c<;>rfl
@[go_sem] theorem Rw {α:Type} (f:α->D) (l:List α) (n:Nat) (h:∀x,(f x).cells.length=n):((l.map f).all fun z=>z.cells.length==n)=true:=by
  simp[List.all_eq_true,h]
attribute [go_sem] implies_true
attribute [go_sem] Option.isSome_none Option.getD_some Option.getD_none
theorem structOf{P:Program}{t:TypeId}(h:(match P.underlying t with|some (.struct _)=>true|_=>false)=true):∃fs,P.underlying t=some (.struct fs):=by
 split at h
 ·exact⟨_,by assumption⟩
 ·cases h
theorem bp{pr:List (List Nat)}{fp:List (List Nat×List Nat)}(h:fp.all (fun x=>x.2.isEmpty)=true):dK pr fp=true:=by
 have e:∀i,(fp.getD i ([],[])).2=[]:=fun i=>by
  rw[List.getD_eq_getElem?_getD]
  cases hi:fp[i]? with
  |none=>rfl
  |some x=>simpa using List.all_eq_true.1 h x (List.mem_of_getElem? hi)
 simp only[dK,List.all_eq_true,e,je,List.all_nil,Bool.and_self,Bool.or_true,implies_true]
structure ec (base:Nat) (h o:Nat->ab) (nx:Nat):Prop where
 cc:Good o nx
 le:base<=nx
 eq:∀id,id<base->o id=h id
def WE(base:Nat)(h:Nat->ab)(v:V)(o:Nat->ab)(nx:Nat)(K:V->(Nat->ab)->Nat->Prop):Prop:=
 ∀o' nx',nx<=nx'->ec base h o' nx'->(∀id,base<=id->id<nx->o' id=o id)->K v o' nx'
def sD(P:Program)(g:FuncId)(args:List V)(base:Nat)(h h2:Nat->ab)(v:V):Prop:=
 ∀o nx,ec base h o nx->∀K X,WE base h2 v o nx K->dA P g args o nx K X
theorem ec.aI {base:Nat}{h o:Nat->ab}{nx m i:Nat}{x:ab}(hI:ec base h o nx)(hb:base<=i)(hi:i<m)(hm:nx<=m)(hx:x.refs.all (fun r=>decide (r<m))=true):ec base h (YtlhemmpklhhgoaaGreat.aI o i x) m:=
 ⟨(hI.cc.mono hm).aI hi hx,Nat.le_trans hI.le hm,fun id au=>by rw[ah _ _ _ _ (by omega)];exact hI.eq id au⟩
theorem ec.mono {base:Nat}{h o:Nat->ab}{nx m:Nat}(hI:ec base h o nx)(hm:nx<=m):ec base h o m:=⟨hI.cc.mono hm,Nat.le_trans hI.le hm,hI.eq⟩
def ext(base:Nat)(h o:Nat->ab):Nat->ab:=fun id=>if id<base then h id else o id
theorem ec.ext {base c:Nat}{h o:Nat->ab}{nx:Nat}(hI:ec base h o nx)(hc:c<=nx)(hb:base<=c):ec c (YtlhemmpklhhgoaaGreat.ext base h o) o nx:=
 ⟨hI.cc,hc,fun id _=>by unfold YtlhemmpklhhgoaaGreat.ext;split<;>first|exact hI.eq id (by assumption)|rfl⟩
theorem sD.ext {P:Program}{g:FuncId}{args:List V}{base c:Nat}{h h2:Nat->ab}{v:V}(hS:sD P g args base h h2 v)(hb:base<=c)(o0:Nat->ab):sD P g args c (YtlhemmpklhhgoaaGreat.ext base h o0) (YtlhemmpklhhgoaaGreat.ext base h2 o0) v:=by
 intro o nx hI K X hK
 refine hS o nx ⟨hI.cc,Nat.le_trans hb hI.le,fun id au=>by rw[hI.eq id (by omega)];unfold YtlhemmpklhhgoaaGreat.ext;rw[if_pos au]⟩ K X fun o' nx' h1 h2 h3=>hK o' nx' h1 ⟨h2.cc,Nat.le_trans hI.le h1,fun id au=> ?_⟩ (fun id h4 h5=>h3 id af h5)
 unfold YtlhemmpklhhgoaaGreat.ext
 split
 ·exact h2.eq id (by assumption)
 ·rename_i hn
  rw[h3 id (by omega) (by have:=hI.le;omega),hI.eq id au]
  unfold YtlhemmpklhhgoaaGreat.ext;rw[if_neg hn]
theorem WE.ext {base c:Nat}{h o:Nat->ab}{v:V}{o1:Nat->ab}{nx xn:Nat}{K:V->(Nat->ab)->Nat->Prop}(hK:WE base h v o nx K)(hb:base<=c)(hn:nx<=xn)(hc:nx<=c)(ho:∀id,base<=id->id<nx->o1 id=o id):WE c (YtlhemmpklhhgoaaGreat.ext base h o1) v o1 xn K:=by
 intro o' nx' h1 h2 h3
 refine hK o' nx' af ⟨h2.cc,Nat.le_trans hb h2.le,fun id au=> ?_⟩ fun id h4 h5=> ?_
 ·rw[h2.eq id (by omega)];unfold YtlhemmpklhhgoaaGreat.ext;rw[if_pos au]
 ·rw[h2.eq id (by omega), <- ho id h4 h5];unfold YtlhemmpklhhgoaaGreat.ext;rw[if_neg (by omega)]
def aD{α σ:Type}(step:σ->α->σ×Bool)(s:σ):List α->σ×Bool
 |[]=>(s,true)
 |x::l=>if(step s x).2=true then aD step (step s x).1 l else((step s x).1,false)
theorem ql{P:Program}{id:Nat}{args:List V}{e:Nat->V}{o:Nat->ab}{nx:Nat}{K X:V->(Nat->ab)->Nat->Prop}(h:c6 P id args o nx K X):uN P id K X ⟨e,o,nx⟩ args:=by unfold uN;exact h
theorem qY{α:Type}(f:Nat->α)(i:Nat)(x y:α):aI (aI f i x) i y=aI f i y:=by
 funext j;simp only[aI];split<;>rfl
attribute [go_sem] Int.cast_ofNat_Int
section
variable {P:Program}{n:Nat}{ps:List Nat}{x y:IC}{env:List V}{L:LoopState->Option iH->ab}
def gC(P:Program)(n:Nat)(env:List V)(ps:List Nat)(x y:IC)(L:LoopState->Option iH->ab):Prop:=∀st pd,L st pd= .loop P.funcs.size n env ps x y st pd
theorem GS{bq:Nat}{gq:Operand}{Q:eT->S->Prop}{e:Nat->V}{o:Nat->ab}{nx:Nat}{f:FuncId}{cap:List V}(env:List V)(he:ly e env 0)
 (h:∀L,gC P n env ps x y L->dA P f (.js nx::cap) (aI o nx (L .ready none)) (nx+1)
  (fun _ o' nx'=>∃st pd,o' nx=L st pd/\st≠ .busy/\pq Q pd ⟨e,aI o' nx (L .exhausted pd),nx'⟩) (fun v o' nx'=>Q (.bu v) ⟨e,o',nx'⟩)):
 yG P n bq false gq ps x y Q ⟨e,o,nx⟩ (.func (.func f) [] cap):=by
 refine D8 env he ?_
 have:=h (fun st pd=> .loop P.funcs.size n env ps x y st pd) (fun _ _=>rfl)
 refine this.mono (fun v o' nx' hh=> ?_) (fun v o' nx' hh=>hh)
 obtain⟨st,pd,h1,h2,h3⟩:=hh
 exact⟨_,_,_,_,_,_,_,_,h1,h2,h3⟩
theorem yZ(hL:gC P n env ps x y L)(aY:P.follows .mixedOrders=true){id:Nat}{args:List V}{o:Nat->ab}{nx:Nat}{K X:V->(Nat->ab)->Nat->Prop}{st:LoopState}{pd:Option iH}
 (ho:o id=L st pd) (bR:id<nx) (Gi:ps.all (fun t=>decide (t<n))=true) (hl:args.length=ps.length)
 (h:kq P n nx true x (pE P n nx id y K X) ⟨n9 (ba env) ps args,o,nx⟩):c6 P id args o nx K X:=
 c6.aM aY (ho.trans (hL st pd)) bR Gi hl h
theorem om(hL:gC P n env ps x y L){b id:Nat}{eS:IC}{K X:V->(Nat->ab)->Nat->Prop}{e:Nat->V}{o:Nat->ab}{nx:Nat}{pd:Option iH}(h:o id=L .ready pd)
 (h2:kq P n b true eS (jo id K X) ⟨e,aI o id (L .busy pd),nx⟩):pE P n b id eS K X .normal ⟨e,o,nx⟩:=by
 refine wI (h.trans (hL _ _)) ?_
 rw[<- hL];exact h2
theorem uY(hL:gC P n env ps x y L){id:Nat}{K X:V->(Nat->ab)->Nat->Prop}{e:Nat->V}{o:Nat->ab}{nx:Nat}{st:LoopState}{pd:Option iH}(h:o id=L st pd)(k:K (.d (.bool true)) (aI o id (L .ready none)) nx):jo id K X .normal ⟨e,o,nx⟩:=
 ⟨_,_,_,_,_,_,_,_,h.trans (hL _ _),by rw[<- hL];exact k⟩
theorem sE(hL:gC P n env ps x y L){id:Nat}{K X:V->(Nat->ab)->Nat->Prop}{e:Nat->V}{o:Nat->ab}{nx:Nat}{st:LoopState}{pd:Option iH}(h:o id=L st pd)(k:K (.d (.bool false)) (aI o id (L .done (some .ret))) nx):jo id K X .ret ⟨e,o,nx⟩:=
 ⟨_,_,_,_,_,_,_,_,h.trans (hL _ _),by rw[<- hL];exact k⟩
theorem qm(hL:gC P n env ps x y L){id j:Nat}{K X:V->(Nat->ab)->Nat->Prop}{e:Nat->V}{o:Nat->ab}{nx:Nat}{st:LoopState}{pd:Option iH}(h:o id=L st pd)(k:K (.d (.bool false)) (aI o id (L .done (some (.exit j)))) nx):jo id K X (.exit j) ⟨e,o,nx⟩:=
 ⟨_,_,_,_,_,_,_,_,h.trans (hL _ _),by rw[<- hL];exact k⟩
theorem gC.no (hL:gC P n env ps x y L)(st:LoopState)(pd:Option iH):L st pd≠ .no:=by rw[hL];exact ab.noConfusion
theorem gC.refs (hL:gC P n env ps x y L)(st:LoopState)(pd:Option iH):(L st pd).refs=V.aP env:=by rw[hL];rfl
end
end
attribute [go_sem_proc] Int.reduceBEq Int.reduceBNe Int.reduceLT Int.reduceLE Int.reduceEq Int.reduceNe Nat.reducePow Nat.reduceEqDiff Nat.reduceAdd Nat.reduceSub Nat.reduceMul Nat.reduceLeDiff Nat.reduceBEq Nat.reduceLT reduceIte reduceCtorEq Int.reduceToNat
attribute [go_sem] List.range_zero Option.isSome_some and_self List.cons.injEq
theorem Dh(n low high:Int):aX Tryz.prog 114 [.i n, .i low, .i high] (.ret [.bool (da n low high)]):=by
 refine aX.aM mix Vm aK ?_
 rw[Vl]
 refine b8 ?_
 rfl
theorem GU{t:Tm}{left depth:Int}(h:left<1\/depth<1):gk t left depth= -1:=by cases t;simp[gk,h]
theorem mY{l:List Tm}{left depth:Int}(h:left<0):bT l left depth=left:=by
 cases l with
 |nil=>rfl
 |cons k l=>simp[bT,show ¬ (0<=left) by omega]
theorem GV:∀t:Tm,∀left depth:Int, -1<=gk t left depth/\(1<=left->gk t left depth<=left - 1)/\(left<1->gk t left depth= -1):=by
 refine Tm.ind fun op n kids ih left depth=> ?_
 have hs:∀ (l:List Tm) (left d:Int),(∀k∈l,k∈kids)-> -1<=left-> -1<=bT l left d/\bT l left d<=left:=by
  intro l
  induction l with
  |nil=>intro left d _ h;simp[bT,h]
  |cons k l PI=>
   intro left d hk h
   simp only[bT]
   split
   ·rename_i h0
    have h1:=ih k (hk k aK) left d
    have h2:=PI (gk k left d) d (fun x hx=>hk x pR) h1.1
    by_cases hl:1<=left
    ·have:=h1.2.1 hl;omega
    ·have:=h1.2.2 af;omega
   ·omega
 simp only[gk]
 split
 ·rename_i h;refine⟨af,fun h1=> ?_,fun _=>rfl⟩;omega
 ·rename_i h
  have:=hs kids (left - 1) (depth - 1) (fun _ h=>h) af
  exact⟨this.1,fun _=>this.2,fun h=>af⟩
theorem Eb(l:List Tm)(left d:Int)(h: -1<=left): -1<=bT l left d/\bT l left d<=left:=by
 induction l generalizing left with
 |nil=>simp[bT,h]
 |cons k l PI=>
  simp only[bT]
  split
  ·have h1:=GV k left d
   have h2:=PI (gk k left d) h1.1
   by_cases hl:1<=left
   ·have:=h1.2.1 hl;omega
   ·have:=h1.2.2 af;omega
  ·omega
theorem mF(a b:List Tm)(left d:Int):bT (a++b) left d=bT b (bT a left d) d:=by
 induction a generalizing left with
 |nil=>rfl
 |cons k a ih=>
  simp only[List.cons_append,bT]
  split
  ·exact ih _
  ·rename_i h;rw[mY (by omega)]
theorem y0{l:List Tm}{i:Nat}{k:Tm}(hi:l[i]? =some k)(left d:Int)(h:0<=bT (l.take i) left d):bT (l.take (i+1)) left d=gk k (bT (l.take i) left d) d:=by
 rw[List.take_add_one,hi,mF]
 simp[bT,h]
theorem y9{l:List Tm}{i:Nat}(left d:Int)(h:bT (l.take i) left d<0):bT l left d=bT (l.take i) left d:=by
 conv=>lhs;rw[<- List.take_append_drop i l]
 rw[mF,mY h]
@[reducible] def mZ (cs:List V):Nat->ab:=aI (fun _=> .no) 0 (.row cs)
@[reducible] def A8 (cs ds:List V):Nat->ab:=aI (aI (fun _=> .no) 0 (.row cs)) 1 (.row ds)
theorem cf{cs:List V}(h:(ab.row cs).refs.all (fun r=>decide (r<1))=true):Good (mZ cs) 1:=(Good.nil (nx:=1)).aI af h
theorem iX{cs ds:List V}(h:(ab.row cs).refs.all (fun r=>decide (r<2))=true)(h2:(ab.row ds).refs.all (fun r=>decide (r<2))=true):Good (A8 cs ds) 2:=((Good.nil (nx:=2)).aI af h).aI af h2
theorem bG.d1 {e:Nat->V}{so o:Nat->ab}{m:Nat}(l:List V)(hg:Good o 1)(hm:1<=m)(h0:so 0=o 0)(he:jG 1 e l 0):bG 0 ⟨e,so,m⟩ ⟨ba l,o,1⟩:=
 bG.bU l (Nat.zero_le _) hm hg (fun id h=>by obtain rfl:id=0:=af
                                             exact h0) he
theorem bG.d2 {e:Nat->V}{so o:Nat->ab}{m:Nat}(l:List V)(hg:Good o 2)(hm:2<=m)(h0:so 0=o 0)(h1:so 1=o 1)(he:jG 2 e l 0):bG 0 ⟨e,so,m⟩ ⟨ba l,o,2⟩:=
 bG.bU l (Nat.zero_le _) hm hg (fun id h=>by
  rcases(by omega:id=0\/id=1)with rfl|rfl
  ·exact h0
  ·exact h1) he
@[reducible] def Tm.row (t:Tm):List V:=[.d (.i t.op), .d (.i t.n), .d (.sl (t.kids.map Tm.d))]
theorem zc(t:Tm)(left depth:Int):gk t left depth=if left<1\/depth<1 then -1 else bT t.kids (left - 1) (depth - 1):=by cases t;simp[gk,Tm.kids]
theorem CL:∀t:Tm,t.fits->∀left depth:Int, -1<=left/\left<=1000000-> -1<=depth/\depth<=1000000->aX Tryz.prog 87 [t.d, .i left, .i depth] (.ret [.i (gk t left depth)]):=by
 refine Tm.fk fun t ih hf left depth hl hd=> ?_
 have tI:=(Tm.bD _).1 hf
 refine aX.aM mix aak aK ?_
 rw[c87]
 refine b8 ?_
 refine ak (fun h1=> ?_) (fun h1=> ?_)
 ·refine b8 ?_
  simp at h1
  rw[GU h1]
 ·simp at h1
  refine b8 ?_
  rw[wrap64 (n:=left - 1) (by omega) (by omega),zc,if_neg (by omega)]
  refine aH (fun k:Nat=>⟨ba [.aa, .d (.i (bT (t.kids.take k) (left - 1) (depth - 1))), .d (.i depth), .ptr 0 0, .aa, .aa, .aa, .d (.i k)],mZ t.row,1⟩)
   (fun k=>k<=t.kids.length) (fun k=>t.kids.length - k) 0 (Nat.zero_le _) (bG.d1 _ (cf rfl) af rfl ?_) (fun k hk=> ?_)
  ·exact dQ
  have hb:=Eb (t.kids.take k) (left - 1) (depth - 1) af
  refine b8 ?_
  refine ak (fun h2=> ?_) (fun h2=> ?_)
  ·simp at h2
   obtain⟨x,hx⟩:∃x,t.kids[k]? =some x:=⟨t.kids[k],by simp[h2.1]⟩
   have gI:=List.mem_of_getElem? hx
   refine jb hx ?_
   rw[wrap64 (n:=depth - 1) (by omega) (by omega)]
   refine ao (ih x gI (tI.2 x gI) _ _ af af) rfl ?_
   refine b8 ?_
   rw[<- y0 hx _ _ h2.2]
   refine aw (k+1) h2.1 af (bG.d1 _ (cf rfl) af rfl ?_)
   exact dQ
  ·refine b8 ?_
   simp only[Bool.and_eq_false_iff,decide_eq_false_iff_not]at h2
   congr 3
   rcases h2 with h2|h2
   ·rw[List.take_of_length_le (by omega)]
   ·exact y9 _ _ af
theorem PJ(s:List UInt8)(hs:s.length<=9223372036854775807):aX Tryz.prog 139 [.str s] (.ret [.bool (iy s)]):=by
 refine aX.aM mix VJ aK ?_
 rw[VI]
 refine b8 ?_
 refine aH (fun k:Nat=>⟨ba [.d (.str s), .aa, .aa, .d (.i k)],fun _=> .no,0⟩)
  (fun k=>k<=s.length/\(s.take k).all letterF=true) (fun k=>s.length - k) 0 ⟨Nat.zero_le _,aK⟩ (bG.d0 _ ?_) (fun k hk=> ?_)
 ·exact dQ
 refine b8 ?_
 refine ak (fun h2=> ?_) (fun h2=> ?_)
 ·simp at h2
  obtain⟨x,hx⟩:∃x,s[k]? =some x:=⟨s[k],by simp[h2]⟩
  refine jb hx ?_
  refine ak (fun h3=> ?_) (fun h3=> ?_)
  ·refine b8 ?_
   have:iy s=false:=by
    have:s.all letterF=false:=by
     rw[List.all_eq_false]
     refine⟨x,List.mem_of_getElem? hx, ?_⟩
     simp only[letterF,h3];simp
    simp[iy,this]
   rw[this]
  ·refine b8 ?_
   refine aw (k+1) ⟨h2, ?_⟩ af (bG.d0 _ ?_)
   ·rw[List.take_add_one,hx,List.all_append,hk.2]
    simp[letterF,h3]
   ·exact dQ
 ·refine b8 ?_
  refine ao (Dh _ _ _) rfl ?_
  refine b8 ?_
  simp at h2
  have:=hk.2
  rw[List.take_of_length_le (by omega)]at this
  simp[iy,this]
theorem CM(l:List dZ)(bs:List (List UInt8))(hl:l.length<=1000)(hb:bs.length<=1000)(hs:∀x∈l,x.name.length<=9223372036854775807):
 aX Tryz.prog 115 [.sl (l.map dZ.d), .sl (bs.map .str)] (.ret [.sl (((bS l bs).getD []).map .str), .bool (bS l bs).isSome]):=by
 refine aX.aM mix Vo aK ?_
 rw[Vn]
 refine b8 ?_
 refine aH (fun k:Nat=>⟨ba [.d (.sl (l.map dZ.d)), .d (.sl ((bs++(l.take k).map (·.name)).map .str)), .aa, .aa, .aa, .aa, .d (.i k)],fun _=> .no,0⟩)
  (fun k=>k<=l.length/\bS l bs=bS (l.drop k) (bs++(l.take k).map (·.name))) (fun k=>l.length - k) 0 ⟨Nat.zero_le _,aK⟩ (bG.d0 _ ?_) (fun k hk=> ?_)
 ·simp only[List.take_zero,List.map_nil,List.append_nil]
  exact dQ
 refine b8 ?_
 refine ak (fun h2=> ?_) (fun h2=> ?_)
 ·simp at h2
  obtain⟨x,hx⟩:∃x,l[k]? =some x:=⟨l[k],by simp[h2]⟩
  have gI:=List.mem_of_getElem? hx
  have yx:l.drop k=x::l.drop (k+1):=by
   rw[List.drop_eq_getElem_cons h2]
   rw[List.getElem?_eq_getElem h2]at hx;injection hx with hx;rw[hx]
  generalize hB:bs++(l.take k).map (·.name)=B at*
  have hBl:B.length<=2000:=by rw[<- hB];simp;omega
  refine b8 ?_
  refine aH (fun j:Nat=>⟨ba [.d (.sl (l.map dZ.d)), .d (.sl (B.map .str)), .aa, .aa, .aa, .aa, .d (.i k), .d (.i j)],fun _=> .no,0⟩)
   (fun j=>j<=B.length/\(B.take j).any (· ==x.name)=false) (fun j=>B.length - j) 0 ⟨Nat.zero_le _,aK⟩ (bG.d0 _ ?_) (fun j hj=> ?_)
  ·exact dQ
  refine b8 ?_
  refine ak (fun h3=> ?_) (fun h3=> ?_)
  ·simp at h3
   obtain⟨y,hy⟩:∃y,B[j]? =some y:=⟨B[j],by simp[h3]⟩
   simp+contextual only[go_sem,hx,hy]
   refine aR cA ?_
   refine b8 ?_
   refine ak (fun h4=> ?_) (fun h4=> ?_)
   ·refine b8 ?_
    have:bS l bs=none:=by
     rw[hk.2,yx,bS,if_pos]
     rw[List.any_eq_true]
     exact⟨y,List.mem_of_getElem? hy,h4⟩
    rw[this];rfl
   ·refine b8 ?_
    refine aw (j+1) ⟨h3, ?_⟩ af (bG.d0 _ ?_)
    ·rw[List.take_add_one,hy,List.any_append,hj.2]
     simp only[Option.toList_some,List.any_cons,h4,List.any_nil,Bool.or_false]
    ·exact dQ
  ·simp at h3
   have PK:=hj.2
   rw[List.take_of_length_le (by omega)]at PK
   refine jb hx ?_
   refine ao (PJ x.name (hs x gI)) rfl ?_
   refine jb hx ?_
   refine fH (eO [.bool (da x.args 0 4)] ?_ ?_)
   ·refine b8 ?_
    exact BQ
   refine b8 ?_
   refine ak (fun h4=> ?_) (fun h4=> ?_)
   ·refine b8 ?_
    have:bS l bs=none:=by
     rw[hk.2,yx,bS,if_neg (by rw[PK];exact Bool.false_ne_true),if_pos h4]
    rw[this];rfl
   ·have e1:B.length<=140737488355328:=af
    have e2:B.length*16<=140737488355328:=af
    have e3:B.length<=140737488355327:=af
    have e4:(B.length+1)*16<=140737488355328:=af
    simp+contextual only[go_sem,hx,e1,e2,e3,e4]
    refine aR cA ?_
    refine b8 ?_
    have hn:bS l bs=bS (l.drop (k+1)) (bs++(l.take (k+1)).map (·.name)):=by
     rw[hk.2,yx,bS,if_neg (by rw[PK];exact Bool.false_ne_true),if_neg (by rw[h4];exact Bool.false_ne_true), <- hB,List.take_add_one,hx]
     simp
    refine aw (k+1) ⟨h2,hn⟩ af (bG.WB (fun _=>True) 0 _ (Nat.le_refl _) lt0 (fun _ _=>rfl) (fun _ _ _=>rfl) ?_)
    have Xw:(bs++(l.take (k+1)).map (·.name)).map D.str=B.map D.str++[D.str x.name]:=by
     rw[<- hB,List.take_add_one,hx];simp
    rw[Xw]
    exact z7
 ·refine b8 ?_
  simp at h2
  have:bS l bs=some (bs++l.map (·.name)):=by
   rw[hk.2,List.drop_eq_nil_of_le (by omega),bS,List.take_of_length_le (by omega)]
  rw[this,List.take_of_length_le (by omega)]
  rfl
theorem PL(a b:List UInt8)(m n:Int):nk Tryz.prog 100 124 (.agg [.str a, .i m]) (.agg [.str b, .i n])=some (a==b&&m==n):=by
 have h1:bw Tryz.prog 124=some (.struct [(9,0),(3,1)]):=ag
 have h2:bw Tryz.prog 9=some .str:=ag
 have h3:bw Tryz.prog 3=some .int:=ag
 have h4:c7 Tryz.prog 9=some false:=ag
 have h5:c7 Tryz.prog 3=some false:=ag
 simp[nk,h1,h2,h3,h4,h5,ue,KO,gG,Dk]
@[go_sem] theorem aaq (o:Nat->ab) (l7:Bool) (a b:List UInt8) (m n:Int):th Tryz.prog o 124 l7 (.d (.agg [.str a, .i m])) (.d (.agg [.str b, .i n]))=some (.d (.bool (a==b&&m==n))):=by
  obtain⟨fs,h⟩:∃fs,Tryz.prog.underlying 124=some (.struct fs):=structOf ag
  have h2:Tryz.prog.eqGuardType Tryz.prog.depth 124=false:=ag
  unfold th
  rw[h]
  dsimp only
  rw[if_pos h2,PL]
  rfl
theorem Ec{l:List dZ}{bs B:List (List UInt8)}(h:bS l bs=some B):B=bs++l.map (·.name):=by
 induction l generalizing bs with
 |nil=>simp[bS]at h;simp[h]
 |cons x l ih=>
  simp only[bS]at h
  split at h
  ·cases h
  ·split at h
   ·cases h
   ·rw[ih h];simp
structure aN.Fits (s:aN):Prop where
 lc:s.cons.length<=9223372036854775807
 lf:s.bF.length<=9223372036854775807
 nc:∀x∈s.cons,x.name.length<=9223372036854775807
 nf:∀x∈s.bF,x.name.length<=9223372036854775807
theorem WG(s:aN)(hs:s.Fits):aX Tryz.prog 75 [s.d] (.ret [.bool (j5 s)]):=by
 refine aX.aM mix aae aK ?_
 rw[c75]
 refine b8 ?_
 refine ao (Dh _ _ _) rfl ?_
 refine b8 ?_
 cases h1:(!da s.cons.length 2 12||decide (8<(s.bF.length:Int)))with
 |true=>
  refine jb h1 ?_
  simp only[j5,h1,if_true]
 |false=>
  simp[da]at h1
  obtain⟨a,b,r,hc⟩:∃a b r,s.cons=a::b::r:=by
   match h:s.cons with
   |[]=>exact BR
   |[a]=>exact BR
   |a::b::r=>exact⟨a,b,r,rfl⟩
  have jR:(!da s.cons.length 2 12||decide (8<(s.bF.length:Int)))=false:=by simp[da];omega
  simp+contextual only[go_sem,jR,hc]
  have zd:j5 s=if(!kB a fB|| !kB b tB)=true then false else match bS s.cons []with
   |none=>false
   |some l=>(bS s.bF l).isSome:=by
   unfold j5
   rw[if_neg (by rw[jR];exact Bool.false_ne_true),hc]
   dsimp only
   rfl
  refine ak (fun h2=> ?_) (fun h2=> ?_)
  ·refine b8 ?_
   have qa:(!kB a fB|| !kB b tB)=true:=h2
   rw[zd,if_pos qa]
  ·simp+contextual only[go_sem,hc]
   have hl:(a::b::r).length<=1000:=by rw[<- hc];omega
   have xk:=CM (a::b::r) [] hl aK (by rw[<- hc];exact hs.nc)
   simp only[List.map_cons,List.map_nil]at xk
   refine bE xk ?_
   have qa:(!kB a fB|| !kB b tB)=false:=h2
   rw[zd,if_neg (by rw[qa];exact Bool.false_ne_true),hc]
   cases hn:bS (a::b::r) []with
   |none=>simp+contextual only[go_sem,hn]
   |some B=>
    refine jb hn ?_
    have hB:B.length<=1000:=by
     have:=Ec hn
     rw[this];simp at hl|-;omega
    have aar:=CM s.bF B af hB hs.nf
    refine bE aar ?_
    simp+contextual only[go_sem]
theorem Ad{l:List dZ}{n:Int}{x:dZ}(h:l[n.toNat]? =some x):fI l n=x.args:=by simp[fI,h]
theorem BS{l:List dZ}{n:Int}(h:da n 0 (l.length - 1)=true):0<=n/\∃x,l[n.toNat]? =some x:=by
 simp[da]at h
 exact⟨h.1,l[n.toNat]'af,aK⟩
theorem PM(s:aN)(t:Tm)(hs:s.Fits)(ht:t.kids.length<=9223372036854775807):aX Tryz.prog 127 [s.d,t.d] (.ret [.bool (a8 s t)]):=by
 refine aX.aM mix Vz aK ?_
 rw[Vy]
 refine b8 ?_
 rcases(by omega:t.op=1\/t.op=2\/t.op=3\/t.op=4\/t.op=5\/t.op=8\/(t.op=6\/t.op=7\/t.op=9\/t.op=10\/t.op=11\/t.op=12\/t.op=13\/t.op=14\/t.op=15)\/(t.op<1\/15<t.op))with h|h|h|h|h|h|h|h
 ·have hn:a8 s t=((t.kids.length:Int)==0&&da t.n 0 19):=by simp[a8,h]
  refine jb h ?_
  refine fH (eO [.bool (da t.n 0 19)] ?_ ?_)
  ·refine b8 ?_
   exact BQ
  refine jb h ?_
  rw[hn]
 ·have hn:a8 s t=((t.kids.length:Int)==0&&da t.n (-1000000) 1000000):=by simp[a8,h]
  refine jb h ?_
  refine fH (eO [.bool (da t.n (-1000000) 1000000)] ?_ ?_)
  ·refine b8 ?_
   exact BQ
  refine jb h ?_
  rw[hn]
 ·have hn:a8 s t=(da t.n 0 (s.cons.length - 1)&&(t.kids.length:Int)==fI s.cons t.n):=by simp[a8,h]
  refine jb h ?_
  rw[wrap64 (by have:=hs.lc;omega) (by have:=hs.lc;omega)]
  refine ao (Dh _ _ _) rfl ?_
  cases hI:da t.n 0 (s.cons.length - 1)with
  |false=>
   exact Nu
  |true=>
   exact Nf
 ·have hn:a8 s t=(da t.n 0 (s.bF.length - 1)&&(t.kids.length:Int)==fI s.bF t.n):=by simp[a8,h]
  refine jb h ?_
  rw[wrap64 (by have:=hs.lf;omega) (by have:=hs.lf;omega)]
  refine ao (Dh _ _ _) rfl ?_
  cases hI:da t.n 0 (s.bF.length - 1)with
  |false=>
   exact Nu
  |true=>
   exact Nf
 ·have hn:a8 s t=(da t.n 0 (s.bF.length - 1)&&decide ((t.kids.length:Int)<fI s.bF t.n)):=by simp[a8,h]
  refine jb h ?_
  rw[wrap64 (by have:=hs.lf;omega) (by have:=hs.lf;omega)]
  refine ao (Dh _ _ _) rfl ?_
  cases hI:da t.n 0 (s.bF.length - 1)with
  |false=>
   exact Nu
  |true=>
   exact Nf
 ·have hn:a8 s t=((t.kids.length:Int)==2&&da t.n 0 19):=by simp[a8,h]
  refine jb h ?_
  refine fH (eO [.bool (da t.n 0 19)] ?_ ?_)
  ·refine b8 ?_
   exact BQ
  refine jb h ?_
  rw[hn]
 ·have hn:a8 s t=((t.kids.length:Int)==2&&t.n==0):=by
   rcases h with h|h|h|h|h|h|h|h|h<;>simp[a8,h,da]
  rw[hn]
  rcases h with h|h|h|h|h|h|h|h|h<;>simp+contextual only[go_sem,h]
 ·have hn:a8 s t=false:=by
   simp[a8,da,show ¬ (t.op=1) by omega,show ¬ (t.op=2) by omega,show ¬ (t.op=3) by omega,show ¬ (t.op=4) by omega,show ¬ (t.op=5) by omega,show ¬ (t.op=8) by omega,show ¬ (6<=t.op/\t.op<=15) by omega]
  have e:∀k:Int,1<=k->k<=15->(t.op==k)=false:=fun k h1 h2=>by simp;omega
  simp+contextual only[go_sem,e 1 (by omega) (by omega),e 2 (by omega) (by omega),e 3 (by omega) (by omega),e 4 (by omega) (by omega),e 5 (by omega) (by omega),e 6 (by omega) (by omega),e 7 (by omega) (by omega),e 8 (by omega) (by omega),e 9 (by omega) (by omega),e 10 (by omega) (by omega),e 11 (by omega) (by omega),e 12 (by omega) (by omega),e 13 (by omega) (by omega),e 14 (by omega) (by omega),e 15 (by omega) (by omega)]
  rw[hn]
theorem jH(s:aN)(t:Tm):fK s t=(a8 s t&&t.kids.all (fK s)):=by
 have:∀l:List Tm,qT s l=l.all (fK s):=fun l=>by
  induction l with
  |nil=>rfl
  |cons k l ih=>simp[qT,ih]
 cases t;simp[fK,this,Tm.kids]
theorem jI{α:Type}{l:List α}{p:α->Bool}{k:Nat}{x:α}(hx:l[k]? =some x)(h:p x=false):l.all p=false:=by
 rw[List.all_eq_false];exact⟨x,List.mem_of_getElem? hx,by rw[h];exact Bool.false_ne_true⟩
theorem lz{α:Type}{l:List α}{p:α->Bool}{k:Nat}{x:α}(hx:l[k]? =some x)(h0:(l.take k).all p=true)(h:p x=true):(l.take (k+1)).all p=true:=by
 rw[List.take_add_one,hx,List.all_append,h0];simp[h]
theorem lA{α:Type}{l:List α}{p:α->Bool}{k:Nat}(h0:(l.take k).all p=true)(h:l.length<=k):l.all p=true:=by
 rwa [List.take_of_length_le h]at h0
theorem aF{α:Type}{l:List α}{k:Nat}(h:k<l.length):∃x,l[k]? =some x:=⟨l[k],by simp[h]⟩
@[reducible] def aN.row (s:aN):List V:=[.d (.sl (s.cons.map dZ.d)), .d (.sl (s.bF.map dZ.d))]
theorem Jw(s:aN)(hs:s.Fits):∀t:Tm,t.fits->aX Tryz.prog 94 [s.d,t.d] (.ret [.bool (fK s t)]):=by
 refine Tm.fk fun t ih hf=> ?_
 have tI:=(Tm.bD _).1 hf
 refine aX.aM mix aao aK ?_
 rw[c94]
 refine b8 ?_
 refine ao (PM s t hs tI.1) rfl ?_
 refine b8 ?_
 rw[jH]
 refine ak (fun h1=> ?_) (fun h1=> ?_)
 ·refine b8 ?_
  simp at h1;simp[h1]
 ·simp at h1
  rw[h1,Bool.true_and]
  refine b8 ?_
  refine aH (fun k:Nat=>⟨ba [.aa, .aa, .ptr 0 0, .ptr 1 0, .aa, .d (.i k)],A8 s.row t.row,2⟩)
   (fun k=>k<=t.kids.length/\(t.kids.take k).all (fK s)=true) (fun k=>t.kids.length - k) 0 ⟨Nat.zero_le _,aK⟩ (bG.d2 _ (iX rfl rfl) af rfl rfl ?_) (fun k hk=> ?_)
  ·exact dQ
  refine b8 ?_
  refine ak (fun h2=> ?_) (fun h2=> ?_)
  ·simp at h2
   obtain⟨x,hx⟩:=aF h2
   have gI:=List.mem_of_getElem? hx
   refine jb hx ?_
   refine bc (ih x gI (tI.2 x gI)) rfl ?_
   refine b8 ?_
   refine aR cA ?_
   refine b8 ?_
   refine ak (fun h3=> ?_) (fun h3=> ?_)
   ·refine b8 ?_
    simp at h3
    rw[jI hx h3]
   ·refine b8 ?_
    simp at h3
    refine aw (k+1) ⟨h2,lz hx hk.2 h3⟩ af (bG.d2 _ (iX rfl rfl) af rfl rfl ?_)
    exact dQ
  ·refine b8 ?_
   simp at h2
   rw[lA hk.2 h2]
theorem PN(s:aN)(hs:s.Fits)(t:Tm)(hf:t.fits):aX Tryz.prog 43 [s.d,t.d] (.ret [.bool (iz s t)]):=by
 refine aX.aM mix ZW aK ?_
 rw[c43]
 refine b8 ?_
 refine ao (CL t hf 40 12 af af) rfl ?_
 refine b8 ?_
 refine fH (eO [.bool (fK s t)] ?_ ?_)
 ·refine b8 ?_
  exact fun _=>Jw s hs t hf
 refine b8 ?_
 rfl
theorem pF(t:Tm):eG t=(t.kids.all eG&&((decide (1<=t.op)&&decide (t.op<=3))||t.op==5)):=by
 have:∀l:List Tm,qU l=l.all eG:=fun l=>by
  induction l with
  |nil=>rfl
  |cons k l ih=>simp[qU,ih]
 cases t;simp only[eG,this,Tm.kids,Tm.op];rfl
theorem Jx:∀t:Tm,t.fits->aX Tryz.prog 92 [t.d] (.ret [.bool (eG t)]):=by
 refine Tm.fk fun t ih hf=> ?_
 have tI:=(Tm.bD _).1 hf
 refine aX.aM mix aam aK ?_
 rw[c92,pF]
 refine b8 ?_
 refine aH (fun k:Nat=>⟨ba [.aa, .ptr 0 0, .aa, .d (.i k)],mZ t.row,1⟩)
  (fun k=>k<=t.kids.length/\(t.kids.take k).all eG=true) (fun k=>t.kids.length - k) 0 ⟨Nat.zero_le _,aK⟩ (bG.d1 _ (cf rfl) af rfl ?_) (fun k hk=> ?_)
 ·exact dQ
 refine b8 ?_
 refine ak (fun h2=> ?_) (fun h2=> ?_)
 ·simp at h2
  obtain⟨x,hx⟩:=aF h2
  have gI:=List.mem_of_getElem? hx
  refine jb hx ?_
  refine ao (ih x gI (tI.2 x gI)) rfl ?_
  refine b8 ?_
  refine ak (fun h3=> ?_) (fun h3=> ?_)
  ·refine b8 ?_
   simp at h3
   rw[jI hx h3];rfl
  ·refine b8 ?_
   simp at h3
   refine aw (k+1) ⟨h2,lz hx hk.2 h3⟩ af (bG.d1 _ (cf rfl) af rfl ?_)
   exact dQ
 ·refine b8 ?_
  simp at h2
  rw[lA hk.2 h2];rfl
theorem fP:∀l l':List Tm,l.length=l'.length->(fL l l'=true↔∀ (i:Nat) (x y:Tm),l[i]? =some x->l'[i]? =some y->iA x y=true)
 |[],l',_=>by simp[fL]
 |k::l,k'::l',h=>by
  simp only[fL,Bool.and_eq_true]
  rw[fP l l' (by simpa using h)]
  constructor
  ·rintro⟨h1,h2⟩ i x y hx hy
   cases i with
   |zero=>simp at hx hy;subst hx;subst hy;exact h1
   |succ i=>exact h2 i x y tW (by simpa using hy)
  ·intro h3
   exact⟨h3 0 k k' rfl rfl,fun i x y hx hy=>h3 (i+1) x y tW (by simpa using hy)⟩
 |_::_,[],h=>by simp at h
theorem oo(a b:Tm):iA a b=(a.op==b.op&&a.n==b.n&&a.kids.length==b.kids.length&&fL a.kids b.kids):=by cases a;cases b;simp[iA,Tm.op,Tm.n,Tm.kids]
theorem wM:∀a:Tm,a.fits->∀b:Tm,b.fits->aX Tryz.prog 40 [a.d,b.d] (.ret [.bool (iA a b)]):=by
 refine Tm.fk fun t ih hf b hb=> ?_
 have tI:=(Tm.bD _).1 hf
 have Fs:=(Tm.bD _).1 hb
 refine aX.aM mix UY aK ?_
 rw[ZU,oo]
 refine b8 ?_
 refine ak (fun h1=> ?_) (fun h1=> ?_)
 ·refine b8 ?_
  have:(t.op==b.op&&t.n==b.n&&t.kids.length==b.kids.length)=false:=by
   rw[Bool.eq_false_iff]
   intro h
   simp at h
   simp[h]at h1
  rw[this];rfl
 ·have jR:t.op=b.op/\t.n=b.n/\t.kids.length=b.kids.length:=by
   simp at h1
   refine⟨h1.1.1,h1.1.2,by have:=h1.2;omega⟩
  rw[show(t.op==b.op&&t.n==b.n&&t.kids.length==b.kids.length)=true by simp[jR],Bool.true_and]
  have hl:=jR.2.2
  refine b8 ?_
  refine aH (fun k:Nat=>⟨ba [.aa, .aa, .ptr 0 0, .ptr 1 0, .aa, .d (.i k)],A8 t.row b.row,2⟩)
   (fun k=>k<=t.kids.length/\∀i,i<k->∀x y,t.kids[i]? =some x->b.kids[i]? =some y->iA x y=true) (fun k=>t.kids.length - k) 0 ⟨Nat.zero_le _,fun i h=>af⟩ (bG.d2 _ (iX rfl rfl) af rfl rfl ?_) (fun k hk=> ?_)
  ·exact dQ
  refine b8 ?_
  refine ak (fun h2=> ?_) (fun h2=> ?_)
  ·simp at h2
   obtain⟨x,hx⟩:=aF h2
   obtain⟨y,hy⟩:=aF (l:=b.kids) (k:=k) af
   have gI:=List.mem_of_getElem? hx
   have Jy:=List.mem_of_getElem? hy
   simp+contextual only[go_sem,hx,hy]
   refine bc (ih x gI (tI.2 x gI) y (Fs.2 y Jy)) rfl ?_
   refine b8 ?_
   refine aR cA ?_
   refine b8 ?_
   refine ak (fun h3=> ?_) (fun h3=> ?_)
   ·refine b8 ?_
    simp at h3
    have:fL t.kids b.kids=false:=by
     rw[Bool.eq_false_iff]
     intro h
     have:=(fP _ _ hl).1 h k x y hx hy
     rw[h3]at this;cases this
    rw[this]
   ·refine b8 ?_
    simp at h3
    refine aw (k+1) ⟨h2,fun i hi u v hu hv=> ?_⟩ af (bG.d2 _ (iX rfl rfl) af rfl rfl ?_)
    ·by_cases e:i=k
     ·subst e
      rw[hx]at hu;rw[hy]at hv
      exact SE
     ·exact hk.2 i af u v hu hv
    ·exact dQ
  ·refine b8 ?_
   simp at h2
   have:fL t.kids b.kids=true:=(fP _ _ hl).2 fun i x y hx hy=>hk.2 i (by have:=(List.getElem?_eq_some_iff.1 hx).1;omega) x y hx hy
   rw[this]
theorem wN(t:Tm)(hf:t.fits):aX Tryz.prog 61 [t.d] (.ret [.bool (fM t)]):=by
 refine aX.aM mix Z7 aK ?_
 rw[c61]
 refine b8 ?_
 refine ao (CL t hf 50 14 af af) rfl ?_
 refine b8 ?_
 rfl
theorem A9(s:aN)(hs:s.Fits):aX Tryz.prog 78 [s.d] (.ret [.bool (gX s)]):=by
 refine aX.aM mix aah aK ?_
 rw[c78]
 refine b8 ?_
 refine ak (fun h1=> ?_) (fun h1=> ?_)
 ·refine b8 ?_
  simp only[gX,h1];rfl
 ·have e:gX s=(eA s.cons&&eA s.bF):=by simp only[gX,h1];rfl
  rw[e]
  simp at h1
  refine b8 ?_
  refine aH (fun k:Nat=>⟨ba [.aa, .ptr 0 0, .aa, .d (.i k)],mZ s.row,1⟩)
   (fun k=>k<=s.cons.length/\eA (s.cons.take k)=true) (fun k=>s.cons.length - k) 0 ⟨Nat.zero_le _,by simp[eA]⟩ (bG.d1 _ (cf rfl) af rfl ?_) (fun k hk=> ?_)
  ·exact dQ
  refine b8 ?_
  refine ak (fun h2=> ?_) (fun h2=> ?_)
  ·simp at h2
   obtain⟨x,hx⟩:=aF h2
   refine jb hx ?_
   refine ak (fun h3=> ?_) (fun h3=> ?_)
   ·refine b8 ?_
    rw[show eA s.cons=false from jI hx (by simpa using h3)];rfl
   ·refine b8 ?_
    refine aw (k+1) ⟨h2,lz hx hk.2 (by simpa using h3)⟩ af (bG.d1 _ (cf rfl) af rfl ?_)
    exact dQ
  ·simp at h2
   rw[show eA s.cons=true from lA hk.2 h2,Bool.true_and]
   refine b8 ?_
   refine aH (fun k:Nat=>⟨ba [.aa, .ptr 0 0, .aa, .aa, .d (.i k)],mZ s.row,1⟩)
    (fun k=>k<=s.bF.length/\eA (s.bF.take k)=true) (fun k=>s.bF.length - k) 0 ⟨Nat.zero_le _,by simp[eA]⟩ (bG.d1 _ (cf rfl) af rfl ?_) (fun k hk=> ?_)
   ·exact dQ
   refine b8 ?_
   refine ak (fun h4=> ?_) (fun h4=> ?_)
   ·simp at h4
    obtain⟨x,hx⟩:=aF h4
    refine jb hx ?_
    refine ak (fun h3=> ?_) (fun h3=> ?_)
    ·refine b8 ?_
     rw[show eA s.bF=false from jI hx (by simpa using h3)]
    ·refine b8 ?_
     refine aw (k+1) ⟨h4,lz hx hk.2 (by simpa using h3)⟩ af (bG.d1 _ (cf rfl) af rfl ?_)
     exact dQ
   ·simp at h4
    rw[show eA s.bF=true from lA hk.2 h4]
    simp+contextual only[go_sem]
end Go.Proofs.YtlhemmpklhhgoaaGreat
