/-
  A PART OF THE PROOF. Conditions: none.
-/
import Derived.Test.YtlhemmpklhhgoaaGreatRows
import Derived.Shelf.SlMaps.Clone
import Derived.Test.YtlhemmpklhhgoaaGreatQs13
set_option linter.unusedSimpArgs false
set_option linter.unusedVariables false
section
namespace Go.Proofs.YtlhemmpklhhgoaaGreat
open Go.Shelf
def D6:Go.Shelf.Ren:=⟨fun|5=>100|7=>130|n=>n,fun|23=>93|25=>3|3=>33|4=>4|20=>20|n=>n,fun|n=>n⟩
theorem UK:Go.Proofs.SlLaysW.n5 Tryz.prog D6:={
 mixed:=ah
 f5:=⟨Tryz.f100.name,bV,Tryz.func100.trans (congrArg some ah)⟩
 f7:=Tryz.func130.trans (congrArg some ah)
 t4:=Tryz.underlying4
 a4:=Tryz.isAgg4
 z4:=Tryz.sizeOf4
 v4:=Tryz.zeroValue4
 t20:=Tryz.underlying20
 a20:=Tryz.isAgg20
 z20:=Tryz.sizeOf20
 v20:=Tryz.zeroValue20
 t23:=Tryz.underlying93
 a23:=Tryz.isAgg93
 z23:=Tryz.sizeOf93
 v23:=Tryz.zeroValue93}
theorem UL:FL Tryz.prog 100:=⟨⟨_,Tryz.func100,ah,ah⟩,fun w b es clock hb=>AnyW.maps_Clone UK b es clock w hb⟩
end Go.Proofs.YtlhemmpklhhgoaaGreat
end
namespace Go.Proofs.YtlhemmpklhhgoaaGreat
theorem mix:Tryz.prog.follows .mixedOrders=true:=ah
def zn:Tr FD:= .e fun _=> .no
theorem zt{f:Nat->Nat}:Tr.FZ (fun(g:Nat) (d:FD)=>d.Ok Tryz.prog g) zn f:=fun _=>trivial
def abR:Tr FD:=
 (.n .no (.n .no (.n .no (.n .no (.n (.fn 34 c15 [.cell 6 29, .tmp 7]) (.n .no (.n (.fn 27 c63 [.cell 6 95, .tmp 7]) zn (.n (.fn 15 abJ [.tmp 6]) zn zn)) (.n .no (.n (.fn 4 Uo [.tmp 2]) zn zn) zn)) (.n (.fn 9 c47 [.cell 4 33]) (.n (.fn 167 c79 [.cell 2 95, .tmp 3]) zn zn) (.n (.fn 4 T7 [.tmp 2]) (.n (.fn 49 abg []) zn zn) zn))) (.n .no (.n .no (.n .no (.n (.fn 11 aaT []) zn zn) (.n (.fn 14 UI [.tmp 4]) zn zn)) (.n (.fn 133 T3 []) (.n (.fn 8 Uu [.tmp 3]) zn zn) zn)) (.n .no zn (.n (.fn 46 T8 [.tmp 2]) (.n (.fn 168 abx [.tmp 8, .tmp 9]) zn zn) zn)))) (.n .no (.n .no (.n (.fn 40 c35 [.tmp 6, .tmp 7]) (.n (.fn 45 c67 [.tmp 2, .tmp 3]) zn (.n (.fn 14 UE [.tmp 4]) zn zn)) (.n (.fn 22 c99 [.tmp 4]) (.n (.fn 8 abc [.tmp 2]) zn zn) zn)) (.n (.fn 6 c51 [.cell 2 33]) (.n .no (.n (.fn 18 Uk [.tmp 4]) zn zn) zn) (.n .no (.n (.fn 32 abo []) zn zn) zn))) (.n .no (.n .no zn (.n (.fn 6 aaB [.cell 2 33]) (.n (.fn 39 Ux [.cell 4 4]) zn zn) zn)) (.n .no (.n (.fn 35 c91 [.tmp 8]) zn zn) (.n .no (.n (.fn 19 UC [.cell 0 210]) zn zn) zn))))) (.n .no (.n .no (.n .no (.n .no (.n (.fn 66 c65 [.cell 2 29]) (.n (.fn 32 Uc [.tmp 4, .tmp 5, .tmp 6]) zn zn) (.n (.fn 6 abN [.tmp 2]) zn zn)) (.n .no (.n (.fn 13 Uq [.tmp 4]) zn zn) zn)) (.n (.fn 10 c49 [.cell 0 29]) (.n .no (.n (.fn 28 Ui [.tmp 2]) zn zn) zn) (.n .no (.n (.fn 65 abk []) zn zn) zn))) (.n (.fn 46 c25 [.tmp 4]) (.n .no (.n (.fn 33 c73 [.tmp 4]) zn (.n (.fn 28 abP [.tmp 8, .tmp 9]) zn zn)) (.n (.fn 8 aax [.tmp 2]) (.n (.fn 18 Uv [.tmp 4]) zn zn) zn)) (.n .no zn (.n (.fn 15 Ua [.tmp 2]) (.n (.fn 25 abB [.tmp 2]) zn zn) zn)))) (.n .no (.n (.fn 70 c21 [.tmp 4]) (.n .no (.n (.fn 9 c69 [.tmp 2]) (.n (.fn 32 Ue [.tmp 6]) zn zn) (.n (.fn 27 UG [.tmp 4]) zn zn)) (.n (.dfr 6 KC T2 131 3 [.tmp 2] [.cell 2 36] 14 5 5 Kz) (.n (.fn 17 Us [.tmp 4]) zn zn) zn)) (.n .no (.n (.fn 8 c85 [.cell 4 33]) (.n (.fn 4 Um [.tmp 2]) zn zn) zn) (.n .no (.n (.fn 17 abt [.tmp 4]) zn zn) zn))) (.n .no (.n .no zn (.n (.fn 17 T5 []) (.n (.fn 17 Uz [.tmp 6]) zn zn) zn)) (.n .no zn (.n .no (.n (.fn 7 abF [.tmp 2]) zn zn) zn)))))) (.n .no (.n .no (.n .no (.n (.fn 62 c16 [.cell 6 29, .tmp 7]) (.n .no (.n (.fn 45 c64 [.cell 6 95, .tmp 7]) zn (.n (.fn 36 abL [.tmp 10]) zn zn)) (.n .no (.n (.fn 16 Up [.cell 2 4]) zn zn) zn)) (.n (.fn 5 c48 [.cell 2 33]) (.n (.fn 5 c80 [.cell 2 33]) (.n (.fn 24 Uh [.tmp 3]) zn zn) zn) (.n (.fn 21 NJ [.cell 4 33]) (.n (.fn 56 abi []) zn zn) zn))) (.n (.fn 94 c24 [.cell 2 43, .tmp 3]) (.n (.fn 46 c40 [.tmp 4]) (.n .no (.n (.fn 14 Ug []) zn zn) (.n (.fn 14 UJ [.tmp 4]) zn zn)) (.n (.fn 9 aav [.tmp 2]) zn zn)) (.n .no (.n (.fn 9 c88 [.tmp 4]) zn zn) (.n (.fn 14 T9 [.tmp 6]) (.n (.fn 19 abz [.tmp 2]) zn zn) zn)))) (.n .no (.n .no (.n .no (.n (.fn 33 c68 [.cell 4 33]) (.n (.fn 47 Ud []) zn zn) (.n (.fn 27 UF [.tmp 4]) zn zn)) (.n .mpc (.n (.fn 8 Ur []) zn zn) zn)) (.n (.fn 2 c52 [.cell 0 33]) (.n .no (.n (.fn 34 Ul [.cell 6 4]) zn zn) zn) (.n .no (.n (.fn 133 abq [.tmp 6]) zn zn) zn))) (.n .no (.n .no zn (.n (.fn 24 T4 [.tmp 4]) (.n (.fn 8 Uy []) zn zn) zn)) (.n (.fn 42 c60 [.tmp 4]) zn (.n .no (.n (.fn 76 abD []) zn zn) zn))))) (.n .no (.n .no (.n .no (.n .no (.n (.fn 16 c66 [.tmp 4]) zn (.n (.fn 14 UD [.tmp 4]) zn zn)) (.n .no (.n (.fn 134 aba []) zn zn) zn)) (.n (.fn 2 c50 [.cell 0 33]) (.n .no (.n (.fn 15 Uj [.tmp 6]) zn zn) zn) (.n .no (.n (.fn 57 abm [.tmp 6, .tmp 7]) zn zn) zn))) (.n .no (.n .no (.n (.fn 50 c74 [.tmp 4]) zn zn) (.n (.fn 8 aaz [.tmp 2]) (.n (.fn 7 Uw [.tmp 3]) zn zn) zn)) (.n .no zn (.n .no (.n (.fn 19 UB [.tmp 4]) zn zn) zn)))) (.n (.fn 101 c14 [.tmp 0]) (.n .no (.n .no (.n .no (.n (.fn 5 Uf [.tmp 2]) zn zn) (.n (.fn 27 UH [.tmp 4]) zn zn)) (.n (.fn 7 aat []) (.n (.fn 9 Ut [.tmp 4]) zn zn) zn)) (.n .no zn (.n .no (.n (.fn 84 abv [.tmp 8]) zn zn) zn))) (.n .no (.n (.fn 10 c46 [.cell 0 29]) zn (.n (.fn 9 T6 [.tmp 2]) (.n (.fn 10 UA [.tmp 4]) zn zn) zn)) (.n (.fn 12 c62 [.cell 0 24]) (.n .no (.n (.fn 13 Un [.tmp 4]) zn zn) zn) (.n (.fn 19 aaP [.tmp 4]) (.n (.fn 33 abH [.tmp 2]) zn zn) zn)))))))
noncomputable def bO:Nat->FD:=abR.get
theorem gI:∀g,(bO g).Ok Tryz.prog g:=
 Tr.zN (p:=fun g d=>d.Ok Tryz.prog g) (f:=fun g=>g) abR
   ⟨trivial,⟨trivial,⟨trivial,⟨trivial,⟨adI,⟨trivial,⟨ad0,zt,⟨abK,zt,zt⟩⟩,⟨trivial,⟨QX,zt,zt⟩,zt⟩⟩,⟨adS,⟨aan,zt,zt⟩,⟨QF,⟨abh,zt,zt⟩,zt⟩⟩⟩,⟨trivial,⟨trivial,⟨trivial,⟨aaU,zt,zt⟩,⟨Ri,zt,zt⟩⟩,⟨QB,⟨Q3,zt,zt⟩,zt⟩⟩,⟨trivial,zt,⟨QG,⟨aby,zt,zt⟩,zt⟩⟩⟩⟩,⟨trivial,⟨trivial,⟨adN,⟨aaj,zt,⟨Re,zt,zt⟩⟩,⟨aas,⟨abd,zt,zt⟩,zt⟩⟩,⟨adW,⟨trivial,⟨QS,zt,zt⟩,zt⟩,⟨trivial,⟨abp,zt,zt⟩,zt⟩⟩⟩,⟨trivial,⟨trivial,zt,⟨aaC,⟨Q6,zt,zt⟩,zt⟩⟩,⟨trivial,⟨aar,zt,zt⟩,⟨trivial,⟨Rb,zt,zt⟩,zt⟩⟩⟩⟩⟩,⟨trivial,⟨trivial,⟨trivial,⟨trivial,⟨ad2,⟨QK,zt,zt⟩,⟨abO,zt,zt⟩⟩,⟨trivial,⟨QZ,zt,zt⟩,zt⟩⟩,⟨adU,⟨trivial,⟨QQ,zt,zt⟩,zt⟩,⟨trivial,⟨abl,zt,zt⟩,zt⟩⟩⟩,⟨aaf,⟨trivial,⟨aal,zt,⟨abQ,zt,zt⟩⟩,⟨aay,⟨Q4,zt,zt⟩,zt⟩⟩,⟨trivial,zt,⟨QI,⟨abC,zt,zt⟩,zt⟩⟩⟩⟩,⟨trivial,⟨aae,⟨trivial,⟨ad3,⟨QM,zt,zt⟩,⟨Rg,zt,zt⟩⟩,⟨⟨KF,KA⟩,⟨Q1,zt,zt⟩,zt⟩⟩,⟨trivial,⟨ad9,⟨QV,zt,zt⟩,zt⟩,⟨trivial,⟨abu,zt,zt⟩,zt⟩⟩⟩,⟨trivial,⟨trivial,zt,⟨QD,⟨Q8,zt,zt⟩,zt⟩⟩,⟨trivial,zt,⟨trivial,⟨abG,zt,zt⟩,zt⟩⟩⟩⟩⟩⟩,⟨trivial,⟨trivial,⟨trivial,⟨adJ,⟨trivial,⟨ad1,zt,⟨abM,zt,zt⟩⟩,⟨trivial,⟨QY,zt,zt⟩,zt⟩⟩,⟨adT,⟨aao,⟨QP,zt,zt⟩,zt⟩,⟨KG,⟨abj,zt,zt⟩,zt⟩⟩⟩,⟨T1,⟨aag,⟨trivial,⟨QO,zt,zt⟩,⟨Rj,zt,zt⟩⟩,⟨aaw,zt,zt⟩⟩,⟨trivial,⟨aeb,zt,zt⟩,⟨QH,⟨abA,zt,zt⟩,zt⟩⟩⟩⟩,⟨trivial,⟨trivial,⟨trivial,⟨aak,⟨QL,zt,zt⟩,⟨Rf,zt,zt⟩⟩,⟨UL,⟨Q0,zt,zt⟩,zt⟩⟩,⟨adX,⟨trivial,⟨QU,zt,zt⟩,zt⟩,⟨trivial,⟨abr,zt,zt⟩,zt⟩⟩⟩,⟨trivial,⟨trivial,zt,⟨QC,⟨Q7,zt,zt⟩,zt⟩⟩,⟨aah,zt,⟨trivial,⟨abE,zt,zt⟩,zt⟩⟩⟩⟩⟩,⟨trivial,⟨trivial,⟨trivial,⟨trivial,⟨aai,zt,⟨Rc,zt,zt⟩⟩,⟨trivial,⟨abb,zt,zt⟩,zt⟩⟩,⟨adV,⟨trivial,⟨QR,zt,zt⟩,zt⟩,⟨trivial,⟨abn,zt,zt⟩,zt⟩⟩⟩,⟨trivial,⟨trivial,⟨aam,zt,zt⟩,⟨aaA,⟨Q5,zt,zt⟩,zt⟩⟩,⟨trivial,zt,⟨trivial,⟨Ra,zt,zt⟩,zt⟩⟩⟩⟩,⟨adH,⟨trivial,⟨trivial,⟨trivial,⟨QN,zt,zt⟩,⟨Rh,zt,zt⟩⟩,⟨aau,⟨Q2,zt,zt⟩,zt⟩⟩,⟨trivial,zt,⟨trivial,⟨abw,zt,zt⟩,zt⟩⟩⟩,⟨trivial,⟨adR,zt,⟨QE,⟨Q9,zt,zt⟩,zt⟩⟩,⟨adZ,⟨trivial,⟨QW,zt,zt⟩,zt⟩,⟨aaQ,⟨abI,zt,zt⟩,zt⟩⟩⟩⟩⟩⟩⟩
end Go.Proofs.YtlhemmpklhhgoaaGreat
namespace Go.Proofs.YtlhemmpklhhgoaaGreat
@[go_sem] theorem cellsOf_3:Tryz.prog.cellsOf 3=1:=ah
@[go_sem] theorem bytesOf_3:Tryz.prog.bytesOf 3=8:=ah
@[go_sem] theorem aggT_3:cT Tryz.prog 3=some false:=ah
@[go_sem] theorem infoT_3:(Tryz.prog.info? 3).isSome=true:=ah
@[go_sem] theorem undT_3:Tryz.prog.underlying 3=some (.int .i64):=ah
@[go_sem] theorem eqShape_3:bH Tryz.prog 3=some .int:=ah
@[go_sem] theorem zeroT_3:cq Tryz.prog 3=some [.d (.int .i64 0)]:=ah
@[go_sem] theorem cellsOf_4:Tryz.prog.cellsOf 4=1:=ah
@[go_sem] theorem aggT_4:cT Tryz.prog 4=some false:=ah
@[go_sem] theorem infoT_4:(Tryz.prog.info? 4).isSome=true:=ah
@[go_sem] theorem zeroT_4:cq Tryz.prog 4=some [.d (.bool false)]:=ah
@[go_sem] theorem zeroV_4:zeroV Tryz.prog 4=some (.d (.bool false)):=ah
@[go_sem] theorem cellsOf_9:Tryz.prog.cellsOf 9=1:=ah
@[go_sem] theorem bytesOf_9:Tryz.prog.bytesOf 9=16:=ah
@[go_sem] theorem aggT_9:cT Tryz.prog 9=some false:=ah
@[go_sem] theorem undT_9:Tryz.prog.underlying 9=some .string:=ah
@[go_sem] theorem eqShape_9:bH Tryz.prog 9=some .str:=ah
@[go_sem] theorem zeroT_9:cq Tryz.prog 9=some [.d (.str [])]:=ah
@[go_sem] theorem sliceT_22:bS Tryz.prog 22=some 124:=ah
@[go_sem] theorem aggT_22:cT Tryz.prog 22=some false:=ah
@[go_sem] theorem undT_22:Tryz.prog.underlying 22=some (.slice 124):=ah
@[go_sem] theorem cellsOf_24:Tryz.prog.cellsOf 24=2:=ah
@[go_sem] theorem aggT_24:cT Tryz.prog 24=some true:=ah
@[go_sem] theorem cellsOf_25:Tryz.prog.cellsOf 25=1:=ah
@[go_sem] theorem bytesOf_25:Tryz.prog.bytesOf 25=24:=ah
@[go_sem] theorem sliceT_25:bS Tryz.prog 25=some 59:=ah
@[go_sem] theorem aggT_25:cT Tryz.prog 25=some false:=ah
@[go_sem] theorem intT_25:tz Tryz.prog 25=none:=ah
@[go_sem] theorem infoT_25:(Tryz.prog.info? 25).isSome=true:=ah
@[go_sem] theorem undT_25:Tryz.prog.underlying 25=some (.slice 59):=ah
@[go_sem] theorem zeroT_25:cq Tryz.prog 25=some [.aJ]:=ah
@[go_sem] theorem sliceT_26:bS Tryz.prog 26=some 101:=ah
@[go_sem] theorem aggT_26:cT Tryz.prog 26=some false:=ah
@[go_sem] theorem undT_26:Tryz.prog.underlying 26=some (.slice 101):=ah
@[go_sem] theorem sliceT_27:bS Tryz.prog 27=some 77:=ah
@[go_sem] theorem aggT_27:cT Tryz.prog 27=some false:=ah
@[go_sem] theorem undT_27:Tryz.prog.underlying 27=some (.slice 77):=ah
@[go_sem] theorem cellsOf_29:Tryz.prog.cellsOf 29=5:=ah
@[go_sem] theorem aggT_29:cT Tryz.prog 29=some true:=ah
@[go_sem] theorem aggT_30:cT Tryz.prog 30=some false:=ah
@[go_sem] theorem undT_30:Tryz.prog.underlying 30=some (.int .i64):=ah
@[go_sem] theorem cellsOf_31:Tryz.prog.cellsOf 31=1:=ah
@[go_sem] theorem sliceT_31:bS Tryz.prog 31=some 33:=ah
@[go_sem] theorem aggT_31:cT Tryz.prog 31=some false:=ah
@[go_sem] theorem intT_31:tz Tryz.prog 31=none:=ah
@[go_sem] theorem infoT_31:(Tryz.prog.info? 31).isSome=true:=ah
@[go_sem] theorem undT_31:Tryz.prog.underlying 31=some (.slice 33):=ah
@[go_sem] theorem cellsOf_33:Tryz.prog.cellsOf 33=3:=ah
@[go_sem] theorem bytesOf_33:Tryz.prog.bytesOf 33=40:=ah
@[go_sem] theorem aggT_33:cT Tryz.prog 33=some true:=ah
@[go_sem] theorem infoT_33:(Tryz.prog.info? 33).isSome=true:=ah
@[go_sem] theorem zeroT_33:cq Tryz.prog 33=some [.d (.int .i64 0), .d (.int .i64 0), .aJ]:=ah
@[go_sem] theorem zeroV_33:zeroV Tryz.prog 33=some (mn [.d (.int .i64 0), .d (.int .i64 0), .aJ]):=ah
@[go_sem] theorem placesT_33:cY Tryz.prog 33=some [(0,1),(1,1),(2,1)]:=ah
@[go_sem] theorem cellsOf_36:Tryz.prog.cellsOf 36=1:=ah
@[go_sem] theorem aggT_36:cT Tryz.prog 36=some false:=ah
@[go_sem] theorem infoT_36:(Tryz.prog.info? 36).isSome=true:=ah
@[go_sem] theorem zeroT_36:cq Tryz.prog 36=some [.d (.int .i64 0)]:=ah
@[go_sem] theorem cellsOf_41:Tryz.prog.cellsOf 41=1:=ah
@[go_sem] theorem sliceT_41:bS Tryz.prog 41=some 25:=ah
@[go_sem] theorem aggT_41:cT Tryz.prog 41=some false:=ah
@[go_sem] theorem intT_41:tz Tryz.prog 41=none:=ah
@[go_sem] theorem infoT_41:(Tryz.prog.info? 41).isSome=true:=ah
@[go_sem] theorem undT_41:Tryz.prog.underlying 41=some (.slice 25):=ah
@[go_sem] theorem cellsOf_43:Tryz.prog.cellsOf 43=2:=ah
@[go_sem] theorem aggT_43:cT Tryz.prog 43=some true:=ah
@[go_sem] theorem infoT_43:(Tryz.prog.info? 43).isSome=true:=ah
@[go_sem] theorem zeroT_43:cq Tryz.prog 43=some [.aJ, .aJ]:=ah
@[go_sem] theorem placesT_43:cY Tryz.prog 43=some [(0,1),(1,1)]:=ah
@[go_sem] theorem cellsOf_59:Tryz.prog.cellsOf 59=4:=ah
@[go_sem] theorem bytesOf_59:Tryz.prog.bytesOf 59=48:=ah
@[go_sem] theorem aggT_59:cT Tryz.prog 59=some true:=ah
@[go_sem] theorem infoT_59:(Tryz.prog.info? 59).isSome=true:=ah
@[go_sem] theorem zeroT_59:cq Tryz.prog 59=some [.d (.int .i64 0), .d (.int .i64 0), .d (.int .i64 0), .aJ]:=ah
@[go_sem] theorem placesT_59:cY Tryz.prog 59=some [(0,1),(1,3)]:=ah
@[go_sem] theorem cellsOf_77:Tryz.prog.cellsOf 77=2:=ah
@[go_sem] theorem aggT_77:cT Tryz.prog 77=some true:=ah
@[go_sem] theorem infoT_77:(Tryz.prog.info? 77).isSome=true:=ah
@[go_sem] theorem zeroT_77:cq Tryz.prog 77=some [.d (.int .i64 0), .d (.int .i64 0)]:=ah
@[go_sem] theorem placesT_77:cY Tryz.prog 77=some [(0,1),(1,1)]:=ah
@[go_sem] theorem cellsOf_90:Tryz.prog.cellsOf 90=1:=ah
@[go_sem] theorem aggT_90:cT Tryz.prog 90=some false:=ah
@[go_sem] theorem infoT_90:(Tryz.prog.info? 90).isSome=true:=ah
@[go_sem] theorem zeroT_90:cq Tryz.prog 90=some [.d .ck]:=ah
@[go_sem] theorem aggT_93:cT Tryz.prog 93=some false:=ah
@[go_sem] theorem undT_93:Tryz.prog.underlying 93=some (.map 3 33):=ah
@[go_sem] theorem mapT_93:rD Tryz.prog 93=some (3,33):=ah
@[go_sem] theorem cellsOf_95:Tryz.prog.cellsOf 95=6:=ah
@[go_sem] theorem aggT_95:cT Tryz.prog 95=some true:=ah
@[go_sem] theorem infoT_95:(Tryz.prog.info? 95).isSome=true:=ah
@[go_sem] theorem zeroT_95:cq Tryz.prog 95=some [.aJ, .aJ, .aJ, .aJ, .aJ, .d .fj]:=ah
@[go_sem] theorem placesT_95:cY Tryz.prog 95=some [(0,5),(5,1)]:=ah
@[go_sem] theorem cellsOf_101:Tryz.prog.cellsOf 101=6:=ah
@[go_sem] theorem aggT_101:cT Tryz.prog 101=some true:=ah
@[go_sem] theorem infoT_101:(Tryz.prog.info? 101).isSome=true:=ah
@[go_sem] theorem zeroT_101:cq Tryz.prog 101=some [.d (.int .i64 0), .d (.int .i64 0), .aJ, .d (.int .i64 0), .d (.int .i64 0), .aJ]:=ah
@[go_sem] theorem cellsOf_106:Tryz.prog.cellsOf 106=6:=ah
@[go_sem] theorem bytesOf_106:Tryz.prog.bytesOf 106=80:=ah
@[go_sem] theorem sliceT_106:bS Tryz.prog 106=none:=ah
@[go_sem] theorem arrT_106:yK Tryz.prog 106=some (2,33):=ah
@[go_sem] theorem aggT_106:cT Tryz.prog 106=some true:=ah
@[go_sem] theorem infoT_106:(Tryz.prog.info? 106).isSome=true:=ah
@[go_sem] theorem zeroT_106:cq Tryz.prog 106=some [.d (.int .i64 0), .d (.int .i64 0), .aJ, .d (.int .i64 0), .d (.int .i64 0), .aJ]:=ah
@[go_sem] theorem placesT_106:cY Tryz.prog 106=some [(0,3),(3,3)]:=ah
@[go_sem] theorem sliceT_117:bS Tryz.prog 117=some 106:=ah
@[go_sem] theorem aggT_117:cT Tryz.prog 117=some false:=ah
@[go_sem] theorem intT_117:tz Tryz.prog 117=none:=ah
@[go_sem] theorem undT_117:Tryz.prog.underlying 117=some (.slice 106):=ah
@[go_sem] theorem cellsOf_124:Tryz.prog.cellsOf 124=2:=ah
@[go_sem] theorem aggT_124:cT Tryz.prog 124=some true:=ah
@[go_sem] theorem infoT_124:(Tryz.prog.info? 124).isSome=true:=ah
@[go_sem] theorem zeroT_124:cq Tryz.prog 124=some [.d (.str []), .d (.int .i64 0)]:=ah
@[go_sem] theorem placesT_124:cY Tryz.prog 124=some [(0,1),(1,1)]:=ah
@[go_sem] theorem cellsOf_134:Tryz.prog.cellsOf 134=1:=ah
@[go_sem] theorem aggT_134:cT Tryz.prog 134=some false:=ah
@[go_sem] theorem infoT_134:(Tryz.prog.info? 134).isSome=true:=ah
@[go_sem] theorem zeroT_134:cq Tryz.prog 134=some [.d .lN]:=ah
@[go_sem] theorem zeroT_137:cq Tryz.prog 137=some [.d .fj, .aJ, .d (.bool false)]:=ah
@[go_sem] theorem placesT_137:cY Tryz.prog 137=some [(0,1),(1,1),(2,1)]:=ah
@[go_sem] theorem cellsOf_142:Tryz.prog.cellsOf 142=1:=ah
@[go_sem] theorem sliceT_142:bS Tryz.prog 142=some 3:=ah
@[go_sem] theorem aggT_142:cT Tryz.prog 142=some false:=ah
@[go_sem] theorem intT_142:tz Tryz.prog 142=none:=ah
@[go_sem] theorem infoT_142:(Tryz.prog.info? 142).isSome=true:=ah
@[go_sem] theorem undT_142:Tryz.prog.underlying 142=some (.slice 3):=ah
@[go_sem] theorem sliceT_148:bS Tryz.prog 148=some 9:=ah
@[go_sem] theorem intT_148:tz Tryz.prog 148=none:=ah
@[go_sem] theorem undT_148:Tryz.prog.underlying 148=some (.slice 9):=ah
@[go_sem] theorem cellsOf_154:Tryz.prog.cellsOf 154=1:=ah
@[go_sem] theorem aggT_154:cT Tryz.prog 154=some false:=ah
@[go_sem] theorem infoT_154:(Tryz.prog.info? 154).isSome=true:=ah
@[go_sem] theorem zeroT_154:cq Tryz.prog 154=some [.d .ck]:=ah
@[go_sem] theorem cellsOf_162:Tryz.prog.cellsOf 162=0:=ah
@[go_sem] theorem infoT_162:(Tryz.prog.info? 162).isSome=true:=ah
@[go_sem] theorem plainIface_162:l6 Tryz.prog 162=true:=ah
@[go_sem] theorem zeroT_162:cq Tryz.prog 162=some []:=ah
@[go_sem] theorem zeroV_162:zeroV Tryz.prog 162=some (mn []):=ah
@[go_sem] theorem placesT_162:cY Tryz.prog 162=some []:=ah
@[go_sem] theorem cellsOf_163:Tryz.prog.cellsOf 163=0:=ah
@[go_sem] theorem infoT_163:(Tryz.prog.info? 163).isSome=true:=ah
@[go_sem] theorem plainIface_163:l6 Tryz.prog 163=true:=ah
@[go_sem] theorem zeroT_163:cq Tryz.prog 163=some []:=ah
@[go_sem] theorem zeroV_163:zeroV Tryz.prog 163=some (mn []):=ah
@[go_sem] theorem placesT_163:cY Tryz.prog 163=some []:=ah
@[go_sem] theorem zeroT_164:cq Tryz.prog 164=some [.d (.int .i64 0), .d (.int .i64 0)]:=ah
@[go_sem] theorem placesT_164:cY Tryz.prog 164=some [(0,1),(1,1)]:=ah
@[go_sem] theorem aggT_168:cT Tryz.prog 168=some false:=ah
@[go_sem] theorem cellsOf_175:Tryz.prog.cellsOf 175=1:=ah
@[go_sem] theorem aggT_175:cT Tryz.prog 175=some false:=ah
@[go_sem] theorem infoT_175:(Tryz.prog.info? 175).isSome=true:=ah
@[go_sem] theorem mapT_175:rD Tryz.prog 175=some (9,4):=ah
@[go_sem] theorem zeroT_175:cq Tryz.prog 175=some [.d .fj]:=ah
@[go_sem] theorem cellsOf_178:Tryz.prog.cellsOf 178=1:=ah
@[go_sem] theorem aggT_178:cT Tryz.prog 178=some false:=ah
@[go_sem] theorem infoT_178:(Tryz.prog.info? 178).isSome=true:=ah
@[go_sem] theorem mapT_178:rD Tryz.prog 178=some (3,4):=ah
@[go_sem] theorem zeroT_178:cq Tryz.prog 178=some [.d .fj]:=ah
@[go_sem] theorem cellsOf_209:Tryz.prog.cellsOf 209=1:=ah
@[go_sem] theorem aggT_209:cT Tryz.prog 209=some false:=ah
@[go_sem] theorem infoT_209:(Tryz.prog.info? 209).isSome=true:=ah
@[go_sem] theorem cellsOf_210:Tryz.prog.cellsOf 210=16:=ah
@[go_sem] theorem sliceT_210:bS Tryz.prog 210=none:=ah
@[go_sem] theorem arrT_210:yK Tryz.prog 210=some (16,209):=ah
@[go_sem] theorem aggT_210:cT Tryz.prog 210=some true:=ah
@[go_sem] theorem infoT_210:(Tryz.prog.info? 210).isSome=true:=ah
@[go_sem] theorem zeroT_210:cq Tryz.prog 210=some [.d .ck, .d .ck, .d .ck, .d .ck, .d .ck, .d .ck, .d .ck, .d .ck, .d .ck, .d .ck, .d .ck, .d .ck, .d .ck, .d .ck, .d .ck, .d .ck]:=ah
@[go_sem] theorem placesT_210:cY Tryz.prog 210=some [(0,1),(1,1),(2,1),(3,1),(4,1),(5,1),(6,1),(7,1),(8,1),(9,1),(10,1),(11,1),(12,1),(13,1),(14,1),(15,1)]:=ah
@[go_sem] theorem zeroT_213:cq Tryz.prog 213=some [.aJ, .aJ]:=ah
@[go_sem] theorem placesT_213:cY Tryz.prog 213=some [(0,2)]:=ah
@[go_sem] theorem fieldT_24_0:bR Tryz.prog 24 0=some 0:=ah
@[go_sem] theorem fieldT_24_1:bR Tryz.prog 24 1=some 1:=ah
@[go_sem] theorem fieldT_29_0:bR Tryz.prog 29 0=some 0:=ah
@[go_sem] theorem fieldT_29_1:bR Tryz.prog 29 1=some 2:=ah
@[go_sem] theorem fieldT_29_2:bR Tryz.prog 29 2=some 3:=ah
@[go_sem] theorem fieldT_29_3:bR Tryz.prog 29 3=some 4:=ah
@[go_sem] theorem fieldT_33_0:bR Tryz.prog 33 0=some 0:=ah
@[go_sem] theorem fieldT_33_1:bR Tryz.prog 33 1=some 1:=ah
@[go_sem] theorem fieldT_33_2:bR Tryz.prog 33 2=some 2:=ah
@[go_sem] theorem fieldT_43_0:bR Tryz.prog 43 0=some 0:=ah
@[go_sem] theorem fieldT_43_1:bR Tryz.prog 43 1=some 1:=ah
@[go_sem] theorem fieldT_59_0:bR Tryz.prog 59 0=some 0:=ah
@[go_sem] theorem fieldT_59_1:bR Tryz.prog 59 1=some 1:=ah
@[go_sem] theorem fieldT_77_0:bR Tryz.prog 77 0=some 0:=ah
@[go_sem] theorem fieldT_77_1:bR Tryz.prog 77 1=some 1:=ah
@[go_sem] theorem fieldT_95_0:bR Tryz.prog 95 0=some 0:=ah
@[go_sem] theorem fieldT_95_1:bR Tryz.prog 95 1=some 5:=ah
@[go_sem] theorem fieldT_101_0:bR Tryz.prog 101 0=some 0:=ah
@[go_sem] theorem fieldT_101_1:bR Tryz.prog 101 1=some 3:=ah
@[go_sem] theorem fieldT_124_0:bR Tryz.prog 124 0=some 0:=ah
@[go_sem] theorem fieldT_124_1:bR Tryz.prog 124 1=some 1:=ah
@[go_sem] theorem fieldT_137_0:bR Tryz.prog 137 0=some 0:=ah
@[go_sem] theorem fieldT_137_1:bR Tryz.prog 137 1=some 1:=ah
@[go_sem] theorem fieldT_137_2:bR Tryz.prog 137 2=some 2:=ah
@[go_sem] theorem fieldT_213_0:bR Tryz.prog 213 0=some 0:=ah
section
def kQ(x y:ad):Prop:=(x.cg=true->y.cg=true)/\∀e,x.cf=some e->y.cf=some e
theorem kQ.rfl' {x y:ad}(h:x=y):kQ x y:=h ▸ ⟨id,fun _ h=>h⟩
theorem kQ.fz (x:ad):kQ x.fz x:=by cases x<;>exact⟨id,fun _ h=>h⟩
theorem kQ.row (cs cs':List V):kQ (.row cs) (.row cs'):=⟨fun _=>rfl,fun _ h=>by cases h⟩
mutual
theorem V.lu {B B':Nat->Prop}{φ aE:Place}{H H':Hp}{w:World}(hB:∀b, ¬B b-> ¬B' b):∀ (v:V) (val:Value),(∀id∈v.refs,kQ (H'.o id) (H.o id)/\aE id=φ id/\H'.us id)->V.den B φ H w v val->V.den B' aE H' w v val
 | .d x,val,_,h=>D.aS (w:=w) (w':=w) (fun b _ hn=>⟨rfl,hB b hn⟩) x val h
 | .aJ,_,_,h=>h
 | .aa,_,_,_=>trivial
 | .fH,_,_,h=>h
 | .q9 es,val,_,h=>⟨D.aS (w:=w) (w':=w) (fun b _ hn=>⟨rfl,hB b hn⟩) (.sl es) val h.1,h.2⟩
 | .agg cs,val,hr,h=>by
   obtain⟨a,rfl,h1,h2⟩:=h
   exact⟨a,rfl,V.eX hB cs _ xf h1,h2⟩
 | .bT cs,val,hr,h=>by
   obtain⟨a,rfl,h1⟩:=h
   exact⟨a,rfl,V.eX hB cs _ xf h1⟩
 | .ptr id off,val,hr,h=>by
   exact Se
 | .osl id ep,val,hr,h=>by
   obtain⟨a,b,c⟩:=hr id yB
   obtain⟨h0,h1,h2⟩:=h
   refine⟨h0,c,fun e he=> ?_⟩
   obtain⟨x,y⟩:=h2 e (a.2 e he)
   exact⟨x,fun heq=>(y heq).trans b.symm⟩
 | .pe id ep i sz off,val,hr,h=>by
   obtain⟨a,b,c⟩:=hr id yB
   obtain⟨h0,h1,h2⟩:=h
   refine⟨h0,c,fun e he=> ?_⟩
   obtain⟨x,y⟩:=h2 e (a.2 e he)
   exact O9
 | .pp cs off,val,_,h=>by
   obtain⟨a,ev,h1,h2,h3,h5,h4⟩:=h
   exact Xq
 | .func fn first cap,val,hr,h=>by
   obtain⟨f,c,rfl,h1,h2⟩:=h
   exact⟨f,c,rfl,V.eX hB first _ (fun id au=>hr id (by simp[V.refs,au])) h1,V.eX hB cap _ (fun id au=>hr id (by simp[V.refs,au])) h2⟩
 | .iface t x,val,hr,h=>by
   obtain⟨u,rfl,h⟩:=h
   exact⟨u,rfl,V.lu hB x u xf h⟩
 | .xn id off n,val,hr,h=>by
   exact Se
 | .mp id,val,hr,h=>by
   obtain⟨a,b,c⟩:=hr id yB
   obtain⟨h0,h1,h2⟩:=h
   refine⟨h0,c,fun cz=> ?_⟩
   exact(h2 (a.1 cz)).trans b.symm
 | .j7 id,val,hr,h=>by
   exact Se
theorem V.eX {B B':Nat->Prop}{φ aE:Place}{H H':Hp}{w:World}(hB:∀b, ¬B b-> ¬B' b):∀ (vs:List V) (vals:List Value),(∀id∈V.aQ vs,kQ (H'.o id) (H.o id)/\aE id=φ id/\H'.us id)->V.aC B φ H w vs vals->V.aC B' aE H' w vs vals
 |[],_,_,h=>h
 |v::vs,_,hr,h=>by
  obtain⟨u,us,rfl,h1,h2⟩:=h
  exact⟨u,us,rfl,V.lu hB v u (fun id au=>hr id (by simp[V.aQ,au])) h1,V.eX hB vs us (fun id au=>hr id (by simp[V.aQ,au])) h2⟩
end
mutual
theorem V.ly {B:Nat->Prop}{φ:Place}{H:Hp}{w:World}:∀ (v:V) (val:Value),V.den B φ H w v val->∀id∈v.refs,H.us id
 | .osl id ep,_,h,j,hj| .ptr id off,_,h,j,hj| .pe id ep i sz off,_,h,j,hj| .xn id off n,_,h,j,hj| .mp id,_,h,j,hj| .j7 id,_,h,j,hj=>by simp[V.refs]at hj;subst hj;exact h.2.1
 | .agg cs,_,h,j,hj=>by obtain⟨a,rfl,h,_⟩:=h;exact V.eK cs _ h j (by simpa[V.refs]using hj)
 | .bT cs,_,h,j,hj=>by obtain⟨a,rfl,h⟩:=h;exact V.eK cs _ h j (by simpa[V.refs]using hj)
 | .func fn first cap,_,h,j,hj=>by
   obtain⟨f,c,rfl,h1,h2⟩:=h
   rcases List.mem_append.1 (show j∈V.aQ first++V.aQ cap by simpa[V.refs]using hj)with hj|hj
   ·exact V.eK first _ h1 j hj
   ·exact V.eK cap _ h2 j hj
 | .iface t x,_,h,j,hj=>by obtain⟨u,rfl,h⟩:=h;exact V.ly x u h j (by simpa[V.refs]using hj)
 | .d _,_,_,_,hj| .aJ,_,_,_,hj| .pp _ _,_,_,_,hj| .aa,_,_,_,hj| .q9 _,_,_,_,hj| .fH,_,_,_,hj=>by simp[V.refs]at hj
theorem V.eK {B:Nat->Prop}{φ:Place}{H:Hp}{w:World}:∀ (vs:List V) (vals:List Value),V.aC B φ H w vs vals->∀id∈V.aQ vs,H.us id
 |[],_,_,j,hj=>by simp[V.aQ]at hj
 |v::vs,_,h,j,hj=>by
  obtain⟨u,us,rfl,h1,h2⟩:=h
  rcases List.mem_append.1 (show j∈v.refs++V.aQ vs by simpa[V.aQ]using hj)with hj|hj
  ·exact V.ly v u h1 j hj
  ·exact V.eK vs us h2 j hj
end
def eL(so:Nat->ad)(gone:Nat->Prop)(ty:TypeId)(sz:Nat)(es:List D)(x:V):Prop:=
 (x= .aJ/\es=[]/\0<sz)\/∃id ep,gone id/\x= .osl id ep/\so id= .arr ep ty sz es
theorem KH{xs ys:List Nat}:kE xs ys=true↔∀x∈xs,x∉ys:=by
 simp[kE,List.all_eq_true]
def ny(env:Nat->V):List V->Nat->Prop
 |[],_=>True
 |v::l,i=>(v= .aa\/v=env i)/\ny env l (i+1)
theorem GN{env:Nat->V}{i:Nat}:ny env [] i:=trivial
theorem Dd{env:Nat->V}{l:List V}{i:Nat}(h:ny env l (i+1)):ny env (.aa::l) i:=⟨.inl rfl,h⟩
theorem Mr{env:Nat->V}{l:List V}{i:Nat}{v:V}(he:env i=v)(h:ny env l (i+1)):ny env (v::l) i:=⟨.inr he.symm,h⟩
theorem B9{env:Nat->V}:∀ (l:List V) (i:Nat),ny env l i->∀j,aX l j= .aa\/aX l j=env (i+j)
 |[],i,_,j=>by rw[qA];exact .inl rfl
 |v::l,i,h,0=>by rw[nX];exact h.1
 |v::l,i,h,j+1=>by
  rw[nY]
  have:=B9 l (i+1) h.2 j
  rwa [show i+1+j=i+(j+1) by omega]at this
theorem HG{P:Program}{n bq:Nat}{gq:Operand}{ps:List Nat}{x y:IC}{Q:fk->S->Prop}{e:Nat->V}{o:Nat->ad}{nx:Nat}{f:FuncId}{cap:List V}(env:List V)(he:ny e env 0)
 (h:cI P f (.j7 nx::cap) (az o nx (.loop P.funcs.size n env ps x y .ready none)) (nx+1)
  (fun _ o' nx'=>∃nf m en p c d st pd,o' nx= .loop nf m en p c d st pd/\st≠ .busy/\qp Q pd ⟨e,az o' nx (.loop nf m en p c d .exhausted pd),nx'⟩) (fun v o' nx'=>Q (.bF v) ⟨e,o',nx'⟩)):
 tM P n bq false gq ps x y Q ⟨e,o,nx⟩ (.func (.func f) [] cap):=by
 unfold tM Bl
 refine⟨rfl, .inl ⟨env,fun i=> ?_, .inl h⟩⟩
 have:=B9 env 0 he i
 rwa [Nat.zero_add]at this
theorem bA.trans {b:Nat}{s s' s'':S}(h1:bA b s s')(h2:bA b s' s''):bA b s s'':=fun M φ w tm hH hd=>by
 obtain⟨aE,a1,a2,a3,a4,a5,a6⟩:=h1 M φ w tm hH hd
 obtain⟨Dg,b1,b2,b3,b4,b5,b6⟩:=h2 M aE w tm a1 a2
 refine⟨Dg,b1,b2,fun k hk=>a3 k (b3 k hk),b4,fun id au hr=> ?_,fun id e' au he=> ?_⟩
 ·obtain⟨c1,c2⟩:=b5 id au hr
  obtain⟨c3,c4⟩:=a5 id au c1
  exact⟨c3,c2.trans c4⟩
 ·obtain⟨e1,c1,c2,c3⟩:=b6 id e' au he
  obtain⟨e0,d1,d2,d3⟩:=a6 id e1 au c1
  exact⟨e0,d1,Nat.le_trans d2 c2,fun h=>(c3 af).trans (d3 af)⟩
theorem NL{P:Program}{n bq:Nat}{gq:Operand}{ps:List Nat}{x y:IC}{Q:fk->S->Prop}{s s':S}{g:V}(hle:bA bq s s')(h:tM P n bq false gq ps x y Q s' (s'.ev gq)):tM P n bq false gq ps x y Q s g:=by
 unfold tM at h|-
 obtain⟨h1,h2⟩:=h
 refine⟨h1, .inr ?_⟩
 rcases h2 with h2|⟨s'',JQ,h2⟩
 ·exact⟨s',hle,h2⟩
 ·exact⟨s'',hle.trans JQ,h2⟩
def rW(P:Program)(n b id:Nat)(eR:IC)(K X:V->(Nat->ad)->Nat->Prop)(e:fk)(s:S):Prop:=
 match e with
 | .normal=>∃nf m en p c d pd,s.o id= .loop nf m en p c d .ready pd/\kN P n b true eR (kP id K X) ⟨s.env,az s.o id (.loop nf m en p c d .busy pd),s.nx⟩
 | .bF v=>X v s.o s.nx
 |_=>False
theorem dB.aI {P:Program}{n:Nat}(bn:P.follows .mixedOrders=true){id:Nat}{args:List V}{o:Nat->ad}{nx:Nat}{K X:V->(Nat->ad)->Nat->Prop}{env:List V}{ps:List Nat}{jr eR:IC}{st:LoopState}{pd:Option jR}
 (ho:o id= .loop P.funcs.size n env ps jr eR st pd) (b8:id<nx) (DZ:ps.all (fun t=>decide (t<n))=true) (hl:args.length=ps.length)
 (h:kN P n nx true jr (rW P n nx id eR K X) ⟨pq (aX env) ps args,o,nx⟩):dB P id args o nx K X:=by
 refine dB.vg bn ho b8 DZ hl (dR jr _ _ _ (fun e s h=> ?_) h)
 cases e with
 |normal=>
  obtain⟨nf,m,en,p,c,d,pd,h1,h2⟩:=h
  exact⟨nf,m,en,p,c,d,pd,h1,dR eR _ _ _ (fun _ _ h=>h) h2⟩
 |bF v=>exact h
 |_=>exact h.elim
theorem zO{P:Program}{n b id:Nat}{eR:IC}{K X:V->(Nat->ad)->Nat->Prop}{s:S}{nf m:Nat}{en:List V}{p:List Nat}{c d:IC}{pd:Option jR}(h:s.o id= .loop nf m en p c d .ready pd)
 (h2:kN P n b true eR (kP id K X) ⟨s.env,az s.o id (.loop nf m en p c d .busy pd),s.nx⟩):rW P n b id eR K X .normal s:=⟨nf,m,en,p,c,d,pd,h,h2⟩
def wU:List Nat->Nat->Nat->Nat
 |[],nx,k=>nx+k
 |i::_,_,0=>i
 |_::l,nx,k+1=>wU l nx k
theorem zP:∀ (l:List Nat) (nx k:Nat),wU l nx k∈l\/nx<=wU l nx k
 |[],nx,k=> .inr (Nat.le_add_right _ _)
 |i::_,_,0=> .inl (List.mem_cons_self ..)
 |_::l,nx,k+1=>(zP l nx k).imp (List.mem_cons_of_mem _) id
theorem Ca{nx:Nat}:∀ (l:List Nat),l.Nodup->(∀i∈l,i<nx)->∀a b,wU l nx a=wU l nx b->a=b
 |[],_,_,a,b,e=>by simp only[wU]at e;omega
 |i::l,_,_,0,0,_=>rfl
 |i::l,hd,hl,0,b+1,e=>by
  simp only[wU]at e
  rcases zP l nx b with h|h
  ·rw[<- e]at h;exact absurd h (List.nodup_cons.1 hd).1
  ·have:=hl i (List.mem_cons_self ..);omega
 |i::l,hd,hl,a+1,0,e=>by
  simp only[wU]at e
  rcases zP l nx a with h|h
  ·rw[e]at h;exact absurd h (List.nodup_cons.1 hd).1
  ·have:=hl i (List.mem_cons_self ..);omega
 |i::l,hd,hl,a+1,b+1,e=>by
  simp only[wU]at e
  rw[Ca l (List.nodup_cons.1 hd).2 (fun j hj=>hl j (List.mem_cons_of_mem _ hj)) a b e]
def NM(f:Nat->Nat)(x:List Nat×List Nat):List Nat×List Nat:=(x.1.map f,x.2.map f)
theorem vF{f:Nat->Nat}(hf:∀a b,f a=f b->a=b){xs ys:List Nat}(hd:kE xs ys=true):kE (xs.map f) (ys.map f)=true:=by
 rw[KH]at hd|-
 intro x hx hy
 obtain⟨a,ha,rfl⟩:=List.mem_map.1 hx
 obtain⟨b,hb,e⟩:=List.mem_map.1 hy
 rw[hf b a e]at hb
 exact hd a ha hb
theorem D7{f:Nat->Nat}(hf:∀a b,f a=f b->a=b){pr:List (List Nat)}(fp:List (List Nat×List Nat))(ho:eE pr fp=true):eE pr (fp.map (NM f))=true:=by
 unfold eE at ho|-
 rw[List.all_eq_true]at ho|-
 intro j hj
 rw[List.length_map]at hj
 have ho:=ho j hj
 rw[List.all_eq_true]at ho|-
 intro i hi
 have ho:=ho i hi
 have hm:∀k,(fp.map (NM f)).getD k ([],[])=NM f (fp.getD k ([],[])):=fun k=>by
  rw[List.getD_eq_getElem?_getD,List.getD_eq_getElem?_getD,List.getElem?_map]
  cases fp[k]? <;>rfl
 rw[hm,hm]
 rw[Bool.or_eq_true]at ho|-
 refine ho.imp (fun h=>h) (fun ho=> ?_)
 rw[Bool.and_eq_true,Bool.and_eq_true]at ho|-
 exact⟨⟨vF hf ho.1.1,vF hf ho.1.2⟩,vF hf ho.2⟩
theorem eM{ids:List Nat}{nx:Nat}(hd:ids.Nodup)(hl:∀i∈ids,i<nx){pr:List (List Nat)}(fp:List (List Nat×List Nat))(ho:eE pr fp=true):eE pr (fp.map (NM (wU ids nx)))=true:=
 D7 (Ca ids hd hl) fp ho
section
variable {P:Program}{KB:List Nat->Fp->Prop}{pr:List (List Nat)}{l:List bP}{fr:Nat}{fp:Fp}{bad ws:List Nat}{s:S}{d:Option Nat}{op:Op}
end
end
section
structure Gr where
 x:V
 ty:TypeId
 sz:Nat
 es:List D
def Gr.ok (so:Nat->ad)(gone:Nat->Prop)(g:Gr):Prop:=eL so gone g.ty g.sz g.es g.x
def KI(c:Nat)(G:List Gr)(so:Nat->ad)(gone:Nat->Prop)(v v':V):Prop:=
 v'= .aa\/(v'=v/\∀r∈v.refs,r<c)\/(∃i g,G[i]? =some g/\v'= .osl (c+i) 0/\v=g.x)\/∃y,v'= .d y/\dU so v=some y/\∀id∈v.ids,gone id/\∀g∈G,∀ep,g.x≠ .osl id ep
def gM(c:Nat)(G:List Gr)(so:Nat->ad)(gone:Nat->Prop)(env:Nat->V):List V->Nat->Prop
 |[],_=>True
 |v::l,i=>KI c G so gone (env i) v/\gM c G so gone env l (i+1)
def rX(c:Nat)(G:List Gr)(so:Nat->ad)(gone:Nat->Prop):List V->List V->Prop
 |[],[]=>True
 |v::l,v'::l'=>KI c G so gone v v'/\rX c G so gone l l'
 |_,_=>False
def wV(c:Nat)(G:List Gr)(so:Nat->ad)(gone:Nat->Prop)(x x':ad):Prop:=
 x'= .no\/(x=x'/\∀r∈x'.refs,r<c)\/∃cs cs',x= .row cs/\x'= .row cs'/\rX c G so gone cs cs'
section
variable {c:Nat}{G:List Gr}{so:Nat->ad}{gone:Nat->Prop}
theorem F0{env:Nat->V}:∀ (l:List V) (i:Nat),gM c G so gone env l i->∀j,KI c G so gone (env (i+j)) (aX l j)
 |[],i,_,j=>by rw[qA];exact .inl rfl
 |v::l,i,h,0=>by rw[nX];exact h.1
 |v::l,i,h,j+1=>by
  rw[nY]
  have:=F0 l (i+1) h.2 j
  rwa [show i+1+j=i+(j+1) by omega]at this
variable {env:Nat->V}{i:Nat}{l l':List V}{v:V}{y:D}
theorem eC:gM c G so gone env [] i:=trivial
theorem dw(h:gM c G so gone env l (i+1)):gM c G so gone env (.aa::l) i:=⟨.inl rfl,h⟩
theorem cN(he:env i= .d y)(h:gM c G so gone env l (i+1)):gM c G so gone env (.d y::l) i:=⟨.inr (.inl ⟨he.symm,fun r hr=>by rw[he]at hr;simp[V.refs]at hr⟩),h⟩
theorem jk(he:env i=v)(hr:∀r∈v.refs,r<c)(h:gM c G so gone env l (i+1)):gM c G so gone env (v::l) i:=⟨.inr (.inl ⟨he.symm,fun r Hb=>hr r (he ▸ Hb)⟩),h⟩
theorem iN(k:Nat){g:Gr}{n:Nat}(hg:G[k]? =some g)(hn:n=c+k)(he:env i=g.x)(h:gM c G so gone env l (i+1)):gM c G so gone env (.osl n 0::l) i:=⟨.inr (.inr (.inl ⟨k,g,hg,by rw[hn],he⟩)),h⟩
theorem jl(ht:dU so (env i)=some y)(hi:∀id∈(env i).ids,gone id/\∀g∈G,∀ep,g.x≠ .osl id ep)(h:gM c G so gone env l (i+1)):gM c G so gone env (.d y::l) i:=⟨.inr (.inr (.inr ⟨y,rfl,ht,hi⟩)),h⟩
theorem kT:rX c G so gone [] []:=trivial
theorem uw(h:rX c G so gone l l'):rX c G so gone (.d y::l) (.d y::l'):=⟨.inr (.inl ⟨rfl,fun r hr=>by simp[V.refs]at hr⟩),h⟩
theorem R7(hr:∀r∈v.refs,r<c)(h:rX c G so gone l l'):rX c G so gone (v::l) (v::l'):=⟨.inr (.inl ⟨rfl,hr⟩),h⟩
theorem rm(k:Nat){g:Gr}{n:Nat}(hg:G[k]? =some g)(hn:n=c+k)(he:v=g.x)(h:rX c G so gone l l'):rX c G so gone (v::l) (.osl n 0::l'):=⟨.inr (.inr (.inl ⟨k,g,hg,by rw[hn],he⟩)),h⟩
theorem kx{x:ad}:wV c G so gone x .no:= .inl rfl
theorem a7{x x':ad}(h:x=x')(hr:∀r∈x'.refs,r<c):wV c G so gone x x':= .inr (.inl ⟨h,hr⟩)
theorem kS{x:ad}{cs cs':List V}(h:x= .row cs)(hr:rX c G so gone cs cs'):wV c G so gone x (.row cs'):= .inr (.inr ⟨cs,cs',h,rfl,hr⟩)
end
theorem qE{c:Nat}{G:List Gr}{so:Nat->ad}{gone:Nat->Prop}{B B':Nat->Prop}{φ aE:Place}{H H':Hp}{w:World}(hc:∀v v' val,KI c G so gone v v'->V.den B φ H w v val->V.den B' aE H' w v' val):
 ∀ (l l':List V) (vals:List Value),rX c G so gone l l'->V.aC B φ H w l vals->V.aC B' aE H' w l' vals
 |[],[],_,_,h=>h
 |v::l,v'::l',_,h,hd=>by
  obtain⟨u,us,rfl,h1,h2⟩:=hd
  exact⟨u,us,rfl,hc _ _ _ h.1 h1,qE hc l l' us h.2 h2⟩
 |[],_::_,_,h,_=>h.elim
 |_::_,[],_,h,_=>h.elim
def KJ(φ:Place)(c:Nat)(G:List Gr):Place:=fun id=>if id<c then φ id else match G[id - c]? with
 |some g=>(match g.x with| .osl j _=>φ j|_=> .slice none 0 0)
 |none=>φ id
theorem bA.see (gone:Nat->Prop)(G:List Gr)(c:Nat){b:Nat}{e:Nat->V}{so:Nat->ad}{m:Nat}(l:List V){o':Nat->ad}{nx':Nat}(tS:nx'=c+G.length)(hb:b<=c)
 (ho:∀id,id<c->wV c G so gone (so id) (o' id)) (hG:∀i g,G[i]? =some g->o' (c+i)= .arr 0 g.ty g.sz g.es/\g.ok so gone) (hh:∀id,nx'<=id->o' id= .no) (ye:∀id,gone id->id<c->o' id= .no)
 (SK:∀ (i j:Nat) (gi gj:Gr) (id ep e7:Nat),G[i]? =some gi->G[j]? =some gj->gi.x= .osl id ep->gj.x= .osl id e7->i=j) (he:gM c G so gone e l 0):bA b ⟨e,so,m⟩ ⟨aX l,o',nx'⟩:=by
 subst tS
 intro M φ w tm hH hd
 let aE:Place:=KJ φ c G
 let H':Hp:=hp o' (c+G.length)
 let H:Hp:=⟨so,fun id=>id<m⟩
 have HH:∀id,id<c->aE id=φ id:=fun id au=>if_pos au
 have KK:∀i g,G[i]? =some g->aE (c+i)=(match g.x with| .osl j _=>φ j|_=> .slice none 0 0):=fun i g hg=>by
  show KJ φ c G (c+i)=_
  unfold KJ
  rw[if_neg (by omega),show c+i - c=i by omega,hg]
 have hold:∀id k,(o' id).live=true->dT (aE id)=some k->∃j,(so j).live=true/\dT (φ j)=some k/\((id<c/\j=id)\/∃i g ep,id=c+i/\G[i]? =some g/\gone j/\g.x= .osl j ep):=by
  intro id k h1 h2
  by_cases b8:id<c
  ·rw[HH id b8]at h2
   rcases ho id b8 with h3|⟨h3,_⟩|⟨cs,cs',h3,h4,_⟩
   ·rw[h3]at h1;cases h1
   ·exact⟨id,by rw[h3];exact h1,h2, .inl ⟨b8,rfl⟩⟩
   ·exact⟨id,by rw[h3];rfl,h2, .inl ⟨b8,rfl⟩⟩
  ·by_cases Am:c+G.length<=id
   ·rw[hh id Am]at h1;cases h1
   ·obtain⟨i,rfl⟩:∃i,id=c+i:=⟨id - c,af⟩
    obtain⟨g,hg⟩:∃g,G[i]? =some g:=⟨G[i]'af,aF⟩
    rw[KK i g hg]at h2
    obtain⟨_,aW⟩:=hG i g hg
    rcases aW with⟨h3,_,_⟩|⟨j,ep,hj,h3,mo⟩
    ·rw[h3]at h2;cases h2
    ·rw[h3]at h2
     exact⟨j,by rw[mo];rfl,h2, .inr ⟨i,g,ep,rfl,hg,hj,h3⟩⟩
 have cH:∀k,cD aE H' k->cD φ H k:=by
  rintro k ⟨id,h1,h2⟩
  obtain⟨j,g1,g2,_⟩:=hold id k h1 h2
  exact⟨j,g1,g2⟩
 have hB:∀k, ¬ao M φ H k-> ¬ao M aE H' k:=fun k h h'=>h (h'.imp id (cH k))
 have Fe:∀id,id<c->kQ (H'.o id) (H.o id)/\aE id=φ id/\H'.us id:=fun id au=>by
  refine⟨?_,HH id au,(by show id<c+G.length;omega)⟩
  show kQ (o' id) (so id)
  rcases ho id au with h3|⟨h3,_⟩|⟨cs,cs',h3,h4,_⟩
  ·rw[h3];exact⟨fun h=>(by cases h),fun e h=>(by cases h)⟩
  ·exact kQ.rfl' h3.symm
  ·rw[h3,h4];exact kQ.row _ _
 have fi:∀ (v:V) (val:Value),(∀r∈v.refs,r<c)->V.den (ao M φ H) φ H w v val->V.den (ao M aE H') aE H' w v val:=fun v val hr h=>
  V.lu (H:=H) (H':=H') hB v val (fun id au=>Fe id (hr id au)) h
 have mK:∀ (v:List V) (val:List Value),(∀r∈V.aQ v,r<c)->V.aC (ao M φ H) φ H w v val->V.aC (ao M aE H') aE H' w v val:=fun v val hr h=>
  V.eX (H:=H) (H':=H') hB v val (fun id au=>Fe id (hr id au)) h
 have aef:∀ (v:V) (y:D) (val:Value),dU so v=some y->(∀id∈v.ids,gone id/\∀g∈G,∀ep,g.x≠ .osl id ep)->V.den (ao M φ H) φ H w v val->D.den (ao M aE H') w y val:=fun v y val h1 h2 h3=>by
  obtain⟨f1,f2,f3,f4,f5⟩:=cQ (H:=H) hH v.ids (fun id au=>cK v val h3 id au)
  have UM:∀k,cD φ (H.put (bL H.o v.ids)) k->cD φ H k:=by
   rintro k ⟨id,g1,g2⟩
   by_cases au:id∈v.ids
   ·rw[f3 id au]at g1
    refine⟨id, ?_,g2⟩
    revert g1
    cases H.o id<;>simp[ad.fz,ad.live]
   ·rw[f4 id au]at g1;exact⟨id,g1,g2⟩
  have h4:V.den (ao M φ (H.put (bL H.o v.ids))) φ (H.put (bL H.o v.ids)) w v val:=
   V.lu (H:=H) (fun k h h'=>h (h'.imp id (UM k))) v val (fun id au=>by
     have dY:H.us id:=(V.ly v val h3) id au
     refine⟨?_,rfl,(f5 id).2 dY⟩
     by_cases hm:id∈v.ids
     ·rw[f3 id hm];exact kQ.fz _
     ·rw[f4 id hm];exact kQ.rfl' rfl) h3
  have h5:=eT f1 (o:=so) v y val (fun id au=>f3 id au) h1 h4
  refine D.aS (w:=w) (w':=w) (fun k _ hn=>⟨rfl,fun hk=>hn (hk.imp id ?_)⟩) y val h5
  rintro⟨id,g1,g2⟩
  obtain⟨j,k1,k2,k3⟩:=hold id k g1 g2
  refine⟨j, ?_,k2⟩
  have:j∉v.ids:=fun hm=>by
   obtain⟨k4,k5⟩:=h2 j hm
   rcases k3 with⟨k6,k7⟩|⟨i,g,ep,k6,k8,k9,k10⟩
   ·subst k7
    have:=ye _ k4 k6
    have g1:(o' j).live=true:=g1
    rw[this]at g1
    cases g1
   ·exact k5 g (List.mem_of_getElem? k8) ep k10
  rw[f4 j this];exact k1
 have F1:∀i g val,G[i]? =some g->V.den (ao M φ H) φ H w g.x val->V.den (ao M aE H') aE H' w (.osl (c+i) 0) val:=by
  intro i g val hg this
  obtain⟨Is,aW⟩:=hG i g hg
  have b8:c+i<c+G.length:=by have:=(List.getElem?_eq_some_iff.1 hg).1;omega
  rcases aW with⟨h3,_,_⟩|⟨j,ep,hj,h3,mo⟩
  ·rw[h3]at this
   simp only[V.den]at this
   rw[this]
   refine⟨rfl,b8,fun e' pM=> ?_⟩
   have pM:(o' (c+i)).cf=some e':=pM
   rw[Is]at pM
   simp only[ad.cf,Option.some.injEq]at pM
   subst pM
   exact⟨Nat.le_refl _,fun _=>by rw[KK i g hg,h3]⟩
  ·rw[h3]at this
   obtain⟨g1,g2,g3⟩:=this
   refine⟨g1,b8,fun e' pM=> ?_⟩
   have pM:(o' (c+i)).cf=some e':=pM
   rw[Is]at pM
   simp only[ad.cf,Option.some.injEq]at pM
   subst pM
   have uI:(H.o j).cf=some ep:=by show(so j).cf=_;rw[mo];rfl
   exact⟨Nat.le_refl _,fun _=>by rw[KK i g hg,h3];exact(g3 ep uI).2 rfl⟩
 have Rk:∀v v' val,KI c G so gone v v'->V.den (ao M φ H) φ H w v val->V.den (ao M aE H') aE H' w v' val:=by
  intro v v' val h h1
  rcases h with rfl|⟨rfl,h2⟩|⟨i,g,hg,rfl,rfl⟩|⟨y,rfl,h2,h3⟩
  ·trivial
  ·exact fi _ _ h2 h1
  ·exact F1 i g _ hg h1
  ·exact aef v y val h2 h3 h1
 refine⟨aE,⟨fun id=> ?_,fun id hu=>hh id (by have: ¬id<c+G.length:=hu;omega),fun i j k h1 h2 h3 h4=> ?_,fun k hk=>hH.ours k (cH k hk),hH.Ak⟩,fun i=> ?_,cH,by show b<=c+G.length;omega,fun id au hr=> ?_,fun id e' au pM=> ?_⟩
 ·have bf:aO M φ H w id:=hH.ok id
  show aO M aE H' w id
  unfold aO at bf|-
  by_cases b8:id<c
  ·rcases ho id b8 with h3|⟨h3,hrefs⟩|⟨cs,cs',h3,h4,cz⟩
   ·have e2:H'.o id= .no:=h3
    rw[e2];trivial
   ·have e1:H.o id=o' id:=h3
    have e2:H'.o id=o' id:=rfl
    rw[e1]at bf
    rw[e2,HH id b8]
    cases ID:o' id with
    |no=>trivial
    |row cs=>
     simp only[ID]at bf hrefs|-
     exact YG
    |arr ep ty sz es=>
     simp only[ID]at bf|-
     obtain⟨k1,xs,k2,evs,k3,k4,k5⟩:=bf
     exact XY
    |tw ep es=>
     simp only[ID]at bf|-
     exact D.aS (fun b _ hn=>⟨rfl,hB b hn⟩) _ _ bf
    |map kt vt es=>
     simp only[ID]at bf|-
     obtain⟨b,es',clock,k1,k2,k4,k3⟩:=bf
     exact XU
    |bU l=>
     simp only[ID]at bf|-
     exact kF.mono (fun b _ hn=>⟨rfl,hB b hn⟩) bf
    |ra l last=>
     simp only[ID]at bf|-
     obtain⟨b,k1,k2⟩:=bf
     exact O4
    |yI s pos=>
     simp only[ID]at bf|-
     exact bf
    |loop nf n env ps a b st pd=>
     simp only[ID]at bf hrefs|-
     exact Pp
   ·have e1:H.o id= .row cs:=h3
    have e2:H'.o id= .row cs':=h4
    rw[e1]at bf
    rw[e2,HH id b8]
    obtain⟨b,dM,ty,k1,k2,k3,k4⟩:=bf
    exact⟨b,dM,ty,k1,k2,qE Rk _ _ _ cz k3,k4⟩
  ·by_cases Am:c+G.length<=id
   ·have e2:H'.o id= .no:=hh id Am
    rw[e2];trivial
   ·obtain⟨i,rfl⟩:∃i,id=c+i:=⟨id - c,af⟩
    obtain⟨g,hg⟩:∃g,G[i]? =some g:=⟨G[i]'af,aF⟩
    obtain⟨Is,aW⟩:=hG i g hg
    have e2:H'.o (c+i)= .arr 0 g.ty g.sz g.es:=Is
    rw[e2]
    rcases aW with⟨h3,h4,dK⟩|⟨j,ep,hj,h3,mo⟩
    ·rw[h4]
     refine⟨dK,[], ?_,[],aF,aF,rfl⟩
     rw[KK i g hg,h3]
     exact World.ownsRow_nil _ _ _ _
    ·have this:aO M φ H w j:=hH.ok j
     unfold aO at this
     have e3:H.o j= .arr ep g.ty g.sz g.es:=mo
     simp only[e3]at this
     obtain⟨k1,xs,k2,evs,k3,k4,k5⟩:=this
     exact⟨k1,xs,by rw[KK i g hg,h3];exact k2,evs,k3,k4,D.aT (fun b _ hn=>⟨rfl,hB b hn⟩) _ _ k5⟩
 ·obtain⟨i',a1,a2,a3⟩:=hold i k h1 h3
  obtain⟨j',b1,b2,b3⟩:=hold j k h2 h4
  have:=hH.apart i' j' k a1 b1 a2 b2
  subst this
  have fG:∀Ao,(o' Ao).live=true->Ao<c->gone Ao->False:=fun Ao g1 g2 g3=>by
   rw[ye _ g3 g2]at g1
   cases g1
  rcases a3 with⟨a3,a4⟩|⟨ia,ga,ea,a3,a4,a5,a6⟩<;>rcases b3 with⟨b3,b4⟩|⟨ib,gb,eb,b3,b4,b5,b6⟩
  ·omega
  ·exact(fG i h1 a3 (a4 ▸ b5)).elim
  ·exact(fG j h2 b3 (b4 ▸ a5)).elim
  ·have:=SK ia ib ga gb _ _ _ a4 b4 a6 b6
   omega
 ·have hi:=F0 l 0 he i
  rw[Nat.zero_add]at hi
  exact Rk _ _ _ hi (hd i)
 ·have b8:id<c:=af
  have hr:(o' id).cg=true:=hr
  exact⟨(Fe id b8).1.1 hr,HH id b8⟩
 ·have b8:id<c:=af
  have pM:(o' id).cf=some e':=pM
  exact⟨e',(Fe id b8).1.2 e' pM,Nat.le_refl _,fun _=>HH id b8⟩
theorem bA.abS (gone:Nat->Prop)(c:Nat){b:Nat}{e:Nat->V}{so:Nat->ad}{m:Nat}(l:List V){o':Nat->ad}(hb:b<=c)
 (ho:∀id,id<c->wV c [] so gone (so id) (o' id)) (hh:∀id,c<=id->o' id= .no) (ye:∀id,gone id->id<c->o' id= .no) (he:gM c [] so gone e l 0):bA b ⟨e,so,m⟩ ⟨aX l,o',c⟩:=
 bA.see gone [] c l rfl hb ho (fun i g h=>by cases h) hh ye (fun i j gi gj id ep e7 h=>by cases h) he
theorem bA.ou (gone:Nat->Prop)(x:V)(c:Nat){ty:TypeId}{sz:Nat}{es:List D}{b:Nat}{e:Nat->V}{so:Nat->ad}{m:Nat}(l:List V){o':Nat->ad}(hb:b<=c)
 (ho:∀id,id<c->wV c [⟨x,ty,sz,es⟩] so gone (so id) (o' id)) (hc:o' c= .arr 0 ty sz es) (hx:eL so gone ty sz es x) (hh:∀id,c+1<=id->o' id= .no) (ye:∀id,gone id->id<c->o' id= .no)
 (he:gM c [⟨x,ty,sz,es⟩] so gone e l 0):bA b ⟨e,so,m⟩ ⟨aX l,o',c+1⟩:=
 bA.see gone [⟨x,ty,sz,es⟩] c l rfl hb ho (fun i g h=>by
  match i,h with
  |0,h=>simp at h;subst h;exact⟨hc,hx⟩) hh ye (fun i j gi gj id ep e7 h h' _ _=>by
  match i,j,h,h' with
  |0,0,_,_=>rfl) he
theorem lt1{P:Nat->Prop}(h:P 0):∀id,id<1->P id:=fun id au=>by
 have e:id=0:=af
 rw[e];exact h
theorem lt2{P:Nat->Prop}(h:P 0)(h1:P 1):∀id,id<2->P id:=fun id au=>by
 rcases(by omega:id=0\/id=1)with rfl|rfl<;>assumption
theorem lt0{P:Nat->Prop}:∀id,id<0->P id:=fun id au=>af
@[go_sem] theorem aeK (b:Bool):(b==false)= !b:=AF
@[go_sem] theorem aeL (b:Bool):(b==true)=b:=AF
@[go_sem] theorem abT (c:Bool) (v:V):V.zu c (V.zu c v)=V.zu c v:=by cases c<;>rfl
@[go_sem] theorem abU (c:Bool):(c&&c)=c:=by cases c<;>rfl
@[go_sem] theorem WI {α:Type} (f:α->D) (l:List α) (n:Nat) (h:∀x,(f x).cells.length=n):((l.map f).all fun z=>z.cells.length==n)=true:=by
  simp[List.all_eq_true,h]
attribute [go_sem] implies_true
attribute [go_sem] Option.isSome_none Option.getD_some Option.getD_none
theorem structOf{P:Program}{t:TypeId}(h:(match P.underlying t with|some (.struct _)=>true|_=>false)=true):∃fs,P.underlying t=some (.struct fs):=by
 split at h
 ·exact⟨_,by assumption⟩
 ·cases h
theorem bc{pr:List (List Nat)}{fp:List (List Nat×List Nat)}(h:fp.all (fun x=>x.2.isEmpty)=true):eE pr fp=true:=by
 have e:∀i,(fp.getD i ([],[])).2=[]:=fun i=>by
  rw[List.getD_eq_getElem?_getD]
  cases hi:fp[i]? with
  |none=>rfl
  |some x=>simpa using List.all_eq_true.1 h x (List.mem_of_getElem? hi)
 simp only[eE,List.all_eq_true,e,kE,List.all_nil,Bool.and_self,Bool.or_true,implies_true]
structure eA (base:Nat) (h o:Nat->ad) (nx:Nat):Prop where
 cm:Good o nx
 le:base<=nx
 eq:∀id,id<base->o id=h id
def StK(base:Nat)(h:Nat->ad)(v:V)(o:Nat->ad)(nx:Nat)(K:V->(Nat->ad)->Nat->Prop):Prop:=
 ∀o' nx',nx<=nx'->eA base h o' nx'->(∀id,base<=id->id<nx->o' id=o id)->K v o' nx'
def vG(P:Program)(g:FuncId)(args:List V)(base:Nat)(h h2:Nat->ad)(v:V):Prop:=
 ∀o nx,eA base h o nx->∀K X,StK base h2 v o nx K->cI P g args o nx K X
theorem eA.az {base:Nat}{h o:Nat->ad}{nx m i:Nat}{x:ad}(hI:eA base h o nx)(hb:base<=i)(hi:i<m)(hm:nx<=m)(hx:x.refs.all (fun r=>decide (r<m))=true):eA base h (YtlhemmpklhhgoaaGreat.az o i x) m:=
 ⟨(hI.cm.mono hm).az hi hx,Nat.le_trans hI.le hm,fun id au=>by rw[ae _ _ _ _ (by omega)];exact hI.eq id au⟩
theorem eA.mono {base:Nat}{h o:Nat->ad}{nx m:Nat}(hI:eA base h o nx)(hm:nx<=m):eA base h o m:=⟨hI.cm.mono hm,Nat.le_trans hI.le hm,hI.eq⟩
def ext(base:Nat)(h o:Nat->ad):Nat->ad:=fun id=>if id<base then h id else o id
theorem eA.ext {base c:Nat}{h o:Nat->ad}{nx:Nat}(hI:eA base h o nx)(hc:c<=nx)(hb:base<=c):eA c (YtlhemmpklhhgoaaGreat.ext base h o) o nx:=
 ⟨hI.cm,hc,fun id _=>by unfold YtlhemmpklhhgoaaGreat.ext;split<;>first|exact hI.eq id (by assumption)|rfl⟩
theorem vG.ext {P:Program}{g:FuncId}{args:List V}{base c:Nat}{h h2:Nat->ad}{v:V}(hS:vG P g args base h h2 v)(hb:base<=c)(o0:Nat->ad):vG P g args c (YtlhemmpklhhgoaaGreat.ext base h o0) (YtlhemmpklhhgoaaGreat.ext base h2 o0) v:=by
 intro o nx hI K X hK
 refine hS o nx ⟨hI.cm,Nat.le_trans hb hI.le,fun id au=>by rw[hI.eq id (by omega)];unfold YtlhemmpklhhgoaaGreat.ext;rw[if_pos au]⟩ K X fun o' nx' h1 h2 h3=>hK o' nx' h1 ⟨h2.cm,Nat.le_trans hI.le h1,fun id au=> ?_⟩ (fun id h4 h5=>h3 id af h5)
 unfold YtlhemmpklhhgoaaGreat.ext
 split
 ·exact h2.eq id (by assumption)
 ·rename_i hn
  rw[h3 id (by omega) (by have:=hI.le;omega),hI.eq id au]
  unfold YtlhemmpklhhgoaaGreat.ext;rw[if_neg hn]
theorem StK.ext {base c:Nat}{h o:Nat->ad}{v:V}{o1:Nat->ad}{nx Ar:Nat}{K:V->(Nat->ad)->Nat->Prop}(hK:StK base h v o nx K)(hb:base<=c)(hn:nx<=Ar)(hc:nx<=c)(ho:∀id,base<=id->id<nx->o1 id=o id):StK c (YtlhemmpklhhgoaaGreat.ext base h o1) v o1 Ar K:=by
 intro o' nx' h1 h2 h3
 refine hK o' nx' af ⟨h2.cm,Nat.le_trans hb h2.le,fun id au=> ?_⟩ fun id h4 h5=> ?_
 ·rw[h2.eq id (by omega)];unfold YtlhemmpklhhgoaaGreat.ext;rw[if_pos au]
 ·rw[h2.eq id (by omega), <- ho id h4 h5];unfold YtlhemmpklhhgoaaGreat.ext;rw[if_neg (by omega)]
def aK{α σ:Type}(step:σ->α->σ×Bool)(s:σ):List α->σ×Bool
 |[]=>(s,true)
 |x::l=>if(step s x).2=true then aK step (step s x).1 l else((step s x).1,false)
theorem nz{P:Program}{id:Nat}{args:List V}{e:Nat->V}{o:Nat->ad}{nx:Nat}{K X:V->(Nat->ad)->Nat->Prop}(h:dB P id args o nx K X):xY P id K X ⟨e,o,nx⟩ args:=by unfold xY;exact h
theorem ug{α:Type}(f:Nat->α)(i:Nat)(x y:α):az (az f i x) i y=az f i y:=by
 funext j;simp only[az];split<;>rfl
attribute [go_sem] Int.cast_ofNat_Int
section
variable {P:Program}{n:Nat}{ps:List Nat}{x y:IC}{env:List V}{L:LoopState->Option jR->ad}
def iT(P:Program)(n:Nat)(env:List V)(ps:List Nat)(x y:IC)(L:LoopState->Option jR->ad):Prop:=∀st pd,L st pd= .loop P.funcs.size n env ps x y st pd
theorem D8{bq:Nat}{gq:Operand}{Q:fk->S->Prop}{e:Nat->V}{o:Nat->ad}{nx:Nat}{f:FuncId}{cap:List V}(env:List V)(he:ny e env 0)
 (h:∀L,iT P n env ps x y L->cI P f (.j7 nx::cap) (az o nx (L .ready none)) (nx+1)
  (fun _ o' nx'=>∃st pd,o' nx=L st pd/\st≠ .busy/\qp Q pd ⟨e,az o' nx (L .exhausted pd),nx'⟩) (fun v o' nx'=>Q (.bF v) ⟨e,o',nx'⟩)):
 tM P n bq false gq ps x y Q ⟨e,o,nx⟩ (.func (.func f) [] cap):=by
 refine HG env he ?_
 have:=h (fun st pd=> .loop P.funcs.size n env ps x y st pd) (fun _ _=>rfl)
 refine this.mono (fun v o' nx' hh=> ?_) (fun v o' nx' hh=>hh)
 obtain⟨st,pd,h1,h2,h3⟩:=hh
 exact⟨_,_,_,_,_,_,_,_,h1,h2,h3⟩
theorem vH(hL:iT P n env ps x y L)(bn:P.follows .mixedOrders=true){id:Nat}{args:List V}{o:Nat->ad}{nx:Nat}{K X:V->(Nat->ad)->Nat->Prop}{st:LoopState}{pd:Option jR}
 (ho:o id=L st pd) (b8:id<nx) (DZ:ps.all (fun t=>decide (t<n))=true) (hl:args.length=ps.length)
 (h:kN P n nx true x (rW P n nx id y K X) ⟨pq (aX env) ps args,o,nx⟩):dB P id args o nx K X:=
 dB.aI bn (ho.trans (hL st pd)) b8 DZ hl h
theorem nA(hL:iT P n env ps x y L){b id:Nat}{eR:IC}{K X:V->(Nat->ad)->Nat->Prop}{e:Nat->V}{o:Nat->ad}{nx:Nat}{pd:Option jR}(h:o id=L .ready pd)
 (h2:kN P n b true eR (kP id K X) ⟨e,az o id (L .busy pd),nx⟩):rW P n b id eR K X .normal ⟨e,o,nx⟩:=by
 refine zO (h.trans (hL _ _)) ?_
 rw[<- hL];exact h2
theorem rY(hL:iT P n env ps x y L){id:Nat}{K X:V->(Nat->ad)->Nat->Prop}{e:Nat->V}{o:Nat->ad}{nx:Nat}{st:LoopState}{pd:Option jR}(h:o id=L st pd)(k:K (.d (.bool true)) (az o id (L .ready none)) nx):kP id K X .normal ⟨e,o,nx⟩:=
 ⟨_,_,_,_,_,_,_,_,h.trans (hL _ _),by rw[<- hL];exact k⟩
theorem vI(hL:iT P n env ps x y L){id:Nat}{K X:V->(Nat->ad)->Nat->Prop}{e:Nat->V}{o:Nat->ad}{nx:Nat}{st:LoopState}{pd:Option jR}(h:o id=L st pd)(k:K (.d (.bool false)) (az o id (L .done (some .ret))) nx):kP id K X .ret ⟨e,o,nx⟩:=
 ⟨_,_,_,_,_,_,_,_,h.trans (hL _ _),by rw[<- hL];exact k⟩
theorem te(hL:iT P n env ps x y L){id j:Nat}{K X:V->(Nat->ad)->Nat->Prop}{e:Nat->V}{o:Nat->ad}{nx:Nat}{st:LoopState}{pd:Option jR}(h:o id=L st pd)(k:K (.d (.bool false)) (az o id (L .done (some (.exit j)))) nx):kP id K X (.exit j) ⟨e,o,nx⟩:=
 ⟨_,_,_,_,_,_,_,_,h.trans (hL _ _),by rw[<- hL];exact k⟩
theorem iT.no (hL:iT P n env ps x y L)(st:LoopState)(pd:Option jR):L st pd≠ .no:=by rw[hL];exact ad.noConfusion
theorem iT.refs (hL:iT P n env ps x y L)(st:LoopState)(pd:Option jR):(L st pd).refs=V.aQ env:=by rw[hL];rfl
end
end
attribute [go_sem_proc] Int.reduceBEq Int.reduceBNe Int.reduceLT Int.reduceLE Int.reduceEq Int.reduceNe Nat.reducePow Nat.reduceEqDiff Nat.reduceAdd Nat.reduceSub Nat.reduceMul Nat.reduceLeDiff Nat.reduceBEq Nat.reduceLT reduceIte reduceCtorEq Int.reduceToNat
attribute [go_sem] List.range_zero Option.isSome_some and_self List.cons.injEq
theorem GQ(n low high:Int):a8 Tryz.prog 114 [.i n, .i low, .i high] (.ret [.bool (dJ n low high)]):=by
 refine a8.aI mix aaE aF ?_
 rw[aaD]
 refine cB ?_
 rfl
theorem KL{t:Tm}{left depth:Int}(h:left<1\/depth<1):iF t left depth= -1:=by cases t;simp[iF,h]
theorem py{l:List Tm}{left depth:Int}(h:left<0):cp l left depth=left:=by
 cases l with
 |nil=>rfl
 |cons k l=>simp[cp,show ¬ (0<=left) by omega]
theorem KM:∀t:Tm,∀left depth:Int, -1<=iF t left depth/\(1<=left->iF t left depth<=left - 1)/\(left<1->iF t left depth= -1):=by
 refine Tm.ind fun op n kids ih left depth=> ?_
 have hs:∀ (l:List Tm) (left d:Int),(∀k∈l,k∈kids)-> -1<=left-> -1<=cp l left d/\cp l left d<=left:=by
  intro l
  induction l with
  |nil=>intro left d _ h;simp[cp,h]
  |cons k l UN=>
   intro left d hk h
   simp only[cp]
   split
   ·rename_i h0
    have h1:=ih k (hk k aF) left d
    have h2:=UN (iF k left d) d (fun x hx=>hk x mm) h1.1
    by_cases hl:1<=left
    ·have:=h1.2.1 hl;omega
    ·have:=h1.2.2 af;omega
   ·omega
 simp only[iF]
 split
 ·rename_i h;refine⟨af,fun h1=> ?_,fun _=>rfl⟩;omega
 ·rename_i h
  have:=hs kids (left - 1) (depth - 1) (fun _ h=>h) af
  exact⟨this.1,fun _=>this.2,fun h=>af⟩
theorem HI(l:List Tm)(left d:Int)(h: -1<=left): -1<=cp l left d/\cp l left d<=left:=by
 induction l generalizing left with
 |nil=>simp[cp,h]
 |cons k l UN=>
  simp only[cp]
  split
  ·have h1:=KM k left d
   have h2:=UN (iF k left d) h1.1
   by_cases hl:1<=left
   ·have:=h1.2.1 hl;omega
   ·have:=h1.2.2 af;omega
  ·omega
theorem oS(a b:List Tm)(left d:Int):cp (a++b) left d=cp b (cp a left d) d:=by
 induction a generalizing left with
 |nil=>rfl
 |cons k a ih=>
  simp only[List.cons_append,cp]
  split
  ·exact ih _
  ·rename_i h;rw[py (by omega)]
theorem Cb{l:List Tm}{i:Nat}{k:Tm}(hi:l[i]? =some k)(left d:Int)(h:0<=cp (l.take i) left d):cp (l.take (i+1)) left d=iF k (cp (l.take i) left d) d:=by
 rw[List.take_add_one,hi,oS]
 simp[cp,h]
theorem Cc{l:List Tm}{i:Nat}(left d:Int)(h:cp (l.take i) left d<0):cp l left d=cp (l.take i) left d:=by
 conv=>lhs;rw[<- List.take_append_drop i l]
 rw[oS,py h]
@[reducible] def nB (cs:List V):Nat->ad:=az (fun _=> .no) 0 (.row cs)
@[reducible] def D9 (cs ds:List V):Nat->ad:=az (az (fun _=> .no) 0 (.row cs)) 1 (.row ds)
theorem bX{cs:List V}(h:(ad.row cs).refs.all (fun r=>decide (r<1))=true):Good (nB cs) 1:=(Good.nil (nx:=1)).az af h
theorem ky{cs ds:List V}(h:(ad.row cs).refs.all (fun r=>decide (r<2))=true)(h2:(ad.row ds).refs.all (fun r=>decide (r<2))=true):Good (D9 cs ds) 2:=((Good.nil (nx:=2)).az af h).az af h2
theorem bA.d1 {e:Nat->V}{so o:Nat->ad}{m:Nat}(l:List V)(hg:Good o 1)(hm:1<=m)(h0:so 0=o 0)(he:lr 1 e l 0):bA 0 ⟨e,so,m⟩ ⟨aX l,o,1⟩:=
 bA.bJ l (Nat.zero_le _) hm hg (fun id h=>by obtain rfl:id=0:=af
                                             exact h0) he
theorem bA.d2 {e:Nat->V}{so o:Nat->ad}{m:Nat}(l:List V)(hg:Good o 2)(hm:2<=m)(h0:so 0=o 0)(h1:so 1=o 1)(he:lr 2 e l 0):bA 0 ⟨e,so,m⟩ ⟨aX l,o,2⟩:=
 bA.bJ l (Nat.zero_le _) hm hg (fun id h=>by
  rcases(by omega:id=0\/id=1)with rfl|rfl
  ·exact h0
  ·exact h1) he
@[reducible] def Tm.row (t:Tm):List V:=[.d (.i t.op), .d (.i t.n), .d (.sl (t.kids.map Tm.d))]
theorem Cd(t:Tm)(left depth:Int):iF t left depth=if left<1\/depth<1 then -1 else cp t.kids (left - 1) (depth - 1):=by cases t;simp[iF,Tm.kids]
theorem F2:∀t:Tm,t.fits->∀left depth:Int, -1<=left/\left<=1000000-> -1<=depth/\depth<=1000000->a8 Tryz.prog 87 [t.d, .i left, .i depth] (.ret [.i (iF t left depth)]):=by
 refine Tm.ei fun t ih hf left depth hl hd=> ?_
 have wP:=(Tm.bK _).1 hf
 refine a8.aI mix aea aF ?_
 rw[c87]
 refine cB ?_
 refine ak (fun h1=> ?_) (fun h1=> ?_)
 ·refine cB ?_
  simp at h1
  rw[KL h1]
 ·simp at h1
  refine cB ?_
  rw[wrap64 (n:=left - 1) (by omega) (by omega),Cd,if_neg (by omega)]
  refine aB (fun k:Nat=>⟨aX [.aa, .d (.i (cp (t.kids.take k) (left - 1) (depth - 1))), .d (.i depth), .ptr 0 0, .aa, .aa, .aa, .d (.i k)],nB t.row,1⟩)
   (fun k=>k<=t.kids.length) (fun k=>t.kids.length - k) 0 (Nat.zero_le _) (bA.d1 _ (bX rfl) af rfl ?_) (fun k hk=> ?_)
  ·exact dp
  have hb:=HI (t.kids.take k) (left - 1) (depth - 1) af
  refine cB ?_
  refine ak (fun h2=> ?_) (fun h2=> ?_)
  ·simp at h2
   obtain⟨x,hx⟩:∃x,t.kids[k]? =some x:=⟨t.kids[k],by simp[h2.1]⟩
   have bY:=List.mem_of_getElem? hx
   refine kB hx ?_
   rw[wrap64 (n:=depth - 1) (by omega) (by omega)]
   refine aw (ih x bY (wP.2 x bY) _ _ af af) rfl ?_
   refine cB ?_
   rw[<- Cb hx _ _ h2.2]
   refine aj (k+1) h2.1 af (bA.d1 _ (bX rfl) af rfl ?_)
   exact dp
  ·refine cB ?_
   simp only[Bool.and_eq_false_iff,decide_eq_false_iff_not]at h2
   congr 3
   rcases h2 with h2|h2
   ·rw[List.take_of_length_le (by omega)]
   ·exact Cc _ _ af
theorem UO(s:List UInt8)(hs:s.length<=9223372036854775807):a8 Tryz.prog 139 [.str s] (.ret [.bool (jE s)]):=by
 refine a8.aI mix aaW aF ?_
 rw[aaV]
 refine cB ?_
 refine aB (fun k:Nat=>⟨aX [.d (.str s), .aa, .aa, .d (.i k)],fun _=> .no,0⟩)
  (fun k=>k<=s.length/\(s.take k).all letterF=true) (fun k=>s.length - k) 0 ⟨Nat.zero_le _,aF⟩ (bA.d0 _ ?_) (fun k hk=> ?_)
 ·exact dp
 refine cB ?_
 refine ak (fun h2=> ?_) (fun h2=> ?_)
 ·simp at h2
  obtain⟨x,hx⟩:∃x,s[k]? =some x:=⟨s[k],by simp[h2]⟩
  refine kB hx ?_
  refine ak (fun h3=> ?_) (fun h3=> ?_)
  ·refine cB ?_
   have:jE s=false:=by
    have:s.all letterF=false:=by
     rw[List.all_eq_false]
     refine⟨x,List.mem_of_getElem? hx, ?_⟩
     simp only[letterF,h3];simp
    simp[jE,this]
   rw[this]
  ·refine cB ?_
   refine aj (k+1) ⟨h2, ?_⟩ af (bA.d0 _ ?_)
   ·rw[List.take_add_one,hx,List.all_append,hk.2]
    simp[letterF,h3]
   ·exact dp
 ·refine cB ?_
  refine aw (GQ _ _ _) rfl ?_
  refine cB ?_
  simp at h2
  have:=hk.2
  rw[List.take_of_length_le (by omega)]at this
  simp[jE,this]
theorem F4(l:List kO)(bs:List (List UInt8))(hl:l.length<=1000)(hb:bs.length<=1000)(hs:∀x∈l,x.name.length<=9223372036854775807):
 a8 Tryz.prog 115 [.sl (l.map kO.d), .sl (bs.map .str)] (.ret [.sl (((cn l bs).getD []).map .str), .bool (cn l bs).isSome]):=by
 refine a8.aI mix aaG aF ?_
 rw[aaF]
 refine cB ?_
 refine aB (fun k:Nat=>⟨aX [.d (.sl (l.map kO.d)), .d (.sl ((bs++(l.take k).map (·.name)).map .str)), .aa, .aa, .aa, .aa, .d (.i k)],fun _=> .no,0⟩)
  (fun k=>k<=l.length/\cn l bs=cn (l.drop k) (bs++(l.take k).map (·.name))) (fun k=>l.length - k) 0 ⟨Nat.zero_le _,aF⟩ (bA.d0 _ ?_) (fun k hk=> ?_)
 ·simp only[List.take_zero,List.map_nil,List.append_nil]
  exact dp
 refine cB ?_
 refine ak (fun h2=> ?_) (fun h2=> ?_)
 ·simp at h2
  obtain⟨x,hx⟩:∃x,l[k]? =some x:=⟨l[k],by simp[h2]⟩
  have bY:=List.mem_of_getElem? hx
  have BB:l.drop k=x::l.drop (k+1):=by
   rw[List.drop_eq_getElem_cons h2]
   rw[List.getElem?_eq_getElem h2]at hx;injection hx with hx;rw[hx]
  generalize hB:bs++(l.take k).map (·.name)=B at*
  have hBl:B.length<=2000:=by rw[<- hB];simp;omega
  refine cB ?_
  refine aB (fun j:Nat=>⟨aX [.d (.sl (l.map kO.d)), .d (.sl (B.map .str)), .aa, .aa, .aa, .aa, .d (.i k), .d (.i j)],fun _=> .no,0⟩)
   (fun j=>j<=B.length/\(B.take j).any (· ==x.name)=false) (fun j=>B.length - j) 0 ⟨Nat.zero_le _,aF⟩ (bA.d0 _ ?_) (fun j hj=> ?_)
  ·exact dp
  refine cB ?_
  refine ak (fun h3=> ?_) (fun h3=> ?_)
  ·simp at h3
   obtain⟨y,hy⟩:∃y,B[j]? =some y:=⟨B[j],by simp[h3]⟩
   simp+contextual only[go_sem,hx,hy]
   refine aN bV ?_
   refine cB ?_
   refine ak (fun h4=> ?_) (fun h4=> ?_)
   ·refine cB ?_
    have:cn l bs=none:=by
     rw[hk.2,BB,cn,if_pos]
     rw[List.any_eq_true]
     exact⟨y,List.mem_of_getElem? hy,h4⟩
    rw[this];rfl
   ·refine cB ?_
    refine aj (j+1) ⟨h3, ?_⟩ af (bA.d0 _ ?_)
    ·rw[List.take_add_one,hy,List.any_append,hj.2]
     simp only[Option.toList_some,List.any_cons,h4,List.any_nil,Bool.or_false]
    ·exact dp
  ·simp at h3
   have UP:=hj.2
   rw[List.take_of_length_le (by omega)]at UP
   refine kB hx ?_
   refine aw (UO x.name (hs x bY)) rfl ?_
   refine kB hx ?_
   refine hY (fW [.bool (dJ x.args 0 4)] ?_ ?_)
   ·refine cB ?_
    exact E1
   refine cB ?_
   refine ak (fun h4=> ?_) (fun h4=> ?_)
   ·refine cB ?_
    have:cn l bs=none:=by
     rw[hk.2,BB,cn,if_neg (by rw[UP];exact Bool.false_ne_true),if_pos h4]
    rw[this];rfl
   ·have e1:B.length<=140737488355328:=af
    have e2:B.length*16<=140737488355328:=af
    have e3:B.length<=140737488355327:=af
    have e4:(B.length+1)*16<=140737488355328:=af
    simp+contextual only[go_sem,hx,e1,e2,e3,e4]
    refine aN bV ?_
    refine cB ?_
    have hn:cn l bs=cn (l.drop (k+1)) (bs++(l.take (k+1)).map (·.name)):=by
     rw[hk.2,BB,cn,if_neg (by rw[UP];exact Bool.false_ne_true),if_neg (by rw[h4];exact Bool.false_ne_true), <- hB,List.take_add_one,hx]
     simp
    refine aj (k+1) ⟨h2,hn⟩ af (bA.abS (fun _=>True) 0 _ (Nat.le_refl _) lt0 (fun _ _=>rfl) (fun _ _ _=>rfl) ?_)
    have hB2:(bs++(l.take (k+1)).map (·.name)).map D.str=B.map D.str++[D.str x.name]:=by
     rw[<- hB,List.take_add_one,hx];simp
    rw[hB2]
    exact mE
 ·refine cB ?_
  simp at h2
  have:cn l bs=some (bs++l.map (·.name)):=by
   rw[hk.2,List.drop_eq_nil_of_le (by omega),cn,List.take_of_length_le (by omega)]
  rw[this,List.take_of_length_le (by omega)]
  rfl
theorem UQ(a b:List UInt8)(m n:Int):oH Tryz.prog 100 124 (.agg [.str a, .i m]) (.agg [.str b, .i n])=some (a==b&&m==n):=by
 have h1:bH Tryz.prog 124=some (.struct [(9,0),(3,1)]):=ah
 have h2:bH Tryz.prog 9=some .str:=ah
 have h3:bH Tryz.prog 3=some .int:=ah
 have h4:cT Tryz.prog 9=some false:=ah
 have h5:cT Tryz.prog 3=some false:=ah
 simp[oH,h1,h2,h3,h4,h5,xp,MC,iC,Di]
@[go_sem] theorem aeg (o:Nat->ad) (mL:Bool) (a b:List UInt8) (m n:Int):yF Tryz.prog o 124 mL (.d (.agg [.str a, .i m])) (.d (.agg [.str b, .i n]))=some (.d (.bool (a==b&&m==n))):=by
  obtain⟨fs,h⟩:∃fs,Tryz.prog.underlying 124=some (.struct fs):=structOf ah
  have h2:Tryz.prog.eqGuardType Tryz.prog.depth 124=false:=ah
  unfold yF
  rw[h]
  dsimp only
  rw[if_pos h2,UQ]
  rfl
theorem HJ{l:List kO}{bs B:List (List UInt8)}(h:cn l bs=some B):B=bs++l.map (·.name):=by
 induction l generalizing bs with
 |nil=>simp[cn]at h;simp[h]
 |cons x l ih=>
  simp only[cn]at h
  split at h
  ·cases h
  ·split at h
   ·cases h
   ·rw[ih h];simp
structure aD.Fits (s:aD):Prop where
 lc:s.cons.length<=9223372036854775807
 lf:s.cL.length<=9223372036854775807
 nc:∀x∈s.cons,x.name.length<=9223372036854775807
 nf:∀x∈s.cL,x.name.length<=9223372036854775807
theorem abV(s:aD)(hs:s.Fits):a8 Tryz.prog 75 [s.d] (.ret [.bool (np s)]):=by
 refine a8.aI mix ad5 aF ?_
 rw[c75]
 refine cB ?_
 refine aw (GQ _ _ _) rfl ?_
 refine cB ?_
 cases h1:(!dJ s.cons.length 2 12||decide (8<(s.cL.length:Int)))with
 |true=>
  refine kB h1 ?_
  simp only[np,h1,if_true]
 |false=>
  simp[dJ]at h1
  obtain⟨a,b,r,hc⟩:∃a b r,s.cons=a::b::r:=by
   match h:s.cons with
   |[]=>exact E2
   |[a]=>exact E2
   |a::b::r=>exact⟨a,b,r,rfl⟩
  have eg:(!dJ s.cons.length 2 12||decide (8<(s.cL.length:Int)))=false:=by simp[dJ];omega
  simp+contextual only[go_sem,eg,hc]
  have Ce:np s=if(!my a fB|| !my b tB)=true then false else match cn s.cons []with
   |none=>false
   |some l=>(cn s.cL l).isSome:=by
   unfold np
   rw[if_neg (by rw[eg];exact Bool.false_ne_true),hc]
   dsimp only
   rfl
  refine ak (fun h2=> ?_) (fun h2=> ?_)
  ·refine cB ?_
   have iy:(!my a fB|| !my b tB)=true:=h2
   rw[Ce,if_pos iy]
  ·simp+contextual only[go_sem,hc]
   have hl:(a::b::r).length<=1000:=by rw[<- hc];omega
   have tU:=F4 (a::b::r) [] hl aF (by rw[<- hc];exact hs.nc)
   simp only[List.map_cons,List.map_nil]at tU
   refine bD tU ?_
   have iy:(!my a fB|| !my b tB)=false:=h2
   rw[Ce,if_neg (by rw[iy];exact Bool.false_ne_true),hc]
   cases hn:cn (a::b::r) []with
   |none=>simp+contextual only[go_sem,hn]
   |some B=>
    refine kB hn ?_
    have hB:B.length<=1000:=by
     have:=HJ hn
     rw[this];simp at hl|-;omega
    have aeh:=F4 s.cL B af hB hs.nf
    refine bD aeh ?_
    simp+contextual only[go_sem]
theorem De{l:List kO}{n:Int}{x:kO}(h:l[n.toNat]? =some x):hZ l n=x.args:=by simp[hZ,h]
theorem E3{l:List kO}{n:Int}(h:dJ n 0 (l.length - 1)=true):0<=n/\∃x,l[n.toNat]? =some x:=by
 simp[dJ]at h
 exact⟨h.1,l[n.toNat]'af,aF⟩
theorem UR(s:aD)(t:Tm)(hs:s.Fits)(ht:t.kids.length<=9223372036854775807):a8 Tryz.prog 127 [s.d,t.d] (.ret [.bool (bw s t)]):=by
 refine a8.aI mix aaS aF ?_
 rw[aaR]
 refine cB ?_
 rcases(by omega:t.op=1\/t.op=2\/t.op=3\/t.op=4\/t.op=5\/t.op=8\/(t.op=6\/t.op=7\/t.op=9\/t.op=10\/t.op=11\/t.op=12\/t.op=13\/t.op=14\/t.op=15)\/(t.op<1\/15<t.op))with h|h|h|h|h|h|h|h
 ·have hn:bw s t=((t.kids.length:Int)==0&&dJ t.n 0 19):=by simp[bw,h]
  refine kB h ?_
  refine hY (fW [.bool (dJ t.n 0 19)] ?_ ?_)
  ·refine cB ?_
   exact E1
  refine kB h ?_
  rw[hn]
 ·have hn:bw s t=((t.kids.length:Int)==0&&dJ t.n (-1000000) 1000000):=by simp[bw,h]
  refine kB h ?_
  refine hY (fW [.bool (dJ t.n (-1000000) 1000000)] ?_ ?_)
  ·refine cB ?_
   exact E1
  refine kB h ?_
  rw[hn]
 ·have hn:bw s t=(dJ t.n 0 (s.cons.length - 1)&&(t.kids.length:Int)==hZ s.cons t.n):=by simp[bw,h]
  refine kB h ?_
  rw[wrap64 (by have:=hs.lc;omega) (by have:=hs.lc;omega)]
  refine aw (GQ _ _ _) rfl ?_
  cases hI:dJ t.n 0 (s.cons.length - 1)with
  |false=>
   exact Sy
  |true=>
   exact Sj
 ·have hn:bw s t=(dJ t.n 0 (s.cL.length - 1)&&(t.kids.length:Int)==hZ s.cL t.n):=by simp[bw,h]
  refine kB h ?_
  rw[wrap64 (by have:=hs.lf;omega) (by have:=hs.lf;omega)]
  refine aw (GQ _ _ _) rfl ?_
  cases hI:dJ t.n 0 (s.cL.length - 1)with
  |false=>
   exact Sy
  |true=>
   exact Sj
 ·have hn:bw s t=(dJ t.n 0 (s.cL.length - 1)&&decide ((t.kids.length:Int)<hZ s.cL t.n)):=by simp[bw,h]
  refine kB h ?_
  rw[wrap64 (by have:=hs.lf;omega) (by have:=hs.lf;omega)]
  refine aw (GQ _ _ _) rfl ?_
  cases hI:dJ t.n 0 (s.cL.length - 1)with
  |false=>
   exact Sy
  |true=>
   exact Sj
 ·have hn:bw s t=((t.kids.length:Int)==2&&dJ t.n 0 19):=by simp[bw,h]
  refine kB h ?_
  refine hY (fW [.bool (dJ t.n 0 19)] ?_ ?_)
  ·refine cB ?_
   exact E1
  refine kB h ?_
  rw[hn]
 ·have hn:bw s t=((t.kids.length:Int)==2&&t.n==0):=by
   rcases h with h|h|h|h|h|h|h|h|h<;>simp[bw,h,dJ]
  rw[hn]
  rcases h with h|h|h|h|h|h|h|h|h<;>simp+contextual only[go_sem,h]
 ·have hn:bw s t=false:=by
   simp[bw,dJ,show ¬ (t.op=1) by omega,show ¬ (t.op=2) by omega,show ¬ (t.op=3) by omega,show ¬ (t.op=4) by omega,show ¬ (t.op=5) by omega,show ¬ (t.op=8) by omega,show ¬ (6<=t.op/\t.op<=15) by omega]
  have e:∀k:Int,1<=k->k<=15->(t.op==k)=false:=fun k h1 h2=>by simp;omega
  simp+contextual only[go_sem,e 1 (by omega) (by omega),e 2 (by omega) (by omega),e 3 (by omega) (by omega),e 4 (by omega) (by omega),e 5 (by omega) (by omega),e 6 (by omega) (by omega),e 7 (by omega) (by omega),e 8 (by omega) (by omega),e 9 (by omega) (by omega),e 10 (by omega) (by omega),e 11 (by omega) (by omega),e 12 (by omega) (by omega),e 13 (by omega) (by omega),e 14 (by omega) (by omega),e 15 (by omega) (by omega)]
  rw[hn]
theorem lz(s:aD)(t:Tm):ig s t=(bw s t&&t.kids.all (ig s)):=by
 have:∀l:List Tm,tZ s l=l.all (ig s):=fun l=>by
  induction l with
  |nil=>rfl
  |cons k l ih=>simp[tZ,ih]
 cases t;simp[ig,this,Tm.kids]
theorem lA{α:Type}{l:List α}{p:α->Bool}{k:Nat}{x:α}(hx:l[k]? =some x)(h:p x=false):l.all p=false:=by
 rw[List.all_eq_false];exact⟨x,List.mem_of_getElem? hx,by rw[h];exact Bool.false_ne_true⟩
theorem nC{α:Type}{l:List α}{p:α->Bool}{k:Nat}{x:α}(hx:l[k]? =some x)(h0:(l.take k).all p=true)(h:p x=true):(l.take (k+1)).all p=true:=by
 rw[List.take_add_one,hx,List.all_append,h0];simp[h]
theorem nD{α:Type}{l:List α}{p:α->Bool}{k:Nat}(h0:(l.take k).all p=true)(h:l.length<=k):l.all p=true:=by
 rwa [List.take_of_length_le h]at h0
theorem ay{α:Type}{l:List α}{k:Nat}(h:k<l.length):∃x,l[k]? =some x:=⟨l[k],by simp[h]⟩
@[reducible] def aD.row (s:aD):List V:=[.d (.sl (s.cons.map kO.d)), .d (.sl (s.cL.map kO.d))]
theorem NN(s:aD)(hs:s.Fits):∀t:Tm,t.fits->a8 Tryz.prog 94 [s.d,t.d] (.ret [.bool (ig s t)]):=by
 refine Tm.ei fun t ih hf=> ?_
 have wP:=(Tm.bK _).1 hf
 refine a8.aI mix aee aF ?_
 rw[c94]
 refine cB ?_
 refine aw (UR s t hs wP.1) rfl ?_
 refine cB ?_
 rw[lz]
 refine ak (fun h1=> ?_) (fun h1=> ?_)
 ·refine cB ?_
  simp at h1;simp[h1]
 ·simp at h1
  rw[h1,Bool.true_and]
  refine cB ?_
  refine aB (fun k:Nat=>⟨aX [.aa, .aa, .ptr 0 0, .ptr 1 0, .aa, .d (.i k)],D9 s.row t.row,2⟩)
   (fun k=>k<=t.kids.length/\(t.kids.take k).all (ig s)=true) (fun k=>t.kids.length - k) 0 ⟨Nat.zero_le _,aF⟩ (bA.d2 _ (ky rfl rfl) af rfl rfl ?_) (fun k hk=> ?_)
  ·exact dp
  refine cB ?_
  refine ak (fun h2=> ?_) (fun h2=> ?_)
  ·simp at h2
   obtain⟨x,hx⟩:=ay h2
   have bY:=List.mem_of_getElem? hx
   refine kB hx ?_
   refine aZ (ih x bY (wP.2 x bY)) rfl ?_
   refine cB ?_
   refine aN bV ?_
   refine cB ?_
   refine ak (fun h3=> ?_) (fun h3=> ?_)
   ·refine cB ?_
    simp at h3
    rw[lA hx h3]
   ·refine cB ?_
    simp at h3
    refine aj (k+1) ⟨h2,nC hx hk.2 h3⟩ af (bA.d2 _ (ky rfl rfl) af rfl rfl ?_)
    exact dp
  ·refine cB ?_
   simp at h2
   rw[nD hk.2 h2]
theorem US(s:aD)(hs:s.Fits)(t:Tm)(hf:t.fits):a8 Tryz.prog 43 [s.d,t.d] (.ret [.bool (jF s t)]):=by
 refine a8.aI mix adQ aF ?_
 rw[c43]
 refine cB ?_
 refine aw (F2 t hf 40 12 af af) rfl ?_
 refine cB ?_
 refine hY (fW [.bool (ig s t)] ?_ ?_)
 ·refine cB ?_
  exact fun _=>NN s hs t hf
 refine cB ?_
 rfl
theorem rZ(t:Tm):fM t=(t.kids.all fM&&((decide (1<=t.op)&&decide (t.op<=3))||t.op==5)):=by
 have:∀l:List Tm,uc l=l.all fM:=fun l=>by
  induction l with
  |nil=>rfl
  |cons k l ih=>simp[uc,ih]
 cases t;simp only[fM,this,Tm.kids,Tm.op];rfl
theorem NO:∀t:Tm,t.fits->a8 Tryz.prog 92 [t.d] (.ret [.bool (fM t)]):=by
 refine Tm.ei fun t ih hf=> ?_
 have wP:=(Tm.bK _).1 hf
 refine a8.aI mix aec aF ?_
 rw[c92,rZ]
 refine cB ?_
 refine aB (fun k:Nat=>⟨aX [.aa, .ptr 0 0, .aa, .d (.i k)],nB t.row,1⟩)
  (fun k=>k<=t.kids.length/\(t.kids.take k).all fM=true) (fun k=>t.kids.length - k) 0 ⟨Nat.zero_le _,aF⟩ (bA.d1 _ (bX rfl) af rfl ?_) (fun k hk=> ?_)
 ·exact dp
 refine cB ?_
 refine ak (fun h2=> ?_) (fun h2=> ?_)
 ·simp at h2
  obtain⟨x,hx⟩:=ay h2
  have bY:=List.mem_of_getElem? hx
  refine kB hx ?_
  refine aw (ih x bY (wP.2 x bY)) rfl ?_
  refine cB ?_
  refine ak (fun h3=> ?_) (fun h3=> ?_)
  ·refine cB ?_
   simp at h3
   rw[lA hx h3];rfl
  ·refine cB ?_
   simp at h3
   refine aj (k+1) ⟨h2,nC hx hk.2 h3⟩ af (bA.d1 _ (bX rfl) af rfl ?_)
   exact dp
 ·refine cB ?_
  simp at h2
  rw[nD hk.2 h2];rfl
theorem il:∀l l':List Tm,l.length=l'.length->(ij l l'=true↔∀ (i:Nat) (x y:Tm),l[i]? =some x->l'[i]? =some y->fX x y=true)
 |[],l',_=>by simp[ij]
 |k::l,k'::l',h=>by
  simp only[ij,Bool.and_eq_true]
  rw[il l l' (by simpa using h)]
  constructor
  ·rintro⟨h1,h2⟩ i x y hx hy
   cases i with
   |zero=>simp at hx hy;subst hx;subst hy;exact h1
   |succ i=>exact h2 i x y xj (by simpa using hy)
  ·intro h3
   exact⟨h3 0 k k' rfl rfl,fun i x y hx hy=>h3 (i+1) x y xj (by simpa using hy)⟩
 |_::_,[],h=>by simp at h
theorem qF(a b:Tm):fX a b=(a.op==b.op&&a.n==b.n&&a.kids.length==b.kids.length&&ij a.kids b.kids):=by cases a;cases b;simp[fX,Tm.op,Tm.n,Tm.kids]
theorem r8:∀a:Tm,a.fits->∀b:Tm,b.fits->a8 Tryz.prog 40 [a.d,b.d] (.ret [.bool (fX a b)]):=by
 refine Tm.ei fun t ih hf b hb=> ?_
 have wP:=(Tm.bK _).1 hf
 have Dk:=(Tm.bK _).1 hb
 refine a8.aI mix aag aF ?_
 rw[c40,qF]
 refine cB ?_
 refine ak (fun h1=> ?_) (fun h1=> ?_)
 ·refine cB ?_
  have:(t.op==b.op&&t.n==b.n&&t.kids.length==b.kids.length)=false:=by
   rw[Bool.eq_false_iff]
   intro h
   simp at h
   simp[h]at h1
  rw[this];rfl
 ·have eg:t.op=b.op/\t.n=b.n/\t.kids.length=b.kids.length:=by
   simp at h1
   refine⟨h1.1.1,h1.1.2,by have:=h1.2;omega⟩
  rw[show(t.op==b.op&&t.n==b.n&&t.kids.length==b.kids.length)=true by simp[eg],Bool.true_and]
  have hl:=eg.2.2
  refine cB ?_
  refine aB (fun k:Nat=>⟨aX [.aa, .aa, .ptr 0 0, .ptr 1 0, .aa, .d (.i k)],D9 t.row b.row,2⟩)
   (fun k=>k<=t.kids.length/\∀i,i<k->∀x y,t.kids[i]? =some x->b.kids[i]? =some y->fX x y=true) (fun k=>t.kids.length - k) 0 ⟨Nat.zero_le _,fun i h=>af⟩ (bA.d2 _ (ky rfl rfl) af rfl rfl ?_) (fun k hk=> ?_)
  ·exact dp
  refine cB ?_
  refine ak (fun h2=> ?_) (fun h2=> ?_)
  ·simp at h2
   obtain⟨x,hx⟩:=ay h2
   obtain⟨y,hy⟩:=ay (l:=b.kids) (k:=k) af
   have bY:=List.mem_of_getElem? hx
   have NP:=List.mem_of_getElem? hy
   simp+contextual only[go_sem,hx,hy]
   refine aZ (ih x bY (wP.2 x bY) y (Dk.2 y NP)) rfl ?_
   refine cB ?_
   refine aN bV ?_
   refine cB ?_
   refine ak (fun h3=> ?_) (fun h3=> ?_)
   ·refine cB ?_
    simp at h3
    have:ij t.kids b.kids=false:=by
     rw[Bool.eq_false_iff]
     intro h
     have:=(il _ _ hl).1 h k x y hx hy
     rw[h3]at this;cases this
    rw[this]
   ·refine cB ?_
    simp at h3
    refine aj (k+1) ⟨h2,fun i hi u v hu hv=> ?_⟩ af (bA.d2 _ (ky rfl rfl) af rfl rfl ?_)
    ·by_cases e:i=k
     ·subst e
      rw[hx]at hu;rw[hy]at hv
      exact OQ
     ·exact hk.2 i af u v hu hv
    ·exact dp
  ·refine cB ?_
   simp at h2
   have:ij t.kids b.kids=true:=(il _ _ hl).2 fun i x y hx hy=>hk.2 i (by have:=(List.getElem?_eq_some_iff.1 hx).1;omega) x y hx hy
   rw[this]
theorem zQ(t:Tm)(hf:t.fits):a8 Tryz.prog 61 [t.d] (.ret [.bool (ik t)]):=by
 refine a8.aI mix adY aF ?_
 rw[c61]
 refine cB ?_
 refine aw (F2 t hf 50 14 af af) rfl ?_
 refine cB ?_
 rfl
theorem Ea(s:aD)(hs:s.Fits):a8 Tryz.prog 78 [s.d] (.ret [.bool (ji s)]):=by
 refine a8.aI mix ad8 aF ?_
 rw[c78]
 refine cB ?_
 refine ak (fun h1=> ?_) (fun h1=> ?_)
 ·refine cB ?_
  simp only[ji,h1];rfl
 ·have e:ji s=(fD s.cons&&fD s.cL):=by simp only[ji,h1];rfl
  rw[e]
  simp at h1
  refine cB ?_
  refine aB (fun k:Nat=>⟨aX [.aa, .ptr 0 0, .aa, .d (.i k)],nB s.row,1⟩)
   (fun k=>k<=s.cons.length/\fD (s.cons.take k)=true) (fun k=>s.cons.length - k) 0 ⟨Nat.zero_le _,by simp[fD]⟩ (bA.d1 _ (bX rfl) af rfl ?_) (fun k hk=> ?_)
  ·exact dp
  refine cB ?_
  refine ak (fun h2=> ?_) (fun h2=> ?_)
  ·simp at h2
   obtain⟨x,hx⟩:=ay h2
   refine kB hx ?_
   refine ak (fun h3=> ?_) (fun h3=> ?_)
   ·refine cB ?_
    rw[show fD s.cons=false from lA hx (by simpa using h3)];rfl
   ·refine cB ?_
    refine aj (k+1) ⟨h2,nC hx hk.2 (by simpa using h3)⟩ af (bA.d1 _ (bX rfl) af rfl ?_)
    exact dp
  ·simp at h2
   rw[show fD s.cons=true from nD hk.2 h2,Bool.true_and]
   refine cB ?_
   refine aB (fun k:Nat=>⟨aX [.aa, .ptr 0 0, .aa, .aa, .d (.i k)],nB s.row,1⟩)
    (fun k=>k<=s.cL.length/\fD (s.cL.take k)=true) (fun k=>s.cL.length - k) 0 ⟨Nat.zero_le _,by simp[fD]⟩ (bA.d1 _ (bX rfl) af rfl ?_) (fun k hk=> ?_)
   ·exact dp
   refine cB ?_
   refine ak (fun h4=> ?_) (fun h4=> ?_)
   ·simp at h4
    obtain⟨x,hx⟩:=ay h4
    refine kB hx ?_
    refine ak (fun h3=> ?_) (fun h3=> ?_)
    ·refine cB ?_
     rw[show fD s.cL=false from lA hx (by simpa using h3)]
    ·refine cB ?_
     refine aj (k+1) ⟨h4,nC hx hk.2 (by simpa using h3)⟩ af (bA.d1 _ (bX rfl) af rfl ?_)
     exact dp
   ·simp at h4
    rw[show fD s.cL=true from nD hk.2 h4]
    simp+contextual only[go_sem]
end Go.Proofs.YtlhemmpklhhgoaaGreat
