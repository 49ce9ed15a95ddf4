/-
  A PART OF THE PROOF. Conditions: none.
-/
import Derived.Test.YtnkamdiiakdkgaaGreatEd14
set_option linter.unusedSimpArgs false
set_option linter.unusedVariables false
namespace Go.Proofs.YtnkamdiiakdkgaaGreat
theorem mix:Tryz.prog.follows .mixedOrders=true:=ah
def zn:Tr FD:= .e fun _=> .no
theorem zt{f:Nat->Nat}:Tr.Fu (fun(g:Nat) (d:FD)=>d.Ok Tryz.prog g) zn f:=fun _=>trivial
def abP:Tr FD:=
 (.n .no (.n .no (.n .no (.n .no (.n (.fn 45 c15 [.tmp 4]) (.n .no (.n .no (.n (.fn 15 Uy [.tmp 6]) zn zn) zn) (.n (.fn 5 c95 [.cell 2 55]) (.n (.fn 13 UM [.tmp 4]) zn zn) zn)) (.n (.fn 12 c47 [.tmp 3]) (.n .no (.n (.fn 133 aa9 [.tmp 6]) zn zn) zn) (.n .no (.n (.fn 17 UW [.tmp 6]) zn zn) zn))) (.n .no (.n (.fn 16 c39 [.cell 0 27]) (.n (.fn 19 c71 [.tmp 2]) (.n (.fn 27 UG [.tmp 2]) zn zn) zn) (.n (.fn 134 aaw []) (.n (.fn 15 abF [.tmp 6]) zn zn) zn)) (.n (.fn 41 c55 [.tmp 4, .tmp 5, .tmp 6]) zn (.n .no (.n (.fn 14 U3 [.tmp 4]) zn zn) zn)))) (.n (.fn 15 c11 [.tmp 2, .tmp 3]) (.n (.fn 10 c19 [.tmp 2, .tmp 3, .tmp 4]) (.n (.fn 8 c35 [.cell 0 27]) (.n (.fn 30 c67 [.tmp 2]) (.n (.fn 17 UC [.tmp 3]) zn zn) zn) (.n (.fn 8 c99 [.tmp 3]) (.n (.fn 9 UQ [.tmp 4]) zn zn) zn)) (.n .no (.n .no (.n (.fn 19 abh [.tmp 2]) zn zn) zn) (.n .no (.n (.fn 19 U0 [.tmp 4]) zn zn) zn))) (.n .no (.n .no (.n (.fn 12 c75 [.tmp 4]) (.n (.fn 56 aa1 []) zn zn) zn) (.n (.fn 8 Uu [.tmp 3]) (.n (.fn 18 UR [.tmp 4]) zn zn) zn)) (.n .no zn (.n .no (.n (.fn 14 U7 [.tmp 4]) zn zn) zn))))) (.n .no (.n .no (.n .no (.n (.fn 26 c33 [.tmp 4]) (.n .no (.n (.fn 9 UA [.tmp 4]) zn zn) zn) (.n (.fn 46 c97 [.tmp 2]) (.n (.fn 8 UO [.tmp 3]) zn zn) zn)) (.n (.fn 50 c49 [.cell 4 90]) (.n (.fn 9 c81 [.tmp 4]) (.n (.fn 84 abd [.tmp 8]) zn zn) zn) (.n .no (.n (.fn 8 UY []) zn zn) zn))) (.n .no (.n (.fn 35 c41 [.cell 2 81]) (.n (.fn 11 c73 []) (.n (.fn 52 UI [.tmp 6]) zn zn) zn) (.n (.fn 24 Us [.tmp 4]) (.n (.fn 6 abJ [.tmp 2]) zn zn) zn)) (.n (.fn 5 c57 [.tmp 2]) zn (.n .no (.n (.fn 27 U5 [.tmp 4]) zn zn) zn)))) (.n .no (.n .no (.n (.fn 4 c37 [.cell 0 55]) (.n .no (.n (.fn 9 UE [.tmp 4]) zn zn) zn) (.n (.fn 9 Uq []) (.n (.fn 7 abB [.tmp 2]) zn zn) zn)) (.n .no (.n .no (.n (.fn 32 UJ [.tmp 6]) zn zn) zn) (.n .no (.n (.fn 19 U1 [.cell 0 215]) zn zn) zn))) (.n .no (.n (.fn 26 c45 [.tmp 4]) (.n .no (.n (.fn 57 aa5 [.tmp 6, .tmp 7]) zn zn) zn) (.n .no (.n (.fn 39 UT [.cell 4 4]) zn zn) zn)) (.n .no (.n .no (.n (.fn 36 abx [.tmp 2]) zn zn) zn) (.n (.fn 24 Uw [.tmp 3]) zn zn)))))) (.n .no (.n .no (.n .no (.n (.fn 84 c16 [.tmp 4, .tmp 5]) (.n (.fn 30 c32 [.tmp 4, .tmp 5]) (.n .no (.n (.fn 18 Uz [.tmp 4]) zn zn) zn) (.n (.fn 8 c96 [.cell 4 55]) (.n (.fn 4 UN [.tmp 2]) zn zn) zn)) (.n (.fn 65 c48 [.cell 2 90, .tmp 3]) (.n .no (.n (.fn 17 abb [.tmp 4]) zn zn) zn) (.n .no (.n (.fn 10 UX [.tmp 4]) zn zn) zn))) (.n .no (.n (.fn 6 c40 [.tmp 2]) (.n (.fn 4 c72 [.tmp 2]) (.n (.fn 18 UH [.tmp 2]) zn zn) zn) (.n (.fn 8 aay [.tmp 2]) (.n (.fn 36 abH [.tmp 10]) zn zn) zn)) (.n (.fn 3 c56 [.tmp 2]) zn (.n (.fn 125 aaT []) (.n (.fn 27 U4 [.tmp 4]) zn zn) zn)))) (.n .no (.n (.fn 10 c20 [.tmp 2, .tmp 3, .tmp 4]) (.n (.fn 17 c36 [.cell 2 27]) (.n .no (.n (.fn 43 UD [.cell 4 4, .cell 5 31]) zn zn) zn) (.n (.fn 121 Up [.tmp 4]) (.n (.fn 76 abz []) zn zn) zn)) (.n .no (.n (.dfr 71 aar c84 119 11 [.tmp 4, .tmp 5, .tmp 6] [.cell 4 4, .cell 5 37, .cell 6 31] 12 6 6 aab) (.n (.fn 25 abj [.tmp 2]) zn zn) zn) (.n .no (.n (.fn 28 abN [.tmp 8, .tmp 9]) zn zn) zn))) (.n .no (.n .no (.n (.fn 8 c76 [.tmp 2]) (.n (.fn 65 aa3 []) zn zn) zn) (.n .no (.n (.fn 7 US [.tmp 3]) zn zn) zn)) (.n .no (.n .no (.n (.fn 42 abv []) zn zn) zn) (.n .no (.n (.fn 14 U8 [.tmp 4]) zn zn) zn))))) (.n .no (.n (.fn 178 c10 [.tmp 0]) (.n .no (.n .no (.n .no (.n (.fn 8 UB [.tmp 3]) zn zn) zn) (.n (.fn 9 c98 [.tmp 4]) (.n (.fn 4 UP [.tmp 2]) zn zn) zn)) (.n (.fn 68 c50 [.tmp 2]) (.n (.fn 8 c82 [.tmp 3]) (.n (.fn 168 abf [.tmp 8, .tmp 9]) zn zn) zn) (.n .no (.n (.fn 14 UZ [.tmp 4]) zn zn) zn))) (.n .no (.n (.fn 101 c42 [.tmp 2]) (.n (.fn 61 c74 [.tmp 2]) (.n (.fn 49 aaZ []) zn zn) zn) (.n (.fn 9 Ut [.tmp 4]) (.n (.fn 27 abL [.tmp 4]) zn zn) zn)) (.n .no zn (.n .no (.n (.fn 27 U6 [.tmp 4]) zn zn) zn)))) (.n .no (.n .no (.n (.fn 5 c38 [.cell 2 55]) (.n (.fn 76 c70 [.cell 0 27]) (.n (.fn 10 UF [.tmp 4]) zn zn) zn) (.n (.fn 46 Ur [.tmp 4]) (.n (.fn 33 abD [.tmp 2]) zn zn) zn)) (.n .no (.n .no (.n (.fn 19 UK [.tmp 4]) zn zn) zn) (.n (.fn 19 Uv [.tmp 4]) (.n (.fn 14 U2 [.tmp 4]) zn zn) zn))) (.n .no (.n (.fn 9 c46 [.tmp 4]) (.n .no (.n (.fn 32 aa7 []) zn zn) zn) (.n .no (.n (.fn 8 UU []) zn zn) zn)) (.n .no (.n (.fn 8 c94 [.cell 4 55]) (.n (.fn 19 UL [.tmp 4]) zn zn) zn) (.n (.fn 28 Ux [.tmp 2]) zn zn)))))))
noncomputable def bJ:Nat->FD:=abP.get
theorem gv:∀g,(bJ g).Ok Tryz.prog g:=
 Tr.y0 (p:=fun g d=>d.Ok Tryz.prog g) (f:=fun g=>g) abP
   ⟨trivial,⟨trivial,⟨trivial,⟨trivial,⟨adw,⟨trivial,⟨trivial,⟨QW,zt,zt⟩,zt⟩,⟨aea,⟨Ra,zt,zt⟩,zt⟩⟩,⟨aah,⟨trivial,⟨aba,zt,zt⟩,zt⟩,⟨trivial,⟨Rm,zt,zt⟩,zt⟩⟩⟩,⟨trivial,⟨adJ,⟨aam,⟨Q4,zt,zt⟩,zt⟩,⟨aax,⟨abG,zt,zt⟩,zt⟩⟩,⟨adR,zt,⟨trivial,⟨Rt,zt,zt⟩,zt⟩⟩⟩⟩,⟨adt,⟨adz,⟨adF,⟨aal,⟨Q0,zt,zt⟩,zt⟩,⟨aav,⟨Rf,zt,zt⟩,zt⟩⟩,⟨trivial,⟨trivial,⟨abi,zt,zt⟩,zt⟩,⟨trivial,⟨Rq,zt,zt⟩,zt⟩⟩⟩,⟨trivial,⟨trivial,⟨aao,⟨aa2,zt,zt⟩,zt⟩,⟨QS,⟨Rg,zt,zt⟩,zt⟩⟩,⟨trivial,zt,⟨trivial,⟨Rx,zt,zt⟩,zt⟩⟩⟩⟩⟩,⟨trivial,⟨trivial,⟨trivial,⟨adD,⟨trivial,⟨QY,zt,zt⟩,zt⟩,⟨aat,⟨Rc,zt,zt⟩,zt⟩⟩,⟨aaj,⟨aap,⟨abe,zt,zt⟩,zt⟩,⟨trivial,⟨Ro,zt,zt⟩,zt⟩⟩⟩,⟨trivial,⟨aae,⟨adZ,⟨Q6,zt,zt⟩,zt⟩,⟨QQ,⟨abK,zt,zt⟩,zt⟩⟩,⟨adT,zt,⟨trivial,⟨Rv,zt,zt⟩,zt⟩⟩⟩⟩,⟨trivial,⟨trivial,⟨adH,⟨trivial,⟨Q2,zt,zt⟩,zt⟩,⟨QO,⟨abC,zt,zt⟩,zt⟩⟩,⟨trivial,⟨trivial,⟨Q7,zt,zt⟩,zt⟩,⟨trivial,⟨Rr,zt,zt⟩,zt⟩⟩⟩,⟨trivial,⟨adM,⟨trivial,⟨aa6,zt,zt⟩,zt⟩,⟨trivial,⟨Ri,zt,zt⟩,zt⟩⟩,⟨trivial,⟨trivial,⟨aby,zt,zt⟩,zt⟩,⟨QU,zt,zt⟩⟩⟩⟩⟩⟩,⟨trivial,⟨trivial,⟨trivial,⟨aac,⟨adC,⟨trivial,⟨QX,zt,zt⟩,zt⟩,⟨aeb,⟨Rb,zt,zt⟩,zt⟩⟩,⟨aai,⟨trivial,⟨abc,zt,zt⟩,zt⟩,⟨trivial,⟨Rn,zt,zt⟩,zt⟩⟩⟩,⟨trivial,⟨aad,⟨aan,⟨Q5,zt,zt⟩,zt⟩,⟨aaz,⟨abI,zt,zt⟩,zt⟩⟩,⟨adS,zt,⟨aaU,⟨Ru,zt,zt⟩,zt⟩⟩⟩⟩,⟨trivial,⟨adA,⟨adG,⟨trivial,⟨Q1,zt,zt⟩,zt⟩,⟨QN,⟨abA,zt,zt⟩,zt⟩⟩,⟨trivial,⟨⟨aas,Un⟩,⟨abk,zt,zt⟩,zt⟩,⟨trivial,⟨abO,zt,zt⟩,zt⟩⟩⟩,⟨trivial,⟨trivial,⟨Uo,⟨aa4,zt,zt⟩,zt⟩,⟨trivial,⟨Rh,zt,zt⟩,zt⟩⟩,⟨trivial,⟨trivial,⟨abw,zt,zt⟩,zt⟩,⟨trivial,⟨Ry,zt,zt⟩,zt⟩⟩⟩⟩⟩,⟨trivial,⟨ads,⟨trivial,⟨trivial,⟨trivial,⟨QZ,zt,zt⟩,zt⟩,⟨aau,⟨Re,zt,zt⟩,zt⟩⟩,⟨aak,⟨aaq,⟨abg,zt,zt⟩,zt⟩,⟨trivial,⟨Rp,zt,zt⟩,zt⟩⟩⟩,⟨trivial,⟨aaf,⟨ad0,⟨aa0,zt,zt⟩,zt⟩,⟨QR,⟨abM,zt,zt⟩,zt⟩⟩,⟨trivial,zt,⟨trivial,⟨Rw,zt,zt⟩,zt⟩⟩⟩⟩,⟨trivial,⟨trivial,⟨adI,⟨adY,⟨Q3,zt,zt⟩,zt⟩,⟨QP,⟨abE,zt,zt⟩,zt⟩⟩,⟨trivial,⟨trivial,⟨Q8,zt,zt⟩,zt⟩,⟨QT,⟨Rs,zt,zt⟩,zt⟩⟩⟩,⟨trivial,⟨aag,⟨trivial,⟨aa8,zt,zt⟩,zt⟩,⟨trivial,⟨Rj,zt,zt⟩,zt⟩⟩,⟨trivial,⟨ad9,⟨Q9,zt,zt⟩,zt⟩,⟨QV,zt,zt⟩⟩⟩⟩⟩⟩⟩
@[go_sem] theorem cellsOf_3:Tryz.prog.cellsOf 3=1:=ah
@[go_sem] theorem bytesOf_3:Tryz.prog.bytesOf 3=8:=ah
@[go_sem] theorem aggT_3:cQ Tryz.prog 3=some false:=ah
@[go_sem] theorem infoT_3:(Tryz.prog.info? 3).isSome=true:=ah
@[go_sem] theorem undT_3:Tryz.prog.underlying 3=some (.int .i64):=ah
@[go_sem] theorem eqShape_3:bR Tryz.prog 3=some .int:=ah
@[go_sem] theorem zeroT_3:cu Tryz.prog 3=some [.d (.int .i64 0)]:=ah
@[go_sem] theorem zeroV_3:zeroV Tryz.prog 3=some (.d (.int .i64 0)):=ah
@[go_sem] theorem cellsOf_4:Tryz.prog.cellsOf 4=1:=ah
@[go_sem] theorem aggT_4:cQ Tryz.prog 4=some false:=ah
@[go_sem] theorem isBoolT_4:lN Tryz.prog 4=true:=ah
@[go_sem] theorem infoT_4:(Tryz.prog.info? 4).isSome=true:=ah
@[go_sem] theorem zeroT_4:cu Tryz.prog 4=some [.d (.bool false)]:=ah
@[go_sem] theorem zeroV_4:zeroV Tryz.prog 4=some (.d (.bool false)):=ah
@[go_sem] theorem cellsOf_9:Tryz.prog.cellsOf 9=1:=ah
@[go_sem] theorem bytesOf_9:Tryz.prog.bytesOf 9=16:=ah
@[go_sem] theorem aggT_9:cQ Tryz.prog 9=some false:=ah
@[go_sem] theorem undT_9:Tryz.prog.underlying 9=some .string:=ah
@[go_sem] theorem eqShape_9:bR Tryz.prog 9=some .str:=ah
@[go_sem] theorem zeroT_9:cu Tryz.prog 9=some [.d (.str [])]:=ah
@[go_sem] theorem sliceT_22:bW Tryz.prog 22=some 102:=ah
@[go_sem] theorem aggT_22:cQ Tryz.prog 22=some false:=ah
@[go_sem] theorem undT_22:Tryz.prog.underlying 22=some (.slice 102):=ah
@[go_sem] theorem cellsOf_24:Tryz.prog.cellsOf 24=2:=ah
@[go_sem] theorem aggT_24:cQ Tryz.prog 24=some true:=ah
@[go_sem] theorem sliceT_25:bW Tryz.prog 25=some 57:=ah
@[go_sem] theorem aggT_25:cQ Tryz.prog 25=some false:=ah
@[go_sem] theorem undT_25:Tryz.prog.underlying 25=some (.slice 57):=ah
@[go_sem] theorem cellsOf_27:Tryz.prog.cellsOf 27=3:=ah
@[go_sem] theorem aggT_27:cQ Tryz.prog 27=some true:=ah
@[go_sem] theorem cellsOf_30:Tryz.prog.cellsOf 30=1:=ah
@[go_sem] theorem sliceT_30:bW Tryz.prog 30=some 40:=ah
@[go_sem] theorem aggT_30:cQ Tryz.prog 30=some false:=ah
@[go_sem] theorem intT_30:vN Tryz.prog 30=none:=ah
@[go_sem] theorem infoT_30:(Tryz.prog.info? 30).isSome=true:=ah
@[go_sem] theorem undT_30:Tryz.prog.underlying 30=some (.slice 40):=ah
@[go_sem] theorem zeroT_30:cu Tryz.prog 30=some [.bd]:=ah
@[go_sem] theorem cellsOf_31:Tryz.prog.cellsOf 31=1:=ah
@[go_sem] theorem aggT_31:cQ Tryz.prog 31=some false:=ah
@[go_sem] theorem infoT_31:(Tryz.prog.info? 31).isSome=true:=ah
@[go_sem] theorem zeroT_31:cu Tryz.prog 31=some [.d (.int .i64 0)]:=ah
@[go_sem] theorem cellsOf_37:Tryz.prog.cellsOf 37=1:=ah
@[go_sem] theorem sliceT_37:bW Tryz.prog 37=some 3:=ah
@[go_sem] theorem aggT_37:cQ Tryz.prog 37=some false:=ah
@[go_sem] theorem intT_37:vN Tryz.prog 37=none:=ah
@[go_sem] theorem infoT_37:(Tryz.prog.info? 37).isSome=true:=ah
@[go_sem] theorem undT_37:Tryz.prog.underlying 37=some (.slice 3):=ah
@[go_sem] theorem zeroT_37:cu Tryz.prog 37=some [.bd]:=ah
@[go_sem] theorem cellsOf_38:Tryz.prog.cellsOf 38=1:=ah
@[go_sem] theorem sliceT_38:bW Tryz.prog 38=some 64:=ah
@[go_sem] theorem aggT_38:cQ Tryz.prog 38=some false:=ah
@[go_sem] theorem intT_38:vN Tryz.prog 38=none:=ah
@[go_sem] theorem infoT_38:(Tryz.prog.info? 38).isSome=true:=ah
@[go_sem] theorem undT_38:Tryz.prog.underlying 38=some (.slice 64):=ah
@[go_sem] theorem cellsOf_40:Tryz.prog.cellsOf 40=6:=ah
@[go_sem] theorem bytesOf_40:Tryz.prog.bytesOf 40=80:=ah
@[go_sem] theorem aggT_40:cQ Tryz.prog 40=some true:=ah
@[go_sem] theorem infoT_40:(Tryz.prog.info? 40).isSome=true:=ah
@[go_sem] theorem zeroT_40:cu Tryz.prog 40=some [.d (.int .i64 0), .d (.int .i64 0), .d (.int .i64 0), .bd, .d (.bool false), .bd]:=ah
@[go_sem] theorem placesT_40:ee Tryz.prog 40=some [(0,1),(1,1),(2,1),(3,1),(4,1),(5,1)]:=ah
@[go_sem] theorem sliceT_49:bW Tryz.prog 49=some 55:=ah
@[go_sem] theorem aggT_49:cQ Tryz.prog 49=some false:=ah
@[go_sem] theorem undT_49:Tryz.prog.underlying 49=some (.slice 55):=ah
@[go_sem] theorem aggT_53:cQ Tryz.prog 53=some false:=ah
@[go_sem] theorem undT_53:Tryz.prog.underlying 53=some (.int .i64):=ah
@[go_sem] theorem cellsOf_55:Tryz.prog.cellsOf 55=3:=ah
@[go_sem] theorem aggT_55:cQ Tryz.prog 55=some true:=ah
@[go_sem] theorem infoT_55:(Tryz.prog.info? 55).isSome=true:=ah
@[go_sem] theorem zeroT_55:cu Tryz.prog 55=some [.d (.int .i64 0), .d (.int .i64 0), .bd]:=ah
@[go_sem] theorem placesT_55:ee Tryz.prog 55=some [(0,1),(1,1),(2,1)]:=ah
@[go_sem] theorem cellsOf_57:Tryz.prog.cellsOf 57=6:=ah
@[go_sem] theorem aggT_57:cQ Tryz.prog 57=some true:=ah
@[go_sem] theorem infoT_57:(Tryz.prog.info? 57).isSome=true:=ah
@[go_sem] theorem zeroT_57:cu Tryz.prog 57=some [.d (.int .i64 0), .bd, .d (.int .i64 0), .d (.int .i64 0), .bd, .d (.int .i64 0)]:=ah
@[go_sem] theorem cellsOf_64:Tryz.prog.cellsOf 64=3:=ah
@[go_sem] theorem bytesOf_64:Tryz.prog.bytesOf 64=24:=ah
@[go_sem] theorem aggT_64:cQ Tryz.prog 64=some true:=ah
@[go_sem] theorem infoT_64:(Tryz.prog.info? 64).isSome=true:=ah
@[go_sem] theorem zeroT_64:cu Tryz.prog 64=some [.d (.int .i64 0), .d (.int .i64 0), .d (.bool false)]:=ah
@[go_sem] theorem placesT_64:ee Tryz.prog 64=some [(0,1),(1,1),(2,1)]:=ah
@[go_sem] theorem cellsOf_81:Tryz.prog.cellsOf 81=4:=ah
@[go_sem] theorem aggT_81:cQ Tryz.prog 81=some true:=ah
@[go_sem] theorem infoT_81:(Tryz.prog.info? 81).isSome=true:=ah
@[go_sem] theorem zeroT_81:cu Tryz.prog 81=some [.bd, .bd, .bd, .bd]:=ah
@[go_sem] theorem placesT_81:ee Tryz.prog 81=some [(0,3),(3,1)]:=ah
@[go_sem] theorem aggT_87:cQ Tryz.prog 87=some false:=ah
@[go_sem] theorem cellsOf_88:Tryz.prog.cellsOf 88=4:=ah
@[go_sem] theorem sliceT_88:bW Tryz.prog 88=none:=ah
@[go_sem] theorem arrT_88:vM Tryz.prog 88=some (4,3):=ah
@[go_sem] theorem aggT_88:cQ Tryz.prog 88=some true:=ah
@[go_sem] theorem infoT_88:(Tryz.prog.info? 88).isSome=true:=ah
@[go_sem] theorem undT_88:Tryz.prog.underlying 88=some (.array 4 3):=ah
@[go_sem] theorem cellsOf_90:Tryz.prog.cellsOf 90=16:=ah
@[go_sem] theorem sliceT_90:bW Tryz.prog 90=none:=ah
@[go_sem] theorem arrT_90:vM Tryz.prog 90=some (4,88):=ah
@[go_sem] theorem aggT_90:cQ Tryz.prog 90=some true:=ah
@[go_sem] theorem infoT_90:(Tryz.prog.info? 90).isSome=true:=ah
@[go_sem] theorem zeroT_90:cu Tryz.prog 90=some [.d (.int .i64 0), .d (.int .i64 0), .d (.int .i64 0), .d (.int .i64 0), .d (.int .i64 0), .d (.int .i64 0), .d (.int .i64 0), .d (.int .i64 0), .d (.int .i64 0), .d (.int .i64 0), .d (.int .i64 0), .d (.int .i64 0), .d (.int .i64 0), .d (.int .i64 0), .d (.int .i64 0), .d (.int .i64 0)]:=ah
@[go_sem] theorem placesT_90:ee Tryz.prog 90=some [(0,4),(4,4),(8,4),(12,4)]:=ah
@[go_sem] theorem cellsOf_102:Tryz.prog.cellsOf 102=2:=ah
@[go_sem] theorem aggT_102:cQ Tryz.prog 102=some true:=ah
@[go_sem] theorem infoT_102:(Tryz.prog.info? 102).isSome=true:=ah
@[go_sem] theorem zeroT_102:cu Tryz.prog 102=some [.d (.str []), .d (.int .i64 0)]:=ah
@[go_sem] theorem placesT_102:ee Tryz.prog 102=some [(0,1),(1,1)]:=ah
@[go_sem] theorem cellsOf_104:Tryz.prog.cellsOf 104=1:=ah
@[go_sem] theorem aggT_104:cQ Tryz.prog 104=some false:=ah
@[go_sem] theorem infoT_104:(Tryz.prog.info? 104).isSome=true:=ah
@[go_sem] theorem zeroT_104:cu Tryz.prog 104=some [.d .b7]:=ah
@[go_sem] theorem cellsOf_116:Tryz.prog.cellsOf 116=5:=ah
@[go_sem] theorem aggT_116:cQ Tryz.prog 116=some true:=ah
@[go_sem] theorem infoT_116:(Tryz.prog.info? 116).isSome=true:=ah
@[go_sem] theorem zeroT_116:cu Tryz.prog 116=some [.d (.int .i64 0), .d (.int .i64 0), .bd, .bd, .d (.bool false)]:=ah
@[go_sem] theorem placesT_116:ee Tryz.prog 116=some [(0,3),(3,1),(4,1)]:=ah
@[go_sem] theorem aggT_140:cQ Tryz.prog 140=some false:=ah
@[go_sem] theorem cellsOf_141:Tryz.prog.cellsOf 141=1:=ah
@[go_sem] theorem aggT_141:cQ Tryz.prog 141=some false:=ah
@[go_sem] theorem infoT_141:(Tryz.prog.info? 141).isSome=true:=ah
@[go_sem] theorem zeroT_141:cu Tryz.prog 141=some [.d .b7]:=ah
@[go_sem] theorem sliceT_146:bW Tryz.prog 146=some 9:=ah
@[go_sem] theorem intT_146:vN Tryz.prog 146=none:=ah
@[go_sem] theorem undT_146:Tryz.prog.underlying 146=some (.slice 9):=ah
@[go_sem] theorem cellsOf_149:Tryz.prog.cellsOf 149=1:=ah
@[go_sem] theorem aggT_149:cQ Tryz.prog 149=some false:=ah
@[go_sem] theorem infoT_149:(Tryz.prog.info? 149).isSome=true:=ah
@[go_sem] theorem zeroT_149:cu Tryz.prog 149=some [.d .b7]:=ah
@[go_sem] theorem cellsOf_166:Tryz.prog.cellsOf 166=1:=ah
@[go_sem] theorem aggT_166:cQ Tryz.prog 166=some false:=ah
@[go_sem] theorem infoT_166:(Tryz.prog.info? 166).isSome=true:=ah
@[go_sem] theorem mapT_166:qT Tryz.prog 166=some (9,4):=ah
@[go_sem] theorem zeroT_166:cu Tryz.prog 166=some [.d .ig]:=ah
@[go_sem] theorem cellsOf_172:Tryz.prog.cellsOf 172=1:=ah
@[go_sem] theorem aggT_172:cQ Tryz.prog 172=some false:=ah
@[go_sem] theorem infoT_172:(Tryz.prog.info? 172).isSome=true:=ah
@[go_sem] theorem undT_172:Tryz.prog.underlying 172=some (.map 3 3):=ah
@[go_sem] theorem mapT_172:qT Tryz.prog 172=some (3,3):=ah
@[go_sem] theorem zeroT_172:cu Tryz.prog 172=some [.d .ig]:=ah
@[go_sem] theorem cellsOf_198:Tryz.prog.cellsOf 198=1:=ah
@[go_sem] theorem aggT_198:cQ Tryz.prog 198=some false:=ah
@[go_sem] theorem infoT_198:(Tryz.prog.info? 198).isSome=true:=ah
@[go_sem] theorem mapT_198:qT Tryz.prog 198=some (3,4):=ah
@[go_sem] theorem zeroT_198:cu Tryz.prog 198=some [.d .ig]:=ah
@[go_sem] theorem cellsOf_214:Tryz.prog.cellsOf 214=1:=ah
@[go_sem] theorem aggT_214:cQ Tryz.prog 214=some false:=ah
@[go_sem] theorem infoT_214:(Tryz.prog.info? 214).isSome=true:=ah
@[go_sem] theorem cellsOf_215:Tryz.prog.cellsOf 215=16:=ah
@[go_sem] theorem sliceT_215:bW Tryz.prog 215=none:=ah
@[go_sem] theorem arrT_215:vM Tryz.prog 215=some (16,214):=ah
@[go_sem] theorem aggT_215:cQ Tryz.prog 215=some true:=ah
@[go_sem] theorem infoT_215:(Tryz.prog.info? 215).isSome=true:=ah
@[go_sem] theorem zeroT_215:cu Tryz.prog 215=some [.d .b7, .d .b7, .d .b7, .d .b7, .d .b7, .d .b7, .d .b7, .d .b7, .d .b7, .d .b7, .d .b7, .d .b7, .d .b7, .d .b7, .d .b7, .d .b7]:=ah
@[go_sem] theorem placesT_215:ee Tryz.prog 215=some [(0,1),(1,1),(2,1),(3,1),(4,1),(5,1),(6,1),(7,1),(8,1),(9,1),(10,1),(11,1),(12,1),(13,1),(14,1),(15,1)]:=ah
@[go_sem] theorem zeroT_218:cu Tryz.prog 218=some [.bd, .bd]:=ah
@[go_sem] theorem placesT_218:ee Tryz.prog 218=some [(0,2)]:=ah
@[go_sem] theorem fieldT_24_0:bK Tryz.prog 24 0=some 0:=ah
@[go_sem] theorem fieldT_24_1:bK Tryz.prog 24 1=some 1:=ah
@[go_sem] theorem fieldT_27_0:bK Tryz.prog 27 0=some 0:=ah
@[go_sem] theorem fieldT_27_1:bK Tryz.prog 27 1=some 2:=ah
@[go_sem] theorem fieldT_40_1:bK Tryz.prog 40 1=some 1:=ah
@[go_sem] theorem fieldT_40_2:bK Tryz.prog 40 2=some 2:=ah
@[go_sem] theorem fieldT_40_3:bK Tryz.prog 40 3=some 3:=ah
@[go_sem] theorem fieldT_40_5:bK Tryz.prog 40 5=some 5:=ah
@[go_sem] theorem fieldT_55_0:bK Tryz.prog 55 0=some 0:=ah
@[go_sem] theorem fieldT_55_1:bK Tryz.prog 55 1=some 1:=ah
@[go_sem] theorem fieldT_55_2:bK Tryz.prog 55 2=some 2:=ah
@[go_sem] theorem fieldT_57_0:bK Tryz.prog 57 0=some 0:=ah
@[go_sem] theorem fieldT_57_1:bK Tryz.prog 57 1=some 1:=ah
@[go_sem] theorem fieldT_57_2:bK Tryz.prog 57 2=some 2:=ah
@[go_sem] theorem fieldT_57_3:bK Tryz.prog 57 3=some 5:=ah
@[go_sem] theorem fieldT_64_0:bK Tryz.prog 64 0=some 0:=ah
@[go_sem] theorem fieldT_64_1:bK Tryz.prog 64 1=some 1:=ah
@[go_sem] theorem fieldT_64_2:bK Tryz.prog 64 2=some 2:=ah
@[go_sem] theorem fieldT_81_0:bK Tryz.prog 81 0=some 0:=ah
@[go_sem] theorem fieldT_81_1:bK Tryz.prog 81 1=some 3:=ah
@[go_sem] theorem fieldT_102_0:bK Tryz.prog 102 0=some 0:=ah
@[go_sem] theorem fieldT_102_1:bK Tryz.prog 102 1=some 1:=ah
@[go_sem] theorem fieldT_116_0:bK Tryz.prog 116 0=some 0:=ah
@[go_sem] theorem fieldT_116_1:bK Tryz.prog 116 1=some 3:=ah
@[go_sem] theorem fieldT_116_2:bK Tryz.prog 116 2=some 4:=ah
@[go_sem] theorem fieldT_218_0:bK Tryz.prog 218 0=some 0:=ah
section
def m9(x y:ab):Prop:=(x.b8=true->y.b8=true)/\∀e,x.bY=some e->y.bY=some e
theorem m9.rfl' {x y:ab}(h:x=y):m9 x y:=h ▸ ⟨id,fun _ h=>h⟩
theorem m9.fz (x:ab):m9 x.fz x:=by cases x<;>exact⟨id,fun _ h=>h⟩
theorem m9.row (cs cs':List V):m9 (.row cs) (.row cs'):=⟨fun _=>rfl,fun _ h=>by cases h⟩
mutual
theorem V.na {B B':Nat->Prop}{φ aE:Place}{H H':Hp}{w:World}(hB:∀b, ¬B b-> ¬B' b):∀ (v:V) (val:Value),(∀id∈v.refs,m9 (H'.o id) (H.o id)/\aE id=φ id/\H'.us id)->V.den B φ H w v val->V.den B' aE H' w v val
 | .d x,val,_,h=>D.aM (w:=w) (w':=w) (fun b _ hn=>⟨rfl,hB b hn⟩) x val h
 | .bd,_,_,h=>h
 | .aa,_,_,_=>trivial
 | .eV,_,_,h=>h
 | .qB es,val,_,h=>⟨D.aM (w:=w) (w':=w) (fun b _ hn=>⟨rfl,hB b hn⟩) (.sl es) val h.1,h.2⟩
 | .agg cs,val,hr,h=>by
   obtain⟨a,rfl,h1,h2⟩:=h
   exact⟨a,rfl,V.gS hB cs _ wo h1,h2⟩
 | .bU cs,val,hr,h=>by
   obtain⟨a,rfl,h1⟩:=h
   exact⟨a,rfl,V.gS hB cs _ wo h1⟩
 | .ptr id off,val,hr,h=>by
   exact Sy
 | .osl id ep,val,hr,h=>by
   obtain⟨a,b,c⟩:=hr id zZ
   obtain⟨h0,h1,h2⟩:=h
   refine⟨h0,c,fun e he=> ?_⟩
   obtain⟨x,y⟩:=h2 e (a.2 e he)
   exact⟨x,fun heq=>(y heq).trans b.symm⟩
 | .pe id ep i sz off,val,hr,h=>by
   obtain⟨a,b,c⟩:=hr id zZ
   obtain⟨h0,h1,h2⟩:=h
   refine⟨h0,c,fun e he=> ?_⟩
   obtain⟨x,y⟩:=h2 e (a.2 e he)
   exact Pv
 | .pp cs off,val,_,h=>by
   obtain⟨a,ev,h1,h2,h3,h5,h4⟩:=h
   exact XF
 | .func fn first cap,val,hr,h=>by
   obtain⟨f,c,rfl,h1,h2⟩:=h
   exact⟨f,c,rfl,V.gS hB first _ (fun id au=>hr id (by simp[V.refs,au])) h1,V.gS hB cap _ (fun id au=>hr id (by simp[V.refs,au])) h2⟩
 | .iface t x,val,hr,h=>by
   obtain⟨u,rfl,h⟩:=h
   exact⟨u,rfl,V.na hB x u wo h⟩
 | .wx id off n,val,hr,h=>by
   exact Sy
 | .mp id,val,hr,h=>by
   obtain⟨a,b,c⟩:=hr id zZ
   obtain⟨h0,h1,h2⟩:=h
   refine⟨h0,c,fun bG=> ?_⟩
   exact(h2 (a.1 bG)).trans b.symm
 | .ja id,val,hr,h=>by
   exact Sy
theorem V.gS {B B':Nat->Prop}{φ aE:Place}{H H':Hp}{w:World}(hB:∀b, ¬B b-> ¬B' b):∀ (vs:List V) (vals:List Value),(∀id∈V.aG vs,m9 (H'.o id) (H.o id)/\aE id=φ id/\H'.us id)->V.aD B φ H w vs vals->V.aD B' aE H' w vs vals
 |[],_,_,h=>h
 |v::vs,_,hr,h=>by
  obtain⟨u,us,rfl,h1,h2⟩:=h
  exact⟨u,us,rfl,V.na hB v u (fun id au=>hr id (by simp[V.aG,au])) h1,V.gS hB vs us (fun id au=>hr id (by simp[V.aG,au])) h2⟩
end
mutual
theorem V.nE {B:Nat->Prop}{φ:Place}{H:Hp}{w:World}:∀ (v:V) (val:Value),V.den B φ H w v val->∀id∈v.refs,H.us id
 | .osl id ep,_,h,j,hj| .ptr id off,_,h,j,hj| .pe id ep i sz off,_,h,j,hj| .wx id off n,_,h,j,hj| .mp id,_,h,j,hj| .ja id,_,h,j,hj=>by simp[V.refs]at hj;subst hj;exact h.2.1
 | .agg cs,_,h,j,hj=>by obtain⟨a,rfl,h,_⟩:=h;exact V.gU cs _ h j (by simpa[V.refs]using hj)
 | .bU cs,_,h,j,hj=>by obtain⟨a,rfl,h⟩:=h;exact V.gU cs _ h j (by simpa[V.refs]using hj)
 | .func fn first cap,_,h,j,hj=>by
   obtain⟨f,c,rfl,h1,h2⟩:=h
   rcases List.mem_append.1 (show j∈V.aG first++V.aG cap by simpa[V.refs]using hj)with hj|hj
   ·exact V.gU first _ h1 j hj
   ·exact V.gU cap _ h2 j hj
 | .iface t x,_,h,j,hj=>by obtain⟨u,rfl,h⟩:=h;exact V.nE x u h j (by simpa[V.refs]using hj)
 | .d _,_,_,_,hj| .bd,_,_,_,hj| .pp _ _,_,_,_,hj| .aa,_,_,_,hj| .qB _,_,_,_,hj| .eV,_,_,_,hj=>by simp[V.refs]at hj
theorem V.gU {B:Nat->Prop}{φ:Place}{H:Hp}{w:World}:∀ (vs:List V) (vals:List Value),V.aD B φ H w vs vals->∀id∈V.aG vs,H.us id
 |[],_,_,j,hj=>by simp[V.aG]at hj
 |v::vs,_,h,j,hj=>by
  obtain⟨u,us,rfl,h1,h2⟩:=h
  rcases List.mem_append.1 (show j∈v.refs++V.aG vs by simpa[V.aG]using hj)with hj|hj
  ·exact V.nE v u h1 j hj
  ·exact V.gU vs us h2 j hj
end
def KI(so:Nat->ab)(gone:Nat->Prop)(ty:TypeId)(sz:Nat)(es:List D)(x:V):Prop:=
 (x= .bd/\es=[]/\0<sz)\/∃id ep,gone id/\x= .osl id ep/\so id= .arr ep ty sz es
theorem KJ{xs ys:List Nat}:kz xs ys=true↔∀x∈xs,x∉ys:=by
 simp[kz,List.all_eq_true]
def l7(env:Nat->V):List V->Nat->Prop
 |[],_=>True
 |v::l,i=>(v= .aa\/v=env i)/\l7 env l (i+1)
theorem Ga{env:Nat->V}{i:Nat}:l7 env [] i:=trivial
theorem CM{env:Nat->V}{l:List V}{i:Nat}(h:l7 env l (i+1)):l7 env (.aa::l) i:=⟨.inl rfl,h⟩
theorem Mw{env:Nat->V}{l:List V}{i:Nat}{v:V}(he:env i=v)(h:l7 env l (i+1)):l7 env (v::l) i:=⟨.inr he.symm,h⟩
theorem BD{env:Nat->V}:∀ (l:List V) (i:Nat),l7 env l i->∀j,aS l j= .aa\/aS l j=env (i+j)
 |[],i,_,j=>by rw[pU];exact .inl rfl
 |v::l,i,h,0=>by rw[ny];exact h.1
 |v::l,i,h,j+1=>by
  rw[nz]
  have:=BD l (i+1) h.2 j
  rwa [show i+1+j=i+(j+1) by omega]at this
theorem Hc{P:Program}{n bq:Nat}{gq:Operand}{ps:List Nat}{x y:IC}{Q:fm->S->Prop}{e:Nat->V}{o:Nat->ab}{nx:Nat}{f:FuncId}{cap:List V}(env:List V)(he:l7 e env 0)
 (h:cX P f (.ja nx::cap) (aA o nx (.loop P.funcs.size n env ps x y .ready none)) (nx+1)
  (fun _ o' nx'=>∃nf m en p c d st pd,o' nx= .loop nf m en p c d st pd/\st≠ .busy/\oL Q pd ⟨e,aA o' nx (.loop nf m en p c d .exhausted pd),nx'⟩) (fun v o' nx'=>Q (.bD v) ⟨e,o',nx'⟩)):
 yI P n bq false gq ps x y Q ⟨e,o,nx⟩ (.func (.func f) [] cap):=by
 unfold yI AW
 refine⟨rfl, .inl ⟨env,fun i=> ?_, .inl h⟩⟩
 have:=BD env 0 he i
 rwa [Nat.zero_add]at this
theorem aZ.trans {b:Nat}{s s' s'':S}(h1:aZ b s s')(h2:aZ b s' s''):aZ b s s'':=fun M φ w tm hH hd=>by
 obtain⟨aE,a1,a2,a3,a4,a5,a6⟩:=h1 M φ w tm hH hd
 obtain⟨CU,b1,b2,b3,b4,b5,b6⟩:=h2 M aE w tm a1 a2
 refine⟨CU,b1,b2,fun k hk=>a3 k (b3 k hk),b4,fun id au hr=> ?_,fun id e' au he=> ?_⟩
 ·obtain⟨c1,c2⟩:=b5 id au hr
  obtain⟨c3,c4⟩:=a5 id au c1
  exact⟨c3,c2.trans c4⟩
 ·obtain⟨e1,c1,c2,c3⟩:=b6 id e' au he
  obtain⟨e0,d1,d2,d3⟩:=a6 id e1 au c1
  exact⟨e0,d1,Nat.le_trans d2 c2,fun h=>(c3 af).trans (d3 af)⟩
def oR(P:Program)(n b id:Nat)(fj:IC)(K X:V->(Nat->ab)->Nat->Prop)(e:fm)(s:S):Prop:=
 match e with
 | .normal=>∃nf m en p c d pd,s.o id= .loop nf m en p c d .ready pd/\lQ P n b true fj (jH id K X) ⟨s.env,aA s.o id (.loop nf m en p c d .busy pd),s.nx⟩
 | .bD v=>X v s.o s.nx
 |_=>False
theorem dw.aF {P:Program}{n:Nat}(bc:P.follows .mixedOrders=true){id:Nat}{args:List V}{o:Nat->ab}{nx:Nat}{K X:V->(Nat->ab)->Nat->Prop}{env:List V}{ps:List Nat}{jr fj:IC}{st:LoopState}{pd:Option jP}
 (ho:o id= .loop P.funcs.size n env ps jr fj st pd) (ck:id<nx) (nD:ps.all (fun t=>decide (t<n))=true) (hl:args.length=ps.length)
 (h:lQ P n nx true jr (oR P n nx id fj K X) ⟨mW (aS env) ps args,o,nx⟩):dw P id args o nx K X:=by
 refine dw.uq bc ho ck nD hl (fq jr _ _ _ (fun e s h=> ?_) h)
 cases e with
 |normal=>
  obtain⟨nf,m,en,p,c,d,pd,h1,h2⟩:=h
  exact⟨nf,m,en,p,c,d,pd,h1,fq fj _ _ _ (fun _ _ h=>h) h2⟩
 |bD v=>exact h
 |_=>exact h.elim
theorem y9{P:Program}{n b id:Nat}{fj:IC}{K X:V->(Nat->ab)->Nat->Prop}{s:S}{nf m:Nat}{en:List V}{p:List Nat}{c d:IC}{pd:Option jP}(h:s.o id= .loop nf m en p c d .ready pd)
 (h2:lQ P n b true fj (jH id K X) ⟨s.env,aA s.o id (.loop nf m en p c d .busy pd),s.nx⟩):oR P n b id fj K X .normal s:=⟨nf,m,en,p,c,d,pd,h,h2⟩
def vY:List Nat->Nat->Nat->Nat
 |[],nx,k=>nx+k
 |i::_,_,0=>i
 |_::l,nx,k+1=>vY l nx k
theorem za:∀ (l:List Nat) (nx k:Nat),vY l nx k∈l\/nx<=vY l nx k
 |[],nx,k=> .inr (Nat.le_add_right _ _)
 |i::_,_,0=> .inl (List.mem_cons_self ..)
 |_::l,nx,k+1=>(za l nx k).imp (List.mem_cons_of_mem _) id
theorem BE{nx:Nat}:∀ (l:List Nat),l.Nodup->(∀i∈l,i<nx)->∀a b,vY l nx a=vY l nx b->a=b
 |[],_,_,a,b,e=>by simp only[vY]at e;omega
 |i::l,_,_,0,0,_=>rfl
 |i::l,hd,hl,0,b+1,e=>by
  simp only[vY]at e
  rcases za l nx b with h|h
  ·rw[<- e]at h;exact absurd h (List.nodup_cons.1 hd).1
  ·have:=hl i (List.mem_cons_self ..);omega
 |i::l,hd,hl,a+1,0,e=>by
  simp only[vY]at e
  rcases za l nx a with h|h
  ·rw[e]at h;exact absurd h (List.nodup_cons.1 hd).1
  ·have:=hl i (List.mem_cons_self ..);omega
 |i::l,hd,hl,a+1,b+1,e=>by
  simp only[vY]at e
  rw[BE l (List.nodup_cons.1 hd).2 (fun j hj=>hl j (List.mem_cons_of_mem _ hj)) a b e]
def NR(f:Nat->Nat)(x:List Nat×List Nat):List Nat×List Nat:=(x.1.map f,x.2.map f)
theorem uN{f:Nat->Nat}(hf:∀a b,f a=f b->a=b){xs ys:List Nat}(hd:kz xs ys=true):kz (xs.map f) (ys.map f)=true:=by
 rw[KJ]at hd|-
 intro x hx hy
 obtain⟨a,ha,rfl⟩:=List.mem_map.1 hx
 obtain⟨b,hb,e⟩:=List.mem_map.1 hy
 rw[hf b a e]at hb
 exact hd a ha hb
theorem DK{f:Nat->Nat}(hf:∀a b,f a=f b->a=b){pr:List (List Nat)}(fp:List (List Nat×List Nat))(ho:dX pr fp=true):dX pr (fp.map (NR f))=true:=by
 unfold dX at ho|-
 rw[List.all_eq_true]at ho|-
 intro j hj
 rw[List.length_map]at hj
 have ho:=ho j hj
 rw[List.all_eq_true]at ho|-
 intro i hi
 have ho:=ho i hi
 have hm:∀k,(fp.map (NR f)).getD k ([],[])=NR f (fp.getD k ([],[])):=fun k=>by
  rw[List.getD_eq_getElem?_getD,List.getD_eq_getElem?_getD,List.getElem?_map]
  cases fp[k]? <;>rfl
 rw[hm,hm]
 rw[Bool.or_eq_true]at ho|-
 refine ho.imp (fun h=>h) (fun ho=> ?_)
 rw[Bool.and_eq_true,Bool.and_eq_true]at ho|-
 exact⟨⟨uN hf ho.1.1,uN hf ho.1.2⟩,uN hf ho.2⟩
theorem iB{ids:List Nat}{nx:Nat}(hd:ids.Nodup)(hl:∀i∈ids,i<nx){pr:List (List Nat)}(fp:List (List Nat×List Nat))(ho:dX pr fp=true):dX pr (fp.map (NR (vY ids nx)))=true:=
 DK (BE ids hd hl) fp ho
section
variable {P:Program}{KB:List Nat->Fp->Prop}{pr:List (List Nat)}{l:List bI}{fr:Nat}{fp:Fp}{bad ws:List Nat}{s:S}{d:Option Nat}{op:Op}
end
end
section
structure Gr where
 x:V
 ty:TypeId
 sz:Nat
 es:List D
def Gr.ok (so:Nat->ab)(gone:Nat->Prop)(g:Gr):Prop:=KI so gone g.ty g.sz g.es g.x
def KL(c:Nat)(G:List Gr)(so:Nat->ab)(gone:Nat->Prop)(v v':V):Prop:=
 v'= .aa\/(v'=v/\∀r∈v.refs,r<c)\/(∃i g,G[i]? =some g/\v'= .osl (c+i) 0/\v=g.x)\/∃y,v'= .d y/\dE so v=some y/\∀id∈v.ids,gone id/\∀g∈G,∀ep,g.x≠ .osl id ep
def me(c:Nat)(G:List Gr)(so:Nat->ab)(gone:Nat->Prop)(env:Nat->V):List V->Nat->Prop
 |[],_=>True
 |v::l,i=>KL c G so gone (env i) v/\me c G so gone env l (i+1)
def uO(c:Nat)(G:List Gr)(so:Nat->ab)(gone:Nat->Prop):List V->List V->Prop
 |[],[]=>True
 |v::l,v'::l'=>KL c G so gone v v'/\uO c G so gone l l'
 |_,_=>False
def uP(c:Nat)(G:List Gr)(so:Nat->ab)(gone:Nat->Prop)(x x':ab):Prop:=
 x'= .no\/(x=x'/\∀r∈x'.refs,r<c)\/∃cs cs',x= .row cs/\x'= .row cs'/\uO c G so gone cs cs'
section
variable {c:Nat}{G:List Gr}{so:Nat->ab}{gone:Nat->Prop}
theorem Fv{env:Nat->V}:∀ (l:List V) (i:Nat),me c G so gone env l i->∀j,KL c G so gone (env (i+j)) (aS l j)
 |[],i,_,j=>by rw[pU];exact .inl rfl
 |v::l,i,h,0=>by rw[ny];exact h.1
 |v::l,i,h,j+1=>by
  rw[nz]
  have:=Fv l (i+1) h.2 j
  rwa [show i+1+j=i+(j+1) by omega]at this
variable {env:Nat->V}{i:Nat}{l l':List V}{v:V}{y:D}
theorem zU:me c G so gone env [] i:=trivial
theorem wh(h:me c G so gone env l (i+1)):me c G so gone env (.aa::l) i:=⟨.inl rfl,h⟩
theorem xN(he:env i= .d y)(h:me c G so gone env l (i+1)):me c G so gone env (.d y::l) i:=⟨.inr (.inl ⟨he.symm,fun r hr=>by rw[he]at hr;simp[V.refs]at hr⟩),h⟩
theorem Iq(he:env i=v)(hr:∀r∈v.refs,r<c)(h:me c G so gone env l (i+1)):me c G so gone env (v::l) i:=⟨.inr (.inl ⟨he.symm,fun r x9=>hr r (he ▸ x9)⟩),h⟩
theorem Ip(k:Nat){g:Gr}{n:Nat}(hg:G[k]? =some g)(hn:n=c+k)(he:env i=g.x)(h:me c G so gone env l (i+1)):me c G so gone env (.osl n 0::l) i:=⟨.inr (.inr (.inl ⟨k,g,hg,by rw[hn],he⟩)),h⟩
theorem Ir(ht:dE so (env i)=some y)(hi:∀id∈(env i).ids,gone id/\∀g∈G,∀ep,g.x≠ .osl id ep)(h:me c G so gone env l (i+1)):me c G so gone env (.d y::l) i:=⟨.inr (.inr (.inr ⟨y,rfl,ht,hi⟩)),h⟩
theorem BF:uO c G so gone [] []:=trivial
theorem U9(h:uO c G so gone l l'):uO c G so gone (.d y::l) (.d y::l'):=⟨.inr (.inl ⟨rfl,fun r hr=>by simp[V.refs]at hr⟩),h⟩
theorem KM(k:Nat){g:Gr}{n:Nat}(hg:G[k]? =some g)(hn:n=c+k)(he:v=g.x)(h:uO c G so gone l l'):uO c G so gone (v::l) (.osl n 0::l'):=⟨.inr (.inr (.inl ⟨k,g,hg,by rw[hn],he⟩)),h⟩
theorem br{x x':ab}(h:x=x')(hr:∀r∈x'.refs,r<c):uP c G so gone x x':= .inr (.inl ⟨h,hr⟩)
theorem BG{x:ab}{cs cs':List V}(h:x= .row cs)(hr:uO c G so gone cs cs'):uP c G so gone x (.row cs'):= .inr (.inr ⟨cs,cs',h,rfl,hr⟩)
end
theorem p8{c:Nat}{G:List Gr}{so:Nat->ab}{gone:Nat->Prop}{B B':Nat->Prop}{φ aE:Place}{H H':Hp}{w:World}(hc:∀v v' val,KL c G so gone v v'->V.den B φ H w v val->V.den B' aE H' w v' val):
 ∀ (l l':List V) (vals:List Value),uO c G so gone l l'->V.aD B φ H w l vals->V.aD B' aE H' w l' vals
 |[],[],_,_,h=>h
 |v::l,v'::l',_,h,hd=>by
  obtain⟨u,us,rfl,h1,h2⟩:=hd
  exact⟨u,us,rfl,hc _ _ _ h.1 h1,p8 hc l l' us h.2 h2⟩
 |[],_::_,_,h,_=>h.elim
 |_::_,[],_,h,_=>h.elim
def KN(φ:Place)(c:Nat)(G:List Gr):Place:=fun id=>if id<c then φ id else match G[id - c]? with
 |some g=>(match g.x with| .osl j _=>φ j|_=> .slice none 0 0)
 |none=>φ id
theorem aZ.see (gone:Nat->Prop)(G:List Gr)(c:Nat){b:Nat}{e:Nat->V}{so:Nat->ab}{m:Nat}(l:List V){o':Nat->ab}{nx':Nat}(vG:nx'=c+G.length)(hb:b<=c)
 (ho:∀id,id<c->uP c G so gone (so id) (o' id)) (hG:∀i g,G[i]? =some g->o' (c+i)= .arr 0 g.ty g.sz g.es/\g.ok so gone) (hh:∀id,nx'<=id->o' id= .no) (xk:∀id,gone id->id<c->o' id= .no)
 (S5:∀ (i j:Nat) (gi gj:Gr) (id ep ij:Nat),G[i]? =some gi->G[j]? =some gj->gi.x= .osl id ep->gj.x= .osl id ij->i=j) (he:me c G so gone e l 0):aZ b ⟨e,so,m⟩ ⟨aS l,o',nx'⟩:=by
 subst vG
 intro M φ w tm hH hd
 let aE:Place:=KN φ c G
 let H':Hp:=hp o' (c+G.length)
 let H:Hp:=⟨so,fun id=>id<m⟩
 have Hd:∀id,id<c->aE id=φ id:=fun id au=>if_pos au
 have KO:∀i g,G[i]? =some g->aE (c+i)=(match g.x with| .osl j _=>φ j|_=> .slice none 0 0):=fun i g hg=>by
  show KN φ c G (c+i)=_
  unfold KN
  rw[if_neg (by omega),show c+i - c=i by omega,hg]
 have hold:∀id k,(o' id).live=true->de (aE id)=some k->∃j,(so j).live=true/\de (φ j)=some k/\((id<c/\j=id)\/∃i g ep,id=c+i/\G[i]? =some g/\gone j/\g.x= .osl j ep):=by
  intro id k h1 h2
  by_cases ck:id<c
  ·rw[Hd id ck]at h2
   rcases ho id ck with h3|⟨h3,_⟩|⟨cs,cs',h3,h4,_⟩
   ·rw[h3]at h1;cases h1
   ·exact⟨id,by rw[h3];exact h1,h2, .inl ⟨ck,rfl⟩⟩
   ·exact⟨id,by rw[h3];rfl,h2, .inl ⟨ck,rfl⟩⟩
  ·by_cases zQ:c+G.length<=id
   ·rw[hh id zQ]at h1;cases h1
   ·obtain⟨i,rfl⟩:∃i,id=c+i:=⟨id - c,af⟩
    obtain⟨g,hg⟩:∃g,G[i]? =some g:=⟨G[i]'af,aL⟩
    rw[KO i g hg]at h2
    obtain⟨_,aW⟩:=hG i g hg
    rcases aW with⟨h3,_,_⟩|⟨j,ep,hj,h3,oY⟩
    ·rw[h3]at h2;cases h2
    ·rw[h3]at h2
     exact⟨j,by rw[oY];rfl,h2, .inr ⟨i,g,ep,rfl,hg,hj,h3⟩⟩
 have cB:∀k,cA aE H' k->cA φ H k:=by
  rintro k ⟨id,h1,h2⟩
  obtain⟨j,g1,g2,_⟩:=hold id k h1 h2
  exact⟨j,g1,g2⟩
 have hB:∀k, ¬ak M φ H k-> ¬ak M aE H' k:=fun k h h'=>h (h'.imp id (cB k))
 have AA:∀id,id<c->m9 (H'.o id) (H.o id)/\aE id=φ id/\H'.us id:=fun id au=>by
  refine⟨?_,Hd id au,(by show id<c+G.length;omega)⟩
  show m9 (o' id) (so id)
  rcases ho id au with h3|⟨h3,_⟩|⟨cs,cs',h3,h4,_⟩
  ·rw[h3];exact⟨fun h=>(by cases h),fun e h=>(by cases h)⟩
  ·exact m9.rfl' h3.symm
  ·rw[h3,h4];exact m9.row _ _
 have eJ:∀ (v:V) (val:Value),(∀r∈v.refs,r<c)->V.den (ak M φ H) φ H w v val->V.den (ak M aE H') aE H' w v val:=fun v val hr h=>
  V.na (H:=H) (H':=H') hB v val (fun id au=>AA id (hr id au)) h
 have kP:∀ (v:List V) (val:List Value),(∀r∈V.aG v,r<c)->V.aD (ak M φ H) φ H w v val->V.aD (ak M aE H') aE H' w v val:=fun v val hr h=>
  V.gS (H:=H) (H':=H') hB v val (fun id au=>AA id (hr id au)) h
 have aec:∀ (v:V) (y:D) (val:Value),dE so v=some y->(∀id∈v.ids,gone id/\∀g∈G,∀ep,g.x≠ .osl id ep)->V.den (ak M φ H) φ H w v val->D.den (ak M aE H') w y val:=fun v y val h1 h2 h3=>by
  obtain⟨f1,f2,f3,f4,f5⟩:=cG (H:=H) hH v.ids (fun id au=>cE v val h3 id au)
  have hB1:∀k,cA φ (H.put (cg H.o v.ids)) k->cA φ H k:=by
   rintro k ⟨id,g1,g2⟩
   by_cases au:id∈v.ids
   ·rw[f3 id au]at g1
    refine⟨id, ?_,g2⟩
    revert g1
    cases H.o id<;>simp[ab.fz,ab.live]
   ·rw[f4 id au]at g1;exact⟨id,g1,g2⟩
  have h4:V.den (ak M φ (H.put (cg H.o v.ids))) φ (H.put (cg H.o v.ids)) w v val:=
   V.na (H:=H) (fun k h h'=>h (h'.imp id (hB1 k))) v val (fun id au=>by
     have dW:H.us id:=(V.nE v val h3) id au
     refine⟨?_,rfl,(f5 id).2 dW⟩
     by_cases hm:id∈v.ids
     ·rw[f3 id hm];exact m9.fz _
     ·rw[f4 id hm];exact m9.rfl' rfl) h3
  have h5:=eN f1 (o:=so) v y val (fun id au=>f3 id au) h1 h4
  refine D.aM (w:=w) (w':=w) (fun k _ hn=>⟨rfl,fun hk=>hn (hk.imp id ?_)⟩) y val h5
  rintro⟨id,g1,g2⟩
  obtain⟨j,k1,k2,k3⟩:=hold id k g1 g2
  refine⟨j, ?_,k2⟩
  have:j∉v.ids:=fun hm=>by
   obtain⟨k4,k5⟩:=h2 j hm
   rcases k3 with⟨k6,k7⟩|⟨i,g,ep,k6,k8,k9,k10⟩
   ·subst k7
    have:=xk _ k4 k6
    have g1:(o' j).live=true:=g1
    rw[this]at g1
    cases g1
   ·exact k5 g (List.mem_of_getElem? k8) ep k10
  rw[f4 j this];exact k1
 have uQ:∀i g val,G[i]? =some g->V.den (ak M φ H) φ H w g.x val->V.den (ak M aE H') aE H' w (.osl (c+i) 0) val:=by
  intro i g val hg this
  obtain⟨CN,aW⟩:=hG i g hg
  have ck:c+i<c+G.length:=by have:=(List.getElem?_eq_some_iff.1 hg).1;omega
  rcases aW with⟨h3,_,_⟩|⟨j,ep,hj,h3,oY⟩
  ·rw[h3]at this
   simp only[V.den]at this
   rw[this]
   refine⟨rfl,ck,fun e' oX=> ?_⟩
   have oX:(o' (c+i)).bY=some e':=oX
   rw[CN]at oX
   simp only[ab.bY,Option.some.injEq]at oX
   subst oX
   exact⟨Nat.le_refl _,fun _=>by rw[KO i g hg,h3]⟩
  ·rw[h3]at this
   obtain⟨g1,g2,g3⟩:=this
   refine⟨g1,ck,fun e' oX=> ?_⟩
   have oX:(o' (c+i)).bY=some e':=oX
   rw[CN]at oX
   simp only[ab.bY,Option.some.injEq]at oX
   subst oX
   have vO:(H.o j).bY=some ep:=by show(so j).bY=_;rw[oY];rfl
   exact⟨Nat.le_refl _,fun _=>by rw[KO i g hg,h3];exact(g3 ep vO).2 rfl⟩
 have Rz:∀v v' val,KL c G so gone v v'->V.den (ak M φ H) φ H w v val->V.den (ak M aE H') aE H' w v' val:=by
  intro v v' val h h1
  rcases h with rfl|⟨rfl,h2⟩|⟨i,g,hg,rfl,rfl⟩|⟨y,rfl,h2,h3⟩
  ·trivial
  ·exact eJ _ _ h2 h1
  ·exact uQ i g _ hg h1
  ·exact aec v y val h2 h3 h1
 refine⟨aE,⟨fun id=> ?_,fun id hu=>hh id (by have: ¬id<c+G.length:=hu;omega),fun i j k h1 h2 h3 h4=> ?_,fun k hk=>hH.ours k (cB k hk),hH.zO⟩,fun i=> ?_,cB,by show b<=c+G.length;omega,fun id au hr=> ?_,fun id e' au oX=> ?_⟩
 ·have a7:aN M φ H w id:=hH.ok id
  show aN M aE H' w id
  unfold aN at a7|-
  by_cases ck:id<c
  ·rcases ho id ck with h3|⟨h3,hrefs⟩|⟨cs,cs',h3,h4,bG⟩
   ·have e2:H'.o id= .no:=h3
    rw[e2];trivial
   ·have e1:H.o id=o' id:=h3
    have e2:H'.o id=o' id:=rfl
    rw[e1]at a7
    rw[e2,Hd id ck]
    cases qE:o' id with
    |no=>trivial
    |row cs=>
     simp only[qE]at a7 hrefs|-
     exact Pq
    |arr ep ty sz es=>
     simp only[qE]at a7|-
     obtain⟨k1,xs,k2,evs,k3,k4,k5⟩:=a7
     exact OQ
    |rN ep es=>
     simp only[qE]at a7|-
     exact MB
    |map kt vt es=>
     simp only[qE]at a7|-
     obtain⟨b,es',clock,k1,k2,k4,k3⟩:=a7
     exact X7
    |gH l=>
     simp only[qE]at a7|-
     exact MB
    |oA l last=>
     simp only[qE]at a7|-
     obtain⟨b,k1,k2⟩:=a7
     exact Pb
    |xT s pos=>
     simp only[qE]at a7|-
     exact a7
    |loop nf n env ps a b st pd=>
     simp only[qE]at a7 hrefs|-
     exact PG
   ·have e1:H.o id= .row cs:=h3
    have e2:H'.o id= .row cs':=h4
    rw[e1]at a7
    rw[e2,Hd id ck]
    obtain⟨b,dI,ty,k1,k2,k3,k4⟩:=a7
    exact⟨b,dI,ty,k1,k2,p8 Rz _ _ _ bG k3,k4⟩
  ·by_cases zQ:c+G.length<=id
   ·have e2:H'.o id= .no:=hh id zQ
    rw[e2];trivial
   ·obtain⟨i,rfl⟩:∃i,id=c+i:=⟨id - c,af⟩
    obtain⟨g,hg⟩:∃g,G[i]? =some g:=⟨G[i]'af,aL⟩
    obtain⟨CN,aW⟩:=hG i g hg
    have e2:H'.o (c+i)= .arr 0 g.ty g.sz g.es:=CN
    rw[e2]
    rcases aW with⟨h3,h4,dA⟩|⟨j,ep,hj,h3,oY⟩
    ·rw[h4]
     refine⟨dA,[], ?_,[],aL,aL,rfl⟩
     rw[KO i g hg,h3]
     exact World.ownsRow_nil _ _ _ _
    ·have this:aN M φ H w j:=hH.ok j
     unfold aN at this
     have e3:H.o j= .arr ep g.ty g.sz g.es:=oY
     simp only[e3]at this
     obtain⟨k1,xs,k2,evs,k3,k4,k5⟩:=this
     exact⟨k1,xs,by rw[KO i g hg,h3];exact k2,evs,k3,k4,D.aP (fun b _ hn=>⟨rfl,hB b hn⟩) _ _ k5⟩
 ·obtain⟨i',a1,a2,a3⟩:=hold i k h1 h3
  obtain⟨j',b1,b2,b3⟩:=hold j k h2 h4
  have:=hH.apart i' j' k a1 b1 a2 b2
  subst this
  have j9:∀CI,(o' CI).live=true->CI<c->gone CI->False:=fun CI g1 g2 g3=>by
   rw[xk _ g3 g2]at g1
   cases g1
  rcases a3 with⟨a3,a4⟩|⟨ia,ga,ea,a3,a4,a5,a6⟩<;>rcases b3 with⟨b3,b4⟩|⟨ib,gb,eb,b3,b4,b5,b6⟩
  ·omega
  ·exact(j9 i h1 a3 (a4 ▸ b5)).elim
  ·exact(j9 j h2 b3 (b4 ▸ a5)).elim
  ·have:=S5 ia ib ga gb _ _ _ a4 b4 a6 b6
   omega
 ·have hi:=Fv l 0 he i
  rw[Nat.zero_add]at hi
  exact Rz _ _ _ hi (hd i)
 ·have ck:id<c:=af
  have hr:(o' id).b8=true:=hr
  exact⟨(AA id ck).1.1 hr,Hd id ck⟩
 ·have ck:id<c:=af
  have oX:(o' id).bY=some e':=oX
  exact⟨e',(AA id ck).1.2 e' oX,Nat.le_refl _,fun _=>Hd id ck⟩
theorem aZ.abQ (gone:Nat->Prop)(c:Nat){b:Nat}{e:Nat->V}{so:Nat->ab}{m:Nat}(l:List V){o':Nat->ab}(hb:b<=c)
 (ho:∀id,id<c->uP c [] so gone (so id) (o' id)) (hh:∀id,c<=id->o' id= .no) (xk:∀id,gone id->id<c->o' id= .no) (he:me c [] so gone e l 0):aZ b ⟨e,so,m⟩ ⟨aS l,o',c⟩:=
 aZ.see gone [] c l rfl hb ho (fun i g h=>by cases h) hh xk (fun i j gi gj id ep ij h=>by cases h) he
theorem aZ.iK (gone:Nat->Prop)(x:V)(c:Nat){ty:TypeId}{sz:Nat}{es:List D}{b:Nat}{e:Nat->V}{so:Nat->ab}{m:Nat}(l:List V){o':Nat->ab}(hb:b<=c)
 (ho:∀id,id<c->uP c [⟨x,ty,sz,es⟩] so gone (so id) (o' id)) (hc:o' c= .arr 0 ty sz es) (hx:KI so gone ty sz es x) (hh:∀id,c+1<=id->o' id= .no) (xk:∀id,gone id->id<c->o' id= .no)
 (he:me c [⟨x,ty,sz,es⟩] so gone e l 0):aZ b ⟨e,so,m⟩ ⟨aS l,o',c+1⟩:=
 aZ.see gone [⟨x,ty,sz,es⟩] c l rfl hb ho (fun i g h=>by
  match i,h with
  |0,h=>simp at h;subst h;exact⟨hc,hx⟩) hh xk (fun i j gi gj id ep ij h h' _ _=>by
  match i,j,h,h' with
  |0,0,_,_=>rfl) he
theorem H6{P:Nat->Prop}(h:P 0):∀id,id<1->P id:=fun id au=>by
 have e:id=0:=af
 rw[e];exact h
theorem lt0{P:Nat->Prop}:∀id,id<0->P id:=fun id au=>af
@[go_sem] theorem aeF (b:Bool):(b==false)= !b:=Ac
@[go_sem] theorem aeG (b:Bool):(b==true)=b:=Ac
@[go_sem] theorem abR (c:Bool) (v:V):V.yG c (V.yG c v)=V.yG c v:=by cases c<;>rfl
@[go_sem] theorem abS (c:Bool):(c&&c)=c:=by cases c<;>rfl
@[go_sem] theorem W9 {α:Type} (f:α->D) (l:List α) (n:Nat) (h:∀x,(f x).cells.length=n):((l.map f).all fun z=>z.cells.length==n)=true:=by
  simp[List.all_eq_true,h]
attribute [go_sem] implies_true
attribute [go_sem] Option.isSome_none Option.getD_some Option.getD_none
theorem structOf{P:Program}{t:TypeId}(h:(match P.underlying t with|some (.struct _)=>true|_=>false)=true):∃fs,P.underlying t=some (.struct fs):=by
 split at h
 ·exact⟨_,by assumption⟩
 ·cases h
theorem aO{pr:List (List Nat)}{fp:List (List Nat×List Nat)}(h:fp.all (fun x=>x.2.isEmpty)=true):dX pr fp=true:=by
 have e:∀i,(fp.getD i ([],[])).2=[]:=fun i=>by
  rw[List.getD_eq_getElem?_getD]
  cases hi:fp[i]? with
  |none=>rfl
  |some x=>simpa using List.all_eq_true.1 h x (List.mem_of_getElem? hi)
 simp only[dX,List.all_eq_true,e,kz,List.all_nil,Bool.and_self,Bool.or_true,implies_true]
structure cH (base:Nat) (h o:Nat->ab) (nx:Nat):Prop where
 bA:Good o nx
 le:base<=nx
 eq:∀id,id<base->o id=h id
def StK(base:Nat)(h:Nat->ab)(v:V)(o:Nat->ab)(nx:Nat)(K:V->(Nat->ab)->Nat->Prop):Prop:=
 ∀o' nx',nx<=nx'->cH base h o' nx'->(∀id,base<=id->id<nx->o' id=o id)->K v o' nx'
def iO(P:Program)(g:FuncId)(args:List V)(base:Nat)(h h2:Nat->ab)(v:V):Prop:=
 ∀o nx,cH base h o nx->∀K X,StK base h2 v o nx K->cX P g args o nx K X
theorem cH.aA {base:Nat}{h o:Nat->ab}{nx m i:Nat}{x:ab}(hI:cH base h o nx)(hb:base<=i)(hi:i<m)(hm:nx<=m)(hx:x.refs.all (fun r=>decide (r<m))=true):cH base h (YtnkamdiiakdkgaaGreat.aA o i x) m:=
 ⟨(hI.bA.mono hm).aA hi hx,Nat.le_trans hI.le hm,fun id au=>by rw[ag _ _ _ _ (by omega)];exact hI.eq id au⟩
theorem cH.mono {base:Nat}{h o:Nat->ab}{nx m:Nat}(hI:cH base h o nx)(hm:nx<=m):cH base h o m:=⟨hI.bA.mono hm,Nat.le_trans hI.le hm,hI.eq⟩
def ext(base:Nat)(h o:Nat->ab):Nat->ab:=fun id=>if id<base then h id else o id
theorem cH.ext {base c:Nat}{h o:Nat->ab}{nx:Nat}(hI:cH base h o nx)(hc:c<=nx)(hb:base<=c):cH c (YtnkamdiiakdkgaaGreat.ext base h o) o nx:=
 ⟨hI.bA,hc,fun id _=>by unfold YtnkamdiiakdkgaaGreat.ext;split<;>first|exact hI.eq id o7|rfl⟩
theorem iO.ext {P:Program}{g:FuncId}{args:List V}{base c:Nat}{h h2:Nat->ab}{v:V}(hS:iO P g args base h h2 v)(hb:base<=c)(o0:Nat->ab):iO P g args c (YtnkamdiiakdkgaaGreat.ext base h o0) (YtnkamdiiakdkgaaGreat.ext base h2 o0) v:=by
 intro o nx hI K X hK
 refine hS o nx ⟨hI.bA,Nat.le_trans hb hI.le,fun id au=>by rw[hI.eq id (by omega)];unfold YtnkamdiiakdkgaaGreat.ext;rw[if_pos au]⟩ K X fun o' nx' h1 h2 h3=>hK o' nx' h1 ⟨h2.bA,Nat.le_trans hI.le h1,fun id au=> ?_⟩ (fun id h4 h5=>h3 id af h5)
 unfold YtnkamdiiakdkgaaGreat.ext
 split
 ·exact h2.eq id o7
 ·rename_i hn
  rw[h3 id (by omega) (by have:=hI.le;omega),hI.eq id au]
  unfold YtnkamdiiakdkgaaGreat.ext;rw[if_neg hn]
theorem StK.ext {base c:Nat}{h o:Nat->ab}{v:V}{o1:Nat->ab}{nx zS:Nat}{K:V->(Nat->ab)->Nat->Prop}(hK:StK base h v o nx K)(hb:base<=c)(hn:nx<=zS)(hc:nx<=c)(ho:∀id,base<=id->id<nx->o1 id=o id):StK c (YtnkamdiiakdkgaaGreat.ext base h o1) v o1 zS K:=by
 intro o' nx' h1 h2 h3
 refine hK o' nx' af ⟨h2.bA,Nat.le_trans hb h2.le,fun id au=> ?_⟩ fun id h4 h5=> ?_
 ·rw[h2.eq id (by omega)];unfold YtnkamdiiakdkgaaGreat.ext;rw[if_pos au]
 ·rw[h2.eq id (by omega), <- ho id h4 h5];unfold YtnkamdiiakdkgaaGreat.ext;rw[if_neg (by omega)]
def aq{α σ:Type}(step:σ->α->σ×Bool)(s:σ):List α->σ×Bool
 |[]=>(s,true)
 |x::l=>if(step s x).2=true then aq step (step s x).1 l else((step s x).1,false)
theorem nb{P:Program}{id:Nat}{args:List V}{e:Nat->V}{o:Nat->ab}{nx:Nat}{K X:V->(Nat->ab)->Nat->Prop}(h:dw P id args o nx K X):w9 P id K X ⟨e,o,nx⟩ args:=by unfold w9;exact h
theorem dm{α:Type}(f:Nat->α)(i:Nat)(x y:α):aA (aA f i x) i y=aA f i y:=by
 funext j;simp only[aA];split<;>rfl
attribute [go_sem] Int.cast_ofNat_Int
section
variable {P:Program}{n:Nat}{ps:List Nat}{x y:IC}{env:List V}{L:LoopState->Option jP->ab}
def gV(P:Program)(n:Nat)(env:List V)(ps:List Nat)(x y:IC)(L:LoopState->Option jP->ab):Prop:=∀st pd,L st pd= .loop P.funcs.size n env ps x y st pd
theorem DL{bq:Nat}{gq:Operand}{Q:fm->S->Prop}{e:Nat->V}{o:Nat->ab}{nx:Nat}{f:FuncId}{cap:List V}(env:List V)(he:l7 e env 0)
 (h:∀L,gV P n env ps x y L->cX P f (.ja nx::cap) (aA o nx (L .ready none)) (nx+1)
  (fun _ o' nx'=>∃st pd,o' nx=L st pd/\st≠ .busy/\oL Q pd ⟨e,aA o' nx (L .exhausted pd),nx'⟩) (fun v o' nx'=>Q (.bD v) ⟨e,o',nx'⟩)):
 yI P n bq false gq ps x y Q ⟨e,o,nx⟩ (.func (.func f) [] cap):=by
 refine Hc env he ?_
 have:=h (fun st pd=> .loop P.funcs.size n env ps x y st pd) (fun _ _=>rfl)
 refine this.mono (fun v o' nx' hh=> ?_) (fun v o' nx' hh=>hh)
 obtain⟨st,pd,h1,h2,h3⟩:=hh
 exact⟨_,_,_,_,_,_,_,_,h1,h2,h3⟩
theorem uR(hL:gV P n env ps x y L)(bc:P.follows .mixedOrders=true){id:Nat}{args:List V}{o:Nat->ab}{nx:Nat}{K X:V->(Nat->ab)->Nat->Prop}{st:LoopState}{pd:Option jP}
 (ho:o id=L st pd) (ck:id<nx) (nD:ps.all (fun t=>decide (t<n))=true) (hl:args.length=ps.length)
 (h:lQ P n nx true x (oR P n nx id y K X) ⟨mW (aS env) ps args,o,nx⟩):dw P id args o nx K X:=
 dw.aF bc (ho.trans (hL st pd)) ck nD hl h
theorem lg(hL:gV P n env ps x y L){b id:Nat}{fj:IC}{K X:V->(Nat->ab)->Nat->Prop}{e:Nat->V}{o:Nat->ab}{nx:Nat}{pd:Option jP}(h:o id=L .ready pd)
 (h2:lQ P n b true fj (jH id K X) ⟨e,aA o id (L .busy pd),nx⟩):oR P n b id fj K X .normal ⟨e,o,nx⟩:=by
 refine y9 (h.trans (hL _ _)) ?_
 rw[<- hL];exact h2
theorem Ge(hL:gV P n env ps x y L){id:Nat}{K X:V->(Nat->ab)->Nat->Prop}{e:Nat->V}{o:Nat->ab}{nx:Nat}{st:LoopState}{pd:Option jP}(h:o id=L st pd)(k:K (.d (.bool true)) (aA o id (L .ready none)) nx):jH id K X .normal ⟨e,o,nx⟩:=
 ⟨_,_,_,_,_,_,_,_,h.trans (hL _ _),by rw[<- hL];exact k⟩
theorem CP(hL:gV P n env ps x y L){id:Nat}{K X:V->(Nat->ab)->Nat->Prop}{e:Nat->V}{o:Nat->ab}{nx:Nat}{st:LoopState}{pd:Option jP}(h:o id=L st pd)(k:K (.d (.bool false)) (aA o id (L .done (some .ret))) nx):jH id K X .ret ⟨e,o,nx⟩:=
 ⟨_,_,_,_,_,_,_,_,h.trans (hL _ _),by rw[<- hL];exact k⟩
theorem zX(hL:gV P n env ps x y L){id j:Nat}{K X:V->(Nat->ab)->Nat->Prop}{e:Nat->V}{o:Nat->ab}{nx:Nat}{st:LoopState}{pd:Option jP}(h:o id=L st pd)(k:K (.d (.bool false)) (aA o id (L .done (some (.exit j)))) nx):jH id K X (.exit j) ⟨e,o,nx⟩:=
 ⟨_,_,_,_,_,_,_,_,h.trans (hL _ _),by rw[<- hL];exact k⟩
theorem gV.no (hL:gV P n env ps x y L)(st:LoopState)(pd:Option jP):L st pd≠ .no:=by rw[hL];exact ab.noConfusion
theorem gV.refs (hL:gV P n env ps x y L)(st:LoopState)(pd:Option jP):(L st pd).refs=V.aG env:=by rw[hL];rfl
end
end
attribute [go_sem_proc] Int.reduceBEq Int.reduceBNe Int.reduceLT Int.reduceLE Int.reduceEq Int.reduceNe Nat.reducePow Nat.reduceEqDiff Nat.reduceAdd Nat.reduceSub Nat.reduceMul Nat.reduceLeDiff Nat.reduceBEq Nat.reduceLT reduceIte reduceCtorEq Int.reduceToNat
attribute [go_sem] List.range_zero Option.isSome_some and_self List.cons.injEq
theorem Ab(n low high:Int):aT Tryz.prog 108 [.i n, .i low, .i high] (.ret [.bool (dG n low high)]):=by
 refine aT.aF mix aaB aL ?_
 rw[aaA]
 refine cq ?_
 rfl
theorem KQ{t:Tm}{left depth:Int}(h:left<1\/depth<1):iy t left depth= -1:=by cases t;simp[iy,h]
theorem oS{l:List Tm}{left depth:Int}(h:left<0):cc l left depth=left:=by
 cases l with
 |nil=>rfl
 |cons k l=>simp[cc,show ¬ (0<=left) by omega]
theorem KR:∀t:Tm,∀left depth:Int, -1<=iy t left depth/\(1<=left->iy t left depth<=left - 1)/\(left<1->iy t left depth= -1):=by
 refine Tm.ind fun op n kids ih left depth=> ?_
 have hs:∀ (l:List Tm) (left d:Int),(∀k∈l,k∈kids)-> -1<=left-> -1<=cc l left d/\cc l left d<=left:=by
  intro l
  induction l with
  |nil=>intro left d _ h;simp[cc,h]
  |cons k l uS=>
   intro left d hk h
   simp only[cc]
   split
   ·rename_i h0
    have h1:=ih k (hk k aL) left d
    have h2:=uS (iy k left d) d (fun x hx=>hk x nQ) h1.1
    by_cases hl:1<=left
    ·have:=h1.2.1 hl;omega
    ·have:=h1.2.2 af;omega
   ·omega
 simp only[iy]
 split
 ·rename_i h;refine⟨af,fun h1=> ?_,fun _=>rfl⟩;omega
 ·rename_i h
  have:=hs kids (left - 1) (depth - 1) (fun _ h=>h) af
  exact⟨this.1,fun _=>this.2,fun h=>af⟩
theorem He(l:List Tm)(left d:Int)(h: -1<=left): -1<=cc l left d/\cc l left d<=left:=by
 induction l generalizing left with
 |nil=>simp[cc,h]
 |cons k l uS=>
  simp only[cc]
  split
  ·have h1:=KR k left d
   have h2:=uS (iy k left d) h1.1
   by_cases hl:1<=left
   ·have:=h1.2.1 hl;omega
   ·have:=h1.2.2 af;omega
  ·omega
theorem oq(a b:List Tm)(left d:Int):cc (a++b) left d=cc b (cc a left d) d:=by
 induction a generalizing left with
 |nil=>rfl
 |cons k a ih=>
  simp only[List.cons_append,cc]
  split
  ·exact ih _
  ·rename_i h;rw[oS (by omega)]
theorem BH{l:List Tm}{i:Nat}{k:Tm}(hi:l[i]? =some k)(left d:Int)(h:0<=cc (l.take i) left d):cc (l.take (i+1)) left d=iy k (cc (l.take i) left d) d:=by
 rw[List.take_add_one,hi,oq]
 simp[cc,h]
theorem BI{l:List Tm}{i:Nat}(left d:Int)(h:cc (l.take i) left d<0):cc l left d=cc (l.take i) left d:=by
 conv=>lhs;rw[<- List.take_append_drop i l]
 rw[oq,oS h]
@[reducible] def iP (cs:List V):Nat->ab:=aA (fun _=> .no) 0 (.row cs)
@[reducible] def zb (cs ds:List V):Nat->ab:=aA (aA (fun _=> .no) 0 (.row cs)) 1 (.row ds)
theorem aX{cs:List V}(h:(ab.row cs).refs.all (fun r=>decide (r<1))=true):Good (iP cs) 1:=(Good.nil (nx:=1)).aA af h
theorem fQ{cs ds:List V}(h:(ab.row cs).refs.all (fun r=>decide (r<2))=true)(h2:(ab.row ds).refs.all (fun r=>decide (r<2))=true):Good (zb cs ds) 2:=((Good.nil (nx:=2)).aA af h).aA af h2
theorem aZ.d1 {e:Nat->V}{so o:Nat->ab}{m:Nat}(l:List V)(hg:Good o 1)(hm:1<=m)(h0:so 0=o 0)(he:lb 1 e l 0):aZ 0 ⟨e,so,m⟩ ⟨aS l,o,1⟩:=
 aZ.aR l (Nat.zero_le _) hm hg (fun id h=>by obtain rfl:id=0:=af
                                             exact h0) he
theorem aZ.d2 {e:Nat->V}{so o:Nat->ab}{m:Nat}(l:List V)(hg:Good o 2)(hm:2<=m)(h0:so 0=o 0)(h1:so 1=o 1)(he:lb 2 e l 0):aZ 0 ⟨e,so,m⟩ ⟨aS l,o,2⟩:=
 aZ.aR l (Nat.zero_le _) hm hg (fun id h=>by
  rcases(by omega:id=0\/id=1)with rfl|rfl
  ·exact h0
  ·exact h1) he
@[reducible] def Tm.row (t:Tm):List V:=[.d (.i t.op), .d (.i t.n), .d (.sl (t.kids.map Tm.d))]
theorem BJ(t:Tm)(left depth:Int):iy t left depth=if left<1\/depth<1 then -1 else cc t.kids (left - 1) (depth - 1):=by cases t;simp[iy,Tm.kids]
theorem Fx:∀t:Tm,t.fits->∀left depth:Int, -1<=left/\left<=1000000-> -1<=depth/\depth<=1000000->aT Tryz.prog 86 [t.d, .i left, .i depth] (.ret [.i (iy t left depth)]):=by
 refine Tm.dN fun t ih hf left depth hl hd=> ?_
 have kC:=(Tm.bu _).1 hf
 refine aT.aF mix ad6 aL ?_
 rw[c86]
 refine cq ?_
 refine ai (fun h1=> ?_) (fun h1=> ?_)
 ·refine cq ?_
  simp at h1
  rw[KQ h1]
 ·simp at h1
  refine cq ?_
  rw[wrap64 (n:=left - 1) (by omega) (by omega),BJ,if_neg (by omega)]
  refine aw (fun k:Nat=>⟨aS [.aa, .d (.i (cc (t.kids.take k) (left - 1) (depth - 1))), .d (.i depth), .ptr 0 0, .aa, .aa, .aa, .d (.i k)],iP t.row,1⟩)
   (fun k=>k<=t.kids.length) (fun k=>t.kids.length - k) 0 (Nat.zero_le _) (aZ.d1 _ (aX rfl) af rfl ?_) (fun k hk=> ?_)
  ·exact bO
  have hb:=He (t.kids.take k) (left - 1) (depth - 1) af
  refine cq ?_
  refine ai (fun h2=> ?_) (fun h2=> ?_)
  ·simp at h2
   obtain⟨x,hx⟩:∃x,t.kids[k]? =some x:=⟨t.kids[k],by simp[h2.1]⟩
   have eU:=List.mem_of_getElem? hx
   refine jR hx ?_
   rw[wrap64 (n:=depth - 1) (by omega) (by omega)]
   refine aC (ih x eU (kC.2 x eU) _ _ af af) rfl ?_
   refine cq ?_
   rw[<- BH hx _ _ h2.2]
   refine aj (k+1) h2.1 af (aZ.d1 _ (aX rfl) af rfl ?_)
   exact bO
  ·refine cq ?_
   simp only[Bool.and_eq_false_iff,decide_eq_false_iff_not]at h2
   congr 3
   rcases h2 with h2|h2
   ·rw[List.take_of_length_le (by omega)]
   ·exact BI _ _ af
theorem Va(s:List UInt8)(hs:s.length<=9223372036854775807):aT Tryz.prog 151 [.str s] (.ret [.bool (jD s)]):=by
 refine aT.aF mix abm aL ?_
 rw[abl]
 refine cq ?_
 refine aw (fun k:Nat=>⟨aS [.d (.str s), .aa, .aa, .d (.i k)],fun _=> .no,0⟩)
  (fun k=>k<=s.length/\(s.take k).all letterF=true) (fun k=>s.length - k) 0 ⟨Nat.zero_le _,aL⟩ (aZ.d0 _ ?_) (fun k hk=> ?_)
 ·exact bO
 refine cq ?_
 refine ai (fun h2=> ?_) (fun h2=> ?_)
 ·simp at h2
  obtain⟨x,hx⟩:∃x,s[k]? =some x:=⟨s[k],by simp[h2]⟩
  refine jR hx ?_
  refine ai (fun h3=> ?_) (fun h3=> ?_)
  ·refine cq ?_
   have:jD s=false:=by
    have:s.all letterF=false:=by
     rw[List.all_eq_false]
     refine⟨x,List.mem_of_getElem? hx, ?_⟩
     simp only[letterF,h3];simp
    simp[jD,this]
   rw[this]
  ·refine cq ?_
   refine aj (k+1) ⟨h2, ?_⟩ af (aZ.d0 _ ?_)
   ·rw[List.take_add_one,hx,List.all_append,hk.2]
    simp[letterF,h3]
   ·exact bO
 ·refine cq ?_
  refine aC (Ab _ _ _) rfl ?_
  refine cq ?_
  simp at h2
  have:=hk.2
  rw[List.take_of_length_le (by omega)]at this
  simp[jD,this]
theorem Fy(l:List iV)(bs:List (List UInt8))(hl:l.length<=1000)(hb:bs.length<=1000)(hs:∀x∈l,x.name.length<=9223372036854775807):
 aT Tryz.prog 109 [.sl (l.map iV.d), .sl (bs.map .str)] (.ret [.sl (((bT l bs).getD []).map .str), .bool (bT l bs).isSome]):=by
 refine aT.aF mix aaD aL ?_
 rw[aaC]
 refine cq ?_
 refine aw (fun k:Nat=>⟨aS [.d (.sl (l.map iV.d)), .d (.sl ((bs++(l.take k).map (·.name)).map .str)), .aa, .aa, .aa, .aa, .d (.i k)],fun _=> .no,0⟩)
  (fun k=>k<=l.length/\bT l bs=bT (l.drop k) (bs++(l.take k).map (·.name))) (fun k=>l.length - k) 0 ⟨Nat.zero_le _,aL⟩ (aZ.d0 _ ?_) (fun k hk=> ?_)
 ·simp only[List.take_zero,List.map_nil,List.append_nil]
  exact bO
 refine cq ?_
 refine ai (fun h2=> ?_) (fun h2=> ?_)
 ·simp at h2
  obtain⟨x,hx⟩:∃x,l[k]? =some x:=⟨l[k],by simp[h2]⟩
  have eU:=List.mem_of_getElem? hx
  have Bb:l.drop k=x::l.drop (k+1):=by
   rw[List.drop_eq_getElem_cons h2]
   rw[List.getElem?_eq_getElem h2]at hx;injection hx with hx;rw[hx]
  generalize hB:bs++(l.take k).map (·.name)=B at*
  have hBl:B.length<=2000:=by rw[<- hB];simp;omega
  refine cq ?_
  refine aw (fun j:Nat=>⟨aS [.d (.sl (l.map iV.d)), .d (.sl (B.map .str)), .aa, .aa, .aa, .aa, .d (.i k), .d (.i j)],fun _=> .no,0⟩)
   (fun j=>j<=B.length/\(B.take j).any (· ==x.name)=false) (fun j=>B.length - j) 0 ⟨Nat.zero_le _,aL⟩ (aZ.d0 _ ?_) (fun j hj=> ?_)
  ·exact bO
  refine cq ?_
  refine ai (fun h3=> ?_) (fun h3=> ?_)
  ·simp at h3
   obtain⟨y,hy⟩:∃y,B[j]? =some y:=⟨B[j],by simp[h3]⟩
   simp+contextual only[go_sem,hx,hy]
   refine aI bF ?_
   refine cq ?_
   refine ai (fun h4=> ?_) (fun h4=> ?_)
   ·refine cq ?_
    have:bT l bs=none:=by
     rw[hk.2,Bb,bT,if_pos]
     rw[List.any_eq_true]
     exact⟨y,List.mem_of_getElem? hy,h4⟩
    rw[this];rfl
   ·refine cq ?_
    refine aj (j+1) ⟨h3, ?_⟩ af (aZ.d0 _ ?_)
    ·rw[List.take_add_one,hy,List.any_append,hj.2]
     simp only[Option.toList_some,List.any_cons,h4,List.any_nil,Bool.or_false]
    ·exact bO
  ·simp at h3
   have Vb:=hj.2
   rw[List.take_of_length_le (by omega)]at Vb
   refine jR hx ?_
   refine aC (Va x.name (hs x eU)) rfl ?_
   refine jR hx ?_
   refine fD (eC [.bool (dG x.args 0 4)] ?_ ?_)
   ·refine cq ?_
    exact Ep
   refine cq ?_
   refine ai (fun h4=> ?_) (fun h4=> ?_)
   ·refine cq ?_
    have:bT l bs=none:=by
     rw[hk.2,Bb,bT,if_neg (by rw[Vb];exact Bool.false_ne_true),if_pos h4]
    rw[this];rfl
   ·have e1:B.length<=140737488355328:=af
    have e2:B.length*16<=140737488355328:=af
    have e3:B.length<=140737488355327:=af
    have e4:(B.length+1)*16<=140737488355328:=af
    simp+contextual only[go_sem,hx,e1,e2,e3,e4]
    refine aI bF ?_
    refine cq ?_
    have hn:bT l bs=bT (l.drop (k+1)) (bs++(l.take (k+1)).map (·.name)):=by
     rw[hk.2,Bb,bT,if_neg (by rw[Vb];exact Bool.false_ne_true),if_neg (by rw[h4];exact Bool.false_ne_true), <- hB,List.take_add_one,hx]
     simp
    refine aj (k+1) ⟨h2,hn⟩ af (aZ.abQ (fun _=>True) 0 _ (Nat.le_refl _) lt0 (fun _ _=>rfl) (fun _ _ _=>rfl) ?_)
    have hB2:(bs++(l.take (k+1)).map (·.name)).map D.str=B.map D.str++[D.str x.name]:=by
     rw[<- hB,List.take_add_one,hx];simp
    rw[hB2]
    exact qz
 ·refine cq ?_
  simp at h2
  have:bT l bs=some (bs++l.map (·.name)):=by
   rw[hk.2,List.drop_eq_nil_of_le (by omega),bT,List.take_of_length_le (by omega)]
  rw[this,List.take_of_length_le (by omega)]
  rfl
theorem Vc(a b:List UInt8)(m n:Int):qD Tryz.prog 100 102 (.agg [.str a, .i m]) (.agg [.str b, .i n])=some (a==b&&m==n):=by
 have h1:bR Tryz.prog 102=some (.struct [(9,0),(3,1)]):=ah
 have h2:bR Tryz.prog 9=some .str:=ah
 have h3:bR Tryz.prog 3=some .int:=ah
 have h4:cQ Tryz.prog 9=some false:=ah
 have h5:cQ Tryz.prog 3=some false:=ah
 simp[qD,h1,h2,h3,h4,h5,Ak,SU,il,Jd]
@[go_sem] theorem aed (o:Nat->ab) (oD:Bool) (a b:List UInt8) (m n:Int):wv Tryz.prog o 102 oD (.d (.agg [.str a, .i m])) (.d (.agg [.str b, .i n]))=some (.d (.bool (a==b&&m==n))):=by
  obtain⟨fs,h⟩:∃fs,Tryz.prog.underlying 102=some (.struct fs):=structOf ah
  have h2:Tryz.prog.eqGuardType Tryz.prog.depth 102=false:=ah
  unfold wv
  rw[h]
  dsimp only
  rw[if_pos h2,Vc]
  rfl
theorem Hf{l:List iV}{bs B:List (List UInt8)}(h:bT l bs=some B):B=bs++l.map (·.name):=by
 induction l generalizing bs with
 |nil=>simp[bT]at h;simp[h]
 |cons x l ih=>
  simp only[bT]at h
  split at h
  ·cases h
  ·split at h
   ·cases h
   ·rw[ih h];simp
structure bE.Fits (s:bE):Prop where
 lc:s.cons.length<=9223372036854775807
 lf:s.bB.length<=9223372036854775807
 nc:∀x∈s.cons,x.name.length<=9223372036854775807
 nf:∀x∈s.bB,x.name.length<=9223372036854775807
theorem abT(s:bE)(hs:s.Fits):aT Tryz.prog 77 [s.d] (.ret [.bool (jc s)]):=by
 refine aT.aF mix ad1 aL ?_
 rw[c77]
 refine cq ?_
 refine aC (Ab _ _ _) rfl ?_
 refine cq ?_
 cases h1:(!dG s.cons.length 2 12||decide (8<(s.bB.length:Int)))with
 |true=>
  refine jR h1 ?_
  simp only[jc,h1,if_true]
 |false=>
  simp[dG]at h1
  obtain⟨a,b,r,hc⟩:∃a b r,s.cons=a::b::r:=by
   match h:s.cons with
   |[]=>exact Er
   |[a]=>exact Er
   |a::b::r=>exact⟨a,b,r,rfl⟩
  have mG:(!dG s.cons.length 2 12||decide (8<(s.bB.length:Int)))=false:=by simp[dG];omega
  simp+contextual only[go_sem,mG,hc]
  have Hg:jc s=if(!mb a fB|| !mb b tB)=true then false else match bT s.cons []with
   |none=>false
   |some l=>(bT s.bB l).isSome:=by
   unfold jc
   rw[if_neg (by rw[mG];exact Bool.false_ne_true),hc]
   dsimp only
   rfl
  refine ai (fun h2=> ?_) (fun h2=> ?_)
  ·refine cq ?_
   have pA:(!mb a fB|| !mb b tB)=true:=h2
   rw[Hg,if_pos pA]
  ·refine jR hc ?_
   have hl:(a::b::r).length<=1000:=by rw[<- hc];omega
   have hnm:=Fy (a::b::r) [] hl aL (by rw[<- hc];exact hs.nc)
   simp only[List.map_cons,List.map_nil]at hnm
   refine a8 hnm ?_
   have pA:(!mb a fB|| !mb b tB)=false:=h2
   rw[Hg,if_neg (by rw[pA];exact Bool.false_ne_true),hc]
   cases hn:bT (a::b::r) []with
   |none=>simp+contextual only[go_sem,hn]
   |some B=>
    refine jR hn ?_
    have hB:B.length<=1000:=by
     have:=Hf hn
     rw[this];simp at hl|-;omega
    have aee:=Fy s.bB B af hB hs.nf
    refine a8 aee ?_
    simp+contextual only[go_sem]
end Go.Proofs.YtnkamdiiakdkgaaGreat
