/-
  A PART OF THE PROOF. Conditions: none.
-/
import Derived.Test.YtnkamdiiakdkgaaGreatEt14
set_option linter.unusedSimpArgs false
set_option linter.unusedVariables false
namespace Go.Proofs.YtnkamdiiakdkgaaGreat
theorem mix:Tryz.prog.follows .mixedOrders=true:=ag
def zn:Tr FD:= .e fun _=> .no
theorem zt{f:Nat->Nat}:Tr.EW (fun(g:Nat) (d:FD)=>d.Ok Tryz.prog g) zn f:=fun _=>trivial
def aa8:Tr FD:=
 (.n .no (.n .no (.n .no (.n .no (.n (.fn 45 c15 [.tmp 4]) (.n .no (.n .no (.n (.fn 15 TH [.tmp 6]) zn zn) zn) (.n (.fn 5 c95 [.cell 2 55]) (.n (.fn 13 TV [.tmp 4]) zn zn) zn)) (.n (.fn 12 c47 [.tmp 3]) (.n .no (.n (.fn 133 aat [.tmp 6]) zn zn) zn) (.n .no (.n (.fn 17 T4 [.tmp 6]) zn zn) zn))) (.n .no (.n (.fn 16 c39 [.cell 0 27]) (.n (.fn 19 c71 [.tmp 2]) (.n (.fn 27 TP [.tmp 2]) zn zn) zn) (.n (.fn 134 ZT []) (.n (.fn 15 aaY [.tmp 6]) zn zn) zn)) (.n (.fn 41 c55 [.tmp 4, .tmp 5, .tmp 6]) zn (.n .no (.n (.fn 14 Ub [.tmp 4]) zn zn) zn)))) (.n (.fn 15 c11 [.tmp 2, .tmp 3]) (.n (.fn 10 c19 [.tmp 2, .tmp 3, .tmp 4]) (.n (.fn 8 c35 [.cell 0 27]) (.n (.fn 30 c67 [.tmp 2]) (.n (.fn 17 TL [.tmp 3]) zn zn) zn) (.n (.fn 8 c99 [.tmp 3]) (.n (.fn 9 TZ [.tmp 4]) zn zn) zn)) (.n .no (.n .no (.n (.fn 19 aaB [.tmp 2]) zn zn) zn) (.n .no (.n (.fn 19 T8 [.tmp 4]) zn zn) zn))) (.n .no (.n .no (.n (.fn 12 c75 [.tmp 4]) (.n (.fn 56 aal []) zn zn) zn) (.n (.fn 8 TD [.tmp 3]) (.n (.fn 18 T0 [.tmp 4]) zn zn) zn)) (.n .no zn (.n .no (.n (.fn 14 Uf [.tmp 4]) zn zn) zn))))) (.n .no (.n .no (.n .no (.n (.fn 26 c33 [.tmp 4]) (.n .no (.n (.fn 9 TJ [.tmp 4]) zn zn) zn) (.n (.fn 46 c97 [.tmp 2]) (.n (.fn 8 TX [.tmp 3]) zn zn) zn)) (.n (.fn 50 c49 [.cell 4 90]) (.n (.fn 9 c81 [.tmp 4]) (.n (.fn 84 aax [.tmp 8]) zn zn) zn) (.n .no (.n (.fn 8 T6 []) zn zn) zn))) (.n .no (.n (.fn 35 c41 [.cell 2 81]) (.n (.fn 11 c73 []) (.n (.fn 52 TR [.tmp 6]) zn zn) zn) (.n (.fn 24 TA [.tmp 4]) (.n (.fn 6 aa2 [.tmp 2]) zn zn) zn)) (.n (.fn 5 c57 [.tmp 2]) zn (.n .no (.n (.fn 27 Ud [.tmp 4]) zn zn) zn)))) (.n .no (.n .no (.n (.fn 4 c37 [.cell 0 55]) (.n .no (.n (.fn 9 TN [.tmp 4]) zn zn) zn) (.n (.fn 9 Ty []) (.n (.fn 7 aaU [.tmp 2]) zn zn) zn)) (.n .no (.n .no (.n (.fn 32 TS [.tmp 6]) zn zn) zn) (.n .no (.n (.fn 19 T9 [.cell 0 215]) zn zn) zn))) (.n .no (.n (.fn 26 c45 [.tmp 4]) (.n .no (.n (.fn 57 aap [.tmp 6, .tmp 7]) zn zn) zn) (.n .no (.n (.fn 39 T2 [.cell 4 4]) zn zn) zn)) (.n .no (.n .no (.n (.fn 36 aaQ [.tmp 2]) zn zn) zn) (.n (.fn 24 TF [.tmp 3]) zn zn)))))) (.n .no (.n .no (.n .no (.n (.fn 84 c16 [.tmp 4, .tmp 5]) (.n (.fn 30 c32 [.tmp 4, .tmp 5]) (.n .no (.n (.fn 18 TI [.tmp 4]) zn zn) zn) (.n (.fn 8 c96 [.cell 4 55]) (.n (.fn 4 TW [.tmp 2]) zn zn) zn)) (.n (.fn 65 c48 [.cell 2 90, .tmp 3]) (.n .no (.n (.fn 17 aav [.tmp 4]) zn zn) zn) (.n .no (.n (.fn 10 T5 [.tmp 4]) zn zn) zn))) (.n .no (.n (.fn 6 c40 [.tmp 2]) (.n (.fn 4 c72 [.tmp 2]) (.n (.fn 18 TQ [.tmp 2]) zn zn) zn) (.n (.fn 8 ZV [.tmp 2]) (.n (.fn 36 aa0 [.tmp 10]) zn zn) zn)) (.n (.fn 3 c56 [.tmp 2]) zn (.n (.fn 125 aad []) (.n (.fn 27 Uc [.tmp 4]) zn zn) zn)))) (.n .no (.n (.fn 10 c20 [.tmp 2, .tmp 3, .tmp 4]) (.n (.fn 17 c36 [.cell 2 27]) (.n .no (.n (.fn 43 TM [.cell 4 4, .cell 5 31]) zn zn) zn) (.n (.fn 121 Tx [.tmp 4]) (.n (.fn 76 aaS []) zn zn) zn)) (.n .no (.n (.dfr 71 ZO c84 119 11 [.tmp 4, .tmp 5, .tmp 6] [.cell 4 4, .cell 5 37, .cell 6 31] 12 6 6 Zw) (.n (.fn 25 aaD [.tmp 2]) zn zn) zn) (.n .no (.n (.fn 28 aa6 [.tmp 8, .tmp 9]) zn zn) zn))) (.n .no (.n .no (.n (.fn 8 c76 [.tmp 2]) (.n (.fn 65 aan []) zn zn) zn) (.n .no (.n (.fn 7 T1 [.tmp 3]) zn zn) zn)) (.n .no (.n .no (.n (.fn 42 aaO []) zn zn) zn) (.n .no (.n (.fn 14 Ug [.tmp 4]) zn zn) zn))))) (.n .no (.n (.fn 178 c10 [.tmp 0]) (.n .no (.n .no (.n .no (.n (.fn 8 TK [.tmp 3]) zn zn) zn) (.n (.fn 9 c98 [.tmp 4]) (.n (.fn 4 TY [.tmp 2]) zn zn) zn)) (.n (.fn 68 c50 [.tmp 2]) (.n (.fn 8 c82 [.tmp 3]) (.n (.fn 168 aaz [.tmp 8, .tmp 9]) zn zn) zn) (.n .no (.n (.fn 14 T7 [.tmp 4]) zn zn) zn))) (.n .no (.n (.fn 101 c42 [.tmp 2]) (.n (.fn 61 c74 [.tmp 2]) (.n (.fn 49 aaj []) zn zn) zn) (.n (.fn 9 TC [.tmp 4]) (.n (.fn 27 aa4 [.tmp 4]) zn zn) zn)) (.n .no zn (.n .no (.n (.fn 27 Ue [.tmp 4]) zn zn) zn)))) (.n .no (.n .no (.n (.fn 5 c38 [.cell 2 55]) (.n (.fn 76 c70 [.cell 0 27]) (.n (.fn 10 TO [.tmp 4]) zn zn) zn) (.n (.fn 46 Tz [.tmp 4]) (.n (.fn 33 aaW [.tmp 2]) zn zn) zn)) (.n .no (.n .no (.n (.fn 19 TT [.tmp 4]) zn zn) zn) (.n (.fn 19 TE [.tmp 4]) (.n (.fn 14 Ua [.tmp 4]) zn zn) zn))) (.n .no (.n (.fn 9 c46 [.tmp 4]) (.n .no (.n (.fn 32 aar []) zn zn) zn) (.n .no (.n (.fn 8 T3 []) zn zn) zn)) (.n .no (.n (.fn 8 c94 [.cell 4 55]) (.n (.fn 19 TU [.tmp 4]) zn zn) zn) (.n (.fn 28 TG [.tmp 2]) zn zn)))))))
noncomputable def bI:Nat->FD:=aa8.get
theorem gr:∀g,(bI g).Ok Tryz.prog g:=
 Tr.yN (p:=fun g d=>d.Ok Tryz.prog g) (f:=fun g=>g) aa8
   ⟨trivial,⟨trivial,⟨trivial,⟨trivial,⟨acI,⟨trivial,⟨trivial,⟨P7,zt,zt⟩,zt⟩,⟨adb,⟨Ql,zt,zt⟩,zt⟩⟩,⟨ZE,⟨trivial,⟨aau,zt,zt⟩,zt⟩,⟨trivial,⟨Qu,zt,zt⟩,zt⟩⟩⟩,⟨trivial,⟨acR,⟨ZJ,⟨Qf,zt,zt⟩,zt⟩,⟨ZU,⟨aaZ,zt,zt⟩,zt⟩⟩,⟨acV,zt,⟨trivial,⟨QB,zt,zt⟩,zt⟩⟩⟩⟩,⟨acG,⟨acJ,⟨acN,⟨ZI,⟨Qb,zt,zt⟩,zt⟩,⟨ZS,⟨Qp,zt,zt⟩,zt⟩⟩,⟨trivial,⟨trivial,⟨aaC,zt,zt⟩,zt⟩,⟨trivial,⟨Qy,zt,zt⟩,zt⟩⟩⟩,⟨trivial,⟨trivial,⟨ZL,⟨aam,zt,zt⟩,zt⟩,⟨PX,⟨Qq,zt,zt⟩,zt⟩⟩,⟨trivial,zt,⟨trivial,⟨QF,zt,zt⟩,zt⟩⟩⟩⟩⟩,⟨trivial,⟨trivial,⟨trivial,⟨Zz,⟨trivial,⟨P9,zt,zt⟩,zt⟩,⟨ZQ,⟨Qn,zt,zt⟩,zt⟩⟩,⟨ZG,⟨ZM,⟨aay,zt,zt⟩,zt⟩,⟨trivial,⟨Qw,zt,zt⟩,zt⟩⟩⟩,⟨trivial,⟨ZB,⟨ac3,⟨Qh,zt,zt⟩,zt⟩,⟨PV,⟨aa3,zt,zt⟩,zt⟩⟩,⟨acX,zt,⟨trivial,⟨QD,zt,zt⟩,zt⟩⟩⟩⟩,⟨trivial,⟨trivial,⟨acP,⟨trivial,⟨Qd,zt,zt⟩,zt⟩,⟨PT,⟨aaV,zt,zt⟩,zt⟩⟩,⟨trivial,⟨trivial,⟨Qi,zt,zt⟩,zt⟩,⟨trivial,⟨Qz,zt,zt⟩,zt⟩⟩⟩,⟨trivial,⟨acT,⟨trivial,⟨aaq,zt,zt⟩,zt⟩,⟨trivial,⟨Qs,zt,zt⟩,zt⟩⟩,⟨trivial,⟨trivial,⟨aaR,zt,zt⟩,zt⟩,⟨PZ,zt,zt⟩⟩⟩⟩⟩⟩,⟨trivial,⟨trivial,⟨trivial,⟨Zx,⟨Zy,⟨trivial,⟨P8,zt,zt⟩,zt⟩,⟨ade,⟨Qm,zt,zt⟩,zt⟩⟩,⟨ZF,⟨trivial,⟨aaw,zt,zt⟩,zt⟩,⟨trivial,⟨Qv,zt,zt⟩,zt⟩⟩⟩,⟨trivial,⟨ZA,⟨ZK,⟨Qg,zt,zt⟩,zt⟩,⟨ZW,⟨aa1,zt,zt⟩,zt⟩⟩,⟨acW,zt,⟨aae,⟨QC,zt,zt⟩,zt⟩⟩⟩⟩,⟨trivial,⟨acK,⟨acO,⟨trivial,⟨Qc,zt,zt⟩,zt⟩,⟨PS,⟨aaT,zt,zt⟩,zt⟩⟩,⟨trivial,⟨⟨ZP,Tv⟩,⟨aaE,zt,zt⟩,zt⟩,⟨trivial,⟨aa7,zt,zt⟩,zt⟩⟩⟩,⟨trivial,⟨trivial,⟨Tw,⟨aao,zt,zt⟩,zt⟩,⟨trivial,⟨Qr,zt,zt⟩,zt⟩⟩,⟨trivial,⟨trivial,⟨aaP,zt,zt⟩,zt⟩,⟨trivial,⟨QG,zt,zt⟩,zt⟩⟩⟩⟩⟩,⟨trivial,⟨acF,⟨trivial,⟨trivial,⟨trivial,⟨Qa,zt,zt⟩,zt⟩,⟨ZR,⟨Qo,zt,zt⟩,zt⟩⟩,⟨ZH,⟨ZN,⟨aaA,zt,zt⟩,zt⟩,⟨trivial,⟨Qx,zt,zt⟩,zt⟩⟩⟩,⟨trivial,⟨ZC,⟨ac4,⟨aak,zt,zt⟩,zt⟩,⟨PW,⟨aa5,zt,zt⟩,zt⟩⟩,⟨trivial,zt,⟨trivial,⟨QE,zt,zt⟩,zt⟩⟩⟩⟩,⟨trivial,⟨trivial,⟨acQ,⟨ac2,⟨Qe,zt,zt⟩,zt⟩,⟨PU,⟨aaX,zt,zt⟩,zt⟩⟩,⟨trivial,⟨trivial,⟨Qj,zt,zt⟩,zt⟩,⟨PY,⟨QA,zt,zt⟩,zt⟩⟩⟩,⟨trivial,⟨ZD,⟨trivial,⟨aas,zt,zt⟩,zt⟩,⟨trivial,⟨Qt,zt,zt⟩,zt⟩⟩,⟨trivial,⟨ada,⟨Qk,zt,zt⟩,zt⟩,⟨P6,zt,zt⟩⟩⟩⟩⟩⟩⟩
@[go_sem] theorem cellsOf_3:Tryz.prog.cellsOf 3=1:=ag
@[go_sem] theorem bytesOf_3:Tryz.prog.bytesOf 3=8:=ag
@[go_sem] theorem aggT_3:cE Tryz.prog 3=some false:=ag
@[go_sem] theorem intT_3:tp Tryz.prog 3=some .i64:=ag
@[go_sem] theorem infoT_3:(Tryz.prog.info? 3).isSome=true:=ag
@[go_sem] theorem undT_3:Tryz.prog.underlying 3=some (.int .i64):=ag
@[go_sem] theorem eqShape_3:bD Tryz.prog 3=some .int:=ag
@[go_sem] theorem zeroT_3:cp Tryz.prog 3=some [.d (.int .i64 0)]:=ag
@[go_sem] theorem zeroV_3:zeroV Tryz.prog 3=some (.d (.int .i64 0)):=ag
@[go_sem] theorem cellsOf_4:Tryz.prog.cellsOf 4=1:=ag
@[go_sem] theorem aggT_4:cE Tryz.prog 4=some false:=ag
@[go_sem] theorem isBoolT_4:lG Tryz.prog 4=true:=ag
@[go_sem] theorem infoT_4:(Tryz.prog.info? 4).isSome=true:=ag
@[go_sem] theorem zeroT_4:cp Tryz.prog 4=some [.d (.bool false)]:=ag
@[go_sem] theorem zeroV_4:zeroV Tryz.prog 4=some (.d (.bool false)):=ag
@[go_sem] theorem undT_5:Tryz.prog.underlying 5=some (.int .u8):=ag
@[go_sem] theorem cellsOf_9:Tryz.prog.cellsOf 9=1:=ag
@[go_sem] theorem bytesOf_9:Tryz.prog.bytesOf 9=16:=ag
@[go_sem] theorem aggT_9:cE Tryz.prog 9=some false:=ag
@[go_sem] theorem undT_9:Tryz.prog.underlying 9=some .string:=ag
@[go_sem] theorem eqShape_9:bD Tryz.prog 9=some .str:=ag
@[go_sem] theorem zeroT_9:cp Tryz.prog 9=some [.d (.str [])]:=ag
@[go_sem] theorem sliceT_22:bV Tryz.prog 22=some 102:=ag
@[go_sem] theorem aggT_22:cE Tryz.prog 22=some false:=ag
@[go_sem] theorem undT_22:Tryz.prog.underlying 22=some (.slice 102):=ag
@[go_sem] theorem cellsOf_24:Tryz.prog.cellsOf 24=2:=ag
@[go_sem] theorem aggT_24:cE Tryz.prog 24=some true:=ag
@[go_sem] theorem sliceT_25:bV Tryz.prog 25=some 57:=ag
@[go_sem] theorem aggT_25:cE Tryz.prog 25=some false:=ag
@[go_sem] theorem undT_25:Tryz.prog.underlying 25=some (.slice 57):=ag
@[go_sem] theorem cellsOf_27:Tryz.prog.cellsOf 27=3:=ag
@[go_sem] theorem aggT_27:cE Tryz.prog 27=some true:=ag
@[go_sem] theorem cellsOf_30:Tryz.prog.cellsOf 30=1:=ag
@[go_sem] theorem sliceT_30:bV Tryz.prog 30=some 40:=ag
@[go_sem] theorem aggT_30:cE Tryz.prog 30=some false:=ag
@[go_sem] theorem intT_30:tp Tryz.prog 30=none:=ag
@[go_sem] theorem infoT_30:(Tryz.prog.info? 30).isSome=true:=ag
@[go_sem] theorem undT_30:Tryz.prog.underlying 30=some (.slice 40):=ag
@[go_sem] theorem zeroT_30:cp Tryz.prog 30=some [.bu]:=ag
@[go_sem] theorem cellsOf_31:Tryz.prog.cellsOf 31=1:=ag
@[go_sem] theorem aggT_31:cE Tryz.prog 31=some false:=ag
@[go_sem] theorem infoT_31:(Tryz.prog.info? 31).isSome=true:=ag
@[go_sem] theorem zeroT_31:cp Tryz.prog 31=some [.d (.int .i64 0)]:=ag
@[go_sem] theorem cellsOf_37:Tryz.prog.cellsOf 37=1:=ag
@[go_sem] theorem sliceT_37:bV Tryz.prog 37=some 3:=ag
@[go_sem] theorem aggT_37:cE Tryz.prog 37=some false:=ag
@[go_sem] theorem intT_37:tp Tryz.prog 37=none:=ag
@[go_sem] theorem infoT_37:(Tryz.prog.info? 37).isSome=true:=ag
@[go_sem] theorem undT_37:Tryz.prog.underlying 37=some (.slice 3):=ag
@[go_sem] theorem zeroT_37:cp Tryz.prog 37=some [.bu]:=ag
@[go_sem] theorem cellsOf_38:Tryz.prog.cellsOf 38=1:=ag
@[go_sem] theorem sliceT_38:bV Tryz.prog 38=some 64:=ag
@[go_sem] theorem aggT_38:cE Tryz.prog 38=some false:=ag
@[go_sem] theorem intT_38:tp Tryz.prog 38=none:=ag
@[go_sem] theorem infoT_38:(Tryz.prog.info? 38).isSome=true:=ag
@[go_sem] theorem undT_38:Tryz.prog.underlying 38=some (.slice 64):=ag
@[go_sem] theorem cellsOf_40:Tryz.prog.cellsOf 40=6:=ag
@[go_sem] theorem bytesOf_40:Tryz.prog.bytesOf 40=80:=ag
@[go_sem] theorem aggT_40:cE Tryz.prog 40=some true:=ag
@[go_sem] theorem infoT_40:(Tryz.prog.info? 40).isSome=true:=ag
@[go_sem] theorem zeroT_40:cp Tryz.prog 40=some [.d (.int .i64 0), .d (.int .i64 0), .d (.int .i64 0), .bu, .d (.bool false), .bu]:=ag
@[go_sem] theorem placesT_40:ef Tryz.prog 40=some [(0,1),(1,1),(2,1),(3,1),(4,1),(5,1)]:=ag
@[go_sem] theorem sliceT_49:bV Tryz.prog 49=some 55:=ag
@[go_sem] theorem aggT_49:cE Tryz.prog 49=some false:=ag
@[go_sem] theorem undT_49:Tryz.prog.underlying 49=some (.slice 55):=ag
@[go_sem] theorem aggT_53:cE Tryz.prog 53=some false:=ag
@[go_sem] theorem undT_53:Tryz.prog.underlying 53=some (.int .i64):=ag
@[go_sem] theorem cellsOf_55:Tryz.prog.cellsOf 55=3:=ag
@[go_sem] theorem aggT_55:cE Tryz.prog 55=some true:=ag
@[go_sem] theorem infoT_55:(Tryz.prog.info? 55).isSome=true:=ag
@[go_sem] theorem zeroT_55:cp Tryz.prog 55=some [.d (.int .i64 0), .d (.int .i64 0), .bu]:=ag
@[go_sem] theorem placesT_55:ef Tryz.prog 55=some [(0,1),(1,1),(2,1)]:=ag
@[go_sem] theorem cellsOf_57:Tryz.prog.cellsOf 57=6:=ag
@[go_sem] theorem aggT_57:cE Tryz.prog 57=some true:=ag
@[go_sem] theorem infoT_57:(Tryz.prog.info? 57).isSome=true:=ag
@[go_sem] theorem zeroT_57:cp Tryz.prog 57=some [.d (.int .i64 0), .bu, .d (.int .i64 0), .d (.int .i64 0), .bu, .d (.int .i64 0)]:=ag
@[go_sem] theorem cellsOf_64:Tryz.prog.cellsOf 64=3:=ag
@[go_sem] theorem bytesOf_64:Tryz.prog.bytesOf 64=24:=ag
@[go_sem] theorem aggT_64:cE Tryz.prog 64=some true:=ag
@[go_sem] theorem infoT_64:(Tryz.prog.info? 64).isSome=true:=ag
@[go_sem] theorem zeroT_64:cp Tryz.prog 64=some [.d (.int .i64 0), .d (.int .i64 0), .d (.bool false)]:=ag
@[go_sem] theorem placesT_64:ef Tryz.prog 64=some [(0,1),(1,1),(2,1)]:=ag
@[go_sem] theorem cellsOf_81:Tryz.prog.cellsOf 81=4:=ag
@[go_sem] theorem aggT_81:cE Tryz.prog 81=some true:=ag
@[go_sem] theorem infoT_81:(Tryz.prog.info? 81).isSome=true:=ag
@[go_sem] theorem zeroT_81:cp Tryz.prog 81=some [.bu, .bu, .bu, .bu]:=ag
@[go_sem] theorem placesT_81:ef Tryz.prog 81=some [(0,3),(3,1)]:=ag
@[go_sem] theorem aggT_87:cE Tryz.prog 87=some false:=ag
@[go_sem] theorem cellsOf_88:Tryz.prog.cellsOf 88=4:=ag
@[go_sem] theorem sliceT_88:bV Tryz.prog 88=none:=ag
@[go_sem] theorem arrT_88:vo Tryz.prog 88=some (4,3):=ag
@[go_sem] theorem aggT_88:cE Tryz.prog 88=some true:=ag
@[go_sem] theorem infoT_88:(Tryz.prog.info? 88).isSome=true:=ag
@[go_sem] theorem undT_88:Tryz.prog.underlying 88=some (.array 4 3):=ag
@[go_sem] theorem cellsOf_90:Tryz.prog.cellsOf 90=16:=ag
@[go_sem] theorem sliceT_90:bV Tryz.prog 90=none:=ag
@[go_sem] theorem arrT_90:vo Tryz.prog 90=some (4,88):=ag
@[go_sem] theorem aggT_90:cE Tryz.prog 90=some true:=ag
@[go_sem] theorem infoT_90:(Tryz.prog.info? 90).isSome=true:=ag
@[go_sem] theorem zeroT_90:cp Tryz.prog 90=some [.d (.int .i64 0), .d (.int .i64 0), .d (.int .i64 0), .d (.int .i64 0), .d (.int .i64 0), .d (.int .i64 0), .d (.int .i64 0), .d (.int .i64 0), .d (.int .i64 0), .d (.int .i64 0), .d (.int .i64 0), .d (.int .i64 0), .d (.int .i64 0), .d (.int .i64 0), .d (.int .i64 0), .d (.int .i64 0)]:=ag
@[go_sem] theorem placesT_90:ef Tryz.prog 90=some [(0,4),(4,4),(8,4),(12,4)]:=ag
@[go_sem] theorem cellsOf_102:Tryz.prog.cellsOf 102=2:=ag
@[go_sem] theorem aggT_102:cE Tryz.prog 102=some true:=ag
@[go_sem] theorem infoT_102:(Tryz.prog.info? 102).isSome=true:=ag
@[go_sem] theorem zeroT_102:cp Tryz.prog 102=some [.d (.str []), .d (.int .i64 0)]:=ag
@[go_sem] theorem placesT_102:ef Tryz.prog 102=some [(0,1),(1,1)]:=ag
@[go_sem] theorem cellsOf_104:Tryz.prog.cellsOf 104=1:=ag
@[go_sem] theorem aggT_104:cE Tryz.prog 104=some false:=ag
@[go_sem] theorem infoT_104:(Tryz.prog.info? 104).isSome=true:=ag
@[go_sem] theorem zeroT_104:cp Tryz.prog 104=some [.d .bZ]:=ag
@[go_sem] theorem cellsOf_116:Tryz.prog.cellsOf 116=5:=ag
@[go_sem] theorem aggT_116:cE Tryz.prog 116=some true:=ag
@[go_sem] theorem infoT_116:(Tryz.prog.info? 116).isSome=true:=ag
@[go_sem] theorem zeroT_116:cp Tryz.prog 116=some [.d (.int .i64 0), .d (.int .i64 0), .bu, .bu, .d (.bool false)]:=ag
@[go_sem] theorem placesT_116:ef Tryz.prog 116=some [(0,3),(3,1),(4,1)]:=ag
@[go_sem] theorem aggT_140:cE Tryz.prog 140=some false:=ag
@[go_sem] theorem cellsOf_141:Tryz.prog.cellsOf 141=1:=ag
@[go_sem] theorem aggT_141:cE Tryz.prog 141=some false:=ag
@[go_sem] theorem infoT_141:(Tryz.prog.info? 141).isSome=true:=ag
@[go_sem] theorem zeroT_141:cp Tryz.prog 141=some [.d .bZ]:=ag
@[go_sem] theorem sliceT_146:bV Tryz.prog 146=some 9:=ag
@[go_sem] theorem intT_146:tp Tryz.prog 146=none:=ag
@[go_sem] theorem undT_146:Tryz.prog.underlying 146=some (.slice 9):=ag
@[go_sem] theorem cellsOf_149:Tryz.prog.cellsOf 149=1:=ag
@[go_sem] theorem aggT_149:cE Tryz.prog 149=some false:=ag
@[go_sem] theorem infoT_149:(Tryz.prog.info? 149).isSome=true:=ag
@[go_sem] theorem zeroT_149:cp Tryz.prog 149=some [.d .bZ]:=ag
@[go_sem] theorem cellsOf_166:Tryz.prog.cellsOf 166=1:=ag
@[go_sem] theorem aggT_166:cE Tryz.prog 166=some false:=ag
@[go_sem] theorem infoT_166:(Tryz.prog.info? 166).isSome=true:=ag
@[go_sem] theorem mapT_166:qD Tryz.prog 166=some (9,4):=ag
@[go_sem] theorem zeroT_166:cp Tryz.prog 166=some [.d .hZ]:=ag
@[go_sem] theorem cellsOf_172:Tryz.prog.cellsOf 172=1:=ag
@[go_sem] theorem aggT_172:cE Tryz.prog 172=some false:=ag
@[go_sem] theorem infoT_172:(Tryz.prog.info? 172).isSome=true:=ag
@[go_sem] theorem undT_172:Tryz.prog.underlying 172=some (.map 3 3):=ag
@[go_sem] theorem mapT_172:qD Tryz.prog 172=some (3,3):=ag
@[go_sem] theorem zeroT_172:cp Tryz.prog 172=some [.d .hZ]:=ag
@[go_sem] theorem cellsOf_198:Tryz.prog.cellsOf 198=1:=ag
@[go_sem] theorem aggT_198:cE Tryz.prog 198=some false:=ag
@[go_sem] theorem infoT_198:(Tryz.prog.info? 198).isSome=true:=ag
@[go_sem] theorem mapT_198:qD Tryz.prog 198=some (3,4):=ag
@[go_sem] theorem zeroT_198:cp Tryz.prog 198=some [.d .hZ]:=ag
@[go_sem] theorem cellsOf_214:Tryz.prog.cellsOf 214=1:=ag
@[go_sem] theorem aggT_214:cE Tryz.prog 214=some false:=ag
@[go_sem] theorem infoT_214:(Tryz.prog.info? 214).isSome=true:=ag
@[go_sem] theorem cellsOf_215:Tryz.prog.cellsOf 215=16:=ag
@[go_sem] theorem sliceT_215:bV Tryz.prog 215=none:=ag
@[go_sem] theorem arrT_215:vo Tryz.prog 215=some (16,214):=ag
@[go_sem] theorem aggT_215:cE Tryz.prog 215=some true:=ag
@[go_sem] theorem infoT_215:(Tryz.prog.info? 215).isSome=true:=ag
@[go_sem] theorem zeroT_215:cp Tryz.prog 215=some [.d .bZ, .d .bZ, .d .bZ, .d .bZ, .d .bZ, .d .bZ, .d .bZ, .d .bZ, .d .bZ, .d .bZ, .d .bZ, .d .bZ, .d .bZ, .d .bZ, .d .bZ, .d .bZ]:=ag
@[go_sem] theorem placesT_215:ef Tryz.prog 215=some [(0,1),(1,1),(2,1),(3,1),(4,1),(5,1),(6,1),(7,1),(8,1),(9,1),(10,1),(11,1),(12,1),(13,1),(14,1),(15,1)]:=ag
@[go_sem] theorem zeroT_218:cp Tryz.prog 218=some [.bu, .bu]:=ag
@[go_sem] theorem placesT_218:ef Tryz.prog 218=some [(0,2)]:=ag
@[go_sem] theorem fieldT_24_0:bJ Tryz.prog 24 0=some 0:=ag
@[go_sem] theorem fieldT_24_1:bJ Tryz.prog 24 1=some 1:=ag
@[go_sem] theorem fieldT_27_0:bJ Tryz.prog 27 0=some 0:=ag
@[go_sem] theorem fieldT_27_1:bJ Tryz.prog 27 1=some 2:=ag
@[go_sem] theorem fieldT_40_1:bJ Tryz.prog 40 1=some 1:=ag
@[go_sem] theorem fieldT_40_2:bJ Tryz.prog 40 2=some 2:=ag
@[go_sem] theorem fieldT_40_3:bJ Tryz.prog 40 3=some 3:=ag
@[go_sem] theorem fieldT_40_5:bJ Tryz.prog 40 5=some 5:=ag
@[go_sem] theorem fieldT_55_0:bJ Tryz.prog 55 0=some 0:=ag
@[go_sem] theorem fieldT_55_1:bJ Tryz.prog 55 1=some 1:=ag
@[go_sem] theorem fieldT_55_2:bJ Tryz.prog 55 2=some 2:=ag
@[go_sem] theorem fieldT_57_0:bJ Tryz.prog 57 0=some 0:=ag
@[go_sem] theorem fieldT_57_1:bJ Tryz.prog 57 1=some 1:=ag
@[go_sem] theorem fieldT_57_2:bJ Tryz.prog 57 2=some 2:=ag
@[go_sem] theorem fieldT_57_3:bJ Tryz.prog 57 3=some 5:=ag
@[go_sem] theorem fieldT_64_0:bJ Tryz.prog 64 0=some 0:=ag
@[go_sem] theorem fieldT_64_1:bJ Tryz.prog 64 1=some 1:=ag
@[go_sem] theorem fieldT_64_2:bJ Tryz.prog 64 2=some 2:=ag
@[go_sem] theorem fieldT_81_0:bJ Tryz.prog 81 0=some 0:=ag
@[go_sem] theorem fieldT_81_1:bJ Tryz.prog 81 1=some 3:=ag
@[go_sem] theorem fieldT_102_0:bJ Tryz.prog 102 0=some 0:=ag
@[go_sem] theorem fieldT_102_1:bJ Tryz.prog 102 1=some 1:=ag
@[go_sem] theorem fieldT_116_0:bJ Tryz.prog 116 0=some 0:=ag
@[go_sem] theorem fieldT_116_1:bJ Tryz.prog 116 1=some 3:=ag
@[go_sem] theorem fieldT_116_2:bJ Tryz.prog 116 2=some 4:=ag
@[go_sem] theorem fieldT_218_0:bJ Tryz.prog 218 0=some 0:=ag
section
def mX(x y:ab):Prop:=(x.b7=true->y.b7=true)/\∀e,x.bX=some e->y.bX=some e
theorem mX.rfl' {x y:ab}(h:x=y):mX x y:=h ▸ ⟨id,fun _ h=>h⟩
theorem mX.fz (x:ab):mX x.fz x:=by cases x<;>exact⟨id,fun _ h=>h⟩
theorem mX.row (cs cs':List V):mX (.row cs) (.row cs'):=⟨fun _=>rfl,fun _ h=>by cases h⟩
mutual
theorem V.mY {B B':Nat->Prop}{φ aC:Place}{H H':Hp}{w:World}(hB:∀b, ¬B b-> ¬B' b):∀ (v:V) (val:Value),(∀id∈v.refs,mX (H'.o id) (H.o id)/\aC id=φ id/\H'.us id)->V.den B φ H w v val->V.den B' aC H' w v val
 | .d x,val,_,h=>D.aK (w:=w) (w':=w) (fun b _ hn=>⟨rfl,hB b hn⟩) x val h
 | .bu,_,_,h=>h
 | .aa,_,_,_=>trivial
 | .eW,_,_,h=>h
 | .qn es,val,_,h=>⟨D.aK (w:=w) (w':=w) (fun b _ hn=>⟨rfl,hB b hn⟩) (.sl es) val h.1,h.2⟩
 | .agg cs,val,hr,h=>by
   obtain⟨a,rfl,h1,h2⟩:=h
   exact⟨a,rfl,V.gS hB cs _ vU h1,h2⟩
 | .bT cs,val,hr,h=>by
   obtain⟨a,rfl,h1⟩:=h
   exact⟨a,rfl,V.gS hB cs _ vU h1⟩
 | .ptr id off,val,hr,h=>by
   exact RB
 | .osl id ep,val,hr,h=>by
   obtain⟨a,b,c⟩:=hr id zS
   obtain⟨h0,h1,h2⟩:=h
   refine⟨h0,c,fun e he=> ?_⟩
   obtain⟨x,y⟩:=h2 e (a.2 e he)
   exact⟨x,fun heq=>(y heq).trans b.symm⟩
 | .pe id ep i sz off,val,hr,h=>by
   obtain⟨a,b,c⟩:=hr id zS
   obtain⟨h0,h1,h2⟩:=h
   refine⟨h0,c,fun e he=> ?_⟩
   obtain⟨x,y⟩:=h2 e (a.2 e he)
   exact OC
 | .pp cs off,val,_,h=>by
   obtain⟨a,ev,h1,h2,h3,h5,h4⟩:=h
   exact WL
 | .func fn first cap,val,hr,h=>by
   obtain⟨f,c,rfl,h1,h2⟩:=h
   exact⟨f,c,rfl,V.gS hB first _ (fun id au=>hr id (by simp[V.refs,au])) h1,V.gS hB cap _ (fun id au=>hr id (by simp[V.refs,au])) h2⟩
 | .iface t x,val,hr,h=>by
   obtain⟨u,rfl,h⟩:=h
   exact⟨u,rfl,V.mY hB x u vU h⟩
 | .vX id off n,val,hr,h=>by
   exact RB
 | .mp id,val,hr,h=>by
   obtain⟨a,b,c⟩:=hr id zS
   obtain⟨h0,h1,h2⟩:=h
   refine⟨h0,c,fun bE=> ?_⟩
   exact(h2 (a.1 bE)).trans b.symm
 | .iW id,val,hr,h=>by
   exact RB
theorem V.gS {B B':Nat->Prop}{φ aC:Place}{H H':Hp}{w:World}(hB:∀b, ¬B b-> ¬B' b):∀ (vs:List V) (vals:List Value),(∀id∈V.aE vs,mX (H'.o id) (H.o id)/\aC id=φ id/\H'.us id)->V.az B φ H w vs vals->V.az B' aC H' w vs vals
 |[],_,_,h=>h
 |v::vs,_,hr,h=>by
  obtain⟨u,us,rfl,h1,h2⟩:=h
  exact⟨u,us,rfl,V.mY hB v u (fun id au=>hr id (by simp[V.aE,au])) h1,V.gS hB vs us (fun id au=>hr id (by simp[V.aE,au])) h2⟩
end
mutual
theorem V.nu {B:Nat->Prop}{φ:Place}{H:Hp}{w:World}:∀ (v:V) (val:Value),V.den B φ H w v val->∀id∈v.refs,H.us id
 | .osl id ep,_,h,j,hj| .ptr id off,_,h,j,hj| .pe id ep i sz off,_,h,j,hj| .vX id off n,_,h,j,hj| .mp id,_,h,j,hj| .iW id,_,h,j,hj=>by simp[V.refs]at hj;subst hj;exact h.2.1
 | .agg cs,_,h,j,hj=>by obtain⟨a,rfl,h,_⟩:=h;exact V.gU cs _ h j (by simpa[V.refs]using hj)
 | .bT cs,_,h,j,hj=>by obtain⟨a,rfl,h⟩:=h;exact V.gU cs _ h j (by simpa[V.refs]using hj)
 | .func fn first cap,_,h,j,hj=>by
   obtain⟨f,c,rfl,h1,h2⟩:=h
   rcases List.mem_append.1 (show j∈V.aE first++V.aE cap by simpa[V.refs]using hj)with hj|hj
   ·exact V.gU first _ h1 j hj
   ·exact V.gU cap _ h2 j hj
 | .iface t x,_,h,j,hj=>by obtain⟨u,rfl,h⟩:=h;exact V.nu x u h j (by simpa[V.refs]using hj)
 | .d _,_,_,_,hj| .bu,_,_,_,hj| .pp _ _,_,_,_,hj| .aa,_,_,_,hj| .qn _,_,_,_,hj| .eW,_,_,_,hj=>by simp[V.refs]at hj
theorem V.gU {B:Nat->Prop}{φ:Place}{H:Hp}{w:World}:∀ (vs:List V) (vals:List Value),V.az B φ H w vs vals->∀id∈V.aE vs,H.us id
 |[],_,_,j,hj=>by simp[V.aE]at hj
 |v::vs,_,h,j,hj=>by
  obtain⟨u,us,rfl,h1,h2⟩:=h
  rcases List.mem_append.1 (show j∈v.refs++V.aE vs by simpa[V.aE]using hj)with hj|hj
  ·exact V.nu v u h1 j hj
  ·exact V.gU vs us h2 j hj
end
def JY(so:Nat->ab)(gone:Nat->Prop)(ty:TypeId)(sz:Nat)(es:List D)(x:V):Prop:=
 (x= .bu/\es=[]/\0<sz)\/∃id ep,gone id/\x= .osl id ep/\so id= .arr ep ty sz es
theorem JZ{xs ys:List Nat}:kp xs ys=true↔∀x∈xs,x∉ys:=by
 simp[kp,List.all_eq_true]
def lV(env:Nat->V):List V->Nat->Prop
 |[],_=>True
 |v::l,i=>(v= .aa\/v=env i)/\lV env l (i+1)
theorem FL{env:Nat->V}{i:Nat}:lV env [] i:=trivial
theorem Cu{env:Nat->V}{l:List V}{i:Nat}(h:lV env l (i+1)):lV env (.aa::l) i:=⟨.inl rfl,h⟩
theorem LO{env:Nat->V}{l:List V}{i:Nat}{v:V}(he:env i=v)(h:lV env l (i+1)):lV env (v::l) i:=⟨.inr he.symm,h⟩
theorem Bt{env:Nat->V}:∀ (l:List V) (i:Nat),lV env l i->∀j,a7 l j= .aa\/a7 l j=env (i+j)
 |[],i,_,j=>by rw[pO];exact .inl rfl
 |v::l,i,h,0=>by rw[np];exact h.1
 |v::l,i,h,j+1=>by
  rw[nq]
  have:=Bt l (i+1) h.2 j
  rwa [show i+1+j=i+(j+1) by omega]at this
theorem GN{P:Program}{n bq:Nat}{gq:Operand}{ps:List Nat}{x y:IC}{Q:fL->S->Prop}{e:Nat->V}{o:Nat->ab}{nx:Nat}{f:FuncId}{cap:List V}(env:List V)(he:lV e env 0)
 (h:cX P f (.iW nx::cap) (aD o nx (.loop P.funcs.size n env ps x y .ready none)) (nx+1)
  (fun _ o' nx'=>∃nf m en p c d st pd,o' nx= .loop nf m en p c d st pd/\st≠ .busy/\oA Q pd ⟨e,aD o' nx (.loop nf m en p c d .exhausted pd),nx'⟩) (fun v o' nx'=>Q (.bB v) ⟨e,o',nx'⟩)):
 yw P n bq false gq ps x y Q ⟨e,o,nx⟩ (.func (.func f) [] cap):=by
 unfold yw AL
 refine⟨rfl, .inl ⟨env,fun i=> ?_, .inl h⟩⟩
 have:=Bt env 0 he i
 rwa [Nat.zero_add]at this
theorem br.trans {b:Nat}{s s' s'':S}(h1:br b s s')(h2:br b s' s''):br b s s'':=fun M φ w tm hH hd=>by
 obtain⟨aC,a1,a2,a3,a4,a5,a6⟩:=h1 M φ w tm hH hd
 obtain⟨CA,b1,b2,b3,b4,b5,b6⟩:=h2 M aC w tm a1 a2
 refine⟨CA,b1,b2,fun k hk=>a3 k (b3 k hk),b4,fun id au hr=> ?_,fun id e' au he=> ?_⟩
 ·obtain⟨c1,c2⟩:=b5 id au hr
  obtain⟨c3,c4⟩:=a5 id au c1
  exact⟨c3,c2.trans c4⟩
 ·obtain⟨e1,c1,c2,c3⟩:=b6 id e' au he
  obtain⟨e0,d1,d2,d3⟩:=a6 id e1 au c1
  exact⟨e0,d1,Nat.le_trans d2 c2,fun h=>(c3 ae).trans (d3 ae)⟩
def oG(P:Program)(n b id:Nat)(fl:IC)(K X:V->(Nat->ab)->Nat->Prop)(e:fL)(s:S):Prop:=
 match e with
 | .normal=>∃nf m en p c d pd,s.o id= .loop nf m en p c d .ready pd/\lJ P n b true fl (jD id K X) ⟨s.env,aD s.o id (.loop nf m en p c d .busy pd),s.nx⟩
 | .bB v=>X v s.o s.nx
 |_=>False
theorem dt.aF {P:Program}{n:Nat}(ba:P.follows .mixedOrders=true){id:Nat}{args:List V}{o:Nat->ab}{nx:Nat}{K X:V->(Nat->ab)->Nat->Prop}{env:List V}{ps:List Nat}{jn fl:IC}{st:LoopState}{pd:Option jL}
 (ho:o id= .loop P.funcs.size n env ps jn fl st pd) (cm:id<nx) (vE:ps.all (fun t=>decide (t<n))=true) (hl:args.length=ps.length)
 (h:lJ P n nx true jn (oG P n nx id fl K X) ⟨mJ (a7 env) ps args,o,nx⟩):dt P id args o nx K X:=by
 refine dt.ua ba ho cm vE hl (fq jn _ _ _ (fun e s h=> ?_) h)
 cases e with
 |normal=>
  obtain⟨nf,m,en,p,c,d,pd,h1,h2⟩:=h
  exact⟨nf,m,en,p,c,d,pd,h1,fq fl _ _ _ (fun _ _ h=>h) h2⟩
 |bB v=>exact h
 |_=>exact h.elim
theorem yO{P:Program}{n b id:Nat}{fl:IC}{K X:V->(Nat->ab)->Nat->Prop}{s:S}{nf m:Nat}{en:List V}{p:List Nat}{c d:IC}{pd:Option jL}(h:s.o id= .loop nf m en p c d .ready pd)
 (h2:lJ P n b true fl (jD id K X) ⟨s.env,aD s.o id (.loop nf m en p c d .busy pd),s.nx⟩):oG P n b id fl K X .normal s:=⟨nf,m,en,p,c,d,pd,h,h2⟩
def vF:List Nat->Nat->Nat->Nat
 |[],nx,k=>nx+k
 |i::_,_,0=>i
 |_::l,nx,k+1=>vF l nx k
theorem yQ:∀ (l:List Nat) (nx k:Nat),vF l nx k∈l\/nx<=vF l nx k
 |[],nx,k=> .inr (Nat.le_add_right _ _)
 |i::_,_,0=> .inl (List.mem_cons_self ..)
 |_::l,nx,k+1=>(yQ l nx k).imp (List.mem_cons_of_mem _) id
theorem Bu{nx:Nat}:∀ (l:List Nat),l.Nodup->(∀i∈l,i<nx)->∀a b,vF l nx a=vF l nx b->a=b
 |[],_,_,a,b,e=>by simp only[vF]at e;omega
 |i::l,_,_,0,0,_=>rfl
 |i::l,hd,hl,0,b+1,e=>by
  simp only[vF]at e
  rcases yQ l nx b with h|h
  ·rw[<- e]at h;exact absurd h (List.nodup_cons.1 hd).1
  ·have:=hl i (List.mem_cons_self ..);omega
 |i::l,hd,hl,a+1,0,e=>by
  simp only[vF]at e
  rcases yQ l nx a with h|h
  ·rw[e]at h;exact absurd h (List.nodup_cons.1 hd).1
  ·have:=hl i (List.mem_cons_self ..);omega
 |i::l,hd,hl,a+1,b+1,e=>by
  simp only[vF]at e
  rw[Bu l (List.nodup_cons.1 hd).2 (fun j hj=>hl j (List.mem_cons_of_mem _ hj)) a b e]
def M6(f:Nat->Nat)(x:List Nat×List Nat):List Nat×List Nat:=(x.1.map f,x.2.map f)
theorem uC{f:Nat->Nat}(hf:∀a b,f a=f b->a=b){xs ys:List Nat}(hd:kp xs ys=true):kp (xs.map f) (ys.map f)=true:=by
 rw[JZ]at hd|-
 intro x hx hy
 obtain⟨a,ha,rfl⟩:=List.mem_map.1 hx
 obtain⟨b,hb,e⟩:=List.mem_map.1 hy
 rw[hf b a e]at hb
 exact hd a ha hb
theorem Dn{f:Nat->Nat}(hf:∀a b,f a=f b->a=b){pr:List (List Nat)}(fp:List (List Nat×List Nat))(ho:dY pr fp=true):dY pr (fp.map (M6 f))=true:=by
 unfold dY at ho|-
 rw[List.all_eq_true]at ho|-
 intro j hj
 rw[List.length_map]at hj
 have ho:=ho j hj
 rw[List.all_eq_true]at ho|-
 intro i hi
 have ho:=ho i hi
 have hm:∀k,(fp.map (M6 f)).getD k ([],[])=M6 f (fp.getD k ([],[])):=fun k=>by
  rw[List.getD_eq_getElem?_getD,List.getD_eq_getElem?_getD,List.getElem?_map]
  cases fp[k]? <;>rfl
 rw[hm,hm]
 rw[Bool.or_eq_true]at ho|-
 refine ho.imp (fun h=>h) (fun ho=> ?_)
 rw[Bool.and_eq_true,Bool.and_eq_true]at ho|-
 exact⟨⟨uC hf ho.1.1,uC hf ho.1.2⟩,uC hf ho.2⟩
theorem eF{ids:List Nat}{nx:Nat}(hd:ids.Nodup)(hl:∀i∈ids,i<nx){pr:List (List Nat)}(fp:List (List Nat×List Nat))(ho:dY pr fp=true):dY pr (fp.map (M6 (vF ids nx)))=true:=
 Dn (Bu ids hd hl) fp ho
section
variable {P:Program}{KB:List Nat->Fp->Prop}{pr:List (List Nat)}{l:List bH}{fr:Nat}{fp:Fp}{bad ws:List Nat}{s:S}{d:Option Nat}{op:Op}
end
end
section
structure Gr where
 x:V
 ty:TypeId
 sz:Nat
 es:List D
def Gr.ok (so:Nat->ab)(gone:Nat->Prop)(g:Gr):Prop:=JY so gone g.ty g.sz g.es g.x
def J0(c:Nat)(G:List Gr)(so:Nat->ab)(gone:Nat->Prop)(v v':V):Prop:=
 v'= .aa\/(v'=v/\∀r∈v.refs,r<c)\/(∃i g,G[i]? =some g/\v'= .osl (c+i) 0/\v=g.x)\/∃y,v'= .d y/\dC so v=some y/\∀id∈v.ids,gone id/\∀g∈G,∀ep,g.x≠ .osl id ep
def l4(c:Nat)(G:List Gr)(so:Nat->ab)(gone:Nat->Prop)(env:Nat->V):List V->Nat->Prop
 |[],_=>True
 |v::l,i=>J0 c G so gone (env i) v/\l4 c G so gone env l (i+1)
def uD(c:Nat)(G:List Gr)(so:Nat->ab)(gone:Nat->Prop):List V->List V->Prop
 |[],[]=>True
 |v::l,v'::l'=>J0 c G so gone v v'/\uD c G so gone l l'
 |_,_=>False
def uE(c:Nat)(G:List Gr)(so:Nat->ab)(gone:Nat->Prop)(x x':ab):Prop:=
 x'= .no\/(x=x'/\∀r∈x'.refs,r<c)\/∃cs cs',x= .row cs/\x'= .row cs'/\uD c G so gone cs cs'
section
variable {c:Nat}{G:List Gr}{so:Nat->ab}{gone:Nat->Prop}
theorem EX{env:Nat->V}:∀ (l:List V) (i:Nat),l4 c G so gone env l i->∀j,J0 c G so gone (env (i+j)) (a7 l j)
 |[],i,_,j=>by rw[pO];exact .inl rfl
 |v::l,i,h,0=>by rw[np];exact h.1
 |v::l,i,h,j+1=>by
  rw[nq]
  have:=EX l (i+1) h.2 j
  rwa [show i+1+j=i+(j+1) by omega]at this
variable {env:Nat->V}{i:Nat}{l l':List V}{v:V}{y:D}
theorem HO:l4 c G so gone env [] i:=trivial
theorem FJ(h:l4 c G so gone env l (i+1)):l4 c G so gone env (.aa::l) i:=⟨.inl rfl,h⟩
theorem HP(he:env i= .d y)(h:l4 c G so gone env l (i+1)):l4 c G so gone env (.d y::l) i:=⟨.inr (.inl ⟨he.symm,fun r hr=>by rw[he]at hr;simp[V.refs]at hr⟩),h⟩
theorem Ra(he:env i=v)(hr:∀r∈v.refs,r<c)(h:l4 c G so gone env l (i+1)):l4 c G so gone env (v::l) i:=⟨.inr (.inl ⟨he.symm,fun r xS=>hr r (he ▸ xS)⟩),h⟩
theorem Q9(k:Nat){g:Gr}{n:Nat}(hg:G[k]? =some g)(hn:n=c+k)(he:env i=g.x)(h:l4 c G so gone env l (i+1)):l4 c G so gone env (.osl n 0::l) i:=⟨.inr (.inr (.inl ⟨k,g,hg,by rw[hn],he⟩)),h⟩
theorem Rb(ht:dC so (env i)=some y)(hi:∀id∈(env i).ids,gone id/\∀g∈G,∀ep,g.x≠ .osl id ep)(h:l4 c G so gone env l (i+1)):l4 c G so gone env (.d y::l) i:=⟨.inr (.inr (.inr ⟨y,rfl,ht,hi⟩)),h⟩
theorem Bv:uD c G so gone [] []:=trivial
theorem Uh(h:uD c G so gone l l'):uD c G so gone (.d y::l) (.d y::l'):=⟨.inr (.inl ⟨rfl,fun r hr=>by simp[V.refs]at hr⟩),h⟩
theorem J1(k:Nat){g:Gr}{n:Nat}(hg:G[k]? =some g)(hn:n=c+k)(he:v=g.x)(h:uD c G so gone l l'):uD c G so gone (v::l) (.osl n 0::l'):=⟨.inr (.inr (.inl ⟨k,g,hg,by rw[hn],he⟩)),h⟩
theorem gD{x x':ab}(h:x=x')(hr:∀r∈x'.refs,r<c):uE c G so gone x x':= .inr (.inl ⟨h,hr⟩)
theorem Bw{x:ab}{cs cs':List V}(h:x= .row cs)(hr:uD c G so gone cs cs'):uE c G so gone x (.row cs'):= .inr (.inr ⟨cs,cs',h,rfl,hr⟩)
end
theorem pW{c:Nat}{G:List Gr}{so:Nat->ab}{gone:Nat->Prop}{B B':Nat->Prop}{φ aC:Place}{H H':Hp}{w:World}(hc:∀v v' val,J0 c G so gone v v'->V.den B φ H w v val->V.den B' aC H' w v' val):
 ∀ (l l':List V) (vals:List Value),uD c G so gone l l'->V.az B φ H w l vals->V.az B' aC H' w l' vals
 |[],[],_,_,h=>h
 |v::l,v'::l',_,h,hd=>by
  obtain⟨u,us,rfl,h1,h2⟩:=hd
  exact⟨u,us,rfl,hc _ _ _ h.1 h1,pW hc l l' us h.2 h2⟩
 |[],_::_,_,h,_=>h.elim
 |_::_,[],_,h,_=>h.elim
def J2(φ:Place)(c:Nat)(G:List Gr):Place:=fun id=>if id<c then φ id else match G[id - c]? with
 |some g=>(match g.x with| .osl j _=>φ j|_=> .slice none 0 0)
 |none=>φ id
theorem br.see (gone:Nat->Prop)(G:List Gr)(c:Nat){b:Nat}{e:Nat->V}{so:Nat->ab}{m:Nat}(l:List V){o':Nat->ab}{nx':Nat}(tL:nx'=c+G.length)(hb:b<=c)
 (ho:∀id,id<c->uE c G so gone (so id) (o' id)) (hG:∀i g,G[i]? =some g->o' (c+i)= .arr 0 g.ty g.sz g.es/\g.ok so gone) (hh:∀id,nx'<=id->o' id= .no) (w6:∀id,gone id->id<c->o' id= .no)
 (Sa:∀ (i j:Nat) (gi gj:Gr) (id ep ig:Nat),G[i]? =some gi->G[j]? =some gj->gi.x= .osl id ep->gj.x= .osl id ig->i=j) (he:l4 c G so gone e l 0):br b ⟨e,so,m⟩ ⟨a7 l,o',nx'⟩:=by
 subst tL
 intro M φ w tm hH hd
 let aC:Place:=J2 φ c G
 let H':Hp:=hp o' (c+G.length)
 let H:Hp:=⟨so,fun id=>id<m⟩
 have GO:∀id,id<c->aC id=φ id:=fun id au=>if_pos au
 have J3:∀i g,G[i]? =some g->aC (c+i)=(match g.x with| .osl j _=>φ j|_=> .slice none 0 0):=fun i g hg=>by
  show J2 φ c G (c+i)=_
  unfold J2
  rw[if_neg (by omega),show c+i - c=i by omega,hg]
 have hold:∀id k,(o' id).live=true->de (aC id)=some k->∃j,(so j).live=true/\de (φ j)=some k/\((id<c/\j=id)\/∃i g ep,id=c+i/\G[i]? =some g/\gone j/\g.x= .osl j ep):=by
  intro id k h1 h2
  by_cases cm:id<c
  ·rw[GO id cm]at h2
   rcases ho id cm with h3|⟨h3,_⟩|⟨cs,cs',h3,h4,_⟩
   ·rw[h3]at h1;cases h1
   ·exact⟨id,by rw[h3];exact h1,h2, .inl ⟨cm,rfl⟩⟩
   ·exact⟨id,by rw[h3];rfl,h2, .inl ⟨cm,rfl⟩⟩
  ·by_cases zK:c+G.length<=id
   ·rw[hh id zK]at h1;cases h1
   ·obtain⟨i,rfl⟩:∃i,id=c+i:=⟨id - c,ae⟩
    obtain⟨g,hg⟩:∃g,G[i]? =some g:=⟨G[i]'ae,aJ⟩
    rw[J3 i g hg]at h2
    obtain⟨_,aS⟩:=hG i g hg
    rcases aS with⟨h3,_,_⟩|⟨j,ep,hj,h3,oT⟩
    ·rw[h3]at h2;cases h2
    ·rw[h3]at h2
     exact⟨j,by rw[oT];rfl,h2, .inr ⟨i,g,ep,rfl,hg,hj,h3⟩⟩
 have cz:∀k,cw aC H' k->cw φ H k:=by
  rintro k ⟨id,h1,h2⟩
  obtain⟨j,g1,g2,_⟩:=hold id k h1 h2
  exact⟨j,g1,g2⟩
 have hB:∀k, ¬ak M φ H k-> ¬ak M aC H' k:=fun k h h'=>h (h'.imp id (cz k))
 have Lw:∀id,id<c->mX (H'.o id) (H.o id)/\aC id=φ id/\H'.us id:=fun id au=>by
  refine⟨?_,GO id au,(by show id<c+G.length;omega)⟩
  show mX (o' id) (so id)
  rcases ho id au with h3|⟨h3,_⟩|⟨cs,cs',h3,h4,_⟩
  ·rw[h3];exact⟨fun h=>(by cases h),fun e h=>(by cases h)⟩
  ·exact mX.rfl' h3.symm
  ·rw[h3,h4];exact mX.row _ _
 have eK:∀ (v:V) (val:Value),(∀r∈v.refs,r<c)->V.den (ak M φ H) φ H w v val->V.den (ak M aC H') aC H' w v val:=fun v val hr h=>
  V.mY (H:=H) (H':=H') hB v val (fun id au=>Lw id (hr id au)) h
 have kJ:∀ (v:List V) (val:List Value),(∀r∈V.aE v,r<c)->V.az (ak M φ H) φ H w v val->V.az (ak M aC H') aC H' w v val:=fun v val hr h=>
  V.gS (H:=H) (H':=H') hB v val (fun id au=>Lw id (hr id au)) h
 have adf:∀ (v:V) (y:D) (val:Value),dC so v=some y->(∀id∈v.ids,gone id/\∀g∈G,∀ep,g.x≠ .osl id ep)->V.den (ak M φ H) φ H w v val->D.den (ak M aC H') w y val:=fun v y val h1 h2 h3=>by
  obtain⟨f1,f2,f3,f4,f5⟩:=cF (H:=H) hH v.ids (fun id au=>cC v val h3 id au)
  have hB1:∀k,cw φ (H.put (cc H.o v.ids)) k->cw φ H k:=by
   rintro k ⟨id,g1,g2⟩
   by_cases au:id∈v.ids
   ·rw[f3 id au]at g1
    refine⟨id, ?_,g2⟩
    revert g1
    cases H.o id<;>simp[ab.fz,ab.live]
   ·rw[f4 id au]at g1;exact⟨id,g1,g2⟩
  have h4:V.den (ak M φ (H.put (cc H.o v.ids))) φ (H.put (cc H.o v.ids)) w v val:=
   V.mY (H:=H) (fun k h h'=>h (h'.imp id (hB1 k))) v val (fun id au=>by
     have dX:H.us id:=(V.nu v val h3) id au
     refine⟨?_,rfl,(f5 id).2 dX⟩
     by_cases hm:id∈v.ids
     ·rw[f3 id hm];exact mX.fz _
     ·rw[f4 id hm];exact mX.rfl' rfl) h3
  have h5:=eO f1 (o:=so) v y val (fun id au=>f3 id au) h1 h4
  refine D.aK (w:=w) (w':=w) (fun k _ hn=>⟨rfl,fun hk=>hn (hk.imp id ?_)⟩) y val h5
  rintro⟨id,g1,g2⟩
  obtain⟨j,k1,k2,k3⟩:=hold id k g1 g2
  refine⟨j, ?_,k2⟩
  have:j∉v.ids:=fun hm=>by
   obtain⟨k4,k5⟩:=h2 j hm
   rcases k3 with⟨k6,k7⟩|⟨i,g,ep,k6,k8,k9,k10⟩
   ·subst k7
    have:=w6 _ k4 k6
    have g1:(o' j).live=true:=g1
    rw[this]at g1
    cases g1
   ·exact k5 g (List.mem_of_getElem? k8) ep k10
  rw[f4 j this];exact k1
 have uF:∀i g val,G[i]? =some g->V.den (ak M φ H) φ H w g.x val->V.den (ak M aC H') aC H' w (.osl (c+i) 0) val:=by
  intro i g val hg this
  obtain⟨Cv,aS⟩:=hG i g hg
  have cm:c+i<c+G.length:=by have:=(List.getElem?_eq_some_iff.1 hg).1;omega
  rcases aS with⟨h3,_,_⟩|⟨j,ep,hj,h3,oT⟩
  ·rw[h3]at this
   simp only[V.den]at this
   rw[this]
   refine⟨rfl,cm,fun e' oQ=> ?_⟩
   have oQ:(o' (c+i)).bX=some e':=oQ
   rw[Cv]at oQ
   simp only[ab.bX,Option.some.injEq]at oQ
   subst oQ
   exact⟨Nat.le_refl _,fun _=>by rw[J3 i g hg,h3]⟩
  ·rw[h3]at this
   obtain⟨g1,g2,g3⟩:=this
   refine⟨g1,cm,fun e' oQ=> ?_⟩
   have oQ:(o' (c+i)).bX=some e':=oQ
   rw[Cv]at oQ
   simp only[ab.bX,Option.some.injEq]at oQ
   subst oQ
   have vq:(H.o j).bX=some ep:=by show(so j).bX=_;rw[oT];rfl
   exact⟨Nat.le_refl _,fun _=>by rw[J3 i g hg,h3];exact(g3 ep vq).2 rfl⟩
 have QH:∀v v' val,J0 c G so gone v v'->V.den (ak M φ H) φ H w v val->V.den (ak M aC H') aC H' w v' val:=by
  intro v v' val h h1
  rcases h with rfl|⟨rfl,h2⟩|⟨i,g,hg,rfl,rfl⟩|⟨y,rfl,h2,h3⟩
  ·trivial
  ·exact eK _ _ h2 h1
  ·exact uF i g _ hg h1
  ·exact adf v y val h2 h3 h1
 refine⟨aC,⟨fun id=> ?_,fun id hu=>hh id (by have: ¬id<c+G.length:=hu;omega),fun i j k h1 h2 h3 h4=> ?_,fun k hk=>hH.ours k (cz k hk),hH.zH⟩,fun i=> ?_,cz,by show b<=c+G.length;omega,fun id au hr=> ?_,fun id e' au oQ=> ?_⟩
 ·have aZ:aM M φ H w id:=hH.ok id
  show aM M aC H' w id
  unfold aM at aZ|-
  by_cases cm:id<c
  ·rcases ho id cm with h3|⟨h3,hrefs⟩|⟨cs,cs',h3,h4,bE⟩
   ·have e2:H'.o id= .no:=h3
    rw[e2];trivial
   ·have e1:H.o id=o' id:=h3
    have e2:H'.o id=o' id:=rfl
    rw[e1]at aZ
    rw[e2,GO id cm]
    cases qp:o' id with
    |no=>trivial
    |row cs=>
     simp only[qp]at aZ hrefs|-
     exact Ox
    |arr ep ty sz es=>
     simp only[qp]at aZ|-
     obtain⟨k1,xs,k2,evs,k3,k4,k5⟩:=aZ
     exact Xd
    |rz ep es=>
     simp only[qp]at aZ|-
     exact LU
    |map kt vt es=>
     simp only[qp]at aZ|-
     obtain⟨b,es',clock,k1,k2,k4,k3⟩:=aZ
     exact Xa
    |gH l=>
     simp only[qp]at aZ|-
     exact LU
    |oh l last=>
     simp only[qp]at aZ|-
     obtain⟨b,k1,k2⟩:=aZ
     exact On
    |xG s pos=>
     simp only[qp]at aZ|-
     exact aZ
    |loop nf n env ps a b st pd=>
     simp only[qp]at aZ hrefs|-
     exact OO
   ·have e1:H.o id= .row cs:=h3
    have e2:H'.o id= .row cs':=h4
    rw[e1]at aZ
    rw[e2,GO id cm]
    obtain⟨b,dG,ty,k1,k2,k3,k4⟩:=aZ
    exact⟨b,dG,ty,k1,k2,pW QH _ _ _ bE k3,k4⟩
  ·by_cases zK:c+G.length<=id
   ·have e2:H'.o id= .no:=hh id zK
    rw[e2];trivial
   ·obtain⟨i,rfl⟩:∃i,id=c+i:=⟨id - c,ae⟩
    obtain⟨g,hg⟩:∃g,G[i]? =some g:=⟨G[i]'ae,aJ⟩
    obtain⟨Cv,aS⟩:=hG i g hg
    have e2:H'.o (c+i)= .arr 0 g.ty g.sz g.es:=Cv
    rw[e2]
    rcases aS with⟨h3,h4,dA⟩|⟨j,ep,hj,h3,oT⟩
    ·rw[h4]
     refine⟨dA,[], ?_,[],aJ,aJ,rfl⟩
     rw[J3 i g hg,h3]
     exact World.ownsRow_nil _ _ _ _
    ·have this:aM M φ H w j:=hH.ok j
     unfold aM at this
     have e3:H.o j= .arr ep g.ty g.sz g.es:=oT
     simp only[e3]at this
     obtain⟨k1,xs,k2,evs,k3,k4,k5⟩:=this
     exact⟨k1,xs,by rw[J3 i g hg,h3];exact k2,evs,k3,k4,D.aN (fun b _ hn=>⟨rfl,hB b hn⟩) _ _ k5⟩
 ·obtain⟨i',a1,a2,a3⟩:=hold i k h1 h3
  obtain⟨j',b1,b2,b3⟩:=hold j k h2 h4
  have:=hH.apart i' j' k a1 b1 a2 b2
  subst this
  have jY:∀Cr,(o' Cr).live=true->Cr<c->gone Cr->False:=fun Cr g1 g2 g3=>by
   rw[w6 _ g3 g2]at g1
   cases g1
  rcases a3 with⟨a3,a4⟩|⟨ia,ga,ea,a3,a4,a5,a6⟩<;>rcases b3 with⟨b3,b4⟩|⟨ib,gb,eb,b3,b4,b5,b6⟩
  ·omega
  ·exact(jY i h1 a3 (a4 ▸ b5)).elim
  ·exact(jY j h2 b3 (b4 ▸ a5)).elim
  ·have:=Sa ia ib ga gb _ _ _ a4 b4 a6 b6
   omega
 ·have hi:=EX l 0 he i
  rw[Nat.zero_add]at hi
  exact QH _ _ _ hi (hd i)
 ·have cm:id<c:=ae
  have hr:(o' id).b7=true:=hr
  exact⟨(Lw id cm).1.1 hr,GO id cm⟩
 ·have cm:id<c:=ae
  have oQ:(o' id).bX=some e':=oQ
  exact⟨e',(Lw id cm).1.2 e' oQ,Nat.le_refl _,fun _=>GO id cm⟩
theorem br.aa9 (gone:Nat->Prop)(c:Nat){b:Nat}{e:Nat->V}{so:Nat->ab}{m:Nat}(l:List V){o':Nat->ab}(hb:b<=c)
 (ho:∀id,id<c->uE c [] so gone (so id) (o' id)) (hh:∀id,c<=id->o' id= .no) (w6:∀id,gone id->id<c->o' id= .no) (he:l4 c [] so gone e l 0):br b ⟨e,so,m⟩ ⟨a7 l,o',c⟩:=
 br.see gone [] c l rfl hb ho (fun i g h=>by cases h) hh w6 (fun i j gi gj id ep ig h=>by cases h) he
theorem br.Dp (gone:Nat->Prop)(x:V)(c:Nat){ty:TypeId}{sz:Nat}{es:List D}{b:Nat}{e:Nat->V}{so:Nat->ab}{m:Nat}(l:List V){o':Nat->ab}(hb:b<=c)
 (ho:∀id,id<c->uE c [⟨x,ty,sz,es⟩] so gone (so id) (o' id)) (hc:o' c= .arr 0 ty sz es) (hx:JY so gone ty sz es x) (hh:∀id,c+1<=id->o' id= .no) (w6:∀id,gone id->id<c->o' id= .no)
 (he:l4 c [⟨x,ty,sz,es⟩] so gone e l 0):br b ⟨e,so,m⟩ ⟨a7 l,o',c+1⟩:=
 br.see gone [⟨x,ty,sz,es⟩] c l rfl hb ho (fun i g h=>by
  match i,h with
  |0,h=>simp at h;subst h;exact⟨hc,hx⟩) hh w6 (fun i j gi gj id ep ig h h' _ _=>by
  match i,j,h,h' with
  |0,0,_,_=>rfl) he
theorem lt1{P:Nat->Prop}(h:P 0):∀id,id<1->P id:=fun id au=>by
 have e:id=0:=ae
 rw[e];exact h
theorem lt0{P:Nat->Prop}:∀id,id<0->P id:=fun id au=>ae
@[go_sem] theorem adN (b:Bool):(b==false)= !b:=zX
@[go_sem] theorem adO (b:Bool):(b==true)=b:=zX
@[go_sem] theorem aba (c:Bool) (v:V):V.yr c (V.yr c v)=V.yr c v:=by cases c<;>rfl
@[go_sem] theorem abb (c:Bool):(c&&c)=c:=by cases c<;>rfl
@[go_sem] theorem Wi {α:Type} (f:α->D) (l:List α) (n:Nat) (h:∀x,(f x).cells.length=n):((l.map f).all fun z=>z.cells.length==n)=true:=by
  simp[List.all_eq_true,h]
attribute [go_sem] implies_true
attribute [go_sem] Option.isSome_none Option.getD_some Option.getD_none
theorem structOf{P:Program}{t:TypeId}(h:(match P.underlying t with|some (.struct _)=>true|_=>false)=true):∃fs,P.underlying t=some (.struct fs):=by
 split at h
 ·exact⟨_,by assumption⟩
 ·cases h
theorem aQ{pr:List (List Nat)}{fp:List (List Nat×List Nat)}(h:fp.all (fun x=>x.2.isEmpty)=true):dY pr fp=true:=by
 have e:∀i,(fp.getD i ([],[])).2=[]:=fun i=>by
  rw[List.getD_eq_getElem?_getD]
  cases hi:fp[i]? with
  |none=>rfl
  |some x=>simpa using List.all_eq_true.1 h x (List.mem_of_getElem? hi)
 simp only[dY,List.all_eq_true,e,kp,List.all_nil,Bool.and_self,Bool.or_true,implies_true]
structure cG (base:Nat) (h o:Nat->ab) (nx:Nat):Prop where
 bz:Good o nx
 le:base<=nx
 eq:∀id,id<base->o id=h id
def StK(base:Nat)(h:Nat->ab)(v:V)(o:Nat->ab)(nx:Nat)(K:V->(Nat->ab)->Nat->Prop):Prop:=
 ∀o' nx',nx<=nx'->cG base h o' nx'->(∀id,base<=id->id<nx->o' id=o id)->K v o' nx'
def iN(P:Program)(g:FuncId)(args:List V)(base:Nat)(h h2:Nat->ab)(v:V):Prop:=
 ∀o nx,cG base h o nx->∀K X,StK base h2 v o nx K->cX P g args o nx K X
theorem cG.aD {base:Nat}{h o:Nat->ab}{nx m i:Nat}{x:ab}(hI:cG base h o nx)(hb:base<=i)(hi:i<m)(hm:nx<=m)(hx:x.refs.all (fun r=>decide (r<m))=true):cG base h (YtnkamdiiakdkgaaGreat.aD o i x) m:=
 ⟨(hI.bz.mono hm).aD hi hx,Nat.le_trans hI.le hm,fun id au=>by rw[ah _ _ _ _ (by omega)];exact hI.eq id au⟩
theorem cG.mono {base:Nat}{h o:Nat->ab}{nx m:Nat}(hI:cG base h o nx)(hm:nx<=m):cG base h o m:=⟨hI.bz.mono hm,Nat.le_trans hI.le hm,hI.eq⟩
def ext(base:Nat)(h o:Nat->ab):Nat->ab:=fun id=>if id<base then h id else o id
theorem cG.ext {base c:Nat}{h o:Nat->ab}{nx:Nat}(hI:cG base h o nx)(hc:c<=nx)(hb:base<=c):cG c (YtnkamdiiakdkgaaGreat.ext base h o) o nx:=
 ⟨hI.bz,hc,fun id _=>by unfold YtnkamdiiakdkgaaGreat.ext;split<;>first|exact hI.eq id oX|rfl⟩
theorem iN.ext {P:Program}{g:FuncId}{args:List V}{base c:Nat}{h h2:Nat->ab}{v:V}(hS:iN P g args base h h2 v)(hb:base<=c)(o0:Nat->ab):iN P g args c (YtnkamdiiakdkgaaGreat.ext base h o0) (YtnkamdiiakdkgaaGreat.ext base h2 o0) v:=by
 intro o nx hI K X hK
 refine hS o nx ⟨hI.bz,Nat.le_trans hb hI.le,fun id au=>by rw[hI.eq id (by omega)];unfold YtnkamdiiakdkgaaGreat.ext;rw[if_pos au]⟩ K X fun o' nx' h1 h2 h3=>hK o' nx' h1 ⟨h2.bz,Nat.le_trans hI.le h1,fun id au=> ?_⟩ (fun id h4 h5=>h3 id ae h5)
 unfold YtnkamdiiakdkgaaGreat.ext
 split
 ·exact h2.eq id oX
 ·rename_i hn
  rw[h3 id (by omega) (by have:=hI.le;omega),hI.eq id au]
  unfold YtnkamdiiakdkgaaGreat.ext;rw[if_neg hn]
theorem StK.ext {base c:Nat}{h o:Nat->ab}{v:V}{o1:Nat->ab}{nx zN:Nat}{K:V->(Nat->ab)->Nat->Prop}(hK:StK base h v o nx K)(hb:base<=c)(hn:nx<=zN)(hc:nx<=c)(ho:∀id,base<=id->id<nx->o1 id=o id):StK c (YtnkamdiiakdkgaaGreat.ext base h o1) v o1 zN K:=by
 intro o' nx' h1 h2 h3
 refine hK o' nx' ae ⟨h2.bz,Nat.le_trans hb h2.le,fun id au=> ?_⟩ fun id h4 h5=> ?_
 ·rw[h2.eq id (by omega)];unfold YtnkamdiiakdkgaaGreat.ext;rw[if_pos au]
 ·rw[h2.eq id (by omega), <- ho id h4 h5];unfold YtnkamdiiakdkgaaGreat.ext;rw[if_neg (by omega)]
def aq{α σ:Type}(step:σ->α->σ×Bool)(s:σ):List α->σ×Bool
 |[]=>(s,true)
 |x::l=>if(step s x).2=true then aq step (step s x).1 l else((step s x).1,false)
theorem mZ{P:Program}{id:Nat}{args:List V}{e:Nat->V}{o:Nat->ab}{nx:Nat}{K X:V->(Nat->ab)->Nat->Prop}(h:dt P id args o nx K X):wO P id K X ⟨e,o,nx⟩ args:=by unfold wO;exact h
theorem et{α:Type}(f:Nat->α)(i:Nat)(x y:α):aD (aD f i x) i y=aD f i y:=by
 funext j;simp only[aD];split<;>rfl
attribute [go_sem] Int.cast_ofNat_Int
section
variable {P:Program}{n:Nat}{ps:List Nat}{x y:IC}{env:List V}{L:LoopState->Option jL->ab}
def gV(P:Program)(n:Nat)(env:List V)(ps:List Nat)(x y:IC)(L:LoopState->Option jL->ab):Prop:=∀st pd,L st pd= .loop P.funcs.size n env ps x y st pd
theorem Dq{bq:Nat}{gq:Operand}{Q:fL->S->Prop}{e:Nat->V}{o:Nat->ab}{nx:Nat}{f:FuncId}{cap:List V}(env:List V)(he:lV e env 0)
 (h:∀L,gV P n env ps x y L->cX P f (.iW nx::cap) (aD o nx (L .ready none)) (nx+1)
  (fun _ o' nx'=>∃st pd,o' nx=L st pd/\st≠ .busy/\oA Q pd ⟨e,aD o' nx (L .exhausted pd),nx'⟩) (fun v o' nx'=>Q (.bB v) ⟨e,o',nx'⟩)):
 yw P n bq false gq ps x y Q ⟨e,o,nx⟩ (.func (.func f) [] cap):=by
 refine GN env he ?_
 have:=h (fun st pd=> .loop P.funcs.size n env ps x y st pd) (fun _ _=>rfl)
 refine this.mono (fun v o' nx' hh=> ?_) (fun v o' nx' hh=>hh)
 obtain⟨st,pd,h1,h2,h3⟩:=hh
 exact⟨_,_,_,_,_,_,_,_,h1,h2,h3⟩
theorem uG(hL:gV P n env ps x y L)(ba:P.follows .mixedOrders=true){id:Nat}{args:List V}{o:Nat->ab}{nx:Nat}{K X:V->(Nat->ab)->Nat->Prop}{st:LoopState}{pd:Option jL}
 (ho:o id=L st pd) (cm:id<nx) (vE:ps.all (fun t=>decide (t<n))=true) (hl:args.length=ps.length)
 (h:lJ P n nx true x (oG P n nx id y K X) ⟨mJ (a7 env) ps args,o,nx⟩):dt P id args o nx K X:=
 dt.aF ba (ho.trans (hL st pd)) cm vE hl h
theorem kX(hL:gV P n env ps x y L){b id:Nat}{fl:IC}{K X:V->(Nat->ab)->Nat->Prop}{e:Nat->V}{o:Nat->ab}{nx:Nat}{pd:Option jL}(h:o id=L .ready pd)
 (h2:lJ P n b true fl (jD id K X) ⟨e,aD o id (L .busy pd),nx⟩):oG P n b id fl K X .normal ⟨e,o,nx⟩:=by
 refine yO (h.trans (hL _ _)) ?_
 rw[<- hL];exact h2
theorem FP(hL:gV P n env ps x y L){id:Nat}{K X:V->(Nat->ab)->Nat->Prop}{e:Nat->V}{o:Nat->ab}{nx:Nat}{st:LoopState}{pd:Option jL}(h:o id=L st pd)(k:K (.d (.bool true)) (aD o id (L .ready none)) nx):jD id K X .normal ⟨e,o,nx⟩:=
 ⟨_,_,_,_,_,_,_,_,h.trans (hL _ _),by rw[<- hL];exact k⟩
theorem Cy(hL:gV P n env ps x y L){id:Nat}{K X:V->(Nat->ab)->Nat->Prop}{e:Nat->V}{o:Nat->ab}{nx:Nat}{st:LoopState}{pd:Option jL}(h:o id=L st pd)(k:K (.d (.bool false)) (aD o id (L .done (some .ret))) nx):jD id K X .ret ⟨e,o,nx⟩:=
 ⟨_,_,_,_,_,_,_,_,h.trans (hL _ _),by rw[<- hL];exact k⟩
theorem zQ(hL:gV P n env ps x y L){id j:Nat}{K X:V->(Nat->ab)->Nat->Prop}{e:Nat->V}{o:Nat->ab}{nx:Nat}{st:LoopState}{pd:Option jL}(h:o id=L st pd)(k:K (.d (.bool false)) (aD o id (L .done (some (.exit j)))) nx):jD id K X (.exit j) ⟨e,o,nx⟩:=
 ⟨_,_,_,_,_,_,_,_,h.trans (hL _ _),by rw[<- hL];exact k⟩
theorem gV.no (hL:gV P n env ps x y L)(st:LoopState)(pd:Option jL):L st pd≠ .no:=by rw[hL];exact ab.noConfusion
theorem gV.refs (hL:gV P n env ps x y L)(st:LoopState)(pd:Option jL):(L st pd).refs=V.aE env:=by rw[hL];rfl
end
end
attribute [go_sem_proc] Int.reduceBEq Int.reduceBNe Int.reduceLT Int.reduceLE Int.reduceEq Int.reduceNe Nat.reducePow Nat.reduceEqDiff Nat.reduceAdd Nat.reduceSub Nat.reduceMul Nat.reduceLeDiff Nat.reduceBEq Nat.reduceLT reduceIte reduceCtorEq Int.reduceToNat
attribute [go_sem] List.range_zero Option.isSome_some and_self List.cons.injEq
theorem zW(n low high:Int):aV Tryz.prog 108 [.i n, .i low, .i high] (.ret [.bool (dE n low high)]):=by
 refine aV.aF mix ZY aJ ?_
 rw[ZX]
 refine cI ?_
 rfl
theorem J4{t:Tm}{left depth:Int}(h:left<1\/depth<1):iu t left depth= -1:=by cases t;simp[iu,h]
theorem oH{l:List Tm}{left depth:Int}(h:left<0):b9 l left depth=left:=by
 cases l with
 |nil=>rfl
 |cons k l=>simp[b9,show ¬ (0<=left) by omega]
theorem J5:∀t:Tm,∀left depth:Int, -1<=iu t left depth/\(1<=left->iu t left depth<=left - 1)/\(left<1->iu t left depth= -1):=by
 refine Tm.ind fun op n kids ih left depth=> ?_
 have hs:∀ (l:List Tm) (left d:Int),(∀k∈l,k∈kids)-> -1<=left-> -1<=b9 l left d/\b9 l left d<=left:=by
  intro l
  induction l with
  |nil=>intro left d _ h;simp[b9,h]
  |cons k l uH=>
   intro left d hk h
   simp only[b9]
   split
   ·rename_i h0
    have h1:=ih k (hk k aJ) left d
    have h2:=uH (iu k left d) d (fun x hx=>hk x og) h1.1
    by_cases hl:1<=left
    ·have:=h1.2.1 hl;omega
    ·have:=h1.2.2 ae;omega
   ·omega
 simp only[iu]
 split
 ·rename_i h;refine⟨ae,fun h1=> ?_,fun _=>rfl⟩;omega
 ·rename_i h
  have:=hs kids (left - 1) (depth - 1) (fun _ h=>h) ae
  exact⟨this.1,fun _=>this.2,fun h=>ae⟩
theorem GP(l:List Tm)(left d:Int)(h: -1<=left): -1<=b9 l left d/\b9 l left d<=left:=by
 induction l generalizing left with
 |nil=>simp[b9,h]
 |cons k l uH=>
  simp only[b9]
  split
  ·have h1:=J5 k left d
   have h2:=uH (iu k left d) h1.1
   by_cases hl:1<=left
   ·have:=h1.2.1 hl;omega
   ·have:=h1.2.2 ae;omega
  ·omega
theorem n8(a b:List Tm)(left d:Int):b9 (a++b) left d=b9 b (b9 a left d) d:=by
 induction a generalizing left with
 |nil=>rfl
 |cons k a ih=>
  simp only[List.cons_append,b9]
  split
  ·exact ih _
  ·rename_i h;rw[oH (by omega)]
theorem Bx{l:List Tm}{i:Nat}{k:Tm}(hi:l[i]? =some k)(left d:Int)(h:0<=b9 (l.take i) left d):b9 (l.take (i+1)) left d=iu k (b9 (l.take i) left d) d:=by
 rw[List.take_add_one,hi,n8]
 simp[b9,h]
theorem Bz{l:List Tm}{i:Nat}(left d:Int)(h:b9 (l.take i) left d<0):b9 l left d=b9 (l.take i) left d:=by
 conv=>lhs;rw[<- List.take_append_drop i l]
 rw[n8,oH h]
@[reducible] def iO (cs:List V):Nat->ab:=aD (fun _=> .no) 0 (.row cs)
@[reducible] def Dr (cs ds:List V):Nat->ab:=aD (aD (fun _=> .no) 0 (.row cs)) 1 (.row ds)
theorem aT{cs:List V}(h:(ab.row cs).refs.all (fun r=>decide (r<1))=true):Good (iO cs) 1:=(Good.nil (nx:=1)).aD ae h
theorem ki{cs ds:List V}(h:(ab.row cs).refs.all (fun r=>decide (r<2))=true)(h2:(ab.row ds).refs.all (fun r=>decide (r<2))=true):Good (Dr cs ds) 2:=((Good.nil (nx:=2)).aD ae h).aD ae h2
theorem br.d1 {e:Nat->V}{so o:Nat->ab}{m:Nat}(l:List V)(hg:Good o 1)(hm:1<=m)(h0:so 0=o 0)(he:kU 1 e l 0):br 0 ⟨e,so,m⟩ ⟨a7 l,o,1⟩:=
 br.aR l (Nat.zero_le _) hm hg (fun id h=>by obtain rfl:id=0:=ae
                                             exact h0) he
theorem br.d2 {e:Nat->V}{so o:Nat->ab}{m:Nat}(l:List V)(hg:Good o 2)(hm:2<=m)(h0:so 0=o 0)(h1:so 1=o 1)(he:kU 2 e l 0):br 0 ⟨e,so,m⟩ ⟨a7 l,o,2⟩:=
 br.aR l (Nat.zero_le _) hm hg (fun id h=>by
  rcases(by omega:id=0\/id=1)with rfl|rfl
  ·exact h0
  ·exact h1) he
@[reducible] def Tm.row (t:Tm):List V:=[.d (.i t.op), .d (.i t.n), .d (.sl (t.kids.map Tm.d))]
theorem BA(t:Tm)(left depth:Int):iu t left depth=if left<1\/depth<1 then -1 else b9 t.kids (left - 1) (depth - 1):=by cases t;simp[iu,Tm.kids]
theorem EY:∀t:Tm,t.fits->∀left depth:Int, -1<=left/\left<=1000000-> -1<=depth/\depth<=1000000->aV Tryz.prog 86 [t.d, .i left, .i depth] (.ret [.i (iu t left depth)]):=by
 refine Tm.eY fun t ih hf left depth hl hd=> ?_
 have nX:=(Tm.bR _).1 hf
 refine aV.aF mix ac7 aJ ?_
 rw[c86]
 refine cI ?_
 refine ai (fun h1=> ?_) (fun h1=> ?_)
 ·refine cI ?_
  simp at h1
  rw[J4 h1]
 ·simp at h1
  refine cI ?_
  rw[wrap64 (n:=left - 1) (by omega) (by omega),BA,if_neg (by omega)]
  refine aB (fun k:Nat=>⟨a7 [.aa, .d (.i (b9 (t.kids.take k) (left - 1) (depth - 1))), .d (.i depth), .ptr 0 0, .aa, .aa, .aa, .d (.i k)],iO t.row,1⟩)
   (fun k=>k<=t.kids.length) (fun k=>t.kids.length - k) 0 (Nat.zero_le _) (br.d1 _ (aT rfl) ae rfl ?_) (fun k hk=> ?_)
  ·exact ct
  have hb:=GP (t.kids.take k) (left - 1) (depth - 1) ae
  refine cI ?_
  refine ai (fun h2=> ?_) (fun h2=> ?_)
  ·simp at h2
   obtain⟨x,hx⟩:∃x,t.kids[k]? =some x:=⟨t.kids[k],by simp[h2.1]⟩
   have iK:=List.mem_of_getElem? hx
   refine jN hx ?_
   rw[wrap64 (n:=depth - 1) (by omega) (by omega)]
   refine ay (ih x iK (nX.2 x iK) _ _ ae ae) rfl ?_
   refine cI ?_
   rw[<- Bx hx _ _ h2.2]
   refine aj (k+1) h2.1 ae (br.d1 _ (aT rfl) ae rfl ?_)
   exact ct
  ·refine cI ?_
   simp only[Bool.and_eq_false_iff,decide_eq_false_iff_not]at h2
   congr 3
   rcases h2 with h2|h2
   ·rw[List.take_of_length_le (by omega)]
   ·exact Bz _ _ ae
theorem Ui(s:List UInt8)(hs:s.length<=9223372036854775807):aV Tryz.prog 151 [.str s] (.ret [.bool (jz s)]):=by
 refine aV.aF mix aaG aJ ?_
 rw[aaF]
 refine cI ?_
 refine aB (fun k:Nat=>⟨a7 [.d (.str s), .aa, .aa, .d (.i k)],fun _=> .no,0⟩)
  (fun k=>k<=s.length/\(s.take k).all letterF=true) (fun k=>s.length - k) 0 ⟨Nat.zero_le _,aJ⟩ (br.d0 _ ?_) (fun k hk=> ?_)
 ·exact ct
 refine cI ?_
 refine ai (fun h2=> ?_) (fun h2=> ?_)
 ·simp at h2
  obtain⟨x,hx⟩:∃x,s[k]? =some x:=⟨s[k],by simp[h2]⟩
  refine jN hx ?_
  refine ai (fun h3=> ?_) (fun h3=> ?_)
  ·refine cI ?_
   have:jz s=false:=by
    have:s.all letterF=false:=by
     rw[List.all_eq_false]
     refine⟨x,List.mem_of_getElem? hx, ?_⟩
     simp only[letterF,h3];simp
    simp[jz,this]
   rw[this]
  ·refine cI ?_
   refine aj (k+1) ⟨h2, ?_⟩ ae (br.d0 _ ?_)
   ·rw[List.take_add_one,hx,List.all_append,hk.2]
    simp[letterF,h3]
   ·exact ct
 ·refine cI ?_
  refine ay (zW _ _ _) rfl ?_
  refine cI ?_
  simp at h2
  have:=hk.2
  rw[List.take_of_length_le (by omega)]at this
  simp[jz,this]
theorem EZ(l:List iT)(bs:List (List UInt8))(hl:l.length<=1000)(hb:bs.length<=1000)(hs:∀x∈l,x.name.length<=9223372036854775807):
 aV Tryz.prog 109 [.sl (l.map iT.d), .sl (bs.map .str)] (.ret [.sl (((bN l bs).getD []).map .str), .bool (bN l bs).isSome]):=by
 refine aV.aF mix Z0 aJ ?_
 rw[ZZ]
 refine cI ?_
 refine aB (fun k:Nat=>⟨a7 [.d (.sl (l.map iT.d)), .d (.sl ((bs++(l.take k).map (·.name)).map .str)), .aa, .aa, .aa, .aa, .d (.i k)],fun _=> .no,0⟩)
  (fun k=>k<=l.length/\bN l bs=bN (l.drop k) (bs++(l.take k).map (·.name))) (fun k=>l.length - k) 0 ⟨Nat.zero_le _,aJ⟩ (br.d0 _ ?_) (fun k hk=> ?_)
 ·simp only[List.take_zero,List.map_nil,List.append_nil]
  exact ct
 refine cI ?_
 refine ai (fun h2=> ?_) (fun h2=> ?_)
 ·simp at h2
  obtain⟨x,hx⟩:∃x,l[k]? =some x:=⟨l[k],by simp[h2]⟩
  have iK:=List.mem_of_getElem? hx
  have A2:l.drop k=x::l.drop (k+1):=by
   rw[List.drop_eq_getElem_cons h2]
   rw[List.getElem?_eq_getElem h2]at hx;injection hx with hx;rw[hx]
  generalize hB:bs++(l.take k).map (·.name)=B at*
  have hBl:B.length<=2000:=by rw[<- hB];simp;omega
  refine cI ?_
  refine aB (fun j:Nat=>⟨a7 [.d (.sl (l.map iT.d)), .d (.sl (B.map .str)), .aa, .aa, .aa, .aa, .d (.i k), .d (.i j)],fun _=> .no,0⟩)
   (fun j=>j<=B.length/\(B.take j).any (· ==x.name)=false) (fun j=>B.length - j) 0 ⟨Nat.zero_le _,aJ⟩ (br.d0 _ ?_) (fun j hj=> ?_)
  ·exact ct
  refine cI ?_
  refine ai (fun h3=> ?_) (fun h3=> ?_)
  ·simp at h3
   obtain⟨y,hy⟩:∃y,B[j]? =some y:=⟨B[j],by simp[h3]⟩
   simp+contextual only[go_sem,hx,hy]
   refine aO bO ?_
   refine cI ?_
   refine ai (fun h4=> ?_) (fun h4=> ?_)
   ·refine cI ?_
    have:bN l bs=none:=by
     rw[hk.2,A2,bN,if_pos]
     rw[List.any_eq_true]
     exact⟨y,List.mem_of_getElem? hy,h4⟩
    rw[this];rfl
   ·refine cI ?_
    refine aj (j+1) ⟨h3, ?_⟩ ae (br.d0 _ ?_)
    ·rw[List.take_add_one,hy,List.any_append,hj.2]
     simp only[Option.toList_some,List.any_cons,h4,List.any_nil,Bool.or_false]
    ·exact ct
  ·simp at h3
   have Uj:=hj.2
   rw[List.take_of_length_le (by omega)]at Uj
   refine jN hx ?_
   refine ay (Ui x.name (hs x iK)) rfl ?_
   refine jN hx ?_
   refine fC (eE [.bool (dE x.args 0 4)] ?_ ?_)
   ·refine cI ?_
    exact D0
   refine cI ?_
   refine ai (fun h4=> ?_) (fun h4=> ?_)
   ·refine cI ?_
    have:bN l bs=none:=by
     rw[hk.2,A2,bN,if_neg (by rw[Uj];exact Bool.false_ne_true),if_pos h4]
    rw[this];rfl
   ·have e1:B.length<=140737488355328:=ae
    have e2:B.length*16<=140737488355328:=ae
    have e3:B.length<=140737488355327:=ae
    have e4:(B.length+1)*16<=140737488355328:=ae
    simp+contextual only[go_sem,hx,e1,e2,e3,e4]
    refine aO bO ?_
    refine cI ?_
    have hn:bN l bs=bN (l.drop (k+1)) (bs++(l.take (k+1)).map (·.name)):=by
     rw[hk.2,A2,bN,if_neg (by rw[Uj];exact Bool.false_ne_true),if_neg (by rw[h4];exact Bool.false_ne_true), <- hB,List.take_add_one,hx]
     simp
    refine aj (k+1) ⟨h2,hn⟩ ae (br.aa9 (fun _=>True) 0 _ (Nat.le_refl _) lt0 (fun _ _=>rfl) (fun _ _ _=>rfl) ?_)
    have hB2:(bs++(l.take (k+1)).map (·.name)).map D.str=B.map D.str++[D.str x.name]:=by
     rw[<- hB,List.take_add_one,hx];simp
    rw[hB2]
    exact HN
 ·refine cI ?_
  simp at h2
  have:bN l bs=some (bs++l.map (·.name)):=by
   rw[hk.2,List.drop_eq_nil_of_le (by omega),bN,List.take_of_length_le (by omega)]
  rw[this,List.take_of_length_le (by omega)]
  rfl
theorem Uk(a b:List UInt8)(m n:Int):oR Tryz.prog 100 102 (.agg [.str a, .i m]) (.agg [.str b, .i n])=some (a==b&&m==n):=by
 have h1:bD Tryz.prog 102=some (.struct [(9,0),(3,1)]):=ag
 have h2:bD Tryz.prog 9=some .str:=ag
 have h3:bD Tryz.prog 3=some .int:=ag
 have h4:cE Tryz.prog 9=some false:=ag
 have h5:cE Tryz.prog 3=some false:=ag
 simp[oR,h1,h2,h3,h4,h5,vZ,OR,gB,FV]
@[go_sem] theorem adg (o:Nat->ab) (nH:Bool) (a b:List UInt8) (m n:Int):vh Tryz.prog o 102 nH (.d (.agg [.str a, .i m])) (.d (.agg [.str b, .i n]))=some (.d (.bool (a==b&&m==n))):=by
  obtain⟨fs,h⟩:∃fs,Tryz.prog.underlying 102=some (.struct fs):=structOf ag
  have h2:Tryz.prog.eqGuardType Tryz.prog.depth 102=false:=ag
  unfold vh
  rw[h]
  dsimp only
  rw[if_pos h2,Uk]
  rfl
theorem GQ{l:List iT}{bs B:List (List UInt8)}(h:bN l bs=some B):B=bs++l.map (·.name):=by
 induction l generalizing bs with
 |nil=>simp[bN]at h;simp[h]
 |cons x l ih=>
  simp only[bN]at h
  split at h
  ·cases h
  ·split at h
   ·cases h
   ·rw[ih h];simp
structure bC.Fits (s:bC):Prop where
 lc:s.cons.length<=9223372036854775807
 lf:s.bG.length<=9223372036854775807
 nc:∀x∈s.cons,x.name.length<=9223372036854775807
 nf:∀x∈s.bG,x.name.length<=9223372036854775807
theorem abc(s:bC)(hs:s.Fits):aV Tryz.prog 77 [s.d] (.ret [.bool (iY s)]):=by
 refine aV.aF mix ac5 aJ ?_
 rw[c77]
 refine cI ?_
 refine ay (zW _ _ _) rfl ?_
 refine cI ?_
 cases h1:(!dE s.cons.length 2 12||decide (8<(s.bG.length:Int)))with
 |true=>
  refine jN h1 ?_
  simp only[iY,h1,if_true]
 |false=>
  simp[dE]at h1
  obtain⟨a,b,r,hc⟩:∃a b r,s.cons=a::b::r:=by
   match h:s.cons with
   |[]=>exact D1
   |[a]=>exact D1
   |a::b::r=>exact⟨a,b,r,rfl⟩
  have oS:(!dE s.cons.length 2 12||decide (8<(s.bG.length:Int)))=false:=by simp[dE];omega
  simp+contextual only[go_sem,oS,hc]
  have GR:iY s=if(!lZ a fB|| !lZ b tB)=true then false else match bN s.cons []with
   |none=>false
   |some l=>(bN s.bG l).isSome:=by
   unfold iY
   rw[if_neg (by rw[oS];exact Bool.false_ne_true),hc]
   dsimp only
   rfl
  refine ai (fun h2=> ?_) (fun h2=> ?_)
  ·refine cI ?_
   have sq:(!lZ a fB|| !lZ b tB)=true:=h2
   rw[GR,if_pos sq]
  ·refine jN hc ?_
   have hl:(a::b::r).length<=1000:=by rw[<- hc];omega
   have hnm:=EZ (a::b::r) [] hl aJ (by rw[<- hc];exact hs.nc)
   simp only[List.map_cons,List.map_nil]at hnm
   refine aW hnm ?_
   have sq:(!lZ a fB|| !lZ b tB)=false:=h2
   rw[GR,if_neg (by rw[sq];exact Bool.false_ne_true),hc]
   cases hn:bN (a::b::r) []with
   |none=>simp+contextual only[go_sem,hn]
   |some B=>
    refine jN hn ?_
    have hB:B.length<=1000:=by
     have:=GQ hn
     rw[this];simp at hl|-;omega
    have adh:=EZ s.bG B ae hB hs.nf
    refine aW adh ?_
    simp+contextual only[go_sem]
end Go.Proofs.YtnkamdiiakdkgaaGreat
