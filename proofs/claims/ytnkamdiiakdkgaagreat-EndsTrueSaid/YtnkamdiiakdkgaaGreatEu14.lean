/-
  A PART OF THE PROOF. Conditions: none.
-/
import Derived.Test.YtnkamdiiakdkgaaGreatEu13
set_option linter.unusedSimpArgs false
set_option linter.unusedVariables false
namespace Go.Proofs.YtnkamdiiakdkgaaGreat
theorem mix:Tryz.prog.follows .mixedOrders=true:=ag
def zn:Tr FD:= .e fun _=> .no
theorem zt{f:Nat->Nat}:Tr.Ek (fun(g:Nat) (d:FD)=>d.Ok Tryz.prog g) zn f:=fun _=>trivial
def aan:Tr FD:=
 (.n .no (.n .no (.n .no (.n .no (.n (.fn 45 c15 [.tmp 4]) (.n .no (.n .no (.n (.fn 15 S1 [.tmp 6]) zn zn) zn) (.n (.fn 5 c95 [.cell 2 55]) (.n (.fn 13 Tf [.tmp 4]) zn zn) zn)) (.n (.fn 12 c47 [.tmp 3]) (.n .no (.n (.fn 133 ZI [.tmp 6]) zn zn) zn) (.n .no (.n (.fn 17 Tp [.tmp 6]) zn zn) zn))) (.n .no (.n (.fn 16 c39 [.cell 0 27]) (.n (.fn 19 c71 [.tmp 2]) (.n (.fn 27 S9 [.tmp 2]) zn zn) zn) (.n (.fn 134 Y4 []) (.n (.fn 15 aad [.tmp 6]) zn zn) zn)) (.n (.fn 41 c55 [.tmp 4, .tmp 5, .tmp 6]) zn (.n .no (.n (.fn 14 Tx [.tmp 4]) zn zn) zn)))) (.n (.fn 15 c11 [.tmp 2, .tmp 3]) (.n (.fn 10 c19 [.tmp 2, .tmp 3, .tmp 4]) (.n (.fn 8 c35 [.cell 0 27]) (.n (.fn 30 c67 [.tmp 2]) (.n (.fn 17 S5 [.tmp 3]) zn zn) zn) (.n (.fn 8 c99 [.tmp 3]) (.n (.fn 9 Tj [.tmp 4]) zn zn) zn)) (.n .no (.n .no (.n (.fn 19 ZQ [.tmp 2]) zn zn) zn) (.n .no (.n (.fn 19 Tu [.tmp 4]) zn zn) zn))) (.n .no (.n .no (.n (.fn 12 c75 [.tmp 4]) (.n (.fn 56 ZA []) zn zn) zn) (.n (.fn 8 SY [.tmp 3]) (.n (.fn 18 Tk [.tmp 4]) zn zn) zn)) (.n .no zn (.n .no (.n (.fn 14 TC [.tmp 4]) zn zn) zn))))) (.n .no (.n .no (.n .no (.n (.fn 26 c33 [.tmp 4]) (.n .no (.n (.fn 9 S3 [.tmp 4]) zn zn) zn) (.n (.fn 46 c97 [.tmp 2]) (.n (.fn 8 Th [.tmp 3]) zn zn) zn)) (.n (.fn 50 c49 [.cell 4 90]) (.n (.fn 9 c81 [.tmp 4]) (.n (.fn 84 ZM [.tmp 8]) zn zn) zn) (.n .no (.n (.fn 8 Ts []) zn zn) zn))) (.n .no (.n (.fn 35 c41 [.cell 2 81]) (.n (.fn 11 c73 []) (.n (.fn 52 Tb [.tmp 6]) zn zn) zn) (.n (.fn 24 SW [.tmp 4]) (.n (.fn 6 aah [.tmp 2]) zn zn) zn)) (.n (.fn 5 c57 [.tmp 2]) zn (.n .no (.n (.fn 27 Tz [.tmp 4]) zn zn) zn)))) (.n .no (.n .no (.n (.fn 4 c37 [.cell 0 55]) (.n .no (.n (.fn 9 S7 [.tmp 4]) zn zn) zn) (.n (.fn 9 SU []) (.n (.fn 7 Z9 [.tmp 2]) zn zn) zn)) (.n .no (.n .no (.n (.fn 32 Tc [.tmp 6]) zn zn) zn) (.n .no (.n (.fn 19 Tv [.cell 0 215]) zn zn) zn))) (.n .no (.n (.fn 26 c45 [.tmp 4]) (.n .no (.n (.fn 57 ZE [.tmp 6, .tmp 7]) zn zn) zn) (.n .no (.n (.fn 39 Tn [.cell 4 4]) zn zn) zn)) (.n .no (.n .no (.n (.fn 36 Z5 [.tmp 2]) zn zn) zn) (.n (.fn 24 SZ [.tmp 3]) zn zn)))))) (.n .no (.n .no (.n .no (.n (.fn 84 c16 [.tmp 4, .tmp 5]) (.n (.fn 30 c32 [.tmp 4, .tmp 5]) (.n .no (.n (.fn 18 S2 [.tmp 4]) zn zn) zn) (.n (.fn 8 c96 [.cell 4 55]) (.n (.fn 4 Tg [.tmp 2]) zn zn) zn)) (.n (.fn 65 c48 [.cell 2 90, .tmp 3]) (.n .no (.n (.fn 17 ZK [.tmp 4]) zn zn) zn) (.n .no (.n (.fn 10 Tq [.tmp 4]) zn zn) zn))) (.n .no (.n (.fn 6 c40 [.tmp 2]) (.n (.fn 4 c72 [.tmp 2]) (.n (.fn 18 Ta [.tmp 2]) zn zn) zn) (.n (.fn 8 Y6 [.tmp 2]) (.n (.fn 36 aaf [.tmp 10]) zn zn) zn)) (.n (.fn 3 c56 [.tmp 2]) zn (.n (.fn 125 Zq []) (.n (.fn 27 Ty [.tmp 4]) zn zn) zn)))) (.n .no (.n (.fn 10 c20 [.tmp 2, .tmp 3, .tmp 4]) (.n (.fn 17 c36 [.cell 2 27]) (.n .no (.n (.fn 43 S6 [.cell 4 4, .cell 5 31]) zn zn) zn) (.n (.fn 121 SS [.tmp 4]) (.n (.fn 76 Z7 []) zn zn) zn)) (.n .no (.n (.dfr 71 YZ c84 119 11 [.tmp 4, .tmp 5, .tmp 6] [.cell 4 4, .cell 5 37, .cell 6 31] 12 6 6 YQ) (.n (.fn 25 ZS [.tmp 2]) zn zn) zn) (.n .no (.n (.fn 28 aal [.tmp 8, .tmp 9]) zn zn) zn))) (.n .no (.n .no (.n (.fn 8 c76 [.tmp 2]) (.n (.fn 65 ZC []) zn zn) zn) (.n .no (.n (.fn 7 Tl [.tmp 3]) zn zn) zn)) (.n .no (.n .no (.n (.fn 42 Z3 []) zn zn) zn) (.n .no (.n (.fn 14 TD [.tmp 4]) zn zn) zn))))) (.n .no (.n (.fn 178 c10 [.tmp 0]) (.n .no (.n .no (.n .no (.n (.fn 8 S4 [.tmp 3]) zn zn) zn) (.n (.fn 9 c98 [.tmp 4]) (.n (.fn 4 Ti [.tmp 2]) zn zn) zn)) (.n (.fn 68 c50 [.tmp 2]) (.n (.fn 8 c82 [.tmp 3]) (.n (.fn 168 ZO [.tmp 8, .tmp 9]) zn zn) zn) (.n .no (.n (.fn 14 Tt [.tmp 4]) zn zn) zn))) (.n .no (.n (.fn 101 c42 [.tmp 2]) (.n (.fn 61 c74 [.tmp 2]) (.n (.fn 49 Zy []) zn zn) zn) (.n (.fn 9 SX [.tmp 4]) (.n (.fn 27 aaj [.tmp 4]) zn zn) zn)) (.n .no zn (.n .no (.n (.fn 27 TA [.tmp 4]) zn zn) zn)))) (.n .no (.n .no (.n (.fn 5 c38 [.cell 2 55]) (.n (.fn 76 c70 [.cell 0 27]) (.n (.fn 10 S8 [.tmp 4]) zn zn) zn) (.n (.fn 46 SV [.tmp 4]) (.n (.fn 33 aab [.tmp 2]) zn zn) zn)) (.n .no (.n .no (.n (.fn 19 Td [.tmp 4]) zn zn) zn) (.n (.fn 19 Zo [.tmp 4]) (.n (.fn 14 Tw [.tmp 4]) zn zn) zn))) (.n .no (.n (.fn 9 c46 [.tmp 4]) (.n .no (.n (.fn 32 ZG []) zn zn) zn) (.n .no (.n (.fn 8 To []) zn zn) zn)) (.n .no (.n (.fn 8 c94 [.cell 4 55]) (.n (.fn 19 Te [.tmp 4]) zn zn) zn) (.n (.fn 28 S0 [.tmp 2]) zn zn)))))))
noncomputable def bM:Nat->FD:=aan.get
theorem fY:∀g,(bM g).Ok Tryz.prog g:=
 Tr.x7 (p:=fun g d=>d.Ok Tryz.prog g) (f:=fun g=>g) aan
   ⟨trivial,⟨trivial,⟨trivial,⟨trivial,⟨abY,⟨trivial,⟨trivial,⟨PB,zt,zt⟩,zt⟩,⟨acQ,⟨PQ,zt,zt⟩,zt⟩⟩,⟨acn,⟨trivial,⟨ZJ,zt,zt⟩,zt⟩,⟨trivial,⟨PZ,zt,zt⟩,zt⟩⟩⟩,⟨trivial,⟨aci,⟨YW,⟨PJ,zt,zt⟩,zt⟩,⟨Y5,⟨aae,zt,zt⟩,zt⟩⟩,⟨acr,zt,⟨trivial,⟨Qb,zt,zt⟩,zt⟩⟩⟩⟩,⟨YR,⟨ab0,⟨ace,⟨YV,⟨PF,zt,zt⟩,zt⟩,⟨Y3,⟨PU,zt,zt⟩,zt⟩⟩,⟨trivial,⟨trivial,⟨ZR,zt,zt⟩,zt⟩,⟨trivial,⟨P8,zt,zt⟩,zt⟩⟩⟩,⟨trivial,⟨trivial,⟨YY,⟨ZB,zt,zt⟩,zt⟩,⟨Py,⟨PV,zt,zt⟩,zt⟩⟩,⟨trivial,zt,⟨trivial,⟨Qf,zt,zt⟩,zt⟩⟩⟩⟩⟩,⟨trivial,⟨trivial,⟨trivial,⟨acb,⟨trivial,⟨PD,zt,zt⟩,zt⟩,⟨Y1,⟨PS,zt,zt⟩,zt⟩⟩,⟨acp,⟨acJ,⟨ZN,zt,zt⟩,zt⟩,⟨trivial,⟨P6,zt,zt⟩,zt⟩⟩⟩,⟨trivial,⟨YT,⟨acF,⟨PL,zt,zt⟩,zt⟩,⟨Pw,⟨aai,zt,zt⟩,zt⟩⟩,⟨acu,zt,⟨trivial,⟨Qd,zt,zt⟩,zt⟩⟩⟩⟩,⟨trivial,⟨trivial,⟨acg,⟨trivial,⟨PH,zt,zt⟩,zt⟩,⟨Pu,⟨aaa,zt,zt⟩,zt⟩⟩,⟨trivial,⟨trivial,⟨PM,zt,zt⟩,zt⟩,⟨trivial,⟨P9,zt,zt⟩,zt⟩⟩⟩,⟨trivial,⟨ack,⟨trivial,⟨ZF,zt,zt⟩,zt⟩,⟨trivial,⟨PX,zt,zt⟩,zt⟩⟩,⟨trivial,⟨trivial,⟨Z6,zt,zt⟩,zt⟩,⟨Pz,zt,zt⟩⟩⟩⟩⟩⟩,⟨trivial,⟨trivial,⟨trivial,⟨abZ,⟨aca,⟨trivial,⟨PC,zt,zt⟩,zt⟩,⟨acR,⟨PR,zt,zt⟩,zt⟩⟩,⟨aco,⟨trivial,⟨ZL,zt,zt⟩,zt⟩,⟨trivial,⟨P5,zt,zt⟩,zt⟩⟩⟩,⟨trivial,⟨YS,⟨YX,⟨PK,zt,zt⟩,zt⟩,⟨Y7,⟨aag,zt,zt⟩,zt⟩⟩,⟨acs,zt,⟨Zr,⟨Qc,zt,zt⟩,zt⟩⟩⟩⟩,⟨trivial,⟨ab1,⟨acf,⟨trivial,⟨PG,zt,zt⟩,zt⟩,⟨Pt,⟨Z8,zt,zt⟩,zt⟩⟩,⟨trivial,⟨⟨Y0,SQ⟩,⟨ZT,zt,zt⟩,zt⟩,⟨trivial,⟨aam,zt,zt⟩,zt⟩⟩⟩,⟨trivial,⟨trivial,⟨SR,⟨ZD,zt,zt⟩,zt⟩,⟨trivial,⟨PW,zt,zt⟩,zt⟩⟩,⟨trivial,⟨trivial,⟨Z4,zt,zt⟩,zt⟩,⟨trivial,⟨Qg,zt,zt⟩,zt⟩⟩⟩⟩⟩,⟨trivial,⟨abV,⟨trivial,⟨trivial,⟨trivial,⟨PE,zt,zt⟩,zt⟩,⟨Y2,⟨PT,zt,zt⟩,zt⟩⟩,⟨acq,⟨acK,⟨ZP,zt,zt⟩,zt⟩,⟨trivial,⟨P7,zt,zt⟩,zt⟩⟩⟩,⟨trivial,⟨YU,⟨acG,⟨Zz,zt,zt⟩,zt⟩,⟨Px,⟨aak,zt,zt⟩,zt⟩⟩,⟨trivial,zt,⟨trivial,⟨Qe,zt,zt⟩,zt⟩⟩⟩⟩,⟨trivial,⟨trivial,⟨ach,⟨acE,⟨PI,zt,zt⟩,zt⟩,⟨Pv,⟨aac,zt,zt⟩,zt⟩⟩,⟨trivial,⟨trivial,⟨PN,zt,zt⟩,zt⟩,⟨Zp,⟨Qa,zt,zt⟩,zt⟩⟩⟩,⟨trivial,⟨acm,⟨trivial,⟨ZH,zt,zt⟩,zt⟩,⟨trivial,⟨PY,zt,zt⟩,zt⟩⟩,⟨trivial,⟨acP,⟨PO,zt,zt⟩,zt⟩,⟨PA,zt,zt⟩⟩⟩⟩⟩⟩⟩
@[go_sem] theorem cellsOf_3:Tryz.prog.cellsOf 3=1:=ag
@[go_sem] theorem bytesOf_3:Tryz.prog.bytesOf 3=8:=ag
@[go_sem] theorem aggT_3:cS Tryz.prog 3=some false:=ag
@[go_sem] theorem infoT_3:(Tryz.prog.info? 3).isSome=true:=ag
@[go_sem] theorem undT_3:Tryz.prog.underlying 3=some (.int .i64):=ag
@[go_sem] theorem eqShape_3:bP Tryz.prog 3=some .int:=ag
@[go_sem] theorem zeroT_3:cn Tryz.prog 3=some [.d (.int .i64 0)]:=ag
@[go_sem] theorem zeroV_3:zeroV Tryz.prog 3=some (.d (.int .i64 0)):=ag
@[go_sem] theorem cellsOf_4:Tryz.prog.cellsOf 4=1:=ag
@[go_sem] theorem aggT_4:cS Tryz.prog 4=some false:=ag
@[go_sem] theorem infoT_4:(Tryz.prog.info? 4).isSome=true:=ag
@[go_sem] theorem zeroT_4:cn Tryz.prog 4=some [.d (.bool false)]:=ag
@[go_sem] theorem zeroV_4:zeroV Tryz.prog 4=some (.d (.bool false)):=ag
@[go_sem] theorem cellsOf_9:Tryz.prog.cellsOf 9=1:=ag
@[go_sem] theorem bytesOf_9:Tryz.prog.bytesOf 9=16:=ag
@[go_sem] theorem aggT_9:cS Tryz.prog 9=some false:=ag
@[go_sem] theorem undT_9:Tryz.prog.underlying 9=some .string:=ag
@[go_sem] theorem eqShape_9:bP Tryz.prog 9=some .str:=ag
@[go_sem] theorem zeroT_9:cn Tryz.prog 9=some [.d (.str [])]:=ag
@[go_sem] theorem sliceT_22:bQ Tryz.prog 22=some 102:=ag
@[go_sem] theorem aggT_22:cS Tryz.prog 22=some false:=ag
@[go_sem] theorem undT_22:Tryz.prog.underlying 22=some (.slice 102):=ag
@[go_sem] theorem cellsOf_24:Tryz.prog.cellsOf 24=2:=ag
@[go_sem] theorem aggT_24:cS Tryz.prog 24=some true:=ag
@[go_sem] theorem sliceT_25:bQ Tryz.prog 25=some 57:=ag
@[go_sem] theorem aggT_25:cS Tryz.prog 25=some false:=ag
@[go_sem] theorem undT_25:Tryz.prog.underlying 25=some (.slice 57):=ag
@[go_sem] theorem cellsOf_27:Tryz.prog.cellsOf 27=3:=ag
@[go_sem] theorem aggT_27:cS Tryz.prog 27=some true:=ag
@[go_sem] theorem cellsOf_30:Tryz.prog.cellsOf 30=1:=ag
@[go_sem] theorem sliceT_30:bQ Tryz.prog 30=some 40:=ag
@[go_sem] theorem aggT_30:cS Tryz.prog 30=some false:=ag
@[go_sem] theorem intT_30:rN Tryz.prog 30=none:=ag
@[go_sem] theorem infoT_30:(Tryz.prog.info? 30).isSome=true:=ag
@[go_sem] theorem undT_30:Tryz.prog.underlying 30=some (.slice 40):=ag
@[go_sem] theorem zeroT_30:cn Tryz.prog 30=some [.bw]:=ag
@[go_sem] theorem cellsOf_31:Tryz.prog.cellsOf 31=1:=ag
@[go_sem] theorem aggT_31:cS Tryz.prog 31=some false:=ag
@[go_sem] theorem infoT_31:(Tryz.prog.info? 31).isSome=true:=ag
@[go_sem] theorem zeroT_31:cn Tryz.prog 31=some [.d (.int .i64 0)]:=ag
@[go_sem] theorem cellsOf_37:Tryz.prog.cellsOf 37=1:=ag
@[go_sem] theorem sliceT_37:bQ Tryz.prog 37=some 3:=ag
@[go_sem] theorem aggT_37:cS Tryz.prog 37=some false:=ag
@[go_sem] theorem intT_37:rN Tryz.prog 37=none:=ag
@[go_sem] theorem infoT_37:(Tryz.prog.info? 37).isSome=true:=ag
@[go_sem] theorem undT_37:Tryz.prog.underlying 37=some (.slice 3):=ag
@[go_sem] theorem zeroT_37:cn Tryz.prog 37=some [.bw]:=ag
@[go_sem] theorem cellsOf_38:Tryz.prog.cellsOf 38=1:=ag
@[go_sem] theorem sliceT_38:bQ Tryz.prog 38=some 64:=ag
@[go_sem] theorem aggT_38:cS Tryz.prog 38=some false:=ag
@[go_sem] theorem intT_38:rN Tryz.prog 38=none:=ag
@[go_sem] theorem infoT_38:(Tryz.prog.info? 38).isSome=true:=ag
@[go_sem] theorem undT_38:Tryz.prog.underlying 38=some (.slice 64):=ag
@[go_sem] theorem cellsOf_40:Tryz.prog.cellsOf 40=6:=ag
@[go_sem] theorem bytesOf_40:Tryz.prog.bytesOf 40=80:=ag
@[go_sem] theorem aggT_40:cS Tryz.prog 40=some true:=ag
@[go_sem] theorem infoT_40:(Tryz.prog.info? 40).isSome=true:=ag
@[go_sem] theorem zeroT_40:cn Tryz.prog 40=some [.d (.int .i64 0), .d (.int .i64 0), .d (.int .i64 0), .bw, .d (.bool false), .bw]:=ag
@[go_sem] theorem placesT_40:dW Tryz.prog 40=some [(0,1),(1,1),(2,1),(3,1),(4,1),(5,1)]:=ag
@[go_sem] theorem cellsOf_49:Tryz.prog.cellsOf 49=1:=ag
@[go_sem] theorem sliceT_49:bQ Tryz.prog 49=some 55:=ag
@[go_sem] theorem aggT_49:cS Tryz.prog 49=some false:=ag
@[go_sem] theorem intT_49:rN Tryz.prog 49=none:=ag
@[go_sem] theorem infoT_49:(Tryz.prog.info? 49).isSome=true:=ag
@[go_sem] theorem undT_49:Tryz.prog.underlying 49=some (.slice 55):=ag
@[go_sem] theorem aggT_53:cS Tryz.prog 53=some false:=ag
@[go_sem] theorem undT_53:Tryz.prog.underlying 53=some (.int .i64):=ag
@[go_sem] theorem cellsOf_55:Tryz.prog.cellsOf 55=3:=ag
@[go_sem] theorem bytesOf_55:Tryz.prog.bytesOf 55=40:=ag
@[go_sem] theorem aggT_55:cS Tryz.prog 55=some true:=ag
@[go_sem] theorem infoT_55:(Tryz.prog.info? 55).isSome=true:=ag
@[go_sem] theorem zeroT_55:cn Tryz.prog 55=some [.d (.int .i64 0), .d (.int .i64 0), .bw]:=ag
@[go_sem] theorem placesT_55:dW Tryz.prog 55=some [(0,1),(1,1),(2,1)]:=ag
@[go_sem] theorem cellsOf_57:Tryz.prog.cellsOf 57=6:=ag
@[go_sem] theorem aggT_57:cS Tryz.prog 57=some true:=ag
@[go_sem] theorem infoT_57:(Tryz.prog.info? 57).isSome=true:=ag
@[go_sem] theorem zeroT_57:cn Tryz.prog 57=some [.d (.int .i64 0), .bw, .d (.int .i64 0), .d (.int .i64 0), .bw, .d (.int .i64 0)]:=ag
@[go_sem] theorem sliceT_58:bQ Tryz.prog 58=some 109:=ag
@[go_sem] theorem intT_58:rN Tryz.prog 58=none:=ag
@[go_sem] theorem undT_58:Tryz.prog.underlying 58=some (.slice 109):=ag
@[go_sem] theorem cellsOf_64:Tryz.prog.cellsOf 64=3:=ag
@[go_sem] theorem bytesOf_64:Tryz.prog.bytesOf 64=24:=ag
@[go_sem] theorem aggT_64:cS Tryz.prog 64=some true:=ag
@[go_sem] theorem infoT_64:(Tryz.prog.info? 64).isSome=true:=ag
@[go_sem] theorem zeroT_64:cn Tryz.prog 64=some [.d (.int .i64 0), .d (.int .i64 0), .d (.bool false)]:=ag
@[go_sem] theorem placesT_64:dW Tryz.prog 64=some [(0,1),(1,1),(2,1)]:=ag
@[go_sem] theorem cellsOf_81:Tryz.prog.cellsOf 81=4:=ag
@[go_sem] theorem aggT_81:cS Tryz.prog 81=some true:=ag
@[go_sem] theorem infoT_81:(Tryz.prog.info? 81).isSome=true:=ag
@[go_sem] theorem zeroT_81:cn Tryz.prog 81=some [.bw, .bw, .bw, .bw]:=ag
@[go_sem] theorem placesT_81:dW Tryz.prog 81=some [(0,3),(3,1)]:=ag
@[go_sem] theorem cellsOf_88:Tryz.prog.cellsOf 88=4:=ag
@[go_sem] theorem sliceT_88:bQ Tryz.prog 88=none:=ag
@[go_sem] theorem arrT_88:uS Tryz.prog 88=some (4,3):=ag
@[go_sem] theorem aggT_88:cS Tryz.prog 88=some true:=ag
@[go_sem] theorem infoT_88:(Tryz.prog.info? 88).isSome=true:=ag
@[go_sem] theorem undT_88:Tryz.prog.underlying 88=some (.array 4 3):=ag
@[go_sem] theorem cellsOf_90:Tryz.prog.cellsOf 90=16:=ag
@[go_sem] theorem sliceT_90:bQ Tryz.prog 90=none:=ag
@[go_sem] theorem arrT_90:uS Tryz.prog 90=some (4,88):=ag
@[go_sem] theorem aggT_90:cS Tryz.prog 90=some true:=ag
@[go_sem] theorem zeroT_90:cn Tryz.prog 90=some [.d (.int .i64 0), .d (.int .i64 0), .d (.int .i64 0), .d (.int .i64 0), .d (.int .i64 0), .d (.int .i64 0), .d (.int .i64 0), .d (.int .i64 0), .d (.int .i64 0), .d (.int .i64 0), .d (.int .i64 0), .d (.int .i64 0), .d (.int .i64 0), .d (.int .i64 0), .d (.int .i64 0), .d (.int .i64 0)]:=ag
@[go_sem] theorem cellsOf_102:Tryz.prog.cellsOf 102=2:=ag
@[go_sem] theorem aggT_102:cS Tryz.prog 102=some true:=ag
@[go_sem] theorem infoT_102:(Tryz.prog.info? 102).isSome=true:=ag
@[go_sem] theorem zeroT_102:cn Tryz.prog 102=some [.d (.str []), .d (.int .i64 0)]:=ag
@[go_sem] theorem placesT_102:dW Tryz.prog 102=some [(0,1),(1,1)]:=ag
@[go_sem] theorem cellsOf_104:Tryz.prog.cellsOf 104=1:=ag
@[go_sem] theorem aggT_104:cS Tryz.prog 104=some false:=ag
@[go_sem] theorem infoT_104:(Tryz.prog.info? 104).isSome=true:=ag
@[go_sem] theorem zeroT_104:cn Tryz.prog 104=some [.d .bY]:=ag
@[go_sem] theorem cellsOf_109:Tryz.prog.cellsOf 109=4:=ag
@[go_sem] theorem bytesOf_109:Tryz.prog.bytesOf 109=48:=ag
@[go_sem] theorem infoT_109:(Tryz.prog.info? 109).isSome=true:=ag
@[go_sem] theorem zeroT_109:cn Tryz.prog 109=some [.d (.int .i64 0), .d (.int .i64 0), .d (.int .i64 0), .bw]:=ag
@[go_sem] theorem placesT_109:dW Tryz.prog 109=some [(0,1),(1,3)]:=ag
@[go_sem] theorem cellsOf_116:Tryz.prog.cellsOf 116=5:=ag
@[go_sem] theorem aggT_116:cS Tryz.prog 116=some true:=ag
@[go_sem] theorem infoT_116:(Tryz.prog.info? 116).isSome=true:=ag
@[go_sem] theorem zeroT_116:cn Tryz.prog 116=some [.d (.int .i64 0), .d (.int .i64 0), .bw, .bw, .d (.bool false)]:=ag
@[go_sem] theorem placesT_116:dW Tryz.prog 116=some [(0,3),(3,1),(4,1)]:=ag
@[go_sem] theorem aggT_140:cS Tryz.prog 140=some false:=ag
@[go_sem] theorem cellsOf_141:Tryz.prog.cellsOf 141=1:=ag
@[go_sem] theorem aggT_141:cS Tryz.prog 141=some false:=ag
@[go_sem] theorem infoT_141:(Tryz.prog.info? 141).isSome=true:=ag
@[go_sem] theorem zeroT_141:cn Tryz.prog 141=some [.d .bY]:=ag
@[go_sem] theorem sliceT_146:bQ Tryz.prog 146=some 9:=ag
@[go_sem] theorem intT_146:rN Tryz.prog 146=none:=ag
@[go_sem] theorem undT_146:Tryz.prog.underlying 146=some (.slice 9):=ag
@[go_sem] theorem cellsOf_149:Tryz.prog.cellsOf 149=1:=ag
@[go_sem] theorem aggT_149:cS Tryz.prog 149=some false:=ag
@[go_sem] theorem infoT_149:(Tryz.prog.info? 149).isSome=true:=ag
@[go_sem] theorem zeroT_149:cn Tryz.prog 149=some [.d .bY]:=ag
@[go_sem] theorem cellsOf_166:Tryz.prog.cellsOf 166=1:=ag
@[go_sem] theorem aggT_166:cS Tryz.prog 166=some false:=ag
@[go_sem] theorem infoT_166:(Tryz.prog.info? 166).isSome=true:=ag
@[go_sem] theorem mapT_166:qf Tryz.prog 166=some (9,4):=ag
@[go_sem] theorem zeroT_166:cn Tryz.prog 166=some [.d .gy]:=ag
@[go_sem] theorem cellsOf_172:Tryz.prog.cellsOf 172=1:=ag
@[go_sem] theorem aggT_172:cS Tryz.prog 172=some false:=ag
@[go_sem] theorem infoT_172:(Tryz.prog.info? 172).isSome=true:=ag
@[go_sem] theorem undT_172:Tryz.prog.underlying 172=some (.map 3 3):=ag
@[go_sem] theorem mapT_172:qf Tryz.prog 172=some (3,3):=ag
@[go_sem] theorem zeroT_172:cn Tryz.prog 172=some [.d .gy]:=ag
@[go_sem] theorem cellsOf_198:Tryz.prog.cellsOf 198=1:=ag
@[go_sem] theorem aggT_198:cS Tryz.prog 198=some false:=ag
@[go_sem] theorem infoT_198:(Tryz.prog.info? 198).isSome=true:=ag
@[go_sem] theorem mapT_198:qf Tryz.prog 198=some (3,4):=ag
@[go_sem] theorem zeroT_198:cn Tryz.prog 198=some [.d .gy]:=ag
@[go_sem] theorem cellsOf_214:Tryz.prog.cellsOf 214=1:=ag
@[go_sem] theorem aggT_214:cS Tryz.prog 214=some false:=ag
@[go_sem] theorem infoT_214:(Tryz.prog.info? 214).isSome=true:=ag
@[go_sem] theorem cellsOf_215:Tryz.prog.cellsOf 215=16:=ag
@[go_sem] theorem sliceT_215:bQ Tryz.prog 215=none:=ag
@[go_sem] theorem arrT_215:uS Tryz.prog 215=some (16,214):=ag
@[go_sem] theorem aggT_215:cS Tryz.prog 215=some true:=ag
@[go_sem] theorem infoT_215:(Tryz.prog.info? 215).isSome=true:=ag
@[go_sem] theorem zeroT_215:cn Tryz.prog 215=some [.d .bY, .d .bY, .d .bY, .d .bY, .d .bY, .d .bY, .d .bY, .d .bY, .d .bY, .d .bY, .d .bY, .d .bY, .d .bY, .d .bY, .d .bY, .d .bY]:=ag
@[go_sem] theorem placesT_215:dW Tryz.prog 215=some [(0,1),(1,1),(2,1),(3,1),(4,1),(5,1),(6,1),(7,1),(8,1),(9,1),(10,1),(11,1),(12,1),(13,1),(14,1),(15,1)]:=ag
@[go_sem] theorem zeroT_218:cn Tryz.prog 218=some [.bw, .bw]:=ag
@[go_sem] theorem placesT_218:dW Tryz.prog 218=some [(0,2)]:=ag
@[go_sem] theorem fieldT_24_0:bG Tryz.prog 24 0=some 0:=ag
@[go_sem] theorem fieldT_24_1:bG Tryz.prog 24 1=some 1:=ag
@[go_sem] theorem fieldT_27_0:bG Tryz.prog 27 0=some 0:=ag
@[go_sem] theorem fieldT_27_1:bG Tryz.prog 27 1=some 2:=ag
@[go_sem] theorem fieldT_40_0:bG Tryz.prog 40 0=some 0:=ag
@[go_sem] theorem fieldT_40_2:bG Tryz.prog 40 2=some 2:=ag
@[go_sem] theorem fieldT_40_3:bG Tryz.prog 40 3=some 3:=ag
@[go_sem] theorem fieldT_40_5:bG Tryz.prog 40 5=some 5:=ag
@[go_sem] theorem fieldT_55_0:bG Tryz.prog 55 0=some 0:=ag
@[go_sem] theorem fieldT_55_1:bG Tryz.prog 55 1=some 1:=ag
@[go_sem] theorem fieldT_55_2:bG Tryz.prog 55 2=some 2:=ag
@[go_sem] theorem fieldT_57_0:bG Tryz.prog 57 0=some 0:=ag
@[go_sem] theorem fieldT_57_1:bG Tryz.prog 57 1=some 1:=ag
@[go_sem] theorem fieldT_57_2:bG Tryz.prog 57 2=some 2:=ag
@[go_sem] theorem fieldT_57_3:bG Tryz.prog 57 3=some 5:=ag
@[go_sem] theorem fieldT_64_0:bG Tryz.prog 64 0=some 0:=ag
@[go_sem] theorem fieldT_64_1:bG Tryz.prog 64 1=some 1:=ag
@[go_sem] theorem fieldT_64_2:bG Tryz.prog 64 2=some 2:=ag
@[go_sem] theorem fieldT_81_0:bG Tryz.prog 81 0=some 0:=ag
@[go_sem] theorem fieldT_81_1:bG Tryz.prog 81 1=some 3:=ag
@[go_sem] theorem fieldT_102_0:bG Tryz.prog 102 0=some 0:=ag
@[go_sem] theorem fieldT_102_1:bG Tryz.prog 102 1=some 1:=ag
@[go_sem] theorem fieldT_109_0:bG Tryz.prog 109 0=some 0:=ag
@[go_sem] theorem fieldT_109_1:bG Tryz.prog 109 1=some 1:=ag
@[go_sem] theorem fieldT_116_0:bG Tryz.prog 116 0=some 0:=ag
@[go_sem] theorem fieldT_116_1:bG Tryz.prog 116 1=some 3:=ag
@[go_sem] theorem fieldT_116_2:bG Tryz.prog 116 2=some 4:=ag
@[go_sem] theorem fieldT_218_0:bG Tryz.prog 218 0=some 0:=ag
section
def my(x y:ab):Prop:=(x.bZ=true->y.bZ=true)/\∀e,x.bW=some e->y.bW=some e
theorem my.rfl' {x y:ab}(h:x=y):my x y:=h ▸ ⟨id,fun _ h=>h⟩
theorem my.fz (x:ab):my x.fz x:=by cases x<;>exact⟨id,fun _ h=>h⟩
theorem my.row (cs cs':List V):my (.row cs) (.row cs'):=⟨fun _=>rfl,fun _ h=>by cases h⟩
mutual
theorem V.mz {B B':Nat->Prop}{φ aD:Place}{H H':Hp}{w:World}(hB:∀b, ¬B b-> ¬B' b):∀ (v:V) (val:Value),(∀id∈v.refs,my (H'.o id) (H.o id)/\aD id=φ id/\H'.us id)->V.den B φ H w v val->V.den B' aD H' w v val
 | .d x,val,_,h=>D.aM (w:=w) (w':=w) (fun b _ hn=>⟨rfl,hB b hn⟩) x val h
 | .bw,_,_,h=>h
 | .aa,_,_,_=>trivial
 | .eN,_,_,h=>h
 | .pR es,val,_,h=>⟨D.aM (w:=w) (w':=w) (fun b _ hn=>⟨rfl,hB b hn⟩) (.sl es) val h.1,h.2⟩
 | .agg cs,val,hr,h=>by
   obtain⟨a,rfl,h1,h2⟩:=h
   exact⟨a,rfl,V.gK hB cs _ vn h1,h2⟩
 | .bS cs,val,hr,h=>by
   obtain⟨a,rfl,h1⟩:=h
   exact⟨a,rfl,V.gK hB cs _ vn h1⟩
 | .ptr id off,val,hr,h=>by
   exact Q8
 | .osl id ep,val,hr,h=>by
   obtain⟨a,b,c⟩:=hr id yV
   obtain⟨h0,h1,h2⟩:=h
   refine⟨h0,c,fun e he=> ?_⟩
   obtain⟨x,y⟩:=h2 e (a.2 e he)
   exact⟨x,fun heq=>(y heq).trans b.symm⟩
 | .pe id ep i sz off,val,hr,h=>by
   obtain⟨a,b,c⟩:=hr id yV
   obtain⟨h0,h1,h2⟩:=h
   refine⟨h0,c,fun e he=> ?_⟩
   obtain⟨x,y⟩:=h2 e (a.2 e he)
   exact Ob
 | .pp cs off,val,_,h=>by
   obtain⟨a,ev,h1,h2,h3,h5,h4⟩:=h
   exact V3
 | .func fn first cap,val,hr,h=>by
   obtain⟨f,c,rfl,h1,h2⟩:=h
   exact⟨f,c,rfl,V.gK hB first _ (fun id au=>hr id (by simp[V.refs,au])) h1,V.gK hB cap _ (fun id au=>hr id (by simp[V.refs,au])) h2⟩
 | .iface t x,val,hr,h=>by
   obtain⟨u,rfl,h⟩:=h
   exact⟨u,rfl,V.mz hB x u vn h⟩
 | .vw id off n,val,hr,h=>by
   exact Q8
 | .mp id,val,hr,h=>by
   obtain⟨a,b,c⟩:=hr id yV
   obtain⟨h0,h1,h2⟩:=h
   refine⟨h0,c,fun bJ=> ?_⟩
   exact(h2 (a.1 bJ)).trans b.symm
 | .iD id,val,hr,h=>by
   exact Q8
theorem V.gK {B B':Nat->Prop}{φ aD:Place}{H H':Hp}{w:World}(hB:∀b, ¬B b-> ¬B' b):∀ (vs:List V) (vals:List Value),(∀id∈V.aL vs,my (H'.o id) (H.o id)/\aD id=φ id/\H'.us id)->V.aC B φ H w vs vals->V.aC B' aD H' w vs vals
 |[],_,_,h=>h
 |v::vs,_,hr,h=>by
  obtain⟨u,us,rfl,h1,h2⟩:=h
  exact⟨u,us,rfl,V.mz hB v u (fun id au=>hr id (by simp[V.aL,au])) h1,V.gK hB vs us (fun id au=>hr id (by simp[V.aL,au])) h2⟩
end
mutual
theorem V.mZ {B:Nat->Prop}{φ:Place}{H:Hp}{w:World}:∀ (v:V) (val:Value),V.den B φ H w v val->∀id∈v.refs,H.us id
 | .osl id ep,_,h,j,hj| .ptr id off,_,h,j,hj| .pe id ep i sz off,_,h,j,hj| .vw id off n,_,h,j,hj| .mp id,_,h,j,hj| .iD id,_,h,j,hj=>by simp[V.refs]at hj;subst hj;exact h.2.1
 | .agg cs,_,h,j,hj=>by obtain⟨a,rfl,h,_⟩:=h;exact V.gL cs _ h j (by simpa[V.refs]using hj)
 | .bS cs,_,h,j,hj=>by obtain⟨a,rfl,h⟩:=h;exact V.gL cs _ h j (by simpa[V.refs]using hj)
 | .func fn first cap,_,h,j,hj=>by
   obtain⟨f,c,rfl,h1,h2⟩:=h
   rcases List.mem_append.1 (show j∈V.aL first++V.aL cap by simpa[V.refs]using hj)with hj|hj
   ·exact V.gL first _ h1 j hj
   ·exact V.gL cap _ h2 j hj
 | .iface t x,_,h,j,hj=>by obtain⟨u,rfl,h⟩:=h;exact V.mZ x u h j (by simpa[V.refs]using hj)
 | .d _,_,_,_,hj| .bw,_,_,_,hj| .pp _ _,_,_,_,hj| .aa,_,_,_,hj| .pR _,_,_,_,hj| .eN,_,_,_,hj=>by simp[V.refs]at hj
theorem V.gL {B:Nat->Prop}{φ:Place}{H:Hp}{w:World}:∀ (vs:List V) (vals:List Value),V.aC B φ H w vs vals->∀id∈V.aL vs,H.us id
 |[],_,_,j,hj=>by simp[V.aL]at hj
 |v::vs,_,h,j,hj=>by
  obtain⟨u,us,rfl,h1,h2⟩:=h
  rcases List.mem_append.1 (show j∈v.refs++V.aL vs by simpa[V.aL]using hj)with hj|hj
  ·exact V.mZ v u h1 j hj
  ·exact V.gL vs us h2 j hj
end
def Jj(so:Nat->ab)(gone:Nat->Prop)(ty:TypeId)(sz:Nat)(es:List D)(x:V):Prop:=
 (x= .bw/\es=[]/\0<sz)\/∃id ep,gone id/\x= .osl id ep/\so id= .arr ep ty sz es
theorem Jk{xs ys:List Nat}:jO xs ys=true↔∀x∈xs,x∉ys:=by
 simp[jO,List.all_eq_true]
def lA(env:Nat->V):List V->Nat->Prop
 |[],_=>True
 |v::l,i=>(v= .aa\/v=env i)/\lA env l (i+1)
theorem E8{env:Nat->V}{i:Nat}:lA env [] i:=trivial
theorem BT{env:Nat->V}{l:List V}{i:Nat}(h:lA env l (i+1)):lA env (.aa::l) i:=⟨.inl rfl,h⟩
theorem Ln{env:Nat->V}{l:List V}{i:Nat}{v:V}(he:env i=v)(h:lA env l (i+1)):lA env (v::l) i:=⟨.inr he.symm,h⟩
theorem AJ{env:Nat->V}:∀ (l:List V) (i:Nat),lA env l i->∀j,ba l j= .aa\/ba l j=env (i+j)
 |[],i,_,j=>by rw[pf];exact .inl rfl
 |v::l,i,h,0=>by rw[mW];exact h.1
 |v::l,i,h,j+1=>by
  rw[mX]
  have:=AJ l (i+1) h.2 j
  rwa [show i+1+j=i+(j+1) by omega]at this
theorem F7{P:Program}{n bq:Nat}{gq:Operand}{ps:List Nat}{x y:IC}{Q:eS->S->Prop}{e:Nat->V}{o:Nat->ab}{nx:Nat}{f:FuncId}{cap:List V}(env:List V)(he:lA e env 0)
 (h:de P f (.iD nx::cap) (aF o nx (.loop P.funcs.size n env ps x y .ready none)) (nx+1)
  (fun _ o' nx'=>∃nf m en p c d st pd,o' nx= .loop nf m en p c d st pd/\st≠ .busy/\nU Q pd ⟨e,aF o' nx (.loop nf m en p c d .exhausted pd),nx'⟩) (fun v o' nx'=>Q (.bF v) ⟨e,o',nx'⟩)):
 xU P n bq false gq ps x y Q ⟨e,o,nx⟩ (.func (.func f) [] cap):=by
 unfold xU zQ
 refine⟨rfl, .inl ⟨env,fun i=> ?_, .inl h⟩⟩
 have:=AJ env 0 he i
 rwa [Nat.zero_add]at this
theorem bC.trans {b:Nat}{s s' s'':S}(h1:bC b s s')(h2:bC b s' s''):bC b s s'':=fun M φ w tm hH hd=>by
 obtain⟨aD,a1,a2,a3,a4,a5,a6⟩:=h1 M φ w tm hH hd
 obtain⟨B0,b1,b2,b3,b4,b5,b6⟩:=h2 M aD w tm a1 a2
 refine⟨B0,b1,b2,fun k hk=>a3 k (b3 k hk),b4,fun id au hr=> ?_,fun id e' au he=> ?_⟩
 ·obtain⟨c1,c2⟩:=b5 id au hr
  obtain⟨c3,c4⟩:=a5 id au c1
  exact⟨c3,c2.trans c4⟩
 ·obtain⟨e1,c1,c2,c3⟩:=b6 id e' au he
  obtain⟨e0,d1,d2,d3⟩:=a6 id e1 au c1
  exact⟨e0,d1,Nat.le_trans d2 c2,fun h=>(c3 ah).trans (d3 ah)⟩
def n6(P:Program)(n b id:Nat)(eF:IC)(K X:V->(Nat->ab)->Nat->Prop)(e:eS)(s:S):Prop:=
 match e with
 | .normal=>∃nf m en p c d pd,s.o id= .loop nf m en p c d .ready pd/\kL P n b true eF (jh id K X) ⟨s.env,aF s.o id (.loop nf m en p c d .busy pd),s.nx⟩
 | .bF v=>X v s.o s.nx
 |_=>False
theorem dq.aH {P:Program}{n:Nat}(bf:P.follows .mixedOrders=true){id:Nat}{args:List V}{o:Nat->ab}{nx:Nat}{K X:V->(Nat->ab)->Nat->Prop}{env:List V}{ps:List Nat}{iT eF:IC}{st:LoopState}{pd:Option jo}
 (ho:o id= .loop P.funcs.size n env ps iT eF st pd) (b8:id<nx) (uO:ps.all (fun t=>decide (t<n))=true) (hl:args.length=ps.length)
 (h:kL P n nx true iT (n6 P n nx id eF K X) ⟨mh (ba env) ps args,o,nx⟩):dq P id args o nx K X:=by
 refine dq.tu bf ho b8 uO hl (eK iT _ _ _ (fun e s h=> ?_) h)
 cases e with
 |normal=>
  obtain⟨nf,m,en,p,c,d,pd,h1,h2⟩:=h
  exact⟨nf,m,en,p,c,d,pd,h1,eK eF _ _ _ (fun _ _ h=>h) h2⟩
 |bF v=>exact h
 |_=>exact h.elim
theorem x8{P:Program}{n b id:Nat}{eF:IC}{K X:V->(Nat->ab)->Nat->Prop}{s:S}{nf m:Nat}{en:List V}{p:List Nat}{c d:IC}{pd:Option jo}(h:s.o id= .loop nf m en p c d .ready pd)
 (h2:kL P n b true eF (jh id K X) ⟨s.env,aF s.o id (.loop nf m en p c d .busy pd),s.nx⟩):n6 P n b id eF K X .normal s:=⟨nf,m,en,p,c,d,pd,h,h2⟩
def u7:List Nat->Nat->Nat->Nat
 |[],nx,k=>nx+k
 |i::_,_,0=>i
 |_::l,nx,k+1=>u7 l nx k
theorem x9:∀ (l:List Nat) (nx k:Nat),u7 l nx k∈l\/nx<=u7 l nx k
 |[],nx,k=> .inr (Nat.le_add_right _ _)
 |i::_,_,0=> .inl (List.mem_cons_self ..)
 |_::l,nx,k+1=>(x9 l nx k).imp (List.mem_cons_of_mem _) id
theorem AK{nx:Nat}:∀ (l:List Nat),l.Nodup->(∀i∈l,i<nx)->∀a b,u7 l nx a=u7 l nx b->a=b
 |[],_,_,a,b,e=>by simp only[u7]at e;omega
 |i::l,_,_,0,0,_=>rfl
 |i::l,hd,hl,0,b+1,e=>by
  simp only[u7]at e
  rcases x9 l nx b with h|h
  ·rw[<- e]at h;exact absurd h (List.nodup_cons.1 hd).1
  ·have:=hl i (List.mem_cons_self ..);omega
 |i::l,hd,hl,a+1,0,e=>by
  simp only[u7]at e
  rcases x9 l nx a with h|h
  ·rw[e]at h;exact absurd h (List.nodup_cons.1 hd).1
  ·have:=hl i (List.mem_cons_self ..);omega
 |i::l,hd,hl,a+1,b+1,e=>by
  simp only[u7]at e
  rw[AK l (List.nodup_cons.1 hd).2 (fun j hj=>hl j (List.mem_cons_of_mem _ hj)) a b e]
def MH(f:Nat->Nat)(x:List Nat×List Nat):List Nat×List Nat:=(x.1.map f,x.2.map f)
theorem tP{f:Nat->Nat}(hf:∀a b,f a=f b->a=b){xs ys:List Nat}(hd:jO xs ys=true):jO (xs.map f) (ys.map f)=true:=by
 rw[Jk]at hd|-
 intro x hx hy
 obtain⟨a,ha,rfl⟩:=List.mem_map.1 hx
 obtain⟨b,hb,e⟩:=List.mem_map.1 hy
 rw[hf b a e]at hb
 exact hd a ha hb
theorem CT{f:Nat->Nat}(hf:∀a b,f a=f b->a=b){pr:List (List Nat)}(fp:List (List Nat×List Nat))(ho:dR pr fp=true):dR pr (fp.map (MH f))=true:=by
 unfold dR at ho|-
 rw[List.all_eq_true]at ho|-
 intro j hj
 rw[List.length_map]at hj
 have ho:=ho j hj
 rw[List.all_eq_true]at ho|-
 intro i hi
 have ho:=ho i hi
 have hm:∀k,(fp.map (MH f)).getD k ([],[])=MH f (fp.getD k ([],[])):=fun k=>by
  rw[List.getD_eq_getElem?_getD,List.getD_eq_getElem?_getD,List.getElem?_map]
  cases fp[k]? <;>rfl
 rw[hm,hm]
 rw[Bool.or_eq_true]at ho|-
 refine ho.imp (fun h=>h) (fun ho=> ?_)
 rw[Bool.and_eq_true,Bool.and_eq_true]at ho|-
 exact⟨⟨tP hf ho.1.1,tP hf ho.1.2⟩,tP hf ho.2⟩
theorem hY{ids:List Nat}{nx:Nat}(hd:ids.Nodup)(hl:∀i∈ids,i<nx){pr:List (List Nat)}(fp:List (List Nat×List Nat))(ho:dR pr fp=true):dR pr (fp.map (MH (u7 ids nx)))=true:=
 CT (AK ids hd hl) fp ho
section
variable {P:Program}{KB:List Nat->Fp->Prop}{pr:List (List Nat)}{l:List bL}{fr:Nat}{fp:Fp}{bad ws:List Nat}{s:S}{d:Option Nat}{op:Op}
end
end
section
structure Gr where
 x:V
 ty:TypeId
 sz:Nat
 es:List D
def Gr.ok (so:Nat->ab)(gone:Nat->Prop)(g:Gr):Prop:=Jj so gone g.ty g.sz g.es g.x
def Jl(c:Nat)(G:List Gr)(so:Nat->ab)(gone:Nat->Prop)(v v':V):Prop:=
 v'= .aa\/(v'=v/\∀r∈v.refs,r<c)\/(∃i g,G[i]? =some g/\v'= .osl (c+i) 0/\v=g.x)\/∃y,v'= .d y/\dA so v=some y/\∀id∈v.ids,gone id/\∀g∈G,∀ep,g.x≠ .osl id ep
def lI(c:Nat)(G:List Gr)(so:Nat->ab)(gone:Nat->Prop)(env:Nat->V):List V->Nat->Prop
 |[],_=>True
 |v::l,i=>Jl c G so gone (env i) v/\lI c G so gone env l (i+1)
def tQ(c:Nat)(G:List Gr)(so:Nat->ab)(gone:Nat->Prop):List V->List V->Prop
 |[],[]=>True
 |v::l,v'::l'=>Jl c G so gone v v'/\tQ c G so gone l l'
 |_,_=>False
def qy(c:Nat)(G:List Gr)(so:Nat->ab)(gone:Nat->Prop)(x x':ab):Prop:=
 x'= .no\/(x=x'/\∀r∈x'.refs,r<c)\/∃cs cs',x= .row cs/\x'= .row cs'/\tQ c G so gone cs cs'
section
variable {c:Nat}{G:List Gr}{so:Nat->ab}{gone:Nat->Prop}
theorem El{env:Nat->V}:∀ (l:List V) (i:Nat),lI c G so gone env l i->∀j,Jl c G so gone (env (i+j)) (ba l j)
 |[],i,_,j=>by rw[pf];exact .inl rfl
 |v::l,i,h,0=>by rw[mW];exact h.1
 |v::l,i,h,j+1=>by
  rw[mX]
  have:=El l (i+1) h.2 j
  rwa [show i+1+j=i+(j+1) by omega]at this
variable {env:Nat->V}{i:Nat}{l l':List V}{v:V}{y:D}
theorem Hb:lI c G so gone env [] i:=trivial
theorem E6(h:lI c G so gone env l (i+1)):lI c G so gone env (.aa::l) i:=⟨.inl rfl,h⟩
theorem Hc(he:env i= .d y)(h:lI c G so gone env l (i+1)):lI c G so gone env (.d y::l) i:=⟨.inr (.inl ⟨he.symm,fun r hr=>by rw[he]at hr;simp[V.refs]at hr⟩),h⟩
theorem QM(he:env i=v)(hr:∀r∈v.refs,r<c)(h:lI c G so gone env l (i+1)):lI c G so gone env (v::l) i:=⟨.inr (.inl ⟨he.symm,fun r xm=>hr r (he ▸ xm)⟩),h⟩
theorem QL(k:Nat){g:Gr}{n:Nat}(hg:G[k]? =some g)(hn:n=c+k)(he:env i=g.x)(h:lI c G so gone env l (i+1)):lI c G so gone env (.osl n 0::l) i:=⟨.inr (.inr (.inl ⟨k,g,hg,by rw[hn],he⟩)),h⟩
theorem QN(ht:dA so (env i)=some y)(hi:∀id∈(env i).ids,gone id/\∀g∈G,∀ep,g.x≠ .osl id ep)(h:lI c G so gone env l (i+1)):lI c G so gone env (.d y::l) i:=⟨.inr (.inr (.inr ⟨y,rfl,ht,hi⟩)),h⟩
theorem AL:tQ c G so gone [] []:=trivial
theorem TE(h:tQ c G so gone l l'):tQ c G so gone (.d y::l) (.d y::l'):=⟨.inr (.inl ⟨rfl,fun r hr=>by simp[V.refs]at hr⟩),h⟩
theorem Jm(k:Nat){g:Gr}{n:Nat}(hg:G[k]? =some g)(hn:n=c+k)(he:v=g.x)(h:tQ c G so gone l l'):tQ c G so gone (v::l) (.osl n 0::l'):=⟨.inr (.inr (.inl ⟨k,g,hg,by rw[hn],he⟩)),h⟩
theorem dg{x x':ab}(h:x=x')(hr:∀r∈x'.refs,r<c):qy c G so gone x x':= .inr (.inl ⟨h,hr⟩)
theorem AM{x:ab}{cs cs':List V}(h:x= .row cs)(hr:tQ c G so gone cs cs'):qy c G so gone x (.row cs'):= .inr (.inr ⟨cs,cs',h,rfl,hr⟩)
end
theorem pq{c:Nat}{G:List Gr}{so:Nat->ab}{gone:Nat->Prop}{B B':Nat->Prop}{φ aD:Place}{H H':Hp}{w:World}(hc:∀v v' val,Jl c G so gone v v'->V.den B φ H w v val->V.den B' aD H' w v' val):
 ∀ (l l':List V) (vals:List Value),tQ c G so gone l l'->V.aC B φ H w l vals->V.aC B' aD H' w l' vals
 |[],[],_,_,h=>h
 |v::l,v'::l',_,h,hd=>by
  obtain⟨u,us,rfl,h1,h2⟩:=hd
  exact⟨u,us,rfl,hc _ _ _ h.1 h1,pq hc l l' us h.2 h2⟩
 |[],_::_,_,h,_=>h.elim
 |_::_,[],_,h,_=>h.elim
def Jn(φ:Place)(c:Nat)(G:List Gr):Place:=fun id=>if id<c then φ id else match G[id - c]? with
 |some g=>(match g.x with| .osl j _=>φ j|_=> .slice none 0 0)
 |none=>φ id
theorem bC.see (gone:Nat->Prop)(G:List Gr)(c:Nat){b:Nat}{e:Nat->V}{so:Nat->ab}{m:Nat}(l:List V){o':Nat->ab}{nx':Nat}(uM:nx'=c+G.length)(hb:b<=c)
 (ho:∀id,id<c->qy c G so gone (so id) (o' id)) (hG:∀i g,G[i]? =some g->o' (c+i)= .arr 0 g.ty g.sz g.es/\g.ok so gone) (hh:∀id,nx'<=id->o' id= .no) (wx:∀id,gone id->id<c->o' id= .no)
 (RD:∀ (i j:Nat) (gi gj:Gr) (id ep gS:Nat),G[i]? =some gi->G[j]? =some gj->gi.x= .osl id ep->gj.x= .osl id gS->i=j) (he:lI c G so gone e l 0):bC b ⟨e,so,m⟩ ⟨ba l,o',nx'⟩:=by
 subst uM
 intro M φ w tm hH hd
 let aD:Place:=Jn φ c G
 let H':Hp:=hp o' (c+G.length)
 let H:Hp:=⟨so,fun id=>id<m⟩
 have F8:∀id,id<c->aD id=φ id:=fun id au=>if_pos au
 have Jo:∀i g,G[i]? =some g->aD (c+i)=(match g.x with| .osl j _=>φ j|_=> .slice none 0 0):=fun i g hg=>by
  show Jn φ c G (c+i)=_
  unfold Jn
  rw[if_neg (by omega),show c+i - c=i by omega,hg]
 have hold:∀id k,(o' id).live=true->c8 (aD id)=some k->∃j,(so j).live=true/\c8 (φ j)=some k/\((id<c/\j=id)\/∃i g ep,id=c+i/\G[i]? =some g/\gone j/\g.x= .osl j ep):=by
  intro id k h1 h2
  by_cases b8:id<c
  ·rw[F8 id b8]at h2
   rcases ho id b8 with h3|⟨h3,_⟩|⟨cs,cs',h3,h4,_⟩
   ·rw[h3]at h1;cases h1
   ·exact⟨id,by rw[h3];exact h1,h2, .inl ⟨b8,rfl⟩⟩
   ·exact⟨id,by rw[h3];rfl,h2, .inl ⟨b8,rfl⟩⟩
  ·by_cases vG:c+G.length<=id
   ·rw[hh id vG]at h1;cases h1
   ·obtain⟨i,rfl⟩:∃i,id=c+i:=⟨id - c,ah⟩
    obtain⟨g,hg⟩:∃g,G[i]? =some g:=⟨G[i]'ah,aI⟩
    rw[Jo i g hg]at h2
    obtain⟨_,aZ⟩:=hG i g hg
    rcases aZ with⟨h3,_,_⟩|⟨j,ep,hj,h3,oo⟩
    ·rw[h3]at h2;cases h2
    ·rw[h3]at h2
     exact⟨j,by rw[oo];rfl,h2, .inr ⟨i,g,ep,rfl,hg,hj,h3⟩⟩
 have cz:∀k,cy aD H' k->cy φ H k:=by
  rintro k ⟨id,h1,h2⟩
  obtain⟨j,g1,g2,_⟩:=hold id k h1 h2
  exact⟨j,g1,g2⟩
 have hB:∀k, ¬ak M φ H k-> ¬ak M aD H' k:=fun k h h'=>h (h'.imp id (cz k))
 have Oy:∀id,id<c->my (H'.o id) (H.o id)/\aD id=φ id/\H'.us id:=fun id au=>by
  refine⟨?_,F8 id au,(by show id<c+G.length;omega)⟩
  show my (o' id) (so id)
  rcases ho id au with h3|⟨h3,_⟩|⟨cs,cs',h3,h4,_⟩
  ·rw[h3];exact⟨fun h=>(by cases h),fun e h=>(by cases h)⟩
  ·exact my.rfl' h3.symm
  ·rw[h3,h4];exact my.row _ _
 have dH:∀ (v:V) (val:Value),(∀r∈v.refs,r<c)->V.den (ak M φ H) φ H w v val->V.den (ak M aD H') aD H' w v val:=fun v val hr h=>
  V.mz (H:=H) (H':=H') hB v val (fun id au=>Oy id (hr id au)) h
 have j9:∀ (v:List V) (val:List Value),(∀r∈V.aL v,r<c)->V.aC (ak M φ H) φ H w v val->V.aC (ak M aD H') aD H' w v val:=fun v val hr h=>
  V.gK (H:=H) (H':=H') hB v val (fun id au=>Oy id (hr id au)) h
 have acS:∀ (v:V) (y:D) (val:Value),dA so v=some y->(∀id∈v.ids,gone id/\∀g∈G,∀ep,g.x≠ .osl id ep)->V.den (ak M φ H) φ H w v val->D.den (ak M aD H') w y val:=fun v y val h1 h2 h3=>by
  obtain⟨f1,f2,f3,f4,f5⟩:=cC (H:=H) hH v.ids (fun id au=>cA v val h3 id au)
  have hB1:∀k,cy φ (H.put (cc H.o v.ids)) k->cy φ H k:=by
   rintro k ⟨id,g1,g2⟩
   by_cases au:id∈v.ids
   ·rw[f3 id au]at g1
    refine⟨id, ?_,g2⟩
    revert g1
    cases H.o id<;>simp[ab.fz,ab.live]
   ·rw[f4 id au]at g1;exact⟨id,g1,g2⟩
  have h4:V.den (ak M φ (H.put (cc H.o v.ids))) φ (H.put (cc H.o v.ids)) w v val:=
   V.mz (H:=H) (fun k h h'=>h (h'.imp id (hB1 k))) v val (fun id au=>by
     have dQ:H.us id:=(V.mZ v val h3) id au
     refine⟨?_,rfl,(f5 id).2 dQ⟩
     by_cases hm:id∈v.ids
     ·rw[f3 id hm];exact my.fz _
     ·rw[f4 id hm];exact my.rfl' rfl) h3
  have h5:=eH f1 (o:=so) v y val (fun id au=>f3 id au) h1 h4
  refine D.aM (w:=w) (w':=w) (fun k _ hn=>⟨rfl,fun hk=>hn (hk.imp id ?_)⟩) y val h5
  rintro⟨id,g1,g2⟩
  obtain⟨j,k1,k2,k3⟩:=hold id k g1 g2
  refine⟨j, ?_,k2⟩
  have:j∉v.ids:=fun hm=>by
   obtain⟨k4,k5⟩:=h2 j hm
   rcases k3 with⟨k6,k7⟩|⟨i,g,ep,k6,k8,k9,k10⟩
   ·subst k7
    have:=wx _ k4 k6
    have g1:(o' j).live=true:=g1
    rw[this]at g1
    cases g1
   ·exact k5 g (List.mem_of_getElem? k8) ep k10
  rw[f4 j this];exact k1
 have tR:∀i g val,G[i]? =some g->V.den (ak M φ H) φ H w g.x val->V.den (ak M aD H') aD H' w (.osl (c+i) 0) val:=by
  intro i g val hg this
  obtain⟨BU,aZ⟩:=hG i g hg
  have b8:c+i<c+G.length:=by have:=(List.getElem?_eq_some_iff.1 hg).1;omega
  rcases aZ with⟨h3,_,_⟩|⟨j,ep,hj,h3,oo⟩
  ·rw[h3]at this
   simp only[V.den]at this
   rw[this]
   refine⟨rfl,b8,fun e' oj=> ?_⟩
   have oj:(o' (c+i)).bW=some e':=oj
   rw[BU]at oj
   simp only[ab.bW,Option.some.injEq]at oj
   subst oj
   exact⟨Nat.le_refl _,fun _=>by rw[Jo i g hg,h3]⟩
  ·rw[h3]at this
   obtain⟨g1,g2,g3⟩:=this
   refine⟨g1,b8,fun e' oj=> ?_⟩
   have oj:(o' (c+i)).bW=some e':=oj
   rw[BU]at oj
   simp only[ab.bW,Option.some.injEq]at oj
   subst oj
   have uT:(H.o j).bW=some ep:=by show(so j).bW=_;rw[oo];rfl
   exact⟨Nat.le_refl _,fun _=>by rw[Jo i g hg,h3];exact(g3 ep uT).2 rfl⟩
 have Qh:∀v v' val,Jl c G so gone v v'->V.den (ak M φ H) φ H w v val->V.den (ak M aD H') aD H' w v' val:=by
  intro v v' val h h1
  rcases h with rfl|⟨rfl,h2⟩|⟨i,g,hg,rfl,rfl⟩|⟨y,rfl,h2,h3⟩
  ·trivial
  ·exact dH _ _ h2 h1
  ·exact tR i g _ hg h1
  ·exact acS v y val h2 h3 h1
 refine⟨aD,⟨fun id=> ?_,fun id hu=>hh id (by have: ¬id<c+G.length:=hu;omega),fun i j k h1 h2 h3 h4=> ?_,fun k hk=>hH.ours k (cz k hk),hH.yM⟩,fun i=> ?_,cz,by show b<=c+G.length;omega,fun id au hr=> ?_,fun id e' au oj=> ?_⟩
 ·have bc:aO M φ H w id:=hH.ok id
  show aO M aD H' w id
  unfold aO at bc|-
  by_cases b8:id<c
  ·rcases ho id b8 with h3|⟨h3,hrefs⟩|⟨cs,cs',h3,h4,bJ⟩
   ·have e2:H'.o id= .no:=h3
    rw[e2];trivial
   ·have e1:H.o id=o' id:=h3
    have e2:H'.o id=o' id:=rfl
    rw[e1]at bc
    rw[e2,F8 id b8]
    cases G2:o' id with
    |no=>trivial
    |row cs=>
     simp only[G2]at bc hrefs|-
     exact N6
    |arr ep ty sz es=>
     simp only[G2]at bc|-
     obtain⟨k1,xs,k2,evs,k3,k4,k5⟩:=bc
     exact Wu
    |qT ep es=>
     simp only[G2]at bc|-
     exact Lq
    |map kt vt es=>
     simp only[G2]at bc|-
     obtain⟨b,es',clock,k1,k2,k4,k3⟩:=bc
     exact Ws
    |gu l=>
     simp only[G2]at bc|-
     exact Lq
    |nI l last=>
     simp only[G2]at bc|-
     obtain⟨b,k1,k2⟩:=bc
     exact N0
    |xb s pos=>
     simp only[G2]at bc|-
     exact bc
    |loop nf n env ps a b st pd=>
     simp only[G2]at bc hrefs|-
     exact Oo
   ·have e1:H.o id= .row cs:=h3
    have e2:H'.o id= .row cs':=h4
    rw[e1]at bc
    rw[e2,F8 id b8]
    obtain⟨b,dC,ty,k1,k2,k3,k4⟩:=bc
    exact⟨b,dC,ty,k1,k2,pq Qh _ _ _ bJ k3,k4⟩
  ·by_cases vG:c+G.length<=id
   ·have e2:H'.o id= .no:=hh id vG
    rw[e2];trivial
   ·obtain⟨i,rfl⟩:∃i,id=c+i:=⟨id - c,ah⟩
    obtain⟨g,hg⟩:∃g,G[i]? =some g:=⟨G[i]'ah,aI⟩
    obtain⟨BU,aZ⟩:=hG i g hg
    have e2:H'.o (c+i)= .arr 0 g.ty g.sz g.es:=BU
    rw[e2]
    rcases aZ with⟨h3,h4,dw⟩|⟨j,ep,hj,h3,oo⟩
    ·rw[h4]
     refine⟨dw,[], ?_,[],aI,aI,rfl⟩
     rw[Jo i g hg,h3]
     exact World.ownsRow_nil _ _ _ _
    ·have this:aO M φ H w j:=hH.ok j
     unfold aO at this
     have e3:H.o j= .arr ep g.ty g.sz g.es:=oo
     simp only[e3]at this
     obtain⟨k1,xs,k2,evs,k3,k4,k5⟩:=this
     exact⟨k1,xs,by rw[Jo i g hg,h3];exact k2,evs,k3,k4,D.aP (fun b _ hn=>⟨rfl,hB b hn⟩) _ _ k5⟩
 ·obtain⟨i',a1,a2,a3⟩:=hold i k h1 h3
  obtain⟨j',b1,b2,b3⟩:=hold j k h2 h4
  have:=hH.apart i' j' k a1 b1 a2 b2
  subst this
  have kK:∀BM,(o' BM).live=true->BM<c->gone BM->False:=fun BM g1 g2 g3=>by
   rw[wx _ g3 g2]at g1
   cases g1
  rcases a3 with⟨a3,a4⟩|⟨ia,ga,ea,a3,a4,a5,a6⟩<;>rcases b3 with⟨b3,b4⟩|⟨ib,gb,eb,b3,b4,b5,b6⟩
  ·omega
  ·exact(kK i h1 a3 (a4 ▸ b5)).elim
  ·exact(kK j h2 b3 (b4 ▸ a5)).elim
  ·have:=RD ia ib ga gb _ _ _ a4 b4 a6 b6
   omega
 ·have hi:=El l 0 he i
  rw[Nat.zero_add]at hi
  exact Qh _ _ _ hi (hd i)
 ·have b8:id<c:=ah
  have hr:(o' id).bZ=true:=hr
  exact⟨(Oy id b8).1.1 hr,F8 id b8⟩
 ·have b8:id<c:=ah
  have oj:(o' id).bW=some e':=oj
  exact⟨e',(Oy id b8).1.2 e' oj,Nat.le_refl _,fun _=>F8 id b8⟩
theorem bC.aao (gone:Nat->Prop)(c:Nat){b:Nat}{e:Nat->V}{so:Nat->ab}{m:Nat}(l:List V){o':Nat->ab}(hb:b<=c)
 (ho:∀id,id<c->qy c [] so gone (so id) (o' id)) (hh:∀id,c<=id->o' id= .no) (wx:∀id,gone id->id<c->o' id= .no) (he:lI c [] so gone e l 0):bC b ⟨e,so,m⟩ ⟨ba l,o',c⟩:=
 bC.see gone [] c l rfl hb ho (fun i g h=>by cases h) hh wx (fun i j gi gj id ep gS h=>by cases h) he
theorem bC.ya (gone:Nat->Prop)(x:V)(c:Nat){ty:TypeId}{sz:Nat}{es:List D}{b:Nat}{e:Nat->V}{so:Nat->ab}{m:Nat}(l:List V){o':Nat->ab}(hb:b<=c)
 (ho:∀id,id<c->qy c [⟨x,ty,sz,es⟩] so gone (so id) (o' id)) (hc:o' c= .arr 0 ty sz es) (hx:Jj so gone ty sz es x) (hh:∀id,c+1<=id->o' id= .no) (wx:∀id,gone id->id<c->o' id= .no)
 (he:lI c [⟨x,ty,sz,es⟩] so gone e l 0):bC b ⟨e,so,m⟩ ⟨ba l,o',c+1⟩:=
 bC.see gone [⟨x,ty,sz,es⟩] c l rfl hb ho (fun i g h=>by
  match i,h with
  |0,h=>simp at h;subst h;exact⟨hc,hx⟩) hh wx (fun i j gi gj id ep gS h h' _ _=>by
  match i,j,h,h' with
  |0,0,_,_=>rfl) he
theorem lt1{P:Nat->Prop}(h:P 0):∀id,id<1->P id:=fun id au=>by
 have e:id=0:=ah
 rw[e];exact h
theorem lt2{P:Nat->Prop}(h:P 0)(h1:P 1):∀id,id<2->P id:=fun id au=>by
 rcases(by omega:id=0\/id=1)with rfl|rfl<;>assumption
theorem lt0{P:Nat->Prop}:∀id,id<0->P id:=fun id au=>ah
@[go_sem] theorem ads (b:Bool):(b==false)= !b:=yZ
@[go_sem] theorem adt (b:Bool):(b==true)=b:=yZ
@[go_sem] theorem aap (c:Bool) (v:V):V.xS c (V.xS c v)=V.xS c v:=by cases c<;>rfl
@[go_sem] theorem aaq (c:Bool):(c&&c)=c:=by cases c<;>rfl
@[go_sem] theorem VB {α:Type} (f:α->D) (l:List α) (n:Nat) (h:∀x,(f x).cells.length=n):((l.map f).all fun z=>z.cells.length==n)=true:=by
  simp[List.all_eq_true,h]
attribute [go_sem] implies_true
attribute [go_sem] Option.isSome_none Option.getD_some Option.getD_none
theorem structOf{P:Program}{t:TypeId}(h:(match P.underlying t with|some (.struct _)=>true|_=>false)=true):∃fs,P.underlying t=some (.struct fs):=by
 split at h
 ·exact⟨_,by assumption⟩
 ·cases h
theorem aR{pr:List (List Nat)}{fp:List (List Nat×List Nat)}(h:fp.all (fun x=>x.2.isEmpty)=true):dR pr fp=true:=by
 have e:∀i,(fp.getD i ([],[])).2=[]:=fun i=>by
  rw[List.getD_eq_getElem?_getD]
  cases hi:fp[i]? with
  |none=>rfl
  |some x=>simpa using List.all_eq_true.1 h x (List.mem_of_getElem? hi)
 simp only[dR,List.all_eq_true,e,jO,List.all_nil,Bool.and_self,Bool.or_true,implies_true]
structure cI (base:Nat) (h o:Nat->ab) (nx:Nat):Prop where
 bD:Good o nx
 le:base<=nx
 eq:∀id,id<base->o id=h id
def StK(base:Nat)(h:Nat->ab)(v:V)(o:Nat->ab)(nx:Nat)(K:V->(Nat->ab)->Nat->Prop):Prop:=
 ∀o' nx',nx<=nx'->cI base h o' nx'->(∀id,base<=id->id<nx->o' id=o id)->K v o' nx'
def j7(P:Program)(g:FuncId)(args:List V)(base:Nat)(h h2:Nat->ab)(v:V):Prop:=
 ∀o nx,cI base h o nx->∀K X,StK base h2 v o nx K->de P g args o nx K X
theorem cI.aF {base:Nat}{h o:Nat->ab}{nx m i:Nat}{x:ab}(hI:cI base h o nx)(hb:base<=i)(hi:i<m)(hm:nx<=m)(hx:x.refs.all (fun r=>decide (r<m))=true):cI base h (YtnkamdiiakdkgaaGreat.aF o i x) m:=
 ⟨(hI.bD.mono hm).aF hi hx,Nat.le_trans hI.le hm,fun id au=>by rw[ai _ _ _ _ (by omega)];exact hI.eq id au⟩
theorem cI.mono {base:Nat}{h o:Nat->ab}{nx m:Nat}(hI:cI base h o nx)(hm:nx<=m):cI base h o m:=⟨hI.bD.mono hm,Nat.le_trans hI.le hm,hI.eq⟩
def ext(base:Nat)(h o:Nat->ab):Nat->ab:=fun id=>if id<base then h id else o id
theorem cI.ext {base c:Nat}{h o:Nat->ab}{nx:Nat}(hI:cI base h o nx)(hc:c<=nx)(hb:base<=c):cI c (YtnkamdiiakdkgaaGreat.ext base h o) o nx:=
 ⟨hI.bD,hc,fun id _=>by unfold YtnkamdiiakdkgaaGreat.ext;split<;>first|exact hI.eq id ox|rfl⟩
theorem j7.ext {P:Program}{g:FuncId}{args:List V}{base c:Nat}{h h2:Nat->ab}{v:V}(hS:j7 P g args base h h2 v)(hb:base<=c)(o0:Nat->ab):j7 P g args c (YtnkamdiiakdkgaaGreat.ext base h o0) (YtnkamdiiakdkgaaGreat.ext base h2 o0) v:=by
 intro o nx hI K X hK
 refine hS o nx ⟨hI.bD,Nat.le_trans hb hI.le,fun id au=>by rw[hI.eq id (by omega)];unfold YtnkamdiiakdkgaaGreat.ext;rw[if_pos au]⟩ K X fun o' nx' h1 h2 h3=>hK o' nx' h1 ⟨h2.bD,Nat.le_trans hI.le h1,fun id au=> ?_⟩ (fun id h4 h5=>h3 id ah h5)
 unfold YtnkamdiiakdkgaaGreat.ext
 split
 ·exact h2.eq id ox
 ·rename_i hn
  rw[h3 id (by omega) (by have:=hI.le;omega),hI.eq id au]
  unfold YtnkamdiiakdkgaaGreat.ext;rw[if_neg hn]
theorem StK.ext {base c:Nat}{h o:Nat->ab}{v:V}{o1:Nat->ab}{nx yN:Nat}{K:V->(Nat->ab)->Nat->Prop}(hK:StK base h v o nx K)(hb:base<=c)(hn:nx<=yN)(hc:nx<=c)(ho:∀id,base<=id->id<nx->o1 id=o id):StK c (YtnkamdiiakdkgaaGreat.ext base h o1) v o1 yN K:=by
 intro o' nx' h1 h2 h3
 refine hK o' nx' ah ⟨h2.bD,Nat.le_trans hb h2.le,fun id au=> ?_⟩ fun id h4 h5=> ?_
 ·rw[h2.eq id (by omega)];unfold YtnkamdiiakdkgaaGreat.ext;rw[if_pos au]
 ·rw[h2.eq id (by omega), <- ho id h4 h5];unfold YtnkamdiiakdkgaaGreat.ext;rw[if_neg (by omega)]
def aw{α σ:Type}(step:σ->α->σ×Bool)(s:σ):List α->σ×Bool
 |[]=>(s,true)
 |x::l=>if(step s x).2=true then aw step (step s x).1 l else((step s x).1,false)
theorem mA{P:Program}{id:Nat}{args:List V}{e:Nat->V}{o:Nat->ab}{nx:Nat}{K X:V->(Nat->ab)->Nat->Prop}(h:dq P id args o nx K X):wc P id K X ⟨e,o,nx⟩ args:=by unfold wc;exact h
theorem fZ{α:Type}(f:Nat->α)(i:Nat)(x y:α):aF (aF f i x) i y=aF f i y:=by
 funext j;simp only[aF];split<;>rfl
attribute [go_sem] Int.cast_ofNat_Int
section
variable {P:Program}{n:Nat}{ps:List Nat}{x y:IC}{env:List V}{L:LoopState->Option jo->ab}
def gM(P:Program)(n:Nat)(env:List V)(ps:List Nat)(x y:IC)(L:LoopState->Option jo->ab):Prop:=∀st pd,L st pd= .loop P.funcs.size n env ps x y st pd
theorem CU{bq:Nat}{gq:Operand}{Q:eS->S->Prop}{e:Nat->V}{o:Nat->ab}{nx:Nat}{f:FuncId}{cap:List V}(env:List V)(he:lA e env 0)
 (h:∀L,gM P n env ps x y L->de P f (.iD nx::cap) (aF o nx (L .ready none)) (nx+1)
  (fun _ o' nx'=>∃st pd,o' nx=L st pd/\st≠ .busy/\nU Q pd ⟨e,aF o' nx (L .exhausted pd),nx'⟩) (fun v o' nx'=>Q (.bF v) ⟨e,o',nx'⟩)):
 xU P n bq false gq ps x y Q ⟨e,o,nx⟩ (.func (.func f) [] cap):=by
 refine F7 env he ?_
 have:=h (fun st pd=> .loop P.funcs.size n env ps x y st pd) (fun _ _=>rfl)
 refine this.mono (fun v o' nx' hh=> ?_) (fun v o' nx' hh=>hh)
 obtain⟨st,pd,h1,h2,h3⟩:=hh
 exact⟨_,_,_,_,_,_,_,_,h1,h2,h3⟩
theorem tS(hL:gM P n env ps x y L)(bf:P.follows .mixedOrders=true){id:Nat}{args:List V}{o:Nat->ab}{nx:Nat}{K X:V->(Nat->ab)->Nat->Prop}{st:LoopState}{pd:Option jo}
 (ho:o id=L st pd) (b8:id<nx) (uO:ps.all (fun t=>decide (t<n))=true) (hl:args.length=ps.length)
 (h:kL P n nx true x (n6 P n nx id y K X) ⟨mh (ba env) ps args,o,nx⟩):dq P id args o nx K X:=
 dq.aH bf (ho.trans (hL st pd)) b8 uO hl h
theorem kB(hL:gM P n env ps x y L){b id:Nat}{eF:IC}{K X:V->(Nat->ab)->Nat->Prop}{e:Nat->V}{o:Nat->ab}{nx:Nat}{pd:Option jo}(h:o id=L .ready pd)
 (h2:kL P n b true eF (jh id K X) ⟨e,aF o id (L .busy pd),nx⟩):n6 P n b id eF K X .normal ⟨e,o,nx⟩:=by
 refine x8 (h.trans (hL _ _)) ?_
 rw[<- hL];exact h2
theorem Fe(hL:gM P n env ps x y L){id:Nat}{K X:V->(Nat->ab)->Nat->Prop}{e:Nat->V}{o:Nat->ab}{nx:Nat}{st:LoopState}{pd:Option jo}(h:o id=L st pd)(k:K (.d (.bool true)) (aF o id (L .ready none)) nx):jh id K X .normal ⟨e,o,nx⟩:=
 ⟨_,_,_,_,_,_,_,_,h.trans (hL _ _),by rw[<- hL];exact k⟩
theorem BW(hL:gM P n env ps x y L){id:Nat}{K X:V->(Nat->ab)->Nat->Prop}{e:Nat->V}{o:Nat->ab}{nx:Nat}{st:LoopState}{pd:Option jo}(h:o id=L st pd)(k:K (.d (.bool false)) (aF o id (L .done (some .ret))) nx):jh id K X .ret ⟨e,o,nx⟩:=
 ⟨_,_,_,_,_,_,_,_,h.trans (hL _ _),by rw[<- hL];exact k⟩
theorem yQ(hL:gM P n env ps x y L){id j:Nat}{K X:V->(Nat->ab)->Nat->Prop}{e:Nat->V}{o:Nat->ab}{nx:Nat}{st:LoopState}{pd:Option jo}(h:o id=L st pd)(k:K (.d (.bool false)) (aF o id (L .done (some (.exit j)))) nx):jh id K X (.exit j) ⟨e,o,nx⟩:=
 ⟨_,_,_,_,_,_,_,_,h.trans (hL _ _),by rw[<- hL];exact k⟩
theorem gM.no (hL:gM P n env ps x y L)(st:LoopState)(pd:Option jo):L st pd≠ .no:=by rw[hL];exact ab.noConfusion
theorem gM.refs (hL:gM P n env ps x y L)(st:LoopState)(pd:Option jo):(L st pd).refs=V.aL env:=by rw[hL];rfl
end
end
attribute [go_sem_proc] Int.reduceBEq Int.reduceBNe Int.reduceLT Int.reduceLE Int.reduceEq Int.reduceNe Nat.reducePow Nat.reduceEqDiff Nat.reduceAdd Nat.reduceSub Nat.reduceMul Nat.reduceLeDiff Nat.reduceBEq Nat.reduceLT reduceIte reduceCtorEq Int.reduceToNat
attribute [go_sem] List.range_zero Option.isSome_some and_self List.cons.injEq
theorem yY(n low high:Int):aW Tryz.prog 108 [.i n, .i low, .i high] (.ret [.bool (dP n low high)]):=by
 refine aW.aH mix Y9 aI ?_
 rw[Y8]
 refine cj ?_
 rfl
theorem Jp{t:Tm}{left depth:Int}(h:left<1\/depth<1):gZ t left depth= -1:=by cases t;simp[gZ,h]
theorem n7{l:List Tm}{left depth:Int}(h:left<0):b9 l left depth=left:=by
 cases l with
 |nil=>rfl
 |cons k l=>simp[b9,show ¬ (0<=left) by omega]
theorem Jq:∀t:Tm,∀left depth:Int, -1<=gZ t left depth/\(1<=left->gZ t left depth<=left - 1)/\(left<1->gZ t left depth= -1):=by
 refine Tm.ind fun op n kids ih left depth=> ?_
 have hs:∀ (l:List Tm) (left d:Int),(∀k∈l,k∈kids)-> -1<=left-> -1<=b9 l left d/\b9 l left d<=left:=by
  intro l
  induction l with
  |nil=>intro left d _ h;simp[b9,h]
  |cons k l tT=>
   intro left d hk h
   simp only[b9]
   split
   ·rename_i h0
    have h1:=ih k (hk k aI) left d
    have h2:=tT (gZ k left d) d (fun x hx=>hk x ng) h1.1
    by_cases hl:1<=left
    ·have:=h1.2.1 hl;omega
    ·have:=h1.2.2 ah;omega
   ·omega
 simp only[gZ]
 split
 ·rename_i h;refine⟨ah,fun h1=> ?_,fun _=>rfl⟩;omega
 ·rename_i h
  have:=hs kids (left - 1) (depth - 1) (fun _ h=>h) ah
  exact⟨this.1,fun _=>this.2,fun h=>ah⟩
theorem F9(l:List Tm)(left d:Int)(h: -1<=left): -1<=b9 l left d/\b9 l left d<=left:=by
 induction l generalizing left with
 |nil=>simp[b9,h]
 |cons k l tT=>
  simp only[b9]
  split
  ·have h1:=Jq k left d
   have h2:=tT (gZ k left d) h1.1
   by_cases hl:1<=left
   ·have:=h1.2.1 hl;omega
   ·have:=h1.2.2 ah;omega
  ·omega
theorem nF(a b:List Tm)(left d:Int):b9 (a++b) left d=b9 b (b9 a left d) d:=by
 induction a generalizing left with
 |nil=>rfl
 |cons k a ih=>
  simp only[List.cons_append,b9]
  split
  ·exact ih _
  ·rename_i h;rw[n7 (by omega)]
theorem AO{l:List Tm}{i:Nat}{k:Tm}(hi:l[i]? =some k)(left d:Int)(h:0<=b9 (l.take i) left d):b9 (l.take (i+1)) left d=gZ k (b9 (l.take i) left d) d:=by
 rw[List.take_add_one,hi,nF]
 simp[b9,h]
theorem AP{l:List Tm}{i:Nat}(left d:Int)(h:b9 (l.take i) left d<0):b9 l left d=b9 (l.take i) left d:=by
 conv=>lhs;rw[<- List.take_append_drop i l]
 rw[nF,n7 h]
@[reducible] def gf (cs:List V):Nat->ab:=aF (fun _=> .no) 0 (.row cs)
@[reducible] def yc (cs ds:List V):Nat->ab:=aF (aF (fun _=> .no) 0 (.row cs)) 1 (.row ds)
theorem aT{cs:List V}(h:(ab.row cs).refs.all (fun r=>decide (r<1))=true):Good (gf cs) 1:=(Good.nil (nx:=1)).aF ah h
theorem fH{cs ds:List V}(h:(ab.row cs).refs.all (fun r=>decide (r<2))=true)(h2:(ab.row ds).refs.all (fun r=>decide (r<2))=true):Good (yc cs ds) 2:=((Good.nil (nx:=2)).aF ah h).aF ah h2
theorem bC.d1 {e:Nat->V}{so o:Nat->ab}{m:Nat}(l:List V)(hg:Good o 1)(hm:1<=m)(h0:so 0=o 0)(he:kA 1 e l 0):bC 0 ⟨e,so,m⟩ ⟨ba l,o,1⟩:=
 bC.bB l (Nat.zero_le _) hm hg (fun id h=>by obtain rfl:id=0:=ah
                                             exact h0) he
theorem bC.d2 {e:Nat->V}{so o:Nat->ab}{m:Nat}(l:List V)(hg:Good o 2)(hm:2<=m)(h0:so 0=o 0)(h1:so 1=o 1)(he:kA 2 e l 0):bC 0 ⟨e,so,m⟩ ⟨ba l,o,2⟩:=
 bC.bB l (Nat.zero_le _) hm hg (fun id h=>by
  rcases(by omega:id=0\/id=1)with rfl|rfl
  ·exact h0
  ·exact h1) he
@[reducible] def Tm.row (t:Tm):List V:=[.d (.i t.op), .d (.i t.n), .d (.sl (t.kids.map Tm.d))]
theorem AQ(t:Tm)(left depth:Int):gZ t left depth=if left<1\/depth<1 then -1 else b9 t.kids (left - 1) (depth - 1):=by cases t;simp[gZ,Tm.kids]
theorem Em:∀t:Tm,t.fits->∀left depth:Int, -1<=left/\left<=1000000-> -1<=depth/\depth<=1000000->aW Tryz.prog 86 [t.d, .i left, .i depth] (.ret [.i (gZ t left depth)]):=by
 refine Tm.cl fun t ih hf left depth hl hd=> ?_
 have lK:=(Tm.aX _).1 hf
 refine aW.aH mix acL aI ?_
 rw[c86]
 refine cj ?_
 refine aj (fun h1=> ?_) (fun h1=> ?_)
 ·refine cj ?_
  simp at h1
  rw[Jp h1]
 ·simp at h1
  refine cj ?_
  rw[wrap64 (n:=left - 1) (by omega) (by omega),AQ,if_neg (by omega)]
  refine aE (fun k:Nat=>⟨ba [.aa, .d (.i (b9 (t.kids.take k) (left - 1) (depth - 1))), .d (.i depth), .ptr 0 0, .aa, .aa, .aa, .d (.i k)],gf t.row,1⟩)
   (fun k=>k<=t.kids.length) (fun k=>t.kids.length - k) 0 (Nat.zero_le _) (bC.d1 _ (aT rfl) ah rfl ?_) (fun k hk=> ?_)
  ·exact cE
  have hb:=F9 (t.kids.take k) (left - 1) (depth - 1) ah
  refine cj ?_
  refine aj (fun h2=> ?_) (fun h2=> ?_)
  ·simp at h2
   obtain⟨x,hx⟩:∃x,t.kids[k]? =some x:=⟨t.kids[k],by simp[h2.1]⟩
   have eg:=List.mem_of_getElem? hx
   refine js hx ?_
   rw[wrap64 (n:=depth - 1) (by omega) (by omega)]
   refine aB (ih x eg (lK.2 x eg) _ _ ah ah) rfl ?_
   refine cj ?_
   rw[<- AO hx _ _ h2.2]
   refine aq (k+1) h2.1 ah (bC.d1 _ (aT rfl) ah rfl ?_)
   exact cE
  ·refine cj ?_
   simp only[Bool.and_eq_false_iff,decide_eq_false_iff_not]at h2
   congr 3
   rcases h2 with h2|h2
   ·rw[List.take_of_length_le (by omega)]
   ·exact AP _ _ ah
theorem TF(s:List UInt8)(hs:s.length<=9223372036854775807):aW Tryz.prog 151 [.str s] (.ret [.bool (jf s)]):=by
 refine aW.aH mix ZV aI ?_
 rw[ZU]
 refine cj ?_
 refine aE (fun k:Nat=>⟨ba [.d (.str s), .aa, .aa, .d (.i k)],fun _=> .no,0⟩)
  (fun k=>k<=s.length/\(s.take k).all letterF=true) (fun k=>s.length - k) 0 ⟨Nat.zero_le _,aI⟩ (bC.d0 _ ?_) (fun k hk=> ?_)
 ·exact cE
 refine cj ?_
 refine aj (fun h2=> ?_) (fun h2=> ?_)
 ·simp at h2
  obtain⟨x,hx⟩:∃x,s[k]? =some x:=⟨s[k],by simp[h2]⟩
  refine js hx ?_
  refine aj (fun h3=> ?_) (fun h3=> ?_)
  ·refine cj ?_
   have:jf s=false:=by
    have:s.all letterF=false:=by
     rw[List.all_eq_false]
     refine⟨x,List.mem_of_getElem? hx, ?_⟩
     simp only[letterF,h3];simp
    simp[jf,this]
   rw[this]
  ·refine cj ?_
   refine aq (k+1) ⟨h2, ?_⟩ ah (bC.d0 _ ?_)
   ·rw[List.take_add_one,hx,List.all_append,hk.2]
    simp[letterF,h3]
   ·exact cE
 ·refine cj ?_
  refine aB (yY _ _ _) rfl ?_
  refine cj ?_
  simp at h2
  have:=hk.2
  rw[List.take_of_length_le (by omega)]at this
  simp[jf,this]
theorem En(l:List iu)(bs:List (List UInt8))(hl:l.length<=1000)(hb:bs.length<=1000)(hs:∀x∈l,x.name.length<=9223372036854775807):
 aW Tryz.prog 109 [.sl (l.map iu.d), .sl (bs.map .str)] (.ret [.sl (((bR l bs).getD []).map .str), .bool (bR l bs).isSome]):=by
 refine aW.aH mix Zb aI ?_
 rw[Za]
 refine cj ?_
 refine aE (fun k:Nat=>⟨ba [.d (.sl (l.map iu.d)), .d (.sl ((bs++(l.take k).map (·.name)).map .str)), .aa, .aa, .aa, .aa, .d (.i k)],fun _=> .no,0⟩)
  (fun k=>k<=l.length/\bR l bs=bR (l.drop k) (bs++(l.take k).map (·.name))) (fun k=>l.length - k) 0 ⟨Nat.zero_le _,aI⟩ (bC.d0 _ ?_) (fun k hk=> ?_)
 ·simp only[List.take_zero,List.map_nil,List.append_nil]
  exact cE
 refine cj ?_
 refine aj (fun h2=> ?_) (fun h2=> ?_)
 ·simp at h2
  obtain⟨x,hx⟩:∃x,l[k]? =some x:=⟨l[k],by simp[h2]⟩
  have eg:=List.mem_of_getElem? hx
  have Ad:l.drop k=x::l.drop (k+1):=by
   rw[List.drop_eq_getElem_cons h2]
   rw[List.getElem?_eq_getElem h2]at hx;injection hx with hx;rw[hx]
  generalize hB:bs++(l.take k).map (·.name)=B at*
  have hBl:B.length<=2000:=by rw[<- hB];simp;omega
  refine cj ?_
  refine aE (fun j:Nat=>⟨ba [.d (.sl (l.map iu.d)), .d (.sl (B.map .str)), .aa, .aa, .aa, .aa, .d (.i k), .d (.i j)],fun _=> .no,0⟩)
   (fun j=>j<=B.length/\(B.take j).any (· ==x.name)=false) (fun j=>B.length - j) 0 ⟨Nat.zero_le _,aI⟩ (bC.d0 _ ?_) (fun j hj=> ?_)
  ·exact cE
  refine cj ?_
  refine aj (fun h3=> ?_) (fun h3=> ?_)
  ·simp at h3
   obtain⟨y,hy⟩:∃y,B[j]? =some y:=⟨B[j],by simp[h3]⟩
   simp+contextual only[go_sem,hx,hy]
   refine aN cG ?_
   refine cj ?_
   refine aj (fun h4=> ?_) (fun h4=> ?_)
   ·refine cj ?_
    have:bR l bs=none:=by
     rw[hk.2,Ad,bR,if_pos]
     rw[List.any_eq_true]
     exact⟨y,List.mem_of_getElem? hy,h4⟩
    rw[this];rfl
   ·refine cj ?_
    refine aq (j+1) ⟨h3, ?_⟩ ah (bC.d0 _ ?_)
    ·rw[List.take_add_one,hy,List.any_append,hj.2]
     simp only[Option.toList_some,List.any_cons,h4,List.any_nil,Bool.or_false]
    ·exact cE
  ·simp at h3
   have TG:=hj.2
   rw[List.take_of_length_le (by omega)]at TG
   refine js hx ?_
   refine aB (TF x.name (hs x eg)) rfl ?_
   refine js hx ?_
   refine fi (ew [.bool (dP x.args 0 4)] ?_ ?_)
   ·refine cj ?_
    exact Dr
   refine cj ?_
   refine aj (fun h4=> ?_) (fun h4=> ?_)
   ·refine cj ?_
    have:bR l bs=none:=by
     rw[hk.2,Ad,bR,if_neg (by rw[TG];exact Bool.false_ne_true),if_pos h4]
    rw[this];rfl
   ·have e1:B.length<=140737488355328:=ah
    have e2:B.length*16<=140737488355328:=ah
    have e3:B.length<=140737488355327:=ah
    have e4:(B.length+1)*16<=140737488355328:=ah
    simp+contextual only[go_sem,hx,e1,e2,e3,e4]
    refine aN cG ?_
    refine cj ?_
    have hn:bR l bs=bR (l.drop (k+1)) (bs++(l.take (k+1)).map (·.name)):=by
     rw[hk.2,Ad,bR,if_neg (by rw[TG];exact Bool.false_ne_true),if_neg (by rw[h4];exact Bool.false_ne_true), <- hB,List.take_add_one,hx]
     simp
    refine aq (k+1) ⟨h2,hn⟩ ah (bC.aao (fun _=>True) 0 _ (Nat.le_refl _) lt0 (fun _ _=>rfl) (fun _ _ _=>rfl) ?_)
    have hB2:(bs++(l.take (k+1)).map (·.name)).map D.str=B.map D.str++[D.str x.name]:=by
     rw[<- hB,List.take_add_one,hx];simp
    rw[hB2]
    exact E5
 ·refine cj ?_
  simp at h2
  have:bR l bs=some (bs++l.map (·.name)):=by
   rw[hk.2,List.drop_eq_nil_of_le (by omega),bR,List.take_of_length_le (by omega)]
  rw[this,List.take_of_length_le (by omega)]
  rfl
theorem TH(a b:List UInt8)(m n:Int):pT Tryz.prog 100 102 (.agg [.str a, .i m]) (.agg [.str b, .i n])=some (a==b&&m==n):=by
 have h1:bP Tryz.prog 102=some (.struct [(9,0),(3,1)]):=ag
 have h2:bP Tryz.prog 9=some .str:=ag
 have h3:bP Tryz.prog 3=some .int:=ag
 have h4:cS Tryz.prog 9=some false:=ag
 have h5:cS Tryz.prog 3=some false:=ag
 simp[pT,h1,h2,h3,h4,h5,zg,Rv,gV,HQ]
@[go_sem] theorem acT (o:Nat->ab) (nM:Bool) (a b:List UInt8) (m n:Int):vu Tryz.prog o 102 nM (.d (.agg [.str a, .i m])) (.d (.agg [.str b, .i n]))=some (.d (.bool (a==b&&m==n))):=by
  obtain⟨fs,h⟩:∃fs,Tryz.prog.underlying 102=some (.struct fs):=structOf ag
  have h2:Tryz.prog.eqGuardType Tryz.prog.depth 102=false:=ag
  unfold vu
  rw[h]
  dsimp only
  rw[if_pos h2,TH]
  rfl
theorem Ga{l:List iu}{bs B:List (List UInt8)}(h:bR l bs=some B):B=bs++l.map (·.name):=by
 induction l generalizing bs with
 |nil=>simp[bR]at h;simp[h]
 |cons x l ih=>
  simp only[bR]at h
  split at h
  ·cases h
  ·split at h
   ·cases h
   ·rw[ih h];simp
structure aS.Fits (s:aS):Prop where
 lc:s.cons.length<=9223372036854775807
 lf:s.bH.length<=9223372036854775807
 nc:∀x∈s.cons,x.name.length<=9223372036854775807
 nf:∀x∈s.bH,x.name.length<=9223372036854775807
theorem aar(s:aS)(hs:s.Fits):aW Tryz.prog 77 [s.d] (.ret [.bool (iG s)]):=by
 refine aW.aH mix acH aI ?_
 rw[c77]
 refine cj ?_
 refine aB (yY _ _ _) rfl ?_
 refine cj ?_
 cases h1:(!dP s.cons.length 2 12||decide (8<(s.bH.length:Int)))with
 |true=>
  refine js h1 ?_
  simp only[iG,h1,if_true]
 |false=>
  simp[dP]at h1
  obtain⟨a,b,r,hc⟩:∃a b r,s.cons=a::b::r:=by
   match h:s.cons with
   |[]=>exact Ds
   |[a]=>exact Ds
   |a::b::r=>exact⟨a,b,r,rfl⟩
  have jq:(!dP s.cons.length 2 12||decide (8<(s.bH.length:Int)))=false:=by simp[dP];omega
  simp+contextual only[go_sem,jq,hc]
  have Gb:iG s=if(!lG a fB|| !lG b tB)=true then false else match bR s.cons []with
   |none=>false
   |some l=>(bR s.bH l).isSome:=by
   unfold iG
   rw[if_neg (by rw[jq];exact Bool.false_ne_true),hc]
   dsimp only
   rfl
  refine aj (fun h2=> ?_) (fun h2=> ?_)
  ·refine cj ?_
   have uZ:(!lG a fB|| !lG b tB)=true:=h2
   rw[Gb,if_pos uZ]
  ·simp+contextual only[go_sem,hc]
   have hl:(a::b::r).length<=1000:=by rw[<- hc];omega
   have hnm:=En (a::b::r) [] hl aI (by rw[<- hc];exact hs.nc)
   simp only[List.map_cons,List.map_nil]at hnm
   refine bn hnm ?_
   have uZ:(!lG a fB|| !lG b tB)=false:=h2
   rw[Gb,if_neg (by rw[uZ];exact Bool.false_ne_true),hc]
   cases hn:bR (a::b::r) []with
   |none=>simp+contextual only[go_sem,hn]
   |some B=>
    refine js hn ?_
    have hB:B.length<=1000:=by
     have:=Ga hn
     rw[this];simp at hl|-;omega
    have acU:=En s.bH B ah hB hs.nf
    refine bn acU ?_
    simp+contextual only[go_sem]
theorem BV{l:List iu}{n:Int}{x:iu}(h:l[n.toNat]? =some x):fj l n=x.args:=by simp[fj,h]
theorem w7{l:List iu}{n:Int}(h:dP n 0 (l.length - 1)=true):0<=n/\∃x,l[n.toNat]? =some x:=by
 simp[dP]at h
 exact⟨h.1,l[n.toNat]'ah,aI⟩
theorem TI(s:aS)(t:Tm)(hs:s.Fits)(ht:t.kids.length<=9223372036854775807):aW Tryz.prog 122 [s.d,t.d] (.ret [.bool (a7 s t)]):=by
 refine aW.aH mix Zt aI ?_
 rw[Zs]
 refine cj ?_
 rcases(by omega:t.op=1\/t.op=2\/t.op=3\/t.op=4\/t.op=5\/t.op=8\/(t.op=6\/t.op=7\/t.op=9\/t.op=10\/t.op=11\/t.op=12\/t.op=13\/t.op=14\/t.op=15)\/(t.op<1\/15<t.op))with h|h|h|h|h|h|h|h
 ·have hn:a7 s t=((t.kids.length:Int)==0&&dP t.n 0 19):=by simp[a7,h]
  refine js h ?_
  refine fi (ew [.bool (dP t.n 0 19)] ?_ ?_)
  ·refine cj ?_
   exact Dr
  refine js h ?_
  rw[hn]
 ·have hn:a7 s t=((t.kids.length:Int)==0&&dP t.n (-1000000) 1000000):=by simp[a7,h]
  refine js h ?_
  refine fi (ew [.bool (dP t.n (-1000000) 1000000)] ?_ ?_)
  ·refine cj ?_
   exact Dr
  refine js h ?_
  rw[hn]
 ·have hn:a7 s t=(dP t.n 0 (s.cons.length - 1)&&(t.kids.length:Int)==fj s.cons t.n):=by simp[a7,h]
  refine js h ?_
  rw[wrap64 (by have:=hs.lc;omega) (by have:=hs.lc;omega)]
  refine aB (yY _ _ _) rfl ?_
  cases hI:dP t.n 0 (s.cons.length - 1)with
  |false=>
   exact Rs
  |true=>
   exact Rb
 ·have hn:a7 s t=(dP t.n 0 (s.bH.length - 1)&&(t.kids.length:Int)==fj s.bH t.n):=by simp[a7,h]
  refine js h ?_
  rw[wrap64 (by have:=hs.lf;omega) (by have:=hs.lf;omega)]
  refine aB (yY _ _ _) rfl ?_
  cases hI:dP t.n 0 (s.bH.length - 1)with
  |false=>
   exact Rs
  |true=>
   exact Rb
 ·have hn:a7 s t=(dP t.n 0 (s.bH.length - 1)&&decide ((t.kids.length:Int)<fj s.bH t.n)):=by simp[a7,h]
  refine js h ?_
  rw[wrap64 (by have:=hs.lf;omega) (by have:=hs.lf;omega)]
  refine aB (yY _ _ _) rfl ?_
  cases hI:dP t.n 0 (s.bH.length - 1)with
  |false=>
   exact Rs
  |true=>
   exact Rb
 ·have hn:a7 s t=((t.kids.length:Int)==2&&dP t.n 0 19):=by simp[a7,h]
  refine js h ?_
  refine fi (ew [.bool (dP t.n 0 19)] ?_ ?_)
  ·refine cj ?_
   exact Dr
  refine js h ?_
  rw[hn]
 ·have hn:a7 s t=((t.kids.length:Int)==2&&t.n==0):=by
   rcases h with h|h|h|h|h|h|h|h|h<;>simp[a7,h,dP]
  rw[hn]
  rcases h with h|h|h|h|h|h|h|h|h<;>simp+contextual only[go_sem,h]
 ·have hn:a7 s t=false:=by
   simp[a7,dP,show ¬ (t.op=1) by omega,show ¬ (t.op=2) by omega,show ¬ (t.op=3) by omega,show ¬ (t.op=4) by omega,show ¬ (t.op=5) by omega,show ¬ (t.op=8) by omega,show ¬ (6<=t.op/\t.op<=15) by omega]
  have e:∀k:Int,1<=k->k<=15->(t.op==k)=false:=fun k h1 h2=>by simp;omega
  simp+contextual only[go_sem,e 1 (by omega) (by omega),e 2 (by omega) (by omega),e 3 (by omega) (by omega),e 4 (by omega) (by omega),e 5 (by omega) (by omega),e 6 (by omega) (by omega),e 7 (by omega) (by omega),e 8 (by omega) (by omega),e 9 (by omega) (by omega),e 10 (by omega) (by omega),e 11 (by omega) (by omega),e 12 (by omega) (by omega),e 13 (by omega) (by omega),e 14 (by omega) (by omega),e 15 (by omega) (by omega)]
  rw[hn]
theorem iO(s:aS)(t:Tm):fW s t=(a7 s t&&t.kids.all (fW s)):=by
 have:∀l:List Tm,ss s l=l.all (fW s):=fun l=>by
  induction l with
  |nil=>rfl
  |cons k l ih=>simp[ss,ih]
 cases t;simp[fW,this,Tm.kids]
theorem cf{α:Type}{l:List α}{p:α->Bool}{k:Nat}{x:α}(hx:l[k]? =some x)(h:p x=false):l.all p=false:=by
 rw[List.all_eq_false];exact⟨x,List.mem_of_getElem? hx,by rw[h];exact Bool.false_ne_true⟩
theorem eh{α:Type}{l:List α}{p:α->Bool}{k:Nat}{x:α}(hx:l[k]? =some x)(h0:(l.take k).all p=true)(h:p x=true):(l.take (k+1)).all p=true:=by
 rw[List.take_add_one,hx,List.all_append,h0];simp[h]
theorem dK{α:Type}{l:List α}{p:α->Bool}{k:Nat}(h0:(l.take k).all p=true)(h:l.length<=k):l.all p=true:=by
 rwa [List.take_of_length_le h]at h0
theorem az{α:Type}{l:List α}{k:Nat}(h:k<l.length):∃x,l[k]? =some x:=⟨l[k],by simp[h]⟩
@[reducible] def aS.row (s:aS):List V:=[.d (.sl (s.cons.map iu.d)), .d (.sl (s.bH.map iu.d))]
theorem MI(s:aS)(hs:s.Fits):∀t:Tm,t.fits->aW Tryz.prog 87 [s.d,t.d] (.ret [.bool (fW s t)]):=by
 refine Tm.cl fun t ih hf=> ?_
 have lK:=(Tm.aX _).1 hf
 refine aW.aH mix acM aI ?_
 rw[c87]
 refine cj ?_
 refine aB (TI s t hs lK.1) rfl ?_
 refine cj ?_
 rw[iO]
 refine aj (fun h1=> ?_) (fun h1=> ?_)
 ·refine cj ?_
  simp at h1;simp[h1]
 ·simp at h1
  rw[h1,Bool.true_and]
  refine cj ?_
  refine aE (fun k:Nat=>⟨ba [.aa, .aa, .ptr 0 0, .ptr 1 0, .aa, .d (.i k)],yc s.row t.row,2⟩)
   (fun k=>k<=t.kids.length/\(t.kids.take k).all (fW s)=true) (fun k=>t.kids.length - k) 0 ⟨Nat.zero_le _,aI⟩ (bC.d2 _ (fH rfl rfl) ah rfl rfl ?_) (fun k hk=> ?_)
  ·exact cE
  refine cj ?_
  refine aj (fun h2=> ?_) (fun h2=> ?_)
  ·simp at h2
   obtain⟨x,hx⟩:=az h2
   have eg:=List.mem_of_getElem? hx
   refine js hx ?_
   refine aQ (ih x eg (lK.2 x eg)) rfl ?_
   refine cj ?_
   refine aN cG ?_
   refine cj ?_
   refine aj (fun h3=> ?_) (fun h3=> ?_)
   ·refine cj ?_
    simp at h3
    rw[cf hx h3]
   ·refine cj ?_
    simp at h3
    refine aq (k+1) ⟨h2,eh hx hk.2 h3⟩ ah (bC.d2 _ (fH rfl rfl) ah rfl rfl ?_)
    exact cE
  ·refine cj ?_
   simp at h2
   rw[dK hk.2 h2]
theorem CV(s:aS)(hs:s.Fits)(t:Tm)(hf:t.fits):aW Tryz.prog 61 [s.d,t.d] (.ret [.bool (cN s t)]):=by
 refine aW.aH mix acx aI ?_
 rw[c61]
 refine cj ?_
 refine aB (Em t hf 40 12 ah ah) rfl ?_
 refine cj ?_
 refine fi (ew [.bool (fW s t)] ?_ ?_)
 ·refine cj ?_
  exact fun _=>MI s hs t hf
 refine cj ?_
 rfl
theorem qz(t:Tm):ey t=(t.kids.all ey&&((decide (1<=t.op)&&decide (t.op<=3))||t.op==5)):=by
 have:∀l:List Tm,su l=l.all ey:=fun l=>by
  induction l with
  |nil=>rfl
  |cons k l ih=>simp[su,ih]
 cases t;simp only[ey,this,Tm.kids,Tm.op];rfl
theorem MJ:∀t:Tm,t.fits->aW Tryz.prog 62 [t.d] (.ret [.bool (ey t)]):=by
 refine Tm.cl fun t ih hf=> ?_
 have lK:=(Tm.aX _).1 hf
 refine aW.aH mix acy aI ?_
 rw[c62,qz]
 refine cj ?_
 refine aE (fun k:Nat=>⟨ba [.aa, .ptr 0 0, .aa, .d (.i k)],gf t.row,1⟩)
  (fun k=>k<=t.kids.length/\(t.kids.take k).all ey=true) (fun k=>t.kids.length - k) 0 ⟨Nat.zero_le _,aI⟩ (bC.d1 _ (aT rfl) ah rfl ?_) (fun k hk=> ?_)
 ·exact cE
 refine cj ?_
 refine aj (fun h2=> ?_) (fun h2=> ?_)
 ·simp at h2
  obtain⟨x,hx⟩:=az h2
  have eg:=List.mem_of_getElem? hx
  refine js hx ?_
  refine aB (ih x eg (lK.2 x eg)) rfl ?_
  refine cj ?_
  refine aj (fun h3=> ?_) (fun h3=> ?_)
  ·refine cj ?_
   simp at h3
   rw[cf hx h3];rfl
  ·refine cj ?_
   simp at h3
   refine aq (k+1) ⟨h2,eh hx hk.2 h3⟩ ah (bC.d1 _ (aT rfl) ah rfl ?_)
   exact cE
 ·refine cj ?_
  simp at h2
  rw[dK hk.2 h2];rfl
theorem gN:∀l l':List Tm,l.length=l'.length->(gI l l'=true↔∀ (i:Nat) (x y:Tm),l[i]? =some x->l'[i]? =some y->eV x y=true)
 |[],l',_=>by simp[gI]
 |k::l,k'::l',h=>by
  simp only[gI,Bool.and_eq_true]
  rw[gN l l' (by simpa using h)]
  constructor
  ·rintro⟨h1,h2⟩ i x y hx hy
   cases i with
   |zero=>simp at hx hy;subst hx;subst hy;exact h1
   |succ i=>exact h2 i x y vq (by simpa using hy)
  ·intro h3
   exact⟨h3 0 k k' rfl rfl,fun i x y hx hy=>h3 (i+1) x y vq (by simpa using hy)⟩
 |_::_,[],h=>by simp at h
theorem pt(a b:Tm):eV a b=(a.op==b.op&&a.n==b.n&&a.kids.length==b.kids.length&&gI a.kids b.kids):=by cases a;cases b;simp[eV,Tm.op,Tm.n,Tm.kids]
theorem Jr:∀a:Tm,a.fits->∀b:Tm,b.fits->aW Tryz.prog 30 [a.d,b.d] (.ret [.bool (eV a b)]):=by
 refine Tm.cl fun t ih hf b hb=> ?_
 have lK:=(Tm.aX _).1 hf
 have LD:=(Tm.aX _).1 hb
 refine aW.aH mix ab9 aI ?_
 rw[c30,pt]
 refine cj ?_
 refine aj (fun h1=> ?_) (fun h1=> ?_)
 ·refine cj ?_
  have:(t.op==b.op&&t.n==b.n&&t.kids.length==b.kids.length)=false:=by
   rw[Bool.eq_false_iff]
   intro h
   simp at h
   simp[h]at h1
  rw[this];rfl
 ·have jq:t.op=b.op/\t.n=b.n/\t.kids.length=b.kids.length:=by
   simp at h1
   refine⟨h1.1.1,h1.1.2,by have:=h1.2;omega⟩
  rw[show(t.op==b.op&&t.n==b.n&&t.kids.length==b.kids.length)=true by simp[jq],Bool.true_and]
  have hl:=jq.2.2
  refine cj ?_
  refine aE (fun k:Nat=>⟨ba [.aa, .aa, .ptr 0 0, .ptr 1 0, .aa, .d (.i k)],yc t.row b.row,2⟩)
   (fun k=>k<=t.kids.length/\∀i,i<k->∀x y,t.kids[i]? =some x->b.kids[i]? =some y->eV x y=true) (fun k=>t.kids.length - k) 0 ⟨Nat.zero_le _,fun i h=>ah⟩ (bC.d2 _ (fH rfl rfl) ah rfl rfl ?_) (fun k hk=> ?_)
  ·exact cE
  refine cj ?_
  refine aj (fun h2=> ?_) (fun h2=> ?_)
  ·simp at h2
   obtain⟨x,hx⟩:=az h2
   obtain⟨y,hy⟩:=az (l:=b.kids) (k:=k) ah
   have eg:=List.mem_of_getElem? hx
   have Qi:=List.mem_of_getElem? hy
   simp+contextual only[go_sem,hx,hy]
   refine aQ (ih x eg (lK.2 x eg) y (LD.2 y Qi)) rfl ?_
   refine cj ?_
   refine aN cG ?_
   refine cj ?_
   refine aj (fun h3=> ?_) (fun h3=> ?_)
   ·refine cj ?_
    simp at h3
    have:gI t.kids b.kids=false:=by
     rw[Bool.eq_false_iff]
     intro h
     have:=(gN _ _ hl).1 h k x y hx hy
     rw[h3]at this;cases this
    rw[this]
   ·refine cj ?_
    simp at h3
    refine aq (k+1) ⟨h2,fun i hi u v hu hv=> ?_⟩ ah (bC.d2 _ (fH rfl rfl) ah rfl rfl ?_)
    ·by_cases e:i=k
     ·subst e
      rw[hx]at hu;rw[hy]at hv
      exact NT
     ·exact hk.2 i ah u v hu hv
    ·exact cE
  ·refine cj ?_
   simp at h2
   have:gI t.kids b.kids=true:=(gN _ _ hl).2 fun i x y hx hy=>hk.2 i (by have:=(List.getElem?_eq_some_iff.1 hx).1;omega) x y hx hy
   rw[this]
theorem Eo(t:Tm)(hf:t.fits):aW Tryz.prog 68 [t.d] (.ret [.bool (jg t)]):=by
 refine aW.aH mix acC aI ?_
 rw[c68]
 refine cj ?_
 refine aB (Em t hf 50 14 ah ah) rfl ?_
 refine cj ?_
 rfl
theorem CW(s:aS)(hs:s.Fits):aW Tryz.prog 69 [s.d] (.ret [.bool (gJ s)]):=by
 refine aW.aH mix acD aI ?_
 rw[c69]
 refine cj ?_
 refine aj (fun h1=> ?_) (fun h1=> ?_)
 ·refine cj ?_
  simp only[gJ,h1];rfl
 ·have e:gJ s=(eX s.cons&&eX s.bH):=by simp only[gJ,h1];rfl
  rw[e]
  simp at h1
  refine cj ?_
  refine aE (fun k:Nat=>⟨ba [.aa, .ptr 0 0, .aa, .d (.i k)],gf s.row,1⟩)
   (fun k=>k<=s.cons.length/\eX (s.cons.take k)=true) (fun k=>s.cons.length - k) 0 ⟨Nat.zero_le _,by simp[eX]⟩ (bC.d1 _ (aT rfl) ah rfl ?_) (fun k hk=> ?_)
  ·exact cE
  refine cj ?_
  refine aj (fun h2=> ?_) (fun h2=> ?_)
  ·simp at h2
   obtain⟨x,hx⟩:=az h2
   refine js hx ?_
   refine aj (fun h3=> ?_) (fun h3=> ?_)
   ·refine cj ?_
    rw[show eX s.cons=false from cf hx (by simpa using h3)];rfl
   ·refine cj ?_
    refine aq (k+1) ⟨h2,eh hx hk.2 (by simpa using h3)⟩ ah (bC.d1 _ (aT rfl) ah rfl ?_)
    exact cE
  ·simp at h2
   rw[show eX s.cons=true from dK hk.2 h2,Bool.true_and]
   refine cj ?_
   refine aE (fun k:Nat=>⟨ba [.aa, .ptr 0 0, .aa, .aa, .d (.i k)],gf s.row,1⟩)
    (fun k=>k<=s.bH.length/\eX (s.bH.take k)=true) (fun k=>s.bH.length - k) 0 ⟨Nat.zero_le _,by simp[eX]⟩ (bC.d1 _ (aT rfl) ah rfl ?_) (fun k hk=> ?_)
   ·exact cE
   refine cj ?_
   refine aj (fun h4=> ?_) (fun h4=> ?_)
   ·simp at h4
    obtain⟨x,hx⟩:=az h4
    refine js hx ?_
    refine aj (fun h3=> ?_) (fun h3=> ?_)
    ·refine cj ?_
     rw[show eX s.bH=false from cf hx (by simpa using h3)]
    ·refine cj ?_
     refine aq (k+1) ⟨h4,eh hx hk.2 (by simpa using h3)⟩ ah (bC.d1 _ (aT rfl) ah rfl ?_)
     exact cE
   ·simp at h4
    rw[show eX s.bH=true from dK hk.2 h4]
    simp+contextual only[go_sem]
end Go.Proofs.YtnkamdiiakdkgaaGreat
