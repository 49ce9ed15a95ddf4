/-
  A PART OF THE PROOF. Conditions: none.
-/
import Derived.Test.YtnkamdiiakdkgaaGreatEa13
set_option linter.unusedSimpArgs false
set_option linter.unusedVariables false
namespace Go.Proofs.YtnkamdiiakdkgaaGreat
theorem mix:Tryz.prog.follows .mixedOrders=true:=ah
def zn:Tr FD:= .e fun _=> .no
theorem zt{f:Nat->Nat}:Tr.Dy (fun(g:Nat) (d:FD)=>d.Ok Tryz.prog g) zn f:=fun _=>trivial
def YV:Tr FD:=
 (.n .no (.n .no (.n .no (.n .no (.n (.fn 45 c15 [.tmp 4]) (.n .no (.n .no (.n (.fn 15 RF [.tmp 6]) zn zn) zn) (.n (.fn 5 c95 [.cell 2 55]) (.n (.fn 13 RU [.tmp 4]) zn zn) zn)) (.n (.fn 12 c47 [.tmp 3]) (.n .no (.n (.fn 133 Yg [.tmp 6]) zn zn) zn) (.n .no (.n (.fn 17 R3 [.tmp 6]) zn zn) zn))) (.n .no (.n (.fn 16 c39 [.cell 0 27]) (.n (.fn 19 c71 [.tmp 2]) (.n (.fn 27 RN [.tmp 2]) zn zn) zn) (.n (.fn 134 Xx []) (.n (.fn 15 YL [.tmp 6]) zn zn) zn)) (.n (.fn 41 c55 [.tmp 4, .tmp 5, .tmp 6]) zn (.n .no (.n (.fn 14 Sa [.tmp 4]) zn zn) zn)))) (.n (.fn 15 c11 [.tmp 2, .tmp 3]) (.n (.fn 10 c19 [.tmp 2, .tmp 3, .tmp 4]) (.n (.fn 8 c35 [.cell 0 27]) (.n (.fn 30 c67 [.tmp 2]) (.n (.fn 17 RJ [.tmp 3]) zn zn) zn) (.n (.fn 8 c99 [.tmp 3]) (.n (.fn 9 RY [.tmp 4]) zn zn) zn)) (.n .no (.n .no (.n (.fn 19 Yo [.tmp 2]) zn zn) zn) (.n .no (.n (.fn 19 R7 [.tmp 4]) zn zn) zn))) (.n .no (.n .no (.n (.fn 12 c75 [.tmp 4]) (.n (.fn 56 X8 []) zn zn) zn) (.n (.fn 8 RC [.tmp 3]) (.n (.fn 18 RZ [.tmp 4]) zn zn) zn)) (.n .no zn (.n .no (.n (.fn 14 Se [.tmp 4]) zn zn) zn))))) (.n .no (.n .no (.n .no (.n (.fn 26 c33 [.tmp 4]) (.n .no (.n (.fn 9 RH [.tmp 4]) zn zn) zn) (.n (.fn 46 c97 [.tmp 2]) (.n (.fn 8 RW [.tmp 3]) zn zn) zn)) (.n (.fn 50 c49 [.cell 4 90]) (.n (.fn 9 c81 [.tmp 4]) (.n (.fn 84 Yk [.tmp 8]) zn zn) zn) (.n .no (.n (.fn 8 R5 []) zn zn) zn))) (.n .no (.n (.fn 35 c41 [.cell 2 81]) (.n (.fn 11 c73 []) (.n (.fn 52 RQ [.tmp 6]) zn zn) zn) (.n (.fn 24 RA [.tmp 4]) (.n (.fn 6 YP [.tmp 2]) zn zn) zn)) (.n (.fn 5 c57 [.tmp 2]) zn (.n .no (.n (.fn 27 Sc [.tmp 4]) zn zn) zn)))) (.n .no (.n .no (.n (.fn 4 c37 [.cell 0 55]) (.n .no (.n (.fn 9 RL [.tmp 4]) zn zn) zn) (.n (.fn 9 Ry []) (.n (.fn 7 YH [.tmp 2]) zn zn) zn)) (.n .no (.n .no (.n (.fn 32 RR [.tmp 6]) zn zn) zn) (.n .no (.n (.fn 19 R8 [.cell 0 215]) zn zn) zn))) (.n .no (.n (.fn 26 c45 [.tmp 4]) (.n .no (.n (.fn 57 Yc [.tmp 6, .tmp 7]) zn zn) zn) (.n .no (.n (.fn 39 R1 [.cell 4 4]) zn zn) zn)) (.n .no (.n .no (.n (.fn 36 YD [.tmp 2]) zn zn) zn) (.n (.fn 24 RD [.tmp 3]) zn zn)))))) (.n .no (.n .no (.n .no (.n (.fn 84 c16 [.tmp 4, .tmp 5]) (.n (.fn 30 c32 [.tmp 4, .tmp 5]) (.n .no (.n (.fn 18 RG [.tmp 4]) zn zn) zn) (.n (.fn 8 c96 [.cell 4 55]) (.n (.fn 4 RV [.tmp 2]) zn zn) zn)) (.n (.fn 65 c48 [.cell 2 90, .tmp 3]) (.n .no (.n (.fn 17 Yi [.tmp 4]) zn zn) zn) (.n .no (.n (.fn 10 R4 [.tmp 4]) zn zn) zn))) (.n .no (.n (.fn 6 c40 [.tmp 2]) (.n (.fn 4 c72 [.tmp 2]) (.n (.fn 18 RP [.tmp 2]) zn zn) zn) (.n (.fn 8 Xz [.tmp 2]) (.n (.fn 36 YN [.tmp 10]) zn zn) zn)) (.n (.fn 3 c56 [.tmp 2]) zn (.n (.fn 125 XZ []) (.n (.fn 27 Sb [.tmp 4]) zn zn) zn)))) (.n .no (.n (.fn 10 c20 [.tmp 2, .tmp 3, .tmp 4]) (.n (.fn 17 c36 [.cell 2 27]) (.n .no (.n (.fn 43 RK [.cell 4 4, .cell 5 31]) zn zn) zn) (.n (.fn 121 Rx [.tmp 4]) (.n (.fn 76 YF []) zn zn) zn)) (.n .no (.n (.dfr 71 Xs c84 119 11 [.tmp 4, .tmp 5, .tmp 6] [.cell 4 4, .cell 5 37, .cell 6 31] 12 6 6 Xg) (.n (.fn 25 Yq [.tmp 2]) zn zn) zn) (.n .no (.n (.fn 28 YT [.tmp 8, .tmp 9]) zn zn) zn))) (.n .no (.n .no (.n (.fn 8 Z3 [.tmp 2]) (.n (.fn 65 Ya []) zn zn) zn) (.n .no (.n (.fn 7 R0 [.tmp 3]) zn zn) zn)) (.n .no (.n .no (.n (.fn 42 YB []) zn zn) zn) (.n .no (.n (.fn 14 Sf [.tmp 4]) zn zn) zn))))) (.n .no (.n (.fn 178 c10 [.tmp 0]) (.n .no (.n .no (.n .no (.n (.fn 8 RI [.tmp 3]) zn zn) zn) (.n (.fn 9 c98 [.tmp 4]) (.n (.fn 4 RX [.tmp 2]) zn zn) zn)) (.n (.fn 68 c50 [.tmp 2]) (.n (.fn 8 c82 [.tmp 3]) (.n (.fn 168 Ym [.tmp 8, .tmp 9]) zn zn) zn) (.n .no (.n (.fn 14 R6 [.tmp 4]) zn zn) zn))) (.n .no (.n (.fn 101 c42 [.tmp 2]) (.n (.fn 61 c74 [.tmp 2]) (.n (.fn 49 X6 []) zn zn) zn) (.n (.fn 9 RB [.tmp 4]) (.n (.fn 27 YR [.tmp 4]) zn zn) zn)) (.n .no zn (.n .no (.n (.fn 27 Sd [.tmp 4]) zn zn) zn)))) (.n .no (.n .no (.n (.fn 5 c38 [.cell 2 55]) (.n (.fn 76 c70 [.cell 0 27]) (.n (.fn 10 RM [.tmp 4]) zn zn) zn) (.n (.fn 46 Rz [.tmp 4]) (.n (.fn 33 YJ [.tmp 2]) zn zn) zn)) (.n .no (.n .no (.n (.fn 19 RS [.tmp 4]) zn zn) zn) (.n (.fn 19 XW [.tmp 4]) (.n (.fn 14 R9 [.tmp 4]) zn zn) zn))) (.n .no (.n (.fn 9 c46 [.tmp 4]) (.n .no (.n (.fn 32 Ye []) zn zn) zn) (.n .no (.n (.fn 8 R2 []) zn zn) zn)) (.n .no (.n (.fn 8 c94 [.cell 4 55]) (.n (.fn 19 RT [.tmp 4]) zn zn) zn) (.n (.fn 28 RE [.tmp 2]) zn zn)))))))
noncomputable def bJ:Nat->FD:=YV.get
theorem fH:∀g,(bJ g).Ok Tryz.prog g:=
 Tr.xu (p:=fun g d=>d.Ok Tryz.prog g) (f:=fun g=>g) YV
   ⟨trivial,⟨trivial,⟨trivial,⟨trivial,⟨Xi,⟨trivial,⟨trivial,⟨Ob,zt,zt⟩,zt⟩,⟨abJ,⟨Ot,zt,zt⟩,zt⟩⟩,⟨abk,⟨trivial,⟨Yh,zt,zt⟩,zt⟩,⟨trivial,⟨OC,zt,zt⟩,zt⟩⟩⟩,⟨trivial,⟨abg,⟨Xp,⟨Oj,zt,zt⟩,zt⟩,⟨Xy,⟨YM,zt,zt⟩,zt⟩⟩,⟨abo,zt,⟨trivial,⟨OK,zt,zt⟩,zt⟩⟩⟩⟩,⟨Xh,⟨aa7,⟨abc,⟨Xo,⟨Of,zt,zt⟩,zt⟩,⟨Xw,⟨Ox,zt,zt⟩,zt⟩⟩,⟨trivial,⟨trivial,⟨Yp,zt,zt⟩,zt⟩,⟨trivial,⟨OH,zt,zt⟩,zt⟩⟩⟩,⟨trivial,⟨trivial,⟨Xr,⟨X9,zt,zt⟩,zt⟩,⟨N8,⟨Oy,zt,zt⟩,zt⟩⟩,⟨trivial,zt,⟨trivial,⟨OO,zt,zt⟩,zt⟩⟩⟩⟩⟩,⟨trivial,⟨trivial,⟨trivial,⟨Xj,⟨trivial,⟨Od,zt,zt⟩,zt⟩,⟨Xu,⟨Ov,zt,zt⟩,zt⟩⟩,⟨abm,⟨abD,⟨Yl,zt,zt⟩,zt⟩,⟨trivial,⟨OE,zt,zt⟩,zt⟩⟩⟩,⟨trivial,⟨Xl,⟨abx,⟨Om,zt,zt⟩,zt⟩,⟨N6,⟨YQ,zt,zt⟩,zt⟩⟩,⟨abq,zt,⟨trivial,⟨OM,zt,zt⟩,zt⟩⟩⟩⟩,⟨trivial,⟨trivial,⟨abe,⟨trivial,⟨Oh,zt,zt⟩,zt⟩,⟨N4,⟨YI,zt,zt⟩,zt⟩⟩,⟨trivial,⟨trivial,⟨On,zt,zt⟩,zt⟩,⟨trivial,⟨OI,zt,zt⟩,zt⟩⟩⟩,⟨trivial,⟨Xn,⟨trivial,⟨Yd,zt,zt⟩,zt⟩,⟨trivial,⟨OA,zt,zt⟩,zt⟩⟩,⟨trivial,⟨trivial,⟨YE,zt,zt⟩,zt⟩,⟨N9,zt,zt⟩⟩⟩⟩⟩⟩,⟨trivial,⟨trivial,⟨trivial,⟨aa6,⟨aba,⟨trivial,⟨Oc,zt,zt⟩,zt⟩,⟨abK,⟨Ou,zt,zt⟩,zt⟩⟩,⟨abl,⟨trivial,⟨Yj,zt,zt⟩,zt⟩,⟨trivial,⟨OD,zt,zt⟩,zt⟩⟩⟩,⟨trivial,⟨Xk,⟨Xq,⟨Ol,zt,zt⟩,zt⟩,⟨XA,⟨YO,zt,zt⟩,zt⟩⟩,⟨abp,zt,⟨X0,⟨OL,zt,zt⟩,zt⟩⟩⟩⟩,⟨trivial,⟨aa8,⟨abd,⟨trivial,⟨Og,zt,zt⟩,zt⟩,⟨N3,⟨YG,zt,zt⟩,zt⟩⟩,⟨trivial,⟨⟨Xt,Rv⟩,⟨Yr,zt,zt⟩,zt⟩,⟨trivial,⟨YU,zt,zt⟩,zt⟩⟩⟩,⟨trivial,⟨trivial,⟨Rw,⟨Yb,zt,zt⟩,zt⟩,⟨trivial,⟨Oz,zt,zt⟩,zt⟩⟩,⟨trivial,⟨trivial,⟨YC,zt,zt⟩,zt⟩,⟨trivial,⟨OP,zt,zt⟩,zt⟩⟩⟩⟩⟩,⟨trivial,⟨aa2,⟨trivial,⟨trivial,⟨trivial,⟨Oe,zt,zt⟩,zt⟩,⟨Xv,⟨Ow,zt,zt⟩,zt⟩⟩,⟨abn,⟨abE,⟨Yn,zt,zt⟩,zt⟩,⟨trivial,⟨OG,zt,zt⟩,zt⟩⟩⟩,⟨trivial,⟨Xm,⟨aby,⟨X7,zt,zt⟩,zt⟩,⟨N7,⟨YS,zt,zt⟩,zt⟩⟩,⟨trivial,zt,⟨trivial,⟨ON,zt,zt⟩,zt⟩⟩⟩⟩,⟨trivial,⟨trivial,⟨abf,⟨abw,⟨Oi,zt,zt⟩,zt⟩,⟨N5,⟨YK,zt,zt⟩,zt⟩⟩,⟨trivial,⟨trivial,⟨Oo,zt,zt⟩,zt⟩,⟨XY,⟨OJ,zt,zt⟩,zt⟩⟩⟩,⟨trivial,⟨abj,⟨trivial,⟨Yf,zt,zt⟩,zt⟩,⟨trivial,⟨OB,zt,zt⟩,zt⟩⟩,⟨trivial,⟨abI,⟨Oq,zt,zt⟩,zt⟩,⟨Oa,zt,zt⟩⟩⟩⟩⟩⟩⟩
@[go_sem] theorem cellsOf_3:Tryz.prog.cellsOf 3=1:=ah
@[go_sem] theorem bytesOf_3:Tryz.prog.bytesOf 3=8:=ah
@[go_sem] theorem aggT_3:cE Tryz.prog 3=some false:=ah
@[go_sem] theorem infoT_3:(Tryz.prog.info? 3).isSome=true:=ah
@[go_sem] theorem undT_3:Tryz.prog.underlying 3=some (.int .i64):=ah
@[go_sem] theorem eqShape_3:bF Tryz.prog 3=some .int:=ah
@[go_sem] theorem zeroT_3:cg Tryz.prog 3=some [.d (.int .i64 0)]:=ah
@[go_sem] theorem zeroV_3:zeroV Tryz.prog 3=some (.d (.int .i64 0)):=ah
@[go_sem] theorem cellsOf_4:Tryz.prog.cellsOf 4=1:=ah
@[go_sem] theorem aggT_4:cE Tryz.prog 4=some false:=ah
@[go_sem] theorem isBoolT_4:kK Tryz.prog 4=true:=ah
@[go_sem] theorem infoT_4:(Tryz.prog.info? 4).isSome=true:=ah
@[go_sem] theorem zeroT_4:cg Tryz.prog 4=some [.d (.bool false)]:=ah
@[go_sem] theorem zeroV_4:zeroV Tryz.prog 4=some (.d (.bool false)):=ah
@[go_sem] theorem cellsOf_9:Tryz.prog.cellsOf 9=1:=ah
@[go_sem] theorem bytesOf_9:Tryz.prog.bytesOf 9=16:=ah
@[go_sem] theorem aggT_9:cE Tryz.prog 9=some false:=ah
@[go_sem] theorem undT_9:Tryz.prog.underlying 9=some .string:=ah
@[go_sem] theorem eqShape_9:bF Tryz.prog 9=some .str:=ah
@[go_sem] theorem zeroT_9:cg Tryz.prog 9=some [.d (.str [])]:=ah
@[go_sem] theorem sliceT_22:bR Tryz.prog 22=some 102:=ah
@[go_sem] theorem aggT_22:cE Tryz.prog 22=some false:=ah
@[go_sem] theorem undT_22:Tryz.prog.underlying 22=some (.slice 102):=ah
@[go_sem] theorem cellsOf_24:Tryz.prog.cellsOf 24=2:=ah
@[go_sem] theorem aggT_24:cE Tryz.prog 24=some true:=ah
@[go_sem] theorem sliceT_25:bR Tryz.prog 25=some 57:=ah
@[go_sem] theorem aggT_25:cE Tryz.prog 25=some false:=ah
@[go_sem] theorem undT_25:Tryz.prog.underlying 25=some (.slice 57):=ah
@[go_sem] theorem cellsOf_27:Tryz.prog.cellsOf 27=3:=ah
@[go_sem] theorem aggT_27:cE Tryz.prog 27=some true:=ah
@[go_sem] theorem cellsOf_30:Tryz.prog.cellsOf 30=1:=ah
@[go_sem] theorem sliceT_30:bR Tryz.prog 30=some 40:=ah
@[go_sem] theorem aggT_30:cE Tryz.prog 30=some false:=ah
@[go_sem] theorem intT_30:uk Tryz.prog 30=none:=ah
@[go_sem] theorem infoT_30:(Tryz.prog.info? 30).isSome=true:=ah
@[go_sem] theorem undT_30:Tryz.prog.underlying 30=some (.slice 40):=ah
@[go_sem] theorem zeroT_30:cg Tryz.prog 30=some [.a8]:=ah
@[go_sem] theorem cellsOf_31:Tryz.prog.cellsOf 31=1:=ah
@[go_sem] theorem aggT_31:cE Tryz.prog 31=some false:=ah
@[go_sem] theorem infoT_31:(Tryz.prog.info? 31).isSome=true:=ah
@[go_sem] theorem zeroT_31:cg Tryz.prog 31=some [.d (.int .i64 0)]:=ah
@[go_sem] theorem cellsOf_37:Tryz.prog.cellsOf 37=1:=ah
@[go_sem] theorem sliceT_37:bR Tryz.prog 37=some 3:=ah
@[go_sem] theorem aggT_37:cE Tryz.prog 37=some false:=ah
@[go_sem] theorem intT_37:uk Tryz.prog 37=none:=ah
@[go_sem] theorem infoT_37:(Tryz.prog.info? 37).isSome=true:=ah
@[go_sem] theorem undT_37:Tryz.prog.underlying 37=some (.slice 3):=ah
@[go_sem] theorem zeroT_37:cg Tryz.prog 37=some [.a8]:=ah
@[go_sem] theorem cellsOf_38:Tryz.prog.cellsOf 38=1:=ah
@[go_sem] theorem sliceT_38:bR Tryz.prog 38=some 64:=ah
@[go_sem] theorem aggT_38:cE Tryz.prog 38=some false:=ah
@[go_sem] theorem intT_38:uk Tryz.prog 38=none:=ah
@[go_sem] theorem infoT_38:(Tryz.prog.info? 38).isSome=true:=ah
@[go_sem] theorem undT_38:Tryz.prog.underlying 38=some (.slice 64):=ah
@[go_sem] theorem cellsOf_40:Tryz.prog.cellsOf 40=6:=ah
@[go_sem] theorem bytesOf_40:Tryz.prog.bytesOf 40=80:=ah
@[go_sem] theorem aggT_40:cE Tryz.prog 40=some true:=ah
@[go_sem] theorem infoT_40:(Tryz.prog.info? 40).isSome=true:=ah
@[go_sem] theorem zeroT_40:cg Tryz.prog 40=some [.d (.int .i64 0), .d (.int .i64 0), .d (.int .i64 0), .a8, .d (.bool false), .a8]:=ah
@[go_sem] theorem placesT_40:ei Tryz.prog 40=some [(0,1),(1,1),(2,1),(3,1),(4,1),(5,1)]:=ah
@[go_sem] theorem sliceT_49:bR Tryz.prog 49=some 55:=ah
@[go_sem] theorem aggT_49:cE Tryz.prog 49=some false:=ah
@[go_sem] theorem undT_49:Tryz.prog.underlying 49=some (.slice 55):=ah
@[go_sem] theorem aggT_53:cE Tryz.prog 53=some false:=ah
@[go_sem] theorem undT_53:Tryz.prog.underlying 53=some (.int .i64):=ah
@[go_sem] theorem cellsOf_55:Tryz.prog.cellsOf 55=3:=ah
@[go_sem] theorem aggT_55:cE Tryz.prog 55=some true:=ah
@[go_sem] theorem infoT_55:(Tryz.prog.info? 55).isSome=true:=ah
@[go_sem] theorem zeroT_55:cg Tryz.prog 55=some [.d (.int .i64 0), .d (.int .i64 0), .a8]:=ah
@[go_sem] theorem placesT_55:ei Tryz.prog 55=some [(0,1),(1,1),(2,1)]:=ah
@[go_sem] theorem cellsOf_57:Tryz.prog.cellsOf 57=6:=ah
@[go_sem] theorem aggT_57:cE Tryz.prog 57=some true:=ah
@[go_sem] theorem infoT_57:(Tryz.prog.info? 57).isSome=true:=ah
@[go_sem] theorem zeroT_57:cg Tryz.prog 57=some [.d (.int .i64 0), .a8, .d (.int .i64 0), .d (.int .i64 0), .a8, .d (.int .i64 0)]:=ah
@[go_sem] theorem cellsOf_64:Tryz.prog.cellsOf 64=3:=ah
@[go_sem] theorem bytesOf_64:Tryz.prog.bytesOf 64=24:=ah
@[go_sem] theorem aggT_64:cE Tryz.prog 64=some true:=ah
@[go_sem] theorem zeroT_64:cg Tryz.prog 64=some [.d (.int .i64 0), .d (.int .i64 0), .d (.bool false)]:=ah
@[go_sem] theorem placesT_64:ei Tryz.prog 64=some [(0,1),(1,1),(2,1)]:=ah
@[go_sem] theorem cellsOf_81:Tryz.prog.cellsOf 81=4:=ah
@[go_sem] theorem aggT_81:cE Tryz.prog 81=some true:=ah
@[go_sem] theorem infoT_81:(Tryz.prog.info? 81).isSome=true:=ah
@[go_sem] theorem zeroT_81:cg Tryz.prog 81=some [.a8, .a8, .a8, .a8]:=ah
@[go_sem] theorem placesT_81:ei Tryz.prog 81=some [(0,3),(3,1)]:=ah
@[go_sem] theorem cellsOf_88:Tryz.prog.cellsOf 88=4:=ah
@[go_sem] theorem sliceT_88:bR Tryz.prog 88=none:=ah
@[go_sem] theorem arrT_88:uj Tryz.prog 88=some (4,3):=ah
@[go_sem] theorem aggT_88:cE Tryz.prog 88=some true:=ah
@[go_sem] theorem infoT_88:(Tryz.prog.info? 88).isSome=true:=ah
@[go_sem] theorem undT_88:Tryz.prog.underlying 88=some (.array 4 3):=ah
@[go_sem] theorem cellsOf_90:Tryz.prog.cellsOf 90=16:=ah
@[go_sem] theorem sliceT_90:bR Tryz.prog 90=none:=ah
@[go_sem] theorem arrT_90:uj Tryz.prog 90=some (4,88):=ah
@[go_sem] theorem aggT_90:cE Tryz.prog 90=some true:=ah
@[go_sem] theorem zeroT_90:cg Tryz.prog 90=some [.d (.int .i64 0), .d (.int .i64 0), .d (.int .i64 0), .d (.int .i64 0), .d (.int .i64 0), .d (.int .i64 0), .d (.int .i64 0), .d (.int .i64 0), .d (.int .i64 0), .d (.int .i64 0), .d (.int .i64 0), .d (.int .i64 0), .d (.int .i64 0), .d (.int .i64 0), .d (.int .i64 0), .d (.int .i64 0)]:=ah
@[go_sem] theorem cellsOf_102:Tryz.prog.cellsOf 102=2:=ah
@[go_sem] theorem aggT_102:cE Tryz.prog 102=some true:=ah
@[go_sem] theorem infoT_102:(Tryz.prog.info? 102).isSome=true:=ah
@[go_sem] theorem zeroT_102:cg Tryz.prog 102=some [.d (.str []), .d (.int .i64 0)]:=ah
@[go_sem] theorem placesT_102:ei Tryz.prog 102=some [(0,1),(1,1)]:=ah
@[go_sem] theorem cellsOf_104:Tryz.prog.cellsOf 104=1:=ah
@[go_sem] theorem aggT_104:cE Tryz.prog 104=some false:=ah
@[go_sem] theorem infoT_104:(Tryz.prog.info? 104).isSome=true:=ah
@[go_sem] theorem zeroT_104:cg Tryz.prog 104=some [.d .bV]:=ah
@[go_sem] theorem cellsOf_116:Tryz.prog.cellsOf 116=5:=ah
@[go_sem] theorem aggT_116:cE Tryz.prog 116=some true:=ah
@[go_sem] theorem infoT_116:(Tryz.prog.info? 116).isSome=true:=ah
@[go_sem] theorem zeroT_116:cg Tryz.prog 116=some [.d (.int .i64 0), .d (.int .i64 0), .a8, .a8, .d (.bool false)]:=ah
@[go_sem] theorem placesT_116:ei Tryz.prog 116=some [(0,3),(3,1),(4,1)]:=ah
@[go_sem] theorem aggT_140:cE Tryz.prog 140=some false:=ah
@[go_sem] theorem cellsOf_141:Tryz.prog.cellsOf 141=1:=ah
@[go_sem] theorem aggT_141:cE Tryz.prog 141=some false:=ah
@[go_sem] theorem infoT_141:(Tryz.prog.info? 141).isSome=true:=ah
@[go_sem] theorem zeroT_141:cg Tryz.prog 141=some [.d .bV]:=ah
@[go_sem] theorem sliceT_146:bR Tryz.prog 146=some 9:=ah
@[go_sem] theorem intT_146:uk Tryz.prog 146=none:=ah
@[go_sem] theorem undT_146:Tryz.prog.underlying 146=some (.slice 9):=ah
@[go_sem] theorem cellsOf_149:Tryz.prog.cellsOf 149=1:=ah
@[go_sem] theorem aggT_149:cE Tryz.prog 149=some false:=ah
@[go_sem] theorem infoT_149:(Tryz.prog.info? 149).isSome=true:=ah
@[go_sem] theorem zeroT_149:cg Tryz.prog 149=some [.d .bV]:=ah
@[go_sem] theorem cellsOf_166:Tryz.prog.cellsOf 166=1:=ah
@[go_sem] theorem aggT_166:cE Tryz.prog 166=some false:=ah
@[go_sem] theorem infoT_166:(Tryz.prog.info? 166).isSome=true:=ah
@[go_sem] theorem mapT_166:pM Tryz.prog 166=some (9,4):=ah
@[go_sem] theorem zeroT_166:cg Tryz.prog 166=some [.d .gE]:=ah
@[go_sem] theorem cellsOf_172:Tryz.prog.cellsOf 172=1:=ah
@[go_sem] theorem aggT_172:cE Tryz.prog 172=some false:=ah
@[go_sem] theorem infoT_172:(Tryz.prog.info? 172).isSome=true:=ah
@[go_sem] theorem undT_172:Tryz.prog.underlying 172=some (.map 3 3):=ah
@[go_sem] theorem mapT_172:pM Tryz.prog 172=some (3,3):=ah
@[go_sem] theorem zeroT_172:cg Tryz.prog 172=some [.d .gE]:=ah
@[go_sem] theorem cellsOf_198:Tryz.prog.cellsOf 198=1:=ah
@[go_sem] theorem aggT_198:cE Tryz.prog 198=some false:=ah
@[go_sem] theorem infoT_198:(Tryz.prog.info? 198).isSome=true:=ah
@[go_sem] theorem mapT_198:pM Tryz.prog 198=some (3,4):=ah
@[go_sem] theorem zeroT_198:cg Tryz.prog 198=some [.d .gE]:=ah
@[go_sem] theorem cellsOf_214:Tryz.prog.cellsOf 214=1:=ah
@[go_sem] theorem aggT_214:cE Tryz.prog 214=some false:=ah
@[go_sem] theorem infoT_214:(Tryz.prog.info? 214).isSome=true:=ah
@[go_sem] theorem cellsOf_215:Tryz.prog.cellsOf 215=16:=ah
@[go_sem] theorem sliceT_215:bR Tryz.prog 215=none:=ah
@[go_sem] theorem arrT_215:uj Tryz.prog 215=some (16,214):=ah
@[go_sem] theorem aggT_215:cE Tryz.prog 215=some true:=ah
@[go_sem] theorem infoT_215:(Tryz.prog.info? 215).isSome=true:=ah
@[go_sem] theorem zeroT_215:cg Tryz.prog 215=some [.d .bV, .d .bV, .d .bV, .d .bV, .d .bV, .d .bV, .d .bV, .d .bV, .d .bV, .d .bV, .d .bV, .d .bV, .d .bV, .d .bV, .d .bV, .d .bV]:=ah
@[go_sem] theorem placesT_215:ei Tryz.prog 215=some [(0,1),(1,1),(2,1),(3,1),(4,1),(5,1),(6,1),(7,1),(8,1),(9,1),(10,1),(11,1),(12,1),(13,1),(14,1),(15,1)]:=ah
@[go_sem] theorem zeroT_218:cg Tryz.prog 218=some [.a8, .a8]:=ah
@[go_sem] theorem placesT_218:ei Tryz.prog 218=some [(0,2)]:=ah
@[go_sem] theorem fieldT_24_0:bM Tryz.prog 24 0=some 0:=ah
@[go_sem] theorem fieldT_24_1:bM Tryz.prog 24 1=some 1:=ah
@[go_sem] theorem fieldT_27_0:bM Tryz.prog 27 0=some 0:=ah
@[go_sem] theorem fieldT_27_1:bM Tryz.prog 27 1=some 2:=ah
@[go_sem] theorem fieldT_40_0:bM Tryz.prog 40 0=some 0:=ah
@[go_sem] theorem fieldT_40_1:bM Tryz.prog 40 1=some 1:=ah
@[go_sem] theorem fieldT_40_2:bM Tryz.prog 40 2=some 2:=ah
@[go_sem] theorem fieldT_40_3:bM Tryz.prog 40 3=some 3:=ah
@[go_sem] theorem fieldT_40_4:bM Tryz.prog 40 4=some 4:=ah
@[go_sem] theorem fieldT_40_5:bM Tryz.prog 40 5=some 5:=ah
@[go_sem] theorem fieldT_55_0:bM Tryz.prog 55 0=some 0:=ah
@[go_sem] theorem fieldT_55_1:bM Tryz.prog 55 1=some 1:=ah
@[go_sem] theorem fieldT_55_2:bM Tryz.prog 55 2=some 2:=ah
@[go_sem] theorem fieldT_57_0:bM Tryz.prog 57 0=some 0:=ah
@[go_sem] theorem fieldT_57_1:bM Tryz.prog 57 1=some 1:=ah
@[go_sem] theorem fieldT_57_2:bM Tryz.prog 57 2=some 2:=ah
@[go_sem] theorem fieldT_57_3:bM Tryz.prog 57 3=some 5:=ah
@[go_sem] theorem fieldT_81_0:bM Tryz.prog 81 0=some 0:=ah
@[go_sem] theorem fieldT_81_1:bM Tryz.prog 81 1=some 3:=ah
@[go_sem] theorem fieldT_102_0:bM Tryz.prog 102 0=some 0:=ah
@[go_sem] theorem fieldT_102_1:bM Tryz.prog 102 1=some 1:=ah
@[go_sem] theorem fieldT_116_0:bM Tryz.prog 116 0=some 0:=ah
@[go_sem] theorem fieldT_116_1:bM Tryz.prog 116 1=some 3:=ah
@[go_sem] theorem fieldT_116_2:bM Tryz.prog 116 2=some 4:=ah
@[go_sem] theorem fieldT_218_0:bM Tryz.prog 218 0=some 0:=ah
section
def mb(x y:ab):Prop:=(x.bW=true->y.bW=true)/\∀e,x.bT=some e->y.bT=some e
theorem mb.rfl' {x y:ab}(h:x=y):mb x y:=h ▸ ⟨id,fun _ h=>h⟩
theorem mb.fz (x:ab):mb x.fz x:=by cases x<;>exact⟨id,fun _ h=>h⟩
theorem mb.row (cs cs':List V):mb (.row cs) (.row cs'):=⟨fun _=>rfl,fun _ h=>by cases h⟩
mutual
theorem V.mc {B B':Nat->Prop}{φ aE:Place}{H H':Hp}{w:World}(hB:∀b, ¬B b-> ¬B' b):∀ (v:V) (val:Value),(∀id∈v.refs,mb (H'.o id) (H.o id)/\aE id=φ id/\H'.us id)->V.den B φ H w v val->V.den B' aE H' w v val
 | .d x,val,_,h=>D.aL (w:=w) (w':=w) (fun b _ hn=>⟨rfl,hB b hn⟩) x val h
 | .a8,_,_,h=>h
 | .aa,_,_,_=>trivial
 | .ey,_,_,h=>h
 | .px es,val,_,h=>⟨D.aL (w:=w) (w':=w) (fun b _ hn=>⟨rfl,hB b hn⟩) (.sl es) val h.1,h.2⟩
 | .agg cs,val,hr,h=>by
   obtain⟨a,rfl,h1,h2⟩:=h
   exact⟨a,rfl,V.gv hB cs _ uP h1,h2⟩
 | .bP cs,val,hr,h=>by
   obtain⟨a,rfl,h1⟩:=h
   exact⟨a,rfl,V.gv hB cs _ uP h1⟩
 | .ptr id off,val,hr,h=>by
   exact PH
 | .osl id ep,val,hr,h=>by
   obtain⟨a,b,c⟩:=hr id yh
   obtain⟨h0,h1,h2⟩:=h
   refine⟨h0,c,fun e he=> ?_⟩
   obtain⟨x,y⟩:=h2 e (a.2 e he)
   exact⟨x,fun heq=>(y heq).trans b.symm⟩
 | .pe id ep i sz off,val,hr,h=>by
   obtain⟨a,b,c⟩:=hr id yh
   obtain⟨h0,h1,h2⟩:=h
   refine⟨h0,c,fun e he=> ?_⟩
   obtain⟨x,y⟩:=h2 e (a.2 e he)
   exact ML
 | .pp cs off,val,_,h=>by
   obtain⟨a,ev,h1,h2,h3,h5,h4⟩:=h
   exact UD
 | .func fn first cap,val,hr,h=>by
   obtain⟨f,c,rfl,h1,h2⟩:=h
   exact⟨f,c,rfl,V.gv hB first _ (fun id au=>hr id (by simp[V.refs,au])) h1,V.gv hB cap _ (fun id au=>hr id (by simp[V.refs,au])) h2⟩
 | .iface t x,val,hr,h=>by
   obtain⟨u,rfl,h⟩:=h
   exact⟨u,rfl,V.mc hB x u uP h⟩
 | .uU id off n,val,hr,h=>by
   exact PH
 | .mp id,val,hr,h=>by
   obtain⟨a,b,c⟩:=hr id yh
   obtain⟨h0,h1,h2⟩:=h
   refine⟨h0,c,fun bG=> ?_⟩
   exact(h2 (a.1 bG)).trans b.symm
 | .ir id,val,hr,h=>by
   exact PH
theorem V.gv {B B':Nat->Prop}{φ aE:Place}{H H':Hp}{w:World}(hB:∀b, ¬B b-> ¬B' b):∀ (vs:List V) (vals:List Value),(∀id∈V.aJ vs,mb (H'.o id) (H.o id)/\aE id=φ id/\H'.us id)->V.az B φ H w vs vals->V.az B' aE H' w vs vals
 |[],_,_,h=>h
 |v::vs,_,hr,h=>by
  obtain⟨u,us,rfl,h1,h2⟩:=h
  exact⟨u,us,rfl,V.mc hB v u (fun id au=>hr id (by simp[V.aJ,au])) h1,V.gv hB vs us (fun id au=>hr id (by simp[V.aJ,au])) h2⟩
end
mutual
theorem V.mI {B:Nat->Prop}{φ:Place}{H:Hp}{w:World}:∀ (v:V) (val:Value),V.den B φ H w v val->∀id∈v.refs,H.us id
 | .osl id ep,_,h,j,hj| .ptr id off,_,h,j,hj| .pe id ep i sz off,_,h,j,hj| .uU id off n,_,h,j,hj| .mp id,_,h,j,hj| .ir id,_,h,j,hj=>by simp[V.refs]at hj;subst hj;exact h.2.1
 | .agg cs,_,h,j,hj=>by obtain⟨a,rfl,h,_⟩:=h;exact V.gw cs _ h j (by simpa[V.refs]using hj)
 | .bP cs,_,h,j,hj=>by obtain⟨a,rfl,h⟩:=h;exact V.gw cs _ h j (by simpa[V.refs]using hj)
 | .func fn first cap,_,h,j,hj=>by
   obtain⟨f,c,rfl,h1,h2⟩:=h
   rcases List.mem_append.1 (show j∈V.aJ first++V.aJ cap by simpa[V.refs]using hj)with hj|hj
   ·exact V.gw first _ h1 j hj
   ·exact V.gw cap _ h2 j hj
 | .iface t x,_,h,j,hj=>by obtain⟨u,rfl,h⟩:=h;exact V.mI x u h j (by simpa[V.refs]using hj)
 | .d _,_,_,_,hj| .a8,_,_,_,hj| .pp _ _,_,_,_,hj| .aa,_,_,_,hj| .px _,_,_,_,hj| .ey,_,_,_,hj=>by simp[V.refs]at hj
theorem V.gw {B:Nat->Prop}{φ:Place}{H:Hp}{w:World}:∀ (vs:List V) (vals:List Value),V.az B φ H w vs vals->∀id∈V.aJ vs,H.us id
 |[],_,_,j,hj=>by simp[V.aJ]at hj
 |v::vs,_,h,j,hj=>by
  obtain⟨u,us,rfl,h1,h2⟩:=h
  rcases List.mem_append.1 (show j∈v.refs++V.aJ vs by simpa[V.aJ]using hj)with hj|hj
  ·exact V.mI v u h1 j hj
  ·exact V.gw vs us h2 j hj
end
def Ih(so:Nat->ab)(gone:Nat->Prop)(ty:TypeId)(sz:Nat)(es:List D)(x:V):Prop:=
 (x= .a8/\es=[]/\0<sz)\/∃id ep,gone id/\x= .osl id ep/\so id= .arr ep ty sz es
theorem Ii{xs ys:List Nat}:jE xs ys=true↔∀x∈xs,x∉ys:=by
 simp[jE,List.all_eq_true]
def lg(env:Nat->V):List V->Nat->Prop
 |[],_=>True
 |v::l,i=>(v= .aa\/v=env i)/\lg env l (i+1)
theorem Ec{env:Nat->V}{i:Nat}:lg env [] i:=trivial
theorem Bd{env:Nat->V}{l:List V}{i:Nat}(h:lg env l (i+1)):lg env (.aa::l) i:=⟨.inl rfl,h⟩
theorem JW{env:Nat->V}{l:List V}{i:Nat}{v:V}(he:env i=v)(h:lg env l (i+1)):lg env (v::l) i:=⟨.inr he.symm,h⟩
theorem zZ{env:Nat->V}:∀ (l:List V) (i:Nat),lg env l i->∀j,aW l j= .aa\/aW l j=env (i+j)
 |[],i,_,j=>by rw[oL];exact .inl rfl
 |v::l,i,h,0=>by rw[mE];exact h.1
 |v::l,i,h,j+1=>by
  rw[mF]
  have:=zZ l (i+1) h.2 j
  rwa [show i+1+j=i+(j+1) by omega]at this
theorem E8{P:Program}{n bq:Nat}{gq:Operand}{ps:List Nat}{x y:IC}{Q:eK->S->Prop}{e:Nat->V}{o:Nat->ab}{nx:Nat}{f:FuncId}{cap:List V}(env:List V)(he:lg e env 0)
 (h:cZ P f (.ir nx::cap) (aA o nx (.loop P.funcs.size n env ps x y .ready none)) (nx+1)
  (fun _ o' nx'=>∃nf m en p c d st pd,o' nx= .loop nf m en p c d st pd/\st≠ .busy/\nB Q pd ⟨e,aA o' nx (.loop nf m en p c d .exhausted pd),nx'⟩) (fun v o' nx'=>Q (.bD v) ⟨e,o',nx'⟩)):
 xi P n bq false gq ps x y Q ⟨e,o,nx⟩ (.func (.func f) [] cap):=by
 unfold xi ze
 refine⟨rfl, .inl ⟨env,fun i=> ?_, .inl h⟩⟩
 have:=zZ env 0 he i
 rwa [Nat.zero_add]at this
theorem bf.trans {b:Nat}{s s' s'':S}(h1:bf b s s')(h2:bf b s' s''):bf b s s'':=fun M φ w tm hH hd=>by
 obtain⟨aE,a1,a2,a3,a4,a5,a6⟩:=h1 M φ w tm hH hd
 obtain⟨Bj,b1,b2,b3,b4,b5,b6⟩:=h2 M aE w tm a1 a2
 refine⟨Bj,b1,b2,fun k hk=>a3 k (b3 k hk),b4,fun id au hr=> ?_,fun id e' au he=> ?_⟩
 ·obtain⟨c1,c2⟩:=b5 id au hr
  obtain⟨c3,c4⟩:=a5 id au c1
  exact⟨c3,c2.trans c4⟩
 ·obtain⟨e1,c1,c2,c3⟩:=b6 id e' au he
  obtain⟨e0,d1,d2,d3⟩:=a6 id e1 au c1
  exact⟨e0,d1,Nat.le_trans d2 c2,fun h=>(c3 ag).trans (d3 ag)⟩
def nH(P:Program)(n b id:Nat)(eI:IC)(K X:V->(Nat->ab)->Nat->Prop)(e:eK)(s:S):Prop:=
 match e with
 | .normal=>∃nf m en p c d pd,s.o id= .loop nf m en p c d .ready pd/\kN P n b true eI (ja id K X) ⟨s.env,aA s.o id (.loop nf m en p c d .busy pd),s.nx⟩
 | .bD v=>X v s.o s.nx
 |_=>False
theorem dc.aG {P:Program}{n:Nat}(aZ:P.follows .mixedOrders=true){id:Nat}{args:List V}{o:Nat->ab}{nx:Nat}{K X:V->(Nat->ab)->Nat->Prop}{env:List V}{ps:List Nat}{iL eI:IC}{st:LoopState}{pd:Option jh}
 (ho:o id= .loop P.funcs.size n env ps iL eI st pd) (cc:id<nx) (mH:ps.all (fun t=>decide (t<n))=true) (hl:args.length=ps.length)
 (h:kN P n nx true iL (nH P n nx id eI K X) ⟨lZ (aW env) ps args,o,nx⟩):dc P id args o nx K X:=by
 refine dc.sN aZ ho cc mH hl (eL iL _ _ _ (fun e s h=> ?_) h)
 cases e with
 |normal=>
  obtain⟨nf,m,en,p,c,d,pd,h1,h2⟩:=h
  exact⟨nf,m,en,p,c,d,pd,h1,eL eI _ _ _ (fun _ _ h=>h) h2⟩
 |bD v=>exact h
 |_=>exact h.elim
theorem xw{P:Program}{n b id:Nat}{eI:IC}{K X:V->(Nat->ab)->Nat->Prop}{s:S}{nf m:Nat}{en:List V}{p:List Nat}{c d:IC}{pd:Option jh}(h:s.o id= .loop nf m en p c d .ready pd)
 (h2:kN P n b true eI (ja id K X) ⟨s.env,aA s.o id (.loop nf m en p c d .busy pd),s.nx⟩):nH P n b id eI K X .normal s:=⟨nf,m,en,p,c,d,pd,h,h2⟩
def uB:List Nat->Nat->Nat->Nat
 |[],nx,k=>nx+k
 |i::_,_,0=>i
 |_::l,nx,k+1=>uB l nx k
theorem xy:∀ (l:List Nat) (nx k:Nat),uB l nx k∈l\/nx<=uB l nx k
 |[],nx,k=> .inr (Nat.le_add_right _ _)
 |i::_,_,0=> .inl (List.mem_cons_self ..)
 |_::l,nx,k+1=>(xy l nx k).imp (List.mem_cons_of_mem _) id
theorem z7{nx:Nat}:∀ (l:List Nat),l.Nodup->(∀i∈l,i<nx)->∀a b,uB l nx a=uB l nx b->a=b
 |[],_,_,a,b,e=>by simp only[uB]at e;omega
 |i::l,_,_,0,0,_=>rfl
 |i::l,hd,hl,0,b+1,e=>by
  simp only[uB]at e
  rcases xy l nx b with h|h
  ·rw[<- e]at h;exact absurd h (List.nodup_cons.1 hd).1
  ·have:=hl i (List.mem_cons_self ..);omega
 |i::l,hd,hl,a+1,0,e=>by
  simp only[uB]at e
  rcases xy l nx a with h|h
  ·rw[e]at h;exact absurd h (List.nodup_cons.1 hd).1
  ·have:=hl i (List.mem_cons_self ..);omega
 |i::l,hd,hl,a+1,b+1,e=>by
  simp only[uB]at e
  rw[z7 l (List.nodup_cons.1 hd).2 (fun j hj=>hl j (List.mem_cons_of_mem _ hj)) a b e]
def Lr(f:Nat->Nat)(x:List Nat×List Nat):List Nat×List Nat:=(x.1.map f,x.2.map f)
theorem te{f:Nat->Nat}(hf:∀a b,f a=f b->a=b){xs ys:List Nat}(hd:jE xs ys=true):jE (xs.map f) (ys.map f)=true:=by
 rw[Ii]at hd|-
 intro x hx hy
 obtain⟨a,ha,rfl⟩:=List.mem_map.1 hx
 obtain⟨b,hb,e⟩:=List.mem_map.1 hy
 rw[hf b a e]at hb
 exact hd a ha hb
theorem Ca{f:Nat->Nat}(hf:∀a b,f a=f b->a=b){pr:List (List Nat)}(fp:List (List Nat×List Nat))(ho:dH pr fp=true):dH pr (fp.map (Lr f))=true:=by
 unfold dH at ho|-
 rw[List.all_eq_true]at ho|-
 intro j hj
 rw[List.length_map]at hj
 have ho:=ho j hj
 rw[List.all_eq_true]at ho|-
 intro i hi
 have ho:=ho i hi
 have hm:∀k,(fp.map (Lr f)).getD k ([],[])=Lr f (fp.getD k ([],[])):=fun k=>by
  rw[List.getD_eq_getElem?_getD,List.getD_eq_getElem?_getD,List.getElem?_map]
  cases fp[k]? <;>rfl
 rw[hm,hm]
 rw[Bool.or_eq_true]at ho|-
 refine ho.imp (fun h=>h) (fun ho=> ?_)
 rw[Bool.and_eq_true,Bool.and_eq_true]at ho|-
 exact⟨⟨te hf ho.1.1,te hf ho.1.2⟩,te hf ho.2⟩
theorem gN{ids:List Nat}{nx:Nat}(hd:ids.Nodup)(hl:∀i∈ids,i<nx){pr:List (List Nat)}(fp:List (List Nat×List Nat))(ho:dH pr fp=true):dH pr (fp.map (Lr (uB ids nx)))=true:=
 Ca (z7 ids hd hl) fp ho
section
variable {P:Program}{KB:List Nat->Fp->Prop}{pr:List (List Nat)}{l:List bI}{fr:Nat}{fp:Fp}{bad ws:List Nat}{s:S}{d:Option Nat}{op:Op}
end
end
section
structure Gr where
 x:V
 ty:TypeId
 sz:Nat
 es:List D
def Gr.ok (so:Nat->ab)(gone:Nat->Prop)(g:Gr):Prop:=Ih so gone g.ty g.sz g.es g.x
def Ij(c:Nat)(G:List Gr)(so:Nat->ab)(gone:Nat->Prop)(v v':V):Prop:=
 v'= .aa\/(v'=v/\∀r∈v.refs,r<c)\/(∃i g,G[i]? =some g/\v'= .osl (c+i) 0/\v=g.x)\/∃y,v'= .d y/\dp so v=some y/\∀id∈v.ids,gone id/\∀g∈G,∀ep,g.x≠ .osl id ep
def lu(c:Nat)(G:List Gr)(so:Nat->ab)(gone:Nat->Prop)(env:Nat->V):List V->Nat->Prop
 |[],_=>True
 |v::l,i=>Ij c G so gone (env i) v/\lu c G so gone env l (i+1)
def tf(c:Nat)(G:List Gr)(so:Nat->ab)(gone:Nat->Prop):List V->List V->Prop
 |[],[]=>True
 |v::l,v'::l'=>Ij c G so gone v v'/\tf c G so gone l l'
 |_,_=>False
def tg(c:Nat)(G:List Gr)(so:Nat->ab)(gone:Nat->Prop)(x x':ab):Prop:=
 x'= .no\/(x=x'/\∀r∈x'.refs,r<c)\/∃cs cs',x= .row cs/\x'= .row cs'/\tf c G so gone cs cs'
section
variable {c:Nat}{G:List Gr}{so:Nat->ab}{gone:Nat->Prop}
theorem Dz{env:Nat->V}:∀ (l:List V) (i:Nat),lu c G so gone env l i->∀j,Ij c G so gone (env (i+j)) (aW l j)
 |[],i,_,j=>by rw[oL];exact .inl rfl
 |v::l,i,h,0=>by rw[mE];exact h.1
 |v::l,i,h,j+1=>by
  rw[mF]
  have:=Dz l (i+1) h.2 j
  rwa [show i+1+j=i+(j+1) by omega]at this
variable {env:Nat->V}{i:Nat}{l l':List V}{v:V}{y:D}
theorem yd:lu c G so gone env [] i:=trivial
theorem uM(h:lu c G so gone env l (i+1)):lu c G so gone env (.aa::l) i:=⟨.inl rfl,h⟩
theorem wk(he:env i= .d y)(h:lu c G so gone env l (i+1)):lu c G so gone env (.d y::l) i:=⟨.inr (.inl ⟨he.symm,fun r hr=>by rw[he]at hr;simp[V.refs]at hr⟩),h⟩
theorem Gd(he:env i=v)(hr:∀r∈v.refs,r<c)(h:lu c G so gone env l (i+1)):lu c G so gone env (v::l) i:=⟨.inr (.inl ⟨he.symm,fun r wI=>hr r (he ▸ wI)⟩),h⟩
theorem Gc(k:Nat){g:Gr}{n:Nat}(hg:G[k]? =some g)(hn:n=c+k)(he:env i=g.x)(h:lu c G so gone env l (i+1)):lu c G so gone env (.osl n 0::l) i:=⟨.inr (.inr (.inl ⟨k,g,hg,by rw[hn],he⟩)),h⟩
theorem Ge(ht:dp so (env i)=some y)(hi:∀id∈(env i).ids,gone id/\∀g∈G,∀ep,g.x≠ .osl id ep)(h:lu c G so gone env l (i+1)):lu c G so gone env (.d y::l) i:=⟨.inr (.inr (.inr ⟨y,rfl,ht,hi⟩)),h⟩
theorem z8:tf c G so gone [] []:=trivial
theorem Sg(h:tf c G so gone l l'):tf c G so gone (.d y::l) (.d y::l'):=⟨.inr (.inl ⟨rfl,fun r hr=>by simp[V.refs]at hr⟩),h⟩
theorem Ik(k:Nat){g:Gr}{n:Nat}(hg:G[k]? =some g)(hn:n=c+k)(he:v=g.x)(h:tf c G so gone l l'):tf c G so gone (v::l) (.osl n 0::l'):=⟨.inr (.inr (.inl ⟨k,g,hg,by rw[hn],he⟩)),h⟩
theorem bw{x x':ab}(h:x=x')(hr:∀r∈x'.refs,r<c):tg c G so gone x x':= .inr (.inl ⟨h,hr⟩)
theorem Aa{x:ab}{cs cs':List V}(h:x= .row cs)(hr:tf c G so gone cs cs'):tg c G so gone x (.row cs'):= .inr (.inr ⟨cs,cs',h,rfl,hr⟩)
end
theorem oQ{c:Nat}{G:List Gr}{so:Nat->ab}{gone:Nat->Prop}{B B':Nat->Prop}{φ aE:Place}{H H':Hp}{w:World}(hc:∀v v' val,Ij c G so gone v v'->V.den B φ H w v val->V.den B' aE H' w v' val):
 ∀ (l l':List V) (vals:List Value),tf c G so gone l l'->V.az B φ H w l vals->V.az B' aE H' w l' vals
 |[],[],_,_,h=>h
 |v::l,v'::l',_,h,hd=>by
  obtain⟨u,us,rfl,h1,h2⟩:=hd
  exact⟨u,us,rfl,hc _ _ _ h.1 h1,oQ hc l l' us h.2 h2⟩
 |[],_::_,_,h,_=>h.elim
 |_::_,[],_,h,_=>h.elim
def Il(φ:Place)(c:Nat)(G:List Gr):Place:=fun id=>if id<c then φ id else match G[id - c]? with
 |some g=>(match g.x with| .osl j _=>φ j|_=> .slice none 0 0)
 |none=>φ id
theorem bf.see (gone:Nat->Prop)(G:List Gr)(c:Nat){b:Nat}{e:Nat->V}{so:Nat->ab}{m:Nat}(l:List V){o':Nat->ab}{nx':Nat}(ud:nx'=c+G.length)(hb:b<=c)
 (ho:∀id,id<c->tg c G so gone (so id) (o' id)) (hG:∀i g,G[i]? =some g->o' (c+i)= .arr 0 g.ty g.sz g.es/\g.ok so gone) (hh:∀id,nx'<=id->o' id= .no) (vJ:∀id,gone id->id<c->o' id= .no)
 (Qh:∀ (i j:Nat) (gi gj:Gr) (id ep gG:Nat),G[i]? =some gi->G[j]? =some gj->gi.x= .osl id ep->gj.x= .osl id gG->i=j) (he:lu c G so gone e l 0):bf b ⟨e,so,m⟩ ⟨aW l,o',nx'⟩:=by
 subst ud
 intro M φ w tm hH hd
 let aE:Place:=Il φ c G
 let H':Hp:=hp o' (c+G.length)
 let H:Hp:=⟨so,fun id=>id<m⟩
 have E9:∀id,id<c->aE id=φ id:=fun id au=>if_pos au
 have Im:∀i g,G[i]? =some g->aE (c+i)=(match g.x with| .osl j _=>φ j|_=> .slice none 0 0):=fun i g hg=>by
  show Il φ c G (c+i)=_
  unfold Il
  rw[if_neg (by omega),show c+i - c=i by omega,hg]
 have hold:∀id k,(o' id).live=true->cX (aE id)=some k->∃j,(so j).live=true/\cX (φ j)=some k/\((id<c/\j=id)\/∃i g ep,id=c+i/\G[i]? =some g/\gone j/\g.x= .osl j ep):=by
  intro id k h1 h2
  by_cases cc:id<c
  ·rw[E9 id cc]at h2
   rcases ho id cc with h3|⟨h3,_⟩|⟨cs,cs',h3,h4,_⟩
   ·rw[h3]at h1;cases h1
   ·exact⟨id,by rw[h3];exact h1,h2, .inl ⟨cc,rfl⟩⟩
   ·exact⟨id,by rw[h3];rfl,h2, .inl ⟨cc,rfl⟩⟩
  ·by_cases x8:c+G.length<=id
   ·rw[hh id x8]at h1;cases h1
   ·obtain⟨i,rfl⟩:∃i,id=c+i:=⟨id - c,ag⟩
    obtain⟨g,hg⟩:∃g,G[i]? =some g:=⟨G[i]'ag,aK⟩
    rw[Im i g hg]at h2
    obtain⟨_,aU⟩:=hG i g hg
    rcases aU with⟨h3,_,_⟩|⟨j,ep,hj,h3,nO⟩
    ·rw[h3]at h2;cases h2
    ·rw[h3]at h2
     exact⟨j,by rw[nO];rfl,h2, .inr ⟨i,g,ep,rfl,hg,hj,h3⟩⟩
 have cq:∀k,cp aE H' k->cp φ H k:=by
  rintro k ⟨id,h1,h2⟩
  obtain⟨j,g1,g2,_⟩:=hold id k h1 h2
  exact⟨j,g1,g2⟩
 have hB:∀k, ¬ak M φ H k-> ¬ak M aE H' k:=fun k h h'=>h (h'.imp id (cq k))
 have M8:∀id,id<c->mb (H'.o id) (H.o id)/\aE id=φ id/\H'.us id:=fun id au=>by
  refine⟨?_,E9 id au,(by show id<c+G.length;omega)⟩
  show mb (o' id) (so id)
  rcases ho id au with h3|⟨h3,_⟩|⟨cs,cs',h3,h4,_⟩
  ·rw[h3];exact⟨fun h=>(by cases h),fun e h=>(by cases h)⟩
  ·exact mb.rfl' h3.symm
  ·rw[h3,h4];exact mb.row _ _
 have ef:∀ (v:V) (val:Value),(∀r∈v.refs,r<c)->V.den (ak M φ H) φ H w v val->V.den (ak M aE H') aE H' w v val:=fun v val hr h=>
  V.mc (H:=H) (H':=H') hB v val (fun id au=>M8 id (hr id au)) h
 have jR:∀ (v:List V) (val:List Value),(∀r∈V.aJ v,r<c)->V.az (ak M φ H) φ H w v val->V.az (ak M aE H') aE H' w v val:=fun v val hr h=>
  V.gv (H:=H) (H':=H') hB v val (fun id au=>M8 id (hr id au)) h
 have abL:∀ (v:V) (y:D) (val:Value),dp so v=some y->(∀id∈v.ids,gone id/\∀g∈G,∀ep,g.x≠ .osl id ep)->V.den (ak M φ H) φ H w v val->D.den (ak M aE H') w y val:=fun v y val h1 h2 h3=>by
  obtain⟨f1,f2,f3,f4,f5⟩:=cA (H:=H) hH v.ids (fun id au=>cy v val h3 id au)
  have Z4:∀k,cp φ (H.put (bZ H.o v.ids)) k->cp φ H k:=by
   rintro k ⟨id,g1,g2⟩
   by_cases au:id∈v.ids
   ·rw[f3 id au]at g1
    refine⟨id, ?_,g2⟩
    revert g1
    cases H.o id<;>simp[ab.fz,ab.live]
   ·rw[f4 id au]at g1;exact⟨id,g1,g2⟩
  have h4:V.den (ak M φ (H.put (bZ H.o v.ids))) φ (H.put (bZ H.o v.ids)) w v val:=
   V.mc (H:=H) (fun k h h'=>h (h'.imp id (Z4 k))) v val (fun id au=>by
     have dG:H.us id:=(V.mI v val h3) id au
     refine⟨?_,rfl,(f5 id).2 dG⟩
     by_cases hm:id∈v.ids
     ·rw[f3 id hm];exact mb.fz _
     ·rw[f4 id hm];exact mb.rfl' rfl) h3
  have h5:=ek f1 (o:=so) v y val (fun id au=>f3 id au) h1 h4
  refine D.aL (w:=w) (w':=w) (fun k _ hn=>⟨rfl,fun hk=>hn (hk.imp id ?_)⟩) y val h5
  rintro⟨id,g1,g2⟩
  obtain⟨j,k1,k2,k3⟩:=hold id k g1 g2
  refine⟨j, ?_,k2⟩
  have:j∉v.ids:=fun hm=>by
   obtain⟨k4,k5⟩:=h2 j hm
   rcases k3 with⟨k6,k7⟩|⟨i,g,ep,k6,k8,k9,k10⟩
   ·subst k7
    have:=vJ _ k4 k6
    have g1:(o' j).live=true:=g1
    rw[this]at g1
    cases g1
   ·exact k5 g (List.mem_of_getElem? k8) ep k10
  rw[f4 j this];exact k1
 have th:∀i g val,G[i]? =some g->V.den (ak M φ H) φ H w g.x val->V.den (ak M aE H') aE H' w (.osl (c+i) 0) val:=by
  intro i g val hg this
  obtain⟨Be,aU⟩:=hG i g hg
  have cc:c+i<c+G.length:=by have:=(List.getElem?_eq_some_iff.1 hg).1;omega
  rcases aU with⟨h3,_,_⟩|⟨j,ep,hj,h3,nO⟩
  ·rw[h3]at this
   simp only[V.den]at this
   rw[this]
   refine⟨rfl,cc,fun e' nM=> ?_⟩
   have nM:(o' (c+i)).bT=some e':=nM
   rw[Be]at nM
   simp only[ab.bT,Option.some.injEq]at nM
   subst nM
   exact⟨Nat.le_refl _,fun _=>by rw[Im i g hg,h3]⟩
  ·rw[h3]at this
   obtain⟨g1,g2,g3⟩:=this
   refine⟨g1,cc,fun e' nM=> ?_⟩
   have nM:(o' (c+i)).bT=some e':=nM
   rw[Be]at nM
   simp only[ab.bT,Option.some.injEq]at nM
   subst nM
   have um:(H.o j).bT=some ep:=by show(so j).bT=_;rw[nO];rfl
   exact⟨Nat.le_refl _,fun _=>by rw[Im i g hg,h3];exact(g3 ep um).2 rfl⟩
 have OQ:∀v v' val,Ij c G so gone v v'->V.den (ak M φ H) φ H w v val->V.den (ak M aE H') aE H' w v' val:=by
  intro v v' val h h1
  rcases h with rfl|⟨rfl,h2⟩|⟨i,g,hg,rfl,rfl⟩|⟨y,rfl,h2,h3⟩
  ·trivial
  ·exact ef _ _ h2 h1
  ·exact th i g _ hg h1
  ·exact abL v y val h2 h3 h1
 refine⟨aE,⟨fun id=> ?_,fun id hu=>hh id (by have: ¬id<c+G.length:=hu;omega),fun i j k h1 h2 h3 h4=> ?_,fun k hk=>hH.ours k (cq k hk),hH.x5⟩,fun i=> ?_,cq,by show b<=c+G.length;omega,fun id au hr=> ?_,fun id e' au nM=> ?_⟩
 ·have aX:aM M φ H w id:=hH.ok id
  show aM M aE H' w id
  unfold aM at aX|-
  by_cases cc:id<c
  ·rcases ho id cc with h3|⟨h3,hrefs⟩|⟨cs,cs',h3,h4,bG⟩
   ·have e2:H'.o id= .no:=h3
    rw[e2];trivial
   ·have e1:H.o id=o' id:=h3
    have e2:H'.o id=o' id:=rfl
    rw[e1]at aX
    rw[e2,E9 id cc]
    cases F3:o' id with
    |no=>trivial
    |row cs=>
     simp only[F3]at aX hrefs|-
     exact MG
    |arr ep ty sz es=>
     simp only[F3]at aX|-
     obtain⟨k1,xs,k2,evs,k3,k4,k5⟩:=aX
     exact U5
    |qu ep es=>
     simp only[F3]at aX|-
     exact J0
    |map kt vt es=>
     simp only[F3]at aX|-
     obtain⟨b,es',clock,k1,k2,k4,k3⟩:=aX
     exact U3
    |fU l=>
     simp only[F3]at aX|-
     exact J0
    |np l last=>
     simp only[F3]at aX|-
     obtain⟨b,k1,k2⟩:=aX
     exact MA
    |wx s pos=>
     simp only[F3]at aX|-
     exact aX
    |loop nf n env ps a b st pd=>
     simp only[F3]at aX hrefs|-
     exact MY
   ·have e1:H.o id= .row cs:=h3
    have e2:H'.o id= .row cs':=h4
    rw[e1]at aX
    rw[e2,E9 id cc]
    obtain⟨b,dt,ty,k1,k2,k3,k4⟩:=aX
    exact⟨b,dt,ty,k1,k2,oQ OQ _ _ _ bG k3,k4⟩
  ·by_cases x8:c+G.length<=id
   ·have e2:H'.o id= .no:=hh id x8
    rw[e2];trivial
   ·obtain⟨i,rfl⟩:∃i,id=c+i:=⟨id - c,ag⟩
    obtain⟨g,hg⟩:∃g,G[i]? =some g:=⟨G[i]'ag,aK⟩
    obtain⟨Be,aU⟩:=hG i g hg
    have e2:H'.o (c+i)= .arr 0 g.ty g.sz g.es:=Be
    rw[e2]
    rcases aU with⟨h3,h4,dh⟩|⟨j,ep,hj,h3,nO⟩
    ·rw[h4]
     refine⟨dh,[], ?_,[],aK,aK,rfl⟩
     rw[Im i g hg,h3]
     exact World.ownsRow_nil _ _ _ _
    ·have this:aM M φ H w j:=hH.ok j
     unfold aM at this
     have e3:H.o j= .arr ep g.ty g.sz g.es:=nO
     simp only[e3]at this
     obtain⟨k1,xs,k2,evs,k3,k4,k5⟩:=this
     exact⟨k1,xs,by rw[Im i g hg,h3];exact k2,evs,k3,k4,D.aN (fun b _ hn=>⟨rfl,hB b hn⟩) _ _ k5⟩
 ·obtain⟨i',a1,a2,a3⟩:=hold i k h1 h3
  obtain⟨j',b1,b2,b3⟩:=hold j k h2 h4
  have:=hH.apart i' j' k a1 b1 a2 b2
  subst this
  have ku:∀A6,(o' A6).live=true->A6<c->gone A6->False:=fun A6 g1 g2 g3=>by
   rw[vJ _ g3 g2]at g1
   cases g1
  rcases a3 with⟨a3,a4⟩|⟨ia,ga,ea,a3,a4,a5,a6⟩<;>rcases b3 with⟨b3,b4⟩|⟨ib,gb,eb,b3,b4,b5,b6⟩
  ·omega
  ·exact(ku i h1 a3 (a4 ▸ b5)).elim
  ·exact(ku j h2 b3 (b4 ▸ a5)).elim
  ·have:=Qh ia ib ga gb _ _ _ a4 b4 a6 b6
   omega
 ·have hi:=Dz l 0 he i
  rw[Nat.zero_add]at hi
  exact OQ _ _ _ hi (hd i)
 ·have cc:id<c:=ag
  have hr:(o' id).bW=true:=hr
  exact⟨(M8 id cc).1.1 hr,E9 id cc⟩
 ·have cc:id<c:=ag
  have nM:(o' id).bT=some e':=nM
  exact⟨e',(M8 id cc).1.2 e' nM,Nat.le_refl _,fun _=>E9 id cc⟩
theorem bf.YW (gone:Nat->Prop)(c:Nat){b:Nat}{e:Nat->V}{so:Nat->ab}{m:Nat}(l:List V){o':Nat->ab}(hb:b<=c)
 (ho:∀id,id<c->tg c [] so gone (so id) (o' id)) (hh:∀id,c<=id->o' id= .no) (vJ:∀id,gone id->id<c->o' id= .no) (he:lu c [] so gone e l 0):bf b ⟨e,so,m⟩ ⟨aW l,o',c⟩:=
 bf.see gone [] c l rfl hb ho (fun i g h=>by cases h) hh vJ (fun i j gi gj id ep gG h=>by cases h) he
theorem bf.iK (gone:Nat->Prop)(x:V)(c:Nat){ty:TypeId}{sz:Nat}{es:List D}{b:Nat}{e:Nat->V}{so:Nat->ab}{m:Nat}(l:List V){o':Nat->ab}(hb:b<=c)
 (ho:∀id,id<c->tg c [⟨x,ty,sz,es⟩] so gone (so id) (o' id)) (hc:o' c= .arr 0 ty sz es) (hx:Ih so gone ty sz es x) (hh:∀id,c+1<=id->o' id= .no) (vJ:∀id,gone id->id<c->o' id= .no)
 (he:lu c [⟨x,ty,sz,es⟩] so gone e l 0):bf b ⟨e,so,m⟩ ⟨aW l,o',c+1⟩:=
 bf.see gone [⟨x,ty,sz,es⟩] c l rfl hb ho (fun i g h=>by
  match i,h with
  |0,h=>simp at h;subst h;exact⟨hc,hx⟩) hh vJ (fun i j gi gj id ep gG h h' _ _=>by
  match i,j,h,h' with
  |0,0,_,_=>rfl) he
theorem FZ{P:Nat->Prop}(h:P 0):∀id,id<1->P id:=fun id au=>by
 have e:id=0:=ag
 rw[e];exact h
theorem lt0{P:Nat->Prop}:∀id,id<0->P id:=fun id au=>ag
@[go_sem] theorem ace (b:Bool):(b==false)= !b:=yl
@[go_sem] theorem acf (b:Bool):(b==true)=b:=yl
@[go_sem] theorem YX (c:Bool) (v:V):V.xg c (V.xg c v)=V.xg c v:=by cases c<;>rfl
@[go_sem] theorem YY (c:Bool):(c&&c)=c:=by cases c<;>rfl
@[go_sem] theorem T8 {α:Type} (f:α->D) (l:List α) (n:Nat) (h:∀x,(f x).cells.length=n):((l.map f).all fun z=>z.cells.length==n)=true:=by
  simp[List.all_eq_true,h]
attribute [go_sem] implies_true
attribute [go_sem] Option.isSome_none Option.getD_some Option.getD_none
theorem structOf{P:Program}{t:TypeId}(h:(match P.underlying t with|some (.struct _)=>true|_=>false)=true):∃fs,P.underlying t=some (.struct fs):=by
 split at h
 ·exact⟨_,by assumption⟩
 ·cases h
theorem aP{pr:List (List Nat)}{fp:List (List Nat×List Nat)}(h:fp.all (fun x=>x.2.isEmpty)=true):dH pr fp=true:=by
 have e:∀i,(fp.getD i ([],[])).2=[]:=fun i=>by
  rw[List.getD_eq_getElem?_getD]
  cases hi:fp[i]? with
  |none=>rfl
  |some x=>simpa using List.all_eq_true.1 h x (List.mem_of_getElem? hi)
 simp only[dH,List.all_eq_true,e,jE,List.all_nil,Bool.and_self,Bool.or_true,implies_true]
structure cF (base:Nat) (h o:Nat->ab) (nx:Nat):Prop where
 bB:Good o nx
 le:base<=nx
 eq:∀id,id<base->o id=h id
def YZ(base:Nat)(h:Nat->ab)(v:V)(o:Nat->ab)(nx:Nat)(K:V->(Nat->ab)->Nat->Prop):Prop:=
 ∀o' nx',nx<=nx'->cF base h o' nx'->(∀id,base<=id->id<nx->o' id=o id)->K v o' nx'
def jP(P:Program)(g:FuncId)(args:List V)(base:Nat)(h h2:Nat->ab)(v:V):Prop:=
 ∀o nx,cF base h o nx->∀K X,YZ base h2 v o nx K->cZ P g args o nx K X
theorem cF.aA {base:Nat}{h o:Nat->ab}{nx m i:Nat}{x:ab}(hI:cF base h o nx)(hb:base<=i)(hi:i<m)(hm:nx<=m)(hx:x.refs.all (fun r=>decide (r<m))=true):cF base h (YtnkamdiiakdkgaaGreat.aA o i x) m:=
 ⟨(hI.bB.mono hm).aA hi hx,Nat.le_trans hI.le hm,fun id au=>by rw[af _ _ _ _ (by omega)];exact hI.eq id au⟩
theorem cF.mono {base:Nat}{h o:Nat->ab}{nx m:Nat}(hI:cF base h o nx)(hm:nx<=m):cF base h o m:=⟨hI.bB.mono hm,Nat.le_trans hI.le hm,hI.eq⟩
def ext(base:Nat)(h o:Nat->ab):Nat->ab:=fun id=>if id<base then h id else o id
theorem cF.ext {base c:Nat}{h o:Nat->ab}{nx:Nat}(hI:cF base h o nx)(hc:c<=nx)(hb:base<=c):cF c (YtnkamdiiakdkgaaGreat.ext base h o) o nx:=
 ⟨hI.bB,hc,fun id _=>by unfold YtnkamdiiakdkgaaGreat.ext;split<;>first|exact hI.eq id nS|rfl⟩
theorem jP.ext {P:Program}{g:FuncId}{args:List V}{base c:Nat}{h h2:Nat->ab}{v:V}(hS:jP P g args base h h2 v)(hb:base<=c)(o0:Nat->ab):jP P g args c (YtnkamdiiakdkgaaGreat.ext base h o0) (YtnkamdiiakdkgaaGreat.ext base h2 o0) v:=by
 intro o nx hI K X hK
 refine hS o nx ⟨hI.bB,Nat.le_trans hb hI.le,fun id au=>by rw[hI.eq id (by omega)];unfold YtnkamdiiakdkgaaGreat.ext;rw[if_pos au]⟩ K X fun o' nx' h1 h2 h3=>hK o' nx' h1 ⟨h2.bB,Nat.le_trans hI.le h1,fun id au=> ?_⟩ (fun id h4 h5=>h3 id ag h5)
 unfold YtnkamdiiakdkgaaGreat.ext
 split
 ·exact h2.eq id nS
 ·rename_i hn
  rw[h3 id (by omega) (by have:=hI.le;omega),hI.eq id au]
  unfold YtnkamdiiakdkgaaGreat.ext;rw[if_neg hn]
theorem YZ.ext {base c:Nat}{h o:Nat->ab}{v:V}{o1:Nat->ab}{nx x9:Nat}{K:V->(Nat->ab)->Nat->Prop}(hK:YZ base h v o nx K)(hb:base<=c)(hn:nx<=x9)(hc:nx<=c)(ho:∀id,base<=id->id<nx->o1 id=o id):YZ c (YtnkamdiiakdkgaaGreat.ext base h o1) v o1 x9 K:=by
 intro o' nx' h1 h2 h3
 refine hK o' nx' ag ⟨h2.bB,Nat.le_trans hb h2.le,fun id au=> ?_⟩ fun id h4 h5=> ?_
 ·rw[h2.eq id (by omega)];unfold YtnkamdiiakdkgaaGreat.ext;rw[if_pos au]
 ·rw[h2.eq id (by omega), <- ho id h4 h5];unfold YtnkamdiiakdkgaaGreat.ext;rw[if_neg (by omega)]
def aq{α σ:Type}(step:σ->α->σ×Bool)(s:σ):List α->σ×Bool
 |[]=>(s,true)
 |x::l=>if(step s x).2=true then aq step (step s x).1 l else((step s x).1,false)
theorem me{P:Program}{id:Nat}{args:List V}{e:Nat->V}{o:Nat->ab}{nx:Nat}{K X:V->(Nat->ab)->Nat->Prop}(h:dc P id args o nx K X):vy P id K X ⟨e,o,nx⟩ args:=by unfold vy;exact h
theorem fI{α:Type}(f:Nat->α)(i:Nat)(x y:α):aA (aA f i x) i y=aA f i y:=by
 funext j;simp only[aA];split<;>rfl
attribute [go_sem] Int.cast_ofNat_Int
section
variable {P:Program}{n:Nat}{ps:List Nat}{x y:IC}{env:List V}{L:LoopState->Option jh->ab}
def gx(P:Program)(n:Nat)(env:List V)(ps:List Nat)(x y:IC)(L:LoopState->Option jh->ab):Prop:=∀st pd,L st pd= .loop P.funcs.size n env ps x y st pd
theorem Cb{bq:Nat}{gq:Operand}{Q:eK->S->Prop}{e:Nat->V}{o:Nat->ab}{nx:Nat}{f:FuncId}{cap:List V}(env:List V)(he:lg e env 0)
 (h:∀L,gx P n env ps x y L->cZ P f (.ir nx::cap) (aA o nx (L .ready none)) (nx+1)
  (fun _ o' nx'=>∃st pd,o' nx=L st pd/\st≠ .busy/\nB Q pd ⟨e,aA o' nx (L .exhausted pd),nx'⟩) (fun v o' nx'=>Q (.bD v) ⟨e,o',nx'⟩)):
 xi P n bq false gq ps x y Q ⟨e,o,nx⟩ (.func (.func f) [] cap):=by
 refine E8 env he ?_
 have:=h (fun st pd=> .loop P.funcs.size n env ps x y st pd) (fun _ _=>rfl)
 refine this.mono (fun v o' nx' hh=> ?_) (fun v o' nx' hh=>hh)
 obtain⟨st,pd,h1,h2,h3⟩:=hh
 exact⟨_,_,_,_,_,_,_,_,h1,h2,h3⟩
theorem tj(hL:gx P n env ps x y L)(aZ:P.follows .mixedOrders=true){id:Nat}{args:List V}{o:Nat->ab}{nx:Nat}{K X:V->(Nat->ab)->Nat->Prop}{st:LoopState}{pd:Option jh}
 (ho:o id=L st pd) (cc:id<nx) (mH:ps.all (fun t=>decide (t<n))=true) (hl:args.length=ps.length)
 (h:kN P n nx true x (nH P n nx id y K X) ⟨lZ (aW env) ps args,o,nx⟩):dc P id args o nx K X:=
 dc.aG aZ (ho.trans (hL st pd)) cc mH hl h
theorem kb(hL:gx P n env ps x y L){b id:Nat}{eI:IC}{K X:V->(Nat->ab)->Nat->Prop}{e:Nat->V}{o:Nat->ab}{nx:Nat}{pd:Option jh}(h:o id=L .ready pd)
 (h2:kN P n b true eI (ja id K X) ⟨e,aA o id (L .busy pd),nx⟩):nH P n b id eI K X .normal ⟨e,o,nx⟩:=by
 refine xw (h.trans (hL _ _)) ?_
 rw[<- hL];exact h2
theorem Eh(hL:gx P n env ps x y L){id:Nat}{K X:V->(Nat->ab)->Nat->Prop}{e:Nat->V}{o:Nat->ab}{nx:Nat}{st:LoopState}{pd:Option jh}(h:o id=L st pd)(k:K (.d (.bool true)) (aA o id (L .ready none)) nx):ja id K X .normal ⟨e,o,nx⟩:=
 ⟨_,_,_,_,_,_,_,_,h.trans (hL _ _),by rw[<- hL];exact k⟩
theorem Bg(hL:gx P n env ps x y L){id:Nat}{K X:V->(Nat->ab)->Nat->Prop}{e:Nat->V}{o:Nat->ab}{nx:Nat}{st:LoopState}{pd:Option jh}(h:o id=L st pd)(k:K (.d (.bool false)) (aA o id (L .done (some .ret))) nx):ja id K X .ret ⟨e,o,nx⟩:=
 ⟨_,_,_,_,_,_,_,_,h.trans (hL _ _),by rw[<- hL];exact k⟩
theorem yf(hL:gx P n env ps x y L){id j:Nat}{K X:V->(Nat->ab)->Nat->Prop}{e:Nat->V}{o:Nat->ab}{nx:Nat}{st:LoopState}{pd:Option jh}(h:o id=L st pd)(k:K (.d (.bool false)) (aA o id (L .done (some (.exit j)))) nx):ja id K X (.exit j) ⟨e,o,nx⟩:=
 ⟨_,_,_,_,_,_,_,_,h.trans (hL _ _),by rw[<- hL];exact k⟩
theorem gx.no (hL:gx P n env ps x y L)(st:LoopState)(pd:Option jh):L st pd≠ .no:=by rw[hL];exact ab.noConfusion
theorem gx.refs (hL:gx P n env ps x y L)(st:LoopState)(pd:Option jh):(L st pd).refs=V.aJ env:=by rw[hL];rfl
end
end
attribute [go_sem_proc] Int.reduceBEq Int.reduceBNe Int.reduceLT Int.reduceLE Int.reduceEq Int.reduceNe Nat.reducePow Nat.reduceEqDiff Nat.reduceAdd Nat.reduceSub Nat.reduceMul Nat.reduceLeDiff Nat.reduceBEq Nat.reduceLT reduceIte reduceCtorEq Int.reduceToNat
attribute [go_sem] List.range_zero Option.isSome_some and_self List.cons.injEq
theorem yk(n low high:Int):aR Tryz.prog 108 [.i n, .i low, .i high] (.ret [.bool (dQ n low high)]):=by
 refine aR.aG mix XC aK ?_
 rw[XB]
 refine ck ?_
 rfl
theorem Io{t:Tm}{left depth:Int}(h:left<1\/depth<1):gL t left depth= -1:=by cases t;simp[gL,h]
theorem nI{l:List Tm}{left depth:Int}(h:left<0):bY l left depth=left:=by
 cases l with
 |nil=>rfl
 |cons k l=>simp[bY,show ¬ (0<=left) by omega]
theorem Ip:∀t:Tm,∀left depth:Int, -1<=gL t left depth/\(1<=left->gL t left depth<=left - 1)/\(left<1->gL t left depth= -1):=by
 refine Tm.ind fun op n kids ih left depth=> ?_
 have hs:∀ (l:List Tm) (left d:Int),(∀k∈l,k∈kids)-> -1<=left-> -1<=bY l left d/\bY l left d<=left:=by
  intro l
  induction l with
  |nil=>intro left d _ h;simp[bY,h]
  |cons k l tl=>
   intro left d hk h
   simp only[bY]
   split
   ·rename_i h0
    have h1:=ih k (hk k aK) left d
    have h2:=tl (gL k left d) d (fun x hx=>hk x mQ) h1.1
    by_cases hl:1<=left
    ·have:=h1.2.1 hl;omega
    ·have:=h1.2.2 ag;omega
   ·omega
 simp only[gL]
 split
 ·rename_i h;refine⟨ag,fun h1=> ?_,fun _=>rfl⟩;omega
 ·rename_i h
  have:=hs kids (left - 1) (depth - 1) (fun _ h=>h) ag
  exact⟨this.1,fun _=>this.2,fun h=>ag⟩
theorem Fa(l:List Tm)(left d:Int)(h: -1<=left): -1<=bY l left d/\bY l left d<=left:=by
 induction l generalizing left with
 |nil=>simp[bY,h]
 |cons k l tl=>
  simp only[bY]
  split
  ·have h1:=Ip k left d
   have h2:=tl (gL k left d) h1.1
   by_cases hl:1<=left
   ·have:=h1.2.1 hl;omega
   ·have:=h1.2.2 ag;omega
  ·omega
theorem nj(a b:List Tm)(left d:Int):bY (a++b) left d=bY b (bY a left d) d:=by
 induction a generalizing left with
 |nil=>rfl
 |cons k a ih=>
  simp only[List.cons_append,bY]
  split
  ·exact ih _
  ·rename_i h;rw[nI (by omega)]
theorem Ab{l:List Tm}{i:Nat}{k:Tm}(hi:l[i]? =some k)(left d:Int)(h:0<=bY (l.take i) left d):bY (l.take (i+1)) left d=gL k (bY (l.take i) left d) d:=by
 rw[List.take_add_one,hi,nj]
 simp[bY,h]
theorem Ac{l:List Tm}{i:Nat}(left d:Int)(h:bY (l.take i) left d<0):bY l left d=bY (l.take i) left d:=by
 conv=>lhs;rw[<- List.take_append_drop i l]
 rw[nj,nI h]
@[reducible] def hU (cs:List V):Nat->ab:=aA (fun _=> .no) 0 (.row cs)
@[reducible] def xz (cs ds:List V):Nat->ab:=aA (aA (fun _=> .no) 0 (.row cs)) 1 (.row ds)
theorem aS{cs:List V}(h:(ab.row cs).refs.all (fun r=>decide (r<1))=true):Good (hU cs) 1:=(Good.nil (nx:=1)).aA ag h
theorem fj{cs ds:List V}(h:(ab.row cs).refs.all (fun r=>decide (r<2))=true)(h2:(ab.row ds).refs.all (fun r=>decide (r<2))=true):Good (xz cs ds) 2:=((Good.nil (nx:=2)).aA ag h).aA ag h2
theorem bf.d1 {e:Nat->V}{so o:Nat->ab}{m:Nat}(l:List V)(hg:Good o 1)(hm:1<=m)(h0:so 0=o 0)(he:j8 1 e l 0):bf 0 ⟨e,so,m⟩ ⟨aW l,o,1⟩:=
 bf.bC l (Nat.zero_le _) hm hg (fun id h=>by obtain rfl:id=0:=ag
                                             exact h0) he
theorem bf.d2 {e:Nat->V}{so o:Nat->ab}{m:Nat}(l:List V)(hg:Good o 2)(hm:2<=m)(h0:so 0=o 0)(h1:so 1=o 1)(he:j8 2 e l 0):bf 0 ⟨e,so,m⟩ ⟨aW l,o,2⟩:=
 bf.bC l (Nat.zero_le _) hm hg (fun id h=>by
  rcases(by omega:id=0\/id=1)with rfl|rfl
  ·exact h0
  ·exact h1) he
@[reducible] def Tm.row (t:Tm):List V:=[.d (.i t.op), .d (.i t.n), .d (.sl (t.kids.map Tm.d))]
theorem Ad(t:Tm)(left depth:Int):gL t left depth=if left<1\/depth<1 then -1 else bY t.kids (left - 1) (depth - 1):=by cases t;simp[gL,Tm.kids]
theorem DA:∀t:Tm,t.fits->∀left depth:Int, -1<=left/\left<=1000000-> -1<=depth/\depth<=1000000->aR Tryz.prog 86 [t.d, .i left, .i depth] (.ret [.i (gL t left depth)]):=by
 refine Tm.dy fun t ih hf left depth hl hd=> ?_
 have jG:=(Tm.bg _).1 hf
 refine aR.aG mix abF aK ?_
 rw[c86]
 refine ck ?_
 refine ai (fun h1=> ?_) (fun h1=> ?_)
 ·refine ck ?_
  simp at h1
  rw[Io h1]
 ·simp at h1
  refine ck ?_
  rw[wrap64 (n:=left - 1) (by omega) (by omega),Ad,if_neg (by omega)]
  refine aC (fun k:Nat=>⟨aW [.aa, .d (.i (bY (t.kids.take k) (left - 1) (depth - 1))), .d (.i depth), .ptr 0 0, .aa, .aa, .aa, .d (.i k)],hU t.row,1⟩)
   (fun k=>k<=t.kids.length) (fun k=>t.kids.length - k) 0 (Nat.zero_le _) (bf.d1 _ (aS rfl) ag rfl ?_) (fun k hk=> ?_)
  ·exact cN
  have hb:=Fa (t.kids.take k) (left - 1) (depth - 1) ag
  refine ck ?_
  refine ai (fun h2=> ?_) (fun h2=> ?_)
  ·simp at h2
   obtain⟨x,hx⟩:∃x,t.kids[k]? =some x:=⟨t.kids[k],by simp[h2.1]⟩
   have eC:=List.mem_of_getElem? hx
   refine jj hx ?_
   rw[wrap64 (n:=depth - 1) (by omega) (by omega)]
   refine aD (ih x eC (jG.2 x eC) _ _ ag ag) rfl ?_
   refine ck ?_
   rw[<- Ab hx _ _ h2.2]
   refine aj (k+1) h2.1 ag (bf.d1 _ (aS rfl) ag rfl ?_)
   exact cN
  ·refine ck ?_
   simp only[Bool.and_eq_false_iff,decide_eq_false_iff_not]at h2
   congr 3
   rcases h2 with h2|h2
   ·rw[List.take_of_length_le (by omega)]
   ·exact Ac _ _ ag
theorem Sh(s:List UInt8)(hs:s.length<=9223372036854775807):aR Tryz.prog 151 [.str s] (.ret [.bool (iY s)]):=by
 refine aR.aG mix Yt aK ?_
 rw[Ys]
 refine ck ?_
 refine aC (fun k:Nat=>⟨aW [.d (.str s), .aa, .aa, .d (.i k)],fun _=> .no,0⟩)
  (fun k=>k<=s.length/\(s.take k).all letterF=true) (fun k=>s.length - k) 0 ⟨Nat.zero_le _,aK⟩ (bf.d0 _ ?_) (fun k hk=> ?_)
 ·exact cN
 refine ck ?_
 refine ai (fun h2=> ?_) (fun h2=> ?_)
 ·simp at h2
  obtain⟨x,hx⟩:∃x,s[k]? =some x:=⟨s[k],by simp[h2]⟩
  refine jj hx ?_
  refine ai (fun h3=> ?_) (fun h3=> ?_)
  ·refine ck ?_
   have:iY s=false:=by
    have:s.all letterF=false:=by
     rw[List.all_eq_false]
     refine⟨x,List.mem_of_getElem? hx, ?_⟩
     simp only[letterF,h3];simp
    simp[iY,this]
   rw[this]
  ·refine ck ?_
   refine aj (k+1) ⟨h2, ?_⟩ ag (bf.d0 _ ?_)
   ·rw[List.take_add_one,hx,List.all_append,hk.2]
    simp[letterF,h3]
   ·exact cN
 ·refine ck ?_
  refine aD (yk _ _ _) rfl ?_
  refine ck ?_
  simp at h2
  have:=hk.2
  rw[List.take_of_length_le (by omega)]at this
  simp[iY,this]
theorem DB(l:List il)(bs:List (List UInt8))(hl:l.length<=1000)(hb:bs.length<=1000)(hs:∀x∈l,x.name.length<=9223372036854775807):
 aR Tryz.prog 109 [.sl (l.map il.d), .sl (bs.map .str)] (.ret [.sl (((bN l bs).getD []).map .str), .bool (bN l bs).isSome]):=by
 refine aR.aG mix XF aK ?_
 rw[XE]
 refine ck ?_
 refine aC (fun k:Nat=>⟨aW [.d (.sl (l.map il.d)), .d (.sl ((bs++(l.take k).map (·.name)).map .str)), .aa, .aa, .aa, .aa, .d (.i k)],fun _=> .no,0⟩)
  (fun k=>k<=l.length/\bN l bs=bN (l.drop k) (bs++(l.take k).map (·.name))) (fun k=>l.length - k) 0 ⟨Nat.zero_le _,aK⟩ (bf.d0 _ ?_) (fun k hk=> ?_)
 ·simp only[List.take_zero,List.map_nil,List.append_nil]
  exact cN
 refine ck ?_
 refine ai (fun h2=> ?_) (fun h2=> ?_)
 ·simp at h2
  obtain⟨x,hx⟩:∃x,l[k]? =some x:=⟨l[k],by simp[h2]⟩
  have eC:=List.mem_of_getElem? hx
  have zx:l.drop k=x::l.drop (k+1):=by
   rw[List.drop_eq_getElem_cons h2]
   rw[List.getElem?_eq_getElem h2]at hx;injection hx with hx;rw[hx]
  generalize hB:bs++(l.take k).map (·.name)=B at*
  have hBl:B.length<=2000:=by rw[<- hB];simp;omega
  refine ck ?_
  refine aC (fun j:Nat=>⟨aW [.d (.sl (l.map il.d)), .d (.sl (B.map .str)), .aa, .aa, .aa, .aa, .d (.i k), .d (.i j)],fun _=> .no,0⟩)
   (fun j=>j<=B.length/\(B.take j).any (· ==x.name)=false) (fun j=>B.length - j) 0 ⟨Nat.zero_le _,aK⟩ (bf.d0 _ ?_) (fun j hj=> ?_)
  ·exact cN
  refine ck ?_
  refine ai (fun h3=> ?_) (fun h3=> ?_)
  ·simp at h3
   obtain⟨y,hy⟩:∃y,B[j]? =some y:=⟨B[j],by simp[h3]⟩
   simp+contextual only[go_sem,hx,hy]
   refine aO cl ?_
   refine ck ?_
   refine ai (fun h4=> ?_) (fun h4=> ?_)
   ·refine ck ?_
    have:bN l bs=none:=by
     rw[hk.2,zx,bN,if_pos]
     rw[List.any_eq_true]
     exact⟨y,List.mem_of_getElem? hy,h4⟩
    rw[this];rfl
   ·refine ck ?_
    refine aj (j+1) ⟨h3, ?_⟩ ag (bf.d0 _ ?_)
    ·rw[List.take_add_one,hy,List.any_append,hj.2]
     simp only[Option.toList_some,List.any_cons,h4,List.any_nil,Bool.or_false]
    ·exact cN
  ·simp at h3
   have Si:=hj.2
   rw[List.take_of_length_le (by omega)]at Si
   refine jj hx ?_
   refine aD (Sh x.name (hs x eC)) rfl ?_
   refine jj hx ?_
   refine eT (dX [.bool (dQ x.args 0 4)] ?_ ?_)
   ·refine ck ?_
    exact CI
   refine ck ?_
   refine ai (fun h4=> ?_) (fun h4=> ?_)
   ·refine ck ?_
    have:bN l bs=none:=by
     rw[hk.2,zx,bN,if_neg (by rw[Si];exact Bool.false_ne_true),if_pos h4]
    rw[this];rfl
   ·have e1:B.length<=140737488355328:=ag
    have e2:B.length*16<=140737488355328:=ag
    have e3:B.length<=140737488355327:=ag
    have e4:(B.length+1)*16<=140737488355328:=ag
    simp+contextual only[go_sem,hx,e1,e2,e3,e4]
    refine aO cl ?_
    refine ck ?_
    have hn:bN l bs=bN (l.drop (k+1)) (bs++(l.take (k+1)).map (·.name)):=by
     rw[hk.2,zx,bN,if_neg (by rw[Si];exact Bool.false_ne_true),if_neg (by rw[h4];exact Bool.false_ne_true), <- hB,List.take_add_one,hx]
     simp
    refine aj (k+1) ⟨h2,hn⟩ ag (bf.YW (fun _=>True) 0 _ (Nat.le_refl _) lt0 (fun _ _=>rfl) (fun _ _ _=>rfl) ?_)
    have ZH:(bs++(l.take (k+1)).map (·.name)).map D.str=B.map D.str++[D.str x.name]:=by
     rw[<- hB,List.take_add_one,hx];simp
    rw[ZH]
    exact qp
 ·refine ck ?_
  simp at h2
  have:bN l bs=some (bs++l.map (·.name)):=by
   rw[hk.2,List.drop_eq_nil_of_le (by omega),bN,List.take_of_length_le (by omega)]
  rw[this,List.take_of_length_le (by omega)]
  rfl
theorem Sj(a b:List UInt8)(m n:Int):nN Tryz.prog 100 102 (.agg [.str a, .i m]) (.agg [.str b, .i n])=some (a==b&&m==n):=by
 have h1:bF Tryz.prog 102=some (.struct [(9,0),(3,1)]):=ah
 have h2:bF Tryz.prog 9=some .str:=ah
 have h3:bF Tryz.prog 3=some .int:=ah
 have h4:cE Tryz.prog 9=some false:=ah
 have h5:cE Tryz.prog 3=some false:=ah
 simp[nN,h1,h2,h3,h4,h5,uW,M3,fQ,En]
@[go_sem] theorem abM (o:Nat->ab) (mS:Bool) (a b:List UInt8) (m n:Int):ua Tryz.prog o 102 mS (.d (.agg [.str a, .i m])) (.d (.agg [.str b, .i n]))=some (.d (.bool (a==b&&m==n))):=by
  obtain⟨fs,h⟩:∃fs,Tryz.prog.underlying 102=some (.struct fs):=structOf ah
  have h2:Tryz.prog.eqGuardType Tryz.prog.depth 102=false:=ah
  unfold ua
  rw[h]
  dsimp only
  rw[if_pos h2,Sj]
  rfl
theorem Fb{l:List il}{bs B:List (List UInt8)}(h:bN l bs=some B):B=bs++l.map (·.name):=by
 induction l generalizing bs with
 |nil=>simp[bN]at h;simp[h]
 |cons x l ih=>
  simp only[bN]at h
  split at h
  ·cases h
  ·split at h
   ·cases h
   ·rw[ih h];simp
structure bE.Fits (s:bE):Prop where
 lc:s.cons.length<=9223372036854775807
 lf:s.bu.length<=9223372036854775807
 nc:∀x∈s.cons,x.name.length<=9223372036854775807
 nf:∀x∈s.bu,x.name.length<=9223372036854775807
theorem Y0(s:bE)(hs:s.Fits):aR Tryz.prog 77 [s.d] (.ret [.bool (iw s)]):=by
 refine aR.aG mix abz aK ?_
 rw[c77]
 refine ck ?_
 refine aD (yk _ _ _) rfl ?_
 refine ck ?_
 cases h1:(!dQ s.cons.length 2 12||decide (8<(s.bu.length:Int)))with
 |true=>
  refine jj h1 ?_
  simp only[iw,h1,if_true]
 |false=>
  simp[dQ]at h1
  obtain⟨a,b,r,hc⟩:∃a b r,s.cons=a::b::r:=by
   match h:s.cons with
   |[]=>exact CJ
   |[a]=>exact CJ
   |a::b::r=>exact⟨a,b,r,rfl⟩
  have om:(!dQ s.cons.length 2 12||decide (8<(s.bu.length:Int)))=false:=by simp[dQ];omega
  simp+contextual only[go_sem,om,hc]
  have Fc:iw s=if(!lq a fB|| !lq b tB)=true then false else match bN s.cons []with
   |none=>false
   |some l=>(bN s.bu l).isSome:=by
   unfold iw
   rw[if_neg (by rw[om];exact Bool.false_ne_true),hc]
   dsimp only
   rfl
  refine ai (fun h2=> ?_) (fun h2=> ?_)
  ·refine ck ?_
   have yU:(!lq a fB|| !lq b tB)=true:=h2
   rw[Fc,if_pos yU]
  ·refine jj hc ?_
   have hl:(a::b::r).length<=1000:=by rw[<- hc];omega
   have ZG:=DB (a::b::r) [] hl aK (by rw[<- hc];exact hs.nc)
   simp only[List.map_cons,List.map_nil]at ZG
   refine bz ZG ?_
   have yU:(!lq a fB|| !lq b tB)=false:=h2
   rw[Fc,if_neg (by rw[yU];exact Bool.false_ne_true),hc]
   cases hn:bN (a::b::r) []with
   |none=>simp+contextual only[go_sem,hn]
   |some B=>
    refine jj hn ?_
    have hB:B.length<=1000:=by
     have:=Fb hn
     rw[this];simp at hl|-;omega
    have abN:=DB s.bu B ag hB hs.nf
    refine bz abN ?_
    simp+contextual only[go_sem]
theorem Bf{l:List il}{n:Int}{x:il}(h:l[n.toNat]? =some x):eU l n=x.args:=by simp[eU,h]
theorem wo{l:List il}{n:Int}(h:dQ n 0 (l.length - 1)=true):0<=n/\∃x,l[n.toNat]? =some x:=by
 simp[dQ]at h
 exact⟨h.1,l[n.toNat]'ag,aK⟩
theorem Sk(s:bE)(t:Tm)(hs:s.Fits)(ht:t.kids.length<=9223372036854775807):aR Tryz.prog 122 [s.d,t.d] (.ret [.bool (bd s t)]):=by
 refine aR.aG mix X2 aK ?_
 rw[X1]
 refine ck ?_
 rcases(by omega:t.op=1\/t.op=2\/t.op=3\/t.op=4\/t.op=5\/t.op=8\/(t.op=6\/t.op=7\/t.op=9\/t.op=10\/t.op=11\/t.op=12\/t.op=13\/t.op=14\/t.op=15)\/(t.op<1\/15<t.op))with h|h|h|h|h|h|h|h
 ·have hn:bd s t=((t.kids.length:Int)==0&&dQ t.n 0 19):=by simp[bd,h]
  refine jj h ?_
  refine eT (dX [.bool (dQ t.n 0 19)] ?_ ?_)
  ·refine ck ?_
   exact CI
  refine jj h ?_
  rw[hn]
 ·have hn:bd s t=((t.kids.length:Int)==0&&dQ t.n (-1000000) 1000000):=by simp[bd,h]
  refine jj h ?_
  refine eT (dX [.bool (dQ t.n (-1000000) 1000000)] ?_ ?_)
  ·refine ck ?_
   exact CI
  refine jj h ?_
  rw[hn]
 ·have hn:bd s t=(dQ t.n 0 (s.cons.length - 1)&&(t.kids.length:Int)==eU s.cons t.n):=by simp[bd,h]
  refine jj h ?_
  rw[wrap64 (by have:=hs.lc;omega) (by have:=hs.lc;omega)]
  refine aD (yk _ _ _) rfl ?_
  cases hI:dQ t.n 0 (s.cons.length - 1)with
  |false=>
   exact PZ
  |true=>
   exact PK
 ·have hn:bd s t=(dQ t.n 0 (s.bu.length - 1)&&(t.kids.length:Int)==eU s.bu t.n):=by simp[bd,h]
  refine jj h ?_
  rw[wrap64 (by have:=hs.lf;omega) (by have:=hs.lf;omega)]
  refine aD (yk _ _ _) rfl ?_
  cases hI:dQ t.n 0 (s.bu.length - 1)with
  |false=>
   exact PZ
  |true=>
   exact PK
 ·have hn:bd s t=(dQ t.n 0 (s.bu.length - 1)&&decide ((t.kids.length:Int)<eU s.bu t.n)):=by simp[bd,h]
  refine jj h ?_
  rw[wrap64 (by have:=hs.lf;omega) (by have:=hs.lf;omega)]
  refine aD (yk _ _ _) rfl ?_
  cases hI:dQ t.n 0 (s.bu.length - 1)with
  |false=>
   exact PZ
  |true=>
   exact PK
 ·have hn:bd s t=((t.kids.length:Int)==2&&dQ t.n 0 19):=by simp[bd,h]
  refine jj h ?_
  refine eT (dX [.bool (dQ t.n 0 19)] ?_ ?_)
  ·refine ck ?_
   exact CI
  refine jj h ?_
  rw[hn]
 ·have hn:bd s t=((t.kids.length:Int)==2&&t.n==0):=by
   rcases h with h|h|h|h|h|h|h|h|h<;>simp[bd,h,dQ]
  rw[hn]
  rcases h with h|h|h|h|h|h|h|h|h<;>simp+contextual only[go_sem,h]
 ·have hn:bd s t=false:=by
   simp[bd,dQ,show ¬ (t.op=1) by omega,show ¬ (t.op=2) by omega,show ¬ (t.op=3) by omega,show ¬ (t.op=4) by omega,show ¬ (t.op=5) by omega,show ¬ (t.op=8) by omega,show ¬ (6<=t.op/\t.op<=15) by omega]
  have e:∀k:Int,1<=k->k<=15->(t.op==k)=false:=fun k h1 h2=>by simp;omega
  simp+contextual only[go_sem,e 1 (by omega) (by omega),e 2 (by omega) (by omega),e 3 (by omega) (by omega),e 4 (by omega) (by omega),e 5 (by omega) (by omega),e 6 (by omega) (by omega),e 7 (by omega) (by omega),e 8 (by omega) (by omega),e 9 (by omega) (by omega),e 10 (by omega) (by omega),e 11 (by omega) (by omega),e 12 (by omega) (by omega),e 13 (by omega) (by omega),e 14 (by omega) (by omega),e 15 (by omega) (by omega)]
  rw[hn]
theorem qa(s:bE)(t:Tm):iZ s t=(bd s t&&t.kids.all (iZ s)):=by
 have:∀l:List Tm,rK s l=l.all (iZ s):=fun l=>by
  induction l with
  |nil=>rfl
  |cons k l ih=>simp[rK,ih]
 cases t;simp[iZ,this,Tm.kids]
theorem cj{α:Type}{l:List α}{p:α->Bool}{k:Nat}{x:α}(hx:l[k]? =some x)(h:p x=false):l.all p=false:=by
 rw[List.all_eq_false];exact⟨x,List.mem_of_getElem? hx,by rw[h];exact Bool.false_ne_true⟩
theorem eD{α:Type}{l:List α}{p:α->Bool}{k:Nat}{x:α}(hx:l[k]? =some x)(h0:(l.take k).all p=true)(h:p x=true):(l.take (k+1)).all p=true:=by
 rw[List.take_add_one,hx,List.all_append,h0];simp[h]
theorem dY{α:Type}{l:List α}{p:α->Bool}{k:Nat}(h0:(l.take k).all p=true)(h:l.length<=k):l.all p=true:=by
 rwa [List.take_of_length_le h]at h0
theorem aB{α:Type}{l:List α}{k:Nat}(h:k<l.length):∃x,l[k]? =some x:=⟨l[k],by simp[h]⟩
@[reducible] def bE.row (s:bE):List V:=[.d (.sl (s.cons.map il.d)), .d (.sl (s.bu.map il.d))]
theorem Ls(s:bE)(hs:s.Fits):∀t:Tm,t.fits->aR Tryz.prog 87 [s.d,t.d] (.ret [.bool (iZ s t)]):=by
 refine Tm.dy fun t ih hf=> ?_
 have jG:=(Tm.bg _).1 hf
 refine aR.aG mix abG aK ?_
 rw[c87]
 refine ck ?_
 refine aD (Sk s t hs jG.1) rfl ?_
 refine ck ?_
 rw[qa]
 refine ai (fun h1=> ?_) (fun h1=> ?_)
 ·refine ck ?_
  simp at h1;simp[h1]
 ·simp at h1
  rw[h1,Bool.true_and]
  refine ck ?_
  refine aC (fun k:Nat=>⟨aW [.aa, .aa, .ptr 0 0, .ptr 1 0, .aa, .d (.i k)],xz s.row t.row,2⟩)
   (fun k=>k<=t.kids.length/\(t.kids.take k).all (iZ s)=true) (fun k=>t.kids.length - k) 0 ⟨Nat.zero_le _,aK⟩ (bf.d2 _ (fj rfl rfl) ag rfl rfl ?_) (fun k hk=> ?_)
  ·exact cN
  refine ck ?_
  refine ai (fun h2=> ?_) (fun h2=> ?_)
  ·simp at h2
   obtain⟨x,hx⟩:=aB h2
   have eC:=List.mem_of_getElem? hx
   refine jj hx ?_
   refine aQ (ih x eC (jG.2 x eC)) rfl ?_
   refine ck ?_
   refine aO cl ?_
   refine ck ?_
   refine ai (fun h3=> ?_) (fun h3=> ?_)
   ·refine ck ?_
    simp at h3
    rw[cj hx h3]
   ·refine ck ?_
    simp at h3
    refine aj (k+1) ⟨h2,eD hx hk.2 h3⟩ ag (bf.d2 _ (fj rfl rfl) ag rfl rfl ?_)
    exact cN
  ·refine ck ?_
   simp at h2
   rw[dY hk.2 h2]
theorem Iq(s:bE)(hs:s.Fits)(t:Tm)(hf:t.fits):aR Tryz.prog 61 [s.d,t.d] (.ret [.bool (eG s t)]):=by
 refine aR.aG mix abt aK ?_
 rw[c61]
 refine ck ?_
 refine aD (DA t hf 40 12 ag ag) rfl ?_
 refine ck ?_
 refine eT (dX [.bool (iZ s t)] ?_ ?_)
 ·refine ck ?_
  exact fun _=>Ls s hs t hf
 refine ck ?_
 rfl
theorem ke:∀l l':List Tm,l.length=l'.length->(gZ l l'=true↔∀ (i:Nat) (x y:Tm),l[i]? =some x->l'[i]? =some y->fF x y=true)
 |[],l',_=>by simp[gZ]
 |k::l,k'::l',h=>by
  simp only[gZ,Bool.and_eq_true]
  rw[ke l l' (by simpa using h)]
  constructor
  ·rintro⟨h1,h2⟩ i x y hx hy
   cases i with
   |zero=>simp at hx hy;subst hx;subst hy;exact h1
   |succ i=>exact h2 i x y uS (by simpa using hy)
  ·intro h3
   exact⟨h3 0 k k' rfl rfl,fun i x y hx hy=>h3 (i+1) x y uS (by simpa using hy)⟩
 |_::_,[],h=>by simp at h
theorem Ae(a b:Tm):fF a b=(a.op==b.op&&a.n==b.n&&a.kids.length==b.kids.length&&gZ a.kids b.kids):=by cases a;cases b;simp[fF,Tm.op,Tm.n,Tm.kids]
theorem Ir:∀a:Tm,a.fits->∀b:Tm,b.fits->aR Tryz.prog 30 [a.d,b.d] (.ret [.bool (fF a b)]):=by
 refine Tm.dy fun t ih hf b hb=> ?_
 have jG:=(Tm.bg _).1 hf
 have Kg:=(Tm.bg _).1 hb
 refine aR.aG mix aa9 aK ?_
 rw[c30,Ae]
 refine ck ?_
 refine ai (fun h1=> ?_) (fun h1=> ?_)
 ·refine ck ?_
  have:(t.op==b.op&&t.n==b.n&&t.kids.length==b.kids.length)=false:=by
   rw[Bool.eq_false_iff]
   intro h
   simp at h
   simp[h]at h1
  rw[this];rfl
 ·have om:t.op=b.op/\t.n=b.n/\t.kids.length=b.kids.length:=by
   simp at h1
   refine⟨h1.1.1,h1.1.2,by have:=h1.2;omega⟩
  rw[show(t.op==b.op&&t.n==b.n&&t.kids.length==b.kids.length)=true by simp[om],Bool.true_and]
  have hl:=om.2.2
  refine ck ?_
  refine aC (fun k:Nat=>⟨aW [.aa, .aa, .ptr 0 0, .ptr 1 0, .aa, .d (.i k)],xz t.row b.row,2⟩)
   (fun k=>k<=t.kids.length/\∀i,i<k->∀x y,t.kids[i]? =some x->b.kids[i]? =some y->fF x y=true) (fun k=>t.kids.length - k) 0 ⟨Nat.zero_le _,fun i h=>ag⟩ (bf.d2 _ (fj rfl rfl) ag rfl rfl ?_) (fun k hk=> ?_)
  ·exact cN
  refine ck ?_
  refine ai (fun h2=> ?_) (fun h2=> ?_)
  ·simp at h2
   obtain⟨x,hx⟩:=aB h2
   obtain⟨y,hy⟩:=aB (l:=b.kids) (k:=k) ag
   have eC:=List.mem_of_getElem? hx
   have Z5:=List.mem_of_getElem? hy
   simp+contextual only[go_sem,hx,hy]
   refine aQ (ih x eC (jG.2 x eC) y (Kg.2 y Z5)) rfl ?_
   refine ck ?_
   refine aO cl ?_
   refine ck ?_
   refine ai (fun h3=> ?_) (fun h3=> ?_)
   ·refine ck ?_
    simp at h3
    have:gZ t.kids b.kids=false:=by
     rw[Bool.eq_false_iff]
     intro h
     have:=(ke _ _ hl).1 h k x y hx hy
     rw[h3]at this;cases this
    rw[this]
   ·refine ck ?_
    simp at h3
    refine aj (k+1) ⟨h2,fun i hi u v hu hv=> ?_⟩ ag (bf.d2 _ (fj rfl rfl) ag rfl rfl ?_)
    ·by_cases e:i=k
     ·subst e
      rw[hx]at hu;rw[hy]at hv
      exact Mt
     ·exact hk.2 i ag u v hu hv
    ·exact cN
  ·refine ck ?_
   simp at h2
   have:gZ t.kids b.kids=true:=(ke _ _ hl).2 fun i x y hx hy=>hk.2 i (by have:=(List.getElem?_eq_some_iff.1 hx).1;omega) x y hx hy
   rw[this]
theorem DC(t:Tm)(hf:t.fits):aR Tryz.prog 68 [t.d] (.ret [.bool (jN t)]):=by
 refine aR.aG mix abu aK ?_
 rw[c68]
 refine ck ?_
 refine aD (DA t hf 50 14 ag ag) rfl ?_
 refine ck ?_
 rfl
theorem Cc(s:bE)(hs:s.Fits):aR Tryz.prog 69 [s.d] (.ret [.bool (gu s)]):=by
 refine aR.aG mix abv aK ?_
 rw[c69]
 refine ck ?_
 refine ai (fun h1=> ?_) (fun h1=> ?_)
 ·refine ck ?_
  simp only[gu,h1];rfl
 ·have e:gu s=(eM s.cons&&eM s.bu):=by simp only[gu,h1];rfl
  rw[e]
  simp at h1
  refine ck ?_
  refine aC (fun k:Nat=>⟨aW [.aa, .ptr 0 0, .aa, .d (.i k)],hU s.row,1⟩)
   (fun k=>k<=s.cons.length/\eM (s.cons.take k)=true) (fun k=>s.cons.length - k) 0 ⟨Nat.zero_le _,by simp[eM]⟩ (bf.d1 _ (aS rfl) ag rfl ?_) (fun k hk=> ?_)
  ·exact cN
  refine ck ?_
  refine ai (fun h2=> ?_) (fun h2=> ?_)
  ·simp at h2
   obtain⟨x,hx⟩:=aB h2
   refine jj hx ?_
   refine ai (fun h3=> ?_) (fun h3=> ?_)
   ·refine ck ?_
    rw[show eM s.cons=false from cj hx (by simpa using h3)];rfl
   ·refine ck ?_
    refine aj (k+1) ⟨h2,eD hx hk.2 (by simpa using h3)⟩ ag (bf.d1 _ (aS rfl) ag rfl ?_)
    exact cN
  ·simp at h2
   rw[show eM s.cons=true from dY hk.2 h2,Bool.true_and]
   refine ck ?_
   refine aC (fun k:Nat=>⟨aW [.aa, .ptr 0 0, .aa, .aa, .d (.i k)],hU s.row,1⟩)
    (fun k=>k<=s.bu.length/\eM (s.bu.take k)=true) (fun k=>s.bu.length - k) 0 ⟨Nat.zero_le _,by simp[eM]⟩ (bf.d1 _ (aS rfl) ag rfl ?_) (fun k hk=> ?_)
   ·exact cN
   refine ck ?_
   refine ai (fun h4=> ?_) (fun h4=> ?_)
   ·simp at h4
    obtain⟨x,hx⟩:=aB h4
    refine jj hx ?_
    refine ai (fun h3=> ?_) (fun h3=> ?_)
    ·refine ck ?_
     rw[show eM s.bu=false from cj hx (by simpa using h3)]
    ·refine ck ?_
     refine aj (k+1) ⟨h4,eD hx hk.2 (by simpa using h3)⟩ ag (bf.d1 _ (aS rfl) ag rfl ?_)
     exact cN
   ·simp at h4
    rw[show eM s.bu=true from dY hk.2 h4]
    simp+contextual only[go_sem]
end Go.Proofs.YtnkamdiiakdkgaaGreat
