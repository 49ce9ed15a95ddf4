/-
  A PART OF THE PROOF. Conditions: none.
-/
import Derived.Test.YtealblliddhgiaaGreatMt12
set_option linter.unusedSimpArgs false
set_option linter.unusedVariables false
namespace Go.Proofs.YtealblliddhgiaaGreat
theorem mix:Tryz.prog.follows .mixedOrders=true:=by kernel_rfl
def R6:Tr FD:=
 (.n .no (.n .no (.n (.fn 78 c3 [.tmp 6]) (.n (.fn 116 c7 [.tmp 6]) (.n (.fn 22 U5 [.tmp 4]) (.n (.fn 31 Vl [.tmp 2]) (.n (.UO 13 MI VR 99 6 [.tmp 4, .tmp 5] [.cell 4 78, .cell 5 4] 11 5 5 Tp) (.n (.fn 53 M5 [.tmp 8]) (.e fun _=> .no) (.e fun _=> .no)) (.e fun _=> .no)) (.n (.fn 33 Yc [.tmp 4]) (.e fun _=> .no) (.e fun _=> .no))) (.n (.fn 45 VC [.tmp 2]) (.n (.fn 15 V7 [.tmp 6]) (.n (.fn 76 RT []) (.e fun _=> .no) (.e fun _=> .no)) (.e fun _=> .no)) (.n (.fn 32 MP [.tmp 6]) (.e fun _=> .no) (.e fun _=> .no)))) (.n (.fn 50 Vd [.tmp 6, .tmp 7]) (.n (.fn 10 XO [.tmp 4]) (.n (.fn 9 X0 [.tmp 2]) (.n (.fn 32 RC []) (.e fun _=> .no) (.e fun _=> .no)) (.e fun _=> .no)) (.n (.fn 16 ML [.tmp 4]) (.e fun _=> .no) (.e fun _=> .no))) (.n (.fn 15 VJ [.tmp 6]) (.n (.fn 18 Wf [.tmp 4]) (.e fun _=> .no) (.e fun _=> .no)) (.n (.fn 14 MW [.tmp 4]) (.e fun _=> .no) (.e fun _=> .no))))) (.n (.fn 20 U1 [.tmp 4]) (.n (.fn 13 U9 [.tmp 4]) (.n (.fn 31 XL [.tmp 6, .tmp 7]) (.n (.fn 11 VV [.tmp 4]) (.n (.fn 49 Ru []) (.e fun _=> .no) (.e fun _=> .no)) (.e fun _=> .no)) (.e fun _=> .no)) (.n (.fn 13 VG [.tmp 4]) (.n (.fn 56 Wb [.tmp 4, .tmp 5]) (.n (.fn 36 R1 [.tmp 10]) (.e fun _=> .no) (.e fun _=> .no)) (.e fun _=> .no)) (.n (.fn 10 MT [.tmp 4]) (.e fun _=> .no) (.e fun _=> .no)))) (.n (.fn 11 Vh [.tmp 4, .tmp 5]) (.n (.fn 7 XR [.tmp 2]) (.n (.fn 24 V3 [.tmp 4]) (.n (.fn 168 RK [.tmp 8, .tmp 9]) (.e fun _=> .no) (.e fun _=> .no)) (.e fun _=> .no)) (.n (.fn 45 Ri []) (.e fun _=> .no) (.e fun _=> .no))) (.n (.fn 25 VN [.tmp 4]) (.n (.fn 102 X9 [.cell 4 28]) (.e fun _=> .no) (.e fun _=> .no)) (.n (.fn 14 M0 [.tmp 4]) (.e fun _=> .no) (.e fun _=> .no)))))) (.n (.fn 305 c5 [.tmp 8]) (.n (.fn 173 c9 [.tmp 8]) (.n (.fn 17 XH [.tmp 2]) (.n (.fn 5 XJ [.cell 2 28]) (.n (.fn 5 VT [.cell 2 28]) (.n (.fn 6 M7 [.tmp 2]) (.e fun _=> .no) (.e fun _=> .no)) (.e fun _=> .no)) (.n (.fn 115 Wp [.tmp 4]) (.e fun _=> .no) (.e fun _=> .no))) (.n (.fn 8 XW [.cell 4 28]) (.n (.fn 4 V9 [.tmp 2]) (.n (.fn 33 RX [.tmp 2]) (.e fun _=> .no) (.e fun _=> .no)) (.e fun _=> .no)) (.n (.fn 8 MQ []) (.e fun _=> .no) (.e fun _=> .no)))) (.n (.fn 20 Vf [.tmp 6]) (.n (.fn 43 XQ [.cell 4 4, .cell 5 33]) (.n (.fn 5 V1 [.cell 2 28]) (.n (.fn 17 RG [.tmp 4]) (.e fun _=> .no) (.e fun _=> .no)) (.e fun _=> .no)) (.n (.fn 38 MN [.tmp 6]) (.e fun _=> .no) (.e fun _=> .no))) (.n (.fn 69 XZ [.cell 4 28]) (.n (.fn 18 X7 [.tmp 4]) (.e fun _=> .no) (.e fun _=> .no)) (.n (.fn 27 MY [.tmp 4]) (.e fun _=> .no) (.e fun _=> .no))))) (.n (.fn 210 XE [.tmp 0]) (.n (.fn 46 Vb [.tmp 4]) (.n (.fn 22 XN [.tmp 4]) (.n (.fn 81 VX [.tmp 6, .tmp 7]) (.n (.fn 65 Ry []) (.e fun _=> .no) (.e fun _=> .no)) (.e fun _=> .no)) (.n (.fn 30 IV [.tmp 4]) (.e fun _=> .no) (.e fun _=> .no))) (.n (.fn 54 QL [.cell 4 28]) (.n (.fn 26 X6 [.tmp 2]) (.e fun _=> .no) (.e fun _=> .no)) (.n (.fn 20 Rs []) (.e fun _=> .no) (.e fun _=> .no)))) (.n (.fn 11 Vj [.tmp 4, .tmp 5]) (.n (.fn 26 XT [.tmp 4]) (.n (.fn 24 V5 [.tmp 3]) (.n (.fn 25 RP [.tmp 2]) (.e fun _=> .no) (.e fun _=> .no)) (.e fun _=> .no)) (.n (.fn 8 Rm [.tmp 2]) (.e fun _=> .no) (.e fun _=> .no))) (.n (.fn 73 VP [.tmp 6]) (.n (.fn 28 Ya [.tmp 4]) (.e fun _=> .no) (.e fun _=> .no)) (.n (.fn 5 M4 [.cell 2 28]) (.e fun _=> .no) (.e fun _=> .no))))))) (.n .no (.n (.fn 167 c4 [.tmp 6]) (.n (.fn 231 c8 [.tmp 6]) (.n (.fn 50 XG [.tmp 4]) (.n (.fn 27 XI [.tmp 4, .tmp 5]) (.n (.fn 66 VS [.cell 8 28, .tmp 9]) (.n (.fn 4 M6 [.cell 2 28]) (.e fun _=> .no) (.e fun _=> .no)) (.e fun _=> .no)) (.n (.fn 10 Yd [.tmp 2]) (.e fun _=> .no) (.e fun _=> .no))) (.n (.fn 12 XU [.cell 0 24]) (.n (.fn 18 V8 [.tmp 4]) (.n (.fn 7 RV [.tmp 2]) (.e fun _=> .no) (.e fun _=> .no)) (.e fun _=> .no)) (.n (.fn 26 Rq [.tmp 4, .tmp 5]) (.e fun _=> .no) (.e fun _=> .no)))) (.n (.fn 17 Ve [.tmp 6, .tmp 7]) (.n (.fn 32 XP [.tmp 4, .tmp 5, .tmp 6]) (.n (.fn 11 X1 []) (.n (.fn 133 RE [.tmp 6]) (.e fun _=> .no) (.e fun _=> .no)) (.e fun _=> .no)) (.n (.fn 38 MM [.tmp 6]) (.e fun _=> .no) (.e fun _=> .no))) (.n (.fn 20 VK [.tmp 4]) (.n (.fn 7 Wg [.tmp 3]) (.e fun _=> .no) (.e fun _=> .no)) (.n (.fn 27 MX [.tmp 4]) (.e fun _=> .no) (.e fun _=> .no))))) (.n (.fn 24 U2 [.tmp 2]) (.n (.fn 6 Va [.tmp 2]) (.n (.fn 15 XM [.cell 2 28, .tmp 3]) (.n (.fn 21 VW [.tmp 2]) (.n (.fn 56 Rw []) (.e fun _=> .no) (.e fun _=> .no)) (.e fun _=> .no)) (.n (.fn 109 MJ []) (.e fun _=> .no) (.e fun _=> .no))) (.n (.fn 14 XY [.tmp 4]) (.n (.fn 42 X5 [.tmp 4, .tmp 5]) (.n (.fn 28 R4 [.tmp 8, .tmp 9]) (.e fun _=> .no) (.e fun _=> .no)) (.e fun _=> .no)) (.n (.fn 35 MU [.tmp 2]) (.e fun _=> .no) (.e fun _=> .no)))) (.n (.fn 42 Vi [.tmp 4]) (.n (.fn 15 XS [.tmp 2]) (.n (.fn 118 X4 [.cell 4 28, .cell 5 98]) (.n (.fn 19 RM [.tmp 2]) (.e fun _=> .no) (.e fun _=> .no)) (.e fun _=> .no)) (.n (.fn 134 Rk []) (.e fun _=> .no) (.e fun _=> .no))) (.n (.fn 12 VO [.tmp 4]) (.n (.fn 19 Wk [.cell 0 120]) (.e fun _=> .no) (.e fun _=> .no)) (.n (.fn 14 M3 [.tmp 4]) (.e fun _=> .no) (.e fun _=> .no)))))) (.n (.fn 128 c6 [.tmp 8]) (.n (.fn 138 XC [.tmp 4]) (.n (.fn 49 U8 [.cell 4 28]) (.n (.fn 23 XK [.cell 4 28, .tmp 5]) (.n (.fn 49 VU [.tmp 4]) (.n (.fn 11 M8 [.tmp 2]) (.e fun _=> .no) (.e fun _=> .no)) (.e fun _=> .no)) (.n (.fn 11 Wq [.tmp 2]) (.e fun _=> .no) (.e fun _=> .no))) (.n (.fn 11 XX [.cell 6 28]) (.n (.fn 16 Wa [.cell 2 4]) (.n (.fn 15 RZ [.tmp 6]) (.e fun _=> .no) (.e fun _=> .no)) (.e fun _=> .no)) (.n (.fn 17 MR [.tmp 6]) (.e fun _=> .no) (.e fun _=> .no)))) (.n (.fn 69 Vg [.tmp 4]) (.n (.fn 48 Vx [.tmp 2]) (.n (.fn 19 X2 [.cell 2 28, .tmp 3]) (.n (.fn 84 RI [.tmp 8]) (.e fun _=> .no) (.e fun _=> .no)) (.e fun _=> .no)) (.n (.fn 18 MO [.tmp 4]) (.e fun _=> .no) (.e fun _=> .no))) (.n (.fn 37 VM [.tmp 6]) (.n (.fn 24 X8 [.tmp 4]) (.e fun _=> .no) (.e fun _=> .no)) (.n (.fn 27 MZ [.tmp 4]) (.e fun _=> .no) (.e fun _=> .no))))) (.n (.fn 46 XF [.cell 6 28, .tmp 7]) (.n (.fn 23 Vc [.tmp 6, .tmp 7]) (.n (.fn 46 Vt [.tmp 2]) (.n (.fn 117 VY [.tmp 6, .tmp 7]) (.n (.fn 57 RA [.tmp 6, .tmp 7]) (.e fun _=> .no) (.e fun _=> .no)) (.e fun _=> .no)) (.n (.fn 20 MK [.tmp 4]) (.e fun _=> .no) (.e fun _=> .no))) (.n (.fn 39 VI [.cell 4 4]) (.n (.fn 44 We [.tmp 4]) (.e fun _=> .no) (.e fun _=> .no)) (.n (.fn 14 MV [.tmp 4]) (.e fun _=> .no) (.e fun _=> .no)))) (.n (.fn 20 Vk [.tmp 4]) (.n (.fn 55 VB [.tmp 2]) (.n (.fn 28 V6 [.tmp 2]) (.n (.fn 15 RR [.tmp 2]) (.e fun _=> .no) (.e fun _=> .no)) (.e fun _=> .no)) (.n (.fn 116 Ro [.cell 4 28]) (.e fun _=> .no) (.e fun _=> .no))) (.n (.fn 27 VQ [.tmp 2]) (.n (.fn 34 Yb [.tmp 6]) (.e fun _=> .no) (.e fun _=> .no)) (.n (.fn 6 IW []) (.e fun _=> .no) (.e fun _=> .no))))))))
noncomputable def bV:Nat->FD:=R6.get
theorem M9:∀g,(bV g).Ok Tryz.prog g:=
 Tr.wU (p:=fun g d=>d.Ok Tryz.prog g) (f:=fun g=>g) R6
   ⟨trivial,⟨trivial,⟨ZE,⟨ZH,⟨Qr,⟨QF,⟨⟨Kv,Ku⟩,⟨KW,(fun _=>trivial),(fun _=>trivial)⟩,(fun _=>trivial)⟩,⟨Wn,(fun _=>trivial),(fun _=>trivial)⟩⟩,⟨QJ,⟨Q6,⟨RU,(fun _=>trivial),(fun _=>trivial)⟩,(fun _=>trivial)⟩,⟨KF,(fun _=>trivial),(fun _=>trivial)⟩⟩⟩,⟨Qx,⟨Vu,⟨VZ,⟨RD,(fun _=>trivial),(fun _=>trivial)⟩,(fun _=>trivial)⟩,⟨Ky,(fun _=>trivial),(fun _=>trivial)⟩⟩,⟨QO,⟨Rc,(fun _=>trivial),(fun _=>trivial)⟩,⟨KL,(fun _=>trivial),(fun _=>trivial)⟩⟩⟩⟩,⟨Qp,⟨Qt,⟨Vp,⟨QY,⟨Rv,(fun _=>trivial),(fun _=>trivial)⟩,(fun _=>trivial)⟩,(fun _=>trivial)⟩,⟨QK,⟨Ra,⟨R3,(fun _=>trivial),(fun _=>trivial)⟩,(fun _=>trivial)⟩,⟨KI,(fun _=>trivial),(fun _=>trivial)⟩⟩⟩,⟨QB,⟨Vy,⟨Q3,⟨RL,(fun _=>trivial),(fun _=>trivial)⟩,(fun _=>trivial)⟩,⟨Rj,(fun _=>trivial),(fun _=>trivial)⟩⟩,⟨QR,⟨Wj,(fun _=>trivial),(fun _=>trivial)⟩,⟨KQ,(fun _=>trivial),(fun _=>trivial)⟩⟩⟩⟩⟩,⟨ZF,⟨ZJ,⟨U7,⟨Vn,⟨QW,⟨KZ,(fun _=>trivial),(fun _=>trivial)⟩,(fun _=>trivial)⟩,⟨Rg,(fun _=>trivial),(fun _=>trivial)⟩⟩,⟨VE,⟨Q8,⟨RY,(fun _=>trivial),(fun _=>trivial)⟩,(fun _=>trivial)⟩,⟨KG,(fun _=>trivial),(fun _=>trivial)⟩⟩⟩,⟨Qz,⟨Vw,⟨Q2,⟨RH,(fun _=>trivial),(fun _=>trivial)⟩,(fun _=>trivial)⟩,⟨KA,(fun _=>trivial),(fun _=>trivial)⟩⟩,⟨VL,⟨Wh,(fun _=>trivial),(fun _=>trivial)⟩,⟨KN,(fun _=>trivial),(fun _=>trivial)⟩⟩⟩⟩,⟨U3,⟨Qv,⟨Vr,⟨Q0,⟨Rz,(fun _=>trivial),(fun _=>trivial)⟩,(fun _=>trivial)⟩,⟨Gc,(fun _=>trivial),(fun _=>trivial)⟩⟩,⟨QM,⟨Wd,(fun _=>trivial),(fun _=>trivial)⟩,⟨Rt,(fun _=>trivial),(fun _=>trivial)⟩⟩⟩,⟨QD,⟨VA,⟨Q4,⟨RQ,(fun _=>trivial),(fun _=>trivial)⟩,(fun _=>trivial)⟩,⟨Rn,(fun _=>trivial),(fun _=>trivial)⟩⟩,⟨QT,⟨Wl,(fun _=>trivial),(fun _=>trivial)⟩,⟨KU,(fun _=>trivial),(fun _=>trivial)⟩⟩⟩⟩⟩⟩,⟨trivial,⟨XB,⟨ZI,⟨U6,⟨Vm,⟨QV,⟨KY,(fun _=>trivial),(fun _=>trivial)⟩,(fun _=>trivial)⟩,⟨Wo,(fun _=>trivial),(fun _=>trivial)⟩⟩,⟨VD,⟨Q7,⟨RW,(fun _=>trivial),(fun _=>trivial)⟩,(fun _=>trivial)⟩,⟨Rr,(fun _=>trivial),(fun _=>trivial)⟩⟩⟩,⟨Qy,⟨Vv,⟨V0,⟨RF,(fun _=>trivial),(fun _=>trivial)⟩,(fun _=>trivial)⟩,⟨Kz,(fun _=>trivial),(fun _=>trivial)⟩⟩,⟨QP,⟨Re,(fun _=>trivial),(fun _=>trivial)⟩,⟨KM,(fun _=>trivial),(fun _=>trivial)⟩⟩⟩⟩,⟨Qq,⟨Qu,⟨Vq,⟨QZ,⟨Rx,(fun _=>trivial),(fun _=>trivial)⟩,(fun _=>trivial)⟩,⟨Kw,(fun _=>trivial),(fun _=>trivial)⟩⟩,⟨VH,⟨Wc,⟨R5,(fun _=>trivial),(fun _=>trivial)⟩,(fun _=>trivial)⟩,⟨KJ,(fun _=>trivial),(fun _=>trivial)⟩⟩⟩,⟨QC,⟨Vz,⟨V4,⟨RN,(fun _=>trivial),(fun _=>trivial)⟩,(fun _=>trivial)⟩,⟨Rl,(fun _=>trivial),(fun _=>trivial)⟩⟩,⟨QS,⟨Rf,(fun _=>trivial),(fun _=>trivial)⟩,⟨KT,(fun _=>trivial),(fun _=>trivial)⟩⟩⟩⟩⟩,⟨ZG,⟨U0,⟨Qs,⟨Vo,⟨QX,⟨K0,(fun _=>trivial),(fun _=>trivial)⟩,(fun _=>trivial)⟩,⟨Rh,(fun _=>trivial),(fun _=>trivial)⟩⟩,⟨VF,⟨Q9,⟨R0,(fun _=>trivial),(fun _=>trivial)⟩,(fun _=>trivial)⟩,⟨KH,(fun _=>trivial),(fun _=>trivial)⟩⟩⟩,⟨QA,⟨QH,⟨V2,⟨RJ,(fun _=>trivial),(fun _=>trivial)⟩,(fun _=>trivial)⟩,⟨KC,(fun _=>trivial),(fun _=>trivial)⟩⟩,⟨QQ,⟨Wi,(fun _=>trivial),(fun _=>trivial)⟩,⟨KO,(fun _=>trivial),(fun _=>trivial)⟩⟩⟩⟩,⟨U4,⟨Qw,⟨QG,⟨Q1,⟨RB,(fun _=>trivial),(fun _=>trivial)⟩,(fun _=>trivial)⟩,⟨Kx,(fun _=>trivial),(fun _=>trivial)⟩⟩,⟨QN,⟨Rb,(fun _=>trivial),(fun _=>trivial)⟩,⟨KK,(fun _=>trivial),(fun _=>trivial)⟩⟩⟩,⟨QE,⟨QI,⟨Q5,⟨RS,(fun _=>trivial),(fun _=>trivial)⟩,(fun _=>trivial)⟩,⟨Rp,(fun _=>trivial),(fun _=>trivial)⟩⟩,⟨QU,⟨Wm,(fun _=>trivial),(fun _=>trivial)⟩,⟨Gd,(fun _=>trivial),(fun _=>trivial)⟩⟩⟩⟩⟩⟩⟩
end Go.Proofs.YtealblliddhgiaaGreat
namespace Go.Proofs.YtealblliddhgiaaGreat
@[go_sem] theorem cellsOf_3:Tryz.prog.cellsOf 3=1:=by kernel_rfl
@[go_sem] theorem bytesOf_3:Tryz.prog.bytesOf 3=8:=by kernel_rfl
@[go_sem] theorem sliceT_3:aX Tryz.prog 3=none:=by kernel_rfl
@[go_sem] theorem arrT_3:cy Tryz.prog 3=none:=by kernel_rfl
@[go_sem] theorem aggT_3:b7 Tryz.prog 3=some false:=by kernel_rfl
@[go_sem] theorem intT_3:cD Tryz.prog 3=some .i64:=by kernel_rfl
@[go_sem] theorem isBoolT_3:aS Tryz.prog 3=false:=by kernel_rfl
@[go_sem] theorem infoT_3:(Tryz.prog.info? 3).isSome=true:=by kernel_rfl
@[go_sem] theorem plainIface_3:aC Tryz.prog 3=true:=by kernel_rfl
@[go_sem] theorem undT_3:Tryz.prog.underlying 3=some (.int .i64):=by kernel_rfl
@[go_sem] theorem eqShape_3:bn Tryz.prog 3=some .int:=by kernel_rfl
@[go_sem] theorem zeroT_3:bt Tryz.prog 3=some [.d (.int .i64 0)]:=by kernel_rfl
@[go_sem] theorem zeroV_3:zeroV Tryz.prog 3=some (.d (.int .i64 0)):=by kernel_rfl
@[go_sem] theorem zeroD_3:bM Tryz.prog 3=some (.int .i64 0):=by kernel_rfl
@[go_sem] theorem cellsOf_4:Tryz.prog.cellsOf 4=1:=by kernel_rfl
@[go_sem] theorem bytesOf_4:Tryz.prog.bytesOf 4=1:=by kernel_rfl
@[go_sem] theorem sliceT_4:aX Tryz.prog 4=none:=by kernel_rfl
@[go_sem] theorem arrT_4:cy Tryz.prog 4=none:=by kernel_rfl
@[go_sem] theorem aggT_4:b7 Tryz.prog 4=some false:=by kernel_rfl
@[go_sem] theorem intT_4:cD Tryz.prog 4=none:=by kernel_rfl
@[go_sem] theorem isBoolT_4:aS Tryz.prog 4=true:=by kernel_rfl
@[go_sem] theorem infoT_4:(Tryz.prog.info? 4).isSome=true:=by kernel_rfl
@[go_sem] theorem plainIface_4:aC Tryz.prog 4=true:=by kernel_rfl
@[go_sem] theorem undT_4:Tryz.prog.underlying 4=some .bool:=by kernel_rfl
@[go_sem] theorem eqShape_4:bn Tryz.prog 4=some .bool:=by kernel_rfl
@[go_sem] theorem zeroT_4:bt Tryz.prog 4=some [.d (.bool false)]:=by kernel_rfl
@[go_sem] theorem zeroV_4:zeroV Tryz.prog 4=some (.d (.bool false)):=by kernel_rfl
@[go_sem] theorem zeroD_4:bM Tryz.prog 4=some (.bool false):=by kernel_rfl
@[go_sem] theorem cellsOf_5:Tryz.prog.cellsOf 5=1:=by kernel_rfl
@[go_sem] theorem bytesOf_5:Tryz.prog.bytesOf 5=1:=by kernel_rfl
@[go_sem] theorem sliceT_5:aX Tryz.prog 5=none:=by kernel_rfl
@[go_sem] theorem arrT_5:cy Tryz.prog 5=none:=by kernel_rfl
@[go_sem] theorem aggT_5:b7 Tryz.prog 5=some false:=by kernel_rfl
@[go_sem] theorem intT_5:cD Tryz.prog 5=some .u8:=by kernel_rfl
@[go_sem] theorem isBoolT_5:aS Tryz.prog 5=false:=by kernel_rfl
@[go_sem] theorem infoT_5:(Tryz.prog.info? 5).isSome=true:=by kernel_rfl
@[go_sem] theorem plainIface_5:aC Tryz.prog 5=true:=by kernel_rfl
@[go_sem] theorem undT_5:Tryz.prog.underlying 5=some (.int .u8):=by kernel_rfl
@[go_sem] theorem eqShape_5:bn Tryz.prog 5=some .int:=by kernel_rfl
@[go_sem] theorem zeroT_5:bt Tryz.prog 5=some [.d (.int .u8 0)]:=by kernel_rfl
@[go_sem] theorem zeroV_5:zeroV Tryz.prog 5=some (.d (.int .u8 0)):=by kernel_rfl
@[go_sem] theorem zeroD_5:bM Tryz.prog 5=some (.int .u8 0):=by kernel_rfl
@[go_sem] theorem cellsOf_9:Tryz.prog.cellsOf 9=1:=by kernel_rfl
@[go_sem] theorem bytesOf_9:Tryz.prog.bytesOf 9=16:=by kernel_rfl
@[go_sem] theorem sliceT_9:aX Tryz.prog 9=none:=by kernel_rfl
@[go_sem] theorem arrT_9:cy Tryz.prog 9=none:=by kernel_rfl
@[go_sem] theorem aggT_9:b7 Tryz.prog 9=some false:=by kernel_rfl
@[go_sem] theorem intT_9:cD Tryz.prog 9=none:=by kernel_rfl
@[go_sem] theorem isBoolT_9:aS Tryz.prog 9=false:=by kernel_rfl
@[go_sem] theorem infoT_9:(Tryz.prog.info? 9).isSome=true:=by kernel_rfl
@[go_sem] theorem plainIface_9:aC Tryz.prog 9=true:=by kernel_rfl
@[go_sem] theorem undT_9:Tryz.prog.underlying 9=some .string:=by kernel_rfl
@[go_sem] theorem eqShape_9:bn Tryz.prog 9=some .str:=by kernel_rfl
@[go_sem] theorem zeroT_9:bt Tryz.prog 9=some [.d (.str [])]:=by kernel_rfl
@[go_sem] theorem zeroV_9:zeroV Tryz.prog 9=some (.d (.str [])):=by kernel_rfl
@[go_sem] theorem zeroD_9:bM Tryz.prog 9=some (.str []):=by kernel_rfl
@[go_sem] theorem cellsOf_20:Tryz.prog.cellsOf 20=1:=by kernel_rfl
@[go_sem] theorem bytesOf_20:Tryz.prog.bytesOf 20=16:=by kernel_rfl
@[go_sem] theorem sliceT_20:aX Tryz.prog 20=none:=by kernel_rfl
@[go_sem] theorem arrT_20:cy Tryz.prog 20=none:=by kernel_rfl
@[go_sem] theorem aggT_20:b7 Tryz.prog 20=some false:=by kernel_rfl
@[go_sem] theorem intT_20:cD Tryz.prog 20=none:=by kernel_rfl
@[go_sem] theorem isBoolT_20:aS Tryz.prog 20=false:=by kernel_rfl
@[go_sem] theorem infoT_20:(Tryz.prog.info? 20).isSome=true:=by kernel_rfl
@[go_sem] theorem plainIface_20:aC Tryz.prog 20=false:=by kernel_rfl
@[go_sem] theorem zeroT_20:bt Tryz.prog 20=some [.d .eh]:=by kernel_rfl
@[go_sem] theorem zeroV_20:zeroV Tryz.prog 20=some (.d .eh):=by kernel_rfl
@[go_sem] theorem zeroD_20:bM Tryz.prog 20=some .eh:=by kernel_rfl
@[go_sem] theorem cellsOf_21:Tryz.prog.cellsOf 21=1:=by kernel_rfl
@[go_sem] theorem bytesOf_21:Tryz.prog.bytesOf 21=4:=by kernel_rfl
@[go_sem] theorem sliceT_21:aX Tryz.prog 21=none:=by kernel_rfl
@[go_sem] theorem arrT_21:cy Tryz.prog 21=none:=by kernel_rfl
@[go_sem] theorem aggT_21:b7 Tryz.prog 21=some false:=by kernel_rfl
@[go_sem] theorem intT_21:cD Tryz.prog 21=some .i32:=by kernel_rfl
@[go_sem] theorem isBoolT_21:aS Tryz.prog 21=false:=by kernel_rfl
@[go_sem] theorem infoT_21:(Tryz.prog.info? 21).isSome=true:=by kernel_rfl
@[go_sem] theorem plainIface_21:aC Tryz.prog 21=true:=by kernel_rfl
@[go_sem] theorem undT_21:Tryz.prog.underlying 21=some (.int .i32):=by kernel_rfl
@[go_sem] theorem eqShape_21:bn Tryz.prog 21=some .int:=by kernel_rfl
@[go_sem] theorem zeroT_21:bt Tryz.prog 21=some [.d (.int .i32 0)]:=by kernel_rfl
@[go_sem] theorem zeroV_21:zeroV Tryz.prog 21=some (.d (.int .i32 0)):=by kernel_rfl
@[go_sem] theorem zeroD_21:bM Tryz.prog 21=some (.int .i32 0):=by kernel_rfl
@[go_sem] theorem cellsOf_22:Tryz.prog.cellsOf 22=1:=by kernel_rfl
@[go_sem] theorem bytesOf_22:Tryz.prog.bytesOf 22=24:=by kernel_rfl
@[go_sem] theorem sliceT_22:aX Tryz.prog 22=some 103:=by kernel_rfl
@[go_sem] theorem arrT_22:cy Tryz.prog 22=none:=by kernel_rfl
@[go_sem] theorem aggT_22:b7 Tryz.prog 22=some false:=by kernel_rfl
@[go_sem] theorem intT_22:cD Tryz.prog 22=none:=by kernel_rfl
@[go_sem] theorem isBoolT_22:aS Tryz.prog 22=false:=by kernel_rfl
@[go_sem] theorem infoT_22:(Tryz.prog.info? 22).isSome=true:=by kernel_rfl
@[go_sem] theorem plainIface_22:aC Tryz.prog 22=true:=by kernel_rfl
@[go_sem] theorem undT_22:Tryz.prog.underlying 22=some (.slice 103):=by kernel_rfl
@[go_sem] theorem zeroT_22:bt Tryz.prog 22=some [.br]:=by kernel_rfl
@[go_sem] theorem zeroV_22:zeroV Tryz.prog 22=some (.br):=by kernel_rfl
@[go_sem] theorem zeroD_22:bM Tryz.prog 22=some (.sl []):=by kernel_rfl
@[go_sem] theorem cellsOf_24:Tryz.prog.cellsOf 24=2:=by kernel_rfl
@[go_sem] theorem bytesOf_24:Tryz.prog.bytesOf 24=48:=by kernel_rfl
@[go_sem] theorem sliceT_24:aX Tryz.prog 24=none:=by kernel_rfl
@[go_sem] theorem arrT_24:cy Tryz.prog 24=none:=by kernel_rfl
@[go_sem] theorem aggT_24:b7 Tryz.prog 24=some true:=by kernel_rfl
@[go_sem] theorem intT_24:cD Tryz.prog 24=none:=by kernel_rfl
@[go_sem] theorem isBoolT_24:aS Tryz.prog 24=false:=by kernel_rfl
@[go_sem] theorem infoT_24:(Tryz.prog.info? 24).isSome=true:=by kernel_rfl
@[go_sem] theorem plainIface_24:aC Tryz.prog 24=true:=by kernel_rfl
@[go_sem] theorem zeroT_24:bt Tryz.prog 24=some [.br, .br]:=by kernel_rfl
@[go_sem] theorem zeroV_24:zeroV Tryz.prog 24=some (ff [.br, .br]):=by kernel_rfl
@[go_sem] theorem zeroD_24:bM Tryz.prog 24=some (.agg [(.sl []),(.sl [])]):=by kernel_rfl
@[go_sem] theorem placesT_24:dv Tryz.prog 24=some [(0,1),(1,1)]:=by kernel_rfl
@[go_sem] theorem cellsOf_25:Tryz.prog.cellsOf 25=1:=by kernel_rfl
@[go_sem] theorem bytesOf_25:Tryz.prog.bytesOf 25=8:=by kernel_rfl
@[go_sem] theorem sliceT_25:aX Tryz.prog 25=none:=by kernel_rfl
@[go_sem] theorem arrT_25:cy Tryz.prog 25=none:=by kernel_rfl
@[go_sem] theorem aggT_25:b7 Tryz.prog 25=some false:=by kernel_rfl
@[go_sem] theorem intT_25:cD Tryz.prog 25=some .i64:=by kernel_rfl
@[go_sem] theorem isBoolT_25:aS Tryz.prog 25=false:=by kernel_rfl
@[go_sem] theorem infoT_25:(Tryz.prog.info? 25).isSome=true:=by kernel_rfl
@[go_sem] theorem plainIface_25:aC Tryz.prog 25=true:=by kernel_rfl
@[go_sem] theorem undT_25:Tryz.prog.underlying 25=some (.int .i64):=by kernel_rfl
@[go_sem] theorem eqShape_25:bn Tryz.prog 25=some .int:=by kernel_rfl
@[go_sem] theorem zeroT_25:bt Tryz.prog 25=some [.d (.int .i64 0)]:=by kernel_rfl
@[go_sem] theorem zeroV_25:zeroV Tryz.prog 25=some (.d (.int .i64 0)):=by kernel_rfl
@[go_sem] theorem zeroD_25:bM Tryz.prog 25=some (.int .i64 0):=by kernel_rfl
@[go_sem] theorem cellsOf_26:Tryz.prog.cellsOf 26=1:=by kernel_rfl
@[go_sem] theorem bytesOf_26:Tryz.prog.bytesOf 26=24:=by kernel_rfl
@[go_sem] theorem sliceT_26:aX Tryz.prog 26=some 28:=by kernel_rfl
@[go_sem] theorem arrT_26:cy Tryz.prog 26=none:=by kernel_rfl
@[go_sem] theorem aggT_26:b7 Tryz.prog 26=some false:=by kernel_rfl
@[go_sem] theorem intT_26:cD Tryz.prog 26=none:=by kernel_rfl
@[go_sem] theorem isBoolT_26:aS Tryz.prog 26=false:=by kernel_rfl
@[go_sem] theorem infoT_26:(Tryz.prog.info? 26).isSome=true:=by kernel_rfl
@[go_sem] theorem plainIface_26:aC Tryz.prog 26=true:=by kernel_rfl
@[go_sem] theorem undT_26:Tryz.prog.underlying 26=some (.slice 28):=by kernel_rfl
@[go_sem] theorem zeroT_26:bt Tryz.prog 26=some [.br]:=by kernel_rfl
@[go_sem] theorem zeroV_26:zeroV Tryz.prog 26=some (.br):=by kernel_rfl
@[go_sem] theorem zeroD_26:bM Tryz.prog 26=some (.sl []):=by kernel_rfl
@[go_sem] theorem cellsOf_28:Tryz.prog.cellsOf 28=3:=by kernel_rfl
@[go_sem] theorem bytesOf_28:Tryz.prog.bytesOf 28=40:=by kernel_rfl
@[go_sem] theorem sliceT_28:aX Tryz.prog 28=none:=by kernel_rfl
@[go_sem] theorem arrT_28:cy Tryz.prog 28=none:=by kernel_rfl
@[go_sem] theorem aggT_28:b7 Tryz.prog 28=some true:=by kernel_rfl
@[go_sem] theorem intT_28:cD Tryz.prog 28=none:=by kernel_rfl
@[go_sem] theorem isBoolT_28:aS Tryz.prog 28=false:=by kernel_rfl
@[go_sem] theorem infoT_28:(Tryz.prog.info? 28).isSome=true:=by kernel_rfl
@[go_sem] theorem plainIface_28:aC Tryz.prog 28=true:=by kernel_rfl
@[go_sem] theorem zeroT_28:bt Tryz.prog 28=some [.d (.int .i64 0), .d (.int .i64 0), .br]:=by kernel_rfl
@[go_sem] theorem zeroV_28:zeroV Tryz.prog 28=some (ff [.d (.int .i64 0), .d (.int .i64 0), .br]):=by kernel_rfl
@[go_sem] theorem zeroD_28:bM Tryz.prog 28=some (.agg [(.int .i64 0),(.int .i64 0),(.sl [])]):=by kernel_rfl
@[go_sem] theorem placesT_28:dv Tryz.prog 28=some [(0,1),(1,1),(2,1)]:=by kernel_rfl
@[go_sem] theorem cellsOf_29:Tryz.prog.cellsOf 29=1:=by kernel_rfl
@[go_sem] theorem bytesOf_29:Tryz.prog.bytesOf 29=24:=by kernel_rfl
@[go_sem] theorem sliceT_29:aX Tryz.prog 29=some 52:=by kernel_rfl
@[go_sem] theorem arrT_29:cy Tryz.prog 29=none:=by kernel_rfl
@[go_sem] theorem aggT_29:b7 Tryz.prog 29=some false:=by kernel_rfl
@[go_sem] theorem intT_29:cD Tryz.prog 29=none:=by kernel_rfl
@[go_sem] theorem isBoolT_29:aS Tryz.prog 29=false:=by kernel_rfl
@[go_sem] theorem infoT_29:(Tryz.prog.info? 29).isSome=true:=by kernel_rfl
@[go_sem] theorem plainIface_29:aC Tryz.prog 29=true:=by kernel_rfl
@[go_sem] theorem undT_29:Tryz.prog.underlying 29=some (.slice 52):=by kernel_rfl
@[go_sem] theorem zeroT_29:bt Tryz.prog 29=some [.br]:=by kernel_rfl
@[go_sem] theorem zeroV_29:zeroV Tryz.prog 29=some (.br):=by kernel_rfl
@[go_sem] theorem zeroD_29:bM Tryz.prog 29=some (.sl []):=by kernel_rfl
@[go_sem] theorem cellsOf_33:Tryz.prog.cellsOf 33=1:=by kernel_rfl
@[go_sem] theorem bytesOf_33:Tryz.prog.bytesOf 33=8:=by kernel_rfl
@[go_sem] theorem sliceT_33:aX Tryz.prog 33=none:=by kernel_rfl
@[go_sem] theorem arrT_33:cy Tryz.prog 33=none:=by kernel_rfl
@[go_sem] theorem aggT_33:b7 Tryz.prog 33=some false:=by kernel_rfl
@[go_sem] theorem intT_33:cD Tryz.prog 33=some .i64:=by kernel_rfl
@[go_sem] theorem isBoolT_33:aS Tryz.prog 33=false:=by kernel_rfl
@[go_sem] theorem infoT_33:(Tryz.prog.info? 33).isSome=true:=by kernel_rfl
@[go_sem] theorem plainIface_33:aC Tryz.prog 33=true:=by kernel_rfl
@[go_sem] theorem undT_33:Tryz.prog.underlying 33=some (.int .i64):=by kernel_rfl
@[go_sem] theorem eqShape_33:bn Tryz.prog 33=some .int:=by kernel_rfl
@[go_sem] theorem zeroT_33:bt Tryz.prog 33=some [.d (.int .i64 0)]:=by kernel_rfl
@[go_sem] theorem zeroV_33:zeroV Tryz.prog 33=some (.d (.int .i64 0)):=by kernel_rfl
@[go_sem] theorem zeroD_33:bM Tryz.prog 33=some (.int .i64 0):=by kernel_rfl
@[go_sem] theorem cellsOf_37:Tryz.prog.cellsOf 37=1:=by kernel_rfl
@[go_sem] theorem bytesOf_37:Tryz.prog.bytesOf 37=8:=by kernel_rfl
@[go_sem] theorem sliceT_37:aX Tryz.prog 37=none:=by kernel_rfl
@[go_sem] theorem arrT_37:cy Tryz.prog 37=none:=by kernel_rfl
@[go_sem] theorem aggT_37:b7 Tryz.prog 37=some false:=by kernel_rfl
@[go_sem] theorem intT_37:cD Tryz.prog 37=none:=by kernel_rfl
@[go_sem] theorem isBoolT_37:aS Tryz.prog 37=false:=by kernel_rfl
@[go_sem] theorem infoT_37:(Tryz.prog.info? 37).isSome=true:=by kernel_rfl
@[go_sem] theorem plainIface_37:aC Tryz.prog 37=true:=by kernel_rfl
@[go_sem] theorem zeroT_37:bt Tryz.prog 37=some [.d .a7]:=by kernel_rfl
@[go_sem] theorem zeroV_37:zeroV Tryz.prog 37=some (.d .a7):=by kernel_rfl
@[go_sem] theorem zeroD_37:bM Tryz.prog 37=some .a7:=by kernel_rfl
@[go_sem] theorem cellsOf_40:Tryz.prog.cellsOf 40=1:=by kernel_rfl
@[go_sem] theorem bytesOf_40:Tryz.prog.bytesOf 40=8:=by kernel_rfl
@[go_sem] theorem sliceT_40:aX Tryz.prog 40=none:=by kernel_rfl
@[go_sem] theorem arrT_40:cy Tryz.prog 40=none:=by kernel_rfl
@[go_sem] theorem aggT_40:b7 Tryz.prog 40=some false:=by kernel_rfl
@[go_sem] theorem intT_40:cD Tryz.prog 40=none:=by kernel_rfl
@[go_sem] theorem isBoolT_40:aS Tryz.prog 40=false:=by kernel_rfl
@[go_sem] theorem infoT_40:(Tryz.prog.info? 40).isSome=true:=by kernel_rfl
@[go_sem] theorem plainIface_40:aC Tryz.prog 40=true:=by kernel_rfl
@[go_sem] theorem zeroT_40:bt Tryz.prog 40=some [.d .a7]:=by kernel_rfl
@[go_sem] theorem zeroV_40:zeroV Tryz.prog 40=some (.d .a7):=by kernel_rfl
@[go_sem] theorem zeroD_40:bM Tryz.prog 40=some .a7:=by kernel_rfl
@[go_sem] theorem cellsOf_52:Tryz.prog.cellsOf 52=4:=by kernel_rfl
@[go_sem] theorem bytesOf_52:Tryz.prog.bytesOf 52=48:=by kernel_rfl
@[go_sem] theorem sliceT_52:aX Tryz.prog 52=none:=by kernel_rfl
@[go_sem] theorem arrT_52:cy Tryz.prog 52=none:=by kernel_rfl
@[go_sem] theorem aggT_52:b7 Tryz.prog 52=some true:=by kernel_rfl
@[go_sem] theorem intT_52:cD Tryz.prog 52=none:=by kernel_rfl
@[go_sem] theorem isBoolT_52:aS Tryz.prog 52=false:=by kernel_rfl
@[go_sem] theorem infoT_52:(Tryz.prog.info? 52).isSome=true:=by kernel_rfl
@[go_sem] theorem plainIface_52:aC Tryz.prog 52=true:=by kernel_rfl
@[go_sem] theorem zeroT_52:bt Tryz.prog 52=some [.d (.int .i64 0), .d (.int .i64 0), .d (.int .i64 0), .br]:=by kernel_rfl
@[go_sem] theorem zeroV_52:zeroV Tryz.prog 52=some (ff [.d (.int .i64 0), .d (.int .i64 0), .d (.int .i64 0), .br]):=by kernel_rfl
@[go_sem] theorem zeroD_52:bM Tryz.prog 52=some (.agg [(.int .i64 0),(.int .i64 0),(.int .i64 0),(.sl [])]):=by kernel_rfl
@[go_sem] theorem placesT_52:dv Tryz.prog 52=some [(0,1),(1,3)]:=by kernel_rfl
@[go_sem] theorem cellsOf_53:Tryz.prog.cellsOf 53=1:=by kernel_rfl
@[go_sem] theorem bytesOf_53:Tryz.prog.bytesOf 53=24:=by kernel_rfl
@[go_sem] theorem sliceT_53:aX Tryz.prog 53=some 3:=by kernel_rfl
@[go_sem] theorem arrT_53:cy Tryz.prog 53=none:=by kernel_rfl
@[go_sem] theorem aggT_53:b7 Tryz.prog 53=some false:=by kernel_rfl
@[go_sem] theorem intT_53:cD Tryz.prog 53=none:=by kernel_rfl
@[go_sem] theorem isBoolT_53:aS Tryz.prog 53=false:=by kernel_rfl
@[go_sem] theorem infoT_53:(Tryz.prog.info? 53).isSome=true:=by kernel_rfl
@[go_sem] theorem plainIface_53:aC Tryz.prog 53=true:=by kernel_rfl
@[go_sem] theorem undT_53:Tryz.prog.underlying 53=some (.slice 3):=by kernel_rfl
@[go_sem] theorem zeroT_53:bt Tryz.prog 53=some [.br]:=by kernel_rfl
@[go_sem] theorem zeroV_53:zeroV Tryz.prog 53=some (.br):=by kernel_rfl
@[go_sem] theorem zeroD_53:bM Tryz.prog 53=some (.sl []):=by kernel_rfl
@[go_sem] theorem cellsOf_64:Tryz.prog.cellsOf 64=1:=by kernel_rfl
@[go_sem] theorem bytesOf_64:Tryz.prog.bytesOf 64=24:=by kernel_rfl
@[go_sem] theorem sliceT_64:aX Tryz.prog 64=some 4:=by kernel_rfl
@[go_sem] theorem arrT_64:cy Tryz.prog 64=none:=by kernel_rfl
@[go_sem] theorem aggT_64:b7 Tryz.prog 64=some false:=by kernel_rfl
@[go_sem] theorem intT_64:cD Tryz.prog 64=none:=by kernel_rfl
@[go_sem] theorem isBoolT_64:aS Tryz.prog 64=false:=by kernel_rfl
@[go_sem] theorem infoT_64:(Tryz.prog.info? 64).isSome=true:=by kernel_rfl
@[go_sem] theorem plainIface_64:aC Tryz.prog 64=true:=by kernel_rfl
@[go_sem] theorem undT_64:Tryz.prog.underlying 64=some (.slice 4):=by kernel_rfl
@[go_sem] theorem zeroT_64:bt Tryz.prog 64=some [.br]:=by kernel_rfl
@[go_sem] theorem zeroV_64:zeroV Tryz.prog 64=some (.br):=by kernel_rfl
@[go_sem] theorem zeroD_64:bM Tryz.prog 64=some (.sl []):=by kernel_rfl
@[go_sem] theorem cellsOf_78:Tryz.prog.cellsOf 78=1:=by kernel_rfl
@[go_sem] theorem bytesOf_78:Tryz.prog.bytesOf 78=8:=by kernel_rfl
@[go_sem] theorem sliceT_78:aX Tryz.prog 78=none:=by kernel_rfl
@[go_sem] theorem arrT_78:cy Tryz.prog 78=none:=by kernel_rfl
@[go_sem] theorem aggT_78:b7 Tryz.prog 78=some false:=by kernel_rfl
@[go_sem] theorem intT_78:cD Tryz.prog 78=none:=by kernel_rfl
@[go_sem] theorem isBoolT_78:aS Tryz.prog 78=false:=by kernel_rfl
@[go_sem] theorem infoT_78:(Tryz.prog.info? 78).isSome=true:=by kernel_rfl
@[go_sem] theorem plainIface_78:aC Tryz.prog 78=true:=by kernel_rfl
@[go_sem] theorem undT_78:Tryz.prog.underlying 78=some (.map 3 28):=by kernel_rfl
@[go_sem] theorem mapT_78:nH Tryz.prog 78=some (3,28):=by kernel_rfl
@[go_sem] theorem zeroT_78:bt Tryz.prog 78=some [.d .cU]:=by kernel_rfl
@[go_sem] theorem zeroV_78:zeroV Tryz.prog 78=some (.d .cU):=by kernel_rfl
@[go_sem] theorem zeroD_78:bM Tryz.prog 78=some .cU:=by kernel_rfl
@[go_sem] theorem cellsOf_88:Tryz.prog.cellsOf 88=1:=by kernel_rfl
@[go_sem] theorem bytesOf_88:Tryz.prog.bytesOf 88=8:=by kernel_rfl
@[go_sem] theorem sliceT_88:aX Tryz.prog 88=none:=by kernel_rfl
@[go_sem] theorem arrT_88:cy Tryz.prog 88=none:=by kernel_rfl
@[go_sem] theorem aggT_88:b7 Tryz.prog 88=some false:=by kernel_rfl
@[go_sem] theorem intT_88:cD Tryz.prog 88=none:=by kernel_rfl
@[go_sem] theorem isBoolT_88:aS Tryz.prog 88=false:=by kernel_rfl
@[go_sem] theorem infoT_88:(Tryz.prog.info? 88).isSome=true:=by kernel_rfl
@[go_sem] theorem plainIface_88:aC Tryz.prog 88=true:=by kernel_rfl
@[go_sem] theorem zeroT_88:bt Tryz.prog 88=some [.d .gx]:=by kernel_rfl
@[go_sem] theorem zeroV_88:zeroV Tryz.prog 88=some (.d .gx):=by kernel_rfl
@[go_sem] theorem zeroD_88:bM Tryz.prog 88=some .gx:=by kernel_rfl
@[go_sem] theorem cellsOf_92:Tryz.prog.cellsOf 92=1:=by kernel_rfl
@[go_sem] theorem bytesOf_92:Tryz.prog.bytesOf 92=8:=by kernel_rfl
@[go_sem] theorem sliceT_92:aX Tryz.prog 92=none:=by kernel_rfl
@[go_sem] theorem arrT_92:cy Tryz.prog 92=none:=by kernel_rfl
@[go_sem] theorem aggT_92:b7 Tryz.prog 92=some false:=by kernel_rfl
@[go_sem] theorem intT_92:cD Tryz.prog 92=none:=by kernel_rfl
@[go_sem] theorem isBoolT_92:aS Tryz.prog 92=false:=by kernel_rfl
@[go_sem] theorem infoT_92:(Tryz.prog.info? 92).isSome=true:=by kernel_rfl
@[go_sem] theorem plainIface_92:aC Tryz.prog 92=true:=by kernel_rfl
@[go_sem] theorem undT_92:Tryz.prog.underlying 92=some (.map 3 4):=by kernel_rfl
@[go_sem] theorem mapT_92:nH Tryz.prog 92=some (3,4):=by kernel_rfl
@[go_sem] theorem zeroT_92:bt Tryz.prog 92=some [.d .cU]:=by kernel_rfl
@[go_sem] theorem zeroV_92:zeroV Tryz.prog 92=some (.d .cU):=by kernel_rfl
@[go_sem] theorem zeroD_92:bM Tryz.prog 92=some .cU:=by kernel_rfl
@[go_sem] theorem cellsOf_93:Tryz.prog.cellsOf 93=1:=by kernel_rfl
@[go_sem] theorem bytesOf_93:Tryz.prog.bytesOf 93=8:=by kernel_rfl
@[go_sem] theorem sliceT_93:aX Tryz.prog 93=none:=by kernel_rfl
@[go_sem] theorem arrT_93:cy Tryz.prog 93=none:=by kernel_rfl
@[go_sem] theorem aggT_93:b7 Tryz.prog 93=some false:=by kernel_rfl
@[go_sem] theorem intT_93:cD Tryz.prog 93=none:=by kernel_rfl
@[go_sem] theorem isBoolT_93:aS Tryz.prog 93=false:=by kernel_rfl
@[go_sem] theorem infoT_93:(Tryz.prog.info? 93).isSome=true:=by kernel_rfl
@[go_sem] theorem plainIface_93:aC Tryz.prog 93=true:=by kernel_rfl
@[go_sem] theorem undT_93:Tryz.prog.underlying 93=some (.map 3 4):=by kernel_rfl
@[go_sem] theorem mapT_93:nH Tryz.prog 93=some (3,4):=by kernel_rfl
@[go_sem] theorem zeroT_93:bt Tryz.prog 93=some [.d .cU]:=by kernel_rfl
@[go_sem] theorem zeroV_93:zeroV Tryz.prog 93=some (.d .cU):=by kernel_rfl
@[go_sem] theorem zeroD_93:bM Tryz.prog 93=some .cU:=by kernel_rfl
@[go_sem] theorem cellsOf_96:Tryz.prog.cellsOf 96=1:=by kernel_rfl
@[go_sem] theorem bytesOf_96:Tryz.prog.bytesOf 96=24:=by kernel_rfl
@[go_sem] theorem sliceT_96:aX Tryz.prog 96=some 153:=by kernel_rfl
@[go_sem] theorem arrT_96:cy Tryz.prog 96=none:=by kernel_rfl
@[go_sem] theorem aggT_96:b7 Tryz.prog 96=some false:=by kernel_rfl
@[go_sem] theorem intT_96:cD Tryz.prog 96=none:=by kernel_rfl
@[go_sem] theorem isBoolT_96:aS Tryz.prog 96=false:=by kernel_rfl
@[go_sem] theorem infoT_96:(Tryz.prog.info? 96).isSome=true:=by kernel_rfl
@[go_sem] theorem plainIface_96:aC Tryz.prog 96=true:=by kernel_rfl
@[go_sem] theorem undT_96:Tryz.prog.underlying 96=some (.slice 153):=by kernel_rfl
@[go_sem] theorem zeroT_96:bt Tryz.prog 96=some [.br]:=by kernel_rfl
@[go_sem] theorem zeroV_96:zeroV Tryz.prog 96=some (.br):=by kernel_rfl
@[go_sem] theorem zeroD_96:bM Tryz.prog 96=some (.sl []):=by kernel_rfl
@[go_sem] theorem cellsOf_98:Tryz.prog.cellsOf 98=3:=by kernel_rfl
@[go_sem] theorem bytesOf_98:Tryz.prog.bytesOf 98=56:=by kernel_rfl
@[go_sem] theorem sliceT_98:aX Tryz.prog 98=none:=by kernel_rfl
@[go_sem] theorem arrT_98:cy Tryz.prog 98=none:=by kernel_rfl
@[go_sem] theorem aggT_98:b7 Tryz.prog 98=some true:=by kernel_rfl
@[go_sem] theorem intT_98:cD Tryz.prog 98=none:=by kernel_rfl
@[go_sem] theorem isBoolT_98:aS Tryz.prog 98=false:=by kernel_rfl
@[go_sem] theorem infoT_98:(Tryz.prog.info? 98).isSome=true:=by kernel_rfl
@[go_sem] theorem plainIface_98:aC Tryz.prog 98=true:=by kernel_rfl
@[go_sem] theorem zeroT_98:bt Tryz.prog 98=some [.br, .br, .d (.int .i64 0)]:=by kernel_rfl
@[go_sem] theorem zeroV_98:zeroV Tryz.prog 98=some (ff [.br, .br, .d (.int .i64 0)]):=by kernel_rfl
@[go_sem] theorem zeroD_98:bM Tryz.prog 98=some (.agg [(.sl []),(.sl []),(.int .i64 0)]):=by kernel_rfl
@[go_sem] theorem placesT_98:dv Tryz.prog 98=some [(0,1),(1,1),(2,1)]:=by kernel_rfl
@[go_sem] theorem cellsOf_101:Tryz.prog.cellsOf 101=1:=by kernel_rfl
@[go_sem] theorem bytesOf_101:Tryz.prog.bytesOf 101=8:=by kernel_rfl
@[go_sem] theorem sliceT_101:aX Tryz.prog 101=none:=by kernel_rfl
@[go_sem] theorem arrT_101:cy Tryz.prog 101=none:=by kernel_rfl
@[go_sem] theorem aggT_101:b7 Tryz.prog 101=some false:=by kernel_rfl
@[go_sem] theorem intT_101:cD Tryz.prog 101=none:=by kernel_rfl
@[go_sem] theorem isBoolT_101:aS Tryz.prog 101=false:=by kernel_rfl
@[go_sem] theorem infoT_101:(Tryz.prog.info? 101).isSome=true:=by kernel_rfl
@[go_sem] theorem plainIface_101:aC Tryz.prog 101=true:=by kernel_rfl
@[go_sem] theorem undT_101:Tryz.prog.underlying 101=some (.map 9 4):=by kernel_rfl
@[go_sem] theorem mapT_101:nH Tryz.prog 101=some (9,4):=by kernel_rfl
@[go_sem] theorem zeroT_101:bt Tryz.prog 101=some [.d .cU]:=by kernel_rfl
@[go_sem] theorem zeroV_101:zeroV Tryz.prog 101=some (.d .cU):=by kernel_rfl
@[go_sem] theorem zeroD_101:bM Tryz.prog 101=some .cU:=by kernel_rfl
@[go_sem] theorem cellsOf_103:Tryz.prog.cellsOf 103=2:=by kernel_rfl
@[go_sem] theorem bytesOf_103:Tryz.prog.bytesOf 103=24:=by kernel_rfl
@[go_sem] theorem sliceT_103:aX Tryz.prog 103=none:=by kernel_rfl
@[go_sem] theorem arrT_103:cy Tryz.prog 103=none:=by kernel_rfl
@[go_sem] theorem aggT_103:b7 Tryz.prog 103=some true:=by kernel_rfl
@[go_sem] theorem intT_103:cD Tryz.prog 103=none:=by kernel_rfl
@[go_sem] theorem isBoolT_103:aS Tryz.prog 103=false:=by kernel_rfl
@[go_sem] theorem infoT_103:(Tryz.prog.info? 103).isSome=true:=by kernel_rfl
@[go_sem] theorem plainIface_103:aC Tryz.prog 103=true:=by kernel_rfl
@[go_sem] theorem zeroT_103:bt Tryz.prog 103=some [.d (.str []), .d (.int .i64 0)]:=by kernel_rfl
@[go_sem] theorem zeroV_103:zeroV Tryz.prog 103=some (ff [.d (.str []), .d (.int .i64 0)]):=by kernel_rfl
@[go_sem] theorem zeroD_103:bM Tryz.prog 103=some (.agg [(.str []),(.int .i64 0)]):=by kernel_rfl
@[go_sem] theorem placesT_103:dv Tryz.prog 103=some [(0,1),(1,1)]:=by kernel_rfl
@[go_sem] theorem cellsOf_105:Tryz.prog.cellsOf 105=1:=by kernel_rfl
@[go_sem] theorem bytesOf_105:Tryz.prog.bytesOf 105=8:=by kernel_rfl
@[go_sem] theorem sliceT_105:aX Tryz.prog 105=none:=by kernel_rfl
@[go_sem] theorem arrT_105:cy Tryz.prog 105=none:=by kernel_rfl
@[go_sem] theorem aggT_105:b7 Tryz.prog 105=some false:=by kernel_rfl
@[go_sem] theorem intT_105:cD Tryz.prog 105=none:=by kernel_rfl
@[go_sem] theorem isBoolT_105:aS Tryz.prog 105=false:=by kernel_rfl
@[go_sem] theorem infoT_105:(Tryz.prog.info? 105).isSome=true:=by kernel_rfl
@[go_sem] theorem plainIface_105:aC Tryz.prog 105=true:=by kernel_rfl
@[go_sem] theorem zeroT_105:bt Tryz.prog 105=some [.d .a7]:=by kernel_rfl
@[go_sem] theorem zeroV_105:zeroV Tryz.prog 105=some (.d .a7):=by kernel_rfl
@[go_sem] theorem zeroD_105:bM Tryz.prog 105=some .a7:=by kernel_rfl
@[go_sem] theorem cellsOf_110:Tryz.prog.cellsOf 110=1:=by kernel_rfl
@[go_sem] theorem bytesOf_110:Tryz.prog.bytesOf 110=24:=by kernel_rfl
@[go_sem] theorem sliceT_110:aX Tryz.prog 110=some 9:=by kernel_rfl
@[go_sem] theorem arrT_110:cy Tryz.prog 110=none:=by kernel_rfl
@[go_sem] theorem aggT_110:b7 Tryz.prog 110=some false:=by kernel_rfl
@[go_sem] theorem intT_110:cD Tryz.prog 110=none:=by kernel_rfl
@[go_sem] theorem isBoolT_110:aS Tryz.prog 110=false:=by kernel_rfl
@[go_sem] theorem infoT_110:(Tryz.prog.info? 110).isSome=true:=by kernel_rfl
@[go_sem] theorem plainIface_110:aC Tryz.prog 110=true:=by kernel_rfl
@[go_sem] theorem undT_110:Tryz.prog.underlying 110=some (.slice 9):=by kernel_rfl
@[go_sem] theorem zeroT_110:bt Tryz.prog 110=some [.br]:=by kernel_rfl
@[go_sem] theorem zeroV_110:zeroV Tryz.prog 110=some (.br):=by kernel_rfl
@[go_sem] theorem zeroD_110:bM Tryz.prog 110=some (.sl []):=by kernel_rfl
@[go_sem] theorem cellsOf_118:Tryz.prog.cellsOf 118=1:=by kernel_rfl
@[go_sem] theorem bytesOf_118:Tryz.prog.bytesOf 118=8:=by kernel_rfl
@[go_sem] theorem sliceT_118:aX Tryz.prog 118=none:=by kernel_rfl
@[go_sem] theorem arrT_118:cy Tryz.prog 118=none:=by kernel_rfl
@[go_sem] theorem aggT_118:b7 Tryz.prog 118=some false:=by kernel_rfl
@[go_sem] theorem intT_118:cD Tryz.prog 118=none:=by kernel_rfl
@[go_sem] theorem isBoolT_118:aS Tryz.prog 118=false:=by kernel_rfl
@[go_sem] theorem infoT_118:(Tryz.prog.info? 118).isSome=true:=by kernel_rfl
@[go_sem] theorem plainIface_118:aC Tryz.prog 118=true:=by kernel_rfl
@[go_sem] theorem zeroT_118:bt Tryz.prog 118=some [.d .a7]:=by kernel_rfl
@[go_sem] theorem zeroV_118:zeroV Tryz.prog 118=some (.d .a7):=by kernel_rfl
@[go_sem] theorem zeroD_118:bM Tryz.prog 118=some .a7:=by kernel_rfl
@[go_sem] theorem cellsOf_119:Tryz.prog.cellsOf 119=1:=by kernel_rfl
@[go_sem] theorem bytesOf_119:Tryz.prog.bytesOf 119=8:=by kernel_rfl
@[go_sem] theorem sliceT_119:aX Tryz.prog 119=none:=by kernel_rfl
@[go_sem] theorem arrT_119:cy Tryz.prog 119=none:=by kernel_rfl
@[go_sem] theorem aggT_119:b7 Tryz.prog 119=some false:=by kernel_rfl
@[go_sem] theorem intT_119:cD Tryz.prog 119=none:=by kernel_rfl
@[go_sem] theorem isBoolT_119:aS Tryz.prog 119=false:=by kernel_rfl
@[go_sem] theorem infoT_119:(Tryz.prog.info? 119).isSome=true:=by kernel_rfl
@[go_sem] theorem plainIface_119:aC Tryz.prog 119=true:=by kernel_rfl
@[go_sem] theorem zeroT_119:bt Tryz.prog 119=some [.d .a7]:=by kernel_rfl
@[go_sem] theorem zeroV_119:zeroV Tryz.prog 119=some (.d .a7):=by kernel_rfl
@[go_sem] theorem zeroD_119:bM Tryz.prog 119=some .a7:=by kernel_rfl
@[go_sem] theorem cellsOf_120:Tryz.prog.cellsOf 120=16:=by kernel_rfl
@[go_sem] theorem bytesOf_120:Tryz.prog.bytesOf 120=128:=by kernel_rfl
@[go_sem] theorem sliceT_120:aX Tryz.prog 120=none:=by kernel_rfl
@[go_sem] theorem arrT_120:cy Tryz.prog 120=some (16,119):=by kernel_rfl
@[go_sem] theorem aggT_120:b7 Tryz.prog 120=some true:=by kernel_rfl
@[go_sem] theorem intT_120:cD Tryz.prog 120=none:=by kernel_rfl
@[go_sem] theorem isBoolT_120:aS Tryz.prog 120=false:=by kernel_rfl
@[go_sem] theorem infoT_120:(Tryz.prog.info? 120).isSome=true:=by kernel_rfl
@[go_sem] theorem plainIface_120:aC Tryz.prog 120=true:=by kernel_rfl
@[go_sem] theorem undT_120:Tryz.prog.underlying 120=some (.array 16 119):=by kernel_rfl
@[go_sem] theorem zeroT_120:bt Tryz.prog 120=some [.d .a7, .d .a7, .d .a7, .d .a7, .d .a7, .d .a7, .d .a7, .d .a7, .d .a7, .d .a7, .d .a7, .d .a7, .d .a7, .d .a7, .d .a7, .d .a7]:=by kernel_rfl
@[go_sem] theorem zeroV_120:zeroV Tryz.prog 120=some (ff [.d .a7, .d .a7, .d .a7, .d .a7, .d .a7, .d .a7, .d .a7, .d .a7, .d .a7, .d .a7, .d .a7, .d .a7, .d .a7, .d .a7, .d .a7, .d .a7]):=by kernel_rfl
@[go_sem] theorem zeroD_120:bM Tryz.prog 120=some (.agg [.a7, .a7, .a7, .a7, .a7, .a7, .a7, .a7, .a7, .a7, .a7, .a7, .a7, .a7, .a7, .a7]):=by kernel_rfl
@[go_sem] theorem placesT_120:dv Tryz.prog 120=some [(0,1),(1,1),(2,1),(3,1),(4,1),(5,1),(6,1),(7,1),(8,1),(9,1),(10,1),(11,1),(12,1),(13,1),(14,1),(15,1)]:=by kernel_rfl
@[go_sem] theorem cellsOf_123:Tryz.prog.cellsOf 123=2:=by kernel_rfl
@[go_sem] theorem bytesOf_123:Tryz.prog.bytesOf 123=48:=by kernel_rfl
@[go_sem] theorem sliceT_123:aX Tryz.prog 123=none:=by kernel_rfl
@[go_sem] theorem arrT_123:cy Tryz.prog 123=none:=by kernel_rfl
@[go_sem] theorem aggT_123:b7 Tryz.prog 123=some true:=by kernel_rfl
@[go_sem] theorem intT_123:cD Tryz.prog 123=none:=by kernel_rfl
@[go_sem] theorem isBoolT_123:aS Tryz.prog 123=false:=by kernel_rfl
@[go_sem] theorem infoT_123:(Tryz.prog.info? 123).isSome=true:=by kernel_rfl
@[go_sem] theorem plainIface_123:aC Tryz.prog 123=true:=by kernel_rfl
@[go_sem] theorem zeroT_123:bt Tryz.prog 123=some [.br, .br]:=by kernel_rfl
@[go_sem] theorem zeroV_123:zeroV Tryz.prog 123=some (ff [.br, .br]):=by kernel_rfl
@[go_sem] theorem zeroD_123:bM Tryz.prog 123=some (.agg [(.sl []),(.sl [])]):=by kernel_rfl
@[go_sem] theorem placesT_123:dv Tryz.prog 123=some [(0,2)]:=by kernel_rfl
@[go_sem] theorem cellsOf_131:Tryz.prog.cellsOf 131=1:=by kernel_rfl
@[go_sem] theorem bytesOf_131:Tryz.prog.bytesOf 131=8:=by kernel_rfl
@[go_sem] theorem sliceT_131:aX Tryz.prog 131=none:=by kernel_rfl
@[go_sem] theorem arrT_131:cy Tryz.prog 131=none:=by kernel_rfl
@[go_sem] theorem aggT_131:b7 Tryz.prog 131=some false:=by kernel_rfl
@[go_sem] theorem intT_131:cD Tryz.prog 131=some .i64:=by kernel_rfl
@[go_sem] theorem isBoolT_131:aS Tryz.prog 131=false:=by kernel_rfl
@[go_sem] theorem infoT_131:(Tryz.prog.info? 131).isSome=true:=by kernel_rfl
@[go_sem] theorem plainIface_131:aC Tryz.prog 131=true:=by kernel_rfl
@[go_sem] theorem undT_131:Tryz.prog.underlying 131=some (.int .i64):=by kernel_rfl
@[go_sem] theorem eqShape_131:bn Tryz.prog 131=some .int:=by kernel_rfl
@[go_sem] theorem zeroT_131:bt Tryz.prog 131=some [.d (.int .i64 0)]:=by kernel_rfl
@[go_sem] theorem zeroV_131:zeroV Tryz.prog 131=some (.d (.int .i64 0)):=by kernel_rfl
@[go_sem] theorem zeroD_131:bM Tryz.prog 131=some (.int .i64 0):=by kernel_rfl
@[go_sem] theorem cellsOf_132:Tryz.prog.cellsOf 132=3:=by kernel_rfl
@[go_sem] theorem bytesOf_132:Tryz.prog.bytesOf 132=40:=by kernel_rfl
@[go_sem] theorem sliceT_132:aX Tryz.prog 132=none:=by kernel_rfl
@[go_sem] theorem arrT_132:cy Tryz.prog 132=none:=by kernel_rfl
@[go_sem] theorem aggT_132:b7 Tryz.prog 132=some true:=by kernel_rfl
@[go_sem] theorem intT_132:cD Tryz.prog 132=none:=by kernel_rfl
@[go_sem] theorem isBoolT_132:aS Tryz.prog 132=false:=by kernel_rfl
@[go_sem] theorem infoT_132:(Tryz.prog.info? 132).isSome=true:=by kernel_rfl
@[go_sem] theorem plainIface_132:aC Tryz.prog 132=true:=by kernel_rfl
@[go_sem] theorem zeroT_132:bt Tryz.prog 132=some [.d (.int .i64 0), .d (.int .i64 0), .br]:=by kernel_rfl
@[go_sem] theorem zeroV_132:zeroV Tryz.prog 132=some (ff [.d (.int .i64 0), .d (.int .i64 0), .br]):=by kernel_rfl
@[go_sem] theorem zeroD_132:bM Tryz.prog 132=some (.agg [(.int .i64 0),(.int .i64 0),(.sl [])]):=by kernel_rfl
@[go_sem] theorem cellsOf_134:Tryz.prog.cellsOf 134=0:=by kernel_rfl
@[go_sem] theorem bytesOf_134:Tryz.prog.bytesOf 134=0:=by kernel_rfl
@[go_sem] theorem sliceT_134:aX Tryz.prog 134=none:=by kernel_rfl
@[go_sem] theorem arrT_134:cy Tryz.prog 134=none:=by kernel_rfl
@[go_sem] theorem aggT_134:b7 Tryz.prog 134=some true:=by kernel_rfl
@[go_sem] theorem intT_134:cD Tryz.prog 134=none:=by kernel_rfl
@[go_sem] theorem isBoolT_134:aS Tryz.prog 134=false:=by kernel_rfl
@[go_sem] theorem infoT_134:(Tryz.prog.info? 134).isSome=true:=by kernel_rfl
@[go_sem] theorem plainIface_134:aC Tryz.prog 134=true:=by kernel_rfl
@[go_sem] theorem zeroT_134:bt Tryz.prog 134=some []:=by kernel_rfl
@[go_sem] theorem zeroV_134:zeroV Tryz.prog 134=some (ff []):=by kernel_rfl
@[go_sem] theorem zeroD_134:bM Tryz.prog 134=some (.agg []):=by kernel_rfl
@[go_sem] theorem placesT_134:dv Tryz.prog 134=some []:=by kernel_rfl
@[go_sem] theorem cellsOf_143:Tryz.prog.cellsOf 143=1:=by kernel_rfl
@[go_sem] theorem bytesOf_143:Tryz.prog.bytesOf 143=8:=by kernel_rfl
@[go_sem] theorem sliceT_143:aX Tryz.prog 143=none:=by kernel_rfl
@[go_sem] theorem arrT_143:cy Tryz.prog 143=none:=by kernel_rfl
@[go_sem] theorem aggT_143:b7 Tryz.prog 143=some false:=by kernel_rfl
@[go_sem] theorem intT_143:cD Tryz.prog 143=some .u64:=by kernel_rfl
@[go_sem] theorem isBoolT_143:aS Tryz.prog 143=false:=by kernel_rfl
@[go_sem] theorem infoT_143:(Tryz.prog.info? 143).isSome=true:=by kernel_rfl
@[go_sem] theorem plainIface_143:aC Tryz.prog 143=true:=by kernel_rfl
@[go_sem] theorem undT_143:Tryz.prog.underlying 143=some (.int .u64):=by kernel_rfl
@[go_sem] theorem eqShape_143:bn Tryz.prog 143=some .int:=by kernel_rfl
@[go_sem] theorem zeroT_143:bt Tryz.prog 143=some [.d (.int .u64 0)]:=by kernel_rfl
@[go_sem] theorem zeroV_143:zeroV Tryz.prog 143=some (.d (.int .u64 0)):=by kernel_rfl
@[go_sem] theorem zeroD_143:bM Tryz.prog 143=some (.int .u64 0):=by kernel_rfl
@[go_sem] theorem cellsOf_144:Tryz.prog.cellsOf 144=1:=by kernel_rfl
@[go_sem] theorem bytesOf_144:Tryz.prog.bytesOf 144=8:=by kernel_rfl
@[go_sem] theorem sliceT_144:aX Tryz.prog 144=none:=by kernel_rfl
@[go_sem] theorem arrT_144:cy Tryz.prog 144=none:=by kernel_rfl
@[go_sem] theorem aggT_144:b7 Tryz.prog 144=some false:=by kernel_rfl
@[go_sem] theorem intT_144:cD Tryz.prog 144=none:=by kernel_rfl
@[go_sem] theorem isBoolT_144:aS Tryz.prog 144=false:=by kernel_rfl
@[go_sem] theorem infoT_144:(Tryz.prog.info? 144).isSome=true:=by kernel_rfl
@[go_sem] theorem plainIface_144:aC Tryz.prog 144=true:=by kernel_rfl
@[go_sem] theorem zeroT_144:bt Tryz.prog 144=some [.d .gx]:=by kernel_rfl
@[go_sem] theorem zeroV_144:zeroV Tryz.prog 144=some (.d .gx):=by kernel_rfl
@[go_sem] theorem zeroD_144:bM Tryz.prog 144=some .gx:=by kernel_rfl
@[go_sem] theorem cellsOf_145:Tryz.prog.cellsOf 145=1:=by kernel_rfl
@[go_sem] theorem bytesOf_145:Tryz.prog.bytesOf 145=8:=by kernel_rfl
@[go_sem] theorem sliceT_145:aX Tryz.prog 145=none:=by kernel_rfl
@[go_sem] theorem arrT_145:cy Tryz.prog 145=none:=by kernel_rfl
@[go_sem] theorem aggT_145:b7 Tryz.prog 145=some false:=by kernel_rfl
@[go_sem] theorem intT_145:cD Tryz.prog 145=none:=by kernel_rfl
@[go_sem] theorem isBoolT_145:aS Tryz.prog 145=false:=by kernel_rfl
@[go_sem] theorem infoT_145:(Tryz.prog.info? 145).isSome=true:=by kernel_rfl
@[go_sem] theorem plainIface_145:aC Tryz.prog 145=true:=by kernel_rfl
@[go_sem] theorem undT_145:Tryz.prog.underlying 145=some (.map 3 3):=by kernel_rfl
@[go_sem] theorem mapT_145:nH Tryz.prog 145=some (3,3):=by kernel_rfl
@[go_sem] theorem zeroT_145:bt Tryz.prog 145=some [.d .cU]:=by kernel_rfl
@[go_sem] theorem zeroV_145:zeroV Tryz.prog 145=some (.d .cU):=by kernel_rfl
@[go_sem] theorem zeroD_145:bM Tryz.prog 145=some .cU:=by kernel_rfl
@[go_sem] theorem cellsOf_147:Tryz.prog.cellsOf 147=2:=by kernel_rfl
@[go_sem] theorem bytesOf_147:Tryz.prog.bytesOf 147=16:=by kernel_rfl
@[go_sem] theorem sliceT_147:aX Tryz.prog 147=none:=by kernel_rfl
@[go_sem] theorem arrT_147:cy Tryz.prog 147=none:=by kernel_rfl
@[go_sem] theorem aggT_147:b7 Tryz.prog 147=some true:=by kernel_rfl
@[go_sem] theorem intT_147:cD Tryz.prog 147=none:=by kernel_rfl
@[go_sem] theorem isBoolT_147:aS Tryz.prog 147=false:=by kernel_rfl
@[go_sem] theorem infoT_147:(Tryz.prog.info? 147).isSome=true:=by kernel_rfl
@[go_sem] theorem plainIface_147:aC Tryz.prog 147=true:=by kernel_rfl
@[go_sem] theorem zeroT_147:bt Tryz.prog 147=some [.d (.int .i64 0), .d .cU]:=by kernel_rfl
@[go_sem] theorem zeroV_147:zeroV Tryz.prog 147=some (ff [.d (.int .i64 0), .d .cU]):=by kernel_rfl
@[go_sem] theorem zeroD_147:bM Tryz.prog 147=some (.agg [(.int .i64 0), .cU]):=by kernel_rfl
@[go_sem] theorem placesT_147:dv Tryz.prog 147=some [(0,1),(1,1)]:=by kernel_rfl
@[go_sem] theorem cellsOf_149:Tryz.prog.cellsOf 149=2:=by kernel_rfl
@[go_sem] theorem bytesOf_149:Tryz.prog.bytesOf 149=16:=by kernel_rfl
@[go_sem] theorem sliceT_149:aX Tryz.prog 149=none:=by kernel_rfl
@[go_sem] theorem arrT_149:cy Tryz.prog 149=none:=by kernel_rfl
@[go_sem] theorem aggT_149:b7 Tryz.prog 149=some true:=by kernel_rfl
@[go_sem] theorem intT_149:cD Tryz.prog 149=none:=by kernel_rfl
@[go_sem] theorem isBoolT_149:aS Tryz.prog 149=false:=by kernel_rfl
@[go_sem] theorem infoT_149:(Tryz.prog.info? 149).isSome=true:=by kernel_rfl
@[go_sem] theorem plainIface_149:aC Tryz.prog 149=true:=by kernel_rfl
@[go_sem] theorem zeroT_149:bt Tryz.prog 149=some [.d .gx, .d .cU]:=by kernel_rfl
@[go_sem] theorem zeroV_149:zeroV Tryz.prog 149=some (ff [.d .gx, .d .cU]):=by kernel_rfl
@[go_sem] theorem zeroD_149:bM Tryz.prog 149=some (.agg [.gx, .cU]):=by kernel_rfl
@[go_sem] theorem placesT_149:dv Tryz.prog 149=some [(0,1),(1,1)]:=by kernel_rfl
@[go_sem] theorem cellsOf_153:Tryz.prog.cellsOf 153=2:=by kernel_rfl
@[go_sem] theorem bytesOf_153:Tryz.prog.bytesOf 153=16:=by kernel_rfl
@[go_sem] theorem sliceT_153:aX Tryz.prog 153=none:=by kernel_rfl
@[go_sem] theorem arrT_153:cy Tryz.prog 153=some (2,3):=by kernel_rfl
@[go_sem] theorem aggT_153:b7 Tryz.prog 153=some true:=by kernel_rfl
@[go_sem] theorem intT_153:cD Tryz.prog 153=none:=by kernel_rfl
@[go_sem] theorem isBoolT_153:aS Tryz.prog 153=false:=by kernel_rfl
@[go_sem] theorem infoT_153:(Tryz.prog.info? 153).isSome=true:=by kernel_rfl
@[go_sem] theorem plainIface_153:aC Tryz.prog 153=true:=by kernel_rfl
@[go_sem] theorem undT_153:Tryz.prog.underlying 153=some (.array 2 3):=by kernel_rfl
@[go_sem] theorem zeroT_153:bt Tryz.prog 153=some [.d (.int .i64 0), .d (.int .i64 0)]:=by kernel_rfl
@[go_sem] theorem zeroV_153:zeroV Tryz.prog 153=some (ff [.d (.int .i64 0), .d (.int .i64 0)]):=by kernel_rfl
@[go_sem] theorem zeroD_153:bM Tryz.prog 153=some (.agg [(.int .i64 0),(.int .i64 0)]):=by kernel_rfl
@[go_sem] theorem placesT_153:dv Tryz.prog 153=some [(0,1),(1,1)]:=by kernel_rfl
@[go_sem] theorem cellsOf_154:Tryz.prog.cellsOf 154=1:=by kernel_rfl
@[go_sem] theorem bytesOf_154:Tryz.prog.bytesOf 154=8:=by kernel_rfl
@[go_sem] theorem sliceT_154:aX Tryz.prog 154=none:=by kernel_rfl
@[go_sem] theorem arrT_154:cy Tryz.prog 154=none:=by kernel_rfl
@[go_sem] theorem aggT_154:b7 Tryz.prog 154=some false:=by kernel_rfl
@[go_sem] theorem intT_154:cD Tryz.prog 154=none:=by kernel_rfl
@[go_sem] theorem isBoolT_154:aS Tryz.prog 154=false:=by kernel_rfl
@[go_sem] theorem infoT_154:(Tryz.prog.info? 154).isSome=true:=by kernel_rfl
@[go_sem] theorem plainIface_154:aC Tryz.prog 154=true:=by kernel_rfl
@[go_sem] theorem zeroT_154:bt Tryz.prog 154=some [.d .a7]:=by kernel_rfl
@[go_sem] theorem zeroV_154:zeroV Tryz.prog 154=some (.d .a7):=by kernel_rfl
@[go_sem] theorem zeroD_154:bM Tryz.prog 154=some .a7:=by kernel_rfl
@[go_sem] theorem cellsOf_160:Tryz.prog.cellsOf 160=1:=by kernel_rfl
@[go_sem] theorem bytesOf_160:Tryz.prog.bytesOf 160=8:=by kernel_rfl
@[go_sem] theorem sliceT_160:aX Tryz.prog 160=none:=by kernel_rfl
@[go_sem] theorem arrT_160:cy Tryz.prog 160=none:=by kernel_rfl
@[go_sem] theorem aggT_160:b7 Tryz.prog 160=some false:=by kernel_rfl
@[go_sem] theorem intT_160:cD Tryz.prog 160=some .i64:=by kernel_rfl
@[go_sem] theorem isBoolT_160:aS Tryz.prog 160=false:=by kernel_rfl
@[go_sem] theorem infoT_160:(Tryz.prog.info? 160).isSome=true:=by kernel_rfl
@[go_sem] theorem plainIface_160:aC Tryz.prog 160=true:=by kernel_rfl
@[go_sem] theorem undT_160:Tryz.prog.underlying 160=some (.int .i64):=by kernel_rfl
@[go_sem] theorem eqShape_160:bn Tryz.prog 160=some .int:=by kernel_rfl
@[go_sem] theorem zeroT_160:bt Tryz.prog 160=some [.d (.int .i64 0)]:=by kernel_rfl
@[go_sem] theorem zeroV_160:zeroV Tryz.prog 160=some (.d (.int .i64 0)):=by kernel_rfl
@[go_sem] theorem zeroD_160:bM Tryz.prog 160=some (.int .i64 0):=by kernel_rfl
@[go_sem] theorem cellsOf_168:Tryz.prog.cellsOf 168=1:=by kernel_rfl
@[go_sem] theorem bytesOf_168:Tryz.prog.bytesOf 168=4:=by kernel_rfl
@[go_sem] theorem sliceT_168:aX Tryz.prog 168=none:=by kernel_rfl
@[go_sem] theorem arrT_168:cy Tryz.prog 168=none:=by kernel_rfl
@[go_sem] theorem aggT_168:b7 Tryz.prog 168=some false:=by kernel_rfl
@[go_sem] theorem intT_168:cD Tryz.prog 168=some .u32:=by kernel_rfl
@[go_sem] theorem isBoolT_168:aS Tryz.prog 168=false:=by kernel_rfl
@[go_sem] theorem infoT_168:(Tryz.prog.info? 168).isSome=true:=by kernel_rfl
@[go_sem] theorem plainIface_168:aC Tryz.prog 168=true:=by kernel_rfl
@[go_sem] theorem undT_168:Tryz.prog.underlying 168=some (.int .u32):=by kernel_rfl
@[go_sem] theorem eqShape_168:bn Tryz.prog 168=some .int:=by kernel_rfl
@[go_sem] theorem zeroT_168:bt Tryz.prog 168=some [.d (.int .u32 0)]:=by kernel_rfl
@[go_sem] theorem zeroV_168:zeroV Tryz.prog 168=some (.d (.int .u32 0)):=by kernel_rfl
@[go_sem] theorem zeroD_168:bM Tryz.prog 168=some (.int .u32 0):=by kernel_rfl
@[go_sem] theorem cellsOf_170:Tryz.prog.cellsOf 170=1:=by kernel_rfl
@[go_sem] theorem bytesOf_170:Tryz.prog.bytesOf 170=8:=by kernel_rfl
@[go_sem] theorem sliceT_170:aX Tryz.prog 170=none:=by kernel_rfl
@[go_sem] theorem arrT_170:cy Tryz.prog 170=none:=by kernel_rfl
@[go_sem] theorem aggT_170:b7 Tryz.prog 170=some false:=by kernel_rfl
@[go_sem] theorem intT_170:cD Tryz.prog 170=some .u64:=by kernel_rfl
@[go_sem] theorem isBoolT_170:aS Tryz.prog 170=false:=by kernel_rfl
@[go_sem] theorem infoT_170:(Tryz.prog.info? 170).isSome=true:=by kernel_rfl
@[go_sem] theorem plainIface_170:aC Tryz.prog 170=true:=by kernel_rfl
@[go_sem] theorem undT_170:Tryz.prog.underlying 170=some (.int .u64):=by kernel_rfl
@[go_sem] theorem eqShape_170:bn Tryz.prog 170=some .int:=by kernel_rfl
@[go_sem] theorem zeroT_170:bt Tryz.prog 170=some [.d (.int .u64 0)]:=by kernel_rfl
@[go_sem] theorem zeroV_170:zeroV Tryz.prog 170=some (.d (.int .u64 0)):=by kernel_rfl
@[go_sem] theorem zeroD_170:bM Tryz.prog 170=some (.int .u64 0):=by kernel_rfl
@[go_sem] theorem cellsOf_172:Tryz.prog.cellsOf 172=1:=by kernel_rfl
@[go_sem] theorem bytesOf_172:Tryz.prog.bytesOf 172=8:=by kernel_rfl
@[go_sem] theorem sliceT_172:aX Tryz.prog 172=none:=by kernel_rfl
@[go_sem] theorem arrT_172:cy Tryz.prog 172=none:=by kernel_rfl
@[go_sem] theorem aggT_172:b7 Tryz.prog 172=some false:=by kernel_rfl
@[go_sem] theorem intT_172:cD Tryz.prog 172=some .u64:=by kernel_rfl
@[go_sem] theorem isBoolT_172:aS Tryz.prog 172=false:=by kernel_rfl
@[go_sem] theorem infoT_172:(Tryz.prog.info? 172).isSome=true:=by kernel_rfl
@[go_sem] theorem plainIface_172:aC Tryz.prog 172=true:=by kernel_rfl
@[go_sem] theorem undT_172:Tryz.prog.underlying 172=some (.int .u64):=by kernel_rfl
@[go_sem] theorem eqShape_172:bn Tryz.prog 172=some .int:=by kernel_rfl
@[go_sem] theorem zeroT_172:bt Tryz.prog 172=some [.d (.int .u64 0)]:=by kernel_rfl
@[go_sem] theorem zeroV_172:zeroV Tryz.prog 172=some (.d (.int .u64 0)):=by kernel_rfl
@[go_sem] theorem zeroD_172:bM Tryz.prog 172=some (.int .u64 0):=by kernel_rfl
@[go_sem] theorem fieldT_24_0:cl Tryz.prog 24 0=some 0:=by kernel_rfl
@[go_sem] theorem fieldT_24_1:cl Tryz.prog 24 1=some 1:=by kernel_rfl
@[go_sem] theorem fieldT_28_0:cl Tryz.prog 28 0=some 0:=by kernel_rfl
@[go_sem] theorem fieldT_28_1:cl Tryz.prog 28 1=some 1:=by kernel_rfl
@[go_sem] theorem fieldT_28_2:cl Tryz.prog 28 2=some 2:=by kernel_rfl
@[go_sem] theorem fieldT_52_0:cl Tryz.prog 52 0=some 0:=by kernel_rfl
@[go_sem] theorem fieldT_52_1:cl Tryz.prog 52 1=some 1:=by kernel_rfl
@[go_sem] theorem fieldT_98_0:cl Tryz.prog 98 0=some 0:=by kernel_rfl
@[go_sem] theorem fieldT_98_1:cl Tryz.prog 98 1=some 1:=by kernel_rfl
@[go_sem] theorem fieldT_98_2:cl Tryz.prog 98 2=some 2:=by kernel_rfl
@[go_sem] theorem fieldT_103_0:cl Tryz.prog 103 0=some 0:=by kernel_rfl
@[go_sem] theorem fieldT_103_1:cl Tryz.prog 103 1=some 1:=by kernel_rfl
@[go_sem] theorem fieldT_123_0:cl Tryz.prog 123 0=some 0:=by kernel_rfl
@[go_sem] theorem fieldT_132_0:cl Tryz.prog 132 0=some 0:=by kernel_rfl
@[go_sem] theorem fieldT_132_1:cl Tryz.prog 132 1=some 1:=by kernel_rfl
@[go_sem] theorem fieldT_132_2:cl Tryz.prog 132 2=some 2:=by kernel_rfl
@[go_sem] theorem fieldT_147_0:cl Tryz.prog 147 0=some 0:=by kernel_rfl
@[go_sem] theorem fieldT_147_1:cl Tryz.prog 147 1=some 1:=by kernel_rfl
@[go_sem] theorem fieldT_149_0:cl Tryz.prog 149 0=some 0:=by kernel_rfl
@[go_sem] theorem fieldT_149_1:cl Tryz.prog 149 1=some 1:=by kernel_rfl
end Go.Proofs.YtealblliddhgiaaGreat
namespace Go.Proofs.YtealblliddhgiaaGreat
def Ct(so:Nat->ab)(c:Nat)(ty:TypeId)(sz:Nat)(es:List D)(x:V):Prop:=
 (x= .br/\es=[]/\0<sz)\/∃id ep,c<=id/\x= .osl id ep/\so id= .arr ep ty sz es
def Ge(c:Nat)(x:V)(env:Nat->V):List V->Nat->Prop
 |[],_=>True
 |v::l,i=>(v= .af\/(v=env i/\∀r∈v.refs,r<c)\/(v= .osl c 0/\env i=x))/\Ge c x env l (i+1)
theorem zq{c:Nat}{x:V}{env:Nat->V}:∀ (l:List V) (i:Nat),Ge c x env l i->∀j,bq l j= .af\/(bq l j=env (i+j)/\∀r∈(bq l j).refs,r<c)\/(bq l j= .osl c 0/\env (i+j)=x)
 |[],i,_,j=>by rw[jk];exact .inl rfl
 |v::l,i,h,0=>by rw[iT];exact h.1
 |v::l,i,h,j+1=>by
  rw[gH]
  have:=zq l (i+1) h.2 j
  rwa [show i+1+j=i+(j+1) by omega]at this
def qb(φ:Place)(c:Nat)(x:V):Place:=fun id=>if id=c then(match x with| .osl id _=>φ id|_=> .slice none 0 0)else φ id
theorem bP.grow {b:Nat}{e:Nat->V}{so:Nat->ab}{m:Nat}(l:List V){o:Nat->ab}{c:Nat}{ty:TypeId}{sz:Nat}{es:List D}(x:V)(hb:b<=c)(H9:c<=m)(hg:Good o c)(ho:∀id,id<c->so id=o id)(hx:Ct so c ty sz es x)(he:Ge c x e l 0):
 bP b ⟨e,so,m⟩ ⟨bq l,ax o c (.arr 0 ty sz es),c+1⟩:=by
 intro M φ w tm hH hd
 let aB:Place:=qb φ c x
 let o':Nat->ab:=ax o c (.arr 0 ty sz es)
 let H':Hp:=hp o' (c+1)
 let H:Hp:=⟨so,fun id=>id<m⟩
 have qL:o' c= .arr 0 ty sz es:=aa _ _ _
 have EH:∀id,id<c->o' id=o id:=fun id aw=>ae _ _ _ _ (by omega)
 have Na:∀id,c<id->o' id= .no:=fun id aw=>by rw[show o' id=o id from ae _ _ _ _ (by omega)];exact hg.fresh id (by omega)
 have lD:∀id,id<c->aB id=φ id:=fun id aw=>if_neg (by omega)
 have Bf:x= .br->aB c= .slice none 0 0:=fun h=>by simp only[aB,qb,h,if_pos]
 have Bg:∀id ep,x= .osl id ep->aB c=φ id:=fun id ep h=>by simp only[aB,qb,if_pos,h]
 have hold:∀id k,(o' id).live=true->eA (aB id)=some k->∃j,(so j).live=true/\eA (φ j)=some k/\((id<c/\j=id)\/(id=c/\c<=j)):=by
  intro id k h1 h2
  rcases Nat.lt_trichotomy id c with bI|heq|eB
  ·rw[EH id bI]at h1;rw[lD id bI]at h2
   exact⟨id,by rw[ho id bI];exact h1,h2, .inl ⟨bI,rfl⟩⟩
  ·subst heq
   rcases hx with⟨rfl,_,_⟩|⟨j,ep,hj,rfl,jz⟩
   ·rw[Bf rfl]at h2;cases h2
   ·rw[Bg j ep rfl]at h2
    exact⟨j,by rw[jz];rfl,h2, .inr ⟨rfl,hj⟩⟩
  ·rw[Na id eB]at h1;cases h1
 have bT:∀k,bS aB H' k->bS φ H k:=by
  rintro k ⟨id,h1,h2⟩
  obtain⟨j,g1,g2,_⟩:=hold id k h1 h2
  exact⟨j,g1,g2⟩
 have hB:∀k, ¬aj M φ H k-> ¬aj M aB H' k:=fun k h h'=>h (h'.imp id (bT k))
 have qy:∀id,id<c->H'.o id=H.o id/\aB id=φ id/\H'.us id:=fun id aw=>⟨(EH id aw).trans (ho id aw).symm,lD id aw,(by show id<c+1;omega)⟩
 have ei:∀ (v:V) (val:Value),(∀r∈v.refs,r<c)->V.den (aj M φ H) φ H w v val->V.den (aj M aB H') aB H' w v val:=fun v val hr h=>
  V.kA (H:=H) (H':=H') hB v val (fun id aw=>qy id (hr id aw)) h
 have lM:∀ (v:List V) (val:List Value),(∀r∈V.ah v,r<c)->V.aF (aj M φ H) φ H w v val->V.aF (aj M aB H') aB H' w v val:=fun v val hr h=>
  V.eT (H:=H) (H':=H') hB v val (fun id aw=>qy id (hr id aw)) h
 refine⟨aB,⟨fun id=> ?_,fun id hu=>Na id (by have: ¬id<c+1:=hu;omega),fun i j k h1 h2 h3 h4=> ?_,fun k hk=>hH.ours k (bT k hk),hH.tX⟩,fun i=> ?_,bT,by show b<=c+1;omega,fun id aw hr=> ?_,fun id e' aw fj=> ?_⟩
 ·have aN:=hH.ok id
  have hrefs:=hg.refs id
  show aL M aB H' w id
  unfold aL at aN|-
  rcases Nat.lt_trichotomy id c with bI|heq|eB
  ·have e1:(S.H ⟨e,so,m⟩).o id=o id:=ho id bI
   rw[e1]at aN
   have e2:H'.o id=o id:=EH id bI
   rw[e2,lD id bI]
   cases nb:o id with
   |no=>trivial
   |row cs=>
    simp only[nb]at aN hrefs|-
    obtain⟨b,cI,ty,k1,k2,k3,k4⟩:=aN
    exact⟨b,cI,ty,k1,k2,lM _ _ hrefs k3,k4⟩
   |arr ep ty sz es=>
    simp only[nb]at aN|-
    obtain⟨k1,xs,k2,evs,k3,k4,k5⟩:=aN
    exact⟨k1,xs,k2,evs,k3,k4,D.aJ (fun b _ hn=>⟨rfl,hB b hn⟩) _ _ k5⟩
   |ou ep es=>
    simp only[nb]at aN|-
    exact D.aG (fun b _ hn=>⟨rfl,hB b hn⟩) _ _ aN
   |map kt vt es=>
    simp only[nb]at aN|-
    obtain⟨b,es',clock,k1,k2,k4,k3⟩:=aN
    exact⟨b,es',clock,k1,k2,k4,aI.mono (fun b _ hn=>⟨rfl,hB b hn⟩) _ _ k3⟩
   |eY l=>
    simp only[nb]at aN|-
    exact D.aG (fun b _ hn=>⟨rfl,hB b hn⟩) _ _ aN
   |nD l last=>
    simp only[nb]at aN|-
    obtain⟨b,k1,k2⟩:=aN
    exact⟨b,k1,k2.mono (fun b _ hn=>⟨rfl,hB b hn⟩) rfl⟩
   |rU s pos=>
    simp only[nb]at aN|-
    exact aN
   |loop nf n env ps a b st pd=>
    simp only[nb]at aN hrefs|-
    obtain⟨b,r,k1,k2,k3,k4,k5,k6,k7,k8,k9,FN⟩:=aN
    exact⟨b,r,k1,k2,k3,k4,k5,k6,k7,k8,k9,fun i=>ei _ _ (fun r hr=>hrefs r (V.kD _ _ r hr)) (FN i)⟩
  ·subst heq
   have e2:H'.o id= .arr 0 ty sz es:=qL
   rw[e2]
   rcases hx with⟨rfl,rfl,dL⟩|⟨j,ep,hj,rfl,jz⟩
   ·refine⟨dL,[], ?_,[],by simp,by simp,rfl⟩
    rw[Bf rfl]
    exact World.ownsRow_nil _ _ _ _
   ·have:=hH.ok j
    unfold aL at this
    simp only[S.H,jz]at this
    obtain⟨k1,xs,k2,evs,k3,k4,k5⟩:=this
    exact⟨k1,xs,by rw[Bg j ep rfl];exact k2,evs,k3,k4,D.aJ (fun b _ hn=>⟨rfl,hB b hn⟩) _ _ k5⟩
  ·have e2:H'.o id= .no:=Na id eB
   rw[e2]
   trivial
 ·obtain⟨i',a1,a2,a3⟩:=hold i k h1 h3
  obtain⟨j',b1,b2,b3⟩:=hold j k h2 h4
  have:=hH.apart i' j' k a1 b1 a2 b2
  rcases a3 with⟨a3,a4⟩|⟨a3,a4⟩<;>rcases b3 with⟨b3,b4⟩|⟨b3,b4⟩<;>omega
 ·have hi:=zq l 0 he i
  rw[Nat.zero_add]at hi
  rcases hi with h|⟨h1,h2⟩|⟨h1,h2⟩
  ·show V.den _ _ _ _ (bq l i) _
   rw[h];trivial
  ·have:=hd i
   simp only at this
   rw[<- h1]at this
   exact ei _ _ h2 this
  ·have:=hd i
   simp only at this
   rw[h2]at this
   show V.den _ _ _ _ (bq l i) _
   rw[h1]
   rcases hx with⟨rfl,rfl,dL⟩|⟨j,ep,hj,rfl,jz⟩
   ·simp only[V.den]at this
    rw[this]
    refine⟨rfl,(by show c<c+1;omega),fun e' fj=> ?_⟩
    have fj:(H'.o c).ba=some e':=fj
    have this:H'.o c= .arr 0 ty sz []:=qL
    rw[this]at fj
    simp only[ab.ba,Option.some.injEq]at fj
    subst fj
    exact⟨Nat.le_refl _,fun _=>(Bf rfl).symm⟩
   ·obtain⟨g1,g2,g3⟩:=this
    refine⟨g1,(by show c<c+1;omega),fun e' fj=> ?_⟩
    have fj:(H'.o c).ba=some e':=fj
    have this:H'.o c= .arr 0 ty sz es:=qL
    rw[this]at fj
    simp only[ab.ba,Option.some.injEq]at fj
    subst fj
    have sd:((S.H ⟨e,so,m⟩).o j).ba=some ep:=by simp only[S.H,jz,ab.ba]
    exact⟨Nat.le_refl _,fun _=>by rw[Bg j ep rfl];exact(g3 ep sd).2 rfl⟩
 ·have bI:id<c:=by omega
  exact⟨by show(so id).bN=true;rw[ho id bI, <- EH id bI];exact hr,lD id bI⟩
 ·have bI:id<c:=by omega
  exact⟨e',by show(so id).ba=some e';rw[ho id bI, <- EH id bI];exact fj,Nat.le_refl _,fun _=>lD id bI⟩
end Go.Proofs.YtealblliddhgiaaGreat
