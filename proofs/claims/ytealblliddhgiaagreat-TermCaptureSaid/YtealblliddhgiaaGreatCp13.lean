/-
  A PART OF THE PROOF. Conditions: none.
-/
import Derived.Test.YtealblliddhgiaaGreatCp12
set_option linter.unusedSimpArgs false
set_option linter.unusedVariables false
namespace Go.Proofs.YtealblliddhgiaaGreat
theorem mix:Tryz.prog.follows .mixedOrders=true:=by kernel_rfl
def Rr:Tr FD:=
 (.n .no (.n .no (.n (.fn 78 c3 [.tmp 6]) (.n (.fn 116 c7 [.tmp 6]) (.n (.fn 22 Ug [.tmp 4]) (.n (.fn 31 W0 [.tmp 2]) (.n (.T1 13 P2 Xj 99 6 [.tmp 4, .tmp 5] [.cell 4 78, .cell 5 4] 11 5 5 WJ) (.n (.fn 53 QK [.tmp 8]) (.e fun _=> .no) (.e fun _=> .no)) (.e fun _=> .no)) (.n (.fn 33 Xy [.tmp 4]) (.e fun _=> .no) (.e fun _=> .no))) (.n (.fn 45 UM [.tmp 2]) (.n (.fn 15 Vh [.tmp 6]) (.n (.fn 76 Rf []) (.e fun _=> .no) (.e fun _=> .no)) (.e fun _=> .no)) (.n (.fn 32 LZ [.tmp 6]) (.e fun _=> .no) (.e fun _=> .no)))) (.n (.fn 50 WS [.tmp 6, .tmp 7]) (.n (.fn 10 W4 [.tmp 4]) (.n (.fn 9 U9 [.tmp 2]) (.n (.fn 32 Q0 []) (.e fun _=> .no) (.e fun _=> .no)) (.e fun _=> .no)) (.n (.fn 16 Qs [.tmp 4]) (.e fun _=> .no) (.e fun _=> .no))) (.n (.fn 15 UT [.tmp 6]) (.n (.fn 18 Vp [.tmp 4]) (.e fun _=> .no) (.e fun _=> .no)) (.n (.fn 14 L6 [.tmp 4]) (.e fun _=> .no) (.e fun _=> .no))))) (.n (.fn 20 Uc [.tmp 4]) (.n (.fn 13 Uk [.tmp 4]) (.n (.fn 31 UA [.tmp 6, .tmp 7]) (.n (.fn 11 Xm [.tmp 4]) (.n (.fn 49 QS []) (.e fun _=> .no) (.e fun _=> .no)) (.e fun _=> .no)) (.e fun _=> .no)) (.n (.fn 13 UQ [.tmp 4]) (.n (.fn 56 Vl [.tmp 4, .tmp 5]) (.n (.fn 36 Rn [.tmp 10]) (.e fun _=> .no) (.e fun _=> .no)) (.e fun _=> .no)) (.n (.fn 10 L2 [.tmp 4]) (.e fun _=> .no) (.e fun _=> .no)))) (.n (.fn 11 WW [.tmp 4, .tmp 5]) (.n (.fn 7 W7 [.tmp 2]) (.n (.fn 24 Vd [.tmp 4]) (.n (.fn 168 Q8 [.tmp 8, .tmp 9]) (.e fun _=> .no) (.e fun _=> .no)) (.e fun _=> .no)) (.n (.fn 45 LY []) (.e fun _=> .no) (.e fun _=> .no))) (.n (.fn 25 UY [.tmp 4]) (.n (.fn 102 JR [.cell 4 28]) (.e fun _=> .no) (.e fun _=> .no)) (.n (.fn 14 Ma [.tmp 4]) (.e fun _=> .no) (.e fun _=> .no)))))) (.n (.fn 305 c5 [.tmp 8]) (.n (.fn 173 c9 [.tmp 8]) (.n (.fn 17 WN [.tmp 2]) (.n (.fn 5 Uy [.cell 2 28]) (.n (.fn 5 U3 [.cell 2 28]) (.n (.fn 6 QO [.tmp 2]) (.e fun _=> .no) (.e fun _=> .no)) (.e fun _=> .no)) (.n (.fn 115 Vy [.tmp 4]) (.e fun _=> .no) (.e fun _=> .no))) (.n (.fn 8 Xc [.cell 4 28]) (.n (.fn 4 Vj [.tmp 2]) (.n (.fn 33 Rj [.tmp 2]) (.e fun _=> .no) (.e fun _=> .no)) (.e fun _=> .no)) (.n (.fn 8 L0 []) (.e fun _=> .no) (.e fun _=> .no)))) (.n (.fn 20 WU [.tmp 6]) (.n (.fn 43 W6 [.cell 4 4, .cell 5 33]) (.n (.fn 5 Vb [.cell 2 28]) (.n (.fn 17 Q4 [.tmp 4]) (.e fun _=> .no) (.e fun _=> .no)) (.e fun _=> .no)) (.n (.fn 38 Qw [.tmp 6]) (.e fun _=> .no) (.e fun _=> .no))) (.n (.fn 69 Xf [.cell 4 28]) (.n (.fn 18 Vr [.tmp 4]) (.e fun _=> .no) (.e fun _=> .no)) (.n (.fn 27 L8 [.tmp 4]) (.e fun _=> .no) (.e fun _=> .no))))) (.n (.fn 210 WM [.tmp 0]) (.n (.fn 46 WQ [.tmp 4]) (.n (.fn 22 W3 [.tmp 4]) (.n (.fn 81 Xo [.tmp 6, .tmp 7]) (.n (.fn 65 QW []) (.e fun _=> .no) (.e fun _=> .no)) (.e fun _=> .no)) (.n (.fn 30 Qo [.tmp 4]) (.e fun _=> .no) (.e fun _=> .no))) (.n (.fn 54 PW [.cell 4 28]) (.n (.fn 26 Xu [.tmp 2]) (.e fun _=> .no) (.e fun _=> .no)) (.n (.fn 20 L4 []) (.e fun _=> .no) (.e fun _=> .no)))) (.n (.fn 11 WY [.tmp 4, .tmp 5]) (.n (.fn 26 W9 [.tmp 4]) (.n (.fn 24 Vf [.tmp 3]) (.n (.fn 25 Rc [.tmp 2]) (.e fun _=> .no) (.e fun _=> .no)) (.e fun _=> .no)) (.n (.fn 8 QC [.tmp 2]) (.e fun _=> .no) (.e fun _=> .no))) (.n (.fn 73 Xh [.tmp 6]) (.n (.fn 28 Xw [.tmp 4]) (.e fun _=> .no) (.e fun _=> .no)) (.n (.fn 5 QG [.cell 2 28]) (.e fun _=> .no) (.e fun _=> .no))))))) (.n .no (.n (.fn 167 c4 [.tmp 6]) (.n (.fn 231 c8 [.tmp 6]) (.n (.fn 50 Uh [.tmp 4]) (.n (.fn 27 Ux [.tmp 4, .tmp 5]) (.n (.fn 66 Xk [.cell 8 28, .tmp 9]) (.n (.fn 4 QM [.cell 2 28]) (.e fun _=> .no) (.e fun _=> .no)) (.e fun _=> .no)) (.n (.fn 10 Xz [.tmp 2]) (.e fun _=> .no) (.e fun _=> .no))) (.n (.fn 12 Xb [.cell 0 24]) (.n (.fn 18 Vi [.tmp 4]) (.n (.fn 7 Rh [.tmp 2]) (.e fun _=> .no) (.e fun _=> .no)) (.e fun _=> .no)) (.n (.fn 26 QE [.tmp 4, .tmp 5]) (.e fun _=> .no) (.e fun _=> .no)))) (.n (.fn 17 WT [.tmp 6, .tmp 7]) (.n (.fn 32 W5 [.tmp 4, .tmp 5, .tmp 6]) (.n (.fn 11 Xq []) (.n (.fn 133 Q2 [.tmp 6]) (.e fun _=> .no) (.e fun _=> .no)) (.e fun _=> .no)) (.n (.fn 38 Qu [.tmp 6]) (.e fun _=> .no) (.e fun _=> .no))) (.n (.fn 20 Xe [.tmp 4]) (.n (.fn 7 Vq [.tmp 3]) (.e fun _=> .no) (.e fun _=> .no)) (.n (.fn 27 L7 [.tmp 4]) (.e fun _=> .no) (.e fun _=> .no))))) (.n (.fn 24 Ud [.tmp 2]) (.n (.fn 6 Ul [.tmp 2]) (.n (.fn 15 W2 [.cell 2 28, .tmp 3]) (.n (.fn 21 Xn [.tmp 2]) (.n (.fn 56 QU []) (.e fun _=> .no) (.e fun _=> .no)) (.e fun _=> .no)) (.n (.fn 109 Qm []) (.e fun _=> .no) (.e fun _=> .no))) (.n (.fn 14 UR [.tmp 4]) (.n (.fn 42 Xt [.tmp 4, .tmp 5]) (.n (.fn 28 Rp [.tmp 8, .tmp 9]) (.e fun _=> .no) (.e fun _=> .no)) (.e fun _=> .no)) (.n (.fn 35 L3 [.tmp 2]) (.e fun _=> .no) (.e fun _=> .no)))) (.n (.fn 42 WX [.tmp 4]) (.n (.fn 15 W8 [.tmp 2]) (.n (.fn 118 Xr [.cell 4 28, .cell 5 98]) (.n (.fn 19 Ra [.tmp 2]) (.e fun _=> .no) (.e fun _=> .no)) (.e fun _=> .no)) (.n (.fn 134 QA []) (.e fun _=> .no) (.e fun _=> .no))) (.n (.fn 12 Xg [.tmp 4]) (.n (.fn 19 Vt [.cell 0 120]) (.e fun _=> .no) (.e fun _=> .no)) (.n (.fn 14 Mb [.tmp 4]) (.e fun _=> .no) (.e fun _=> .no)))))) (.n (.fn 128 c6 [.tmp 8]) (.n (.fn 138 WL [.tmp 4]) (.n (.fn 49 WO [.cell 4 28]) (.n (.fn 23 W1 [.cell 4 28, .tmp 5]) (.n (.fn 49 Xl [.tmp 4]) (.n (.fn 11 QQ [.tmp 2]) (.e fun _=> .no) (.e fun _=> .no)) (.e fun _=> .no)) (.n (.fn 11 XA [.tmp 2]) (.e fun _=> .no) (.e fun _=> .no))) (.n (.fn 11 Xd [.cell 6 28]) (.n (.fn 16 Xs [.cell 2 4]) (.n (.fn 15 Rl [.tmp 6]) (.e fun _=> .no) (.e fun _=> .no)) (.e fun _=> .no)) (.n (.fn 17 L1 [.tmp 6]) (.e fun _=> .no) (.e fun _=> .no)))) (.n (.fn 69 WV [.tmp 4]) (.n (.fn 48 UH [.tmp 2]) (.n (.fn 19 Vc [.cell 2 28, .tmp 3]) (.n (.fn 84 Q6 [.tmp 8]) (.e fun _=> .no) (.e fun _=> .no)) (.e fun _=> .no)) (.n (.fn 18 Qy [.tmp 4]) (.e fun _=> .no) (.e fun _=> .no))) (.n (.fn 37 UX [.tmp 6]) (.n (.fn 24 Vs [.tmp 4]) (.e fun _=> .no) (.e fun _=> .no)) (.n (.fn 27 L9 [.tmp 4]) (.e fun _=> .no) (.e fun _=> .no))))) (.n (.fn 46 Uf [.cell 6 28, .tmp 7]) (.n (.fn 23 WR [.tmp 6, .tmp 7]) (.n (.fn 46 UD [.tmp 2]) (.n (.fn 117 Xp [.tmp 6, .tmp 7]) (.n (.fn 57 QY [.tmp 6, .tmp 7]) (.e fun _=> .no) (.e fun _=> .no)) (.e fun _=> .no)) (.n (.fn 20 Qq [.tmp 4]) (.e fun _=> .no) (.e fun _=> .no))) (.n (.fn 39 US [.cell 4 4]) (.n (.fn 44 Xv [.tmp 4]) (.e fun _=> .no) (.e fun _=> .no)) (.n (.fn 14 L5 [.tmp 4]) (.e fun _=> .no) (.e fun _=> .no)))) (.n (.fn 20 WZ [.tmp 4]) (.n (.fn 55 Xa [.tmp 2]) (.n (.fn 28 Vg [.tmp 2]) (.n (.fn 15 Mc [.tmp 2]) (.e fun _=> .no) (.e fun _=> .no)) (.e fun _=> .no)) (.n (.fn 116 tJ [.cell 4 28]) (.e fun _=> .no) (.e fun _=> .no))) (.n (.fn 27 Xi [.tmp 2]) (.n (.fn 34 Xx [.tmp 6]) (.e fun _=> .no) (.e fun _=> .no)) (.n (.fn 6 QI []) (.e fun _=> .no) (.e fun _=> .no))))))))
noncomputable def b9:Nat->FD:=Rr.get
theorem Md:∀g,(b9 g).Ok Tryz.prog g:=
 Tr.wA (p:=fun g d=>d.Ok Tryz.prog g) (f:=fun g=>g) Rr
   ⟨trivial,⟨trivial,⟨Zf,⟨Zj,⟨PJ,⟨Uw,⟨⟨P3,PF⟩,⟨QL,(fun _=>trivial),(fun _=>trivial)⟩,(fun _=>trivial)⟩,⟨Vw,(fun _=>trivial),(fun _=>trivial)⟩⟩,⟨PT,⟨Qb,⟨Rg,(fun _=>trivial),(fun _=>trivial)⟩,(fun _=>trivial)⟩,⟨JU,(fun _=>trivial),(fun _=>trivial)⟩⟩⟩,⟨Uo,⟨UE,⟨P5,⟨Q1,(fun _=>trivial),(fun _=>trivial)⟩,(fun _=>trivial)⟩,⟨Qt,(fun _=>trivial),(fun _=>trivial)⟩⟩,⟨PZ,⟨Qf,(fun _=>trivial),(fun _=>trivial)⟩,⟨J1,(fun _=>trivial),(fun _=>trivial)⟩⟩⟩⟩,⟨PG,⟨PL,⟨PQ,⟨U5,⟨QT,(fun _=>trivial),(fun _=>trivial)⟩,(fun _=>trivial)⟩,(fun _=>trivial)⟩,⟨PU,⟨Qe,⟨Ro,(fun _=>trivial),(fun _=>trivial)⟩,(fun _=>trivial)⟩,⟨JX,(fun _=>trivial),(fun _=>trivial)⟩⟩⟩,⟨Us,⟨UI,⟨P8,⟨Q9,(fun _=>trivial),(fun _=>trivial)⟩,(fun _=>trivial)⟩,⟨JS,(fun _=>trivial),(fun _=>trivial)⟩⟩,⟨P1,⟨Qj,(fun _=>trivial),(fun _=>trivial)⟩,⟨J5,(fun _=>trivial),(fun _=>trivial)⟩⟩⟩⟩⟩,⟨Zh,⟨Zk,⟨Ui,⟨PO,⟨P4,⟨QP,(fun _=>trivial),(fun _=>trivial)⟩,(fun _=>trivial)⟩,⟨Ql,(fun _=>trivial),(fun _=>trivial)⟩⟩,⟨UO,⟨Qd,⟨Rk,(fun _=>trivial),(fun _=>trivial)⟩,(fun _=>trivial)⟩,⟨JV,(fun _=>trivial),(fun _=>trivial)⟩⟩⟩,⟨Uq,⟨UG,⟨P6,⟨Q5,(fun _=>trivial),(fun _=>trivial)⟩,(fun _=>trivial)⟩,⟨Qx,(fun _=>trivial),(fun _=>trivial)⟩⟩,⟨UW,⟨Qh,(fun _=>trivial),(fun _=>trivial)⟩,⟨J3,(fun _=>trivial),(fun _=>trivial)⟩⟩⟩⟩,⟨Ue,⟨Um,⟨UC,⟨U7,⟨QX,(fun _=>trivial),(fun _=>trivial)⟩,(fun _=>trivial)⟩,⟨Qp,(fun _=>trivial),(fun _=>trivial)⟩⟩,⟨PX,⟨Vn,(fun _=>trivial),(fun _=>trivial)⟩,⟨JZ,(fun _=>trivial),(fun _=>trivial)⟩⟩⟩,⟨Uu,⟨UK,⟨P9,⟨Re,(fun _=>trivial),(fun _=>trivial)⟩,(fun _=>trivial)⟩,⟨QD,(fun _=>trivial),(fun _=>trivial)⟩⟩,⟨U0,⟨Vu,(fun _=>trivial),(fun _=>trivial)⟩,⟨QH,(fun _=>trivial),(fun _=>trivial)⟩⟩⟩⟩⟩⟩,⟨trivial,⟨Zg,⟨WK,⟨PK,⟨PN,⟨U2,⟨QN,(fun _=>trivial),(fun _=>trivial)⟩,(fun _=>trivial)⟩,⟨Vx,(fun _=>trivial),(fun _=>trivial)⟩⟩,⟨UN,⟨Qc,⟨Ri,(fun _=>trivial),(fun _=>trivial)⟩,(fun _=>trivial)⟩,⟨QF,(fun _=>trivial),(fun _=>trivial)⟩⟩⟩,⟨Up,⟨UF,⟨Va,⟨Q3,(fun _=>trivial),(fun _=>trivial)⟩,(fun _=>trivial)⟩,⟨Qv,(fun _=>trivial),(fun _=>trivial)⟩⟩,⟨UU,⟨Qg,(fun _=>trivial),(fun _=>trivial)⟩,⟨J2,(fun _=>trivial),(fun _=>trivial)⟩⟩⟩⟩,⟨PH,⟨PM,⟨UB,⟨U6,⟨QV,(fun _=>trivial),(fun _=>trivial)⟩,(fun _=>trivial)⟩,⟨Qn,(fun _=>trivial),(fun _=>trivial)⟩⟩,⟨PV,⟨Vm,⟨Rq,(fun _=>trivial),(fun _=>trivial)⟩,(fun _=>trivial)⟩,⟨JY,(fun _=>trivial),(fun _=>trivial)⟩⟩⟩,⟨Ut,⟨UJ,⟨Ve,⟨Rb,(fun _=>trivial),(fun _=>trivial)⟩,(fun _=>trivial)⟩,⟨QB,(fun _=>trivial),(fun _=>trivial)⟩⟩,⟨UZ,⟨Qk,(fun _=>trivial),(fun _=>trivial)⟩,⟨J6,(fun _=>trivial),(fun _=>trivial)⟩⟩⟩⟩⟩,⟨Zi,⟨Ub,⟨Uj,⟨Uz,⟨U4,⟨QR,(fun _=>trivial),(fun _=>trivial)⟩,(fun _=>trivial)⟩,⟨Vz,(fun _=>trivial),(fun _=>trivial)⟩⟩,⟨UP,⟨Vk,⟨Rm,(fun _=>trivial),(fun _=>trivial)⟩,(fun _=>trivial)⟩,⟨JW,(fun _=>trivial),(fun _=>trivial)⟩⟩⟩,⟨Ur,⟨PS,⟨P7,⟨Q7,(fun _=>trivial),(fun _=>trivial)⟩,(fun _=>trivial)⟩,⟨Qz,(fun _=>trivial),(fun _=>trivial)⟩⟩,⟨P0,⟨Qi,(fun _=>trivial),(fun _=>trivial)⟩,⟨J4,(fun _=>trivial),(fun _=>trivial)⟩⟩⟩⟩,⟨PI,⟨Un,⟨PR,⟨U8,⟨QZ,(fun _=>trivial),(fun _=>trivial)⟩,(fun _=>trivial)⟩,⟨Qr,(fun _=>trivial),(fun _=>trivial)⟩⟩,⟨PY,⟨Vo,(fun _=>trivial),(fun _=>trivial)⟩,⟨J0,(fun _=>trivial),(fun _=>trivial)⟩⟩⟩,⟨Uv,⟨UL,⟨Qa,⟨J7,(fun _=>trivial),(fun _=>trivial)⟩,(fun _=>trivial)⟩,⟨JT,(fun _=>trivial),(fun _=>trivial)⟩⟩,⟨U1,⟨Vv,(fun _=>trivial),(fun _=>trivial)⟩,⟨QJ,(fun _=>trivial),(fun _=>trivial)⟩⟩⟩⟩⟩⟩⟩
end Go.Proofs.YtealblliddhgiaaGreat
namespace Go.Proofs.YtealblliddhgiaaGreat
@[go_sem] theorem cellsOf_3:Tryz.prog.cellsOf 3=1:=by kernel_rfl
@[go_sem] theorem bytesOf_3:Tryz.prog.bytesOf 3=8:=by kernel_rfl
@[go_sem] theorem sliceT_3:aU Tryz.prog 3=none:=by kernel_rfl
@[go_sem] theorem arrT_3:cI Tryz.prog 3=none:=by kernel_rfl
@[go_sem] theorem aggT_3:cj Tryz.prog 3=some false:=by kernel_rfl
@[go_sem] theorem intT_3:cR Tryz.prog 3=some .i64:=by kernel_rfl
@[go_sem] theorem isBoolT_3:aR Tryz.prog 3=false:=by kernel_rfl
@[go_sem] theorem infoT_3:(Tryz.prog.info? 3).isSome=true:=by kernel_rfl
@[go_sem] theorem plainIface_3:aA Tryz.prog 3=true:=by kernel_rfl
@[go_sem] theorem undT_3:Tryz.prog.underlying 3=some (.int .i64):=by kernel_rfl
@[go_sem] theorem eqShape_3:bf Tryz.prog 3=some .int:=by kernel_rfl
@[go_sem] theorem zeroT_3:bn Tryz.prog 3=some [.d (.int .i64 0)]:=by kernel_rfl
@[go_sem] theorem zeroV_3:zeroV Tryz.prog 3=some (.d (.int .i64 0)):=by kernel_rfl
@[go_sem] theorem zeroD_3:bJ Tryz.prog 3=some (.int .i64 0):=by kernel_rfl
@[go_sem] theorem cellsOf_4:Tryz.prog.cellsOf 4=1:=by kernel_rfl
@[go_sem] theorem bytesOf_4:Tryz.prog.bytesOf 4=1:=by kernel_rfl
@[go_sem] theorem sliceT_4:aU Tryz.prog 4=none:=by kernel_rfl
@[go_sem] theorem arrT_4:cI Tryz.prog 4=none:=by kernel_rfl
@[go_sem] theorem aggT_4:cj Tryz.prog 4=some false:=by kernel_rfl
@[go_sem] theorem intT_4:cR Tryz.prog 4=none:=by kernel_rfl
@[go_sem] theorem isBoolT_4:aR Tryz.prog 4=true:=by kernel_rfl
@[go_sem] theorem infoT_4:(Tryz.prog.info? 4).isSome=true:=by kernel_rfl
@[go_sem] theorem plainIface_4:aA Tryz.prog 4=true:=by kernel_rfl
@[go_sem] theorem undT_4:Tryz.prog.underlying 4=some .bool:=by kernel_rfl
@[go_sem] theorem eqShape_4:bf Tryz.prog 4=some .bool:=by kernel_rfl
@[go_sem] theorem zeroT_4:bn Tryz.prog 4=some [.d (.bool false)]:=by kernel_rfl
@[go_sem] theorem zeroV_4:zeroV Tryz.prog 4=some (.d (.bool false)):=by kernel_rfl
@[go_sem] theorem zeroD_4:bJ Tryz.prog 4=some (.bool false):=by kernel_rfl
@[go_sem] theorem cellsOf_5:Tryz.prog.cellsOf 5=1:=by kernel_rfl
@[go_sem] theorem bytesOf_5:Tryz.prog.bytesOf 5=1:=by kernel_rfl
@[go_sem] theorem sliceT_5:aU Tryz.prog 5=none:=by kernel_rfl
@[go_sem] theorem arrT_5:cI Tryz.prog 5=none:=by kernel_rfl
@[go_sem] theorem aggT_5:cj Tryz.prog 5=some false:=by kernel_rfl
@[go_sem] theorem intT_5:cR Tryz.prog 5=some .u8:=by kernel_rfl
@[go_sem] theorem isBoolT_5:aR Tryz.prog 5=false:=by kernel_rfl
@[go_sem] theorem infoT_5:(Tryz.prog.info? 5).isSome=true:=by kernel_rfl
@[go_sem] theorem plainIface_5:aA Tryz.prog 5=true:=by kernel_rfl
@[go_sem] theorem undT_5:Tryz.prog.underlying 5=some (.int .u8):=by kernel_rfl
@[go_sem] theorem eqShape_5:bf Tryz.prog 5=some .int:=by kernel_rfl
@[go_sem] theorem zeroT_5:bn Tryz.prog 5=some [.d (.int .u8 0)]:=by kernel_rfl
@[go_sem] theorem zeroV_5:zeroV Tryz.prog 5=some (.d (.int .u8 0)):=by kernel_rfl
@[go_sem] theorem zeroD_5:bJ Tryz.prog 5=some (.int .u8 0):=by kernel_rfl
@[go_sem] theorem cellsOf_9:Tryz.prog.cellsOf 9=1:=by kernel_rfl
@[go_sem] theorem bytesOf_9:Tryz.prog.bytesOf 9=16:=by kernel_rfl
@[go_sem] theorem sliceT_9:aU Tryz.prog 9=none:=by kernel_rfl
@[go_sem] theorem arrT_9:cI Tryz.prog 9=none:=by kernel_rfl
@[go_sem] theorem aggT_9:cj Tryz.prog 9=some false:=by kernel_rfl
@[go_sem] theorem intT_9:cR Tryz.prog 9=none:=by kernel_rfl
@[go_sem] theorem isBoolT_9:aR Tryz.prog 9=false:=by kernel_rfl
@[go_sem] theorem infoT_9:(Tryz.prog.info? 9).isSome=true:=by kernel_rfl
@[go_sem] theorem plainIface_9:aA Tryz.prog 9=true:=by kernel_rfl
@[go_sem] theorem undT_9:Tryz.prog.underlying 9=some .string:=by kernel_rfl
@[go_sem] theorem eqShape_9:bf Tryz.prog 9=some .str:=by kernel_rfl
@[go_sem] theorem zeroT_9:bn Tryz.prog 9=some [.d (.str [])]:=by kernel_rfl
@[go_sem] theorem zeroV_9:zeroV Tryz.prog 9=some (.d (.str [])):=by kernel_rfl
@[go_sem] theorem zeroD_9:bJ Tryz.prog 9=some (.str []):=by kernel_rfl
@[go_sem] theorem cellsOf_20:Tryz.prog.cellsOf 20=1:=by kernel_rfl
@[go_sem] theorem bytesOf_20:Tryz.prog.bytesOf 20=16:=by kernel_rfl
@[go_sem] theorem sliceT_20:aU Tryz.prog 20=none:=by kernel_rfl
@[go_sem] theorem arrT_20:cI Tryz.prog 20=none:=by kernel_rfl
@[go_sem] theorem aggT_20:cj Tryz.prog 20=some false:=by kernel_rfl
@[go_sem] theorem intT_20:cR Tryz.prog 20=none:=by kernel_rfl
@[go_sem] theorem isBoolT_20:aR Tryz.prog 20=false:=by kernel_rfl
@[go_sem] theorem infoT_20:(Tryz.prog.info? 20).isSome=true:=by kernel_rfl
@[go_sem] theorem plainIface_20:aA Tryz.prog 20=false:=by kernel_rfl
@[go_sem] theorem zeroT_20:bn Tryz.prog 20=some [.d .fH]:=by kernel_rfl
@[go_sem] theorem zeroV_20:zeroV Tryz.prog 20=some (.d .fH):=by kernel_rfl
@[go_sem] theorem zeroD_20:bJ Tryz.prog 20=some .fH:=by kernel_rfl
@[go_sem] theorem cellsOf_21:Tryz.prog.cellsOf 21=1:=by kernel_rfl
@[go_sem] theorem bytesOf_21:Tryz.prog.bytesOf 21=4:=by kernel_rfl
@[go_sem] theorem sliceT_21:aU Tryz.prog 21=none:=by kernel_rfl
@[go_sem] theorem arrT_21:cI Tryz.prog 21=none:=by kernel_rfl
@[go_sem] theorem aggT_21:cj Tryz.prog 21=some false:=by kernel_rfl
@[go_sem] theorem intT_21:cR Tryz.prog 21=some .i32:=by kernel_rfl
@[go_sem] theorem isBoolT_21:aR Tryz.prog 21=false:=by kernel_rfl
@[go_sem] theorem infoT_21:(Tryz.prog.info? 21).isSome=true:=by kernel_rfl
@[go_sem] theorem plainIface_21:aA Tryz.prog 21=true:=by kernel_rfl
@[go_sem] theorem undT_21:Tryz.prog.underlying 21=some (.int .i32):=by kernel_rfl
@[go_sem] theorem eqShape_21:bf Tryz.prog 21=some .int:=by kernel_rfl
@[go_sem] theorem zeroT_21:bn Tryz.prog 21=some [.d (.int .i32 0)]:=by kernel_rfl
@[go_sem] theorem zeroV_21:zeroV Tryz.prog 21=some (.d (.int .i32 0)):=by kernel_rfl
@[go_sem] theorem zeroD_21:bJ Tryz.prog 21=some (.int .i32 0):=by kernel_rfl
@[go_sem] theorem cellsOf_22:Tryz.prog.cellsOf 22=1:=by kernel_rfl
@[go_sem] theorem bytesOf_22:Tryz.prog.bytesOf 22=24:=by kernel_rfl
@[go_sem] theorem sliceT_22:aU Tryz.prog 22=some 103:=by kernel_rfl
@[go_sem] theorem arrT_22:cI Tryz.prog 22=none:=by kernel_rfl
@[go_sem] theorem aggT_22:cj Tryz.prog 22=some false:=by kernel_rfl
@[go_sem] theorem intT_22:cR Tryz.prog 22=none:=by kernel_rfl
@[go_sem] theorem isBoolT_22:aR Tryz.prog 22=false:=by kernel_rfl
@[go_sem] theorem infoT_22:(Tryz.prog.info? 22).isSome=true:=by kernel_rfl
@[go_sem] theorem plainIface_22:aA Tryz.prog 22=true:=by kernel_rfl
@[go_sem] theorem undT_22:Tryz.prog.underlying 22=some (.slice 103):=by kernel_rfl
@[go_sem] theorem zeroT_22:bn Tryz.prog 22=some [.aW]:=by kernel_rfl
@[go_sem] theorem zeroV_22:zeroV Tryz.prog 22=some (.aW):=by kernel_rfl
@[go_sem] theorem zeroD_22:bJ Tryz.prog 22=some (.sl []):=by kernel_rfl
@[go_sem] theorem cellsOf_24:Tryz.prog.cellsOf 24=2:=by kernel_rfl
@[go_sem] theorem bytesOf_24:Tryz.prog.bytesOf 24=48:=by kernel_rfl
@[go_sem] theorem sliceT_24:aU Tryz.prog 24=none:=by kernel_rfl
@[go_sem] theorem arrT_24:cI Tryz.prog 24=none:=by kernel_rfl
@[go_sem] theorem aggT_24:cj Tryz.prog 24=some true:=by kernel_rfl
@[go_sem] theorem intT_24:cR Tryz.prog 24=none:=by kernel_rfl
@[go_sem] theorem isBoolT_24:aR Tryz.prog 24=false:=by kernel_rfl
@[go_sem] theorem infoT_24:(Tryz.prog.info? 24).isSome=true:=by kernel_rfl
@[go_sem] theorem plainIface_24:aA Tryz.prog 24=true:=by kernel_rfl
@[go_sem] theorem zeroT_24:bn Tryz.prog 24=some [.aW, .aW]:=by kernel_rfl
@[go_sem] theorem zeroV_24:zeroV Tryz.prog 24=some (ft [.aW, .aW]):=by kernel_rfl
@[go_sem] theorem zeroD_24:bJ Tryz.prog 24=some (.agg [(.sl []),(.sl [])]):=by kernel_rfl
@[go_sem] theorem placesT_24:dH Tryz.prog 24=some [(0,1),(1,1)]:=by kernel_rfl
@[go_sem] theorem cellsOf_25:Tryz.prog.cellsOf 25=1:=by kernel_rfl
@[go_sem] theorem bytesOf_25:Tryz.prog.bytesOf 25=8:=by kernel_rfl
@[go_sem] theorem sliceT_25:aU Tryz.prog 25=none:=by kernel_rfl
@[go_sem] theorem arrT_25:cI Tryz.prog 25=none:=by kernel_rfl
@[go_sem] theorem aggT_25:cj Tryz.prog 25=some false:=by kernel_rfl
@[go_sem] theorem intT_25:cR Tryz.prog 25=some .i64:=by kernel_rfl
@[go_sem] theorem isBoolT_25:aR Tryz.prog 25=false:=by kernel_rfl
@[go_sem] theorem infoT_25:(Tryz.prog.info? 25).isSome=true:=by kernel_rfl
@[go_sem] theorem plainIface_25:aA Tryz.prog 25=true:=by kernel_rfl
@[go_sem] theorem undT_25:Tryz.prog.underlying 25=some (.int .i64):=by kernel_rfl
@[go_sem] theorem eqShape_25:bf Tryz.prog 25=some .int:=by kernel_rfl
@[go_sem] theorem zeroT_25:bn Tryz.prog 25=some [.d (.int .i64 0)]:=by kernel_rfl
@[go_sem] theorem zeroV_25:zeroV Tryz.prog 25=some (.d (.int .i64 0)):=by kernel_rfl
@[go_sem] theorem zeroD_25:bJ Tryz.prog 25=some (.int .i64 0):=by kernel_rfl
@[go_sem] theorem cellsOf_26:Tryz.prog.cellsOf 26=1:=by kernel_rfl
@[go_sem] theorem bytesOf_26:Tryz.prog.bytesOf 26=24:=by kernel_rfl
@[go_sem] theorem sliceT_26:aU Tryz.prog 26=some 28:=by kernel_rfl
@[go_sem] theorem arrT_26:cI Tryz.prog 26=none:=by kernel_rfl
@[go_sem] theorem aggT_26:cj Tryz.prog 26=some false:=by kernel_rfl
@[go_sem] theorem intT_26:cR Tryz.prog 26=none:=by kernel_rfl
@[go_sem] theorem isBoolT_26:aR Tryz.prog 26=false:=by kernel_rfl
@[go_sem] theorem infoT_26:(Tryz.prog.info? 26).isSome=true:=by kernel_rfl
@[go_sem] theorem plainIface_26:aA Tryz.prog 26=true:=by kernel_rfl
@[go_sem] theorem undT_26:Tryz.prog.underlying 26=some (.slice 28):=by kernel_rfl
@[go_sem] theorem zeroT_26:bn Tryz.prog 26=some [.aW]:=by kernel_rfl
@[go_sem] theorem zeroV_26:zeroV Tryz.prog 26=some (.aW):=by kernel_rfl
@[go_sem] theorem zeroD_26:bJ Tryz.prog 26=some (.sl []):=by kernel_rfl
@[go_sem] theorem cellsOf_28:Tryz.prog.cellsOf 28=3:=by kernel_rfl
@[go_sem] theorem bytesOf_28:Tryz.prog.bytesOf 28=40:=by kernel_rfl
@[go_sem] theorem sliceT_28:aU Tryz.prog 28=none:=by kernel_rfl
@[go_sem] theorem arrT_28:cI Tryz.prog 28=none:=by kernel_rfl
@[go_sem] theorem aggT_28:cj Tryz.prog 28=some true:=by kernel_rfl
@[go_sem] theorem intT_28:cR Tryz.prog 28=none:=by kernel_rfl
@[go_sem] theorem isBoolT_28:aR Tryz.prog 28=false:=by kernel_rfl
@[go_sem] theorem infoT_28:(Tryz.prog.info? 28).isSome=true:=by kernel_rfl
@[go_sem] theorem plainIface_28:aA Tryz.prog 28=true:=by kernel_rfl
@[go_sem] theorem zeroT_28:bn Tryz.prog 28=some [.d (.int .i64 0), .d (.int .i64 0), .aW]:=by kernel_rfl
@[go_sem] theorem zeroV_28:zeroV Tryz.prog 28=some (ft [.d (.int .i64 0), .d (.int .i64 0), .aW]):=by kernel_rfl
@[go_sem] theorem zeroD_28:bJ Tryz.prog 28=some (.agg [(.int .i64 0),(.int .i64 0),(.sl [])]):=by kernel_rfl
@[go_sem] theorem placesT_28:dH Tryz.prog 28=some [(0,1),(1,1),(2,1)]:=by kernel_rfl
@[go_sem] theorem cellsOf_29:Tryz.prog.cellsOf 29=1:=by kernel_rfl
@[go_sem] theorem bytesOf_29:Tryz.prog.bytesOf 29=24:=by kernel_rfl
@[go_sem] theorem sliceT_29:aU Tryz.prog 29=some 52:=by kernel_rfl
@[go_sem] theorem arrT_29:cI Tryz.prog 29=none:=by kernel_rfl
@[go_sem] theorem aggT_29:cj Tryz.prog 29=some false:=by kernel_rfl
@[go_sem] theorem intT_29:cR Tryz.prog 29=none:=by kernel_rfl
@[go_sem] theorem isBoolT_29:aR Tryz.prog 29=false:=by kernel_rfl
@[go_sem] theorem infoT_29:(Tryz.prog.info? 29).isSome=true:=by kernel_rfl
@[go_sem] theorem plainIface_29:aA Tryz.prog 29=true:=by kernel_rfl
@[go_sem] theorem undT_29:Tryz.prog.underlying 29=some (.slice 52):=by kernel_rfl
@[go_sem] theorem zeroT_29:bn Tryz.prog 29=some [.aW]:=by kernel_rfl
@[go_sem] theorem zeroV_29:zeroV Tryz.prog 29=some (.aW):=by kernel_rfl
@[go_sem] theorem zeroD_29:bJ Tryz.prog 29=some (.sl []):=by kernel_rfl
@[go_sem] theorem cellsOf_33:Tryz.prog.cellsOf 33=1:=by kernel_rfl
@[go_sem] theorem bytesOf_33:Tryz.prog.bytesOf 33=8:=by kernel_rfl
@[go_sem] theorem sliceT_33:aU Tryz.prog 33=none:=by kernel_rfl
@[go_sem] theorem arrT_33:cI Tryz.prog 33=none:=by kernel_rfl
@[go_sem] theorem aggT_33:cj Tryz.prog 33=some false:=by kernel_rfl
@[go_sem] theorem intT_33:cR Tryz.prog 33=some .i64:=by kernel_rfl
@[go_sem] theorem isBoolT_33:aR Tryz.prog 33=false:=by kernel_rfl
@[go_sem] theorem infoT_33:(Tryz.prog.info? 33).isSome=true:=by kernel_rfl
@[go_sem] theorem plainIface_33:aA Tryz.prog 33=true:=by kernel_rfl
@[go_sem] theorem undT_33:Tryz.prog.underlying 33=some (.int .i64):=by kernel_rfl
@[go_sem] theorem eqShape_33:bf Tryz.prog 33=some .int:=by kernel_rfl
@[go_sem] theorem zeroT_33:bn Tryz.prog 33=some [.d (.int .i64 0)]:=by kernel_rfl
@[go_sem] theorem zeroV_33:zeroV Tryz.prog 33=some (.d (.int .i64 0)):=by kernel_rfl
@[go_sem] theorem zeroD_33:bJ Tryz.prog 33=some (.int .i64 0):=by kernel_rfl
@[go_sem] theorem cellsOf_37:Tryz.prog.cellsOf 37=1:=by kernel_rfl
@[go_sem] theorem bytesOf_37:Tryz.prog.bytesOf 37=8:=by kernel_rfl
@[go_sem] theorem sliceT_37:aU Tryz.prog 37=none:=by kernel_rfl
@[go_sem] theorem arrT_37:cI Tryz.prog 37=none:=by kernel_rfl
@[go_sem] theorem aggT_37:cj Tryz.prog 37=some false:=by kernel_rfl
@[go_sem] theorem intT_37:cR Tryz.prog 37=none:=by kernel_rfl
@[go_sem] theorem isBoolT_37:aR Tryz.prog 37=false:=by kernel_rfl
@[go_sem] theorem infoT_37:(Tryz.prog.info? 37).isSome=true:=by kernel_rfl
@[go_sem] theorem plainIface_37:aA Tryz.prog 37=true:=by kernel_rfl
@[go_sem] theorem zeroT_37:bn Tryz.prog 37=some [.d .aV]:=by kernel_rfl
@[go_sem] theorem zeroV_37:zeroV Tryz.prog 37=some (.d .aV):=by kernel_rfl
@[go_sem] theorem zeroD_37:bJ Tryz.prog 37=some .aV:=by kernel_rfl
@[go_sem] theorem cellsOf_40:Tryz.prog.cellsOf 40=1:=by kernel_rfl
@[go_sem] theorem bytesOf_40:Tryz.prog.bytesOf 40=8:=by kernel_rfl
@[go_sem] theorem sliceT_40:aU Tryz.prog 40=none:=by kernel_rfl
@[go_sem] theorem arrT_40:cI Tryz.prog 40=none:=by kernel_rfl
@[go_sem] theorem aggT_40:cj Tryz.prog 40=some false:=by kernel_rfl
@[go_sem] theorem intT_40:cR Tryz.prog 40=none:=by kernel_rfl
@[go_sem] theorem isBoolT_40:aR Tryz.prog 40=false:=by kernel_rfl
@[go_sem] theorem infoT_40:(Tryz.prog.info? 40).isSome=true:=by kernel_rfl
@[go_sem] theorem plainIface_40:aA Tryz.prog 40=true:=by kernel_rfl
@[go_sem] theorem zeroT_40:bn Tryz.prog 40=some [.d .aV]:=by kernel_rfl
@[go_sem] theorem zeroV_40:zeroV Tryz.prog 40=some (.d .aV):=by kernel_rfl
@[go_sem] theorem zeroD_40:bJ Tryz.prog 40=some .aV:=by kernel_rfl
@[go_sem] theorem cellsOf_52:Tryz.prog.cellsOf 52=4:=by kernel_rfl
@[go_sem] theorem bytesOf_52:Tryz.prog.bytesOf 52=48:=by kernel_rfl
@[go_sem] theorem sliceT_52:aU Tryz.prog 52=none:=by kernel_rfl
@[go_sem] theorem arrT_52:cI Tryz.prog 52=none:=by kernel_rfl
@[go_sem] theorem aggT_52:cj Tryz.prog 52=some true:=by kernel_rfl
@[go_sem] theorem intT_52:cR Tryz.prog 52=none:=by kernel_rfl
@[go_sem] theorem isBoolT_52:aR Tryz.prog 52=false:=by kernel_rfl
@[go_sem] theorem infoT_52:(Tryz.prog.info? 52).isSome=true:=by kernel_rfl
@[go_sem] theorem plainIface_52:aA Tryz.prog 52=true:=by kernel_rfl
@[go_sem] theorem zeroT_52:bn Tryz.prog 52=some [.d (.int .i64 0), .d (.int .i64 0), .d (.int .i64 0), .aW]:=by kernel_rfl
@[go_sem] theorem zeroV_52:zeroV Tryz.prog 52=some (ft [.d (.int .i64 0), .d (.int .i64 0), .d (.int .i64 0), .aW]):=by kernel_rfl
@[go_sem] theorem zeroD_52:bJ Tryz.prog 52=some (.agg [(.int .i64 0),(.int .i64 0),(.int .i64 0),(.sl [])]):=by kernel_rfl
@[go_sem] theorem placesT_52:dH Tryz.prog 52=some [(0,1),(1,3)]:=by kernel_rfl
@[go_sem] theorem cellsOf_53:Tryz.prog.cellsOf 53=1:=by kernel_rfl
@[go_sem] theorem bytesOf_53:Tryz.prog.bytesOf 53=24:=by kernel_rfl
@[go_sem] theorem sliceT_53:aU Tryz.prog 53=some 3:=by kernel_rfl
@[go_sem] theorem arrT_53:cI Tryz.prog 53=none:=by kernel_rfl
@[go_sem] theorem aggT_53:cj Tryz.prog 53=some false:=by kernel_rfl
@[go_sem] theorem intT_53:cR Tryz.prog 53=none:=by kernel_rfl
@[go_sem] theorem isBoolT_53:aR Tryz.prog 53=false:=by kernel_rfl
@[go_sem] theorem infoT_53:(Tryz.prog.info? 53).isSome=true:=by kernel_rfl
@[go_sem] theorem plainIface_53:aA Tryz.prog 53=true:=by kernel_rfl
@[go_sem] theorem undT_53:Tryz.prog.underlying 53=some (.slice 3):=by kernel_rfl
@[go_sem] theorem zeroT_53:bn Tryz.prog 53=some [.aW]:=by kernel_rfl
@[go_sem] theorem zeroV_53:zeroV Tryz.prog 53=some (.aW):=by kernel_rfl
@[go_sem] theorem zeroD_53:bJ Tryz.prog 53=some (.sl []):=by kernel_rfl
@[go_sem] theorem cellsOf_64:Tryz.prog.cellsOf 64=1:=by kernel_rfl
@[go_sem] theorem bytesOf_64:Tryz.prog.bytesOf 64=24:=by kernel_rfl
@[go_sem] theorem sliceT_64:aU Tryz.prog 64=some 4:=by kernel_rfl
@[go_sem] theorem arrT_64:cI Tryz.prog 64=none:=by kernel_rfl
@[go_sem] theorem aggT_64:cj Tryz.prog 64=some false:=by kernel_rfl
@[go_sem] theorem intT_64:cR Tryz.prog 64=none:=by kernel_rfl
@[go_sem] theorem isBoolT_64:aR Tryz.prog 64=false:=by kernel_rfl
@[go_sem] theorem infoT_64:(Tryz.prog.info? 64).isSome=true:=by kernel_rfl
@[go_sem] theorem plainIface_64:aA Tryz.prog 64=true:=by kernel_rfl
@[go_sem] theorem undT_64:Tryz.prog.underlying 64=some (.slice 4):=by kernel_rfl
@[go_sem] theorem zeroT_64:bn Tryz.prog 64=some [.aW]:=by kernel_rfl
@[go_sem] theorem zeroV_64:zeroV Tryz.prog 64=some (.aW):=by kernel_rfl
@[go_sem] theorem zeroD_64:bJ Tryz.prog 64=some (.sl []):=by kernel_rfl
@[go_sem] theorem cellsOf_78:Tryz.prog.cellsOf 78=1:=by kernel_rfl
@[go_sem] theorem bytesOf_78:Tryz.prog.bytesOf 78=8:=by kernel_rfl
@[go_sem] theorem sliceT_78:aU Tryz.prog 78=none:=by kernel_rfl
@[go_sem] theorem arrT_78:cI Tryz.prog 78=none:=by kernel_rfl
@[go_sem] theorem aggT_78:cj Tryz.prog 78=some false:=by kernel_rfl
@[go_sem] theorem intT_78:cR Tryz.prog 78=none:=by kernel_rfl
@[go_sem] theorem isBoolT_78:aR Tryz.prog 78=false:=by kernel_rfl
@[go_sem] theorem infoT_78:(Tryz.prog.info? 78).isSome=true:=by kernel_rfl
@[go_sem] theorem plainIface_78:aA Tryz.prog 78=true:=by kernel_rfl
@[go_sem] theorem undT_78:Tryz.prog.underlying 78=some (.map 3 28):=by kernel_rfl
@[go_sem] theorem mapT_78:nG Tryz.prog 78=some (3,28):=by kernel_rfl
@[go_sem] theorem zeroT_78:bn Tryz.prog 78=some [.d .cO]:=by kernel_rfl
@[go_sem] theorem zeroV_78:zeroV Tryz.prog 78=some (.d .cO):=by kernel_rfl
@[go_sem] theorem zeroD_78:bJ Tryz.prog 78=some .cO:=by kernel_rfl
@[go_sem] theorem cellsOf_88:Tryz.prog.cellsOf 88=1:=by kernel_rfl
@[go_sem] theorem bytesOf_88:Tryz.prog.bytesOf 88=8:=by kernel_rfl
@[go_sem] theorem sliceT_88:aU Tryz.prog 88=none:=by kernel_rfl
@[go_sem] theorem arrT_88:cI Tryz.prog 88=none:=by kernel_rfl
@[go_sem] theorem aggT_88:cj Tryz.prog 88=some false:=by kernel_rfl
@[go_sem] theorem intT_88:cR Tryz.prog 88=none:=by kernel_rfl
@[go_sem] theorem isBoolT_88:aR Tryz.prog 88=false:=by kernel_rfl
@[go_sem] theorem infoT_88:(Tryz.prog.info? 88).isSome=true:=by kernel_rfl
@[go_sem] theorem plainIface_88:aA Tryz.prog 88=true:=by kernel_rfl
@[go_sem] theorem zeroT_88:bn Tryz.prog 88=some [.d .gE]:=by kernel_rfl
@[go_sem] theorem zeroV_88:zeroV Tryz.prog 88=some (.d .gE):=by kernel_rfl
@[go_sem] theorem zeroD_88:bJ Tryz.prog 88=some .gE:=by kernel_rfl
@[go_sem] theorem cellsOf_92:Tryz.prog.cellsOf 92=1:=by kernel_rfl
@[go_sem] theorem bytesOf_92:Tryz.prog.bytesOf 92=8:=by kernel_rfl
@[go_sem] theorem sliceT_92:aU Tryz.prog 92=none:=by kernel_rfl
@[go_sem] theorem arrT_92:cI Tryz.prog 92=none:=by kernel_rfl
@[go_sem] theorem aggT_92:cj Tryz.prog 92=some false:=by kernel_rfl
@[go_sem] theorem intT_92:cR Tryz.prog 92=none:=by kernel_rfl
@[go_sem] theorem isBoolT_92:aR Tryz.prog 92=false:=by kernel_rfl
@[go_sem] theorem infoT_92:(Tryz.prog.info? 92).isSome=true:=by kernel_rfl
@[go_sem] theorem plainIface_92:aA Tryz.prog 92=true:=by kernel_rfl
@[go_sem] theorem undT_92:Tryz.prog.underlying 92=some (.map 3 4):=by kernel_rfl
@[go_sem] theorem mapT_92:nG Tryz.prog 92=some (3,4):=by kernel_rfl
@[go_sem] theorem zeroT_92:bn Tryz.prog 92=some [.d .cO]:=by kernel_rfl
@[go_sem] theorem zeroV_92:zeroV Tryz.prog 92=some (.d .cO):=by kernel_rfl
@[go_sem] theorem zeroD_92:bJ Tryz.prog 92=some .cO:=by kernel_rfl
@[go_sem] theorem cellsOf_93:Tryz.prog.cellsOf 93=1:=by kernel_rfl
@[go_sem] theorem bytesOf_93:Tryz.prog.bytesOf 93=8:=by kernel_rfl
@[go_sem] theorem sliceT_93:aU Tryz.prog 93=none:=by kernel_rfl
@[go_sem] theorem arrT_93:cI Tryz.prog 93=none:=by kernel_rfl
@[go_sem] theorem aggT_93:cj Tryz.prog 93=some false:=by kernel_rfl
@[go_sem] theorem intT_93:cR Tryz.prog 93=none:=by kernel_rfl
@[go_sem] theorem isBoolT_93:aR Tryz.prog 93=false:=by kernel_rfl
@[go_sem] theorem infoT_93:(Tryz.prog.info? 93).isSome=true:=by kernel_rfl
@[go_sem] theorem plainIface_93:aA Tryz.prog 93=true:=by kernel_rfl
@[go_sem] theorem undT_93:Tryz.prog.underlying 93=some (.map 3 4):=by kernel_rfl
@[go_sem] theorem mapT_93:nG Tryz.prog 93=some (3,4):=by kernel_rfl
@[go_sem] theorem zeroT_93:bn Tryz.prog 93=some [.d .cO]:=by kernel_rfl
@[go_sem] theorem zeroV_93:zeroV Tryz.prog 93=some (.d .cO):=by kernel_rfl
@[go_sem] theorem zeroD_93:bJ Tryz.prog 93=some .cO:=by kernel_rfl
@[go_sem] theorem cellsOf_96:Tryz.prog.cellsOf 96=1:=by kernel_rfl
@[go_sem] theorem bytesOf_96:Tryz.prog.bytesOf 96=24:=by kernel_rfl
@[go_sem] theorem sliceT_96:aU Tryz.prog 96=some 153:=by kernel_rfl
@[go_sem] theorem arrT_96:cI Tryz.prog 96=none:=by kernel_rfl
@[go_sem] theorem aggT_96:cj Tryz.prog 96=some false:=by kernel_rfl
@[go_sem] theorem intT_96:cR Tryz.prog 96=none:=by kernel_rfl
@[go_sem] theorem isBoolT_96:aR Tryz.prog 96=false:=by kernel_rfl
@[go_sem] theorem infoT_96:(Tryz.prog.info? 96).isSome=true:=by kernel_rfl
@[go_sem] theorem plainIface_96:aA Tryz.prog 96=true:=by kernel_rfl
@[go_sem] theorem undT_96:Tryz.prog.underlying 96=some (.slice 153):=by kernel_rfl
@[go_sem] theorem zeroT_96:bn Tryz.prog 96=some [.aW]:=by kernel_rfl
@[go_sem] theorem zeroV_96:zeroV Tryz.prog 96=some (.aW):=by kernel_rfl
@[go_sem] theorem zeroD_96:bJ Tryz.prog 96=some (.sl []):=by kernel_rfl
@[go_sem] theorem cellsOf_98:Tryz.prog.cellsOf 98=3:=by kernel_rfl
@[go_sem] theorem bytesOf_98:Tryz.prog.bytesOf 98=56:=by kernel_rfl
@[go_sem] theorem sliceT_98:aU Tryz.prog 98=none:=by kernel_rfl
@[go_sem] theorem arrT_98:cI Tryz.prog 98=none:=by kernel_rfl
@[go_sem] theorem aggT_98:cj Tryz.prog 98=some true:=by kernel_rfl
@[go_sem] theorem intT_98:cR Tryz.prog 98=none:=by kernel_rfl
@[go_sem] theorem isBoolT_98:aR Tryz.prog 98=false:=by kernel_rfl
@[go_sem] theorem infoT_98:(Tryz.prog.info? 98).isSome=true:=by kernel_rfl
@[go_sem] theorem plainIface_98:aA Tryz.prog 98=true:=by kernel_rfl
@[go_sem] theorem zeroT_98:bn Tryz.prog 98=some [.aW, .aW, .d (.int .i64 0)]:=by kernel_rfl
@[go_sem] theorem zeroV_98:zeroV Tryz.prog 98=some (ft [.aW, .aW, .d (.int .i64 0)]):=by kernel_rfl
@[go_sem] theorem zeroD_98:bJ Tryz.prog 98=some (.agg [(.sl []),(.sl []),(.int .i64 0)]):=by kernel_rfl
@[go_sem] theorem placesT_98:dH Tryz.prog 98=some [(0,1),(1,1),(2,1)]:=by kernel_rfl
@[go_sem] theorem cellsOf_101:Tryz.prog.cellsOf 101=1:=by kernel_rfl
@[go_sem] theorem bytesOf_101:Tryz.prog.bytesOf 101=8:=by kernel_rfl
@[go_sem] theorem sliceT_101:aU Tryz.prog 101=none:=by kernel_rfl
@[go_sem] theorem arrT_101:cI Tryz.prog 101=none:=by kernel_rfl
@[go_sem] theorem aggT_101:cj Tryz.prog 101=some false:=by kernel_rfl
@[go_sem] theorem intT_101:cR Tryz.prog 101=none:=by kernel_rfl
@[go_sem] theorem isBoolT_101:aR Tryz.prog 101=false:=by kernel_rfl
@[go_sem] theorem infoT_101:(Tryz.prog.info? 101).isSome=true:=by kernel_rfl
@[go_sem] theorem plainIface_101:aA Tryz.prog 101=true:=by kernel_rfl
@[go_sem] theorem undT_101:Tryz.prog.underlying 101=some (.map 9 4):=by kernel_rfl
@[go_sem] theorem mapT_101:nG Tryz.prog 101=some (9,4):=by kernel_rfl
@[go_sem] theorem zeroT_101:bn Tryz.prog 101=some [.d .cO]:=by kernel_rfl
@[go_sem] theorem zeroV_101:zeroV Tryz.prog 101=some (.d .cO):=by kernel_rfl
@[go_sem] theorem zeroD_101:bJ Tryz.prog 101=some .cO:=by kernel_rfl
@[go_sem] theorem cellsOf_103:Tryz.prog.cellsOf 103=2:=by kernel_rfl
@[go_sem] theorem bytesOf_103:Tryz.prog.bytesOf 103=24:=by kernel_rfl
@[go_sem] theorem sliceT_103:aU Tryz.prog 103=none:=by kernel_rfl
@[go_sem] theorem arrT_103:cI Tryz.prog 103=none:=by kernel_rfl
@[go_sem] theorem aggT_103:cj Tryz.prog 103=some true:=by kernel_rfl
@[go_sem] theorem intT_103:cR Tryz.prog 103=none:=by kernel_rfl
@[go_sem] theorem isBoolT_103:aR Tryz.prog 103=false:=by kernel_rfl
@[go_sem] theorem infoT_103:(Tryz.prog.info? 103).isSome=true:=by kernel_rfl
@[go_sem] theorem plainIface_103:aA Tryz.prog 103=true:=by kernel_rfl
@[go_sem] theorem zeroT_103:bn Tryz.prog 103=some [.d (.str []), .d (.int .i64 0)]:=by kernel_rfl
@[go_sem] theorem zeroV_103:zeroV Tryz.prog 103=some (ft [.d (.str []), .d (.int .i64 0)]):=by kernel_rfl
@[go_sem] theorem zeroD_103:bJ Tryz.prog 103=some (.agg [(.str []),(.int .i64 0)]):=by kernel_rfl
@[go_sem] theorem placesT_103:dH Tryz.prog 103=some [(0,1),(1,1)]:=by kernel_rfl
@[go_sem] theorem cellsOf_105:Tryz.prog.cellsOf 105=1:=by kernel_rfl
@[go_sem] theorem bytesOf_105:Tryz.prog.bytesOf 105=8:=by kernel_rfl
@[go_sem] theorem sliceT_105:aU Tryz.prog 105=none:=by kernel_rfl
@[go_sem] theorem arrT_105:cI Tryz.prog 105=none:=by kernel_rfl
@[go_sem] theorem aggT_105:cj Tryz.prog 105=some false:=by kernel_rfl
@[go_sem] theorem intT_105:cR Tryz.prog 105=none:=by kernel_rfl
@[go_sem] theorem isBoolT_105:aR Tryz.prog 105=false:=by kernel_rfl
@[go_sem] theorem infoT_105:(Tryz.prog.info? 105).isSome=true:=by kernel_rfl
@[go_sem] theorem plainIface_105:aA Tryz.prog 105=true:=by kernel_rfl
@[go_sem] theorem zeroT_105:bn Tryz.prog 105=some [.d .aV]:=by kernel_rfl
@[go_sem] theorem zeroV_105:zeroV Tryz.prog 105=some (.d .aV):=by kernel_rfl
@[go_sem] theorem zeroD_105:bJ Tryz.prog 105=some .aV:=by kernel_rfl
@[go_sem] theorem cellsOf_110:Tryz.prog.cellsOf 110=1:=by kernel_rfl
@[go_sem] theorem bytesOf_110:Tryz.prog.bytesOf 110=24:=by kernel_rfl
@[go_sem] theorem sliceT_110:aU Tryz.prog 110=some 9:=by kernel_rfl
@[go_sem] theorem arrT_110:cI Tryz.prog 110=none:=by kernel_rfl
@[go_sem] theorem aggT_110:cj Tryz.prog 110=some false:=by kernel_rfl
@[go_sem] theorem intT_110:cR Tryz.prog 110=none:=by kernel_rfl
@[go_sem] theorem isBoolT_110:aR Tryz.prog 110=false:=by kernel_rfl
@[go_sem] theorem infoT_110:(Tryz.prog.info? 110).isSome=true:=by kernel_rfl
@[go_sem] theorem plainIface_110:aA Tryz.prog 110=true:=by kernel_rfl
@[go_sem] theorem undT_110:Tryz.prog.underlying 110=some (.slice 9):=by kernel_rfl
@[go_sem] theorem zeroT_110:bn Tryz.prog 110=some [.aW]:=by kernel_rfl
@[go_sem] theorem zeroV_110:zeroV Tryz.prog 110=some (.aW):=by kernel_rfl
@[go_sem] theorem zeroD_110:bJ Tryz.prog 110=some (.sl []):=by kernel_rfl
@[go_sem] theorem cellsOf_118:Tryz.prog.cellsOf 118=1:=by kernel_rfl
@[go_sem] theorem bytesOf_118:Tryz.prog.bytesOf 118=8:=by kernel_rfl
@[go_sem] theorem sliceT_118:aU Tryz.prog 118=none:=by kernel_rfl
@[go_sem] theorem arrT_118:cI Tryz.prog 118=none:=by kernel_rfl
@[go_sem] theorem aggT_118:cj Tryz.prog 118=some false:=by kernel_rfl
@[go_sem] theorem intT_118:cR Tryz.prog 118=none:=by kernel_rfl
@[go_sem] theorem isBoolT_118:aR Tryz.prog 118=false:=by kernel_rfl
@[go_sem] theorem infoT_118:(Tryz.prog.info? 118).isSome=true:=by kernel_rfl
@[go_sem] theorem plainIface_118:aA Tryz.prog 118=true:=by kernel_rfl
@[go_sem] theorem zeroT_118:bn Tryz.prog 118=some [.d .aV]:=by kernel_rfl
@[go_sem] theorem zeroV_118:zeroV Tryz.prog 118=some (.d .aV):=by kernel_rfl
@[go_sem] theorem zeroD_118:bJ Tryz.prog 118=some .aV:=by kernel_rfl
@[go_sem] theorem cellsOf_119:Tryz.prog.cellsOf 119=1:=by kernel_rfl
@[go_sem] theorem bytesOf_119:Tryz.prog.bytesOf 119=8:=by kernel_rfl
@[go_sem] theorem sliceT_119:aU Tryz.prog 119=none:=by kernel_rfl
@[go_sem] theorem arrT_119:cI Tryz.prog 119=none:=by kernel_rfl
@[go_sem] theorem aggT_119:cj Tryz.prog 119=some false:=by kernel_rfl
@[go_sem] theorem intT_119:cR Tryz.prog 119=none:=by kernel_rfl
@[go_sem] theorem isBoolT_119:aR Tryz.prog 119=false:=by kernel_rfl
@[go_sem] theorem infoT_119:(Tryz.prog.info? 119).isSome=true:=by kernel_rfl
@[go_sem] theorem plainIface_119:aA Tryz.prog 119=true:=by kernel_rfl
@[go_sem] theorem zeroT_119:bn Tryz.prog 119=some [.d .aV]:=by kernel_rfl
@[go_sem] theorem zeroV_119:zeroV Tryz.prog 119=some (.d .aV):=by kernel_rfl
@[go_sem] theorem zeroD_119:bJ Tryz.prog 119=some .aV:=by kernel_rfl
@[go_sem] theorem cellsOf_120:Tryz.prog.cellsOf 120=16:=by kernel_rfl
@[go_sem] theorem bytesOf_120:Tryz.prog.bytesOf 120=128:=by kernel_rfl
@[go_sem] theorem sliceT_120:aU Tryz.prog 120=none:=by kernel_rfl
@[go_sem] theorem arrT_120:cI Tryz.prog 120=some (16,119):=by kernel_rfl
@[go_sem] theorem aggT_120:cj Tryz.prog 120=some true:=by kernel_rfl
@[go_sem] theorem intT_120:cR Tryz.prog 120=none:=by kernel_rfl
@[go_sem] theorem isBoolT_120:aR Tryz.prog 120=false:=by kernel_rfl
@[go_sem] theorem infoT_120:(Tryz.prog.info? 120).isSome=true:=by kernel_rfl
@[go_sem] theorem plainIface_120:aA Tryz.prog 120=true:=by kernel_rfl
@[go_sem] theorem undT_120:Tryz.prog.underlying 120=some (.array 16 119):=by kernel_rfl
@[go_sem] theorem zeroT_120:bn Tryz.prog 120=some [.d .aV, .d .aV, .d .aV, .d .aV, .d .aV, .d .aV, .d .aV, .d .aV, .d .aV, .d .aV, .d .aV, .d .aV, .d .aV, .d .aV, .d .aV, .d .aV]:=by kernel_rfl
@[go_sem] theorem zeroV_120:zeroV Tryz.prog 120=some (ft [.d .aV, .d .aV, .d .aV, .d .aV, .d .aV, .d .aV, .d .aV, .d .aV, .d .aV, .d .aV, .d .aV, .d .aV, .d .aV, .d .aV, .d .aV, .d .aV]):=by kernel_rfl
@[go_sem] theorem zeroD_120:bJ Tryz.prog 120=some (.agg [.aV, .aV, .aV, .aV, .aV, .aV, .aV, .aV, .aV, .aV, .aV, .aV, .aV, .aV, .aV, .aV]):=by kernel_rfl
@[go_sem] theorem placesT_120:dH Tryz.prog 120=some [(0,1),(1,1),(2,1),(3,1),(4,1),(5,1),(6,1),(7,1),(8,1),(9,1),(10,1),(11,1),(12,1),(13,1),(14,1),(15,1)]:=by kernel_rfl
@[go_sem] theorem cellsOf_123:Tryz.prog.cellsOf 123=2:=by kernel_rfl
@[go_sem] theorem bytesOf_123:Tryz.prog.bytesOf 123=48:=by kernel_rfl
@[go_sem] theorem sliceT_123:aU Tryz.prog 123=none:=by kernel_rfl
@[go_sem] theorem arrT_123:cI Tryz.prog 123=none:=by kernel_rfl
@[go_sem] theorem aggT_123:cj Tryz.prog 123=some true:=by kernel_rfl
@[go_sem] theorem intT_123:cR Tryz.prog 123=none:=by kernel_rfl
@[go_sem] theorem isBoolT_123:aR Tryz.prog 123=false:=by kernel_rfl
@[go_sem] theorem infoT_123:(Tryz.prog.info? 123).isSome=true:=by kernel_rfl
@[go_sem] theorem plainIface_123:aA Tryz.prog 123=true:=by kernel_rfl
@[go_sem] theorem zeroT_123:bn Tryz.prog 123=some [.aW, .aW]:=by kernel_rfl
@[go_sem] theorem zeroV_123:zeroV Tryz.prog 123=some (ft [.aW, .aW]):=by kernel_rfl
@[go_sem] theorem zeroD_123:bJ Tryz.prog 123=some (.agg [(.sl []),(.sl [])]):=by kernel_rfl
@[go_sem] theorem placesT_123:dH Tryz.prog 123=some [(0,2)]:=by kernel_rfl
@[go_sem] theorem cellsOf_131:Tryz.prog.cellsOf 131=1:=by kernel_rfl
@[go_sem] theorem bytesOf_131:Tryz.prog.bytesOf 131=8:=by kernel_rfl
@[go_sem] theorem sliceT_131:aU Tryz.prog 131=none:=by kernel_rfl
@[go_sem] theorem arrT_131:cI Tryz.prog 131=none:=by kernel_rfl
@[go_sem] theorem aggT_131:cj Tryz.prog 131=some false:=by kernel_rfl
@[go_sem] theorem intT_131:cR Tryz.prog 131=some .i64:=by kernel_rfl
@[go_sem] theorem isBoolT_131:aR Tryz.prog 131=false:=by kernel_rfl
@[go_sem] theorem infoT_131:(Tryz.prog.info? 131).isSome=true:=by kernel_rfl
@[go_sem] theorem plainIface_131:aA Tryz.prog 131=true:=by kernel_rfl
@[go_sem] theorem undT_131:Tryz.prog.underlying 131=some (.int .i64):=by kernel_rfl
@[go_sem] theorem eqShape_131:bf Tryz.prog 131=some .int:=by kernel_rfl
@[go_sem] theorem zeroT_131:bn Tryz.prog 131=some [.d (.int .i64 0)]:=by kernel_rfl
@[go_sem] theorem zeroV_131:zeroV Tryz.prog 131=some (.d (.int .i64 0)):=by kernel_rfl
@[go_sem] theorem zeroD_131:bJ Tryz.prog 131=some (.int .i64 0):=by kernel_rfl
@[go_sem] theorem cellsOf_132:Tryz.prog.cellsOf 132=3:=by kernel_rfl
@[go_sem] theorem bytesOf_132:Tryz.prog.bytesOf 132=40:=by kernel_rfl
@[go_sem] theorem sliceT_132:aU Tryz.prog 132=none:=by kernel_rfl
@[go_sem] theorem arrT_132:cI Tryz.prog 132=none:=by kernel_rfl
@[go_sem] theorem aggT_132:cj Tryz.prog 132=some true:=by kernel_rfl
@[go_sem] theorem intT_132:cR Tryz.prog 132=none:=by kernel_rfl
@[go_sem] theorem isBoolT_132:aR Tryz.prog 132=false:=by kernel_rfl
@[go_sem] theorem infoT_132:(Tryz.prog.info? 132).isSome=true:=by kernel_rfl
@[go_sem] theorem plainIface_132:aA Tryz.prog 132=true:=by kernel_rfl
@[go_sem] theorem zeroT_132:bn Tryz.prog 132=some [.d (.int .i64 0), .d (.int .i64 0), .aW]:=by kernel_rfl
@[go_sem] theorem zeroV_132:zeroV Tryz.prog 132=some (ft [.d (.int .i64 0), .d (.int .i64 0), .aW]):=by kernel_rfl
@[go_sem] theorem zeroD_132:bJ Tryz.prog 132=some (.agg [(.int .i64 0),(.int .i64 0),(.sl [])]):=by kernel_rfl
@[go_sem] theorem cellsOf_134:Tryz.prog.cellsOf 134=0:=by kernel_rfl
@[go_sem] theorem bytesOf_134:Tryz.prog.bytesOf 134=0:=by kernel_rfl
@[go_sem] theorem sliceT_134:aU Tryz.prog 134=none:=by kernel_rfl
@[go_sem] theorem arrT_134:cI Tryz.prog 134=none:=by kernel_rfl
@[go_sem] theorem aggT_134:cj Tryz.prog 134=some true:=by kernel_rfl
@[go_sem] theorem intT_134:cR Tryz.prog 134=none:=by kernel_rfl
@[go_sem] theorem isBoolT_134:aR Tryz.prog 134=false:=by kernel_rfl
@[go_sem] theorem infoT_134:(Tryz.prog.info? 134).isSome=true:=by kernel_rfl
@[go_sem] theorem plainIface_134:aA Tryz.prog 134=true:=by kernel_rfl
@[go_sem] theorem zeroT_134:bn Tryz.prog 134=some []:=by kernel_rfl
@[go_sem] theorem zeroV_134:zeroV Tryz.prog 134=some (ft []):=by kernel_rfl
@[go_sem] theorem zeroD_134:bJ Tryz.prog 134=some (.agg []):=by kernel_rfl
@[go_sem] theorem placesT_134:dH Tryz.prog 134=some []:=by kernel_rfl
@[go_sem] theorem cellsOf_143:Tryz.prog.cellsOf 143=1:=by kernel_rfl
@[go_sem] theorem bytesOf_143:Tryz.prog.bytesOf 143=8:=by kernel_rfl
@[go_sem] theorem sliceT_143:aU Tryz.prog 143=none:=by kernel_rfl
@[go_sem] theorem arrT_143:cI Tryz.prog 143=none:=by kernel_rfl
@[go_sem] theorem aggT_143:cj Tryz.prog 143=some false:=by kernel_rfl
@[go_sem] theorem intT_143:cR Tryz.prog 143=some .u64:=by kernel_rfl
@[go_sem] theorem isBoolT_143:aR Tryz.prog 143=false:=by kernel_rfl
@[go_sem] theorem infoT_143:(Tryz.prog.info? 143).isSome=true:=by kernel_rfl
@[go_sem] theorem plainIface_143:aA Tryz.prog 143=true:=by kernel_rfl
@[go_sem] theorem undT_143:Tryz.prog.underlying 143=some (.int .u64):=by kernel_rfl
@[go_sem] theorem eqShape_143:bf Tryz.prog 143=some .int:=by kernel_rfl
@[go_sem] theorem zeroT_143:bn Tryz.prog 143=some [.d (.int .u64 0)]:=by kernel_rfl
@[go_sem] theorem zeroV_143:zeroV Tryz.prog 143=some (.d (.int .u64 0)):=by kernel_rfl
@[go_sem] theorem zeroD_143:bJ Tryz.prog 143=some (.int .u64 0):=by kernel_rfl
@[go_sem] theorem cellsOf_144:Tryz.prog.cellsOf 144=1:=by kernel_rfl
@[go_sem] theorem bytesOf_144:Tryz.prog.bytesOf 144=8:=by kernel_rfl
@[go_sem] theorem sliceT_144:aU Tryz.prog 144=none:=by kernel_rfl
@[go_sem] theorem arrT_144:cI Tryz.prog 144=none:=by kernel_rfl
@[go_sem] theorem aggT_144:cj Tryz.prog 144=some false:=by kernel_rfl
@[go_sem] theorem intT_144:cR Tryz.prog 144=none:=by kernel_rfl
@[go_sem] theorem isBoolT_144:aR Tryz.prog 144=false:=by kernel_rfl
@[go_sem] theorem infoT_144:(Tryz.prog.info? 144).isSome=true:=by kernel_rfl
@[go_sem] theorem plainIface_144:aA Tryz.prog 144=true:=by kernel_rfl
@[go_sem] theorem zeroT_144:bn Tryz.prog 144=some [.d .gE]:=by kernel_rfl
@[go_sem] theorem zeroV_144:zeroV Tryz.prog 144=some (.d .gE):=by kernel_rfl
@[go_sem] theorem zeroD_144:bJ Tryz.prog 144=some .gE:=by kernel_rfl
@[go_sem] theorem cellsOf_145:Tryz.prog.cellsOf 145=1:=by kernel_rfl
@[go_sem] theorem bytesOf_145:Tryz.prog.bytesOf 145=8:=by kernel_rfl
@[go_sem] theorem sliceT_145:aU Tryz.prog 145=none:=by kernel_rfl
@[go_sem] theorem arrT_145:cI Tryz.prog 145=none:=by kernel_rfl
@[go_sem] theorem aggT_145:cj Tryz.prog 145=some false:=by kernel_rfl
@[go_sem] theorem intT_145:cR Tryz.prog 145=none:=by kernel_rfl
@[go_sem] theorem isBoolT_145:aR Tryz.prog 145=false:=by kernel_rfl
@[go_sem] theorem infoT_145:(Tryz.prog.info? 145).isSome=true:=by kernel_rfl
@[go_sem] theorem plainIface_145:aA Tryz.prog 145=true:=by kernel_rfl
@[go_sem] theorem undT_145:Tryz.prog.underlying 145=some (.map 3 3):=by kernel_rfl
@[go_sem] theorem mapT_145:nG Tryz.prog 145=some (3,3):=by kernel_rfl
@[go_sem] theorem zeroT_145:bn Tryz.prog 145=some [.d .cO]:=by kernel_rfl
@[go_sem] theorem zeroV_145:zeroV Tryz.prog 145=some (.d .cO):=by kernel_rfl
@[go_sem] theorem zeroD_145:bJ Tryz.prog 145=some .cO:=by kernel_rfl
@[go_sem] theorem cellsOf_147:Tryz.prog.cellsOf 147=2:=by kernel_rfl
@[go_sem] theorem bytesOf_147:Tryz.prog.bytesOf 147=16:=by kernel_rfl
@[go_sem] theorem sliceT_147:aU Tryz.prog 147=none:=by kernel_rfl
@[go_sem] theorem arrT_147:cI Tryz.prog 147=none:=by kernel_rfl
@[go_sem] theorem aggT_147:cj Tryz.prog 147=some true:=by kernel_rfl
@[go_sem] theorem intT_147:cR Tryz.prog 147=none:=by kernel_rfl
@[go_sem] theorem isBoolT_147:aR Tryz.prog 147=false:=by kernel_rfl
@[go_sem] theorem infoT_147:(Tryz.prog.info? 147).isSome=true:=by kernel_rfl
@[go_sem] theorem plainIface_147:aA Tryz.prog 147=true:=by kernel_rfl
@[go_sem] theorem zeroT_147:bn Tryz.prog 147=some [.d (.int .i64 0), .d .cO]:=by kernel_rfl
@[go_sem] theorem zeroV_147:zeroV Tryz.prog 147=some (ft [.d (.int .i64 0), .d .cO]):=by kernel_rfl
@[go_sem] theorem zeroD_147:bJ Tryz.prog 147=some (.agg [(.int .i64 0), .cO]):=by kernel_rfl
@[go_sem] theorem placesT_147:dH Tryz.prog 147=some [(0,1),(1,1)]:=by kernel_rfl
@[go_sem] theorem cellsOf_149:Tryz.prog.cellsOf 149=2:=by kernel_rfl
@[go_sem] theorem bytesOf_149:Tryz.prog.bytesOf 149=16:=by kernel_rfl
@[go_sem] theorem sliceT_149:aU Tryz.prog 149=none:=by kernel_rfl
@[go_sem] theorem arrT_149:cI Tryz.prog 149=none:=by kernel_rfl
@[go_sem] theorem aggT_149:cj Tryz.prog 149=some true:=by kernel_rfl
@[go_sem] theorem intT_149:cR Tryz.prog 149=none:=by kernel_rfl
@[go_sem] theorem isBoolT_149:aR Tryz.prog 149=false:=by kernel_rfl
@[go_sem] theorem infoT_149:(Tryz.prog.info? 149).isSome=true:=by kernel_rfl
@[go_sem] theorem plainIface_149:aA Tryz.prog 149=true:=by kernel_rfl
@[go_sem] theorem zeroT_149:bn Tryz.prog 149=some [.d .gE, .d .cO]:=by kernel_rfl
@[go_sem] theorem zeroV_149:zeroV Tryz.prog 149=some (ft [.d .gE, .d .cO]):=by kernel_rfl
@[go_sem] theorem zeroD_149:bJ Tryz.prog 149=some (.agg [.gE, .cO]):=by kernel_rfl
@[go_sem] theorem placesT_149:dH Tryz.prog 149=some [(0,1),(1,1)]:=by kernel_rfl
@[go_sem] theorem cellsOf_153:Tryz.prog.cellsOf 153=2:=by kernel_rfl
@[go_sem] theorem bytesOf_153:Tryz.prog.bytesOf 153=16:=by kernel_rfl
@[go_sem] theorem sliceT_153:aU Tryz.prog 153=none:=by kernel_rfl
@[go_sem] theorem arrT_153:cI Tryz.prog 153=some (2,3):=by kernel_rfl
@[go_sem] theorem aggT_153:cj Tryz.prog 153=some true:=by kernel_rfl
@[go_sem] theorem intT_153:cR Tryz.prog 153=none:=by kernel_rfl
@[go_sem] theorem isBoolT_153:aR Tryz.prog 153=false:=by kernel_rfl
@[go_sem] theorem infoT_153:(Tryz.prog.info? 153).isSome=true:=by kernel_rfl
@[go_sem] theorem plainIface_153:aA Tryz.prog 153=true:=by kernel_rfl
@[go_sem] theorem undT_153:Tryz.prog.underlying 153=some (.array 2 3):=by kernel_rfl
@[go_sem] theorem zeroT_153:bn Tryz.prog 153=some [.d (.int .i64 0), .d (.int .i64 0)]:=by kernel_rfl
@[go_sem] theorem zeroV_153:zeroV Tryz.prog 153=some (ft [.d (.int .i64 0), .d (.int .i64 0)]):=by kernel_rfl
@[go_sem] theorem zeroD_153:bJ Tryz.prog 153=some (.agg [(.int .i64 0),(.int .i64 0)]):=by kernel_rfl
@[go_sem] theorem placesT_153:dH Tryz.prog 153=some [(0,1),(1,1)]:=by kernel_rfl
@[go_sem] theorem cellsOf_154:Tryz.prog.cellsOf 154=1:=by kernel_rfl
@[go_sem] theorem bytesOf_154:Tryz.prog.bytesOf 154=8:=by kernel_rfl
@[go_sem] theorem sliceT_154:aU Tryz.prog 154=none:=by kernel_rfl
@[go_sem] theorem arrT_154:cI Tryz.prog 154=none:=by kernel_rfl
@[go_sem] theorem aggT_154:cj Tryz.prog 154=some false:=by kernel_rfl
@[go_sem] theorem intT_154:cR Tryz.prog 154=none:=by kernel_rfl
@[go_sem] theorem isBoolT_154:aR Tryz.prog 154=false:=by kernel_rfl
@[go_sem] theorem infoT_154:(Tryz.prog.info? 154).isSome=true:=by kernel_rfl
@[go_sem] theorem plainIface_154:aA Tryz.prog 154=true:=by kernel_rfl
@[go_sem] theorem zeroT_154:bn Tryz.prog 154=some [.d .aV]:=by kernel_rfl
@[go_sem] theorem zeroV_154:zeroV Tryz.prog 154=some (.d .aV):=by kernel_rfl
@[go_sem] theorem zeroD_154:bJ Tryz.prog 154=some .aV:=by kernel_rfl
@[go_sem] theorem cellsOf_160:Tryz.prog.cellsOf 160=1:=by kernel_rfl
@[go_sem] theorem bytesOf_160:Tryz.prog.bytesOf 160=8:=by kernel_rfl
@[go_sem] theorem sliceT_160:aU Tryz.prog 160=none:=by kernel_rfl
@[go_sem] theorem arrT_160:cI Tryz.prog 160=none:=by kernel_rfl
@[go_sem] theorem aggT_160:cj Tryz.prog 160=some false:=by kernel_rfl
@[go_sem] theorem intT_160:cR Tryz.prog 160=some .i64:=by kernel_rfl
@[go_sem] theorem isBoolT_160:aR Tryz.prog 160=false:=by kernel_rfl
@[go_sem] theorem infoT_160:(Tryz.prog.info? 160).isSome=true:=by kernel_rfl
@[go_sem] theorem plainIface_160:aA Tryz.prog 160=true:=by kernel_rfl
@[go_sem] theorem undT_160:Tryz.prog.underlying 160=some (.int .i64):=by kernel_rfl
@[go_sem] theorem eqShape_160:bf Tryz.prog 160=some .int:=by kernel_rfl
@[go_sem] theorem zeroT_160:bn Tryz.prog 160=some [.d (.int .i64 0)]:=by kernel_rfl
@[go_sem] theorem zeroV_160:zeroV Tryz.prog 160=some (.d (.int .i64 0)):=by kernel_rfl
@[go_sem] theorem zeroD_160:bJ Tryz.prog 160=some (.int .i64 0):=by kernel_rfl
@[go_sem] theorem cellsOf_168:Tryz.prog.cellsOf 168=1:=by kernel_rfl
@[go_sem] theorem bytesOf_168:Tryz.prog.bytesOf 168=4:=by kernel_rfl
@[go_sem] theorem sliceT_168:aU Tryz.prog 168=none:=by kernel_rfl
@[go_sem] theorem arrT_168:cI Tryz.prog 168=none:=by kernel_rfl
@[go_sem] theorem aggT_168:cj Tryz.prog 168=some false:=by kernel_rfl
@[go_sem] theorem intT_168:cR Tryz.prog 168=some .u32:=by kernel_rfl
@[go_sem] theorem isBoolT_168:aR Tryz.prog 168=false:=by kernel_rfl
@[go_sem] theorem infoT_168:(Tryz.prog.info? 168).isSome=true:=by kernel_rfl
@[go_sem] theorem plainIface_168:aA Tryz.prog 168=true:=by kernel_rfl
@[go_sem] theorem undT_168:Tryz.prog.underlying 168=some (.int .u32):=by kernel_rfl
@[go_sem] theorem eqShape_168:bf Tryz.prog 168=some .int:=by kernel_rfl
@[go_sem] theorem zeroT_168:bn Tryz.prog 168=some [.d (.int .u32 0)]:=by kernel_rfl
@[go_sem] theorem zeroV_168:zeroV Tryz.prog 168=some (.d (.int .u32 0)):=by kernel_rfl
@[go_sem] theorem zeroD_168:bJ Tryz.prog 168=some (.int .u32 0):=by kernel_rfl
@[go_sem] theorem cellsOf_170:Tryz.prog.cellsOf 170=1:=by kernel_rfl
@[go_sem] theorem bytesOf_170:Tryz.prog.bytesOf 170=8:=by kernel_rfl
@[go_sem] theorem sliceT_170:aU Tryz.prog 170=none:=by kernel_rfl
@[go_sem] theorem arrT_170:cI Tryz.prog 170=none:=by kernel_rfl
@[go_sem] theorem aggT_170:cj Tryz.prog 170=some false:=by kernel_rfl
@[go_sem] theorem intT_170:cR Tryz.prog 170=some .u64:=by kernel_rfl
@[go_sem] theorem isBoolT_170:aR Tryz.prog 170=false:=by kernel_rfl
@[go_sem] theorem infoT_170:(Tryz.prog.info? 170).isSome=true:=by kernel_rfl
@[go_sem] theorem plainIface_170:aA Tryz.prog 170=true:=by kernel_rfl
@[go_sem] theorem undT_170:Tryz.prog.underlying 170=some (.int .u64):=by kernel_rfl
@[go_sem] theorem eqShape_170:bf Tryz.prog 170=some .int:=by kernel_rfl
@[go_sem] theorem zeroT_170:bn Tryz.prog 170=some [.d (.int .u64 0)]:=by kernel_rfl
@[go_sem] theorem zeroV_170:zeroV Tryz.prog 170=some (.d (.int .u64 0)):=by kernel_rfl
@[go_sem] theorem zeroD_170:bJ Tryz.prog 170=some (.int .u64 0):=by kernel_rfl
@[go_sem] theorem cellsOf_172:Tryz.prog.cellsOf 172=1:=by kernel_rfl
@[go_sem] theorem bytesOf_172:Tryz.prog.bytesOf 172=8:=by kernel_rfl
@[go_sem] theorem sliceT_172:aU Tryz.prog 172=none:=by kernel_rfl
@[go_sem] theorem arrT_172:cI Tryz.prog 172=none:=by kernel_rfl
@[go_sem] theorem aggT_172:cj Tryz.prog 172=some false:=by kernel_rfl
@[go_sem] theorem intT_172:cR Tryz.prog 172=some .u64:=by kernel_rfl
@[go_sem] theorem isBoolT_172:aR Tryz.prog 172=false:=by kernel_rfl
@[go_sem] theorem infoT_172:(Tryz.prog.info? 172).isSome=true:=by kernel_rfl
@[go_sem] theorem plainIface_172:aA Tryz.prog 172=true:=by kernel_rfl
@[go_sem] theorem undT_172:Tryz.prog.underlying 172=some (.int .u64):=by kernel_rfl
@[go_sem] theorem eqShape_172:bf Tryz.prog 172=some .int:=by kernel_rfl
@[go_sem] theorem zeroT_172:bn Tryz.prog 172=some [.d (.int .u64 0)]:=by kernel_rfl
@[go_sem] theorem zeroV_172:zeroV Tryz.prog 172=some (.d (.int .u64 0)):=by kernel_rfl
@[go_sem] theorem zeroD_172:bJ Tryz.prog 172=some (.int .u64 0):=by kernel_rfl
@[go_sem] theorem fieldT_24_0:cD Tryz.prog 24 0=some 0:=by kernel_rfl
@[go_sem] theorem fieldT_24_1:cD Tryz.prog 24 1=some 1:=by kernel_rfl
@[go_sem] theorem fieldT_28_0:cD Tryz.prog 28 0=some 0:=by kernel_rfl
@[go_sem] theorem fieldT_28_1:cD Tryz.prog 28 1=some 1:=by kernel_rfl
@[go_sem] theorem fieldT_28_2:cD Tryz.prog 28 2=some 2:=by kernel_rfl
@[go_sem] theorem fieldT_52_0:cD Tryz.prog 52 0=some 0:=by kernel_rfl
@[go_sem] theorem fieldT_52_1:cD Tryz.prog 52 1=some 1:=by kernel_rfl
@[go_sem] theorem fieldT_98_0:cD Tryz.prog 98 0=some 0:=by kernel_rfl
@[go_sem] theorem fieldT_98_1:cD Tryz.prog 98 1=some 1:=by kernel_rfl
@[go_sem] theorem fieldT_98_2:cD Tryz.prog 98 2=some 2:=by kernel_rfl
@[go_sem] theorem fieldT_103_0:cD Tryz.prog 103 0=some 0:=by kernel_rfl
@[go_sem] theorem fieldT_103_1:cD Tryz.prog 103 1=some 1:=by kernel_rfl
@[go_sem] theorem fieldT_123_0:cD Tryz.prog 123 0=some 0:=by kernel_rfl
@[go_sem] theorem fieldT_132_0:cD Tryz.prog 132 0=some 0:=by kernel_rfl
@[go_sem] theorem fieldT_132_1:cD Tryz.prog 132 1=some 1:=by kernel_rfl
@[go_sem] theorem fieldT_132_2:cD Tryz.prog 132 2=some 2:=by kernel_rfl
@[go_sem] theorem fieldT_147_0:cD Tryz.prog 147 0=some 0:=by kernel_rfl
@[go_sem] theorem fieldT_147_1:cD Tryz.prog 147 1=some 1:=by kernel_rfl
@[go_sem] theorem fieldT_149_0:cD Tryz.prog 149 0=some 0:=by kernel_rfl
@[go_sem] theorem fieldT_149_1:cD Tryz.prog 149 1=some 1:=by kernel_rfl
end Go.Proofs.YtealblliddhgiaaGreat
namespace Go.Proofs.YtealblliddhgiaaGreat
def B0(so:Nat->ae)(c:Nat)(ty:TypeId)(sz:Nat)(es:List D)(x:V):Prop:=
 (x= .aW/\es=[]/\0<sz)\/∃id ep,c<=id/\x= .osl id ep/\so id= .arr ep ty sz es
def F3(c:Nat)(x:V)(env:Nat->V):List V->Nat->Prop
 |[],_=>True
 |v::l,i=>(v= .ab\/(v=env i/\∀r∈v.refs,r<c)\/(v= .osl c 0/\env i=x))/\F3 c x env l (i+1)
theorem yC{c:Nat}{x:V}{env:Nat->V}:∀ (l:List V) (i:Nat),F3 c x env l i->∀j,bB l j= .ab\/(bB l j=env (i+j)/\∀r∈(bB l j).refs,r<c)\/(bB l j= .osl c 0/\env (i+j)=x)
 |[],i,_,j=>by rw[jq];exact .inl rfl
 |v::l,i,h,0=>by rw[iZ];exact h.1
 |v::l,i,h,j+1=>by
  rw[gS]
  have:=yC l (i+1) h.2 j
  rwa [show i+1+j=i+(j+1) by omega]at this
def pZ(φ:Place)(c:Nat)(x:V):Place:=fun id=>if id=c then(match x with| .osl id _=>φ id|_=> .slice none 0 0)else φ id
theorem bY.grow {b:Nat}{e:Nat->V}{so:Nat->ae}{m:Nat}(l:List V){o:Nat->ae}{c:Nat}{ty:TypeId}{sz:Nat}{es:List D}(x:V)(hb:b<=c)(Sm:c<=m)(hg:Good o c)(ho:∀id,id<c->so id=o id)(hx:B0 so c ty sz es x)(he:F3 c x e l 0):
 bY b ⟨e,so,m⟩ ⟨bB l,aq o c (.arr 0 ty sz es),c+1⟩:=by
 intro M φ w tm hH hd
 let ax:Place:=pZ φ c x
 let o':Nat->ae:=aq o c (.arr 0 ty sz es)
 let H':Hp:=hp o' (c+1)
 let H:Hp:=⟨so,fun id=>id<m⟩
 have uH:o' c= .arr 0 ty sz es:=aa _ _ _
 have B1:∀id,id<c->o' id=o id:=fun id aj=>ad _ _ _ _ (by omega)
 have Me:∀id,c<id->o' id= .no:=fun id aj=>by rw[show o' id=o id from ad _ _ _ _ (by omega)];exact hg.fresh id (by omega)
 have lD:∀id,id<c->ax id=φ id:=fun id aj=>if_neg (by omega)
 have AQ:x= .aW->ax c= .slice none 0 0:=fun h=>by simp only[ax,pZ,h,if_pos]
 have AR:∀id ep,x= .osl id ep->ax c=φ id:=fun id ep h=>by simp only[ax,pZ,if_pos,h]
 have hold:∀id k,(o' id).live=true->dS (ax id)=some k->∃j,(so j).live=true/\dS (φ j)=some k/\((id<c/\j=id)\/(id=c/\c<=j)):=by
  intro id k h1 h2
  rcases Nat.lt_trichotomy id c with bM|heq|b7
  ·rw[B1 id bM]at h1;rw[lD id bM]at h2
   exact⟨id,by rw[ho id bM];exact h1,h2, .inl ⟨bM,rfl⟩⟩
  ·subst heq
   rcases hx with⟨rfl,_,_⟩|⟨j,ep,hj,rfl,jB⟩
   ·rw[AQ rfl]at h2;cases h2
   ·rw[AR j ep rfl]at h2
    exact⟨j,by rw[jB];rfl,h2, .inr ⟨rfl,hj⟩⟩
  ·rw[Me id b7]at h1;cases h1
 have bS:∀k,bR ax H' k->bR φ H k:=by
  rintro k ⟨id,h1,h2⟩
  obtain⟨j,g1,g2,_⟩:=hold id k h1 h2
  exact⟨j,g1,g2⟩
 have hB:∀k, ¬ai M φ H k-> ¬ai M ax H' k:=fun k h h'=>h (h'.imp id (bS k))
 have mf:∀id,id<c->H'.o id=H.o id/\ax id=φ id/\H'.us id:=fun id aj=>⟨(B1 id aj).trans (ho id aj).symm,lD id aj,(by show id<c+1;omega)⟩
 have ec:∀ (v:V) (val:Value),(∀r∈v.refs,r<c)->V.den (ai M φ H) φ H w v val->V.den (ai M ax H') ax H' w v val:=fun v val hr h=>
  V.kD (H:=H) (H':=H') hB v val (fun id aj=>mf id (hr id aj)) h
 have jN:∀ (v:List V) (val:List Value),(∀r∈V.ag v,r<c)->V.aB (ai M φ H) φ H w v val->V.aB (ai M ax H') ax H' w v val:=fun v val hr h=>
  V.fb (H:=H) (H':=H') hB v val (fun id aj=>mf id (hr id aj)) h
 refine⟨ax,⟨fun id=> ?_,fun id hu=>Me id (by have: ¬id<c+1:=hu;omega),fun i j k h1 h2 h3 h4=> ?_,fun k hk=>hH.ours k (bS k hk),hH.tA⟩,fun i=> ?_,bS,by show b<=c+1;omega,fun id aj hr=> ?_,fun id e' aj fm=> ?_⟩
 ·have aP:=hH.ok id
  have hrefs:=hg.refs id
  show aL M ax H' w id
  unfold aL at aP|-
  rcases Nat.lt_trichotomy id c with bM|heq|b7
  ·have e1:(S.H ⟨e,so,m⟩).o id=o id:=ho id bM
   rw[e1]at aP
   have e2:H'.o id=o id:=B1 id bM
   rw[e2,lD id bM]
   cases n9:o id with
   |no=>trivial
   |row cs=>
    simp only[n9]at aP hrefs|-
    obtain⟨b,cX,ty,k1,k2,k3,k4⟩:=aP
    exact⟨b,cX,ty,k1,k2,jN _ _ hrefs k3,k4⟩
   |arr ep ty sz es=>
    simp only[n9]at aP|-
    obtain⟨k1,xs,k2,evs,k3,k4,k5⟩:=aP
    exact⟨k1,xs,k2,evs,k3,k4,D.aI (fun b _ hn=>⟨rfl,hB b hn⟩) _ _ k5⟩
   |oh ep es=>
    simp only[n9]at aP|-
    exact D.aC (fun b _ hn=>⟨rfl,hB b hn⟩) _ _ aP
   |map kt vt es=>
    simp only[n9]at aP|-
    obtain⟨b,es',clock,k1,k2,k4,k3⟩:=aP
    exact⟨b,es',clock,k1,k2,k4,aH.mono (fun b _ hn=>⟨rfl,hB b hn⟩) _ _ k3⟩
   |et l=>
    simp only[n9]at aP|-
    exact D.aC (fun b _ hn=>⟨rfl,hB b hn⟩) _ _ aP
   |kg l last=>
    simp only[n9]at aP|-
    obtain⟨b,k1,k2⟩:=aP
    exact⟨b,k1,k2.mono (fun b _ hn=>⟨rfl,hB b hn⟩) rfl⟩
   |rA s pos=>
    simp only[n9]at aP|-
    exact aP
   |loop nf n env ps a b st pd=>
    simp only[n9]at aP hrefs|-
    obtain⟨b,r,k1,k2,k3,k4,k5,k6,k7,k8,k9,FA⟩:=aP
    exact⟨b,r,k1,k2,k3,k4,k5,k6,k7,k8,k9,fun i=>ec _ _ (fun r hr=>hrefs r (V.kG _ _ r hr)) (FA i)⟩
  ·subst heq
   have e2:H'.o id= .arr 0 ty sz es:=uH
   rw[e2]
   rcases hx with⟨rfl,rfl,ej⟩|⟨j,ep,hj,rfl,jB⟩
   ·refine⟨ej,[], ?_,[],by simp,by simp,rfl⟩
    rw[AQ rfl]
    exact World.ownsRow_nil _ _ _ _
   ·have:=hH.ok j
    unfold aL at this
    simp only[S.H,jB]at this
    obtain⟨k1,xs,k2,evs,k3,k4,k5⟩:=this
    exact⟨k1,xs,by rw[AR j ep rfl];exact k2,evs,k3,k4,D.aI (fun b _ hn=>⟨rfl,hB b hn⟩) _ _ k5⟩
  ·have e2:H'.o id= .no:=Me id b7
   rw[e2]
   trivial
 ·obtain⟨i',a1,a2,a3⟩:=hold i k h1 h3
  obtain⟨j',b1,b2,b3⟩:=hold j k h2 h4
  have:=hH.apart i' j' k a1 b1 a2 b2
  rcases a3 with⟨a3,a4⟩|⟨a3,a4⟩<;>rcases b3 with⟨b3,b4⟩|⟨b3,b4⟩<;>omega
 ·have hi:=yC l 0 he i
  rw[Nat.zero_add]at hi
  rcases hi with h|⟨h1,h2⟩|⟨h1,h2⟩
  ·show V.den _ _ _ _ (bB l i) _
   rw[h];trivial
  ·have:=hd i
   simp only at this
   rw[<- h1]at this
   exact ec _ _ h2 this
  ·have:=hd i
   simp only at this
   rw[h2]at this
   show V.den _ _ _ _ (bB l i) _
   rw[h1]
   rcases hx with⟨rfl,rfl,ej⟩|⟨j,ep,hj,rfl,jB⟩
   ·simp only[V.den]at this
    rw[this]
    refine⟨rfl,(by show c<c+1;omega),fun e' fm=> ?_⟩
    have fm:(H'.o c).aZ=some e':=fm
    have this:H'.o c= .arr 0 ty sz []:=uH
    rw[this]at fm
    simp only[ae.aZ,Option.some.injEq]at fm
    subst fm
    exact⟨Nat.le_refl _,fun _=>(AQ rfl).symm⟩
   ·obtain⟨g1,g2,g3⟩:=this
    refine⟨g1,(by show c<c+1;omega),fun e' fm=> ?_⟩
    have fm:(H'.o c).aZ=some e':=fm
    have this:H'.o c= .arr 0 ty sz es:=uH
    rw[this]at fm
    simp only[ae.aZ,Option.some.injEq]at fm
    subst fm
    have rI:((S.H ⟨e,so,m⟩).o j).aZ=some ep:=by simp only[S.H,jB,ae.aZ]
    exact⟨Nat.le_refl _,fun _=>by rw[AR j ep rfl];exact(g3 ep rI).2 rfl⟩
 ·have bM:id<c:=by omega
  exact⟨by show(so id).bO=true;rw[ho id bM, <- B1 id bM];exact hr,lD id bM⟩
 ·have bM:id<c:=by omega
  exact⟨e',by show(so id).aZ=some e';rw[ho id bM, <- B1 id bM];exact fm,Nat.le_refl _,fun _=>lD id bM⟩
end Go.Proofs.YtealblliddhgiaaGreat
