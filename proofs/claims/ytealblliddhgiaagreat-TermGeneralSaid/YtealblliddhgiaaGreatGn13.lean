/-
  A PART OF THE PROOF. Conditions: none.
-/
import Derived.Test.YtealblliddhgiaaGreatGn12
set_option linter.unusedSimpArgs false
set_option linter.unusedVariables false
namespace Go.Proofs.YtealblliddhgiaaGreat
theorem mix:Tryz.prog.follows .mixedOrders=true:=by kernel_rfl
def Um:Tr FD:=
 (.n .no (.n .no (.n (.fn 78 c3 [.tmp 6]) (.n (.fn 116 c7 [.tmp 6]) (.n (.fn 22 Xp [.tmp 4]) (.n (.fn 31 XG [.tmp 2]) (.n (.Xa 13 OQ Yd 99 6 [.tmp 4, .tmp 5] [.cell 4 78, .cell 5 4] 11 5 5 VQ) (.n (.fn 53 O7 [.tmp 8]) (.e fun _=> .no) (.e fun _=> .no)) (.e fun _=> .no)) (.n (.fn 33 c95 [.tmp 4]) (.e fun _=> .no) (.e fun _=> .no))) (.n (.fn 45 XX [.tmp 2]) (.n (.fn 15 Yt [.tmp 6]) (.n (.fn 76 Ua []) (.e fun _=> .no) (.e fun _=> .no)) (.e fun _=> .no)) (.n (.fn 32 OT [.tmp 6]) (.e fun _=> .no) (.e fun _=> .no)))) (.n (.fn 50 Xx [.tmp 6, .tmp 7]) (.n (.fn 10 c39 [.tmp 4]) (.n (.fn 9 Yl [.tmp 2]) (.n (.fn 32 TU []) (.e fun _=> .no) (.e fun _=> .no)) (.e fun _=> .no)) (.n (.fn 16 Tq [.tmp 4]) (.e fun _=> .no) (.e fun _=> .no))) (.n (.fn 15 X5 [.tmp 6]) (.n (.fn 18 YB [.tmp 4]) (.e fun _=> .no) (.e fun _=> .no)) (.n (.fn 14 O0 [.tmp 4]) (.e fun _=> .no) (.e fun _=> .no))))) (.n (.fn 20 Xl [.tmp 4]) (.n (.fn 13 Xt [.tmp 4]) (.n (.fn 31 c35 [.tmp 6, .tmp 7]) (.n (.fn 11 c67 [.tmp 4]) (.n (.fn 49 TM []) (.e fun _=> .no) (.e fun _=> .no)) (.e fun _=> .no)) (.e fun _=> .no)) (.n (.fn 13 X1 [.tmp 4]) (.n (.fn 56 Yx [.tmp 4, .tmp 5]) (.n (.fn 36 Ui [.tmp 10]) (.e fun _=> .no) (.e fun _=> .no)) (.e fun _=> .no)) (.n (.fn 10 OW [.tmp 4]) (.e fun _=> .no) (.e fun _=> .no)))) (.n (.fn 11 Z5 [.tmp 4, .tmp 5]) (.n (.fn 7 c43 [.tmp 2]) (.n (.fn 24 Yp [.tmp 4]) (.n (.fn 168 T2 [.tmp 8, .tmp 9]) (.e fun _=> .no) (.e fun _=> .no)) (.e fun _=> .no)) (.n (.fn 45 OS []) (.e fun _=> .no) (.e fun _=> .no))) (.n (.fn 25 X9 [.tmp 4]) (.n (.fn 102 Mt [.cell 4 28]) (.e fun _=> .no) (.e fun _=> .no)) (.n (.fn 14 O4 [.tmp 4]) (.e fun _=> .no) (.e fun _=> .no)))))) (.n (.fn 305 c5 [.tmp 8]) (.n (.fn 173 c9 [.tmp 8]) (.n (.fn 17 Z1 [.tmp 2]) (.n (.fn 5 XI [.cell 2 28]) (.n (.fn 5 Yf [.cell 2 28]) (.n (.fn 6 TI [.tmp 2]) (.e fun _=> .no) (.e fun _=> .no)) (.e fun _=> .no)) (.n (.fn 115 YK [.tmp 4]) (.e fun _=> .no) (.e fun _=> .no))) (.n (.fn 8 c49 [.cell 4 28]) (.n (.fn 4 Yv [.tmp 2]) (.n (.fn 33 Ue [.tmp 2]) (.e fun _=> .no) (.e fun _=> .no)) (.e fun _=> .no)) (.n (.fn 8 OU []) (.e fun _=> .no) (.e fun _=> .no)))) (.n (.fn 20 Xz [.tmp 6]) (.n (.fn 43 c41 [.cell 4 4, .cell 5 33]) (.n (.fn 5 Yn [.cell 2 28]) (.n (.fn 17 TY [.tmp 4]) (.e fun _=> .no) (.e fun _=> .no)) (.e fun _=> .no)) (.n (.fn 38 Tv [.tmp 6]) (.e fun _=> .no) (.e fun _=> .no))) (.n (.fn 69 c57 [.cell 4 28]) (.n (.fn 18 YD [.tmp 4]) (.e fun _=> .no) (.e fun _=> .no)) (.n (.fn 27 O2 [.tmp 4]) (.e fun _=> .no) (.e fun _=> .no))))) (.n (.fn 210 Z0 [.tmp 0]) (.n (.fn 46 Xv [.tmp 4]) (.n (.fn 22 c37 [.tmp 4]) (.n (.fn 81 c69 [.tmp 6, .tmp 7]) (.n (.fn 65 TQ []) (.e fun _=> .no) (.e fun _=> .no)) (.e fun _=> .no)) (.n (.fn 30 Kj [.tmp 4]) (.e fun _=> .no) (.e fun _=> .no))) (.n (.fn 54 SU [.cell 4 28]) (.n (.fn 26 c85 [.tmp 2]) (.e fun _=> .no) (.e fun _=> .no)) (.n (.fn 20 OY []) (.e fun _=> .no) (.e fun _=> .no)))) (.n (.fn 11 Z7 [.tmp 4, .tmp 5]) (.n (.fn 26 c45 [.tmp 4]) (.n (.fn 24 Yr [.tmp 3]) (.n (.fn 25 T6 [.tmp 2]) (.e fun _=> .no) (.e fun _=> .no)) (.e fun _=> .no)) (.n (.fn 8 TC [.tmp 2]) (.e fun _=> .no) (.e fun _=> .no))) (.n (.fn 73 Yb [.tmp 6]) (.n (.fn 28 c93 [.tmp 4]) (.e fun _=> .no) (.e fun _=> .no)) (.n (.fn 5 O6 [.cell 2 28]) (.e fun _=> .no) (.e fun _=> .no))))))) (.n .no (.n (.fn 167 c4 [.tmp 6]) (.n (.fn 231 c8 [.tmp 6]) (.n (.fn 50 Xq [.tmp 4]) (.n (.fn 27 XH [.tmp 4, .tmp 5]) (.n (.fn 66 Ye [.cell 8 28, .tmp 9]) (.n (.fn 4 O8 [.cell 2 28]) (.e fun _=> .no) (.e fun _=> .no)) (.e fun _=> .no)) (.n (.fn 10 c96 [.tmp 2]) (.e fun _=> .no) (.e fun _=> .no))) (.n (.fn 12 c48 [.cell 0 24]) (.n (.fn 18 Yu [.tmp 4]) (.n (.fn 7 Uc [.tmp 2]) (.e fun _=> .no) (.e fun _=> .no)) (.e fun _=> .no)) (.n (.fn 26 TG [.tmp 4, .tmp 5]) (.e fun _=> .no) (.e fun _=> .no)))) (.n (.fn 17 Z3 [.tmp 6, .tmp 7]) (.n (.fn 32 c40 [.tmp 4, .tmp 5, .tmp 6]) (.n (.fn 11 c72 []) (.n (.fn 133 TW [.tmp 6]) (.e fun _=> .no) (.e fun _=> .no)) (.e fun _=> .no)) (.n (.fn 38 Tt [.tmp 6]) (.e fun _=> .no) (.e fun _=> .no))) (.n (.fn 20 c56 [.tmp 4]) (.n (.fn 7 YC [.tmp 3]) (.e fun _=> .no) (.e fun _=> .no)) (.n (.fn 27 O1 [.tmp 4]) (.e fun _=> .no) (.e fun _=> .no))))) (.n (.fn 24 Xm [.tmp 2]) (.n (.fn 6 Xu [.tmp 2]) (.n (.fn 15 c36 [.cell 2 28, .tmp 3]) (.n (.fn 21 c68 [.tmp 2]) (.n (.fn 56 TO []) (.e fun _=> .no) (.e fun _=> .no)) (.e fun _=> .no)) (.n (.fn 109 OR []) (.e fun _=> .no) (.e fun _=> .no))) (.n (.fn 14 X2 [.tmp 4]) (.n (.fn 42 c84 [.tmp 4, .tmp 5]) (.n (.fn 28 Uk [.tmp 8, .tmp 9]) (.e fun _=> .no) (.e fun _=> .no)) (.e fun _=> .no)) (.n (.fn 35 OX [.tmp 2]) (.e fun _=> .no) (.e fun _=> .no)))) (.n (.fn 42 Z6 [.tmp 4]) (.n (.fn 15 c44 [.tmp 2]) (.n (.fn 118 c76 [.cell 4 28, .cell 5 98]) (.n (.fn 19 T4 [.tmp 2]) (.e fun _=> .no) (.e fun _=> .no)) (.e fun _=> .no)) (.n (.fn 134 Tz []) (.e fun _=> .no) (.e fun _=> .no))) (.n (.fn 12 Ya [.tmp 4]) (.n (.fn 19 YF [.cell 0 120]) (.e fun _=> .no) (.e fun _=> .no)) (.n (.fn 14 O5 [.tmp 4]) (.e fun _=> .no) (.e fun _=> .no)))))) (.n (.fn 128 c6 [.tmp 8]) (.n (.fn 138 ZZ [.tmp 4]) (.n (.fn 49 Z2 [.cell 4 28]) (.n (.fn 23 Z9 [.cell 4 28, .tmp 5]) (.n (.fn 49 c66 [.tmp 4]) (.n (.fn 11 TK [.tmp 2]) (.e fun _=> .no) (.e fun _=> .no)) (.e fun _=> .no)) (.n (.fn 11 YL [.tmp 2]) (.e fun _=> .no) (.e fun _=> .no))) (.n (.fn 11 c50 [.cell 6 28]) (.n (.fn 16 Yw [.cell 2 4]) (.n (.fn 15 Ug [.tmp 6]) (.e fun _=> .no) (.e fun _=> .no)) (.e fun _=> .no)) (.n (.fn 17 OV [.tmp 6]) (.e fun _=> .no) (.e fun _=> .no)))) (.n (.fn 69 Z4 [.tmp 4]) (.n (.fn 48 XR [.tmp 2]) (.n (.fn 19 c74 [.cell 2 28, .tmp 3]) (.n (.fn 84 T0 [.tmp 8]) (.e fun _=> .no) (.e fun _=> .no)) (.e fun _=> .no)) (.n (.fn 18 Tx [.tmp 4]) (.e fun _=> .no) (.e fun _=> .no))) (.n (.fn 37 X8 [.tmp 6]) (.n (.fn 24 YE [.tmp 4]) (.e fun _=> .no) (.e fun _=> .no)) (.n (.fn 27 O3 [.tmp 4]) (.e fun _=> .no) (.e fun _=> .no))))) (.n (.fn 46 Xo [.cell 6 28, .tmp 7]) (.n (.fn 23 Xw [.tmp 6, .tmp 7]) (.n (.fn 46 XN [.tmp 2]) (.n (.fn 117 c70 [.tmp 6, .tmp 7]) (.n (.fn 57 TS [.tmp 6, .tmp 7]) (.e fun _=> .no) (.e fun _=> .no)) (.e fun _=> .no)) (.n (.fn 20 To [.tmp 4]) (.e fun _=> .no) (.e fun _=> .no))) (.n (.fn 39 X4 [.cell 4 4]) (.n (.fn 44 c86 [.tmp 4]) (.e fun _=> .no) (.e fun _=> .no)) (.n (.fn 14 OZ [.tmp 4]) (.e fun _=> .no) (.e fun _=> .no)))) (.n (.fn 20 Z8 [.tmp 4]) (.n (.fn 55 c46 [.tmp 2]) (.n (.fn 28 Ys [.tmp 2]) (.n (.fn 15 T8 [.tmp 2]) (.e fun _=> .no) (.e fun _=> .no)) (.e fun _=> .no)) (.n (.fn 116 TE [.cell 4 28]) (.e fun _=> .no) (.e fun _=> .no))) (.n (.fn 27 Yc [.tmp 2]) (.n (.fn 34 c94 [.tmp 6]) (.e fun _=> .no) (.e fun _=> .no)) (.n (.fn 6 Kk []) (.e fun _=> .no) (.e fun _=> .no))))))))
noncomputable def b9:Nat->FD:=Um.get
theorem O9:∀g,(b9 g).Ok Tryz.prog g:=
 Tr.ye (p:=fun g d=>d.Ok Tryz.prog g) (f:=fun g=>g) Um
   ⟨trivial,⟨trivial,⟨fn3,⟨fn7,⟨SD,⟨SL,⟨⟨Ms,Mr⟩,⟨MK,(fun _=>trivial),(fun _=>trivial)⟩,(fun _=>trivial)⟩,⟨YI,(fun _=>trivial),(fun _=>trivial)⟩⟩,⟨SQ,⟨Ta,⟨Ub,(fun _=>trivial),(fun _=>trivial)⟩,(fun _=>trivial)⟩,⟨Mw,(fun _=>trivial),(fun _=>trivial)⟩⟩⟩,⟨SJ,⟨XO,⟨S5,⟨TV,(fun _=>trivial),(fun _=>trivial)⟩,(fun _=>trivial)⟩,⟨Ts,(fun _=>trivial),(fun _=>trivial)⟩⟩,⟨SX,⟨Tf,(fun _=>trivial),(fun _=>trivial)⟩,⟨MD,(fun _=>trivial),(fun _=>trivial)⟩⟩⟩⟩,⟨SA,⟨SF,⟨XK,⟨Yh,⟨TN,(fun _=>trivial),(fun _=>trivial)⟩,(fun _=>trivial)⟩,(fun _=>trivial)⟩,⟨SR,⟨Te,⟨Uj,(fun _=>trivial),(fun _=>trivial)⟩,(fun _=>trivial)⟩,⟨Mz,(fun _=>trivial),(fun _=>trivial)⟩⟩⟩,⟨XB,⟨XS,⟨S7,⟨T3,(fun _=>trivial),(fun _=>trivial)⟩,(fun _=>trivial)⟩,⟨Mv,(fun _=>trivial),(fun _=>trivial)⟩⟩,⟨SZ,⟨Tj,(fun _=>trivial),(fun _=>trivial)⟩,⟨MH,(fun _=>trivial),(fun _=>trivial)⟩⟩⟩⟩⟩,⟨ZY,⟨fn9,⟨Xr,⟨SN,⟨S4,⟨TJ,(fun _=>trivial),(fun _=>trivial)⟩,(fun _=>trivial)⟩,⟨Tl,(fun _=>trivial),(fun _=>trivial)⟩⟩,⟨XZ,⟨Tc,⟨Uf,(fun _=>trivial),(fun _=>trivial)⟩,(fun _=>trivial)⟩,⟨Mx,(fun _=>trivial),(fun _=>trivial)⟩⟩⟩,⟨SK,⟨XQ,⟨S6,⟨TZ,(fun _=>trivial),(fun _=>trivial)⟩,(fun _=>trivial)⟩,⟨Tw,(fun _=>trivial),(fun _=>trivial)⟩⟩,⟨X7,⟨Th,(fun _=>trivial),(fun _=>trivial)⟩,⟨MF,(fun _=>trivial),(fun _=>trivial)⟩⟩⟩⟩,⟨Xn,⟨SH,⟨XM,⟨Yj,⟨TR,(fun _=>trivial),(fun _=>trivial)⟩,(fun _=>trivial)⟩,⟨HL,(fun _=>trivial),(fun _=>trivial)⟩⟩,⟨SV,⟨Yz,(fun _=>trivial),(fun _=>trivial)⟩,⟨MB,(fun _=>trivial),(fun _=>trivial)⟩⟩⟩,⟨XE,⟨XU,⟨S8,⟨T7,(fun _=>trivial),(fun _=>trivial)⟩,(fun _=>trivial)⟩,⟨TD,(fun _=>trivial),(fun _=>trivial)⟩⟩,⟨S1,⟨YG,(fun _=>trivial),(fun _=>trivial)⟩,⟨MJ,(fun _=>trivial),(fun _=>trivial)⟩⟩⟩⟩⟩⟩,⟨trivial,⟨fn4,⟨fn8,⟨SE,⟨SM,⟨S3,⟨ML,(fun _=>trivial),(fun _=>trivial)⟩,(fun _=>trivial)⟩,⟨YJ,(fun _=>trivial),(fun _=>trivial)⟩⟩,⟨XY,⟨Tb,⟨Ud,(fun _=>trivial),(fun _=>trivial)⟩,(fun _=>trivial)⟩,⟨TH,(fun _=>trivial),(fun _=>trivial)⟩⟩⟩,⟨Xy,⟨XP,⟨Ym,⟨TX,(fun _=>trivial),(fun _=>trivial)⟩,(fun _=>trivial)⟩,⟨Tu,(fun _=>trivial),(fun _=>trivial)⟩⟩,⟨X6,⟨Tg,(fun _=>trivial),(fun _=>trivial)⟩,⟨ME,(fun _=>trivial),(fun _=>trivial)⟩⟩⟩⟩,⟨SB,⟨SG,⟨XL,⟨Yi,⟨TP,(fun _=>trivial),(fun _=>trivial)⟩,(fun _=>trivial)⟩,⟨Mu,(fun _=>trivial),(fun _=>trivial)⟩⟩,⟨SS,⟨Yy,⟨Ul,(fun _=>trivial),(fun _=>trivial)⟩,(fun _=>trivial)⟩,⟨MA,(fun _=>trivial),(fun _=>trivial)⟩⟩⟩,⟨XC,⟨XT,⟨Yq,⟨T5,(fun _=>trivial),(fun _=>trivial)⟩,(fun _=>trivial)⟩,⟨TA,(fun _=>trivial),(fun _=>trivial)⟩⟩,⟨S0,⟨Tk,(fun _=>trivial),(fun _=>trivial)⟩,⟨MI,(fun _=>trivial),(fun _=>trivial)⟩⟩⟩⟩⟩,⟨fn6,⟨Xk,⟨Xs,⟨XJ,⟨Yg,⟨TL,(fun _=>trivial),(fun _=>trivial)⟩,(fun _=>trivial)⟩,⟨Tn,(fun _=>trivial),(fun _=>trivial)⟩⟩,⟨X0,⟨Td,⟨Uh,(fun _=>trivial),(fun _=>trivial)⟩,(fun _=>trivial)⟩,⟨My,(fun _=>trivial),(fun _=>trivial)⟩⟩⟩,⟨XA,⟨SP,⟨Yo,⟨T1,(fun _=>trivial),(fun _=>trivial)⟩,(fun _=>trivial)⟩,⟨Ty,(fun _=>trivial),(fun _=>trivial)⟩⟩,⟨SY,⟨Ti,(fun _=>trivial),(fun _=>trivial)⟩,⟨MG,(fun _=>trivial),(fun _=>trivial)⟩⟩⟩⟩,⟨SC,⟨SI,⟨SO,⟨Yk,⟨TT,(fun _=>trivial),(fun _=>trivial)⟩,(fun _=>trivial)⟩,⟨Tp,(fun _=>trivial),(fun _=>trivial)⟩⟩,⟨SW,⟨YA,(fun _=>trivial),(fun _=>trivial)⟩,⟨MC,(fun _=>trivial),(fun _=>trivial)⟩⟩⟩,⟨XF,⟨XW,⟨S9,⟨T9,(fun _=>trivial),(fun _=>trivial)⟩,(fun _=>trivial)⟩,⟨TF,(fun _=>trivial),(fun _=>trivial)⟩⟩,⟨S2,⟨YH,(fun _=>trivial),(fun _=>trivial)⟩,⟨HM,(fun _=>trivial),(fun _=>trivial)⟩⟩⟩⟩⟩⟩⟩
end Go.Proofs.YtealblliddhgiaaGreat
namespace Go.Proofs.YtealblliddhgiaaGreat
@[go_sem] theorem cellsOf_3:Tryz.prog.cellsOf 3=1:=by kernel_rfl
@[go_sem] theorem bytesOf_3:Tryz.prog.bytesOf 3=8:=by kernel_rfl
@[go_sem] theorem sliceT_3:aV Tryz.prog 3=none:=by kernel_rfl
@[go_sem] theorem arrT_3:cH Tryz.prog 3=none:=by kernel_rfl
@[go_sem] theorem aggT_3:cj Tryz.prog 3=some false:=by kernel_rfl
@[go_sem] theorem intT_3:cM Tryz.prog 3=some .i64:=by kernel_rfl
@[go_sem] theorem isBoolT_3:aS Tryz.prog 3=false:=by kernel_rfl
@[go_sem] theorem infoT_3:(Tryz.prog.info? 3).isSome=true:=by kernel_rfl
@[go_sem] theorem plainIface_3:aD Tryz.prog 3=true:=by kernel_rfl
@[go_sem] theorem undT_3:Tryz.prog.underlying 3=some (.int .i64):=by kernel_rfl
@[go_sem] theorem eqShape_3:bg Tryz.prog 3=some .int:=by kernel_rfl
@[go_sem] theorem zeroT_3:bp Tryz.prog 3=some [.d (.int .i64 0)]:=by kernel_rfl
@[go_sem] theorem zeroV_3:zeroV Tryz.prog 3=some (.d (.int .i64 0)):=by kernel_rfl
@[go_sem] theorem zeroD_3:bI Tryz.prog 3=some (.int .i64 0):=by kernel_rfl
@[go_sem] theorem cellsOf_4:Tryz.prog.cellsOf 4=1:=by kernel_rfl
@[go_sem] theorem bytesOf_4:Tryz.prog.bytesOf 4=1:=by kernel_rfl
@[go_sem] theorem sliceT_4:aV Tryz.prog 4=none:=by kernel_rfl
@[go_sem] theorem arrT_4:cH Tryz.prog 4=none:=by kernel_rfl
@[go_sem] theorem aggT_4:cj Tryz.prog 4=some false:=by kernel_rfl
@[go_sem] theorem intT_4:cM Tryz.prog 4=none:=by kernel_rfl
@[go_sem] theorem isBoolT_4:aS Tryz.prog 4=true:=by kernel_rfl
@[go_sem] theorem infoT_4:(Tryz.prog.info? 4).isSome=true:=by kernel_rfl
@[go_sem] theorem plainIface_4:aD Tryz.prog 4=true:=by kernel_rfl
@[go_sem] theorem undT_4:Tryz.prog.underlying 4=some .bool:=by kernel_rfl
@[go_sem] theorem eqShape_4:bg Tryz.prog 4=some .bool:=by kernel_rfl
@[go_sem] theorem zeroT_4:bp Tryz.prog 4=some [.d (.bool false)]:=by kernel_rfl
@[go_sem] theorem zeroV_4:zeroV Tryz.prog 4=some (.d (.bool false)):=by kernel_rfl
@[go_sem] theorem zeroD_4:bI Tryz.prog 4=some (.bool false):=by kernel_rfl
@[go_sem] theorem cellsOf_5:Tryz.prog.cellsOf 5=1:=by kernel_rfl
@[go_sem] theorem bytesOf_5:Tryz.prog.bytesOf 5=1:=by kernel_rfl
@[go_sem] theorem sliceT_5:aV Tryz.prog 5=none:=by kernel_rfl
@[go_sem] theorem arrT_5:cH Tryz.prog 5=none:=by kernel_rfl
@[go_sem] theorem aggT_5:cj Tryz.prog 5=some false:=by kernel_rfl
@[go_sem] theorem intT_5:cM Tryz.prog 5=some .u8:=by kernel_rfl
@[go_sem] theorem isBoolT_5:aS Tryz.prog 5=false:=by kernel_rfl
@[go_sem] theorem infoT_5:(Tryz.prog.info? 5).isSome=true:=by kernel_rfl
@[go_sem] theorem plainIface_5:aD Tryz.prog 5=true:=by kernel_rfl
@[go_sem] theorem undT_5:Tryz.prog.underlying 5=some (.int .u8):=by kernel_rfl
@[go_sem] theorem eqShape_5:bg Tryz.prog 5=some .int:=by kernel_rfl
@[go_sem] theorem zeroT_5:bp Tryz.prog 5=some [.d (.int .u8 0)]:=by kernel_rfl
@[go_sem] theorem zeroV_5:zeroV Tryz.prog 5=some (.d (.int .u8 0)):=by kernel_rfl
@[go_sem] theorem zeroD_5:bI Tryz.prog 5=some (.int .u8 0):=by kernel_rfl
@[go_sem] theorem cellsOf_9:Tryz.prog.cellsOf 9=1:=by kernel_rfl
@[go_sem] theorem bytesOf_9:Tryz.prog.bytesOf 9=16:=by kernel_rfl
@[go_sem] theorem sliceT_9:aV Tryz.prog 9=none:=by kernel_rfl
@[go_sem] theorem arrT_9:cH Tryz.prog 9=none:=by kernel_rfl
@[go_sem] theorem aggT_9:cj Tryz.prog 9=some false:=by kernel_rfl
@[go_sem] theorem intT_9:cM Tryz.prog 9=none:=by kernel_rfl
@[go_sem] theorem isBoolT_9:aS Tryz.prog 9=false:=by kernel_rfl
@[go_sem] theorem infoT_9:(Tryz.prog.info? 9).isSome=true:=by kernel_rfl
@[go_sem] theorem plainIface_9:aD Tryz.prog 9=true:=by kernel_rfl
@[go_sem] theorem undT_9:Tryz.prog.underlying 9=some .string:=by kernel_rfl
@[go_sem] theorem eqShape_9:bg Tryz.prog 9=some .str:=by kernel_rfl
@[go_sem] theorem zeroT_9:bp Tryz.prog 9=some [.d (.str [])]:=by kernel_rfl
@[go_sem] theorem zeroV_9:zeroV Tryz.prog 9=some (.d (.str [])):=by kernel_rfl
@[go_sem] theorem zeroD_9:bI Tryz.prog 9=some (.str []):=by kernel_rfl
@[go_sem] theorem cellsOf_20:Tryz.prog.cellsOf 20=1:=by kernel_rfl
@[go_sem] theorem bytesOf_20:Tryz.prog.bytesOf 20=16:=by kernel_rfl
@[go_sem] theorem sliceT_20:aV Tryz.prog 20=none:=by kernel_rfl
@[go_sem] theorem arrT_20:cH Tryz.prog 20=none:=by kernel_rfl
@[go_sem] theorem aggT_20:cj Tryz.prog 20=some false:=by kernel_rfl
@[go_sem] theorem intT_20:cM Tryz.prog 20=none:=by kernel_rfl
@[go_sem] theorem isBoolT_20:aS Tryz.prog 20=false:=by kernel_rfl
@[go_sem] theorem infoT_20:(Tryz.prog.info? 20).isSome=true:=by kernel_rfl
@[go_sem] theorem plainIface_20:aD Tryz.prog 20=false:=by kernel_rfl
@[go_sem] theorem zeroT_20:bp Tryz.prog 20=some [.d .eC]:=by kernel_rfl
@[go_sem] theorem zeroV_20:zeroV Tryz.prog 20=some (.d .eC):=by kernel_rfl
@[go_sem] theorem zeroD_20:bI Tryz.prog 20=some .eC:=by kernel_rfl
@[go_sem] theorem cellsOf_21:Tryz.prog.cellsOf 21=1:=by kernel_rfl
@[go_sem] theorem bytesOf_21:Tryz.prog.bytesOf 21=4:=by kernel_rfl
@[go_sem] theorem sliceT_21:aV Tryz.prog 21=none:=by kernel_rfl
@[go_sem] theorem arrT_21:cH Tryz.prog 21=none:=by kernel_rfl
@[go_sem] theorem aggT_21:cj Tryz.prog 21=some false:=by kernel_rfl
@[go_sem] theorem intT_21:cM Tryz.prog 21=some .i32:=by kernel_rfl
@[go_sem] theorem isBoolT_21:aS Tryz.prog 21=false:=by kernel_rfl
@[go_sem] theorem infoT_21:(Tryz.prog.info? 21).isSome=true:=by kernel_rfl
@[go_sem] theorem plainIface_21:aD Tryz.prog 21=true:=by kernel_rfl
@[go_sem] theorem undT_21:Tryz.prog.underlying 21=some (.int .i32):=by kernel_rfl
@[go_sem] theorem eqShape_21:bg Tryz.prog 21=some .int:=by kernel_rfl
@[go_sem] theorem zeroT_21:bp Tryz.prog 21=some [.d (.int .i32 0)]:=by kernel_rfl
@[go_sem] theorem zeroV_21:zeroV Tryz.prog 21=some (.d (.int .i32 0)):=by kernel_rfl
@[go_sem] theorem zeroD_21:bI Tryz.prog 21=some (.int .i32 0):=by kernel_rfl
@[go_sem] theorem cellsOf_22:Tryz.prog.cellsOf 22=1:=by kernel_rfl
@[go_sem] theorem bytesOf_22:Tryz.prog.bytesOf 22=24:=by kernel_rfl
@[go_sem] theorem sliceT_22:aV Tryz.prog 22=some 103:=by kernel_rfl
@[go_sem] theorem arrT_22:cH Tryz.prog 22=none:=by kernel_rfl
@[go_sem] theorem aggT_22:cj Tryz.prog 22=some false:=by kernel_rfl
@[go_sem] theorem intT_22:cM Tryz.prog 22=none:=by kernel_rfl
@[go_sem] theorem isBoolT_22:aS Tryz.prog 22=false:=by kernel_rfl
@[go_sem] theorem infoT_22:(Tryz.prog.info? 22).isSome=true:=by kernel_rfl
@[go_sem] theorem plainIface_22:aD Tryz.prog 22=true:=by kernel_rfl
@[go_sem] theorem undT_22:Tryz.prog.underlying 22=some (.slice 103):=by kernel_rfl
@[go_sem] theorem zeroT_22:bp Tryz.prog 22=some [.bn]:=by kernel_rfl
@[go_sem] theorem zeroV_22:zeroV Tryz.prog 22=some (.bn):=by kernel_rfl
@[go_sem] theorem zeroD_22:bI Tryz.prog 22=some (.sl []):=by kernel_rfl
@[go_sem] theorem cellsOf_24:Tryz.prog.cellsOf 24=2:=by kernel_rfl
@[go_sem] theorem bytesOf_24:Tryz.prog.bytesOf 24=48:=by kernel_rfl
@[go_sem] theorem sliceT_24:aV Tryz.prog 24=none:=by kernel_rfl
@[go_sem] theorem arrT_24:cH Tryz.prog 24=none:=by kernel_rfl
@[go_sem] theorem aggT_24:cj Tryz.prog 24=some true:=by kernel_rfl
@[go_sem] theorem intT_24:cM Tryz.prog 24=none:=by kernel_rfl
@[go_sem] theorem isBoolT_24:aS Tryz.prog 24=false:=by kernel_rfl
@[go_sem] theorem infoT_24:(Tryz.prog.info? 24).isSome=true:=by kernel_rfl
@[go_sem] theorem plainIface_24:aD Tryz.prog 24=true:=by kernel_rfl
@[go_sem] theorem zeroT_24:bp Tryz.prog 24=some [.bn, .bn]:=by kernel_rfl
@[go_sem] theorem zeroV_24:zeroV Tryz.prog 24=some (fC [.bn, .bn]):=by kernel_rfl
@[go_sem] theorem zeroD_24:bI Tryz.prog 24=some (.agg [(.sl []),(.sl [])]):=by kernel_rfl
@[go_sem] theorem placesT_24:dF Tryz.prog 24=some [(0,1),(1,1)]:=by kernel_rfl
@[go_sem] theorem cellsOf_25:Tryz.prog.cellsOf 25=1:=by kernel_rfl
@[go_sem] theorem bytesOf_25:Tryz.prog.bytesOf 25=8:=by kernel_rfl
@[go_sem] theorem sliceT_25:aV Tryz.prog 25=none:=by kernel_rfl
@[go_sem] theorem arrT_25:cH Tryz.prog 25=none:=by kernel_rfl
@[go_sem] theorem aggT_25:cj Tryz.prog 25=some false:=by kernel_rfl
@[go_sem] theorem intT_25:cM Tryz.prog 25=some .i64:=by kernel_rfl
@[go_sem] theorem isBoolT_25:aS Tryz.prog 25=false:=by kernel_rfl
@[go_sem] theorem infoT_25:(Tryz.prog.info? 25).isSome=true:=by kernel_rfl
@[go_sem] theorem plainIface_25:aD Tryz.prog 25=true:=by kernel_rfl
@[go_sem] theorem undT_25:Tryz.prog.underlying 25=some (.int .i64):=by kernel_rfl
@[go_sem] theorem eqShape_25:bg Tryz.prog 25=some .int:=by kernel_rfl
@[go_sem] theorem zeroT_25:bp Tryz.prog 25=some [.d (.int .i64 0)]:=by kernel_rfl
@[go_sem] theorem zeroV_25:zeroV Tryz.prog 25=some (.d (.int .i64 0)):=by kernel_rfl
@[go_sem] theorem zeroD_25:bI Tryz.prog 25=some (.int .i64 0):=by kernel_rfl
@[go_sem] theorem cellsOf_26:Tryz.prog.cellsOf 26=1:=by kernel_rfl
@[go_sem] theorem bytesOf_26:Tryz.prog.bytesOf 26=24:=by kernel_rfl
@[go_sem] theorem sliceT_26:aV Tryz.prog 26=some 28:=by kernel_rfl
@[go_sem] theorem arrT_26:cH Tryz.prog 26=none:=by kernel_rfl
@[go_sem] theorem aggT_26:cj Tryz.prog 26=some false:=by kernel_rfl
@[go_sem] theorem intT_26:cM Tryz.prog 26=none:=by kernel_rfl
@[go_sem] theorem isBoolT_26:aS Tryz.prog 26=false:=by kernel_rfl
@[go_sem] theorem infoT_26:(Tryz.prog.info? 26).isSome=true:=by kernel_rfl
@[go_sem] theorem plainIface_26:aD Tryz.prog 26=true:=by kernel_rfl
@[go_sem] theorem undT_26:Tryz.prog.underlying 26=some (.slice 28):=by kernel_rfl
@[go_sem] theorem zeroT_26:bp Tryz.prog 26=some [.bn]:=by kernel_rfl
@[go_sem] theorem zeroV_26:zeroV Tryz.prog 26=some (.bn):=by kernel_rfl
@[go_sem] theorem zeroD_26:bI Tryz.prog 26=some (.sl []):=by kernel_rfl
@[go_sem] theorem cellsOf_28:Tryz.prog.cellsOf 28=3:=by kernel_rfl
@[go_sem] theorem bytesOf_28:Tryz.prog.bytesOf 28=40:=by kernel_rfl
@[go_sem] theorem sliceT_28:aV Tryz.prog 28=none:=by kernel_rfl
@[go_sem] theorem arrT_28:cH Tryz.prog 28=none:=by kernel_rfl
@[go_sem] theorem aggT_28:cj Tryz.prog 28=some true:=by kernel_rfl
@[go_sem] theorem intT_28:cM Tryz.prog 28=none:=by kernel_rfl
@[go_sem] theorem isBoolT_28:aS Tryz.prog 28=false:=by kernel_rfl
@[go_sem] theorem infoT_28:(Tryz.prog.info? 28).isSome=true:=by kernel_rfl
@[go_sem] theorem plainIface_28:aD Tryz.prog 28=true:=by kernel_rfl
@[go_sem] theorem zeroT_28:bp Tryz.prog 28=some [.d (.int .i64 0), .d (.int .i64 0), .bn]:=by kernel_rfl
@[go_sem] theorem zeroV_28:zeroV Tryz.prog 28=some (fC [.d (.int .i64 0), .d (.int .i64 0), .bn]):=by kernel_rfl
@[go_sem] theorem zeroD_28:bI Tryz.prog 28=some (.agg [(.int .i64 0),(.int .i64 0),(.sl [])]):=by kernel_rfl
@[go_sem] theorem placesT_28:dF Tryz.prog 28=some [(0,1),(1,1),(2,1)]:=by kernel_rfl
@[go_sem] theorem cellsOf_29:Tryz.prog.cellsOf 29=1:=by kernel_rfl
@[go_sem] theorem bytesOf_29:Tryz.prog.bytesOf 29=24:=by kernel_rfl
@[go_sem] theorem sliceT_29:aV Tryz.prog 29=some 52:=by kernel_rfl
@[go_sem] theorem arrT_29:cH Tryz.prog 29=none:=by kernel_rfl
@[go_sem] theorem aggT_29:cj Tryz.prog 29=some false:=by kernel_rfl
@[go_sem] theorem intT_29:cM Tryz.prog 29=none:=by kernel_rfl
@[go_sem] theorem isBoolT_29:aS Tryz.prog 29=false:=by kernel_rfl
@[go_sem] theorem infoT_29:(Tryz.prog.info? 29).isSome=true:=by kernel_rfl
@[go_sem] theorem plainIface_29:aD Tryz.prog 29=true:=by kernel_rfl
@[go_sem] theorem undT_29:Tryz.prog.underlying 29=some (.slice 52):=by kernel_rfl
@[go_sem] theorem zeroT_29:bp Tryz.prog 29=some [.bn]:=by kernel_rfl
@[go_sem] theorem zeroV_29:zeroV Tryz.prog 29=some (.bn):=by kernel_rfl
@[go_sem] theorem zeroD_29:bI Tryz.prog 29=some (.sl []):=by kernel_rfl
@[go_sem] theorem cellsOf_33:Tryz.prog.cellsOf 33=1:=by kernel_rfl
@[go_sem] theorem bytesOf_33:Tryz.prog.bytesOf 33=8:=by kernel_rfl
@[go_sem] theorem sliceT_33:aV Tryz.prog 33=none:=by kernel_rfl
@[go_sem] theorem arrT_33:cH Tryz.prog 33=none:=by kernel_rfl
@[go_sem] theorem aggT_33:cj Tryz.prog 33=some false:=by kernel_rfl
@[go_sem] theorem intT_33:cM Tryz.prog 33=some .i64:=by kernel_rfl
@[go_sem] theorem isBoolT_33:aS Tryz.prog 33=false:=by kernel_rfl
@[go_sem] theorem infoT_33:(Tryz.prog.info? 33).isSome=true:=by kernel_rfl
@[go_sem] theorem plainIface_33:aD Tryz.prog 33=true:=by kernel_rfl
@[go_sem] theorem undT_33:Tryz.prog.underlying 33=some (.int .i64):=by kernel_rfl
@[go_sem] theorem eqShape_33:bg Tryz.prog 33=some .int:=by kernel_rfl
@[go_sem] theorem zeroT_33:bp Tryz.prog 33=some [.d (.int .i64 0)]:=by kernel_rfl
@[go_sem] theorem zeroV_33:zeroV Tryz.prog 33=some (.d (.int .i64 0)):=by kernel_rfl
@[go_sem] theorem zeroD_33:bI Tryz.prog 33=some (.int .i64 0):=by kernel_rfl
@[go_sem] theorem cellsOf_37:Tryz.prog.cellsOf 37=1:=by kernel_rfl
@[go_sem] theorem bytesOf_37:Tryz.prog.bytesOf 37=8:=by kernel_rfl
@[go_sem] theorem sliceT_37:aV Tryz.prog 37=none:=by kernel_rfl
@[go_sem] theorem arrT_37:cH Tryz.prog 37=none:=by kernel_rfl
@[go_sem] theorem aggT_37:cj Tryz.prog 37=some false:=by kernel_rfl
@[go_sem] theorem intT_37:cM Tryz.prog 37=none:=by kernel_rfl
@[go_sem] theorem isBoolT_37:aS Tryz.prog 37=false:=by kernel_rfl
@[go_sem] theorem infoT_37:(Tryz.prog.info? 37).isSome=true:=by kernel_rfl
@[go_sem] theorem plainIface_37:aD Tryz.prog 37=true:=by kernel_rfl
@[go_sem] theorem zeroT_37:bp Tryz.prog 37=some [.d .a7]:=by kernel_rfl
@[go_sem] theorem zeroV_37:zeroV Tryz.prog 37=some (.d .a7):=by kernel_rfl
@[go_sem] theorem zeroD_37:bI Tryz.prog 37=some .a7:=by kernel_rfl
@[go_sem] theorem cellsOf_40:Tryz.prog.cellsOf 40=1:=by kernel_rfl
@[go_sem] theorem bytesOf_40:Tryz.prog.bytesOf 40=8:=by kernel_rfl
@[go_sem] theorem sliceT_40:aV Tryz.prog 40=none:=by kernel_rfl
@[go_sem] theorem arrT_40:cH Tryz.prog 40=none:=by kernel_rfl
@[go_sem] theorem aggT_40:cj Tryz.prog 40=some false:=by kernel_rfl
@[go_sem] theorem intT_40:cM Tryz.prog 40=none:=by kernel_rfl
@[go_sem] theorem isBoolT_40:aS Tryz.prog 40=false:=by kernel_rfl
@[go_sem] theorem infoT_40:(Tryz.prog.info? 40).isSome=true:=by kernel_rfl
@[go_sem] theorem plainIface_40:aD Tryz.prog 40=true:=by kernel_rfl
@[go_sem] theorem zeroT_40:bp Tryz.prog 40=some [.d .a7]:=by kernel_rfl
@[go_sem] theorem zeroV_40:zeroV Tryz.prog 40=some (.d .a7):=by kernel_rfl
@[go_sem] theorem zeroD_40:bI Tryz.prog 40=some .a7:=by kernel_rfl
@[go_sem] theorem cellsOf_52:Tryz.prog.cellsOf 52=4:=by kernel_rfl
@[go_sem] theorem bytesOf_52:Tryz.prog.bytesOf 52=48:=by kernel_rfl
@[go_sem] theorem sliceT_52:aV Tryz.prog 52=none:=by kernel_rfl
@[go_sem] theorem arrT_52:cH Tryz.prog 52=none:=by kernel_rfl
@[go_sem] theorem aggT_52:cj Tryz.prog 52=some true:=by kernel_rfl
@[go_sem] theorem intT_52:cM Tryz.prog 52=none:=by kernel_rfl
@[go_sem] theorem isBoolT_52:aS Tryz.prog 52=false:=by kernel_rfl
@[go_sem] theorem infoT_52:(Tryz.prog.info? 52).isSome=true:=by kernel_rfl
@[go_sem] theorem plainIface_52:aD Tryz.prog 52=true:=by kernel_rfl
@[go_sem] theorem zeroT_52:bp Tryz.prog 52=some [.d (.int .i64 0), .d (.int .i64 0), .d (.int .i64 0), .bn]:=by kernel_rfl
@[go_sem] theorem zeroV_52:zeroV Tryz.prog 52=some (fC [.d (.int .i64 0), .d (.int .i64 0), .d (.int .i64 0), .bn]):=by kernel_rfl
@[go_sem] theorem zeroD_52:bI Tryz.prog 52=some (.agg [(.int .i64 0),(.int .i64 0),(.int .i64 0),(.sl [])]):=by kernel_rfl
@[go_sem] theorem placesT_52:dF Tryz.prog 52=some [(0,1),(1,3)]:=by kernel_rfl
@[go_sem] theorem cellsOf_53:Tryz.prog.cellsOf 53=1:=by kernel_rfl
@[go_sem] theorem bytesOf_53:Tryz.prog.bytesOf 53=24:=by kernel_rfl
@[go_sem] theorem sliceT_53:aV Tryz.prog 53=some 3:=by kernel_rfl
@[go_sem] theorem arrT_53:cH Tryz.prog 53=none:=by kernel_rfl
@[go_sem] theorem aggT_53:cj Tryz.prog 53=some false:=by kernel_rfl
@[go_sem] theorem intT_53:cM Tryz.prog 53=none:=by kernel_rfl
@[go_sem] theorem isBoolT_53:aS Tryz.prog 53=false:=by kernel_rfl
@[go_sem] theorem infoT_53:(Tryz.prog.info? 53).isSome=true:=by kernel_rfl
@[go_sem] theorem plainIface_53:aD Tryz.prog 53=true:=by kernel_rfl
@[go_sem] theorem undT_53:Tryz.prog.underlying 53=some (.slice 3):=by kernel_rfl
@[go_sem] theorem zeroT_53:bp Tryz.prog 53=some [.bn]:=by kernel_rfl
@[go_sem] theorem zeroV_53:zeroV Tryz.prog 53=some (.bn):=by kernel_rfl
@[go_sem] theorem zeroD_53:bI Tryz.prog 53=some (.sl []):=by kernel_rfl
@[go_sem] theorem cellsOf_64:Tryz.prog.cellsOf 64=1:=by kernel_rfl
@[go_sem] theorem bytesOf_64:Tryz.prog.bytesOf 64=24:=by kernel_rfl
@[go_sem] theorem sliceT_64:aV Tryz.prog 64=some 4:=by kernel_rfl
@[go_sem] theorem arrT_64:cH Tryz.prog 64=none:=by kernel_rfl
@[go_sem] theorem aggT_64:cj Tryz.prog 64=some false:=by kernel_rfl
@[go_sem] theorem intT_64:cM Tryz.prog 64=none:=by kernel_rfl
@[go_sem] theorem isBoolT_64:aS Tryz.prog 64=false:=by kernel_rfl
@[go_sem] theorem infoT_64:(Tryz.prog.info? 64).isSome=true:=by kernel_rfl
@[go_sem] theorem plainIface_64:aD Tryz.prog 64=true:=by kernel_rfl
@[go_sem] theorem undT_64:Tryz.prog.underlying 64=some (.slice 4):=by kernel_rfl
@[go_sem] theorem zeroT_64:bp Tryz.prog 64=some [.bn]:=by kernel_rfl
@[go_sem] theorem zeroV_64:zeroV Tryz.prog 64=some (.bn):=by kernel_rfl
@[go_sem] theorem zeroD_64:bI Tryz.prog 64=some (.sl []):=by kernel_rfl
@[go_sem] theorem cellsOf_78:Tryz.prog.cellsOf 78=1:=by kernel_rfl
@[go_sem] theorem bytesOf_78:Tryz.prog.bytesOf 78=8:=by kernel_rfl
@[go_sem] theorem sliceT_78:aV Tryz.prog 78=none:=by kernel_rfl
@[go_sem] theorem arrT_78:cH Tryz.prog 78=none:=by kernel_rfl
@[go_sem] theorem aggT_78:cj Tryz.prog 78=some false:=by kernel_rfl
@[go_sem] theorem intT_78:cM Tryz.prog 78=none:=by kernel_rfl
@[go_sem] theorem isBoolT_78:aS Tryz.prog 78=false:=by kernel_rfl
@[go_sem] theorem infoT_78:(Tryz.prog.info? 78).isSome=true:=by kernel_rfl
@[go_sem] theorem plainIface_78:aD Tryz.prog 78=true:=by kernel_rfl
@[go_sem] theorem undT_78:Tryz.prog.underlying 78=some (.map 3 28):=by kernel_rfl
@[go_sem] theorem mapT_78:oC Tryz.prog 78=some (3,28):=by kernel_rfl
@[go_sem] theorem zeroT_78:bp Tryz.prog 78=some [.d .dk]:=by kernel_rfl
@[go_sem] theorem zeroV_78:zeroV Tryz.prog 78=some (.d .dk):=by kernel_rfl
@[go_sem] theorem zeroD_78:bI Tryz.prog 78=some .dk:=by kernel_rfl
@[go_sem] theorem cellsOf_88:Tryz.prog.cellsOf 88=1:=by kernel_rfl
@[go_sem] theorem bytesOf_88:Tryz.prog.bytesOf 88=8:=by kernel_rfl
@[go_sem] theorem sliceT_88:aV Tryz.prog 88=none:=by kernel_rfl
@[go_sem] theorem arrT_88:cH Tryz.prog 88=none:=by kernel_rfl
@[go_sem] theorem aggT_88:cj Tryz.prog 88=some false:=by kernel_rfl
@[go_sem] theorem intT_88:cM Tryz.prog 88=none:=by kernel_rfl
@[go_sem] theorem isBoolT_88:aS Tryz.prog 88=false:=by kernel_rfl
@[go_sem] theorem infoT_88:(Tryz.prog.info? 88).isSome=true:=by kernel_rfl
@[go_sem] theorem plainIface_88:aD Tryz.prog 88=true:=by kernel_rfl
@[go_sem] theorem zeroT_88:bp Tryz.prog 88=some [.d .gY]:=by kernel_rfl
@[go_sem] theorem zeroV_88:zeroV Tryz.prog 88=some (.d .gY):=by kernel_rfl
@[go_sem] theorem zeroD_88:bI Tryz.prog 88=some .gY:=by kernel_rfl
@[go_sem] theorem cellsOf_92:Tryz.prog.cellsOf 92=1:=by kernel_rfl
@[go_sem] theorem bytesOf_92:Tryz.prog.bytesOf 92=8:=by kernel_rfl
@[go_sem] theorem sliceT_92:aV Tryz.prog 92=none:=by kernel_rfl
@[go_sem] theorem arrT_92:cH Tryz.prog 92=none:=by kernel_rfl
@[go_sem] theorem aggT_92:cj Tryz.prog 92=some false:=by kernel_rfl
@[go_sem] theorem intT_92:cM Tryz.prog 92=none:=by kernel_rfl
@[go_sem] theorem isBoolT_92:aS Tryz.prog 92=false:=by kernel_rfl
@[go_sem] theorem infoT_92:(Tryz.prog.info? 92).isSome=true:=by kernel_rfl
@[go_sem] theorem plainIface_92:aD Tryz.prog 92=true:=by kernel_rfl
@[go_sem] theorem undT_92:Tryz.prog.underlying 92=some (.map 3 4):=by kernel_rfl
@[go_sem] theorem mapT_92:oC Tryz.prog 92=some (3,4):=by kernel_rfl
@[go_sem] theorem zeroT_92:bp Tryz.prog 92=some [.d .dk]:=by kernel_rfl
@[go_sem] theorem zeroV_92:zeroV Tryz.prog 92=some (.d .dk):=by kernel_rfl
@[go_sem] theorem zeroD_92:bI Tryz.prog 92=some .dk:=by kernel_rfl
@[go_sem] theorem cellsOf_93:Tryz.prog.cellsOf 93=1:=by kernel_rfl
@[go_sem] theorem bytesOf_93:Tryz.prog.bytesOf 93=8:=by kernel_rfl
@[go_sem] theorem sliceT_93:aV Tryz.prog 93=none:=by kernel_rfl
@[go_sem] theorem arrT_93:cH Tryz.prog 93=none:=by kernel_rfl
@[go_sem] theorem aggT_93:cj Tryz.prog 93=some false:=by kernel_rfl
@[go_sem] theorem intT_93:cM Tryz.prog 93=none:=by kernel_rfl
@[go_sem] theorem isBoolT_93:aS Tryz.prog 93=false:=by kernel_rfl
@[go_sem] theorem infoT_93:(Tryz.prog.info? 93).isSome=true:=by kernel_rfl
@[go_sem] theorem plainIface_93:aD Tryz.prog 93=true:=by kernel_rfl
@[go_sem] theorem undT_93:Tryz.prog.underlying 93=some (.map 3 4):=by kernel_rfl
@[go_sem] theorem mapT_93:oC Tryz.prog 93=some (3,4):=by kernel_rfl
@[go_sem] theorem zeroT_93:bp Tryz.prog 93=some [.d .dk]:=by kernel_rfl
@[go_sem] theorem zeroV_93:zeroV Tryz.prog 93=some (.d .dk):=by kernel_rfl
@[go_sem] theorem zeroD_93:bI Tryz.prog 93=some .dk:=by kernel_rfl
@[go_sem] theorem cellsOf_96:Tryz.prog.cellsOf 96=1:=by kernel_rfl
@[go_sem] theorem bytesOf_96:Tryz.prog.bytesOf 96=24:=by kernel_rfl
@[go_sem] theorem sliceT_96:aV Tryz.prog 96=some 153:=by kernel_rfl
@[go_sem] theorem arrT_96:cH Tryz.prog 96=none:=by kernel_rfl
@[go_sem] theorem aggT_96:cj Tryz.prog 96=some false:=by kernel_rfl
@[go_sem] theorem intT_96:cM Tryz.prog 96=none:=by kernel_rfl
@[go_sem] theorem isBoolT_96:aS Tryz.prog 96=false:=by kernel_rfl
@[go_sem] theorem infoT_96:(Tryz.prog.info? 96).isSome=true:=by kernel_rfl
@[go_sem] theorem plainIface_96:aD Tryz.prog 96=true:=by kernel_rfl
@[go_sem] theorem undT_96:Tryz.prog.underlying 96=some (.slice 153):=by kernel_rfl
@[go_sem] theorem zeroT_96:bp Tryz.prog 96=some [.bn]:=by kernel_rfl
@[go_sem] theorem zeroV_96:zeroV Tryz.prog 96=some (.bn):=by kernel_rfl
@[go_sem] theorem zeroD_96:bI Tryz.prog 96=some (.sl []):=by kernel_rfl
@[go_sem] theorem cellsOf_98:Tryz.prog.cellsOf 98=3:=by kernel_rfl
@[go_sem] theorem bytesOf_98:Tryz.prog.bytesOf 98=56:=by kernel_rfl
@[go_sem] theorem sliceT_98:aV Tryz.prog 98=none:=by kernel_rfl
@[go_sem] theorem arrT_98:cH Tryz.prog 98=none:=by kernel_rfl
@[go_sem] theorem aggT_98:cj Tryz.prog 98=some true:=by kernel_rfl
@[go_sem] theorem intT_98:cM Tryz.prog 98=none:=by kernel_rfl
@[go_sem] theorem isBoolT_98:aS Tryz.prog 98=false:=by kernel_rfl
@[go_sem] theorem infoT_98:(Tryz.prog.info? 98).isSome=true:=by kernel_rfl
@[go_sem] theorem plainIface_98:aD Tryz.prog 98=true:=by kernel_rfl
@[go_sem] theorem zeroT_98:bp Tryz.prog 98=some [.bn, .bn, .d (.int .i64 0)]:=by kernel_rfl
@[go_sem] theorem zeroV_98:zeroV Tryz.prog 98=some (fC [.bn, .bn, .d (.int .i64 0)]):=by kernel_rfl
@[go_sem] theorem zeroD_98:bI Tryz.prog 98=some (.agg [(.sl []),(.sl []),(.int .i64 0)]):=by kernel_rfl
@[go_sem] theorem placesT_98:dF Tryz.prog 98=some [(0,1),(1,1),(2,1)]:=by kernel_rfl
@[go_sem] theorem cellsOf_101:Tryz.prog.cellsOf 101=1:=by kernel_rfl
@[go_sem] theorem bytesOf_101:Tryz.prog.bytesOf 101=8:=by kernel_rfl
@[go_sem] theorem sliceT_101:aV Tryz.prog 101=none:=by kernel_rfl
@[go_sem] theorem arrT_101:cH Tryz.prog 101=none:=by kernel_rfl
@[go_sem] theorem aggT_101:cj Tryz.prog 101=some false:=by kernel_rfl
@[go_sem] theorem intT_101:cM Tryz.prog 101=none:=by kernel_rfl
@[go_sem] theorem isBoolT_101:aS Tryz.prog 101=false:=by kernel_rfl
@[go_sem] theorem infoT_101:(Tryz.prog.info? 101).isSome=true:=by kernel_rfl
@[go_sem] theorem plainIface_101:aD Tryz.prog 101=true:=by kernel_rfl
@[go_sem] theorem undT_101:Tryz.prog.underlying 101=some (.map 9 4):=by kernel_rfl
@[go_sem] theorem mapT_101:oC Tryz.prog 101=some (9,4):=by kernel_rfl
@[go_sem] theorem zeroT_101:bp Tryz.prog 101=some [.d .dk]:=by kernel_rfl
@[go_sem] theorem zeroV_101:zeroV Tryz.prog 101=some (.d .dk):=by kernel_rfl
@[go_sem] theorem zeroD_101:bI Tryz.prog 101=some .dk:=by kernel_rfl
@[go_sem] theorem cellsOf_103:Tryz.prog.cellsOf 103=2:=by kernel_rfl
@[go_sem] theorem bytesOf_103:Tryz.prog.bytesOf 103=24:=by kernel_rfl
@[go_sem] theorem sliceT_103:aV Tryz.prog 103=none:=by kernel_rfl
@[go_sem] theorem arrT_103:cH Tryz.prog 103=none:=by kernel_rfl
@[go_sem] theorem aggT_103:cj Tryz.prog 103=some true:=by kernel_rfl
@[go_sem] theorem intT_103:cM Tryz.prog 103=none:=by kernel_rfl
@[go_sem] theorem isBoolT_103:aS Tryz.prog 103=false:=by kernel_rfl
@[go_sem] theorem infoT_103:(Tryz.prog.info? 103).isSome=true:=by kernel_rfl
@[go_sem] theorem plainIface_103:aD Tryz.prog 103=true:=by kernel_rfl
@[go_sem] theorem zeroT_103:bp Tryz.prog 103=some [.d (.str []), .d (.int .i64 0)]:=by kernel_rfl
@[go_sem] theorem zeroV_103:zeroV Tryz.prog 103=some (fC [.d (.str []), .d (.int .i64 0)]):=by kernel_rfl
@[go_sem] theorem zeroD_103:bI Tryz.prog 103=some (.agg [(.str []),(.int .i64 0)]):=by kernel_rfl
@[go_sem] theorem placesT_103:dF Tryz.prog 103=some [(0,1),(1,1)]:=by kernel_rfl
@[go_sem] theorem cellsOf_105:Tryz.prog.cellsOf 105=1:=by kernel_rfl
@[go_sem] theorem bytesOf_105:Tryz.prog.bytesOf 105=8:=by kernel_rfl
@[go_sem] theorem sliceT_105:aV Tryz.prog 105=none:=by kernel_rfl
@[go_sem] theorem arrT_105:cH Tryz.prog 105=none:=by kernel_rfl
@[go_sem] theorem aggT_105:cj Tryz.prog 105=some false:=by kernel_rfl
@[go_sem] theorem intT_105:cM Tryz.prog 105=none:=by kernel_rfl
@[go_sem] theorem isBoolT_105:aS Tryz.prog 105=false:=by kernel_rfl
@[go_sem] theorem infoT_105:(Tryz.prog.info? 105).isSome=true:=by kernel_rfl
@[go_sem] theorem plainIface_105:aD Tryz.prog 105=true:=by kernel_rfl
@[go_sem] theorem zeroT_105:bp Tryz.prog 105=some [.d .a7]:=by kernel_rfl
@[go_sem] theorem zeroV_105:zeroV Tryz.prog 105=some (.d .a7):=by kernel_rfl
@[go_sem] theorem zeroD_105:bI Tryz.prog 105=some .a7:=by kernel_rfl
@[go_sem] theorem cellsOf_110:Tryz.prog.cellsOf 110=1:=by kernel_rfl
@[go_sem] theorem bytesOf_110:Tryz.prog.bytesOf 110=24:=by kernel_rfl
@[go_sem] theorem sliceT_110:aV Tryz.prog 110=some 9:=by kernel_rfl
@[go_sem] theorem arrT_110:cH Tryz.prog 110=none:=by kernel_rfl
@[go_sem] theorem aggT_110:cj Tryz.prog 110=some false:=by kernel_rfl
@[go_sem] theorem intT_110:cM Tryz.prog 110=none:=by kernel_rfl
@[go_sem] theorem isBoolT_110:aS Tryz.prog 110=false:=by kernel_rfl
@[go_sem] theorem infoT_110:(Tryz.prog.info? 110).isSome=true:=by kernel_rfl
@[go_sem] theorem plainIface_110:aD Tryz.prog 110=true:=by kernel_rfl
@[go_sem] theorem undT_110:Tryz.prog.underlying 110=some (.slice 9):=by kernel_rfl
@[go_sem] theorem zeroT_110:bp Tryz.prog 110=some [.bn]:=by kernel_rfl
@[go_sem] theorem zeroV_110:zeroV Tryz.prog 110=some (.bn):=by kernel_rfl
@[go_sem] theorem zeroD_110:bI Tryz.prog 110=some (.sl []):=by kernel_rfl
@[go_sem] theorem cellsOf_118:Tryz.prog.cellsOf 118=1:=by kernel_rfl
@[go_sem] theorem bytesOf_118:Tryz.prog.bytesOf 118=8:=by kernel_rfl
@[go_sem] theorem sliceT_118:aV Tryz.prog 118=none:=by kernel_rfl
@[go_sem] theorem arrT_118:cH Tryz.prog 118=none:=by kernel_rfl
@[go_sem] theorem aggT_118:cj Tryz.prog 118=some false:=by kernel_rfl
@[go_sem] theorem intT_118:cM Tryz.prog 118=none:=by kernel_rfl
@[go_sem] theorem isBoolT_118:aS Tryz.prog 118=false:=by kernel_rfl
@[go_sem] theorem infoT_118:(Tryz.prog.info? 118).isSome=true:=by kernel_rfl
@[go_sem] theorem plainIface_118:aD Tryz.prog 118=true:=by kernel_rfl
@[go_sem] theorem zeroT_118:bp Tryz.prog 118=some [.d .a7]:=by kernel_rfl
@[go_sem] theorem zeroV_118:zeroV Tryz.prog 118=some (.d .a7):=by kernel_rfl
@[go_sem] theorem zeroD_118:bI Tryz.prog 118=some .a7:=by kernel_rfl
@[go_sem] theorem cellsOf_119:Tryz.prog.cellsOf 119=1:=by kernel_rfl
@[go_sem] theorem bytesOf_119:Tryz.prog.bytesOf 119=8:=by kernel_rfl
@[go_sem] theorem sliceT_119:aV Tryz.prog 119=none:=by kernel_rfl
@[go_sem] theorem arrT_119:cH Tryz.prog 119=none:=by kernel_rfl
@[go_sem] theorem aggT_119:cj Tryz.prog 119=some false:=by kernel_rfl
@[go_sem] theorem intT_119:cM Tryz.prog 119=none:=by kernel_rfl
@[go_sem] theorem isBoolT_119:aS Tryz.prog 119=false:=by kernel_rfl
@[go_sem] theorem infoT_119:(Tryz.prog.info? 119).isSome=true:=by kernel_rfl
@[go_sem] theorem plainIface_119:aD Tryz.prog 119=true:=by kernel_rfl
@[go_sem] theorem zeroT_119:bp Tryz.prog 119=some [.d .a7]:=by kernel_rfl
@[go_sem] theorem zeroV_119:zeroV Tryz.prog 119=some (.d .a7):=by kernel_rfl
@[go_sem] theorem zeroD_119:bI Tryz.prog 119=some .a7:=by kernel_rfl
@[go_sem] theorem cellsOf_120:Tryz.prog.cellsOf 120=16:=by kernel_rfl
@[go_sem] theorem bytesOf_120:Tryz.prog.bytesOf 120=128:=by kernel_rfl
@[go_sem] theorem sliceT_120:aV Tryz.prog 120=none:=by kernel_rfl
@[go_sem] theorem arrT_120:cH Tryz.prog 120=some (16,119):=by kernel_rfl
@[go_sem] theorem aggT_120:cj Tryz.prog 120=some true:=by kernel_rfl
@[go_sem] theorem intT_120:cM Tryz.prog 120=none:=by kernel_rfl
@[go_sem] theorem isBoolT_120:aS Tryz.prog 120=false:=by kernel_rfl
@[go_sem] theorem infoT_120:(Tryz.prog.info? 120).isSome=true:=by kernel_rfl
@[go_sem] theorem plainIface_120:aD Tryz.prog 120=true:=by kernel_rfl
@[go_sem] theorem undT_120:Tryz.prog.underlying 120=some (.array 16 119):=by kernel_rfl
@[go_sem] theorem zeroT_120:bp Tryz.prog 120=some [.d .a7, .d .a7, .d .a7, .d .a7, .d .a7, .d .a7, .d .a7, .d .a7, .d .a7, .d .a7, .d .a7, .d .a7, .d .a7, .d .a7, .d .a7, .d .a7]:=by kernel_rfl
@[go_sem] theorem zeroV_120:zeroV Tryz.prog 120=some (fC [.d .a7, .d .a7, .d .a7, .d .a7, .d .a7, .d .a7, .d .a7, .d .a7, .d .a7, .d .a7, .d .a7, .d .a7, .d .a7, .d .a7, .d .a7, .d .a7]):=by kernel_rfl
@[go_sem] theorem zeroD_120:bI Tryz.prog 120=some (.agg [.a7, .a7, .a7, .a7, .a7, .a7, .a7, .a7, .a7, .a7, .a7, .a7, .a7, .a7, .a7, .a7]):=by kernel_rfl
@[go_sem] theorem placesT_120:dF Tryz.prog 120=some [(0,1),(1,1),(2,1),(3,1),(4,1),(5,1),(6,1),(7,1),(8,1),(9,1),(10,1),(11,1),(12,1),(13,1),(14,1),(15,1)]:=by kernel_rfl
@[go_sem] theorem cellsOf_123:Tryz.prog.cellsOf 123=2:=by kernel_rfl
@[go_sem] theorem bytesOf_123:Tryz.prog.bytesOf 123=48:=by kernel_rfl
@[go_sem] theorem sliceT_123:aV Tryz.prog 123=none:=by kernel_rfl
@[go_sem] theorem arrT_123:cH Tryz.prog 123=none:=by kernel_rfl
@[go_sem] theorem aggT_123:cj Tryz.prog 123=some true:=by kernel_rfl
@[go_sem] theorem intT_123:cM Tryz.prog 123=none:=by kernel_rfl
@[go_sem] theorem isBoolT_123:aS Tryz.prog 123=false:=by kernel_rfl
@[go_sem] theorem infoT_123:(Tryz.prog.info? 123).isSome=true:=by kernel_rfl
@[go_sem] theorem plainIface_123:aD Tryz.prog 123=true:=by kernel_rfl
@[go_sem] theorem zeroT_123:bp Tryz.prog 123=some [.bn, .bn]:=by kernel_rfl
@[go_sem] theorem zeroV_123:zeroV Tryz.prog 123=some (fC [.bn, .bn]):=by kernel_rfl
@[go_sem] theorem zeroD_123:bI Tryz.prog 123=some (.agg [(.sl []),(.sl [])]):=by kernel_rfl
@[go_sem] theorem placesT_123:dF Tryz.prog 123=some [(0,2)]:=by kernel_rfl
@[go_sem] theorem cellsOf_131:Tryz.prog.cellsOf 131=1:=by kernel_rfl
@[go_sem] theorem bytesOf_131:Tryz.prog.bytesOf 131=8:=by kernel_rfl
@[go_sem] theorem sliceT_131:aV Tryz.prog 131=none:=by kernel_rfl
@[go_sem] theorem arrT_131:cH Tryz.prog 131=none:=by kernel_rfl
@[go_sem] theorem aggT_131:cj Tryz.prog 131=some false:=by kernel_rfl
@[go_sem] theorem intT_131:cM Tryz.prog 131=some .i64:=by kernel_rfl
@[go_sem] theorem isBoolT_131:aS Tryz.prog 131=false:=by kernel_rfl
@[go_sem] theorem infoT_131:(Tryz.prog.info? 131).isSome=true:=by kernel_rfl
@[go_sem] theorem plainIface_131:aD Tryz.prog 131=true:=by kernel_rfl
@[go_sem] theorem undT_131:Tryz.prog.underlying 131=some (.int .i64):=by kernel_rfl
@[go_sem] theorem eqShape_131:bg Tryz.prog 131=some .int:=by kernel_rfl
@[go_sem] theorem zeroT_131:bp Tryz.prog 131=some [.d (.int .i64 0)]:=by kernel_rfl
@[go_sem] theorem zeroV_131:zeroV Tryz.prog 131=some (.d (.int .i64 0)):=by kernel_rfl
@[go_sem] theorem zeroD_131:bI Tryz.prog 131=some (.int .i64 0):=by kernel_rfl
@[go_sem] theorem cellsOf_132:Tryz.prog.cellsOf 132=3:=by kernel_rfl
@[go_sem] theorem bytesOf_132:Tryz.prog.bytesOf 132=40:=by kernel_rfl
@[go_sem] theorem sliceT_132:aV Tryz.prog 132=none:=by kernel_rfl
@[go_sem] theorem arrT_132:cH Tryz.prog 132=none:=by kernel_rfl
@[go_sem] theorem aggT_132:cj Tryz.prog 132=some true:=by kernel_rfl
@[go_sem] theorem intT_132:cM Tryz.prog 132=none:=by kernel_rfl
@[go_sem] theorem isBoolT_132:aS Tryz.prog 132=false:=by kernel_rfl
@[go_sem] theorem infoT_132:(Tryz.prog.info? 132).isSome=true:=by kernel_rfl
@[go_sem] theorem plainIface_132:aD Tryz.prog 132=true:=by kernel_rfl
@[go_sem] theorem zeroT_132:bp Tryz.prog 132=some [.d (.int .i64 0), .d (.int .i64 0), .bn]:=by kernel_rfl
@[go_sem] theorem zeroV_132:zeroV Tryz.prog 132=some (fC [.d (.int .i64 0), .d (.int .i64 0), .bn]):=by kernel_rfl
@[go_sem] theorem zeroD_132:bI Tryz.prog 132=some (.agg [(.int .i64 0),(.int .i64 0),(.sl [])]):=by kernel_rfl
@[go_sem] theorem cellsOf_134:Tryz.prog.cellsOf 134=0:=by kernel_rfl
@[go_sem] theorem bytesOf_134:Tryz.prog.bytesOf 134=0:=by kernel_rfl
@[go_sem] theorem sliceT_134:aV Tryz.prog 134=none:=by kernel_rfl
@[go_sem] theorem arrT_134:cH Tryz.prog 134=none:=by kernel_rfl
@[go_sem] theorem aggT_134:cj Tryz.prog 134=some true:=by kernel_rfl
@[go_sem] theorem intT_134:cM Tryz.prog 134=none:=by kernel_rfl
@[go_sem] theorem isBoolT_134:aS Tryz.prog 134=false:=by kernel_rfl
@[go_sem] theorem infoT_134:(Tryz.prog.info? 134).isSome=true:=by kernel_rfl
@[go_sem] theorem plainIface_134:aD Tryz.prog 134=true:=by kernel_rfl
@[go_sem] theorem zeroT_134:bp Tryz.prog 134=some []:=by kernel_rfl
@[go_sem] theorem zeroV_134:zeroV Tryz.prog 134=some (fC []):=by kernel_rfl
@[go_sem] theorem zeroD_134:bI Tryz.prog 134=some (.agg []):=by kernel_rfl
@[go_sem] theorem placesT_134:dF Tryz.prog 134=some []:=by kernel_rfl
@[go_sem] theorem cellsOf_143:Tryz.prog.cellsOf 143=1:=by kernel_rfl
@[go_sem] theorem bytesOf_143:Tryz.prog.bytesOf 143=8:=by kernel_rfl
@[go_sem] theorem sliceT_143:aV Tryz.prog 143=none:=by kernel_rfl
@[go_sem] theorem arrT_143:cH Tryz.prog 143=none:=by kernel_rfl
@[go_sem] theorem aggT_143:cj Tryz.prog 143=some false:=by kernel_rfl
@[go_sem] theorem intT_143:cM Tryz.prog 143=some .u64:=by kernel_rfl
@[go_sem] theorem isBoolT_143:aS Tryz.prog 143=false:=by kernel_rfl
@[go_sem] theorem infoT_143:(Tryz.prog.info? 143).isSome=true:=by kernel_rfl
@[go_sem] theorem plainIface_143:aD Tryz.prog 143=true:=by kernel_rfl
@[go_sem] theorem undT_143:Tryz.prog.underlying 143=some (.int .u64):=by kernel_rfl
@[go_sem] theorem eqShape_143:bg Tryz.prog 143=some .int:=by kernel_rfl
@[go_sem] theorem zeroT_143:bp Tryz.prog 143=some [.d (.int .u64 0)]:=by kernel_rfl
@[go_sem] theorem zeroV_143:zeroV Tryz.prog 143=some (.d (.int .u64 0)):=by kernel_rfl
@[go_sem] theorem zeroD_143:bI Tryz.prog 143=some (.int .u64 0):=by kernel_rfl
@[go_sem] theorem cellsOf_144:Tryz.prog.cellsOf 144=1:=by kernel_rfl
@[go_sem] theorem bytesOf_144:Tryz.prog.bytesOf 144=8:=by kernel_rfl
@[go_sem] theorem sliceT_144:aV Tryz.prog 144=none:=by kernel_rfl
@[go_sem] theorem arrT_144:cH Tryz.prog 144=none:=by kernel_rfl
@[go_sem] theorem aggT_144:cj Tryz.prog 144=some false:=by kernel_rfl
@[go_sem] theorem intT_144:cM Tryz.prog 144=none:=by kernel_rfl
@[go_sem] theorem isBoolT_144:aS Tryz.prog 144=false:=by kernel_rfl
@[go_sem] theorem infoT_144:(Tryz.prog.info? 144).isSome=true:=by kernel_rfl
@[go_sem] theorem plainIface_144:aD Tryz.prog 144=true:=by kernel_rfl
@[go_sem] theorem zeroT_144:bp Tryz.prog 144=some [.d .gY]:=by kernel_rfl
@[go_sem] theorem zeroV_144:zeroV Tryz.prog 144=some (.d .gY):=by kernel_rfl
@[go_sem] theorem zeroD_144:bI Tryz.prog 144=some .gY:=by kernel_rfl
@[go_sem] theorem cellsOf_145:Tryz.prog.cellsOf 145=1:=by kernel_rfl
@[go_sem] theorem bytesOf_145:Tryz.prog.bytesOf 145=8:=by kernel_rfl
@[go_sem] theorem sliceT_145:aV Tryz.prog 145=none:=by kernel_rfl
@[go_sem] theorem arrT_145:cH Tryz.prog 145=none:=by kernel_rfl
@[go_sem] theorem aggT_145:cj Tryz.prog 145=some false:=by kernel_rfl
@[go_sem] theorem intT_145:cM Tryz.prog 145=none:=by kernel_rfl
@[go_sem] theorem isBoolT_145:aS Tryz.prog 145=false:=by kernel_rfl
@[go_sem] theorem infoT_145:(Tryz.prog.info? 145).isSome=true:=by kernel_rfl
@[go_sem] theorem plainIface_145:aD Tryz.prog 145=true:=by kernel_rfl
@[go_sem] theorem undT_145:Tryz.prog.underlying 145=some (.map 3 3):=by kernel_rfl
@[go_sem] theorem mapT_145:oC Tryz.prog 145=some (3,3):=by kernel_rfl
@[go_sem] theorem zeroT_145:bp Tryz.prog 145=some [.d .dk]:=by kernel_rfl
@[go_sem] theorem zeroV_145:zeroV Tryz.prog 145=some (.d .dk):=by kernel_rfl
@[go_sem] theorem zeroD_145:bI Tryz.prog 145=some .dk:=by kernel_rfl
@[go_sem] theorem cellsOf_147:Tryz.prog.cellsOf 147=2:=by kernel_rfl
@[go_sem] theorem bytesOf_147:Tryz.prog.bytesOf 147=16:=by kernel_rfl
@[go_sem] theorem sliceT_147:aV Tryz.prog 147=none:=by kernel_rfl
@[go_sem] theorem arrT_147:cH Tryz.prog 147=none:=by kernel_rfl
@[go_sem] theorem aggT_147:cj Tryz.prog 147=some true:=by kernel_rfl
@[go_sem] theorem intT_147:cM Tryz.prog 147=none:=by kernel_rfl
@[go_sem] theorem isBoolT_147:aS Tryz.prog 147=false:=by kernel_rfl
@[go_sem] theorem infoT_147:(Tryz.prog.info? 147).isSome=true:=by kernel_rfl
@[go_sem] theorem plainIface_147:aD Tryz.prog 147=true:=by kernel_rfl
@[go_sem] theorem zeroT_147:bp Tryz.prog 147=some [.d (.int .i64 0), .d .dk]:=by kernel_rfl
@[go_sem] theorem zeroV_147:zeroV Tryz.prog 147=some (fC [.d (.int .i64 0), .d .dk]):=by kernel_rfl
@[go_sem] theorem zeroD_147:bI Tryz.prog 147=some (.agg [(.int .i64 0), .dk]):=by kernel_rfl
@[go_sem] theorem placesT_147:dF Tryz.prog 147=some [(0,1),(1,1)]:=by kernel_rfl
@[go_sem] theorem cellsOf_149:Tryz.prog.cellsOf 149=2:=by kernel_rfl
@[go_sem] theorem bytesOf_149:Tryz.prog.bytesOf 149=16:=by kernel_rfl
@[go_sem] theorem sliceT_149:aV Tryz.prog 149=none:=by kernel_rfl
@[go_sem] theorem arrT_149:cH Tryz.prog 149=none:=by kernel_rfl
@[go_sem] theorem aggT_149:cj Tryz.prog 149=some true:=by kernel_rfl
@[go_sem] theorem intT_149:cM Tryz.prog 149=none:=by kernel_rfl
@[go_sem] theorem isBoolT_149:aS Tryz.prog 149=false:=by kernel_rfl
@[go_sem] theorem infoT_149:(Tryz.prog.info? 149).isSome=true:=by kernel_rfl
@[go_sem] theorem plainIface_149:aD Tryz.prog 149=true:=by kernel_rfl
@[go_sem] theorem zeroT_149:bp Tryz.prog 149=some [.d .gY, .d .dk]:=by kernel_rfl
@[go_sem] theorem zeroV_149:zeroV Tryz.prog 149=some (fC [.d .gY, .d .dk]):=by kernel_rfl
@[go_sem] theorem zeroD_149:bI Tryz.prog 149=some (.agg [.gY, .dk]):=by kernel_rfl
@[go_sem] theorem placesT_149:dF Tryz.prog 149=some [(0,1),(1,1)]:=by kernel_rfl
@[go_sem] theorem cellsOf_153:Tryz.prog.cellsOf 153=2:=by kernel_rfl
@[go_sem] theorem bytesOf_153:Tryz.prog.bytesOf 153=16:=by kernel_rfl
@[go_sem] theorem sliceT_153:aV Tryz.prog 153=none:=by kernel_rfl
@[go_sem] theorem arrT_153:cH Tryz.prog 153=some (2,3):=by kernel_rfl
@[go_sem] theorem aggT_153:cj Tryz.prog 153=some true:=by kernel_rfl
@[go_sem] theorem intT_153:cM Tryz.prog 153=none:=by kernel_rfl
@[go_sem] theorem isBoolT_153:aS Tryz.prog 153=false:=by kernel_rfl
@[go_sem] theorem infoT_153:(Tryz.prog.info? 153).isSome=true:=by kernel_rfl
@[go_sem] theorem plainIface_153:aD Tryz.prog 153=true:=by kernel_rfl
@[go_sem] theorem undT_153:Tryz.prog.underlying 153=some (.array 2 3):=by kernel_rfl
@[go_sem] theorem zeroT_153:bp Tryz.prog 153=some [.d (.int .i64 0), .d (.int .i64 0)]:=by kernel_rfl
@[go_sem] theorem zeroV_153:zeroV Tryz.prog 153=some (fC [.d (.int .i64 0), .d (.int .i64 0)]):=by kernel_rfl
@[go_sem] theorem zeroD_153:bI Tryz.prog 153=some (.agg [(.int .i64 0),(.int .i64 0)]):=by kernel_rfl
@[go_sem] theorem placesT_153:dF Tryz.prog 153=some [(0,1),(1,1)]:=by kernel_rfl
@[go_sem] theorem cellsOf_154:Tryz.prog.cellsOf 154=1:=by kernel_rfl
@[go_sem] theorem bytesOf_154:Tryz.prog.bytesOf 154=8:=by kernel_rfl
@[go_sem] theorem sliceT_154:aV Tryz.prog 154=none:=by kernel_rfl
@[go_sem] theorem arrT_154:cH Tryz.prog 154=none:=by kernel_rfl
@[go_sem] theorem aggT_154:cj Tryz.prog 154=some false:=by kernel_rfl
@[go_sem] theorem intT_154:cM Tryz.prog 154=none:=by kernel_rfl
@[go_sem] theorem isBoolT_154:aS Tryz.prog 154=false:=by kernel_rfl
@[go_sem] theorem infoT_154:(Tryz.prog.info? 154).isSome=true:=by kernel_rfl
@[go_sem] theorem plainIface_154:aD Tryz.prog 154=true:=by kernel_rfl
@[go_sem] theorem zeroT_154:bp Tryz.prog 154=some [.d .a7]:=by kernel_rfl
@[go_sem] theorem zeroV_154:zeroV Tryz.prog 154=some (.d .a7):=by kernel_rfl
@[go_sem] theorem zeroD_154:bI Tryz.prog 154=some .a7:=by kernel_rfl
@[go_sem] theorem cellsOf_160:Tryz.prog.cellsOf 160=1:=by kernel_rfl
@[go_sem] theorem bytesOf_160:Tryz.prog.bytesOf 160=8:=by kernel_rfl
@[go_sem] theorem sliceT_160:aV Tryz.prog 160=none:=by kernel_rfl
@[go_sem] theorem arrT_160:cH Tryz.prog 160=none:=by kernel_rfl
@[go_sem] theorem aggT_160:cj Tryz.prog 160=some false:=by kernel_rfl
@[go_sem] theorem intT_160:cM Tryz.prog 160=some .i64:=by kernel_rfl
@[go_sem] theorem isBoolT_160:aS Tryz.prog 160=false:=by kernel_rfl
@[go_sem] theorem infoT_160:(Tryz.prog.info? 160).isSome=true:=by kernel_rfl
@[go_sem] theorem plainIface_160:aD Tryz.prog 160=true:=by kernel_rfl
@[go_sem] theorem undT_160:Tryz.prog.underlying 160=some (.int .i64):=by kernel_rfl
@[go_sem] theorem eqShape_160:bg Tryz.prog 160=some .int:=by kernel_rfl
@[go_sem] theorem zeroT_160:bp Tryz.prog 160=some [.d (.int .i64 0)]:=by kernel_rfl
@[go_sem] theorem zeroV_160:zeroV Tryz.prog 160=some (.d (.int .i64 0)):=by kernel_rfl
@[go_sem] theorem zeroD_160:bI Tryz.prog 160=some (.int .i64 0):=by kernel_rfl
@[go_sem] theorem cellsOf_168:Tryz.prog.cellsOf 168=1:=by kernel_rfl
@[go_sem] theorem bytesOf_168:Tryz.prog.bytesOf 168=4:=by kernel_rfl
@[go_sem] theorem sliceT_168:aV Tryz.prog 168=none:=by kernel_rfl
@[go_sem] theorem arrT_168:cH Tryz.prog 168=none:=by kernel_rfl
@[go_sem] theorem aggT_168:cj Tryz.prog 168=some false:=by kernel_rfl
@[go_sem] theorem intT_168:cM Tryz.prog 168=some .u32:=by kernel_rfl
@[go_sem] theorem isBoolT_168:aS Tryz.prog 168=false:=by kernel_rfl
@[go_sem] theorem infoT_168:(Tryz.prog.info? 168).isSome=true:=by kernel_rfl
@[go_sem] theorem plainIface_168:aD Tryz.prog 168=true:=by kernel_rfl
@[go_sem] theorem undT_168:Tryz.prog.underlying 168=some (.int .u32):=by kernel_rfl
@[go_sem] theorem eqShape_168:bg Tryz.prog 168=some .int:=by kernel_rfl
@[go_sem] theorem zeroT_168:bp Tryz.prog 168=some [.d (.int .u32 0)]:=by kernel_rfl
@[go_sem] theorem zeroV_168:zeroV Tryz.prog 168=some (.d (.int .u32 0)):=by kernel_rfl
@[go_sem] theorem zeroD_168:bI Tryz.prog 168=some (.int .u32 0):=by kernel_rfl
@[go_sem] theorem cellsOf_170:Tryz.prog.cellsOf 170=1:=by kernel_rfl
@[go_sem] theorem bytesOf_170:Tryz.prog.bytesOf 170=8:=by kernel_rfl
@[go_sem] theorem sliceT_170:aV Tryz.prog 170=none:=by kernel_rfl
@[go_sem] theorem arrT_170:cH Tryz.prog 170=none:=by kernel_rfl
@[go_sem] theorem aggT_170:cj Tryz.prog 170=some false:=by kernel_rfl
@[go_sem] theorem intT_170:cM Tryz.prog 170=some .u64:=by kernel_rfl
@[go_sem] theorem isBoolT_170:aS Tryz.prog 170=false:=by kernel_rfl
@[go_sem] theorem infoT_170:(Tryz.prog.info? 170).isSome=true:=by kernel_rfl
@[go_sem] theorem plainIface_170:aD Tryz.prog 170=true:=by kernel_rfl
@[go_sem] theorem undT_170:Tryz.prog.underlying 170=some (.int .u64):=by kernel_rfl
@[go_sem] theorem eqShape_170:bg Tryz.prog 170=some .int:=by kernel_rfl
@[go_sem] theorem zeroT_170:bp Tryz.prog 170=some [.d (.int .u64 0)]:=by kernel_rfl
@[go_sem] theorem zeroV_170:zeroV Tryz.prog 170=some (.d (.int .u64 0)):=by kernel_rfl
@[go_sem] theorem zeroD_170:bI Tryz.prog 170=some (.int .u64 0):=by kernel_rfl
@[go_sem] theorem cellsOf_172:Tryz.prog.cellsOf 172=1:=by kernel_rfl
@[go_sem] theorem bytesOf_172:Tryz.prog.bytesOf 172=8:=by kernel_rfl
@[go_sem] theorem sliceT_172:aV Tryz.prog 172=none:=by kernel_rfl
@[go_sem] theorem arrT_172:cH Tryz.prog 172=none:=by kernel_rfl
@[go_sem] theorem aggT_172:cj Tryz.prog 172=some false:=by kernel_rfl
@[go_sem] theorem intT_172:cM Tryz.prog 172=some .u64:=by kernel_rfl
@[go_sem] theorem isBoolT_172:aS Tryz.prog 172=false:=by kernel_rfl
@[go_sem] theorem infoT_172:(Tryz.prog.info? 172).isSome=true:=by kernel_rfl
@[go_sem] theorem plainIface_172:aD Tryz.prog 172=true:=by kernel_rfl
@[go_sem] theorem undT_172:Tryz.prog.underlying 172=some (.int .u64):=by kernel_rfl
@[go_sem] theorem eqShape_172:bg Tryz.prog 172=some .int:=by kernel_rfl
@[go_sem] theorem zeroT_172:bp Tryz.prog 172=some [.d (.int .u64 0)]:=by kernel_rfl
@[go_sem] theorem zeroV_172:zeroV Tryz.prog 172=some (.d (.int .u64 0)):=by kernel_rfl
@[go_sem] theorem zeroD_172:bI Tryz.prog 172=some (.int .u64 0):=by kernel_rfl
@[go_sem] theorem fieldT_24_0:cB Tryz.prog 24 0=some 0:=by kernel_rfl
@[go_sem] theorem fieldT_24_1:cB Tryz.prog 24 1=some 1:=by kernel_rfl
@[go_sem] theorem fieldT_28_0:cB Tryz.prog 28 0=some 0:=by kernel_rfl
@[go_sem] theorem fieldT_28_1:cB Tryz.prog 28 1=some 1:=by kernel_rfl
@[go_sem] theorem fieldT_28_2:cB Tryz.prog 28 2=some 2:=by kernel_rfl
@[go_sem] theorem fieldT_52_0:cB Tryz.prog 52 0=some 0:=by kernel_rfl
@[go_sem] theorem fieldT_52_1:cB Tryz.prog 52 1=some 1:=by kernel_rfl
@[go_sem] theorem fieldT_98_0:cB Tryz.prog 98 0=some 0:=by kernel_rfl
@[go_sem] theorem fieldT_98_1:cB Tryz.prog 98 1=some 1:=by kernel_rfl
@[go_sem] theorem fieldT_98_2:cB Tryz.prog 98 2=some 2:=by kernel_rfl
@[go_sem] theorem fieldT_103_0:cB Tryz.prog 103 0=some 0:=by kernel_rfl
@[go_sem] theorem fieldT_103_1:cB Tryz.prog 103 1=some 1:=by kernel_rfl
@[go_sem] theorem fieldT_123_0:cB Tryz.prog 123 0=some 0:=by kernel_rfl
@[go_sem] theorem fieldT_132_0:cB Tryz.prog 132 0=some 0:=by kernel_rfl
@[go_sem] theorem fieldT_132_1:cB Tryz.prog 132 1=some 1:=by kernel_rfl
@[go_sem] theorem fieldT_132_2:cB Tryz.prog 132 2=some 2:=by kernel_rfl
@[go_sem] theorem fieldT_147_0:cB Tryz.prog 147 0=some 0:=by kernel_rfl
@[go_sem] theorem fieldT_147_1:cB Tryz.prog 147 1=some 1:=by kernel_rfl
@[go_sem] theorem fieldT_149_0:cB Tryz.prog 149 0=some 0:=by kernel_rfl
@[go_sem] theorem fieldT_149_1:cB Tryz.prog 149 1=some 1:=by kernel_rfl
end Go.Proofs.YtealblliddhgiaaGreat
namespace Go.Proofs.YtealblliddhgiaaGreat
def DZ(so:Nat->ae)(c:Nat)(ty:TypeId)(sz:Nat)(es:List D)(x:V):Prop:=
 (x= .bn/\es=[]/\0<sz)\/∃id ep,c<=id/\x= .osl id ep/\so id= .arr ep ty sz es
def HN(c:Nat)(x:V)(env:Nat->V):List V->Nat->Prop
 |[],_=>True
 |v::l,i=>(v= .ab\/(v=env i/\∀r∈v.refs,r<c)\/(v= .osl c 0/\env i=x))/\HN c x env l (i+1)
theorem AL{c:Nat}{x:V}{env:Nat->V}:∀ (l:List V) (i:Nat),HN c x env l i->∀j,bw l j= .ab\/(bw l j=env (i+j)/\∀r∈(bw l j).refs,r<c)\/(bw l j= .osl c 0/\env (i+j)=x)
 |[],i,_,j=>by rw[jK];exact .inl rfl
 |v::l,i,h,0=>by rw[jt];exact h.1
 |v::l,i,h,j+1=>by
  rw[il]
  have:=AL l (i+1) h.2 j
  rwa [show i+1+j=i+(j+1) by omega]at this
def qN(φ:Place)(c:Nat)(x:V):Place:=fun id=>if id=c then(match x with| .osl id _=>φ id|_=> .slice none 0 0)else φ id
theorem bW.grow {b:Nat}{e:Nat->V}{so:Nat->ae}{m:Nat}(l:List V){o:Nat->ae}{c:Nat}{ty:TypeId}{sz:Nat}{es:List D}(x:V)(hb:b<=c)(Vy:c<=m)(hg:Good o c)(ho:∀id,id<c->so id=o id)(hx:DZ so c ty sz es x)(he:HN c x e l 0):
 bW b ⟨e,so,m⟩ ⟨bw l,ak o c (.arr 0 ty sz es),c+1⟩:=by
 intro M φ w tm hH hd
 let aC:Place:=qN φ c x
 let o':Nat->ae:=ak o c (.arr 0 ty sz es)
 let H':Hp:=hp o' (c+1)
 let H:Hp:=⟨so,fun id=>id<m⟩
 have rL:o' c= .arr 0 ty sz es:=aa _ _ _
 have Ge:∀id,id<c->o' id=o id:=fun id ax=>ad _ _ _ _ (by omega)
 have Pa:∀id,c<id->o' id= .no:=fun id ax=>by rw[show o' id=o id from ad _ _ _ _ (by omega)];exact hg.fresh id (by omega)
 have mc:∀id,id<c->aC id=φ id:=fun id ax=>if_neg (by omega)
 have CK:x= .bn->aC c= .slice none 0 0:=fun h=>by simp only[aC,qN,h,if_pos]
 have CL:∀id ep,x= .osl id ep->aC c=φ id:=fun id ep h=>by simp only[aC,qN,if_pos,h]
 have hold:∀id k,(o' id).live=true->dN (aC id)=some k->∃j,(so j).live=true/\dN (φ j)=some k/\((id<c/\j=id)\/(id=c/\c<=j)):=by
  intro id k h1 h2
  rcases Nat.lt_trichotomy id c with bC|heq|ck
  ·rw[Ge id bC]at h1;rw[mc id bC]at h2
   exact⟨id,by rw[ho id bC];exact h1,h2, .inl ⟨bC,rfl⟩⟩
  ·subst heq
   rcases hx with⟨rfl,_,_⟩|⟨j,ep,hj,rfl,kS⟩
   ·rw[CK rfl]at h2;cases h2
   ·rw[CL j ep rfl]at h2
    exact⟨j,by rw[kS];rfl,h2, .inr ⟨rfl,hj⟩⟩
  ·rw[Pa id ck]at h1;cases h1
 have bP:∀k,bT aC H' k->bT φ H k:=by
  rintro k ⟨id,h1,h2⟩
  obtain⟨j,g1,g2,_⟩:=hold id k h1 h2
  exact⟨j,g1,g2⟩
 have hB:∀k, ¬ao M φ H k-> ¬ao M aC H' k:=fun k h h'=>h (h'.imp id (bP k))
 have mz:∀id,id<c->H'.o id=H.o id/\aC id=φ id/\H'.us id:=fun id ax=>⟨(Ge id ax).trans (ho id ax).symm,mc id ax,(by show id<c+1;omega)⟩
 have dx:∀ (v:V) (val:Value),(∀r∈v.refs,r<c)->V.den (ao M φ H) φ H w v val->V.den (ao M aC H') aC H' w v val:=fun v val hr h=>
  V.lq (H:=H) (H':=H') hB v val (fun id ax=>mz id (hr id ax)) h
 have kj:∀ (v:List V) (val:List Value),(∀r∈V.ag v,r<c)->V.aE (ao M φ H) φ H w v val->V.aE (ao M aC H') aC H' w v val:=fun v val hr h=>
  V.fi (H:=H) (H':=H') hB v val (fun id ax=>mz id (hr id ax)) h
 refine⟨aC,⟨fun id=> ?_,fun id hu=>Pa id (by have: ¬id<c+1:=hu;omega),fun i j k h1 h2 h3 h4=> ?_,fun k hk=>hH.ours k (bP k hk),hH.u5⟩,fun i=> ?_,bP,by show b<=c+1;omega,fun id ax hr=> ?_,fun id e' ax fw=> ?_⟩
 ·have aM:=hH.ok id
  have hrefs:=hg.refs id
  show aK M aC H' w id
  unfold aK at aM|-
  rcases Nat.lt_trichotomy id c with bC|heq|ck
  ·have e1:(S.H ⟨e,so,m⟩).o id=o id:=ho id bC
   rw[e1]at aM
   have e2:H'.o id=o id:=Ge id bC
   rw[e2,mc id bC]
   cases nR:o id with
   |no=>trivial
   |row cs=>
    simp only[nR]at aM hrefs|-
    obtain⟨b,cR,ty,k1,k2,k3,k4⟩:=aM
    exact⟨b,cR,ty,k1,k2,kj _ _ hrefs k3,k4⟩
   |arr ep ty sz es=>
    simp only[nR]at aM|-
    obtain⟨k1,xs,k2,evs,k3,k4,k5⟩:=aM
    exact⟨k1,xs,k2,evs,k3,k4,D.aI (fun b _ hn=>⟨rfl,hB b hn⟩) _ _ k5⟩
   |ph ep es=>
    simp only[nR]at aM|-
    exact D.aF (fun b _ hn=>⟨rfl,hB b hn⟩) _ _ aM
   |map kt vt es=>
    simp only[nR]at aM|-
    obtain⟨b,es',clock,k1,k2,k4,k3⟩:=aM
    exact⟨b,es',clock,k1,k2,k4,aH.mono (fun b _ hn=>⟨rfl,hB b hn⟩) _ _ k3⟩
   |fq l=>
    simp only[nR]at aM|-
    exact D.aF (fun b _ hn=>⟨rfl,hB b hn⟩) _ _ aM
   |kW l last=>
    simp only[nR]at aM|-
    obtain⟨b,k1,k2⟩:=aM
    exact⟨b,k1,k2.mono (fun b _ hn=>⟨rfl,hB b hn⟩) rfl⟩
   |sY s pos=>
    simp only[nR]at aM|-
    exact aM
   |loop nf n env ps a b st pd=>
    simp only[nR]at aM hrefs|-
    obtain⟨b,r,k1,k2,k3,k4,k5,k6,k7,k8,k9,Hk⟩:=aM
    exact⟨b,r,k1,k2,k3,k4,k5,k6,k7,k8,k9,fun i=>dx _ _ (fun r hr=>hrefs r (V.lx _ _ r hr)) (Hk i)⟩
  ·subst heq
   have e2:H'.o id= .arr 0 ty sz es:=rL
   rw[e2]
   rcases hx with⟨rfl,rfl,eg⟩|⟨j,ep,hj,rfl,kS⟩
   ·refine⟨eg,[], ?_,[],by simp,by simp,rfl⟩
    rw[CK rfl]
    exact World.ownsRow_nil _ _ _ _
   ·have:=hH.ok j
    unfold aK at this
    simp only[S.H,kS]at this
    obtain⟨k1,xs,k2,evs,k3,k4,k5⟩:=this
    exact⟨k1,xs,by rw[CL j ep rfl];exact k2,evs,k3,k4,D.aI (fun b _ hn=>⟨rfl,hB b hn⟩) _ _ k5⟩
  ·have e2:H'.o id= .no:=Pa id ck
   rw[e2]
   trivial
 ·obtain⟨i',a1,a2,a3⟩:=hold i k h1 h3
  obtain⟨j',b1,b2,b3⟩:=hold j k h2 h4
  have:=hH.apart i' j' k a1 b1 a2 b2
  rcases a3 with⟨a3,a4⟩|⟨a3,a4⟩<;>rcases b3 with⟨b3,b4⟩|⟨b3,b4⟩<;>omega
 ·have hi:=AL l 0 he i
  rw[Nat.zero_add]at hi
  rcases hi with h|⟨h1,h2⟩|⟨h1,h2⟩
  ·show V.den _ _ _ _ (bw l i) _
   rw[h];trivial
  ·have:=hd i
   simp only at this
   rw[<- h1]at this
   exact dx _ _ h2 this
  ·have:=hd i
   simp only at this
   rw[h2]at this
   show V.den _ _ _ _ (bw l i) _
   rw[h1]
   rcases hx with⟨rfl,rfl,eg⟩|⟨j,ep,hj,rfl,kS⟩
   ·simp only[V.den]at this
    rw[this]
    refine⟨rfl,(by show c<c+1;omega),fun e' fw=> ?_⟩
    have fw:(H'.o c).ba=some e':=fw
    have this:H'.o c= .arr 0 ty sz []:=rL
    rw[this]at fw
    simp only[ae.ba,Option.some.injEq]at fw
    subst fw
    exact⟨Nat.le_refl _,fun _=>(CK rfl).symm⟩
   ·obtain⟨g1,g2,g3⟩:=this
    refine⟨g1,(by show c<c+1;omega),fun e' fw=> ?_⟩
    have fw:(H'.o c).ba=some e':=fw
    have this:H'.o c= .arr 0 ty sz es:=rL
    rw[this]at fw
    simp only[ae.ba,Option.some.injEq]at fw
    subst fw
    have te:((S.H ⟨e,so,m⟩).o j).ba=some ep:=by simp only[S.H,kS,ae.ba]
    exact⟨Nat.le_refl _,fun _=>by rw[CL j ep rfl];exact(g3 ep te).2 rfl⟩
 ·have bC:id<c:=by omega
  exact⟨by show(so id).bM=true;rw[ho id bC, <- Ge id bC];exact hr,mc id bC⟩
 ·have bC:id<c:=by omega
  exact⟨e',by show(so id).ba=some e';rw[ho id bC, <- Ge id bC];exact fw,Nat.le_refl _,fun _=>mc id bC⟩
end Go.Proofs.YtealblliddhgiaaGreat
