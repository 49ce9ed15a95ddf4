/-
  A PART OF THE PROOF. Conditions: none.
-/
import Derived.Test.YtpkobkdgcanmjaaGreatLo12
set_option linter.unusedSimpArgs false
set_option linter.unusedVariables false
namespace Go.Proofs.YtpkobkdgcanmjaaGreat
theorem mix:Tryz.prog.follows .mixedOrders=true:=by kernel_rfl
def Mp:Tr FD:=
 (.n .no (.n .no (.n (.fn 177 c3 [.tmp 6]) (.n (.fn 6 c7 [.tmp 2]) (.n (.fn 5 Rd [.tmp 2]) (.n (.fn 11 Rs [.cell 6 54]) (.n (.fn 28 RP [.tmp 2]) (.n (.fn 31 J0 []) (.e fun _=> .no) (.e fun _=> .no)) (.n (.fn 14 Mh [.tmp 4]) (.e fun _=> .no) (.e fun _=> .no))) (.n (.fn 15 Qh [.tmp 6]) (.n (.fn 9 Ld [.cell 4 117]) (.e fun _=> .no) (.e fun _=> .no)) (.e fun _=> .no))) (.n (.fn 24 Px [.tmp 4]) (.n (.fn 19 RW [.tmp 2]) (.n (.fn 4 Kz [.tmp 2]) (.e fun _=> .no) (.e fun _=> .no)) (.e fun _=> .no)) (.n (.fn 7 Ju [.tmp 3]) (.n (.fn 27 LK [.tmp 4]) (.e fun _=> .no) (.e fun _=> .no)) (.e fun _=> .no)))) (.n (.fn 8 Rk [.cell 4 28]) (.n (.fn 26 Rz [.tmp 4]) (.n (.fn 35 PV [.tmp 2]) (.n (.fn 43 Ki [.cell 4 4, .cell 5 32]) (.e fun _=> .no) (.e fun _=> .no)) (.e fun _=> .no)) (.n (.fn 2 Jg [.cell 0 134]) (.n (.fn 8 Lt [.tmp 3]) (.e fun _=> .no) (.e fun _=> .no)) (.e fun _=> .no))) (.n (.fn 5 RI [.cell 2 28]) (.n (.fn 24 P9 [.tmp 3]) (.n (.fn 84 KU [.tmp 8]) (.e fun _=> .no) (.e fun _=> .no)) (.e fun _=> .no)) (.n (.fn 22 JK []) (.n (.fn 33 L1 [.tmp 2]) (.e fun _=> .no) (.e fun _=> .no)) (.e fun _=> .no))))) (.n (.fn 32 OT [.cell 6 28, .tmp 7]) (.n (.fn 46 O1 [.tmp 4]) (.n (.fn 37 Pk [.tmp 6]) (.n (.fn 7 PR [.tmp 3]) (.n (.fn 98 J8 []) (.e fun _=> .no) (.e fun _=> .no)) (.e fun _=> .no)) (.n (.fn 11 R6 []) (.n (.fn 31 Ll [.cell 8 28, .cell 9 28]) (.e fun _=> .no) (.e fun _=> .no)) (.e fun _=> .no))) (.n (.fn 8 RE [.cell 4 28]) (.n (.fn 8 RZ []) (.n (.fn 57 KK [.tmp 6, .tmp 7]) (.e fun _=> .no) (.e fun _=> .no)) (.e fun _=> .no)) (.n (.fn 8 JC [.tmp 2]) (.n (.fn 17 LS [.tmp 6]) (.e fun _=> .no) (.e fun _=> .no)) (.e fun _=> .no)))) (.n (.fn 30 Ro [.cell 0 54]) (.n (.fn 87 Pt [.cell 4 28, .tmp 5]) (.n (.fn 9 RT [.tmp 4]) (.n (.fn 18 Kq [.tmp 2]) (.e fun _=> .no) (.e fun _=> .no)) (.e fun _=> .no)) (.n (.fn 9 Jo [.tmp 4]) (.n (.fn 14 LB [.tmp 4]) (.e fun _=> .no) (.e fun _=> .no)) (.e fun _=> .no))) (.n (.fn 15 PI [.tmp 6]) (.n (.fn 9 Qd [.tmp 4]) (.n (.fn 24 K5 [.tmp 4]) (.e fun _=> .no) (.e fun _=> .no)) (.e fun _=> .no)) (.n (.fn 10 JS []) (.n (.fn 26 L9 []) (.e fun _=> .no) (.e fun _=> .no)) (.e fun _=> .no)))))) (.n (.fn 244 c5 [.tmp 0]) (.n (.fn 18 c9 [.tmp 4, .tmp 5, .tmp 6]) (.n (.fn 49 Rf [.tmp 4]) (.n (.fn 3 Ru [.cell 0 54]) (.n (.fn 46 PO [.tmp 2]) (.n (.fn 34 J4 []) (.e fun _=> .no) (.e fun _=> .no)) (.n (.fn 28 Ml [.tmp 8, .tmp 9]) (.e fun _=> .no) (.e fun _=> .no))) (.n (.fn 13 R4 [.tmp 4]) (.n (.fn 39 Lh []) (.e fun _=> .no) (.e fun _=> .no)) (.e fun _=> .no))) (.n (.fn 8 RC [.cell 4 28]) (.n (.fn 8 Nl [.tmp 2]) (.n (.fn 56 KG []) (.e fun _=> .no) (.e fun _=> .no)) (.e fun _=> .no)) (.n (.fn 45 Jy []) (.n (.fn 14 LO [.tmp 4]) (.e fun _=> .no) (.e fun _=> .no)) (.e fun _=> .no)))) (.n (.fn 5 Rm [.cell 2 28]) (.n (.fn 33 RA [.tmp 2]) (.n (.fn 13 RR [.tmp 4]) (.n (.fn 10 Km [.tmp 4]) (.e fun _=> .no) (.e fun _=> .no)) (.e fun _=> .no)) (.n (.fn 8 Jk [.tmp 3]) (.n (.fn 9 Lx [.tmp 4]) (.e fun _=> .no) (.e fun _=> .no)) (.e fun _=> .no))) (.n (.fn 6 RK [.tmp 2]) (.n (.fn 15 Qb [.tmp 6]) (.n (.fn 19 K0 [.tmp 2]) (.e fun _=> .no) (.e fun _=> .no)) (.e fun _=> .no)) (.n (.fn 14 JO []) (.n (.fn 36 L5 [.tmp 10]) (.e fun _=> .no) (.e fun _=> .no)) (.e fun _=> .no))))) (.n (.fn 13 OV [.tmp 4]) (.n (.fn 8 Ri [.cell 4 28]) (.n (.fn 31 Rx [.cell 2 54]) (.n (.fn 32 PT [.tmp 6]) (.n (.fn 8 Kd [.tmp 3]) (.e fun _=> .no) (.e fun _=> .no)) (.e fun _=> .no)) (.n (.fn 8 Jc [.tmp 3]) (.n (.fn 28 Lp [.cell 4 28]) (.e fun _=> .no) (.e fun _=> .no)) (.e fun _=> .no))) (.n (.OH 16 IK RG 77 9 [.tmp 8] [.cell 8 4] 10 4 4 Q8) (.n (.fn 9 R1 [.tmp 4]) (.n (.fn 133 KO [.tmp 6]) (.e fun _=> .no) (.e fun _=> .no)) (.e fun _=> .no)) (.n (.fn 17 JG []) (.n (.fn 76 LX []) (.e fun _=> .no) (.e fun _=> .no)) (.e fun _=> .no)))) (.n (.fn 30 Rq [.cell 8 28, .tmp 9]) (.n (.fn 15 Pv [.tmp 6]) (.n .no (.n (.fn 19 Kv [.tmp 4]) (.e fun _=> .no) (.e fun _=> .no)) (.e fun _=> .no)) (.n (.fn 19 Fa [.tmp 4]) (.n (.fn 27 LG [.tmp 4]) (.e fun _=> .no) (.e fun _=> .no)) (.e fun _=> .no))) (.n (.fn 24 PK [.tmp 2]) (.n (.fn 92 Qf [.tmp 4]) (.n (.fn 38 K9 [.cell 4 28]) (.e fun _=> .no) (.e fun _=> .no)) (.e fun _=> .no)) (.n (.fn 71 JW []) (.n (.fn 5 Md [.cell 2 28]) (.e fun _=> .no) (.e fun _=> .no)) (.e fun _=> .no))))))) (.n .no (.n (.fn 211 c4 [.tmp 8]) (.n (.fn 161 c8 [.tmp 0]) (.n (.fn 9 Re [.tmp 2]) (.n (.fn 14 Rt [.cell 8 54]) (.n (.fn 4 RQ [.tmp 2]) (.n (.fn 31 J2 []) (.e fun _=> .no) (.e fun _=> .no)) (.n (.fn 19 Mj [.tmp 4]) (.e fun _=> .no) (.e fun _=> .no))) (.n (.fn 7 R3 [.tmp 3]) (.n (.fn 15 Lf [.tmp 4]) (.e fun _=> .no) (.e fun _=> .no)) (.e fun _=> .no))) (.n (.fn 25 RB [.tmp 4]) (.n (.fn 46 RX [.tmp 4]) (.n (.fn 49 KC []) (.e fun _=> .no) (.e fun _=> .no)) (.e fun _=> .no)) (.n (.fn 39 Jw [.cell 4 4]) (.n (.fn 14 LM [.tmp 4]) (.e fun _=> .no) (.e fun _=> .no)) (.e fun _=> .no)))) (.n (.fn 42 Rl [.cell 10 54, .tmp 11]) (.n (.fn 13 Pq [.tmp 4]) (.n (.fn 78 PW [.tmp 4]) (.n (.fn 9 Kk [.tmp 4]) (.e fun _=> .no) (.e fun _=> .no)) (.e fun _=> .no)) (.n (.fn 9 Ji [.tmp 4]) (.n (.fn 4 Lv [.tmp 2]) (.e fun _=> .no) (.e fun _=> .no)) (.e fun _=> .no))) (.n (.fn 7 RJ [.cell 0 54]) (.n (.fn 28 Qa [.tmp 2]) (.n (.fn 168 KY [.tmp 8, .tmp 9]) (.e fun _=> .no) (.e fun _=> .no)) (.e fun _=> .no)) (.n (.fn 14 JM []) (.n (.fn 15 L3 [.tmp 6]) (.e fun _=> .no) (.e fun _=> .no)) (.e fun _=> .no))))) (.n (.fn 48 OU [.tmp 2]) (.n (.fn 76 Rh [.cell 0 47]) (.n (.fn 5 Rw [.cell 0 28]) (.n (.fn 16 PS [.tmp 2]) (.n (.fn 9 Ka [.tmp 4]) (.e fun _=> .no) (.e fun _=> .no)) (.e fun _=> .no)) (.n (.fn 9 Ja [.tmp 4]) (.n (.fn 6 Ln [.cell 2 28]) (.e fun _=> .no) (.e fun _=> .no)) (.e fun _=> .no))) (.n (.fn 41 RF [.tmp 8]) (.n (.fn 17 R0 [.tmp 6]) (.n (.fn 32 KM []) (.e fun _=> .no) (.e fun _=> .no)) (.e fun _=> .no)) (.n (.fn 19 JE [.tmp 4]) (.n (.fn 10 LV [.tmp 4]) (.e fun _=> .no) (.e fun _=> .no)) (.e fun _=> .no)))) (.n (.fn 68 Rp [.cell 6 54, .tmp 7]) (.n (.fn 9 Pu [.tmp 4]) (.n (.fn 8 RU [.tmp 3]) (.n (.fn 52 Ks [.tmp 6]) (.e fun _=> .no) (.e fun _=> .no)) (.e fun _=> .no)) (.n (.fn 8 Jq [.tmp 3]) (.n (.fn 14 LD [.tmp 4]) (.e fun _=> .no) (.e fun _=> .no)) (.e fun _=> .no))) (.n (.fn 41 RM [.cell 4 54]) (.n (.fn 8 Qe [.tmp 3]) (.n (.fn 58 K7 []) (.e fun _=> .no) (.e fun _=> .no)) (.e fun _=> .no)) (.n (.fn 10 JU []) (.n (.fn 9 Mb [.tmp 4]) (.e fun _=> .no) (.e fun _=> .no)) (.e fun _=> .no)))))) (.n (.fn 45 c6 [.tmp 2]) (.n (.fn 17 OS [.tmp 6, .tmp 7]) (.n (.fn 76 Rg [.cell 4 28, .tmp 5]) (.n (.fn 10 Rv [.tmp 2]) (.n (.fn 9 PQ [.tmp 4]) (.n (.fn 58 J6 []) (.e fun _=> .no) (.e fun _=> .no)) (.n (.fn 19 Mn [.tmp 4]) (.e fun _=> .no) (.e fun _=> .no))) (.n (.fn 9 R5 [.tmp 2]) (.n (.fn 4 Lj [.cell 2 28]) (.e fun _=> .no) (.e fun _=> .no)) (.e fun _=> .no))) (.n (.fn 5 RD [.cell 2 28]) (.n (.fn 23 RY [.tmp 2]) (.n (.fn 65 KI []) (.e fun _=> .no) (.e fun _=> .no)) (.e fun _=> .no)) (.n (.fn 134 JA []) (.n (.fn 8 LQ []) (.e fun _=> .no) (.e fun _=> .no)) (.e fun _=> .no)))) (.n (.fn 7 Rn [.cell 0 28]) (.n (.fn 39 Ps [.tmp 4]) (.n (.fn 27 RS [.tmp 4, .tmp 5]) (.n (.fn 27 Ko [.tmp 2]) (.e fun _=> .no) (.e fun _=> .no)) (.e fun _=> .no)) (.n (.fn 121 Jm [.tmp 4]) (.n (.fn 8 Lz [.tmp 2]) (.e fun _=> .no) (.e fun _=> .no)) (.e fun _=> .no))) (.n (.fn 52 RL [.cell 4 4]) (.n (.fn 18 Qc [.tmp 4]) (.n (.fn 25 K3 [.tmp 2]) (.e fun _=> .no) (.e fun _=> .no)) (.e fun _=> .no)) (.n (.fn 116 JQ []) (.n (.fn 6 L7 [.tmp 2]) (.e fun _=> .no) (.e fun _=> .no)) (.e fun _=> .no))))) (.n (.fn 6 Rc [.tmp 2]) (.n (.fn 2 Rj [.cell 0 28]) (.n (.fn 35 Ry [.tmp 4, .tmp 5, .tmp 6]) (.n (.fn 33 PU [.tmp 8]) (.n (.fn 17 Kg [.tmp 3]) (.e fun _=> .no) (.e fun _=> .no)) (.e fun _=> .no)) (.n (.fn 6 Je []) (.n (.fn 19 Lr [.tmp 4]) (.e fun _=> .no) (.e fun _=> .no)) (.e fun _=> .no))) (.n (.fn 115 RH [.cell 4 54]) (.n (.fn 10 R2 [.tmp 4]) (.n (.fn 17 KR [.tmp 4]) (.e fun _=> .no) (.e fun _=> .no)) (.e fun _=> .no)) (.n (.fn 27 JI []) (.n (.fn 7 LZ [.tmp 2]) (.e fun _=> .no) (.e fun _=> .no)) (.e fun _=> .no)))) (.n (.fn 11 Rr [.cell 6 28]) (.n (.fn 56 Pw [.tmp 4, .tmp 5]) (.n (.fn 18 RV []) (.n (.fn 19 Kx [.cell 0 153]) (.e fun _=> .no) (.e fun _=> .no)) (.e fun _=> .no)) (.n (.fn 18 Js [.tmp 4]) (.n (.fn 27 LI [.tmp 4]) (.e fun _=> .no) (.e fun _=> .no)) (.e fun _=> .no))) (.n (.fn 37 RN [.tmp 6]) (.n (.fn 12 Qg [.tmp 5]) (.n (.fn 29 Lb []) (.e fun _=> .no) (.e fun _=> .no)) (.e fun _=> .no)) (.n (.fn 26 JY []) (.n (.fn 8 Mf []) (.e fun _=> .no) (.e fun _=> .no)) (.e fun _=> .no))))))))
noncomputable def bu:Nat->FD:=Mp.get
theorem kX:∀g,(bu g).Ok Tryz.prog g:=
 Tr.r9 (p:=fun g d=>d.Ok Tryz.prog g) (f:=fun g=>g) Mp
   ⟨trivial,⟨trivial,⟨Tp,⟨Rb,⟨OX,⟨Pf,⟨PM,⟨J1,(fun _=>trivial),(fun _=>trivial)⟩,⟨Mi,(fun _=>trivial),(fun _=>trivial)⟩⟩,⟨I9,⟨Le,(fun _=>trivial),(fun _=>trivial)⟩,(fun _=>trivial)⟩⟩,⟨IJ,⟨P2,⟨KA,(fun _=>trivial),(fun _=>trivial)⟩,(fun _=>trivial)⟩,⟨Jv,⟨LL,(fun _=>trivial),(fun _=>trivial)⟩,(fun _=>trivial)⟩⟩⟩,⟨O5,⟨Pp,⟨IZ,⟨Kj,(fun _=>trivial),(fun _=>trivial)⟩,(fun _=>trivial)⟩,⟨Jh,⟨Lu,(fun _=>trivial),(fun _=>trivial)⟩,(fun _=>trivial)⟩⟩,⟨PE,⟨I1,⟨KW,(fun _=>trivial),(fun _=>trivial)⟩,(fun _=>trivial)⟩,⟨JL,⟨L2,(fun _=>trivial),(fun _=>trivial)⟩,(fun _=>trivial)⟩⟩⟩⟩,⟨Iw,⟨Iz,⟨IA,⟨IV,⟨J9,(fun _=>trivial),(fun _=>trivial)⟩,(fun _=>trivial)⟩,⟨Ql,⟨Lm,(fun _=>trivial),(fun _=>trivial)⟩,(fun _=>trivial)⟩⟩,⟨PB,⟨P5,⟨KL,(fun _=>trivial),(fun _=>trivial)⟩,(fun _=>trivial)⟩,⟨JD,⟨LU,(fun _=>trivial),(fun _=>trivial)⟩,(fun _=>trivial)⟩⟩⟩,⟨O9,⟨IE,⟨PZ,⟨Kr,(fun _=>trivial),(fun _=>trivial)⟩,(fun _=>trivial)⟩,⟨Jp,⟨LC,(fun _=>trivial),(fun _=>trivial)⟩,(fun _=>trivial)⟩⟩,⟨IM,⟨I5,⟨K6,(fun _=>trivial),(fun _=>trivial)⟩,(fun _=>trivial)⟩,⟨JT,⟨Ma,(fun _=>trivial),(fun _=>trivial)⟩,(fun _=>trivial)⟩⟩⟩⟩⟩,⟨Tq,⟨Tt,⟨OZ,⟨Ph,⟨IQ,⟨J5,(fun _=>trivial),(fun _=>trivial)⟩,⟨Mm,(fun _=>trivial),(fun _=>trivial)⟩⟩,⟨Qj,⟨Li,(fun _=>trivial),(fun _=>trivial)⟩,(fun _=>trivial)⟩⟩,⟨Pz,⟨E9,⟨KH,(fun _=>trivial),(fun _=>trivial)⟩,(fun _=>trivial)⟩,⟨Jz,⟨LP,(fun _=>trivial),(fun _=>trivial)⟩,(fun _=>trivial)⟩⟩⟩,⟨O7,⟨Pr,⟨PX,⟨Kn,(fun _=>trivial),(fun _=>trivial)⟩,(fun _=>trivial)⟩,⟨Jl,⟨Ly,(fun _=>trivial),(fun _=>trivial)⟩,(fun _=>trivial)⟩⟩,⟨PG,⟨I3,⟨K1,(fun _=>trivial),(fun _=>trivial)⟩,(fun _=>trivial)⟩,⟨JP,⟨L6,(fun _=>trivial),(fun _=>trivial)⟩,(fun _=>trivial)⟩⟩⟩⟩,⟨Iy,⟨O3,⟨Pm,⟨IX,⟨Ke,(fun _=>trivial),(fun _=>trivial)⟩,(fun _=>trivial)⟩,⟨Jd,⟨Lq,(fun _=>trivial),(fun _=>trivial)⟩,(fun _=>trivial)⟩⟩,⟨⟨IL,Iu⟩,⟨P7,⟨KQ,(fun _=>trivial),(fun _=>trivial)⟩,(fun _=>trivial)⟩,⟨JH,⟨LY,(fun _=>trivial),(fun _=>trivial)⟩,(fun _=>trivial)⟩⟩⟩,⟨Pb,⟨IG,⟨trivial,⟨Kw,(fun _=>trivial),(fun _=>trivial)⟩,(fun _=>trivial)⟩,⟨Dz,⟨LH,(fun _=>trivial),(fun _=>trivial)⟩,(fun _=>trivial)⟩⟩,⟨IP,⟨I7,⟨La,(fun _=>trivial),(fun _=>trivial)⟩,(fun _=>trivial)⟩,⟨JX,⟨Me,(fun _=>trivial),(fun _=>trivial)⟩,(fun _=>trivial)⟩⟩⟩⟩⟩⟩,⟨trivial,⟨Q9,⟨Ts,⟨OY,⟨Pg,⟨PN,⟨J3,(fun _=>trivial),(fun _=>trivial)⟩,⟨Mk,(fun _=>trivial),(fun _=>trivial)⟩⟩,⟨Qi,⟨Lg,(fun _=>trivial),(fun _=>trivial)⟩,(fun _=>trivial)⟩⟩,⟨Py,⟨P3,⟨KF,(fun _=>trivial),(fun _=>trivial)⟩,(fun _=>trivial)⟩,⟨Jx,⟨LN,(fun _=>trivial),(fun _=>trivial)⟩,(fun _=>trivial)⟩⟩⟩,⟨O6,⟨IB,⟨I0,⟨Kl,(fun _=>trivial),(fun _=>trivial)⟩,(fun _=>trivial)⟩,⟨Jj,⟨Lw,(fun _=>trivial),(fun _=>trivial)⟩,(fun _=>trivial)⟩⟩,⟨PF,⟨I2,⟨KZ,(fun _=>trivial),(fun _=>trivial)⟩,(fun _=>trivial)⟩,⟨JN,⟨L4,(fun _=>trivial),(fun _=>trivial)⟩,(fun _=>trivial)⟩⟩⟩⟩,⟨Ix,⟨O2,⟨Pl,⟨IW,⟨Kc,(fun _=>trivial),(fun _=>trivial)⟩,(fun _=>trivial)⟩,⟨Jb,⟨Lo,(fun _=>trivial),(fun _=>trivial)⟩,(fun _=>trivial)⟩⟩,⟨PC,⟨P6,⟨KN,(fun _=>trivial),(fun _=>trivial)⟩,(fun _=>trivial)⟩,⟨JF,⟨LW,(fun _=>trivial),(fun _=>trivial)⟩,(fun _=>trivial)⟩⟩⟩,⟨Pa,⟨IF,⟨P0,⟨Ku,(fun _=>trivial),(fun _=>trivial)⟩,(fun _=>trivial)⟩,⟨Jr,⟨LF,(fun _=>trivial),(fun _=>trivial)⟩,(fun _=>trivial)⟩⟩,⟨PJ,⟨I6,⟨K8,(fun _=>trivial),(fun _=>trivial)⟩,(fun _=>trivial)⟩,⟨JV,⟨Mc,(fun _=>trivial),(fun _=>trivial)⟩,(fun _=>trivial)⟩⟩⟩⟩⟩,⟨Ra,⟨Iv,⟨O0,⟨Pj,⟨IU,⟨J7,(fun _=>trivial),(fun _=>trivial)⟩,⟨Mo,(fun _=>trivial),(fun _=>trivial)⟩⟩,⟨Qk,⟨Lk,(fun _=>trivial),(fun _=>trivial)⟩,(fun _=>trivial)⟩⟩,⟨PA,⟨P4,⟨KJ,(fun _=>trivial),(fun _=>trivial)⟩,(fun _=>trivial)⟩,⟨JB,⟨LR,(fun _=>trivial),(fun _=>trivial)⟩,(fun _=>trivial)⟩⟩⟩,⟨O8,⟨ID,⟨PY,⟨Kp,(fun _=>trivial),(fun _=>trivial)⟩,(fun _=>trivial)⟩,⟨Jn,⟨LA,(fun _=>trivial),(fun _=>trivial)⟩,(fun _=>trivial)⟩⟩,⟨PH,⟨I4,⟨K4,(fun _=>trivial),(fun _=>trivial)⟩,(fun _=>trivial)⟩,⟨JR,⟨L8,(fun _=>trivial),(fun _=>trivial)⟩,(fun _=>trivial)⟩⟩⟩⟩,⟨OW,⟨O4,⟨Po,⟨IY,⟨Kh,(fun _=>trivial),(fun _=>trivial)⟩,(fun _=>trivial)⟩,⟨Jf,⟨Ls,(fun _=>trivial),(fun _=>trivial)⟩,(fun _=>trivial)⟩⟩,⟨PD,⟨P8,⟨KT,(fun _=>trivial),(fun _=>trivial)⟩,(fun _=>trivial)⟩,⟨JJ,⟨L0,(fun _=>trivial),(fun _=>trivial)⟩,(fun _=>trivial)⟩⟩⟩,⟨Pc,⟨II,⟨P1,⟨Ky,(fun _=>trivial),(fun _=>trivial)⟩,(fun _=>trivial)⟩,⟨Jt,⟨LJ,(fun _=>trivial),(fun _=>trivial)⟩,(fun _=>trivial)⟩⟩,⟨PL,⟨I8,⟨Lc,(fun _=>trivial),(fun _=>trivial)⟩,(fun _=>trivial)⟩,⟨JZ,⟨Mg,(fun _=>trivial),(fun _=>trivial)⟩,(fun _=>trivial)⟩⟩⟩⟩⟩⟩⟩
end Go.Proofs.YtpkobkdgcanmjaaGreat
namespace Go.Proofs.YtpkobkdgcanmjaaGreat
@[go_sem] theorem cellsOf_3:Tryz.prog.cellsOf 3=1:=by kernel_rfl
@[go_sem] theorem bytesOf_3:Tryz.prog.bytesOf 3=8:=by kernel_rfl
@[go_sem] theorem sliceT_3:aE Tryz.prog 3=none:=by kernel_rfl
@[go_sem] theorem arrT_3:bz Tryz.prog 3=none:=by kernel_rfl
@[go_sem] theorem aggT_3:bf Tryz.prog 3=some false:=by kernel_rfl
@[go_sem] theorem intT_3:bF Tryz.prog 3=some .i64:=by kernel_rfl
@[go_sem] theorem isBoolT_3:aB Tryz.prog 3=false:=by kernel_rfl
@[go_sem] theorem infoT_3:(Tryz.prog.info? 3).isSome=true:=by kernel_rfl
@[go_sem] theorem plainIface_3:af Tryz.prog 3=true:=by kernel_rfl
@[go_sem] theorem undT_3:Tryz.prog.underlying 3=some (.int .i64):=by kernel_rfl
@[go_sem] theorem eqShape_3:aU Tryz.prog 3=some .int:=by kernel_rfl
@[go_sem] theorem zeroT_3:aL Tryz.prog 3=some [.d (.int .i64 0)]:=by kernel_rfl
@[go_sem] theorem zeroV_3:zeroV Tryz.prog 3=some (.d (.int .i64 0)):=by kernel_rfl
@[go_sem] theorem zeroD_3:aS Tryz.prog 3=some (.int .i64 0):=by kernel_rfl
@[go_sem] theorem cellsOf_4:Tryz.prog.cellsOf 4=1:=by kernel_rfl
@[go_sem] theorem bytesOf_4:Tryz.prog.bytesOf 4=1:=by kernel_rfl
@[go_sem] theorem sliceT_4:aE Tryz.prog 4=none:=by kernel_rfl
@[go_sem] theorem arrT_4:bz Tryz.prog 4=none:=by kernel_rfl
@[go_sem] theorem aggT_4:bf Tryz.prog 4=some false:=by kernel_rfl
@[go_sem] theorem intT_4:bF Tryz.prog 4=none:=by kernel_rfl
@[go_sem] theorem isBoolT_4:aB Tryz.prog 4=true:=by kernel_rfl
@[go_sem] theorem infoT_4:(Tryz.prog.info? 4).isSome=true:=by kernel_rfl
@[go_sem] theorem plainIface_4:af Tryz.prog 4=true:=by kernel_rfl
@[go_sem] theorem undT_4:Tryz.prog.underlying 4=some .bool:=by kernel_rfl
@[go_sem] theorem eqShape_4:aU Tryz.prog 4=some .bool:=by kernel_rfl
@[go_sem] theorem zeroT_4:aL Tryz.prog 4=some [.d (.bool false)]:=by kernel_rfl
@[go_sem] theorem zeroV_4:zeroV Tryz.prog 4=some (.d (.bool false)):=by kernel_rfl
@[go_sem] theorem zeroD_4:aS Tryz.prog 4=some (.bool false):=by kernel_rfl
@[go_sem] theorem cellsOf_5:Tryz.prog.cellsOf 5=1:=by kernel_rfl
@[go_sem] theorem bytesOf_5:Tryz.prog.bytesOf 5=1:=by kernel_rfl
@[go_sem] theorem sliceT_5:aE Tryz.prog 5=none:=by kernel_rfl
@[go_sem] theorem arrT_5:bz Tryz.prog 5=none:=by kernel_rfl
@[go_sem] theorem aggT_5:bf Tryz.prog 5=some false:=by kernel_rfl
@[go_sem] theorem intT_5:bF Tryz.prog 5=some .u8:=by kernel_rfl
@[go_sem] theorem isBoolT_5:aB Tryz.prog 5=false:=by kernel_rfl
@[go_sem] theorem infoT_5:(Tryz.prog.info? 5).isSome=true:=by kernel_rfl
@[go_sem] theorem plainIface_5:af Tryz.prog 5=true:=by kernel_rfl
@[go_sem] theorem undT_5:Tryz.prog.underlying 5=some (.int .u8):=by kernel_rfl
@[go_sem] theorem eqShape_5:aU Tryz.prog 5=some .int:=by kernel_rfl
@[go_sem] theorem zeroT_5:aL Tryz.prog 5=some [.d (.int .u8 0)]:=by kernel_rfl
@[go_sem] theorem zeroV_5:zeroV Tryz.prog 5=some (.d (.int .u8 0)):=by kernel_rfl
@[go_sem] theorem zeroD_5:aS Tryz.prog 5=some (.int .u8 0):=by kernel_rfl
@[go_sem] theorem cellsOf_9:Tryz.prog.cellsOf 9=1:=by kernel_rfl
@[go_sem] theorem bytesOf_9:Tryz.prog.bytesOf 9=16:=by kernel_rfl
@[go_sem] theorem sliceT_9:aE Tryz.prog 9=none:=by kernel_rfl
@[go_sem] theorem arrT_9:bz Tryz.prog 9=none:=by kernel_rfl
@[go_sem] theorem aggT_9:bf Tryz.prog 9=some false:=by kernel_rfl
@[go_sem] theorem intT_9:bF Tryz.prog 9=none:=by kernel_rfl
@[go_sem] theorem isBoolT_9:aB Tryz.prog 9=false:=by kernel_rfl
@[go_sem] theorem infoT_9:(Tryz.prog.info? 9).isSome=true:=by kernel_rfl
@[go_sem] theorem plainIface_9:af Tryz.prog 9=true:=by kernel_rfl
@[go_sem] theorem undT_9:Tryz.prog.underlying 9=some .string:=by kernel_rfl
@[go_sem] theorem eqShape_9:aU Tryz.prog 9=some .str:=by kernel_rfl
@[go_sem] theorem zeroT_9:aL Tryz.prog 9=some [.d (.str [])]:=by kernel_rfl
@[go_sem] theorem zeroV_9:zeroV Tryz.prog 9=some (.d (.str [])):=by kernel_rfl
@[go_sem] theorem zeroD_9:aS Tryz.prog 9=some (.str []):=by kernel_rfl
@[go_sem] theorem cellsOf_20:Tryz.prog.cellsOf 20=1:=by kernel_rfl
@[go_sem] theorem bytesOf_20:Tryz.prog.bytesOf 20=16:=by kernel_rfl
@[go_sem] theorem sliceT_20:aE Tryz.prog 20=none:=by kernel_rfl
@[go_sem] theorem arrT_20:bz Tryz.prog 20=none:=by kernel_rfl
@[go_sem] theorem aggT_20:bf Tryz.prog 20=some false:=by kernel_rfl
@[go_sem] theorem intT_20:bF Tryz.prog 20=none:=by kernel_rfl
@[go_sem] theorem isBoolT_20:aB Tryz.prog 20=false:=by kernel_rfl
@[go_sem] theorem infoT_20:(Tryz.prog.info? 20).isSome=true:=by kernel_rfl
@[go_sem] theorem plainIface_20:af Tryz.prog 20=false:=by kernel_rfl
@[go_sem] theorem zeroT_20:aL Tryz.prog 20=some [.d .dI]:=by kernel_rfl
@[go_sem] theorem zeroV_20:zeroV Tryz.prog 20=some (.d .dI):=by kernel_rfl
@[go_sem] theorem zeroD_20:aS Tryz.prog 20=some .dI:=by kernel_rfl
@[go_sem] theorem cellsOf_21:Tryz.prog.cellsOf 21=1:=by kernel_rfl
@[go_sem] theorem bytesOf_21:Tryz.prog.bytesOf 21=4:=by kernel_rfl
@[go_sem] theorem sliceT_21:aE Tryz.prog 21=none:=by kernel_rfl
@[go_sem] theorem arrT_21:bz Tryz.prog 21=none:=by kernel_rfl
@[go_sem] theorem aggT_21:bf Tryz.prog 21=some false:=by kernel_rfl
@[go_sem] theorem intT_21:bF Tryz.prog 21=some .i32:=by kernel_rfl
@[go_sem] theorem isBoolT_21:aB Tryz.prog 21=false:=by kernel_rfl
@[go_sem] theorem infoT_21:(Tryz.prog.info? 21).isSome=true:=by kernel_rfl
@[go_sem] theorem plainIface_21:af Tryz.prog 21=true:=by kernel_rfl
@[go_sem] theorem undT_21:Tryz.prog.underlying 21=some (.int .i32):=by kernel_rfl
@[go_sem] theorem eqShape_21:aU Tryz.prog 21=some .int:=by kernel_rfl
@[go_sem] theorem zeroT_21:aL Tryz.prog 21=some [.d (.int .i32 0)]:=by kernel_rfl
@[go_sem] theorem zeroV_21:zeroV Tryz.prog 21=some (.d (.int .i32 0)):=by kernel_rfl
@[go_sem] theorem zeroD_21:aS Tryz.prog 21=some (.int .i32 0):=by kernel_rfl
@[go_sem] theorem cellsOf_22:Tryz.prog.cellsOf 22=1:=by kernel_rfl
@[go_sem] theorem bytesOf_22:Tryz.prog.bytesOf 22=24:=by kernel_rfl
@[go_sem] theorem sliceT_22:aE Tryz.prog 22=some 69:=by kernel_rfl
@[go_sem] theorem arrT_22:bz Tryz.prog 22=none:=by kernel_rfl
@[go_sem] theorem aggT_22:bf Tryz.prog 22=some false:=by kernel_rfl
@[go_sem] theorem intT_22:bF Tryz.prog 22=none:=by kernel_rfl
@[go_sem] theorem isBoolT_22:aB Tryz.prog 22=false:=by kernel_rfl
@[go_sem] theorem infoT_22:(Tryz.prog.info? 22).isSome=true:=by kernel_rfl
@[go_sem] theorem plainIface_22:af Tryz.prog 22=true:=by kernel_rfl
@[go_sem] theorem undT_22:Tryz.prog.underlying 22=some (.slice 69):=by kernel_rfl
@[go_sem] theorem zeroT_22:aL Tryz.prog 22=some [.aM]:=by kernel_rfl
@[go_sem] theorem zeroV_22:zeroV Tryz.prog 22=some (.aM):=by kernel_rfl
@[go_sem] theorem zeroD_22:aS Tryz.prog 22=some (.sl []):=by kernel_rfl
@[go_sem] theorem cellsOf_24:Tryz.prog.cellsOf 24=2:=by kernel_rfl
@[go_sem] theorem bytesOf_24:Tryz.prog.bytesOf 24=48:=by kernel_rfl
@[go_sem] theorem sliceT_24:aE Tryz.prog 24=none:=by kernel_rfl
@[go_sem] theorem arrT_24:bz Tryz.prog 24=none:=by kernel_rfl
@[go_sem] theorem aggT_24:bf Tryz.prog 24=some true:=by kernel_rfl
@[go_sem] theorem intT_24:bF Tryz.prog 24=none:=by kernel_rfl
@[go_sem] theorem isBoolT_24:aB Tryz.prog 24=false:=by kernel_rfl
@[go_sem] theorem infoT_24:(Tryz.prog.info? 24).isSome=true:=by kernel_rfl
@[go_sem] theorem plainIface_24:af Tryz.prog 24=true:=by kernel_rfl
@[go_sem] theorem zeroT_24:aL Tryz.prog 24=some [.aM, .aM]:=by kernel_rfl
@[go_sem] theorem zeroV_24:zeroV Tryz.prog 24=some (dD [.aM, .aM]):=by kernel_rfl
@[go_sem] theorem zeroD_24:aS Tryz.prog 24=some (.agg [(.sl []),(.sl [])]):=by kernel_rfl
@[go_sem] theorem placesT_24:cu Tryz.prog 24=some [(0,1),(1,1)]:=by kernel_rfl
@[go_sem] theorem cellsOf_25:Tryz.prog.cellsOf 25=1:=by kernel_rfl
@[go_sem] theorem bytesOf_25:Tryz.prog.bytesOf 25=8:=by kernel_rfl
@[go_sem] theorem sliceT_25:aE Tryz.prog 25=none:=by kernel_rfl
@[go_sem] theorem arrT_25:bz Tryz.prog 25=none:=by kernel_rfl
@[go_sem] theorem aggT_25:bf Tryz.prog 25=some false:=by kernel_rfl
@[go_sem] theorem intT_25:bF Tryz.prog 25=some .i64:=by kernel_rfl
@[go_sem] theorem isBoolT_25:aB Tryz.prog 25=false:=by kernel_rfl
@[go_sem] theorem infoT_25:(Tryz.prog.info? 25).isSome=true:=by kernel_rfl
@[go_sem] theorem plainIface_25:af Tryz.prog 25=true:=by kernel_rfl
@[go_sem] theorem undT_25:Tryz.prog.underlying 25=some (.int .i64):=by kernel_rfl
@[go_sem] theorem eqShape_25:aU Tryz.prog 25=some .int:=by kernel_rfl
@[go_sem] theorem zeroT_25:aL Tryz.prog 25=some [.d (.int .i64 0)]:=by kernel_rfl
@[go_sem] theorem zeroV_25:zeroV Tryz.prog 25=some (.d (.int .i64 0)):=by kernel_rfl
@[go_sem] theorem zeroD_25:aS Tryz.prog 25=some (.int .i64 0):=by kernel_rfl
@[go_sem] theorem cellsOf_26:Tryz.prog.cellsOf 26=1:=by kernel_rfl
@[go_sem] theorem bytesOf_26:Tryz.prog.bytesOf 26=24:=by kernel_rfl
@[go_sem] theorem sliceT_26:aE Tryz.prog 26=some 28:=by kernel_rfl
@[go_sem] theorem arrT_26:bz Tryz.prog 26=none:=by kernel_rfl
@[go_sem] theorem aggT_26:bf Tryz.prog 26=some false:=by kernel_rfl
@[go_sem] theorem intT_26:bF Tryz.prog 26=none:=by kernel_rfl
@[go_sem] theorem isBoolT_26:aB Tryz.prog 26=false:=by kernel_rfl
@[go_sem] theorem infoT_26:(Tryz.prog.info? 26).isSome=true:=by kernel_rfl
@[go_sem] theorem plainIface_26:af Tryz.prog 26=true:=by kernel_rfl
@[go_sem] theorem undT_26:Tryz.prog.underlying 26=some (.slice 28):=by kernel_rfl
@[go_sem] theorem zeroT_26:aL Tryz.prog 26=some [.aM]:=by kernel_rfl
@[go_sem] theorem zeroV_26:zeroV Tryz.prog 26=some (.aM):=by kernel_rfl
@[go_sem] theorem zeroD_26:aS Tryz.prog 26=some (.sl []):=by kernel_rfl
@[go_sem] theorem cellsOf_28:Tryz.prog.cellsOf 28=3:=by kernel_rfl
@[go_sem] theorem bytesOf_28:Tryz.prog.bytesOf 28=40:=by kernel_rfl
@[go_sem] theorem sliceT_28:aE Tryz.prog 28=none:=by kernel_rfl
@[go_sem] theorem arrT_28:bz Tryz.prog 28=none:=by kernel_rfl
@[go_sem] theorem aggT_28:bf Tryz.prog 28=some true:=by kernel_rfl
@[go_sem] theorem intT_28:bF Tryz.prog 28=none:=by kernel_rfl
@[go_sem] theorem isBoolT_28:aB Tryz.prog 28=false:=by kernel_rfl
@[go_sem] theorem infoT_28:(Tryz.prog.info? 28).isSome=true:=by kernel_rfl
@[go_sem] theorem plainIface_28:af Tryz.prog 28=true:=by kernel_rfl
@[go_sem] theorem zeroT_28:aL Tryz.prog 28=some [.d (.int .i64 0), .d (.int .i64 0), .aM]:=by kernel_rfl
@[go_sem] theorem zeroV_28:zeroV Tryz.prog 28=some (dD [.d (.int .i64 0), .d (.int .i64 0), .aM]):=by kernel_rfl
@[go_sem] theorem zeroD_28:aS Tryz.prog 28=some (.agg [(.int .i64 0),(.int .i64 0),(.sl [])]):=by kernel_rfl
@[go_sem] theorem placesT_28:cu Tryz.prog 28=some [(0,1),(1,1),(2,1)]:=by kernel_rfl
@[go_sem] theorem cellsOf_30:Tryz.prog.cellsOf 30=1:=by kernel_rfl
@[go_sem] theorem bytesOf_30:Tryz.prog.bytesOf 30=8:=by kernel_rfl
@[go_sem] theorem sliceT_30:aE Tryz.prog 30=none:=by kernel_rfl
@[go_sem] theorem arrT_30:bz Tryz.prog 30=none:=by kernel_rfl
@[go_sem] theorem aggT_30:bf Tryz.prog 30=some false:=by kernel_rfl
@[go_sem] theorem intT_30:bF Tryz.prog 30=none:=by kernel_rfl
@[go_sem] theorem isBoolT_30:aB Tryz.prog 30=false:=by kernel_rfl
@[go_sem] theorem infoT_30:(Tryz.prog.info? 30).isSome=true:=by kernel_rfl
@[go_sem] theorem plainIface_30:af Tryz.prog 30=true:=by kernel_rfl
@[go_sem] theorem zeroT_30:aL Tryz.prog 30=some [.d .aD]:=by kernel_rfl
@[go_sem] theorem zeroV_30:zeroV Tryz.prog 30=some (.d .aD):=by kernel_rfl
@[go_sem] theorem zeroD_30:aS Tryz.prog 30=some .aD:=by kernel_rfl
@[go_sem] theorem cellsOf_32:Tryz.prog.cellsOf 32=1:=by kernel_rfl
@[go_sem] theorem bytesOf_32:Tryz.prog.bytesOf 32=8:=by kernel_rfl
@[go_sem] theorem sliceT_32:aE Tryz.prog 32=none:=by kernel_rfl
@[go_sem] theorem arrT_32:bz Tryz.prog 32=none:=by kernel_rfl
@[go_sem] theorem aggT_32:bf Tryz.prog 32=some false:=by kernel_rfl
@[go_sem] theorem intT_32:bF Tryz.prog 32=some .i64:=by kernel_rfl
@[go_sem] theorem isBoolT_32:aB Tryz.prog 32=false:=by kernel_rfl
@[go_sem] theorem infoT_32:(Tryz.prog.info? 32).isSome=true:=by kernel_rfl
@[go_sem] theorem plainIface_32:af Tryz.prog 32=true:=by kernel_rfl
@[go_sem] theorem undT_32:Tryz.prog.underlying 32=some (.int .i64):=by kernel_rfl
@[go_sem] theorem eqShape_32:aU Tryz.prog 32=some .int:=by kernel_rfl
@[go_sem] theorem zeroT_32:aL Tryz.prog 32=some [.d (.int .i64 0)]:=by kernel_rfl
@[go_sem] theorem zeroV_32:zeroV Tryz.prog 32=some (.d (.int .i64 0)):=by kernel_rfl
@[go_sem] theorem zeroD_32:aS Tryz.prog 32=some (.int .i64 0):=by kernel_rfl
@[go_sem] theorem cellsOf_40:Tryz.prog.cellsOf 40=1:=by kernel_rfl
@[go_sem] theorem bytesOf_40:Tryz.prog.bytesOf 40=8:=by kernel_rfl
@[go_sem] theorem sliceT_40:aE Tryz.prog 40=none:=by kernel_rfl
@[go_sem] theorem arrT_40:bz Tryz.prog 40=none:=by kernel_rfl
@[go_sem] theorem aggT_40:bf Tryz.prog 40=some false:=by kernel_rfl
@[go_sem] theorem intT_40:bF Tryz.prog 40=none:=by kernel_rfl
@[go_sem] theorem isBoolT_40:aB Tryz.prog 40=false:=by kernel_rfl
@[go_sem] theorem infoT_40:(Tryz.prog.info? 40).isSome=true:=by kernel_rfl
@[go_sem] theorem plainIface_40:af Tryz.prog 40=true:=by kernel_rfl
@[go_sem] theorem zeroT_40:aL Tryz.prog 40=some [.d .aD]:=by kernel_rfl
@[go_sem] theorem zeroV_40:zeroV Tryz.prog 40=some (.d .aD):=by kernel_rfl
@[go_sem] theorem zeroD_40:aS Tryz.prog 40=some .aD:=by kernel_rfl
@[go_sem] theorem cellsOf_45:Tryz.prog.cellsOf 45=1:=by kernel_rfl
@[go_sem] theorem bytesOf_45:Tryz.prog.bytesOf 45=24:=by kernel_rfl
@[go_sem] theorem sliceT_45:aE Tryz.prog 45=some 84:=by kernel_rfl
@[go_sem] theorem arrT_45:bz Tryz.prog 45=none:=by kernel_rfl
@[go_sem] theorem aggT_45:bf Tryz.prog 45=some false:=by kernel_rfl
@[go_sem] theorem intT_45:bF Tryz.prog 45=none:=by kernel_rfl
@[go_sem] theorem isBoolT_45:aB Tryz.prog 45=false:=by kernel_rfl
@[go_sem] theorem infoT_45:(Tryz.prog.info? 45).isSome=true:=by kernel_rfl
@[go_sem] theorem plainIface_45:af Tryz.prog 45=true:=by kernel_rfl
@[go_sem] theorem undT_45:Tryz.prog.underlying 45=some (.slice 84):=by kernel_rfl
@[go_sem] theorem zeroT_45:aL Tryz.prog 45=some [.aM]:=by kernel_rfl
@[go_sem] theorem zeroV_45:zeroV Tryz.prog 45=some (.aM):=by kernel_rfl
@[go_sem] theorem zeroD_45:aS Tryz.prog 45=some (.sl []):=by kernel_rfl
@[go_sem] theorem cellsOf_47:Tryz.prog.cellsOf 47=3:=by kernel_rfl
@[go_sem] theorem bytesOf_47:Tryz.prog.bytesOf 47=72:=by kernel_rfl
@[go_sem] theorem sliceT_47:aE Tryz.prog 47=none:=by kernel_rfl
@[go_sem] theorem arrT_47:bz Tryz.prog 47=none:=by kernel_rfl
@[go_sem] theorem aggT_47:bf Tryz.prog 47=some true:=by kernel_rfl
@[go_sem] theorem intT_47:bF Tryz.prog 47=none:=by kernel_rfl
@[go_sem] theorem isBoolT_47:aB Tryz.prog 47=false:=by kernel_rfl
@[go_sem] theorem infoT_47:(Tryz.prog.info? 47).isSome=true:=by kernel_rfl
@[go_sem] theorem plainIface_47:af Tryz.prog 47=true:=by kernel_rfl
@[go_sem] theorem zeroT_47:aL Tryz.prog 47=some [.aM, .aM, .aM]:=by kernel_rfl
@[go_sem] theorem zeroV_47:zeroV Tryz.prog 47=some (dD [.aM, .aM, .aM]):=by kernel_rfl
@[go_sem] theorem zeroD_47:aS Tryz.prog 47=some (.agg [(.sl []),(.sl []),(.sl [])]):=by kernel_rfl
@[go_sem] theorem placesT_47:cu Tryz.prog 47=some [(0,2),(2,1)]:=by kernel_rfl
@[go_sem] theorem cellsOf_51:Tryz.prog.cellsOf 51=1:=by kernel_rfl
@[go_sem] theorem bytesOf_51:Tryz.prog.bytesOf 51=8:=by kernel_rfl
@[go_sem] theorem sliceT_51:aE Tryz.prog 51=none:=by kernel_rfl
@[go_sem] theorem arrT_51:bz Tryz.prog 51=none:=by kernel_rfl
@[go_sem] theorem aggT_51:bf Tryz.prog 51=some false:=by kernel_rfl
@[go_sem] theorem intT_51:bF Tryz.prog 51=some .i64:=by kernel_rfl
@[go_sem] theorem isBoolT_51:aB Tryz.prog 51=false:=by kernel_rfl
@[go_sem] theorem infoT_51:(Tryz.prog.info? 51).isSome=true:=by kernel_rfl
@[go_sem] theorem plainIface_51:af Tryz.prog 51=true:=by kernel_rfl
@[go_sem] theorem undT_51:Tryz.prog.underlying 51=some (.int .i64):=by kernel_rfl
@[go_sem] theorem eqShape_51:aU Tryz.prog 51=some .int:=by kernel_rfl
@[go_sem] theorem zeroT_51:aL Tryz.prog 51=some [.d (.int .i64 0)]:=by kernel_rfl
@[go_sem] theorem zeroV_51:zeroV Tryz.prog 51=some (.d (.int .i64 0)):=by kernel_rfl
@[go_sem] theorem zeroD_51:aS Tryz.prog 51=some (.int .i64 0):=by kernel_rfl
@[go_sem] theorem cellsOf_52:Tryz.prog.cellsOf 52=1:=by kernel_rfl
@[go_sem] theorem bytesOf_52:Tryz.prog.bytesOf 52=24:=by kernel_rfl
@[go_sem] theorem sliceT_52:aE Tryz.prog 52=some 54:=by kernel_rfl
@[go_sem] theorem arrT_52:bz Tryz.prog 52=none:=by kernel_rfl
@[go_sem] theorem aggT_52:bf Tryz.prog 52=some false:=by kernel_rfl
@[go_sem] theorem intT_52:bF Tryz.prog 52=none:=by kernel_rfl
@[go_sem] theorem isBoolT_52:aB Tryz.prog 52=false:=by kernel_rfl
@[go_sem] theorem infoT_52:(Tryz.prog.info? 52).isSome=true:=by kernel_rfl
@[go_sem] theorem plainIface_52:af Tryz.prog 52=true:=by kernel_rfl
@[go_sem] theorem undT_52:Tryz.prog.underlying 52=some (.slice 54):=by kernel_rfl
@[go_sem] theorem zeroT_52:aL Tryz.prog 52=some [.aM]:=by kernel_rfl
@[go_sem] theorem zeroV_52:zeroV Tryz.prog 52=some (.aM):=by kernel_rfl
@[go_sem] theorem zeroD_52:aS Tryz.prog 52=some (.sl []):=by kernel_rfl
@[go_sem] theorem cellsOf_54:Tryz.prog.cellsOf 54=7:=by kernel_rfl
@[go_sem] theorem bytesOf_54:Tryz.prog.bytesOf 54=104:=by kernel_rfl
@[go_sem] theorem sliceT_54:aE Tryz.prog 54=none:=by kernel_rfl
@[go_sem] theorem arrT_54:bz Tryz.prog 54=none:=by kernel_rfl
@[go_sem] theorem aggT_54:bf Tryz.prog 54=some true:=by kernel_rfl
@[go_sem] theorem intT_54:bF Tryz.prog 54=none:=by kernel_rfl
@[go_sem] theorem isBoolT_54:aB Tryz.prog 54=false:=by kernel_rfl
@[go_sem] theorem infoT_54:(Tryz.prog.info? 54).isSome=true:=by kernel_rfl
@[go_sem] theorem plainIface_54:af Tryz.prog 54=true:=by kernel_rfl
@[go_sem] theorem zeroT_54:aL Tryz.prog 54=some [.d (.int .i64 0), .d (.int .i64 0), .d (.int .i64 0), .aM, .d (.int .i64 0), .aM, .aM]:=by kernel_rfl
@[go_sem] theorem zeroV_54:zeroV Tryz.prog 54=some (dD [.d (.int .i64 0), .d (.int .i64 0), .d (.int .i64 0), .aM, .d (.int .i64 0), .aM, .aM]):=by kernel_rfl
@[go_sem] theorem zeroD_54:aS Tryz.prog 54=some (.agg [(.int .i64 0),(.int .i64 0),(.int .i64 0),(.sl []),(.int .i64 0),(.sl []),(.sl [])]):=by kernel_rfl
@[go_sem] theorem placesT_54:cu Tryz.prog 54=some [(0,1),(1,3),(4,1),(5,1),(6,1)]:=by kernel_rfl
@[go_sem] theorem cellsOf_61:Tryz.prog.cellsOf 61=4:=by kernel_rfl
@[go_sem] theorem bytesOf_61:Tryz.prog.bytesOf 61=48:=by kernel_rfl
@[go_sem] theorem sliceT_61:aE Tryz.prog 61=none:=by kernel_rfl
@[go_sem] theorem arrT_61:bz Tryz.prog 61=none:=by kernel_rfl
@[go_sem] theorem aggT_61:bf Tryz.prog 61=some true:=by kernel_rfl
@[go_sem] theorem intT_61:bF Tryz.prog 61=none:=by kernel_rfl
@[go_sem] theorem isBoolT_61:aB Tryz.prog 61=false:=by kernel_rfl
@[go_sem] theorem infoT_61:(Tryz.prog.info? 61).isSome=true:=by kernel_rfl
@[go_sem] theorem plainIface_61:af Tryz.prog 61=true:=by kernel_rfl
@[go_sem] theorem zeroT_61:aL Tryz.prog 61=some [.d (.int .i64 0), .d (.int .i64 0), .d (.int .i64 0), .aM]:=by kernel_rfl
@[go_sem] theorem zeroV_61:zeroV Tryz.prog 61=some (dD [.d (.int .i64 0), .d (.int .i64 0), .d (.int .i64 0), .aM]):=by kernel_rfl
@[go_sem] theorem zeroD_61:aS Tryz.prog 61=some (.agg [(.int .i64 0),(.int .i64 0),(.int .i64 0),(.sl [])]):=by kernel_rfl
@[go_sem] theorem placesT_61:cu Tryz.prog 61=some [(0,1),(1,3)]:=by kernel_rfl
@[go_sem] theorem cellsOf_62:Tryz.prog.cellsOf 62=1:=by kernel_rfl
@[go_sem] theorem bytesOf_62:Tryz.prog.bytesOf 62=24:=by kernel_rfl
@[go_sem] theorem sliceT_62:aE Tryz.prog 62=some 61:=by kernel_rfl
@[go_sem] theorem arrT_62:bz Tryz.prog 62=none:=by kernel_rfl
@[go_sem] theorem aggT_62:bf Tryz.prog 62=some false:=by kernel_rfl
@[go_sem] theorem intT_62:bF Tryz.prog 62=none:=by kernel_rfl
@[go_sem] theorem isBoolT_62:aB Tryz.prog 62=false:=by kernel_rfl
@[go_sem] theorem infoT_62:(Tryz.prog.info? 62).isSome=true:=by kernel_rfl
@[go_sem] theorem plainIface_62:af Tryz.prog 62=true:=by kernel_rfl
@[go_sem] theorem undT_62:Tryz.prog.underlying 62=some (.slice 61):=by kernel_rfl
@[go_sem] theorem zeroT_62:aL Tryz.prog 62=some [.aM]:=by kernel_rfl
@[go_sem] theorem zeroV_62:zeroV Tryz.prog 62=some (.aM):=by kernel_rfl
@[go_sem] theorem zeroD_62:aS Tryz.prog 62=some (.sl []):=by kernel_rfl
@[go_sem] theorem cellsOf_67:Tryz.prog.cellsOf 67=1:=by kernel_rfl
@[go_sem] theorem bytesOf_67:Tryz.prog.bytesOf 67=8:=by kernel_rfl
@[go_sem] theorem sliceT_67:aE Tryz.prog 67=none:=by kernel_rfl
@[go_sem] theorem arrT_67:bz Tryz.prog 67=none:=by kernel_rfl
@[go_sem] theorem aggT_67:bf Tryz.prog 67=some false:=by kernel_rfl
@[go_sem] theorem intT_67:bF Tryz.prog 67=none:=by kernel_rfl
@[go_sem] theorem isBoolT_67:aB Tryz.prog 67=false:=by kernel_rfl
@[go_sem] theorem infoT_67:(Tryz.prog.info? 67).isSome=true:=by kernel_rfl
@[go_sem] theorem plainIface_67:af Tryz.prog 67=true:=by kernel_rfl
@[go_sem] theorem zeroT_67:aL Tryz.prog 67=some [.d .aD]:=by kernel_rfl
@[go_sem] theorem zeroV_67:zeroV Tryz.prog 67=some (.d .aD):=by kernel_rfl
@[go_sem] theorem zeroD_67:aS Tryz.prog 67=some .aD:=by kernel_rfl
@[go_sem] theorem cellsOf_69:Tryz.prog.cellsOf 69=2:=by kernel_rfl
@[go_sem] theorem bytesOf_69:Tryz.prog.bytesOf 69=24:=by kernel_rfl
@[go_sem] theorem sliceT_69:aE Tryz.prog 69=none:=by kernel_rfl
@[go_sem] theorem arrT_69:bz Tryz.prog 69=none:=by kernel_rfl
@[go_sem] theorem aggT_69:bf Tryz.prog 69=some true:=by kernel_rfl
@[go_sem] theorem intT_69:bF Tryz.prog 69=none:=by kernel_rfl
@[go_sem] theorem isBoolT_69:aB Tryz.prog 69=false:=by kernel_rfl
@[go_sem] theorem infoT_69:(Tryz.prog.info? 69).isSome=true:=by kernel_rfl
@[go_sem] theorem plainIface_69:af Tryz.prog 69=true:=by kernel_rfl
@[go_sem] theorem zeroT_69:aL Tryz.prog 69=some [.d (.str []), .d (.int .i64 0)]:=by kernel_rfl
@[go_sem] theorem zeroV_69:zeroV Tryz.prog 69=some (dD [.d (.str []), .d (.int .i64 0)]):=by kernel_rfl
@[go_sem] theorem zeroD_69:aS Tryz.prog 69=some (.agg [(.str []),(.int .i64 0)]):=by kernel_rfl
@[go_sem] theorem placesT_69:cu Tryz.prog 69=some [(0,1),(1,1)]:=by kernel_rfl
@[go_sem] theorem cellsOf_72:Tryz.prog.cellsOf 72=1:=by kernel_rfl
@[go_sem] theorem bytesOf_72:Tryz.prog.bytesOf 72=24:=by kernel_rfl
@[go_sem] theorem sliceT_72:aE Tryz.prog 72=some 3:=by kernel_rfl
@[go_sem] theorem arrT_72:bz Tryz.prog 72=none:=by kernel_rfl
@[go_sem] theorem aggT_72:bf Tryz.prog 72=some false:=by kernel_rfl
@[go_sem] theorem intT_72:bF Tryz.prog 72=none:=by kernel_rfl
@[go_sem] theorem isBoolT_72:aB Tryz.prog 72=false:=by kernel_rfl
@[go_sem] theorem infoT_72:(Tryz.prog.info? 72).isSome=true:=by kernel_rfl
@[go_sem] theorem plainIface_72:af Tryz.prog 72=true:=by kernel_rfl
@[go_sem] theorem undT_72:Tryz.prog.underlying 72=some (.slice 3):=by kernel_rfl
@[go_sem] theorem zeroT_72:aL Tryz.prog 72=some [.aM]:=by kernel_rfl
@[go_sem] theorem zeroV_72:zeroV Tryz.prog 72=some (.aM):=by kernel_rfl
@[go_sem] theorem zeroD_72:aS Tryz.prog 72=some (.sl []):=by kernel_rfl
@[go_sem] theorem cellsOf_79:Tryz.prog.cellsOf 79=1:=by kernel_rfl
@[go_sem] theorem bytesOf_79:Tryz.prog.bytesOf 79=24:=by kernel_rfl
@[go_sem] theorem sliceT_79:aE Tryz.prog 79=some 9:=by kernel_rfl
@[go_sem] theorem arrT_79:bz Tryz.prog 79=none:=by kernel_rfl
@[go_sem] theorem aggT_79:bf Tryz.prog 79=some false:=by kernel_rfl
@[go_sem] theorem intT_79:bF Tryz.prog 79=none:=by kernel_rfl
@[go_sem] theorem isBoolT_79:aB Tryz.prog 79=false:=by kernel_rfl
@[go_sem] theorem infoT_79:(Tryz.prog.info? 79).isSome=true:=by kernel_rfl
@[go_sem] theorem plainIface_79:af Tryz.prog 79=true:=by kernel_rfl
@[go_sem] theorem undT_79:Tryz.prog.underlying 79=some (.slice 9):=by kernel_rfl
@[go_sem] theorem zeroT_79:aL Tryz.prog 79=some [.aM]:=by kernel_rfl
@[go_sem] theorem zeroV_79:zeroV Tryz.prog 79=some (.aM):=by kernel_rfl
@[go_sem] theorem zeroD_79:aS Tryz.prog 79=some (.sl []):=by kernel_rfl
@[go_sem] theorem cellsOf_84:Tryz.prog.cellsOf 84=6:=by kernel_rfl
@[go_sem] theorem bytesOf_84:Tryz.prog.bytesOf 84=80:=by kernel_rfl
@[go_sem] theorem sliceT_84:aE Tryz.prog 84=none:=by kernel_rfl
@[go_sem] theorem arrT_84:bz Tryz.prog 84=none:=by kernel_rfl
@[go_sem] theorem aggT_84:bf Tryz.prog 84=some true:=by kernel_rfl
@[go_sem] theorem intT_84:bF Tryz.prog 84=none:=by kernel_rfl
@[go_sem] theorem isBoolT_84:aB Tryz.prog 84=false:=by kernel_rfl
@[go_sem] theorem infoT_84:(Tryz.prog.info? 84).isSome=true:=by kernel_rfl
@[go_sem] theorem plainIface_84:af Tryz.prog 84=true:=by kernel_rfl
@[go_sem] theorem zeroT_84:aL Tryz.prog 84=some [.d (.int .i64 0), .aM, .d (.int .i64 0), .d (.int .i64 0), .aM, .d (.int .i64 0)]:=by kernel_rfl
@[go_sem] theorem zeroV_84:zeroV Tryz.prog 84=some (dD [.d (.int .i64 0), .aM, .d (.int .i64 0), .d (.int .i64 0), .aM, .d (.int .i64 0)]):=by kernel_rfl
@[go_sem] theorem zeroD_84:aS Tryz.prog 84=some (.agg [(.int .i64 0),(.sl []),(.int .i64 0),(.int .i64 0),(.sl []),(.int .i64 0)]):=by kernel_rfl
@[go_sem] theorem placesT_84:cu Tryz.prog 84=some [(0,1),(1,1),(2,3),(5,1)]:=by kernel_rfl
@[go_sem] theorem cellsOf_90:Tryz.prog.cellsOf 90=1:=by kernel_rfl
@[go_sem] theorem bytesOf_90:Tryz.prog.bytesOf 90=8:=by kernel_rfl
@[go_sem] theorem sliceT_90:aE Tryz.prog 90=none:=by kernel_rfl
@[go_sem] theorem arrT_90:bz Tryz.prog 90=none:=by kernel_rfl
@[go_sem] theorem aggT_90:bf Tryz.prog 90=some false:=by kernel_rfl
@[go_sem] theorem intT_90:bF Tryz.prog 90=none:=by kernel_rfl
@[go_sem] theorem isBoolT_90:aB Tryz.prog 90=false:=by kernel_rfl
@[go_sem] theorem infoT_90:(Tryz.prog.info? 90).isSome=true:=by kernel_rfl
@[go_sem] theorem plainIface_90:af Tryz.prog 90=true:=by kernel_rfl
@[go_sem] theorem undT_90:Tryz.prog.underlying 90=some (.map 3 28):=by kernel_rfl
@[go_sem] theorem mapT_90:mF Tryz.prog 90=some (3,28):=by kernel_rfl
@[go_sem] theorem zeroT_90:aL Tryz.prog 90=some [.d .dt]:=by kernel_rfl
@[go_sem] theorem zeroV_90:zeroV Tryz.prog 90=some (.d .dt):=by kernel_rfl
@[go_sem] theorem zeroD_90:aS Tryz.prog 90=some .dt:=by kernel_rfl
@[go_sem] theorem cellsOf_100:Tryz.prog.cellsOf 100=1:=by kernel_rfl
@[go_sem] theorem bytesOf_100:Tryz.prog.bytesOf 100=16:=by kernel_rfl
@[go_sem] theorem sliceT_100:aE Tryz.prog 100=none:=by kernel_rfl
@[go_sem] theorem arrT_100:bz Tryz.prog 100=none:=by kernel_rfl
@[go_sem] theorem aggT_100:bf Tryz.prog 100=some false:=by kernel_rfl
@[go_sem] theorem intT_100:bF Tryz.prog 100=none:=by kernel_rfl
@[go_sem] theorem isBoolT_100:aB Tryz.prog 100=false:=by kernel_rfl
@[go_sem] theorem infoT_100:(Tryz.prog.info? 100).isSome=true:=by kernel_rfl
@[go_sem] theorem plainIface_100:af Tryz.prog 100=false:=by kernel_rfl
@[go_sem] theorem zeroT_100:aL Tryz.prog 100=some [.d .dI]:=by kernel_rfl
@[go_sem] theorem zeroV_100:zeroV Tryz.prog 100=some (.d .dI):=by kernel_rfl
@[go_sem] theorem zeroD_100:aS Tryz.prog 100=some .dI:=by kernel_rfl
@[go_sem] theorem cellsOf_103:Tryz.prog.cellsOf 103=0:=by kernel_rfl
@[go_sem] theorem bytesOf_103:Tryz.prog.bytesOf 103=0:=by kernel_rfl
@[go_sem] theorem sliceT_103:aE Tryz.prog 103=none:=by kernel_rfl
@[go_sem] theorem arrT_103:bz Tryz.prog 103=none:=by kernel_rfl
@[go_sem] theorem aggT_103:bf Tryz.prog 103=some true:=by kernel_rfl
@[go_sem] theorem intT_103:bF Tryz.prog 103=none:=by kernel_rfl
@[go_sem] theorem isBoolT_103:aB Tryz.prog 103=false:=by kernel_rfl
@[go_sem] theorem infoT_103:(Tryz.prog.info? 103).isSome=true:=by kernel_rfl
@[go_sem] theorem plainIface_103:af Tryz.prog 103=true:=by kernel_rfl
@[go_sem] theorem zeroT_103:aL Tryz.prog 103=some []:=by kernel_rfl
@[go_sem] theorem zeroV_103:zeroV Tryz.prog 103=some (dD []):=by kernel_rfl
@[go_sem] theorem zeroD_103:aS Tryz.prog 103=some (.agg []):=by kernel_rfl
@[go_sem] theorem placesT_103:cu Tryz.prog 103=some []:=by kernel_rfl
@[go_sem] theorem cellsOf_104:Tryz.prog.cellsOf 104=1:=by kernel_rfl
@[go_sem] theorem bytesOf_104:Tryz.prog.bytesOf 104=8:=by kernel_rfl
@[go_sem] theorem sliceT_104:aE Tryz.prog 104=none:=by kernel_rfl
@[go_sem] theorem arrT_104:bz Tryz.prog 104=none:=by kernel_rfl
@[go_sem] theorem aggT_104:bf Tryz.prog 104=some false:=by kernel_rfl
@[go_sem] theorem intT_104:bF Tryz.prog 104=some .i64:=by kernel_rfl
@[go_sem] theorem isBoolT_104:aB Tryz.prog 104=false:=by kernel_rfl
@[go_sem] theorem infoT_104:(Tryz.prog.info? 104).isSome=true:=by kernel_rfl
@[go_sem] theorem plainIface_104:af Tryz.prog 104=true:=by kernel_rfl
@[go_sem] theorem undT_104:Tryz.prog.underlying 104=some (.int .i64):=by kernel_rfl
@[go_sem] theorem eqShape_104:aU Tryz.prog 104=some .int:=by kernel_rfl
@[go_sem] theorem zeroT_104:aL Tryz.prog 104=some [.d (.int .i64 0)]:=by kernel_rfl
@[go_sem] theorem zeroV_104:zeroV Tryz.prog 104=some (.d (.int .i64 0)):=by kernel_rfl
@[go_sem] theorem zeroD_104:aS Tryz.prog 104=some (.int .i64 0):=by kernel_rfl
@[go_sem] theorem cellsOf_105:Tryz.prog.cellsOf 105=3:=by kernel_rfl
@[go_sem] theorem bytesOf_105:Tryz.prog.bytesOf 105=40:=by kernel_rfl
@[go_sem] theorem sliceT_105:aE Tryz.prog 105=none:=by kernel_rfl
@[go_sem] theorem arrT_105:bz Tryz.prog 105=none:=by kernel_rfl
@[go_sem] theorem aggT_105:bf Tryz.prog 105=some true:=by kernel_rfl
@[go_sem] theorem intT_105:bF Tryz.prog 105=none:=by kernel_rfl
@[go_sem] theorem isBoolT_105:aB Tryz.prog 105=false:=by kernel_rfl
@[go_sem] theorem infoT_105:(Tryz.prog.info? 105).isSome=true:=by kernel_rfl
@[go_sem] theorem plainIface_105:af Tryz.prog 105=true:=by kernel_rfl
@[go_sem] theorem zeroT_105:aL Tryz.prog 105=some [.d (.int .i64 0), .d (.int .i64 0), .aM]:=by kernel_rfl
@[go_sem] theorem zeroV_105:zeroV Tryz.prog 105=some (dD [.d (.int .i64 0), .d (.int .i64 0), .aM]):=by kernel_rfl
@[go_sem] theorem zeroD_105:aS Tryz.prog 105=some (.agg [(.int .i64 0),(.int .i64 0),(.sl [])]):=by kernel_rfl
@[go_sem] theorem cellsOf_108:Tryz.prog.cellsOf 108=1:=by kernel_rfl
@[go_sem] theorem bytesOf_108:Tryz.prog.bytesOf 108=8:=by kernel_rfl
@[go_sem] theorem sliceT_108:aE Tryz.prog 108=none:=by kernel_rfl
@[go_sem] theorem arrT_108:bz Tryz.prog 108=none:=by kernel_rfl
@[go_sem] theorem aggT_108:bf Tryz.prog 108=some false:=by kernel_rfl
@[go_sem] theorem intT_108:bF Tryz.prog 108=none:=by kernel_rfl
@[go_sem] theorem isBoolT_108:aB Tryz.prog 108=false:=by kernel_rfl
@[go_sem] theorem infoT_108:(Tryz.prog.info? 108).isSome=true:=by kernel_rfl
@[go_sem] theorem plainIface_108:af Tryz.prog 108=true:=by kernel_rfl
@[go_sem] theorem zeroT_108:aL Tryz.prog 108=some [.d .gJ]:=by kernel_rfl
@[go_sem] theorem zeroV_108:zeroV Tryz.prog 108=some (.d .gJ):=by kernel_rfl
@[go_sem] theorem zeroD_108:aS Tryz.prog 108=some .gJ:=by kernel_rfl
@[go_sem] theorem cellsOf_114:Tryz.prog.cellsOf 114=1:=by kernel_rfl
@[go_sem] theorem bytesOf_114:Tryz.prog.bytesOf 114=8:=by kernel_rfl
@[go_sem] theorem sliceT_114:aE Tryz.prog 114=none:=by kernel_rfl
@[go_sem] theorem arrT_114:bz Tryz.prog 114=none:=by kernel_rfl
@[go_sem] theorem aggT_114:bf Tryz.prog 114=some false:=by kernel_rfl
@[go_sem] theorem intT_114:bF Tryz.prog 114=none:=by kernel_rfl
@[go_sem] theorem isBoolT_114:aB Tryz.prog 114=false:=by kernel_rfl
@[go_sem] theorem infoT_114:(Tryz.prog.info? 114).isSome=true:=by kernel_rfl
@[go_sem] theorem plainIface_114:af Tryz.prog 114=true:=by kernel_rfl
@[go_sem] theorem zeroT_114:aL Tryz.prog 114=some [.d .aD]:=by kernel_rfl
@[go_sem] theorem zeroV_114:zeroV Tryz.prog 114=some (.d .aD):=by kernel_rfl
@[go_sem] theorem zeroD_114:aS Tryz.prog 114=some .aD:=by kernel_rfl
@[go_sem] theorem cellsOf_115:Tryz.prog.cellsOf 115=0:=by kernel_rfl
@[go_sem] theorem bytesOf_115:Tryz.prog.bytesOf 115=0:=by kernel_rfl
@[go_sem] theorem sliceT_115:aE Tryz.prog 115=none:=by kernel_rfl
@[go_sem] theorem arrT_115:bz Tryz.prog 115=none:=by kernel_rfl
@[go_sem] theorem aggT_115:bf Tryz.prog 115=some true:=by kernel_rfl
@[go_sem] theorem intT_115:bF Tryz.prog 115=none:=by kernel_rfl
@[go_sem] theorem isBoolT_115:aB Tryz.prog 115=false:=by kernel_rfl
@[go_sem] theorem infoT_115:(Tryz.prog.info? 115).isSome=true:=by kernel_rfl
@[go_sem] theorem plainIface_115:af Tryz.prog 115=true:=by kernel_rfl
@[go_sem] theorem zeroT_115:aL Tryz.prog 115=some []:=by kernel_rfl
@[go_sem] theorem zeroV_115:zeroV Tryz.prog 115=some (dD []):=by kernel_rfl
@[go_sem] theorem zeroD_115:aS Tryz.prog 115=some (.agg []):=by kernel_rfl
@[go_sem] theorem placesT_115:cu Tryz.prog 115=some []:=by kernel_rfl
@[go_sem] theorem cellsOf_117:Tryz.prog.cellsOf 117=4:=by kernel_rfl
@[go_sem] theorem bytesOf_117:Tryz.prog.bytesOf 117=96:=by kernel_rfl
@[go_sem] theorem sliceT_117:aE Tryz.prog 117=none:=by kernel_rfl
@[go_sem] theorem arrT_117:bz Tryz.prog 117=none:=by kernel_rfl
@[go_sem] theorem aggT_117:bf Tryz.prog 117=some true:=by kernel_rfl
@[go_sem] theorem intT_117:bF Tryz.prog 117=none:=by kernel_rfl
@[go_sem] theorem isBoolT_117:aB Tryz.prog 117=false:=by kernel_rfl
@[go_sem] theorem infoT_117:(Tryz.prog.info? 117).isSome=true:=by kernel_rfl
@[go_sem] theorem plainIface_117:af Tryz.prog 117=true:=by kernel_rfl
@[go_sem] theorem zeroT_117:aL Tryz.prog 117=some [.aM, .aM, .aM, .aM]:=by kernel_rfl
@[go_sem] theorem zeroV_117:zeroV Tryz.prog 117=some (dD [.aM, .aM, .aM, .aM]):=by kernel_rfl
@[go_sem] theorem zeroD_117:aS Tryz.prog 117=some (.agg [(.sl []),(.sl []),(.sl []),(.sl [])]):=by kernel_rfl
@[go_sem] theorem placesT_117:cu Tryz.prog 117=some [(0,3),(3,1)]:=by kernel_rfl
@[go_sem] theorem cellsOf_122:Tryz.prog.cellsOf 122=1:=by kernel_rfl
@[go_sem] theorem bytesOf_122:Tryz.prog.bytesOf 122=8:=by kernel_rfl
@[go_sem] theorem sliceT_122:aE Tryz.prog 122=none:=by kernel_rfl
@[go_sem] theorem arrT_122:bz Tryz.prog 122=none:=by kernel_rfl
@[go_sem] theorem aggT_122:bf Tryz.prog 122=some false:=by kernel_rfl
@[go_sem] theorem intT_122:bF Tryz.prog 122=none:=by kernel_rfl
@[go_sem] theorem isBoolT_122:aB Tryz.prog 122=false:=by kernel_rfl
@[go_sem] theorem infoT_122:(Tryz.prog.info? 122).isSome=true:=by kernel_rfl
@[go_sem] theorem plainIface_122:af Tryz.prog 122=true:=by kernel_rfl
@[go_sem] theorem zeroT_122:aL Tryz.prog 122=some [.d .aD]:=by kernel_rfl
@[go_sem] theorem zeroV_122:zeroV Tryz.prog 122=some (.d .aD):=by kernel_rfl
@[go_sem] theorem zeroD_122:aS Tryz.prog 122=some .aD:=by kernel_rfl
@[go_sem] theorem cellsOf_124:Tryz.prog.cellsOf 124=1:=by kernel_rfl
@[go_sem] theorem bytesOf_124:Tryz.prog.bytesOf 124=8:=by kernel_rfl
@[go_sem] theorem sliceT_124:aE Tryz.prog 124=none:=by kernel_rfl
@[go_sem] theorem arrT_124:bz Tryz.prog 124=none:=by kernel_rfl
@[go_sem] theorem aggT_124:bf Tryz.prog 124=some false:=by kernel_rfl
@[go_sem] theorem intT_124:bF Tryz.prog 124=none:=by kernel_rfl
@[go_sem] theorem isBoolT_124:aB Tryz.prog 124=false:=by kernel_rfl
@[go_sem] theorem infoT_124:(Tryz.prog.info? 124).isSome=true:=by kernel_rfl
@[go_sem] theorem plainIface_124:af Tryz.prog 124=true:=by kernel_rfl
@[go_sem] theorem undT_124:Tryz.prog.underlying 124=some (.map 9 4):=by kernel_rfl
@[go_sem] theorem mapT_124:mF Tryz.prog 124=some (9,4):=by kernel_rfl
@[go_sem] theorem zeroT_124:aL Tryz.prog 124=some [.d .dt]:=by kernel_rfl
@[go_sem] theorem zeroV_124:zeroV Tryz.prog 124=some (.d .dt):=by kernel_rfl
@[go_sem] theorem zeroD_124:aS Tryz.prog 124=some .dt:=by kernel_rfl
@[go_sem] theorem cellsOf_125:Tryz.prog.cellsOf 125=1:=by kernel_rfl
@[go_sem] theorem bytesOf_125:Tryz.prog.bytesOf 125=8:=by kernel_rfl
@[go_sem] theorem sliceT_125:aE Tryz.prog 125=none:=by kernel_rfl
@[go_sem] theorem arrT_125:bz Tryz.prog 125=none:=by kernel_rfl
@[go_sem] theorem aggT_125:bf Tryz.prog 125=some false:=by kernel_rfl
@[go_sem] theorem intT_125:bF Tryz.prog 125=none:=by kernel_rfl
@[go_sem] theorem isBoolT_125:aB Tryz.prog 125=false:=by kernel_rfl
@[go_sem] theorem infoT_125:(Tryz.prog.info? 125).isSome=true:=by kernel_rfl
@[go_sem] theorem plainIface_125:af Tryz.prog 125=true:=by kernel_rfl
@[go_sem] theorem zeroT_125:aL Tryz.prog 125=some [.d .aD]:=by kernel_rfl
@[go_sem] theorem zeroV_125:zeroV Tryz.prog 125=some (.d .aD):=by kernel_rfl
@[go_sem] theorem zeroD_125:aS Tryz.prog 125=some .aD:=by kernel_rfl
@[go_sem] theorem cellsOf_127:Tryz.prog.cellsOf 127=1:=by kernel_rfl
@[go_sem] theorem bytesOf_127:Tryz.prog.bytesOf 127=8:=by kernel_rfl
@[go_sem] theorem sliceT_127:aE Tryz.prog 127=none:=by kernel_rfl
@[go_sem] theorem arrT_127:bz Tryz.prog 127=none:=by kernel_rfl
@[go_sem] theorem aggT_127:bf Tryz.prog 127=some false:=by kernel_rfl
@[go_sem] theorem intT_127:bF Tryz.prog 127=none:=by kernel_rfl
@[go_sem] theorem isBoolT_127:aB Tryz.prog 127=false:=by kernel_rfl
@[go_sem] theorem infoT_127:(Tryz.prog.info? 127).isSome=true:=by kernel_rfl
@[go_sem] theorem plainIface_127:af Tryz.prog 127=true:=by kernel_rfl
@[go_sem] theorem undT_127:Tryz.prog.underlying 127=some (.map 3 4):=by kernel_rfl
@[go_sem] theorem mapT_127:mF Tryz.prog 127=some (3,4):=by kernel_rfl
@[go_sem] theorem zeroT_127:aL Tryz.prog 127=some [.d .dt]:=by kernel_rfl
@[go_sem] theorem zeroV_127:zeroV Tryz.prog 127=some (.d .dt):=by kernel_rfl
@[go_sem] theorem zeroD_127:aS Tryz.prog 127=some .dt:=by kernel_rfl
@[go_sem] theorem cellsOf_128:Tryz.prog.cellsOf 128=1:=by kernel_rfl
@[go_sem] theorem bytesOf_128:Tryz.prog.bytesOf 128=8:=by kernel_rfl
@[go_sem] theorem sliceT_128:aE Tryz.prog 128=none:=by kernel_rfl
@[go_sem] theorem arrT_128:bz Tryz.prog 128=none:=by kernel_rfl
@[go_sem] theorem aggT_128:bf Tryz.prog 128=some false:=by kernel_rfl
@[go_sem] theorem intT_128:bF Tryz.prog 128=none:=by kernel_rfl
@[go_sem] theorem isBoolT_128:aB Tryz.prog 128=false:=by kernel_rfl
@[go_sem] theorem infoT_128:(Tryz.prog.info? 128).isSome=true:=by kernel_rfl
@[go_sem] theorem plainIface_128:af Tryz.prog 128=true:=by kernel_rfl
@[go_sem] theorem undT_128:Tryz.prog.underlying 128=some (.map 3 4):=by kernel_rfl
@[go_sem] theorem mapT_128:mF Tryz.prog 128=some (3,4):=by kernel_rfl
@[go_sem] theorem zeroT_128:aL Tryz.prog 128=some [.d .dt]:=by kernel_rfl
@[go_sem] theorem zeroV_128:zeroV Tryz.prog 128=some (.d .dt):=by kernel_rfl
@[go_sem] theorem zeroD_128:aS Tryz.prog 128=some .dt:=by kernel_rfl
@[go_sem] theorem cellsOf_133:Tryz.prog.cellsOf 133=1:=by kernel_rfl
@[go_sem] theorem bytesOf_133:Tryz.prog.bytesOf 133=8:=by kernel_rfl
@[go_sem] theorem sliceT_133:aE Tryz.prog 133=none:=by kernel_rfl
@[go_sem] theorem arrT_133:bz Tryz.prog 133=none:=by kernel_rfl
@[go_sem] theorem aggT_133:bf Tryz.prog 133=some false:=by kernel_rfl
@[go_sem] theorem intT_133:bF Tryz.prog 133=none:=by kernel_rfl
@[go_sem] theorem isBoolT_133:aB Tryz.prog 133=false:=by kernel_rfl
@[go_sem] theorem infoT_133:(Tryz.prog.info? 133).isSome=true:=by kernel_rfl
@[go_sem] theorem plainIface_133:af Tryz.prog 133=true:=by kernel_rfl
@[go_sem] theorem zeroT_133:aL Tryz.prog 133=some [.d .aD]:=by kernel_rfl
@[go_sem] theorem zeroV_133:zeroV Tryz.prog 133=some (.d .aD):=by kernel_rfl
@[go_sem] theorem zeroD_133:aS Tryz.prog 133=some .aD:=by kernel_rfl
@[go_sem] theorem cellsOf_134:Tryz.prog.cellsOf 134=16:=by kernel_rfl
@[go_sem] theorem bytesOf_134:Tryz.prog.bytesOf 134=128:=by kernel_rfl
@[go_sem] theorem sliceT_134:aE Tryz.prog 134=none:=by kernel_rfl
@[go_sem] theorem arrT_134:bz Tryz.prog 134=some (16,133):=by kernel_rfl
@[go_sem] theorem aggT_134:bf Tryz.prog 134=some true:=by kernel_rfl
@[go_sem] theorem intT_134:bF Tryz.prog 134=none:=by kernel_rfl
@[go_sem] theorem isBoolT_134:aB Tryz.prog 134=false:=by kernel_rfl
@[go_sem] theorem infoT_134:(Tryz.prog.info? 134).isSome=true:=by kernel_rfl
@[go_sem] theorem plainIface_134:af Tryz.prog 134=true:=by kernel_rfl
@[go_sem] theorem undT_134:Tryz.prog.underlying 134=some (.array 16 133):=by kernel_rfl
@[go_sem] theorem zeroT_134:aL Tryz.prog 134=some [.d .aD, .d .aD, .d .aD, .d .aD, .d .aD, .d .aD, .d .aD, .d .aD, .d .aD, .d .aD, .d .aD, .d .aD, .d .aD, .d .aD, .d .aD, .d .aD]:=by kernel_rfl
@[go_sem] theorem zeroV_134:zeroV Tryz.prog 134=some (dD [.d .aD, .d .aD, .d .aD, .d .aD, .d .aD, .d .aD, .d .aD, .d .aD, .d .aD, .d .aD, .d .aD, .d .aD, .d .aD, .d .aD, .d .aD, .d .aD]):=by kernel_rfl
@[go_sem] theorem zeroD_134:aS Tryz.prog 134=some (.agg [.aD, .aD, .aD, .aD, .aD, .aD, .aD, .aD, .aD, .aD, .aD, .aD, .aD, .aD, .aD, .aD]):=by kernel_rfl
@[go_sem] theorem placesT_134:cu Tryz.prog 134=some [(0,1),(1,1),(2,1),(3,1),(4,1),(5,1),(6,1),(7,1),(8,1),(9,1),(10,1),(11,1),(12,1),(13,1),(14,1),(15,1)]:=by kernel_rfl
@[go_sem] theorem cellsOf_138:Tryz.prog.cellsOf 138=1:=by kernel_rfl
@[go_sem] theorem bytesOf_138:Tryz.prog.bytesOf 138=8:=by kernel_rfl
@[go_sem] theorem sliceT_138:aE Tryz.prog 138=none:=by kernel_rfl
@[go_sem] theorem arrT_138:bz Tryz.prog 138=none:=by kernel_rfl
@[go_sem] theorem aggT_138:bf Tryz.prog 138=some false:=by kernel_rfl
@[go_sem] theorem intT_138:bF Tryz.prog 138=none:=by kernel_rfl
@[go_sem] theorem isBoolT_138:aB Tryz.prog 138=false:=by kernel_rfl
@[go_sem] theorem infoT_138:(Tryz.prog.info? 138).isSome=true:=by kernel_rfl
@[go_sem] theorem plainIface_138:af Tryz.prog 138=true:=by kernel_rfl
@[go_sem] theorem zeroT_138:aL Tryz.prog 138=some [.d .aD]:=by kernel_rfl
@[go_sem] theorem zeroV_138:zeroV Tryz.prog 138=some (.d .aD):=by kernel_rfl
@[go_sem] theorem zeroD_138:aS Tryz.prog 138=some .aD:=by kernel_rfl
@[go_sem] theorem cellsOf_140:Tryz.prog.cellsOf 140=1:=by kernel_rfl
@[go_sem] theorem bytesOf_140:Tryz.prog.bytesOf 140=8:=by kernel_rfl
@[go_sem] theorem sliceT_140:aE Tryz.prog 140=none:=by kernel_rfl
@[go_sem] theorem arrT_140:bz Tryz.prog 140=none:=by kernel_rfl
@[go_sem] theorem aggT_140:bf Tryz.prog 140=some false:=by kernel_rfl
@[go_sem] theorem intT_140:bF Tryz.prog 140=none:=by kernel_rfl
@[go_sem] theorem isBoolT_140:aB Tryz.prog 140=false:=by kernel_rfl
@[go_sem] theorem infoT_140:(Tryz.prog.info? 140).isSome=true:=by kernel_rfl
@[go_sem] theorem plainIface_140:af Tryz.prog 140=true:=by kernel_rfl
@[go_sem] theorem zeroT_140:aL Tryz.prog 140=some [.d .aD]:=by kernel_rfl
@[go_sem] theorem zeroV_140:zeroV Tryz.prog 140=some (.d .aD):=by kernel_rfl
@[go_sem] theorem zeroD_140:aS Tryz.prog 140=some .aD:=by kernel_rfl
@[go_sem] theorem cellsOf_143:Tryz.prog.cellsOf 143=1:=by kernel_rfl
@[go_sem] theorem bytesOf_143:Tryz.prog.bytesOf 143=8:=by kernel_rfl
@[go_sem] theorem sliceT_143:aE Tryz.prog 143=none:=by kernel_rfl
@[go_sem] theorem arrT_143:bz Tryz.prog 143=none:=by kernel_rfl
@[go_sem] theorem aggT_143:bf Tryz.prog 143=some false:=by kernel_rfl
@[go_sem] theorem intT_143:bF Tryz.prog 143=some .u64:=by kernel_rfl
@[go_sem] theorem isBoolT_143:aB Tryz.prog 143=false:=by kernel_rfl
@[go_sem] theorem infoT_143:(Tryz.prog.info? 143).isSome=true:=by kernel_rfl
@[go_sem] theorem plainIface_143:af Tryz.prog 143=true:=by kernel_rfl
@[go_sem] theorem undT_143:Tryz.prog.underlying 143=some (.int .u64):=by kernel_rfl
@[go_sem] theorem eqShape_143:aU Tryz.prog 143=some .int:=by kernel_rfl
@[go_sem] theorem zeroT_143:aL Tryz.prog 143=some [.d (.int .u64 0)]:=by kernel_rfl
@[go_sem] theorem zeroV_143:zeroV Tryz.prog 143=some (.d (.int .u64 0)):=by kernel_rfl
@[go_sem] theorem zeroD_143:aS Tryz.prog 143=some (.int .u64 0):=by kernel_rfl
@[go_sem] theorem cellsOf_147:Tryz.prog.cellsOf 147=1:=by kernel_rfl
@[go_sem] theorem bytesOf_147:Tryz.prog.bytesOf 147=8:=by kernel_rfl
@[go_sem] theorem sliceT_147:aE Tryz.prog 147=none:=by kernel_rfl
@[go_sem] theorem arrT_147:bz Tryz.prog 147=none:=by kernel_rfl
@[go_sem] theorem aggT_147:bf Tryz.prog 147=some false:=by kernel_rfl
@[go_sem] theorem intT_147:bF Tryz.prog 147=none:=by kernel_rfl
@[go_sem] theorem isBoolT_147:aB Tryz.prog 147=false:=by kernel_rfl
@[go_sem] theorem infoT_147:(Tryz.prog.info? 147).isSome=true:=by kernel_rfl
@[go_sem] theorem plainIface_147:af Tryz.prog 147=true:=by kernel_rfl
@[go_sem] theorem undT_147:Tryz.prog.underlying 147=some (.map 3 3):=by kernel_rfl
@[go_sem] theorem mapT_147:mF Tryz.prog 147=some (3,3):=by kernel_rfl
@[go_sem] theorem zeroT_147:aL Tryz.prog 147=some [.d .dt]:=by kernel_rfl
@[go_sem] theorem zeroV_147:zeroV Tryz.prog 147=some (.d .dt):=by kernel_rfl
@[go_sem] theorem zeroD_147:aS Tryz.prog 147=some .dt:=by kernel_rfl
@[go_sem] theorem cellsOf_152:Tryz.prog.cellsOf 152=1:=by kernel_rfl
@[go_sem] theorem bytesOf_152:Tryz.prog.bytesOf 152=8:=by kernel_rfl
@[go_sem] theorem sliceT_152:aE Tryz.prog 152=none:=by kernel_rfl
@[go_sem] theorem arrT_152:bz Tryz.prog 152=none:=by kernel_rfl
@[go_sem] theorem aggT_152:bf Tryz.prog 152=some false:=by kernel_rfl
@[go_sem] theorem intT_152:bF Tryz.prog 152=none:=by kernel_rfl
@[go_sem] theorem isBoolT_152:aB Tryz.prog 152=false:=by kernel_rfl
@[go_sem] theorem infoT_152:(Tryz.prog.info? 152).isSome=true:=by kernel_rfl
@[go_sem] theorem plainIface_152:af Tryz.prog 152=true:=by kernel_rfl
@[go_sem] theorem zeroT_152:aL Tryz.prog 152=some [.d .aD]:=by kernel_rfl
@[go_sem] theorem zeroV_152:zeroV Tryz.prog 152=some (.d .aD):=by kernel_rfl
@[go_sem] theorem zeroD_152:aS Tryz.prog 152=some .aD:=by kernel_rfl
@[go_sem] theorem cellsOf_153:Tryz.prog.cellsOf 153=16:=by kernel_rfl
@[go_sem] theorem bytesOf_153:Tryz.prog.bytesOf 153=128:=by kernel_rfl
@[go_sem] theorem sliceT_153:aE Tryz.prog 153=none:=by kernel_rfl
@[go_sem] theorem arrT_153:bz Tryz.prog 153=some (16,152):=by kernel_rfl
@[go_sem] theorem aggT_153:bf Tryz.prog 153=some true:=by kernel_rfl
@[go_sem] theorem intT_153:bF Tryz.prog 153=none:=by kernel_rfl
@[go_sem] theorem isBoolT_153:aB Tryz.prog 153=false:=by kernel_rfl
@[go_sem] theorem infoT_153:(Tryz.prog.info? 153).isSome=true:=by kernel_rfl
@[go_sem] theorem plainIface_153:af Tryz.prog 153=true:=by kernel_rfl
@[go_sem] theorem undT_153:Tryz.prog.underlying 153=some (.array 16 152):=by kernel_rfl
@[go_sem] theorem zeroT_153:aL Tryz.prog 153=some [.d .aD, .d .aD, .d .aD, .d .aD, .d .aD, .d .aD, .d .aD, .d .aD, .d .aD, .d .aD, .d .aD, .d .aD, .d .aD, .d .aD, .d .aD, .d .aD]:=by kernel_rfl
@[go_sem] theorem zeroV_153:zeroV Tryz.prog 153=some (dD [.d .aD, .d .aD, .d .aD, .d .aD, .d .aD, .d .aD, .d .aD, .d .aD, .d .aD, .d .aD, .d .aD, .d .aD, .d .aD, .d .aD, .d .aD, .d .aD]):=by kernel_rfl
@[go_sem] theorem zeroD_153:aS Tryz.prog 153=some (.agg [.aD, .aD, .aD, .aD, .aD, .aD, .aD, .aD, .aD, .aD, .aD, .aD, .aD, .aD, .aD, .aD]):=by kernel_rfl
@[go_sem] theorem placesT_153:cu Tryz.prog 153=some [(0,1),(1,1),(2,1),(3,1),(4,1),(5,1),(6,1),(7,1),(8,1),(9,1),(10,1),(11,1),(12,1),(13,1),(14,1),(15,1)]:=by kernel_rfl
@[go_sem] theorem cellsOf_159:Tryz.prog.cellsOf 159=2:=by kernel_rfl
@[go_sem] theorem bytesOf_159:Tryz.prog.bytesOf 159=48:=by kernel_rfl
@[go_sem] theorem sliceT_159:aE Tryz.prog 159=none:=by kernel_rfl
@[go_sem] theorem arrT_159:bz Tryz.prog 159=none:=by kernel_rfl
@[go_sem] theorem aggT_159:bf Tryz.prog 159=some true:=by kernel_rfl
@[go_sem] theorem intT_159:bF Tryz.prog 159=none:=by kernel_rfl
@[go_sem] theorem isBoolT_159:aB Tryz.prog 159=false:=by kernel_rfl
@[go_sem] theorem infoT_159:(Tryz.prog.info? 159).isSome=true:=by kernel_rfl
@[go_sem] theorem plainIface_159:af Tryz.prog 159=true:=by kernel_rfl
@[go_sem] theorem zeroT_159:aL Tryz.prog 159=some [.aM, .aM]:=by kernel_rfl
@[go_sem] theorem zeroV_159:zeroV Tryz.prog 159=some (dD [.aM, .aM]):=by kernel_rfl
@[go_sem] theorem zeroD_159:aS Tryz.prog 159=some (.agg [(.sl []),(.sl [])]):=by kernel_rfl
@[go_sem] theorem placesT_159:cu Tryz.prog 159=some [(0,2)]:=by kernel_rfl
@[go_sem] theorem cellsOf_161:Tryz.prog.cellsOf 161=1:=by kernel_rfl
@[go_sem] theorem bytesOf_161:Tryz.prog.bytesOf 161=8:=by kernel_rfl
@[go_sem] theorem sliceT_161:aE Tryz.prog 161=none:=by kernel_rfl
@[go_sem] theorem arrT_161:bz Tryz.prog 161=none:=by kernel_rfl
@[go_sem] theorem aggT_161:bf Tryz.prog 161=some false:=by kernel_rfl
@[go_sem] theorem intT_161:bF Tryz.prog 161=some .i64:=by kernel_rfl
@[go_sem] theorem isBoolT_161:aB Tryz.prog 161=false:=by kernel_rfl
@[go_sem] theorem infoT_161:(Tryz.prog.info? 161).isSome=true:=by kernel_rfl
@[go_sem] theorem plainIface_161:af Tryz.prog 161=true:=by kernel_rfl
@[go_sem] theorem undT_161:Tryz.prog.underlying 161=some (.int .i64):=by kernel_rfl
@[go_sem] theorem eqShape_161:aU Tryz.prog 161=some .int:=by kernel_rfl
@[go_sem] theorem zeroT_161:aL Tryz.prog 161=some [.d (.int .i64 0)]:=by kernel_rfl
@[go_sem] theorem zeroV_161:zeroV Tryz.prog 161=some (.d (.int .i64 0)):=by kernel_rfl
@[go_sem] theorem zeroD_161:aS Tryz.prog 161=some (.int .i64 0):=by kernel_rfl
@[go_sem] theorem cellsOf_170:Tryz.prog.cellsOf 170=1:=by kernel_rfl
@[go_sem] theorem bytesOf_170:Tryz.prog.bytesOf 170=4:=by kernel_rfl
@[go_sem] theorem sliceT_170:aE Tryz.prog 170=none:=by kernel_rfl
@[go_sem] theorem arrT_170:bz Tryz.prog 170=none:=by kernel_rfl
@[go_sem] theorem aggT_170:bf Tryz.prog 170=some false:=by kernel_rfl
@[go_sem] theorem intT_170:bF Tryz.prog 170=some .u32:=by kernel_rfl
@[go_sem] theorem isBoolT_170:aB Tryz.prog 170=false:=by kernel_rfl
@[go_sem] theorem infoT_170:(Tryz.prog.info? 170).isSome=true:=by kernel_rfl
@[go_sem] theorem plainIface_170:af Tryz.prog 170=true:=by kernel_rfl
@[go_sem] theorem undT_170:Tryz.prog.underlying 170=some (.int .u32):=by kernel_rfl
@[go_sem] theorem eqShape_170:aU Tryz.prog 170=some .int:=by kernel_rfl
@[go_sem] theorem zeroT_170:aL Tryz.prog 170=some [.d (.int .u32 0)]:=by kernel_rfl
@[go_sem] theorem zeroV_170:zeroV Tryz.prog 170=some (.d (.int .u32 0)):=by kernel_rfl
@[go_sem] theorem zeroD_170:aS Tryz.prog 170=some (.int .u32 0):=by kernel_rfl
@[go_sem] theorem cellsOf_172:Tryz.prog.cellsOf 172=1:=by kernel_rfl
@[go_sem] theorem bytesOf_172:Tryz.prog.bytesOf 172=8:=by kernel_rfl
@[go_sem] theorem sliceT_172:aE Tryz.prog 172=none:=by kernel_rfl
@[go_sem] theorem arrT_172:bz Tryz.prog 172=none:=by kernel_rfl
@[go_sem] theorem aggT_172:bf Tryz.prog 172=some false:=by kernel_rfl
@[go_sem] theorem intT_172:bF Tryz.prog 172=some .u64:=by kernel_rfl
@[go_sem] theorem isBoolT_172:aB Tryz.prog 172=false:=by kernel_rfl
@[go_sem] theorem infoT_172:(Tryz.prog.info? 172).isSome=true:=by kernel_rfl
@[go_sem] theorem plainIface_172:af Tryz.prog 172=true:=by kernel_rfl
@[go_sem] theorem undT_172:Tryz.prog.underlying 172=some (.int .u64):=by kernel_rfl
@[go_sem] theorem eqShape_172:aU Tryz.prog 172=some .int:=by kernel_rfl
@[go_sem] theorem zeroT_172:aL Tryz.prog 172=some [.d (.int .u64 0)]:=by kernel_rfl
@[go_sem] theorem zeroV_172:zeroV Tryz.prog 172=some (.d (.int .u64 0)):=by kernel_rfl
@[go_sem] theorem zeroD_172:aS Tryz.prog 172=some (.int .u64 0):=by kernel_rfl
@[go_sem] theorem cellsOf_188:Tryz.prog.cellsOf 188=1:=by kernel_rfl
@[go_sem] theorem bytesOf_188:Tryz.prog.bytesOf 188=8:=by kernel_rfl
@[go_sem] theorem sliceT_188:aE Tryz.prog 188=none:=by kernel_rfl
@[go_sem] theorem arrT_188:bz Tryz.prog 188=none:=by kernel_rfl
@[go_sem] theorem aggT_188:bf Tryz.prog 188=some false:=by kernel_rfl
@[go_sem] theorem intT_188:bF Tryz.prog 188=none:=by kernel_rfl
@[go_sem] theorem isBoolT_188:aB Tryz.prog 188=false:=by kernel_rfl
@[go_sem] theorem infoT_188:(Tryz.prog.info? 188).isSome=true:=by kernel_rfl
@[go_sem] theorem plainIface_188:af Tryz.prog 188=true:=by kernel_rfl
@[go_sem] theorem zeroT_188:aL Tryz.prog 188=some [.d .aD]:=by kernel_rfl
@[go_sem] theorem zeroV_188:zeroV Tryz.prog 188=some (.d .aD):=by kernel_rfl
@[go_sem] theorem zeroD_188:aS Tryz.prog 188=some .aD:=by kernel_rfl
@[go_sem] theorem cellsOf_189:Tryz.prog.cellsOf 189=1:=by kernel_rfl
@[go_sem] theorem bytesOf_189:Tryz.prog.bytesOf 189=8:=by kernel_rfl
@[go_sem] theorem sliceT_189:aE Tryz.prog 189=none:=by kernel_rfl
@[go_sem] theorem arrT_189:bz Tryz.prog 189=none:=by kernel_rfl
@[go_sem] theorem aggT_189:bf Tryz.prog 189=some false:=by kernel_rfl
@[go_sem] theorem intT_189:bF Tryz.prog 189=some .u64:=by kernel_rfl
@[go_sem] theorem isBoolT_189:aB Tryz.prog 189=false:=by kernel_rfl
@[go_sem] theorem infoT_189:(Tryz.prog.info? 189).isSome=true:=by kernel_rfl
@[go_sem] theorem plainIface_189:af Tryz.prog 189=true:=by kernel_rfl
@[go_sem] theorem undT_189:Tryz.prog.underlying 189=some (.int .u64):=by kernel_rfl
@[go_sem] theorem eqShape_189:aU Tryz.prog 189=some .int:=by kernel_rfl
@[go_sem] theorem zeroT_189:aL Tryz.prog 189=some [.d (.int .u64 0)]:=by kernel_rfl
@[go_sem] theorem zeroV_189:zeroV Tryz.prog 189=some (.d (.int .u64 0)):=by kernel_rfl
@[go_sem] theorem zeroD_189:aS Tryz.prog 189=some (.int .u64 0):=by kernel_rfl
@[go_sem] theorem cellsOf_194:Tryz.prog.cellsOf 194=1:=by kernel_rfl
@[go_sem] theorem bytesOf_194:Tryz.prog.bytesOf 194=24:=by kernel_rfl
@[go_sem] theorem sliceT_194:aE Tryz.prog 194=some 25:=by kernel_rfl
@[go_sem] theorem arrT_194:bz Tryz.prog 194=none:=by kernel_rfl
@[go_sem] theorem aggT_194:bf Tryz.prog 194=some false:=by kernel_rfl
@[go_sem] theorem intT_194:bF Tryz.prog 194=none:=by kernel_rfl
@[go_sem] theorem isBoolT_194:aB Tryz.prog 194=false:=by kernel_rfl
@[go_sem] theorem infoT_194:(Tryz.prog.info? 194).isSome=true:=by kernel_rfl
@[go_sem] theorem plainIface_194:af Tryz.prog 194=true:=by kernel_rfl
@[go_sem] theorem undT_194:Tryz.prog.underlying 194=some (.slice 25):=by kernel_rfl
@[go_sem] theorem zeroT_194:aL Tryz.prog 194=some [.aM]:=by kernel_rfl
@[go_sem] theorem zeroV_194:zeroV Tryz.prog 194=some (.aM):=by kernel_rfl
@[go_sem] theorem zeroD_194:aS Tryz.prog 194=some (.sl []):=by kernel_rfl
@[go_sem] theorem fieldT_24_0:bw Tryz.prog 24 0=some 0:=by kernel_rfl
@[go_sem] theorem fieldT_24_1:bw Tryz.prog 24 1=some 1:=by kernel_rfl
@[go_sem] theorem fieldT_28_0:bw Tryz.prog 28 0=some 0:=by kernel_rfl
@[go_sem] theorem fieldT_28_1:bw Tryz.prog 28 1=some 1:=by kernel_rfl
@[go_sem] theorem fieldT_28_2:bw Tryz.prog 28 2=some 2:=by kernel_rfl
@[go_sem] theorem fieldT_47_0:bw Tryz.prog 47 0=some 0:=by kernel_rfl
@[go_sem] theorem fieldT_47_1:bw Tryz.prog 47 1=some 2:=by kernel_rfl
@[go_sem] theorem fieldT_54_0:bw Tryz.prog 54 0=some 0:=by kernel_rfl
@[go_sem] theorem fieldT_54_1:bw Tryz.prog 54 1=some 1:=by kernel_rfl
@[go_sem] theorem fieldT_54_2:bw Tryz.prog 54 2=some 4:=by kernel_rfl
@[go_sem] theorem fieldT_54_3:bw Tryz.prog 54 3=some 5:=by kernel_rfl
@[go_sem] theorem fieldT_54_4:bw Tryz.prog 54 4=some 6:=by kernel_rfl
@[go_sem] theorem fieldT_61_0:bw Tryz.prog 61 0=some 0:=by kernel_rfl
@[go_sem] theorem fieldT_61_1:bw Tryz.prog 61 1=some 1:=by kernel_rfl
@[go_sem] theorem fieldT_69_0:bw Tryz.prog 69 0=some 0:=by kernel_rfl
@[go_sem] theorem fieldT_69_1:bw Tryz.prog 69 1=some 1:=by kernel_rfl
@[go_sem] theorem fieldT_84_0:bw Tryz.prog 84 0=some 0:=by kernel_rfl
@[go_sem] theorem fieldT_84_1:bw Tryz.prog 84 1=some 1:=by kernel_rfl
@[go_sem] theorem fieldT_84_2:bw Tryz.prog 84 2=some 2:=by kernel_rfl
@[go_sem] theorem fieldT_84_3:bw Tryz.prog 84 3=some 5:=by kernel_rfl
@[go_sem] theorem fieldT_105_2:bw Tryz.prog 105 2=some 2:=by kernel_rfl
@[go_sem] theorem fieldT_117_0:bw Tryz.prog 117 0=some 0:=by kernel_rfl
@[go_sem] theorem fieldT_117_1:bw Tryz.prog 117 1=some 3:=by kernel_rfl
@[go_sem] theorem fieldT_159_0:bw Tryz.prog 159 0=some 0:=by kernel_rfl
end Go.Proofs.YtpkobkdgcanmjaaGreat
namespace Go.Proofs.YtpkobkdgcanmjaaGreat
def wU(so:Nat->aa)(c:Nat)(ty:TypeId)(sz:Nat)(es:List D)(x:V):Prop:=
 (x= .aM/\es=[]/\0<sz)\/∃id ep,c<=id/\x= .osl id ep/\so id= .arr ep ty sz es
def An(c:Nat)(x:V)(env:Nat->V):List V->Nat->Prop
 |[],_=>True
 |v::l,i=>(v= .aw\/(v=env i/\∀r∈v.refs,r<c)\/(v= .osl c 0/\env i=x))/\An c x env l (i+1)
theorem ub{c:Nat}{x:V}{env:Nat->V}:∀ (l:List V) (i:Nat),An c x env l i->∀j,bI l j= .aw\/(bI l j=env (i+j)/\∀r∈(bI l j).refs,r<c)\/(bI l j= .osl c 0/\env (i+j)=x)
 |[],i,_,j=>by rw[ir];exact .inl rfl
 |v::l,i,h,0=>by rw[iq];exact h.1
 |v::l,i,h,j+1=>by
  rw[fN]
  have:=ub l (i+1) h.2 j
  rwa [show i+1+j=i+(j+1) by omega]at this
def mT(φ:Place)(c:Nat)(x:V):Place:=fun id=>if id=c then(match x with| .osl id _=>φ id|_=> .slice none 0 0)else φ id
theorem dq.grow {b:Nat}{e:Nat->V}{so:Nat->aa}{m:Nat}(l:List V){o:Nat->aa}{c:Nat}{ty:TypeId}{sz:Nat}{es:List D}(x:V)(hb:b<=c)(M0:c<=m)(hg:Good o c)(ho:∀id,id<c->so id=o id)(hx:wU so c ty sz es x)(he:An c x e l 0):
 dq b ⟨e,so,m⟩ ⟨bI l,aV o c (.arr 0 ty sz es),c+1⟩:=by
 intro M φ w tm hH hd
 let aj:Place:=mT φ c x
 let o':Nat->aa:=aV o c (.arr 0 ty sz es)
 let H':Hp:=hp o' (c+1)
 let H:Hp:=⟨so,fun id=>id<m⟩
 have tH:o' c= .arr 0 ty sz es:=aI _ _ _
 have yJ:∀id,id<c->o' id=o id:=fun id ag=>aH _ _ _ _ (by omega)
 have Fb:∀id,c<id->o' id= .no:=fun id ag=>by rw[show o' id=o id from aH _ _ _ _ (by omega)];exact hg.fresh id (by omega)
 have iY:∀id,id<c->aj id=φ id:=fun id ag=>if_neg (by omega)
 have vJ:x= .aM->aj c= .slice none 0 0:=fun h=>by simp only[aj,mT,h,if_pos]
 have vK:∀id ep,x= .osl id ep->aj c=φ id:=fun id ep h=>by simp only[aj,mT,if_pos,h]
 have hold:∀id k,(o' id).live=true->dA (aj id)=some k->∃j,(so j).live=true/\dA (φ j)=some k/\((id<c/\j=id)\/(id=c/\c<=j)):=by
  intro id k h1 h2
  rcases Nat.lt_trichotomy id c with br|heq|lq
  ·rw[yJ id br]at h1;rw[iY id br]at h2
   exact⟨id,by rw[ho id br];exact h1,h2, .inl ⟨br,rfl⟩⟩
  ·subst heq
   rcases hx with⟨rfl,_,_⟩|⟨j,ep,hj,rfl,gW⟩
   ·rw[vJ rfl]at h2;cases h2
   ·rw[vK j ep rfl]at h2
    exact⟨j,by rw[gW];rfl,h2, .inr ⟨rfl,hj⟩⟩
  ·rw[Fb id lq]at h1;cases h1
 have bt:∀k,bq aj H' k->bq φ H k:=by
  rintro k ⟨id,h1,h2⟩
  obtain⟨j,g1,g2,_⟩:=hold id k h1 h2
  exact⟨j,g1,g2⟩
 have hB:∀k, ¬ad M φ H k-> ¬ad M aj H' k:=fun k h h'=>h (h'.imp id (bt k))
 have pU:∀id,id<c->H'.o id=H.o id/\aj id=φ id/\H'.us id:=fun id ag=>⟨(yJ id ag).trans (ho id ag).symm,iY id ag,(by show id<c+1;omega)⟩
 have du:∀ (v:V) (val:Value),(∀r∈v.refs,r<c)->V.den (ad M φ H) φ H w v val->V.den (ad M aj H') aj H' w v val:=fun v val hr h=>
  V.ik (H:=H) (H':=H') hB v val (fun id ag=>pU id (hr id ag)) h
 have jb:∀ (v:List V) (val:List Value),(∀r∈V.ax v,r<c)->V.aq (ad M φ H) φ H w v val->V.aq (ad M aj H') aj H' w v val:=fun v val hr h=>
  V.dP (H:=H) (H':=H') hB v val (fun id ag=>pU id (hr id ag)) h
 refine⟨aj,⟨fun id=> ?_,fun id hu=>Fb id (by have: ¬id<c+1:=hu;omega),fun i j k h1 h2 h3 h4=> ?_,fun k hk=>hH.ours k (bt k hk),hH.pP⟩,fun i=> ?_,bt,by show b<=c+1;omega,fun id ag hr=> ?_,fun id e' ag dZ=> ?_⟩
 ·have aF:=hH.ok id
  have hrefs:=hg.refs id
  show aA M aj H' w id
  unfold aA at aF|-
  rcases Nat.lt_trichotomy id c with br|heq|lq
  ·have e1:(S.H ⟨e,so,m⟩).o id=o id:=ho id br
   rw[e1]at aF
   have e2:H'.o id=o id:=yJ id br
   rw[e2,iY id br]
   cases lk:o id with
   |no=>trivial
   |row cs=>
    simp only[lk]at aF hrefs|-
    obtain⟨b,cd,ty,k1,k2,k3,k4⟩:=aF
    exact⟨b,cd,ty,k1,k2,jb _ _ hrefs k3,k4⟩
   |arr ep ty sz es=>
    simp only[lk]at aF|-
    obtain⟨k1,xs,k2,evs,k3,k4,k5⟩:=aF
    exact⟨k1,xs,k2,evs,k3,k4,D.az (fun b _ hn=>⟨rfl,hB b hn⟩) _ _ k5⟩
   |lu ep es=>
    simp only[lk]at aF|-
    exact D.au (fun b _ hn=>⟨rfl,hB b hn⟩) _ _ aF
   |map kt vt es=>
    simp only[lk]at aF|-
    obtain⟨b,es',clock,k1,k2,k4,k3⟩:=aF
    exact⟨b,es',clock,k1,k2,k4,ay.mono (fun b _ hn=>⟨rfl,hB b hn⟩) _ _ k3⟩
   |eg l=>
    simp only[lk]at aF|-
    exact D.au (fun b _ hn=>⟨rfl,hB b hn⟩) _ _ aF
   |my l last=>
    simp only[lk]at aF|-
    obtain⟨b,k1,k2⟩:=aF
    exact⟨b,k1,k2.mono (fun b _ hn=>⟨rfl,hB b hn⟩) rfl⟩
   |n6 s pos=>
    simp only[lk]at aF|-
    exact aF
   |loop nf n env ps a b st pd=>
    simp only[lk]at aF hrefs|-
    obtain⟨b,r,k1,k2,k3,k4,k5,k6,k7,k8,k9,zS⟩:=aF
    exact⟨b,r,k1,k2,k3,k4,k5,k6,k7,k8,k9,fun i=>du _ _ (fun r hr=>hrefs r (V.iu _ _ r hr)) (zS i)⟩
  ·subst heq
   have e2:H'.o id= .arr 0 ty sz es:=tH
   rw[e2]
   rcases hx with⟨rfl,rfl,dv⟩|⟨j,ep,hj,rfl,gW⟩
   ·refine⟨dv,[], ?_,[],by simp,by simp,rfl⟩
    rw[vJ rfl]
    exact World.ownsRow_nil _ _ _ _
   ·have:=hH.ok j
    unfold aA at this
    simp only[S.H,gW]at this
    obtain⟨k1,xs,k2,evs,k3,k4,k5⟩:=this
    exact⟨k1,xs,by rw[vK j ep rfl];exact k2,evs,k3,k4,D.az (fun b _ hn=>⟨rfl,hB b hn⟩) _ _ k5⟩
  ·have e2:H'.o id= .no:=Fb id lq
   rw[e2]
   trivial
 ·obtain⟨i',a1,a2,a3⟩:=hold i k h1 h3
  obtain⟨j',b1,b2,b3⟩:=hold j k h2 h4
  have:=hH.apart i' j' k a1 b1 a2 b2
  rcases a3 with⟨a3,a4⟩|⟨a3,a4⟩<;>rcases b3 with⟨b3,b4⟩|⟨b3,b4⟩<;>omega
 ·have hi:=ub l 0 he i
  rw[Nat.zero_add]at hi
  rcases hi with h|⟨h1,h2⟩|⟨h1,h2⟩
  ·show V.den _ _ _ _ (bI l i) _
   rw[h];trivial
  ·have:=hd i
   simp only at this
   rw[<- h1]at this
   exact du _ _ h2 this
  ·have:=hd i
   simp only at this
   rw[h2]at this
   show V.den _ _ _ _ (bI l i) _
   rw[h1]
   rcases hx with⟨rfl,rfl,dv⟩|⟨j,ep,hj,rfl,gW⟩
   ·simp only[V.den]at this
    rw[this]
    refine⟨rfl,(by show c<c+1;omega),fun e' dZ=> ?_⟩
    have dZ:(H'.o c).aO=some e':=dZ
    have this:H'.o c= .arr 0 ty sz []:=tH
    rw[this]at dZ
    simp only[aa.aO,Option.some.injEq]at dZ
    subst dZ
    exact⟨Nat.le_refl _,fun _=>(vJ rfl).symm⟩
   ·obtain⟨g1,g2,g3⟩:=this
    refine⟨g1,(by show c<c+1;omega),fun e' dZ=> ?_⟩
    have dZ:(H'.o c).aO=some e':=dZ
    have this:H'.o c= .arr 0 ty sz es:=tH
    rw[this]at dZ
    simp only[aa.aO,Option.some.injEq]at dZ
    subst dZ
    have oj:((S.H ⟨e,so,m⟩).o j).aO=some ep:=by simp only[S.H,gW,aa.aO]
    exact⟨Nat.le_refl _,fun _=>by rw[vK j ep rfl];exact(g3 ep oj).2 rfl⟩
 ·have br:id<c:=by omega
  exact⟨by show(so id).bd=true;rw[ho id br, <- yJ id br];exact hr,iY id br⟩
 ·have br:id<c:=by omega
  exact⟨e',by show(so id).aO=some e';rw[ho id br, <- yJ id br];exact dZ,Nat.le_refl _,fun _=>iY id br⟩
end Go.Proofs.YtpkobkdgcanmjaaGreat
