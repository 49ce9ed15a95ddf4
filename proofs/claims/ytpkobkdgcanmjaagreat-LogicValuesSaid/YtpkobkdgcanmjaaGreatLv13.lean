/-
  A PART OF THE PROOF. Conditions: none.
-/
import Derived.Test.YtpkobkdgcanmjaaGreatLv12
set_option linter.unusedSimpArgs false
set_option linter.unusedVariables false
namespace Go.Proofs.YtpkobkdgcanmjaaGreat
theorem mix:Tryz.prog.follows .mixedOrders=true:=by kernel_rfl
def MA:Tr FD:=
 (.n .no (.n .no (.n (.fn 177 c3 [.tmp 6]) (.n (.fn 6 c7 [.tmp 2]) (.n (.fn 5 O8 [.tmp 2]) (.n (.fn 11 RA [.cell 6 54]) (.n (.fn 28 RV [.tmp 2]) (.n (.fn 31 Kc []) (.e fun _=> .no) (.e fun _=> .no)) (.n (.fn 14 Ms [.tmp 4]) (.e fun _=> .no) (.e fun _=> .no))) (.n (.fn 15 Qs [.tmp 6]) (.n (.fn 9 Lo [.cell 4 117]) (.e fun _=> .no) (.e fun _=> .no)) (.e fun _=> .no))) (.n (.fn 24 PI [.tmp 4]) (.n (.fn 19 R2 [.tmp 2]) (.n (.fn 4 KN [.tmp 2]) (.e fun _=> .no) (.e fun _=> .no)) (.e fun _=> .no)) (.n (.fn 7 JF [.tmp 3]) (.n (.fn 27 LW [.tmp 4]) (.e fun _=> .no) (.e fun _=> .no)) (.e fun _=> .no)))) (.n (.fn 8 Rs [.cell 4 28]) (.n (.fn 26 RH [.tmp 4]) (.n (.fn 35 P6 [.tmp 2]) (.n (.fn 43 Ku [.cell 4 4, .cell 5 32]) (.e fun _=> .no) (.e fun _=> .no)) (.e fun _=> .no)) (.n (.fn 2 Jr [.cell 0 134]) (.n (.fn 8 LF [.tmp 3]) (.e fun _=> .no) (.e fun _=> .no)) (.e fun _=> .no))) (.n (.fn 5 RP [.cell 2 28]) (.n (.fn 24 Qk [.tmp 3]) (.n (.fn 84 K8 [.tmp 8]) (.e fun _=> .no) (.e fun _=> .no)) (.e fun _=> .no)) (.n (.fn 22 JV []) (.n (.fn 33 Mc [.tmp 2]) (.e fun _=> .no) (.e fun _=> .no)) (.e fun _=> .no))))) (.n (.fn 32 O4 [.cell 6 28, .tmp 7]) (.n (.fn 46 Pc [.tmp 4]) (.n (.fn 37 Pw [.tmp 6]) (.n (.fn 7 P2 [.tmp 3]) (.n (.fn 98 Kl []) (.e fun _=> .no) (.e fun _=> .no)) (.e fun _=> .no)) (.n (.fn 11 Sc []) (.n (.fn 31 Lw [.cell 8 28, .cell 9 28]) (.e fun _=> .no) (.e fun _=> .no)) (.e fun _=> .no))) (.n (.fn 8 RK [.cell 4 28]) (.n (.fn 8 R5 []) (.n (.fn 57 KZ [.tmp 6, .tmp 7]) (.e fun _=> .no) (.e fun _=> .no)) (.e fun _=> .no)) (.n (.fn 8 JN [.tmp 2]) (.n (.fn 17 L4 [.tmp 6]) (.e fun _=> .no) (.e fun _=> .no)) (.e fun _=> .no)))) (.n (.fn 30 Rw [.cell 0 54]) (.n (.fn 87 PE [.cell 4 28, .tmp 5]) (.n (.fn 9 RZ [.tmp 4]) (.n (.fn 18 KF [.tmp 2]) (.e fun _=> .no) (.e fun _=> .no)) (.e fun _=> .no)) (.n (.fn 9 Jz [.tmp 4]) (.n (.fn 14 LN [.tmp 4]) (.e fun _=> .no) (.e fun _=> .no)) (.e fun _=> .no))) (.n (.fn 15 PU [.tmp 6]) (.n (.fn 9 Qo [.tmp 4]) (.n (.fn 24 Lg [.tmp 4]) (.e fun _=> .no) (.e fun _=> .no)) (.e fun _=> .no)) (.n (.fn 10 J3 []) (.n (.fn 26 Mk []) (.e fun _=> .no) (.e fun _=> .no)) (.e fun _=> .no)))))) (.n (.fn 244 c5 [.tmp 0]) (.n (.fn 18 c9 [.tmp 4, .tmp 5, .tmp 6]) (.n (.fn 49 Pa [.tmp 4]) (.n (.fn 3 RC [.cell 0 54]) (.n (.fn 46 P0 [.tmp 2]) (.n (.fn 34 Kh []) (.e fun _=> .no) (.e fun _=> .no)) (.n (.fn 28 Mw [.tmp 8, .tmp 9]) (.e fun _=> .no) (.e fun _=> .no))) (.n (.fn 13 Sa [.tmp 4]) (.n (.fn 39 Ls []) (.e fun _=> .no) (.e fun _=> .no)) (.e fun _=> .no))) (.n (.fn 8 RI [.cell 4 28]) (.n (.fn 8 Ny [.tmp 2]) (.n (.fn 56 KT []) (.e fun _=> .no) (.e fun _=> .no)) (.e fun _=> .no)) (.n (.fn 45 JJ []) (.n (.fn 14 L0 [.tmp 4]) (.e fun _=> .no) (.e fun _=> .no)) (.e fun _=> .no)))) (.n (.fn 5 Ru [.cell 2 28]) (.n (.fn 33 PC [.tmp 2]) (.n (.fn 13 RX [.tmp 4]) (.n (.fn 10 Ky [.tmp 4]) (.e fun _=> .no) (.e fun _=> .no)) (.e fun _=> .no)) (.n (.fn 8 Jv [.tmp 3]) (.n (.fn 9 LJ [.tmp 4]) (.e fun _=> .no) (.e fun _=> .no)) (.e fun _=> .no))) (.n (.fn 6 RR [.tmp 2]) (.n (.fn 15 Qm [.tmp 6]) (.n (.fn 19 Lc [.tmp 2]) (.e fun _=> .no) (.e fun _=> .no)) (.e fun _=> .no)) (.n (.fn 14 JZ []) (.n (.fn 36 Mg [.tmp 10]) (.e fun _=> .no) (.e fun _=> .no)) (.e fun _=> .no))))) (.n (.fn 13 O6 [.tmp 4]) (.n (.fn 8 Rq [.cell 4 28]) (.n (.fn 31 RF [.cell 2 54]) (.n (.fn 32 P4 [.tmp 6]) (.n (.fn 8 Kp [.tmp 3]) (.e fun _=> .no) (.e fun _=> .no)) (.e fun _=> .no)) (.n (.fn 8 Jn [.tmp 3]) (.n (.fn 28 LA [.cell 4 28]) (.e fun _=> .no) (.e fun _=> .no)) (.e fun _=> .no))) (.n (.OS 16 I0 RM 77 9 [.tmp 8] [.cell 8 4] 10 4 4 Rk) (.n (.fn 9 R7 [.tmp 4]) (.n (.fn 133 K4 [.tmp 6]) (.e fun _=> .no) (.e fun _=> .no)) (.e fun _=> .no)) (.n (.fn 17 JR []) (.n (.fn 76 L8 []) (.e fun _=> .no) (.e fun _=> .no)) (.e fun _=> .no)))) (.n (.fn 30 Ry [.cell 8 28, .tmp 9]) (.n (.fn 15 PG [.tmp 6]) (.n .no (.n (.fn 19 KJ [.tmp 4]) (.e fun _=> .no) (.e fun _=> .no)) (.e fun _=> .no)) (.n (.fn 19 Ff [.tmp 4]) (.n (.fn 27 LR [.tmp 4]) (.e fun _=> .no) (.e fun _=> .no)) (.e fun _=> .no))) (.n (.fn 24 PW [.tmp 2]) (.n (.fn 92 Qq [.tmp 4]) (.n (.fn 38 Lk [.cell 4 28]) (.e fun _=> .no) (.e fun _=> .no)) (.e fun _=> .no)) (.n (.fn 71 J7 []) (.n (.fn 5 Mo [.cell 2 28]) (.e fun _=> .no) (.e fun _=> .no)) (.e fun _=> .no))))))) (.n .no (.n (.fn 211 c4 [.tmp 8]) (.n (.fn 161 c8 [.tmp 0]) (.n (.fn 9 O9 [.tmp 2]) (.n (.fn 14 RB [.cell 8 54]) (.n (.fn 4 RW [.tmp 2]) (.n (.fn 31 Ke []) (.e fun _=> .no) (.e fun _=> .no)) (.n (.fn 19 Mu [.tmp 4]) (.e fun _=> .no) (.e fun _=> .no))) (.n (.fn 7 R9 [.tmp 3]) (.n (.fn 15 Lq [.tmp 4]) (.e fun _=> .no) (.e fun _=> .no)) (.e fun _=> .no))) (.n (.fn 25 PJ [.tmp 4]) (.n (.fn 46 R3 [.tmp 4]) (.n (.fn 49 KQ []) (.e fun _=> .no) (.e fun _=> .no)) (.e fun _=> .no)) (.n (.fn 39 JH [.cell 4 4]) (.n (.fn 14 LY [.tmp 4]) (.e fun _=> .no) (.e fun _=> .no)) (.e fun _=> .no)))) (.n (.fn 42 Rt [.cell 10 54, .tmp 11]) (.n (.fn 13 PB [.tmp 4]) (.n (.fn 78 P7 [.tmp 4]) (.n (.fn 9 Kw [.tmp 4]) (.e fun _=> .no) (.e fun _=> .no)) (.e fun _=> .no)) (.n (.fn 9 Jt [.tmp 4]) (.n (.fn 4 LH [.tmp 2]) (.e fun _=> .no) (.e fun _=> .no)) (.e fun _=> .no))) (.n (.fn 7 RQ [.cell 0 54]) (.n (.fn 28 Ql [.tmp 2]) (.n (.fn 168 La [.tmp 8, .tmp 9]) (.e fun _=> .no) (.e fun _=> .no)) (.e fun _=> .no)) (.n (.fn 14 JX []) (.n (.fn 15 Me [.tmp 6]) (.e fun _=> .no) (.e fun _=> .no)) (.e fun _=> .no))))) (.n (.fn 48 O5 [.tmp 2]) (.n (.fn 76 Rp [.cell 0 47]) (.n (.fn 5 RE [.cell 0 28]) (.n (.fn 16 P3 [.tmp 2]) (.n (.fn 9 Kn [.tmp 4]) (.e fun _=> .no) (.e fun _=> .no)) (.e fun _=> .no)) (.n (.fn 9 Jl [.tmp 4]) (.n (.fn 6 Ly [.cell 2 28]) (.e fun _=> .no) (.e fun _=> .no)) (.e fun _=> .no))) (.n (.fn 41 RL [.tmp 8]) (.n (.fn 17 R6 [.tmp 6]) (.n (.fn 32 K1 []) (.e fun _=> .no) (.e fun _=> .no)) (.e fun _=> .no)) (.n (.fn 19 JP [.tmp 4]) (.n (.fn 10 L6 [.tmp 4]) (.e fun _=> .no) (.e fun _=> .no)) (.e fun _=> .no)))) (.n (.fn 68 Rx [.cell 6 54, .tmp 7]) (.n (.fn 9 PF [.tmp 4]) (.n (.fn 8 R0 [.tmp 3]) (.n (.fn 52 KH [.tmp 6]) (.e fun _=> .no) (.e fun _=> .no)) (.e fun _=> .no)) (.n (.fn 8 JB [.tmp 3]) (.n (.fn 14 LP [.tmp 4]) (.e fun _=> .no) (.e fun _=> .no)) (.e fun _=> .no))) (.n (.fn 41 RT [.cell 4 54]) (.n (.fn 8 Qp [.tmp 3]) (.n (.fn 58 Li []) (.e fun _=> .no) (.e fun _=> .no)) (.e fun _=> .no)) (.n (.fn 10 J5 []) (.n (.fn 9 Mm [.tmp 4]) (.e fun _=> .no) (.e fun _=> .no)) (.e fun _=> .no)))))) (.n (.fn 45 c6 [.tmp 2]) (.n (.fn 17 O3 [.tmp 6, .tmp 7]) (.n (.fn 76 Pb [.cell 4 28, .tmp 5]) (.n (.fn 10 RD [.tmp 2]) (.n (.fn 9 P1 [.tmp 4]) (.n (.fn 58 Kj []) (.e fun _=> .no) (.e fun _=> .no)) (.n (.fn 19 My [.tmp 4]) (.e fun _=> .no) (.e fun _=> .no))) (.n (.fn 9 Sb [.tmp 2]) (.n (.fn 4 Lu [.cell 2 28]) (.e fun _=> .no) (.e fun _=> .no)) (.e fun _=> .no))) (.n (.fn 5 RJ [.cell 2 28]) (.n (.fn 23 R4 [.tmp 2]) (.n (.fn 65 KW []) (.e fun _=> .no) (.e fun _=> .no)) (.e fun _=> .no)) (.n (.fn 134 JL []) (.n (.fn 8 L2 []) (.e fun _=> .no) (.e fun _=> .no)) (.e fun _=> .no)))) (.n (.fn 7 Rv [.cell 0 28]) (.n (.fn 39 PD [.tmp 4]) (.n (.fn 27 RY [.tmp 4, .tmp 5]) (.n (.fn 27 KA [.tmp 2]) (.e fun _=> .no) (.e fun _=> .no)) (.e fun _=> .no)) (.n (.fn 121 Jx [.tmp 4]) (.n (.fn 8 LL [.tmp 2]) (.e fun _=> .no) (.e fun _=> .no)) (.e fun _=> .no))) (.n (.fn 52 RS [.cell 4 4]) (.n (.fn 18 Qn [.tmp 4]) (.n (.fn 25 Le [.tmp 2]) (.e fun _=> .no) (.e fun _=> .no)) (.e fun _=> .no)) (.n (.fn 116 J1 []) (.n (.fn 6 Mi [.tmp 2]) (.e fun _=> .no) (.e fun _=> .no)) (.e fun _=> .no))))) (.n (.fn 6 O7 [.tmp 2]) (.n (.fn 2 Rr [.cell 0 28]) (.n (.fn 35 RG [.tmp 4, .tmp 5, .tmp 6]) (.n (.fn 33 P5 [.tmp 8]) (.n (.fn 17 Kr [.tmp 3]) (.e fun _=> .no) (.e fun _=> .no)) (.e fun _=> .no)) (.n (.fn 6 Jp []) (.n (.fn 19 LC [.tmp 4]) (.e fun _=> .no) (.e fun _=> .no)) (.e fun _=> .no))) (.n (.fn 115 RN [.cell 4 54]) (.n (.fn 10 R8 [.tmp 4]) (.n (.fn 17 K6 [.tmp 4]) (.e fun _=> .no) (.e fun _=> .no)) (.e fun _=> .no)) (.n (.fn 27 JT []) (.n (.fn 7 Ma [.tmp 2]) (.e fun _=> .no) (.e fun _=> .no)) (.e fun _=> .no)))) (.n (.fn 11 Rz [.cell 6 28]) (.n (.fn 56 PH [.tmp 4, .tmp 5]) (.n (.fn 18 R1 []) (.n (.fn 19 KL [.cell 0 153]) (.e fun _=> .no) (.e fun _=> .no)) (.e fun _=> .no)) (.n (.fn 18 JD [.tmp 4]) (.n (.fn 27 LU [.tmp 4]) (.e fun _=> .no) (.e fun _=> .no)) (.e fun _=> .no))) (.n (.fn 37 RU [.tmp 6]) (.n (.fn 12 Qr [.tmp 5]) (.n (.fn 29 Lm []) (.e fun _=> .no) (.e fun _=> .no)) (.e fun _=> .no)) (.n (.fn 26 J9 []) (.n (.fn 8 Mq []) (.e fun _=> .no) (.e fun _=> .no)) (.e fun _=> .no))))))))
noncomputable def bB:Nat->FD:=MA.get
theorem lq:∀g,(bB g).Ok Tryz.prog g:=
 Tr.su (p:=fun g d=>d.Ok Tryz.prog g) (f:=fun g=>g) MA
   ⟨trivial,⟨trivial,⟨Rl,⟨Rn,⟨IF,⟨Ps,⟨PY,⟨Kd,(fun _=>trivial),(fun _=>trivial)⟩,⟨Mt,(fun _=>trivial),(fun _=>trivial)⟩⟩,⟨Jk,⟨Lp,(fun _=>trivial),(fun _=>trivial)⟩,(fun _=>trivial)⟩⟩,⟨IY,⟨Qd,⟨KO,(fun _=>trivial),(fun _=>trivial)⟩,(fun _=>trivial)⟩,⟨JG,⟨LX,(fun _=>trivial),(fun _=>trivial)⟩,(fun _=>trivial)⟩⟩⟩,⟨Pj,⟨PA,⟨Ja,⟨Kv,(fun _=>trivial),(fun _=>trivial)⟩,(fun _=>trivial)⟩,⟨Js,⟨LG,(fun _=>trivial),(fun _=>trivial)⟩,(fun _=>trivial)⟩⟩,⟨PQ,⟨Jc,⟨K9,(fun _=>trivial),(fun _=>trivial)⟩,(fun _=>trivial)⟩,⟨JW,⟨Md,(fun _=>trivial),(fun _=>trivial)⟩,(fun _=>trivial)⟩⟩⟩⟩,⟨IA,⟨IK,⟨IL,⟨I6,⟨Km,(fun _=>trivial),(fun _=>trivial)⟩,(fun _=>trivial)⟩,⟨Qw,⟨Lx,(fun _=>trivial),(fun _=>trivial)⟩,(fun _=>trivial)⟩⟩,⟨PM,⟨Qg,⟨K0,(fun _=>trivial),(fun _=>trivial)⟩,(fun _=>trivial)⟩,⟨JO,⟨L5,(fun _=>trivial),(fun _=>trivial)⟩,(fun _=>trivial)⟩⟩⟩,⟨Po,⟨IU,⟨Qa,⟨KG,(fun _=>trivial),(fun _=>trivial)⟩,(fun _=>trivial)⟩,⟨JA,⟨LO,(fun _=>trivial),(fun _=>trivial)⟩,(fun _=>trivial)⟩⟩,⟨I2,⟨Jg,⟨Lh,(fun _=>trivial),(fun _=>trivial)⟩,(fun _=>trivial)⟩,⟨J4,⟨Ml,(fun _=>trivial),(fun _=>trivial)⟩,(fun _=>trivial)⟩⟩⟩⟩⟩,⟨Tw,⟨Ro,⟨II,⟨Pu,⟨I4,⟨Ki,(fun _=>trivial),(fun _=>trivial)⟩,⟨Mx,(fun _=>trivial),(fun _=>trivial)⟩⟩,⟨Qu,⟨Lt,(fun _=>trivial),(fun _=>trivial)⟩,(fun _=>trivial)⟩⟩,⟨PK,⟨Fe,⟨KU,(fun _=>trivial),(fun _=>trivial)⟩,(fun _=>trivial)⟩,⟨JK,⟨L1,(fun _=>trivial),(fun _=>trivial)⟩,(fun _=>trivial)⟩⟩⟩,⟨Pl,⟨IP,⟨P8,⟨Kz,(fun _=>trivial),(fun _=>trivial)⟩,(fun _=>trivial)⟩,⟨Jw,⟨LK,(fun _=>trivial),(fun _=>trivial)⟩,(fun _=>trivial)⟩⟩,⟨PS,⟨Je,⟨Ld,(fun _=>trivial),(fun _=>trivial)⟩,(fun _=>trivial)⟩,⟨J0,⟨Mh,(fun _=>trivial),(fun _=>trivial)⟩,(fun _=>trivial)⟩⟩⟩⟩,⟨ID,⟨Pg,⟨Py,⟨I8,⟨Kq,(fun _=>trivial),(fun _=>trivial)⟩,(fun _=>trivial)⟩,⟨Jo,⟨LB,(fun _=>trivial),(fun _=>trivial)⟩,(fun _=>trivial)⟩⟩,⟨⟨I1,Iy⟩,⟨Qi,⟨K5,(fun _=>trivial),(fun _=>trivial)⟩,(fun _=>trivial)⟩,⟨JS,⟨L9,(fun _=>trivial),(fun _=>trivial)⟩,(fun _=>trivial)⟩⟩⟩,⟨Pq,⟨IW,⟨trivial,⟨KK,(fun _=>trivial),(fun _=>trivial)⟩,(fun _=>trivial)⟩,⟨DD,⟨LS,(fun _=>trivial),(fun _=>trivial)⟩,(fun _=>trivial)⟩⟩,⟨I3,⟨Ji,⟨Ll,(fun _=>trivial),(fun _=>trivial)⟩,(fun _=>trivial)⟩,⟨J8,⟨Mp,(fun _=>trivial),(fun _=>trivial)⟩,(fun _=>trivial)⟩⟩⟩⟩⟩⟩,⟨trivial,⟨Tv,⟨Tx,⟨IG,⟨Pt,⟨PZ,⟨Kg,(fun _=>trivial),(fun _=>trivial)⟩,⟨Mv,(fun _=>trivial),(fun _=>trivial)⟩⟩,⟨Qt,⟨Lr,(fun _=>trivial),(fun _=>trivial)⟩,(fun _=>trivial)⟩⟩,⟨IZ,⟨Qe,⟨KR,(fun _=>trivial),(fun _=>trivial)⟩,(fun _=>trivial)⟩,⟨JI,⟨LZ,(fun _=>trivial),(fun _=>trivial)⟩,(fun _=>trivial)⟩⟩⟩,⟨Pk,⟨IM,⟨Jb,⟨Kx,(fun _=>trivial),(fun _=>trivial)⟩,(fun _=>trivial)⟩,⟨Ju,⟨LI,(fun _=>trivial),(fun _=>trivial)⟩,(fun _=>trivial)⟩⟩,⟨PR,⟨Jd,⟨Lb,(fun _=>trivial),(fun _=>trivial)⟩,(fun _=>trivial)⟩,⟨JY,⟨Mf,(fun _=>trivial),(fun _=>trivial)⟩,(fun _=>trivial)⟩⟩⟩⟩,⟨IB,⟨Pf,⟨Px,⟨I7,⟨Ko,(fun _=>trivial),(fun _=>trivial)⟩,(fun _=>trivial)⟩,⟨Jm,⟨Lz,(fun _=>trivial),(fun _=>trivial)⟩,(fun _=>trivial)⟩⟩,⟨PN,⟨Qh,⟨K3,(fun _=>trivial),(fun _=>trivial)⟩,(fun _=>trivial)⟩,⟨JQ,⟨L7,(fun _=>trivial),(fun _=>trivial)⟩,(fun _=>trivial)⟩⟩⟩,⟨Pp,⟨IV,⟨Qb,⟨KI,(fun _=>trivial),(fun _=>trivial)⟩,(fun _=>trivial)⟩,⟨JC,⟨LQ,(fun _=>trivial),(fun _=>trivial)⟩,(fun _=>trivial)⟩⟩,⟨PV,⟨Jh,⟨Lj,(fun _=>trivial),(fun _=>trivial)⟩,(fun _=>trivial)⟩,⟨J6,⟨Mn,(fun _=>trivial),(fun _=>trivial)⟩,(fun _=>trivial)⟩⟩⟩⟩⟩,⟨Rm,⟨Iz,⟨IJ,⟨Pv,⟨I5,⟨Kk,(fun _=>trivial),(fun _=>trivial)⟩,⟨Mz,(fun _=>trivial),(fun _=>trivial)⟩⟩,⟨Qv,⟨Lv,(fun _=>trivial),(fun _=>trivial)⟩,(fun _=>trivial)⟩⟩,⟨PL,⟨Qf,⟨KY,(fun _=>trivial),(fun _=>trivial)⟩,(fun _=>trivial)⟩,⟨JM,⟨L3,(fun _=>trivial),(fun _=>trivial)⟩,(fun _=>trivial)⟩⟩⟩,⟨Pm,⟨IQ,⟨P9,⟨KC,(fun _=>trivial),(fun _=>trivial)⟩,(fun _=>trivial)⟩,⟨Jy,⟨LM,(fun _=>trivial),(fun _=>trivial)⟩,(fun _=>trivial)⟩⟩,⟨PT,⟨Jf,⟨Lf,(fun _=>trivial),(fun _=>trivial)⟩,(fun _=>trivial)⟩,⟨J2,⟨Mj,(fun _=>trivial),(fun _=>trivial)⟩,(fun _=>trivial)⟩⟩⟩⟩,⟨IE,⟨Ph,⟨Pz,⟨I9,⟨Ks,(fun _=>trivial),(fun _=>trivial)⟩,(fun _=>trivial)⟩,⟨Jq,⟨LD,(fun _=>trivial),(fun _=>trivial)⟩,(fun _=>trivial)⟩⟩,⟨PO,⟨Qj,⟨K7,(fun _=>trivial),(fun _=>trivial)⟩,(fun _=>trivial)⟩,⟨JU,⟨Mb,(fun _=>trivial),(fun _=>trivial)⟩,(fun _=>trivial)⟩⟩⟩,⟨Pr,⟨IX,⟨Qc,⟨KM,(fun _=>trivial),(fun _=>trivial)⟩,(fun _=>trivial)⟩,⟨JE,⟨LV,(fun _=>trivial),(fun _=>trivial)⟩,(fun _=>trivial)⟩⟩,⟨PX,⟨Jj,⟨Ln,(fun _=>trivial),(fun _=>trivial)⟩,(fun _=>trivial)⟩,⟨Ka,⟨Mr,(fun _=>trivial),(fun _=>trivial)⟩,(fun _=>trivial)⟩⟩⟩⟩⟩⟩⟩
end Go.Proofs.YtpkobkdgcanmjaaGreat
namespace Go.Proofs.YtpkobkdgcanmjaaGreat
@[go_sem] theorem cellsOf_3:Tryz.prog.cellsOf 3=1:=by kernel_rfl
@[go_sem] theorem bytesOf_3:Tryz.prog.bytesOf 3=8:=by kernel_rfl
@[go_sem] theorem sliceT_3:aI Tryz.prog 3=none:=by kernel_rfl
@[go_sem] theorem arrT_3:bE Tryz.prog 3=none:=by kernel_rfl
@[go_sem] theorem aggT_3:bq Tryz.prog 3=some false:=by kernel_rfl
@[go_sem] theorem intT_3:bL Tryz.prog 3=some .i64:=by kernel_rfl
@[go_sem] theorem isBoolT_3:aD Tryz.prog 3=false:=by kernel_rfl
@[go_sem] theorem infoT_3:(Tryz.prog.info? 3).isSome=true:=by kernel_rfl
@[go_sem] theorem plainIface_3:ag Tryz.prog 3=true:=by kernel_rfl
@[go_sem] theorem undT_3:Tryz.prog.underlying 3=some (.int .i64):=by kernel_rfl
@[go_sem] theorem eqShape_3:aV Tryz.prog 3=some .int:=by kernel_rfl
@[go_sem] theorem zeroT_3:aN Tryz.prog 3=some [.d (.int .i64 0)]:=by kernel_rfl
@[go_sem] theorem zeroV_3:zeroV Tryz.prog 3=some (.d (.int .i64 0)):=by kernel_rfl
@[go_sem] theorem zeroD_3:aT Tryz.prog 3=some (.int .i64 0):=by kernel_rfl
@[go_sem] theorem cellsOf_4:Tryz.prog.cellsOf 4=1:=by kernel_rfl
@[go_sem] theorem bytesOf_4:Tryz.prog.bytesOf 4=1:=by kernel_rfl
@[go_sem] theorem sliceT_4:aI Tryz.prog 4=none:=by kernel_rfl
@[go_sem] theorem arrT_4:bE Tryz.prog 4=none:=by kernel_rfl
@[go_sem] theorem aggT_4:bq Tryz.prog 4=some false:=by kernel_rfl
@[go_sem] theorem intT_4:bL Tryz.prog 4=none:=by kernel_rfl
@[go_sem] theorem isBoolT_4:aD Tryz.prog 4=true:=by kernel_rfl
@[go_sem] theorem infoT_4:(Tryz.prog.info? 4).isSome=true:=by kernel_rfl
@[go_sem] theorem plainIface_4:ag Tryz.prog 4=true:=by kernel_rfl
@[go_sem] theorem undT_4:Tryz.prog.underlying 4=some .bool:=by kernel_rfl
@[go_sem] theorem eqShape_4:aV Tryz.prog 4=some .bool:=by kernel_rfl
@[go_sem] theorem zeroT_4:aN Tryz.prog 4=some [.d (.bool false)]:=by kernel_rfl
@[go_sem] theorem zeroV_4:zeroV Tryz.prog 4=some (.d (.bool false)):=by kernel_rfl
@[go_sem] theorem zeroD_4:aT Tryz.prog 4=some (.bool false):=by kernel_rfl
@[go_sem] theorem cellsOf_5:Tryz.prog.cellsOf 5=1:=by kernel_rfl
@[go_sem] theorem bytesOf_5:Tryz.prog.bytesOf 5=1:=by kernel_rfl
@[go_sem] theorem sliceT_5:aI Tryz.prog 5=none:=by kernel_rfl
@[go_sem] theorem arrT_5:bE Tryz.prog 5=none:=by kernel_rfl
@[go_sem] theorem aggT_5:bq Tryz.prog 5=some false:=by kernel_rfl
@[go_sem] theorem intT_5:bL Tryz.prog 5=some .u8:=by kernel_rfl
@[go_sem] theorem isBoolT_5:aD Tryz.prog 5=false:=by kernel_rfl
@[go_sem] theorem infoT_5:(Tryz.prog.info? 5).isSome=true:=by kernel_rfl
@[go_sem] theorem plainIface_5:ag Tryz.prog 5=true:=by kernel_rfl
@[go_sem] theorem undT_5:Tryz.prog.underlying 5=some (.int .u8):=by kernel_rfl
@[go_sem] theorem eqShape_5:aV Tryz.prog 5=some .int:=by kernel_rfl
@[go_sem] theorem zeroT_5:aN Tryz.prog 5=some [.d (.int .u8 0)]:=by kernel_rfl
@[go_sem] theorem zeroV_5:zeroV Tryz.prog 5=some (.d (.int .u8 0)):=by kernel_rfl
@[go_sem] theorem zeroD_5:aT Tryz.prog 5=some (.int .u8 0):=by kernel_rfl
@[go_sem] theorem cellsOf_9:Tryz.prog.cellsOf 9=1:=by kernel_rfl
@[go_sem] theorem bytesOf_9:Tryz.prog.bytesOf 9=16:=by kernel_rfl
@[go_sem] theorem sliceT_9:aI Tryz.prog 9=none:=by kernel_rfl
@[go_sem] theorem arrT_9:bE Tryz.prog 9=none:=by kernel_rfl
@[go_sem] theorem aggT_9:bq Tryz.prog 9=some false:=by kernel_rfl
@[go_sem] theorem intT_9:bL Tryz.prog 9=none:=by kernel_rfl
@[go_sem] theorem isBoolT_9:aD Tryz.prog 9=false:=by kernel_rfl
@[go_sem] theorem infoT_9:(Tryz.prog.info? 9).isSome=true:=by kernel_rfl
@[go_sem] theorem plainIface_9:ag Tryz.prog 9=true:=by kernel_rfl
@[go_sem] theorem undT_9:Tryz.prog.underlying 9=some .string:=by kernel_rfl
@[go_sem] theorem eqShape_9:aV Tryz.prog 9=some .str:=by kernel_rfl
@[go_sem] theorem zeroT_9:aN Tryz.prog 9=some [.d (.str [])]:=by kernel_rfl
@[go_sem] theorem zeroV_9:zeroV Tryz.prog 9=some (.d (.str [])):=by kernel_rfl
@[go_sem] theorem zeroD_9:aT Tryz.prog 9=some (.str []):=by kernel_rfl
@[go_sem] theorem cellsOf_20:Tryz.prog.cellsOf 20=1:=by kernel_rfl
@[go_sem] theorem bytesOf_20:Tryz.prog.bytesOf 20=16:=by kernel_rfl
@[go_sem] theorem sliceT_20:aI Tryz.prog 20=none:=by kernel_rfl
@[go_sem] theorem arrT_20:bE Tryz.prog 20=none:=by kernel_rfl
@[go_sem] theorem aggT_20:bq Tryz.prog 20=some false:=by kernel_rfl
@[go_sem] theorem intT_20:bL Tryz.prog 20=none:=by kernel_rfl
@[go_sem] theorem isBoolT_20:aD Tryz.prog 20=false:=by kernel_rfl
@[go_sem] theorem infoT_20:(Tryz.prog.info? 20).isSome=true:=by kernel_rfl
@[go_sem] theorem plainIface_20:ag Tryz.prog 20=false:=by kernel_rfl
@[go_sem] theorem zeroT_20:aN Tryz.prog 20=some [.d .dI]:=by kernel_rfl
@[go_sem] theorem zeroV_20:zeroV Tryz.prog 20=some (.d .dI):=by kernel_rfl
@[go_sem] theorem zeroD_20:aT Tryz.prog 20=some .dI:=by kernel_rfl
@[go_sem] theorem cellsOf_21:Tryz.prog.cellsOf 21=1:=by kernel_rfl
@[go_sem] theorem bytesOf_21:Tryz.prog.bytesOf 21=4:=by kernel_rfl
@[go_sem] theorem sliceT_21:aI Tryz.prog 21=none:=by kernel_rfl
@[go_sem] theorem arrT_21:bE Tryz.prog 21=none:=by kernel_rfl
@[go_sem] theorem aggT_21:bq Tryz.prog 21=some false:=by kernel_rfl
@[go_sem] theorem intT_21:bL Tryz.prog 21=some .i32:=by kernel_rfl
@[go_sem] theorem isBoolT_21:aD Tryz.prog 21=false:=by kernel_rfl
@[go_sem] theorem infoT_21:(Tryz.prog.info? 21).isSome=true:=by kernel_rfl
@[go_sem] theorem plainIface_21:ag Tryz.prog 21=true:=by kernel_rfl
@[go_sem] theorem undT_21:Tryz.prog.underlying 21=some (.int .i32):=by kernel_rfl
@[go_sem] theorem eqShape_21:aV Tryz.prog 21=some .int:=by kernel_rfl
@[go_sem] theorem zeroT_21:aN Tryz.prog 21=some [.d (.int .i32 0)]:=by kernel_rfl
@[go_sem] theorem zeroV_21:zeroV Tryz.prog 21=some (.d (.int .i32 0)):=by kernel_rfl
@[go_sem] theorem zeroD_21:aT Tryz.prog 21=some (.int .i32 0):=by kernel_rfl
@[go_sem] theorem cellsOf_22:Tryz.prog.cellsOf 22=1:=by kernel_rfl
@[go_sem] theorem bytesOf_22:Tryz.prog.bytesOf 22=24:=by kernel_rfl
@[go_sem] theorem sliceT_22:aI Tryz.prog 22=some 69:=by kernel_rfl
@[go_sem] theorem arrT_22:bE Tryz.prog 22=none:=by kernel_rfl
@[go_sem] theorem aggT_22:bq Tryz.prog 22=some false:=by kernel_rfl
@[go_sem] theorem intT_22:bL Tryz.prog 22=none:=by kernel_rfl
@[go_sem] theorem isBoolT_22:aD Tryz.prog 22=false:=by kernel_rfl
@[go_sem] theorem infoT_22:(Tryz.prog.info? 22).isSome=true:=by kernel_rfl
@[go_sem] theorem plainIface_22:ag Tryz.prog 22=true:=by kernel_rfl
@[go_sem] theorem undT_22:Tryz.prog.underlying 22=some (.slice 69):=by kernel_rfl
@[go_sem] theorem zeroT_22:aN Tryz.prog 22=some [.aM]:=by kernel_rfl
@[go_sem] theorem zeroV_22:zeroV Tryz.prog 22=some (.aM):=by kernel_rfl
@[go_sem] theorem zeroD_22:aT Tryz.prog 22=some (.sl []):=by kernel_rfl
@[go_sem] theorem cellsOf_24:Tryz.prog.cellsOf 24=2:=by kernel_rfl
@[go_sem] theorem bytesOf_24:Tryz.prog.bytesOf 24=48:=by kernel_rfl
@[go_sem] theorem sliceT_24:aI Tryz.prog 24=none:=by kernel_rfl
@[go_sem] theorem arrT_24:bE Tryz.prog 24=none:=by kernel_rfl
@[go_sem] theorem aggT_24:bq Tryz.prog 24=some true:=by kernel_rfl
@[go_sem] theorem intT_24:bL Tryz.prog 24=none:=by kernel_rfl
@[go_sem] theorem isBoolT_24:aD Tryz.prog 24=false:=by kernel_rfl
@[go_sem] theorem infoT_24:(Tryz.prog.info? 24).isSome=true:=by kernel_rfl
@[go_sem] theorem plainIface_24:ag Tryz.prog 24=true:=by kernel_rfl
@[go_sem] theorem zeroT_24:aN Tryz.prog 24=some [.aM, .aM]:=by kernel_rfl
@[go_sem] theorem zeroV_24:zeroV Tryz.prog 24=some (dC [.aM, .aM]):=by kernel_rfl
@[go_sem] theorem zeroD_24:aT Tryz.prog 24=some (.agg [(.sl []),(.sl [])]):=by kernel_rfl
@[go_sem] theorem placesT_24:cA Tryz.prog 24=some [(0,1),(1,1)]:=by kernel_rfl
@[go_sem] theorem cellsOf_25:Tryz.prog.cellsOf 25=1:=by kernel_rfl
@[go_sem] theorem bytesOf_25:Tryz.prog.bytesOf 25=8:=by kernel_rfl
@[go_sem] theorem sliceT_25:aI Tryz.prog 25=none:=by kernel_rfl
@[go_sem] theorem arrT_25:bE Tryz.prog 25=none:=by kernel_rfl
@[go_sem] theorem aggT_25:bq Tryz.prog 25=some false:=by kernel_rfl
@[go_sem] theorem intT_25:bL Tryz.prog 25=some .i64:=by kernel_rfl
@[go_sem] theorem isBoolT_25:aD Tryz.prog 25=false:=by kernel_rfl
@[go_sem] theorem infoT_25:(Tryz.prog.info? 25).isSome=true:=by kernel_rfl
@[go_sem] theorem plainIface_25:ag Tryz.prog 25=true:=by kernel_rfl
@[go_sem] theorem undT_25:Tryz.prog.underlying 25=some (.int .i64):=by kernel_rfl
@[go_sem] theorem eqShape_25:aV Tryz.prog 25=some .int:=by kernel_rfl
@[go_sem] theorem zeroT_25:aN Tryz.prog 25=some [.d (.int .i64 0)]:=by kernel_rfl
@[go_sem] theorem zeroV_25:zeroV Tryz.prog 25=some (.d (.int .i64 0)):=by kernel_rfl
@[go_sem] theorem zeroD_25:aT Tryz.prog 25=some (.int .i64 0):=by kernel_rfl
@[go_sem] theorem cellsOf_26:Tryz.prog.cellsOf 26=1:=by kernel_rfl
@[go_sem] theorem bytesOf_26:Tryz.prog.bytesOf 26=24:=by kernel_rfl
@[go_sem] theorem sliceT_26:aI Tryz.prog 26=some 28:=by kernel_rfl
@[go_sem] theorem arrT_26:bE Tryz.prog 26=none:=by kernel_rfl
@[go_sem] theorem aggT_26:bq Tryz.prog 26=some false:=by kernel_rfl
@[go_sem] theorem intT_26:bL Tryz.prog 26=none:=by kernel_rfl
@[go_sem] theorem isBoolT_26:aD Tryz.prog 26=false:=by kernel_rfl
@[go_sem] theorem infoT_26:(Tryz.prog.info? 26).isSome=true:=by kernel_rfl
@[go_sem] theorem plainIface_26:ag Tryz.prog 26=true:=by kernel_rfl
@[go_sem] theorem undT_26:Tryz.prog.underlying 26=some (.slice 28):=by kernel_rfl
@[go_sem] theorem zeroT_26:aN Tryz.prog 26=some [.aM]:=by kernel_rfl
@[go_sem] theorem zeroV_26:zeroV Tryz.prog 26=some (.aM):=by kernel_rfl
@[go_sem] theorem zeroD_26:aT Tryz.prog 26=some (.sl []):=by kernel_rfl
@[go_sem] theorem cellsOf_28:Tryz.prog.cellsOf 28=3:=by kernel_rfl
@[go_sem] theorem bytesOf_28:Tryz.prog.bytesOf 28=40:=by kernel_rfl
@[go_sem] theorem sliceT_28:aI Tryz.prog 28=none:=by kernel_rfl
@[go_sem] theorem arrT_28:bE Tryz.prog 28=none:=by kernel_rfl
@[go_sem] theorem aggT_28:bq Tryz.prog 28=some true:=by kernel_rfl
@[go_sem] theorem intT_28:bL Tryz.prog 28=none:=by kernel_rfl
@[go_sem] theorem isBoolT_28:aD Tryz.prog 28=false:=by kernel_rfl
@[go_sem] theorem infoT_28:(Tryz.prog.info? 28).isSome=true:=by kernel_rfl
@[go_sem] theorem plainIface_28:ag Tryz.prog 28=true:=by kernel_rfl
@[go_sem] theorem zeroT_28:aN Tryz.prog 28=some [.d (.int .i64 0), .d (.int .i64 0), .aM]:=by kernel_rfl
@[go_sem] theorem zeroV_28:zeroV Tryz.prog 28=some (dC [.d (.int .i64 0), .d (.int .i64 0), .aM]):=by kernel_rfl
@[go_sem] theorem zeroD_28:aT Tryz.prog 28=some (.agg [(.int .i64 0),(.int .i64 0),(.sl [])]):=by kernel_rfl
@[go_sem] theorem placesT_28:cA Tryz.prog 28=some [(0,1),(1,1),(2,1)]:=by kernel_rfl
@[go_sem] theorem cellsOf_30:Tryz.prog.cellsOf 30=1:=by kernel_rfl
@[go_sem] theorem bytesOf_30:Tryz.prog.bytesOf 30=8:=by kernel_rfl
@[go_sem] theorem sliceT_30:aI Tryz.prog 30=none:=by kernel_rfl
@[go_sem] theorem arrT_30:bE Tryz.prog 30=none:=by kernel_rfl
@[go_sem] theorem aggT_30:bq Tryz.prog 30=some false:=by kernel_rfl
@[go_sem] theorem intT_30:bL Tryz.prog 30=none:=by kernel_rfl
@[go_sem] theorem isBoolT_30:aD Tryz.prog 30=false:=by kernel_rfl
@[go_sem] theorem infoT_30:(Tryz.prog.info? 30).isSome=true:=by kernel_rfl
@[go_sem] theorem plainIface_30:ag Tryz.prog 30=true:=by kernel_rfl
@[go_sem] theorem zeroT_30:aN Tryz.prog 30=some [.d .aF]:=by kernel_rfl
@[go_sem] theorem zeroV_30:zeroV Tryz.prog 30=some (.d .aF):=by kernel_rfl
@[go_sem] theorem zeroD_30:aT Tryz.prog 30=some .aF:=by kernel_rfl
@[go_sem] theorem cellsOf_32:Tryz.prog.cellsOf 32=1:=by kernel_rfl
@[go_sem] theorem bytesOf_32:Tryz.prog.bytesOf 32=8:=by kernel_rfl
@[go_sem] theorem sliceT_32:aI Tryz.prog 32=none:=by kernel_rfl
@[go_sem] theorem arrT_32:bE Tryz.prog 32=none:=by kernel_rfl
@[go_sem] theorem aggT_32:bq Tryz.prog 32=some false:=by kernel_rfl
@[go_sem] theorem intT_32:bL Tryz.prog 32=some .i64:=by kernel_rfl
@[go_sem] theorem isBoolT_32:aD Tryz.prog 32=false:=by kernel_rfl
@[go_sem] theorem infoT_32:(Tryz.prog.info? 32).isSome=true:=by kernel_rfl
@[go_sem] theorem plainIface_32:ag Tryz.prog 32=true:=by kernel_rfl
@[go_sem] theorem undT_32:Tryz.prog.underlying 32=some (.int .i64):=by kernel_rfl
@[go_sem] theorem eqShape_32:aV Tryz.prog 32=some .int:=by kernel_rfl
@[go_sem] theorem zeroT_32:aN Tryz.prog 32=some [.d (.int .i64 0)]:=by kernel_rfl
@[go_sem] theorem zeroV_32:zeroV Tryz.prog 32=some (.d (.int .i64 0)):=by kernel_rfl
@[go_sem] theorem zeroD_32:aT Tryz.prog 32=some (.int .i64 0):=by kernel_rfl
@[go_sem] theorem cellsOf_40:Tryz.prog.cellsOf 40=1:=by kernel_rfl
@[go_sem] theorem bytesOf_40:Tryz.prog.bytesOf 40=8:=by kernel_rfl
@[go_sem] theorem sliceT_40:aI Tryz.prog 40=none:=by kernel_rfl
@[go_sem] theorem arrT_40:bE Tryz.prog 40=none:=by kernel_rfl
@[go_sem] theorem aggT_40:bq Tryz.prog 40=some false:=by kernel_rfl
@[go_sem] theorem intT_40:bL Tryz.prog 40=none:=by kernel_rfl
@[go_sem] theorem isBoolT_40:aD Tryz.prog 40=false:=by kernel_rfl
@[go_sem] theorem infoT_40:(Tryz.prog.info? 40).isSome=true:=by kernel_rfl
@[go_sem] theorem plainIface_40:ag Tryz.prog 40=true:=by kernel_rfl
@[go_sem] theorem zeroT_40:aN Tryz.prog 40=some [.d .aF]:=by kernel_rfl
@[go_sem] theorem zeroV_40:zeroV Tryz.prog 40=some (.d .aF):=by kernel_rfl
@[go_sem] theorem zeroD_40:aT Tryz.prog 40=some .aF:=by kernel_rfl
@[go_sem] theorem cellsOf_45:Tryz.prog.cellsOf 45=1:=by kernel_rfl
@[go_sem] theorem bytesOf_45:Tryz.prog.bytesOf 45=24:=by kernel_rfl
@[go_sem] theorem sliceT_45:aI Tryz.prog 45=some 84:=by kernel_rfl
@[go_sem] theorem arrT_45:bE Tryz.prog 45=none:=by kernel_rfl
@[go_sem] theorem aggT_45:bq Tryz.prog 45=some false:=by kernel_rfl
@[go_sem] theorem intT_45:bL Tryz.prog 45=none:=by kernel_rfl
@[go_sem] theorem isBoolT_45:aD Tryz.prog 45=false:=by kernel_rfl
@[go_sem] theorem infoT_45:(Tryz.prog.info? 45).isSome=true:=by kernel_rfl
@[go_sem] theorem plainIface_45:ag Tryz.prog 45=true:=by kernel_rfl
@[go_sem] theorem undT_45:Tryz.prog.underlying 45=some (.slice 84):=by kernel_rfl
@[go_sem] theorem zeroT_45:aN Tryz.prog 45=some [.aM]:=by kernel_rfl
@[go_sem] theorem zeroV_45:zeroV Tryz.prog 45=some (.aM):=by kernel_rfl
@[go_sem] theorem zeroD_45:aT Tryz.prog 45=some (.sl []):=by kernel_rfl
@[go_sem] theorem cellsOf_47:Tryz.prog.cellsOf 47=3:=by kernel_rfl
@[go_sem] theorem bytesOf_47:Tryz.prog.bytesOf 47=72:=by kernel_rfl
@[go_sem] theorem sliceT_47:aI Tryz.prog 47=none:=by kernel_rfl
@[go_sem] theorem arrT_47:bE Tryz.prog 47=none:=by kernel_rfl
@[go_sem] theorem aggT_47:bq Tryz.prog 47=some true:=by kernel_rfl
@[go_sem] theorem intT_47:bL Tryz.prog 47=none:=by kernel_rfl
@[go_sem] theorem isBoolT_47:aD Tryz.prog 47=false:=by kernel_rfl
@[go_sem] theorem infoT_47:(Tryz.prog.info? 47).isSome=true:=by kernel_rfl
@[go_sem] theorem plainIface_47:ag Tryz.prog 47=true:=by kernel_rfl
@[go_sem] theorem zeroT_47:aN Tryz.prog 47=some [.aM, .aM, .aM]:=by kernel_rfl
@[go_sem] theorem zeroV_47:zeroV Tryz.prog 47=some (dC [.aM, .aM, .aM]):=by kernel_rfl
@[go_sem] theorem zeroD_47:aT Tryz.prog 47=some (.agg [(.sl []),(.sl []),(.sl [])]):=by kernel_rfl
@[go_sem] theorem placesT_47:cA Tryz.prog 47=some [(0,2),(2,1)]:=by kernel_rfl
@[go_sem] theorem cellsOf_51:Tryz.prog.cellsOf 51=1:=by kernel_rfl
@[go_sem] theorem bytesOf_51:Tryz.prog.bytesOf 51=8:=by kernel_rfl
@[go_sem] theorem sliceT_51:aI Tryz.prog 51=none:=by kernel_rfl
@[go_sem] theorem arrT_51:bE Tryz.prog 51=none:=by kernel_rfl
@[go_sem] theorem aggT_51:bq Tryz.prog 51=some false:=by kernel_rfl
@[go_sem] theorem intT_51:bL Tryz.prog 51=some .i64:=by kernel_rfl
@[go_sem] theorem isBoolT_51:aD Tryz.prog 51=false:=by kernel_rfl
@[go_sem] theorem infoT_51:(Tryz.prog.info? 51).isSome=true:=by kernel_rfl
@[go_sem] theorem plainIface_51:ag Tryz.prog 51=true:=by kernel_rfl
@[go_sem] theorem undT_51:Tryz.prog.underlying 51=some (.int .i64):=by kernel_rfl
@[go_sem] theorem eqShape_51:aV Tryz.prog 51=some .int:=by kernel_rfl
@[go_sem] theorem zeroT_51:aN Tryz.prog 51=some [.d (.int .i64 0)]:=by kernel_rfl
@[go_sem] theorem zeroV_51:zeroV Tryz.prog 51=some (.d (.int .i64 0)):=by kernel_rfl
@[go_sem] theorem zeroD_51:aT Tryz.prog 51=some (.int .i64 0):=by kernel_rfl
@[go_sem] theorem cellsOf_52:Tryz.prog.cellsOf 52=1:=by kernel_rfl
@[go_sem] theorem bytesOf_52:Tryz.prog.bytesOf 52=24:=by kernel_rfl
@[go_sem] theorem sliceT_52:aI Tryz.prog 52=some 54:=by kernel_rfl
@[go_sem] theorem arrT_52:bE Tryz.prog 52=none:=by kernel_rfl
@[go_sem] theorem aggT_52:bq Tryz.prog 52=some false:=by kernel_rfl
@[go_sem] theorem intT_52:bL Tryz.prog 52=none:=by kernel_rfl
@[go_sem] theorem isBoolT_52:aD Tryz.prog 52=false:=by kernel_rfl
@[go_sem] theorem infoT_52:(Tryz.prog.info? 52).isSome=true:=by kernel_rfl
@[go_sem] theorem plainIface_52:ag Tryz.prog 52=true:=by kernel_rfl
@[go_sem] theorem undT_52:Tryz.prog.underlying 52=some (.slice 54):=by kernel_rfl
@[go_sem] theorem zeroT_52:aN Tryz.prog 52=some [.aM]:=by kernel_rfl
@[go_sem] theorem zeroV_52:zeroV Tryz.prog 52=some (.aM):=by kernel_rfl
@[go_sem] theorem zeroD_52:aT Tryz.prog 52=some (.sl []):=by kernel_rfl
@[go_sem] theorem cellsOf_54:Tryz.prog.cellsOf 54=7:=by kernel_rfl
@[go_sem] theorem bytesOf_54:Tryz.prog.bytesOf 54=104:=by kernel_rfl
@[go_sem] theorem sliceT_54:aI Tryz.prog 54=none:=by kernel_rfl
@[go_sem] theorem arrT_54:bE Tryz.prog 54=none:=by kernel_rfl
@[go_sem] theorem aggT_54:bq Tryz.prog 54=some true:=by kernel_rfl
@[go_sem] theorem intT_54:bL Tryz.prog 54=none:=by kernel_rfl
@[go_sem] theorem isBoolT_54:aD Tryz.prog 54=false:=by kernel_rfl
@[go_sem] theorem infoT_54:(Tryz.prog.info? 54).isSome=true:=by kernel_rfl
@[go_sem] theorem plainIface_54:ag Tryz.prog 54=true:=by kernel_rfl
@[go_sem] theorem zeroT_54:aN Tryz.prog 54=some [.d (.int .i64 0), .d (.int .i64 0), .d (.int .i64 0), .aM, .d (.int .i64 0), .aM, .aM]:=by kernel_rfl
@[go_sem] theorem zeroV_54:zeroV Tryz.prog 54=some (dC [.d (.int .i64 0), .d (.int .i64 0), .d (.int .i64 0), .aM, .d (.int .i64 0), .aM, .aM]):=by kernel_rfl
@[go_sem] theorem zeroD_54:aT Tryz.prog 54=some (.agg [(.int .i64 0),(.int .i64 0),(.int .i64 0),(.sl []),(.int .i64 0),(.sl []),(.sl [])]):=by kernel_rfl
@[go_sem] theorem placesT_54:cA Tryz.prog 54=some [(0,1),(1,3),(4,1),(5,1),(6,1)]:=by kernel_rfl
@[go_sem] theorem cellsOf_61:Tryz.prog.cellsOf 61=4:=by kernel_rfl
@[go_sem] theorem bytesOf_61:Tryz.prog.bytesOf 61=48:=by kernel_rfl
@[go_sem] theorem sliceT_61:aI Tryz.prog 61=none:=by kernel_rfl
@[go_sem] theorem arrT_61:bE Tryz.prog 61=none:=by kernel_rfl
@[go_sem] theorem aggT_61:bq Tryz.prog 61=some true:=by kernel_rfl
@[go_sem] theorem intT_61:bL Tryz.prog 61=none:=by kernel_rfl
@[go_sem] theorem isBoolT_61:aD Tryz.prog 61=false:=by kernel_rfl
@[go_sem] theorem infoT_61:(Tryz.prog.info? 61).isSome=true:=by kernel_rfl
@[go_sem] theorem plainIface_61:ag Tryz.prog 61=true:=by kernel_rfl
@[go_sem] theorem zeroT_61:aN Tryz.prog 61=some [.d (.int .i64 0), .d (.int .i64 0), .d (.int .i64 0), .aM]:=by kernel_rfl
@[go_sem] theorem zeroV_61:zeroV Tryz.prog 61=some (dC [.d (.int .i64 0), .d (.int .i64 0), .d (.int .i64 0), .aM]):=by kernel_rfl
@[go_sem] theorem zeroD_61:aT Tryz.prog 61=some (.agg [(.int .i64 0),(.int .i64 0),(.int .i64 0),(.sl [])]):=by kernel_rfl
@[go_sem] theorem placesT_61:cA Tryz.prog 61=some [(0,1),(1,3)]:=by kernel_rfl
@[go_sem] theorem cellsOf_62:Tryz.prog.cellsOf 62=1:=by kernel_rfl
@[go_sem] theorem bytesOf_62:Tryz.prog.bytesOf 62=24:=by kernel_rfl
@[go_sem] theorem sliceT_62:aI Tryz.prog 62=some 61:=by kernel_rfl
@[go_sem] theorem arrT_62:bE Tryz.prog 62=none:=by kernel_rfl
@[go_sem] theorem aggT_62:bq Tryz.prog 62=some false:=by kernel_rfl
@[go_sem] theorem intT_62:bL Tryz.prog 62=none:=by kernel_rfl
@[go_sem] theorem isBoolT_62:aD Tryz.prog 62=false:=by kernel_rfl
@[go_sem] theorem infoT_62:(Tryz.prog.info? 62).isSome=true:=by kernel_rfl
@[go_sem] theorem plainIface_62:ag Tryz.prog 62=true:=by kernel_rfl
@[go_sem] theorem undT_62:Tryz.prog.underlying 62=some (.slice 61):=by kernel_rfl
@[go_sem] theorem zeroT_62:aN Tryz.prog 62=some [.aM]:=by kernel_rfl
@[go_sem] theorem zeroV_62:zeroV Tryz.prog 62=some (.aM):=by kernel_rfl
@[go_sem] theorem zeroD_62:aT Tryz.prog 62=some (.sl []):=by kernel_rfl
@[go_sem] theorem cellsOf_67:Tryz.prog.cellsOf 67=1:=by kernel_rfl
@[go_sem] theorem bytesOf_67:Tryz.prog.bytesOf 67=8:=by kernel_rfl
@[go_sem] theorem sliceT_67:aI Tryz.prog 67=none:=by kernel_rfl
@[go_sem] theorem arrT_67:bE Tryz.prog 67=none:=by kernel_rfl
@[go_sem] theorem aggT_67:bq Tryz.prog 67=some false:=by kernel_rfl
@[go_sem] theorem intT_67:bL Tryz.prog 67=none:=by kernel_rfl
@[go_sem] theorem isBoolT_67:aD Tryz.prog 67=false:=by kernel_rfl
@[go_sem] theorem infoT_67:(Tryz.prog.info? 67).isSome=true:=by kernel_rfl
@[go_sem] theorem plainIface_67:ag Tryz.prog 67=true:=by kernel_rfl
@[go_sem] theorem zeroT_67:aN Tryz.prog 67=some [.d .aF]:=by kernel_rfl
@[go_sem] theorem zeroV_67:zeroV Tryz.prog 67=some (.d .aF):=by kernel_rfl
@[go_sem] theorem zeroD_67:aT Tryz.prog 67=some .aF:=by kernel_rfl
@[go_sem] theorem cellsOf_69:Tryz.prog.cellsOf 69=2:=by kernel_rfl
@[go_sem] theorem bytesOf_69:Tryz.prog.bytesOf 69=24:=by kernel_rfl
@[go_sem] theorem sliceT_69:aI Tryz.prog 69=none:=by kernel_rfl
@[go_sem] theorem arrT_69:bE Tryz.prog 69=none:=by kernel_rfl
@[go_sem] theorem aggT_69:bq Tryz.prog 69=some true:=by kernel_rfl
@[go_sem] theorem intT_69:bL Tryz.prog 69=none:=by kernel_rfl
@[go_sem] theorem isBoolT_69:aD Tryz.prog 69=false:=by kernel_rfl
@[go_sem] theorem infoT_69:(Tryz.prog.info? 69).isSome=true:=by kernel_rfl
@[go_sem] theorem plainIface_69:ag Tryz.prog 69=true:=by kernel_rfl
@[go_sem] theorem zeroT_69:aN Tryz.prog 69=some [.d (.str []), .d (.int .i64 0)]:=by kernel_rfl
@[go_sem] theorem zeroV_69:zeroV Tryz.prog 69=some (dC [.d (.str []), .d (.int .i64 0)]):=by kernel_rfl
@[go_sem] theorem zeroD_69:aT Tryz.prog 69=some (.agg [(.str []),(.int .i64 0)]):=by kernel_rfl
@[go_sem] theorem placesT_69:cA Tryz.prog 69=some [(0,1),(1,1)]:=by kernel_rfl
@[go_sem] theorem cellsOf_72:Tryz.prog.cellsOf 72=1:=by kernel_rfl
@[go_sem] theorem bytesOf_72:Tryz.prog.bytesOf 72=24:=by kernel_rfl
@[go_sem] theorem sliceT_72:aI Tryz.prog 72=some 3:=by kernel_rfl
@[go_sem] theorem arrT_72:bE Tryz.prog 72=none:=by kernel_rfl
@[go_sem] theorem aggT_72:bq Tryz.prog 72=some false:=by kernel_rfl
@[go_sem] theorem intT_72:bL Tryz.prog 72=none:=by kernel_rfl
@[go_sem] theorem isBoolT_72:aD Tryz.prog 72=false:=by kernel_rfl
@[go_sem] theorem infoT_72:(Tryz.prog.info? 72).isSome=true:=by kernel_rfl
@[go_sem] theorem plainIface_72:ag Tryz.prog 72=true:=by kernel_rfl
@[go_sem] theorem undT_72:Tryz.prog.underlying 72=some (.slice 3):=by kernel_rfl
@[go_sem] theorem zeroT_72:aN Tryz.prog 72=some [.aM]:=by kernel_rfl
@[go_sem] theorem zeroV_72:zeroV Tryz.prog 72=some (.aM):=by kernel_rfl
@[go_sem] theorem zeroD_72:aT Tryz.prog 72=some (.sl []):=by kernel_rfl
@[go_sem] theorem cellsOf_79:Tryz.prog.cellsOf 79=1:=by kernel_rfl
@[go_sem] theorem bytesOf_79:Tryz.prog.bytesOf 79=24:=by kernel_rfl
@[go_sem] theorem sliceT_79:aI Tryz.prog 79=some 9:=by kernel_rfl
@[go_sem] theorem arrT_79:bE Tryz.prog 79=none:=by kernel_rfl
@[go_sem] theorem aggT_79:bq Tryz.prog 79=some false:=by kernel_rfl
@[go_sem] theorem intT_79:bL Tryz.prog 79=none:=by kernel_rfl
@[go_sem] theorem isBoolT_79:aD Tryz.prog 79=false:=by kernel_rfl
@[go_sem] theorem infoT_79:(Tryz.prog.info? 79).isSome=true:=by kernel_rfl
@[go_sem] theorem plainIface_79:ag Tryz.prog 79=true:=by kernel_rfl
@[go_sem] theorem undT_79:Tryz.prog.underlying 79=some (.slice 9):=by kernel_rfl
@[go_sem] theorem zeroT_79:aN Tryz.prog 79=some [.aM]:=by kernel_rfl
@[go_sem] theorem zeroV_79:zeroV Tryz.prog 79=some (.aM):=by kernel_rfl
@[go_sem] theorem zeroD_79:aT Tryz.prog 79=some (.sl []):=by kernel_rfl
@[go_sem] theorem cellsOf_84:Tryz.prog.cellsOf 84=6:=by kernel_rfl
@[go_sem] theorem bytesOf_84:Tryz.prog.bytesOf 84=80:=by kernel_rfl
@[go_sem] theorem sliceT_84:aI Tryz.prog 84=none:=by kernel_rfl
@[go_sem] theorem arrT_84:bE Tryz.prog 84=none:=by kernel_rfl
@[go_sem] theorem aggT_84:bq Tryz.prog 84=some true:=by kernel_rfl
@[go_sem] theorem intT_84:bL Tryz.prog 84=none:=by kernel_rfl
@[go_sem] theorem isBoolT_84:aD Tryz.prog 84=false:=by kernel_rfl
@[go_sem] theorem infoT_84:(Tryz.prog.info? 84).isSome=true:=by kernel_rfl
@[go_sem] theorem plainIface_84:ag Tryz.prog 84=true:=by kernel_rfl
@[go_sem] theorem zeroT_84:aN Tryz.prog 84=some [.d (.int .i64 0), .aM, .d (.int .i64 0), .d (.int .i64 0), .aM, .d (.int .i64 0)]:=by kernel_rfl
@[go_sem] theorem zeroV_84:zeroV Tryz.prog 84=some (dC [.d (.int .i64 0), .aM, .d (.int .i64 0), .d (.int .i64 0), .aM, .d (.int .i64 0)]):=by kernel_rfl
@[go_sem] theorem zeroD_84:aT Tryz.prog 84=some (.agg [(.int .i64 0),(.sl []),(.int .i64 0),(.int .i64 0),(.sl []),(.int .i64 0)]):=by kernel_rfl
@[go_sem] theorem placesT_84:cA Tryz.prog 84=some [(0,1),(1,1),(2,3),(5,1)]:=by kernel_rfl
@[go_sem] theorem cellsOf_90:Tryz.prog.cellsOf 90=1:=by kernel_rfl
@[go_sem] theorem bytesOf_90:Tryz.prog.bytesOf 90=8:=by kernel_rfl
@[go_sem] theorem sliceT_90:aI Tryz.prog 90=none:=by kernel_rfl
@[go_sem] theorem arrT_90:bE Tryz.prog 90=none:=by kernel_rfl
@[go_sem] theorem aggT_90:bq Tryz.prog 90=some false:=by kernel_rfl
@[go_sem] theorem intT_90:bL Tryz.prog 90=none:=by kernel_rfl
@[go_sem] theorem isBoolT_90:aD Tryz.prog 90=false:=by kernel_rfl
@[go_sem] theorem infoT_90:(Tryz.prog.info? 90).isSome=true:=by kernel_rfl
@[go_sem] theorem plainIface_90:ag Tryz.prog 90=true:=by kernel_rfl
@[go_sem] theorem undT_90:Tryz.prog.underlying 90=some (.map 3 28):=by kernel_rfl
@[go_sem] theorem mapT_90:mQ Tryz.prog 90=some (3,28):=by kernel_rfl
@[go_sem] theorem zeroT_90:aN Tryz.prog 90=some [.d .dr]:=by kernel_rfl
@[go_sem] theorem zeroV_90:zeroV Tryz.prog 90=some (.d .dr):=by kernel_rfl
@[go_sem] theorem zeroD_90:aT Tryz.prog 90=some .dr:=by kernel_rfl
@[go_sem] theorem cellsOf_100:Tryz.prog.cellsOf 100=1:=by kernel_rfl
@[go_sem] theorem bytesOf_100:Tryz.prog.bytesOf 100=16:=by kernel_rfl
@[go_sem] theorem sliceT_100:aI Tryz.prog 100=none:=by kernel_rfl
@[go_sem] theorem arrT_100:bE Tryz.prog 100=none:=by kernel_rfl
@[go_sem] theorem aggT_100:bq Tryz.prog 100=some false:=by kernel_rfl
@[go_sem] theorem intT_100:bL Tryz.prog 100=none:=by kernel_rfl
@[go_sem] theorem isBoolT_100:aD Tryz.prog 100=false:=by kernel_rfl
@[go_sem] theorem infoT_100:(Tryz.prog.info? 100).isSome=true:=by kernel_rfl
@[go_sem] theorem plainIface_100:ag Tryz.prog 100=false:=by kernel_rfl
@[go_sem] theorem zeroT_100:aN Tryz.prog 100=some [.d .dI]:=by kernel_rfl
@[go_sem] theorem zeroV_100:zeroV Tryz.prog 100=some (.d .dI):=by kernel_rfl
@[go_sem] theorem zeroD_100:aT Tryz.prog 100=some .dI:=by kernel_rfl
@[go_sem] theorem cellsOf_103:Tryz.prog.cellsOf 103=0:=by kernel_rfl
@[go_sem] theorem bytesOf_103:Tryz.prog.bytesOf 103=0:=by kernel_rfl
@[go_sem] theorem sliceT_103:aI Tryz.prog 103=none:=by kernel_rfl
@[go_sem] theorem arrT_103:bE Tryz.prog 103=none:=by kernel_rfl
@[go_sem] theorem aggT_103:bq Tryz.prog 103=some true:=by kernel_rfl
@[go_sem] theorem intT_103:bL Tryz.prog 103=none:=by kernel_rfl
@[go_sem] theorem isBoolT_103:aD Tryz.prog 103=false:=by kernel_rfl
@[go_sem] theorem infoT_103:(Tryz.prog.info? 103).isSome=true:=by kernel_rfl
@[go_sem] theorem plainIface_103:ag Tryz.prog 103=true:=by kernel_rfl
@[go_sem] theorem zeroT_103:aN Tryz.prog 103=some []:=by kernel_rfl
@[go_sem] theorem zeroV_103:zeroV Tryz.prog 103=some (dC []):=by kernel_rfl
@[go_sem] theorem zeroD_103:aT Tryz.prog 103=some (.agg []):=by kernel_rfl
@[go_sem] theorem placesT_103:cA Tryz.prog 103=some []:=by kernel_rfl
@[go_sem] theorem cellsOf_104:Tryz.prog.cellsOf 104=1:=by kernel_rfl
@[go_sem] theorem bytesOf_104:Tryz.prog.bytesOf 104=8:=by kernel_rfl
@[go_sem] theorem sliceT_104:aI Tryz.prog 104=none:=by kernel_rfl
@[go_sem] theorem arrT_104:bE Tryz.prog 104=none:=by kernel_rfl
@[go_sem] theorem aggT_104:bq Tryz.prog 104=some false:=by kernel_rfl
@[go_sem] theorem intT_104:bL Tryz.prog 104=some .i64:=by kernel_rfl
@[go_sem] theorem isBoolT_104:aD Tryz.prog 104=false:=by kernel_rfl
@[go_sem] theorem infoT_104:(Tryz.prog.info? 104).isSome=true:=by kernel_rfl
@[go_sem] theorem plainIface_104:ag Tryz.prog 104=true:=by kernel_rfl
@[go_sem] theorem undT_104:Tryz.prog.underlying 104=some (.int .i64):=by kernel_rfl
@[go_sem] theorem eqShape_104:aV Tryz.prog 104=some .int:=by kernel_rfl
@[go_sem] theorem zeroT_104:aN Tryz.prog 104=some [.d (.int .i64 0)]:=by kernel_rfl
@[go_sem] theorem zeroV_104:zeroV Tryz.prog 104=some (.d (.int .i64 0)):=by kernel_rfl
@[go_sem] theorem zeroD_104:aT Tryz.prog 104=some (.int .i64 0):=by kernel_rfl
@[go_sem] theorem cellsOf_105:Tryz.prog.cellsOf 105=3:=by kernel_rfl
@[go_sem] theorem bytesOf_105:Tryz.prog.bytesOf 105=40:=by kernel_rfl
@[go_sem] theorem sliceT_105:aI Tryz.prog 105=none:=by kernel_rfl
@[go_sem] theorem arrT_105:bE Tryz.prog 105=none:=by kernel_rfl
@[go_sem] theorem aggT_105:bq Tryz.prog 105=some true:=by kernel_rfl
@[go_sem] theorem intT_105:bL Tryz.prog 105=none:=by kernel_rfl
@[go_sem] theorem isBoolT_105:aD Tryz.prog 105=false:=by kernel_rfl
@[go_sem] theorem infoT_105:(Tryz.prog.info? 105).isSome=true:=by kernel_rfl
@[go_sem] theorem plainIface_105:ag Tryz.prog 105=true:=by kernel_rfl
@[go_sem] theorem zeroT_105:aN Tryz.prog 105=some [.d (.int .i64 0), .d (.int .i64 0), .aM]:=by kernel_rfl
@[go_sem] theorem zeroV_105:zeroV Tryz.prog 105=some (dC [.d (.int .i64 0), .d (.int .i64 0), .aM]):=by kernel_rfl
@[go_sem] theorem zeroD_105:aT Tryz.prog 105=some (.agg [(.int .i64 0),(.int .i64 0),(.sl [])]):=by kernel_rfl
@[go_sem] theorem cellsOf_108:Tryz.prog.cellsOf 108=1:=by kernel_rfl
@[go_sem] theorem bytesOf_108:Tryz.prog.bytesOf 108=8:=by kernel_rfl
@[go_sem] theorem sliceT_108:aI Tryz.prog 108=none:=by kernel_rfl
@[go_sem] theorem arrT_108:bE Tryz.prog 108=none:=by kernel_rfl
@[go_sem] theorem aggT_108:bq Tryz.prog 108=some false:=by kernel_rfl
@[go_sem] theorem intT_108:bL Tryz.prog 108=none:=by kernel_rfl
@[go_sem] theorem isBoolT_108:aD Tryz.prog 108=false:=by kernel_rfl
@[go_sem] theorem infoT_108:(Tryz.prog.info? 108).isSome=true:=by kernel_rfl
@[go_sem] theorem plainIface_108:ag Tryz.prog 108=true:=by kernel_rfl
@[go_sem] theorem zeroT_108:aN Tryz.prog 108=some [.d .gO]:=by kernel_rfl
@[go_sem] theorem zeroV_108:zeroV Tryz.prog 108=some (.d .gO):=by kernel_rfl
@[go_sem] theorem zeroD_108:aT Tryz.prog 108=some .gO:=by kernel_rfl
@[go_sem] theorem cellsOf_114:Tryz.prog.cellsOf 114=1:=by kernel_rfl
@[go_sem] theorem bytesOf_114:Tryz.prog.bytesOf 114=8:=by kernel_rfl
@[go_sem] theorem sliceT_114:aI Tryz.prog 114=none:=by kernel_rfl
@[go_sem] theorem arrT_114:bE Tryz.prog 114=none:=by kernel_rfl
@[go_sem] theorem aggT_114:bq Tryz.prog 114=some false:=by kernel_rfl
@[go_sem] theorem intT_114:bL Tryz.prog 114=none:=by kernel_rfl
@[go_sem] theorem isBoolT_114:aD Tryz.prog 114=false:=by kernel_rfl
@[go_sem] theorem infoT_114:(Tryz.prog.info? 114).isSome=true:=by kernel_rfl
@[go_sem] theorem plainIface_114:ag Tryz.prog 114=true:=by kernel_rfl
@[go_sem] theorem zeroT_114:aN Tryz.prog 114=some [.d .aF]:=by kernel_rfl
@[go_sem] theorem zeroV_114:zeroV Tryz.prog 114=some (.d .aF):=by kernel_rfl
@[go_sem] theorem zeroD_114:aT Tryz.prog 114=some .aF:=by kernel_rfl
@[go_sem] theorem cellsOf_115:Tryz.prog.cellsOf 115=0:=by kernel_rfl
@[go_sem] theorem bytesOf_115:Tryz.prog.bytesOf 115=0:=by kernel_rfl
@[go_sem] theorem sliceT_115:aI Tryz.prog 115=none:=by kernel_rfl
@[go_sem] theorem arrT_115:bE Tryz.prog 115=none:=by kernel_rfl
@[go_sem] theorem aggT_115:bq Tryz.prog 115=some true:=by kernel_rfl
@[go_sem] theorem intT_115:bL Tryz.prog 115=none:=by kernel_rfl
@[go_sem] theorem isBoolT_115:aD Tryz.prog 115=false:=by kernel_rfl
@[go_sem] theorem infoT_115:(Tryz.prog.info? 115).isSome=true:=by kernel_rfl
@[go_sem] theorem plainIface_115:ag Tryz.prog 115=true:=by kernel_rfl
@[go_sem] theorem zeroT_115:aN Tryz.prog 115=some []:=by kernel_rfl
@[go_sem] theorem zeroV_115:zeroV Tryz.prog 115=some (dC []):=by kernel_rfl
@[go_sem] theorem zeroD_115:aT Tryz.prog 115=some (.agg []):=by kernel_rfl
@[go_sem] theorem placesT_115:cA Tryz.prog 115=some []:=by kernel_rfl
@[go_sem] theorem cellsOf_117:Tryz.prog.cellsOf 117=4:=by kernel_rfl
@[go_sem] theorem bytesOf_117:Tryz.prog.bytesOf 117=96:=by kernel_rfl
@[go_sem] theorem sliceT_117:aI Tryz.prog 117=none:=by kernel_rfl
@[go_sem] theorem arrT_117:bE Tryz.prog 117=none:=by kernel_rfl
@[go_sem] theorem aggT_117:bq Tryz.prog 117=some true:=by kernel_rfl
@[go_sem] theorem intT_117:bL Tryz.prog 117=none:=by kernel_rfl
@[go_sem] theorem isBoolT_117:aD Tryz.prog 117=false:=by kernel_rfl
@[go_sem] theorem infoT_117:(Tryz.prog.info? 117).isSome=true:=by kernel_rfl
@[go_sem] theorem plainIface_117:ag Tryz.prog 117=true:=by kernel_rfl
@[go_sem] theorem zeroT_117:aN Tryz.prog 117=some [.aM, .aM, .aM, .aM]:=by kernel_rfl
@[go_sem] theorem zeroV_117:zeroV Tryz.prog 117=some (dC [.aM, .aM, .aM, .aM]):=by kernel_rfl
@[go_sem] theorem zeroD_117:aT Tryz.prog 117=some (.agg [(.sl []),(.sl []),(.sl []),(.sl [])]):=by kernel_rfl
@[go_sem] theorem placesT_117:cA Tryz.prog 117=some [(0,3),(3,1)]:=by kernel_rfl
@[go_sem] theorem cellsOf_122:Tryz.prog.cellsOf 122=1:=by kernel_rfl
@[go_sem] theorem bytesOf_122:Tryz.prog.bytesOf 122=8:=by kernel_rfl
@[go_sem] theorem sliceT_122:aI Tryz.prog 122=none:=by kernel_rfl
@[go_sem] theorem arrT_122:bE Tryz.prog 122=none:=by kernel_rfl
@[go_sem] theorem aggT_122:bq Tryz.prog 122=some false:=by kernel_rfl
@[go_sem] theorem intT_122:bL Tryz.prog 122=none:=by kernel_rfl
@[go_sem] theorem isBoolT_122:aD Tryz.prog 122=false:=by kernel_rfl
@[go_sem] theorem infoT_122:(Tryz.prog.info? 122).isSome=true:=by kernel_rfl
@[go_sem] theorem plainIface_122:ag Tryz.prog 122=true:=by kernel_rfl
@[go_sem] theorem zeroT_122:aN Tryz.prog 122=some [.d .aF]:=by kernel_rfl
@[go_sem] theorem zeroV_122:zeroV Tryz.prog 122=some (.d .aF):=by kernel_rfl
@[go_sem] theorem zeroD_122:aT Tryz.prog 122=some .aF:=by kernel_rfl
@[go_sem] theorem cellsOf_124:Tryz.prog.cellsOf 124=1:=by kernel_rfl
@[go_sem] theorem bytesOf_124:Tryz.prog.bytesOf 124=8:=by kernel_rfl
@[go_sem] theorem sliceT_124:aI Tryz.prog 124=none:=by kernel_rfl
@[go_sem] theorem arrT_124:bE Tryz.prog 124=none:=by kernel_rfl
@[go_sem] theorem aggT_124:bq Tryz.prog 124=some false:=by kernel_rfl
@[go_sem] theorem intT_124:bL Tryz.prog 124=none:=by kernel_rfl
@[go_sem] theorem isBoolT_124:aD Tryz.prog 124=false:=by kernel_rfl
@[go_sem] theorem infoT_124:(Tryz.prog.info? 124).isSome=true:=by kernel_rfl
@[go_sem] theorem plainIface_124:ag Tryz.prog 124=true:=by kernel_rfl
@[go_sem] theorem undT_124:Tryz.prog.underlying 124=some (.map 9 4):=by kernel_rfl
@[go_sem] theorem mapT_124:mQ Tryz.prog 124=some (9,4):=by kernel_rfl
@[go_sem] theorem zeroT_124:aN Tryz.prog 124=some [.d .dr]:=by kernel_rfl
@[go_sem] theorem zeroV_124:zeroV Tryz.prog 124=some (.d .dr):=by kernel_rfl
@[go_sem] theorem zeroD_124:aT Tryz.prog 124=some .dr:=by kernel_rfl
@[go_sem] theorem cellsOf_125:Tryz.prog.cellsOf 125=1:=by kernel_rfl
@[go_sem] theorem bytesOf_125:Tryz.prog.bytesOf 125=8:=by kernel_rfl
@[go_sem] theorem sliceT_125:aI Tryz.prog 125=none:=by kernel_rfl
@[go_sem] theorem arrT_125:bE Tryz.prog 125=none:=by kernel_rfl
@[go_sem] theorem aggT_125:bq Tryz.prog 125=some false:=by kernel_rfl
@[go_sem] theorem intT_125:bL Tryz.prog 125=none:=by kernel_rfl
@[go_sem] theorem isBoolT_125:aD Tryz.prog 125=false:=by kernel_rfl
@[go_sem] theorem infoT_125:(Tryz.prog.info? 125).isSome=true:=by kernel_rfl
@[go_sem] theorem plainIface_125:ag Tryz.prog 125=true:=by kernel_rfl
@[go_sem] theorem zeroT_125:aN Tryz.prog 125=some [.d .aF]:=by kernel_rfl
@[go_sem] theorem zeroV_125:zeroV Tryz.prog 125=some (.d .aF):=by kernel_rfl
@[go_sem] theorem zeroD_125:aT Tryz.prog 125=some .aF:=by kernel_rfl
@[go_sem] theorem cellsOf_127:Tryz.prog.cellsOf 127=1:=by kernel_rfl
@[go_sem] theorem bytesOf_127:Tryz.prog.bytesOf 127=8:=by kernel_rfl
@[go_sem] theorem sliceT_127:aI Tryz.prog 127=none:=by kernel_rfl
@[go_sem] theorem arrT_127:bE Tryz.prog 127=none:=by kernel_rfl
@[go_sem] theorem aggT_127:bq Tryz.prog 127=some false:=by kernel_rfl
@[go_sem] theorem intT_127:bL Tryz.prog 127=none:=by kernel_rfl
@[go_sem] theorem isBoolT_127:aD Tryz.prog 127=false:=by kernel_rfl
@[go_sem] theorem infoT_127:(Tryz.prog.info? 127).isSome=true:=by kernel_rfl
@[go_sem] theorem plainIface_127:ag Tryz.prog 127=true:=by kernel_rfl
@[go_sem] theorem undT_127:Tryz.prog.underlying 127=some (.map 3 4):=by kernel_rfl
@[go_sem] theorem mapT_127:mQ Tryz.prog 127=some (3,4):=by kernel_rfl
@[go_sem] theorem zeroT_127:aN Tryz.prog 127=some [.d .dr]:=by kernel_rfl
@[go_sem] theorem zeroV_127:zeroV Tryz.prog 127=some (.d .dr):=by kernel_rfl
@[go_sem] theorem zeroD_127:aT Tryz.prog 127=some .dr:=by kernel_rfl
@[go_sem] theorem cellsOf_128:Tryz.prog.cellsOf 128=1:=by kernel_rfl
@[go_sem] theorem bytesOf_128:Tryz.prog.bytesOf 128=8:=by kernel_rfl
@[go_sem] theorem sliceT_128:aI Tryz.prog 128=none:=by kernel_rfl
@[go_sem] theorem arrT_128:bE Tryz.prog 128=none:=by kernel_rfl
@[go_sem] theorem aggT_128:bq Tryz.prog 128=some false:=by kernel_rfl
@[go_sem] theorem intT_128:bL Tryz.prog 128=none:=by kernel_rfl
@[go_sem] theorem isBoolT_128:aD Tryz.prog 128=false:=by kernel_rfl
@[go_sem] theorem infoT_128:(Tryz.prog.info? 128).isSome=true:=by kernel_rfl
@[go_sem] theorem plainIface_128:ag Tryz.prog 128=true:=by kernel_rfl
@[go_sem] theorem undT_128:Tryz.prog.underlying 128=some (.map 3 4):=by kernel_rfl
@[go_sem] theorem mapT_128:mQ Tryz.prog 128=some (3,4):=by kernel_rfl
@[go_sem] theorem zeroT_128:aN Tryz.prog 128=some [.d .dr]:=by kernel_rfl
@[go_sem] theorem zeroV_128:zeroV Tryz.prog 128=some (.d .dr):=by kernel_rfl
@[go_sem] theorem zeroD_128:aT Tryz.prog 128=some .dr:=by kernel_rfl
@[go_sem] theorem cellsOf_133:Tryz.prog.cellsOf 133=1:=by kernel_rfl
@[go_sem] theorem bytesOf_133:Tryz.prog.bytesOf 133=8:=by kernel_rfl
@[go_sem] theorem sliceT_133:aI Tryz.prog 133=none:=by kernel_rfl
@[go_sem] theorem arrT_133:bE Tryz.prog 133=none:=by kernel_rfl
@[go_sem] theorem aggT_133:bq Tryz.prog 133=some false:=by kernel_rfl
@[go_sem] theorem intT_133:bL Tryz.prog 133=none:=by kernel_rfl
@[go_sem] theorem isBoolT_133:aD Tryz.prog 133=false:=by kernel_rfl
@[go_sem] theorem infoT_133:(Tryz.prog.info? 133).isSome=true:=by kernel_rfl
@[go_sem] theorem plainIface_133:ag Tryz.prog 133=true:=by kernel_rfl
@[go_sem] theorem zeroT_133:aN Tryz.prog 133=some [.d .aF]:=by kernel_rfl
@[go_sem] theorem zeroV_133:zeroV Tryz.prog 133=some (.d .aF):=by kernel_rfl
@[go_sem] theorem zeroD_133:aT Tryz.prog 133=some .aF:=by kernel_rfl
@[go_sem] theorem cellsOf_134:Tryz.prog.cellsOf 134=16:=by kernel_rfl
@[go_sem] theorem bytesOf_134:Tryz.prog.bytesOf 134=128:=by kernel_rfl
@[go_sem] theorem sliceT_134:aI Tryz.prog 134=none:=by kernel_rfl
@[go_sem] theorem arrT_134:bE Tryz.prog 134=some (16,133):=by kernel_rfl
@[go_sem] theorem aggT_134:bq Tryz.prog 134=some true:=by kernel_rfl
@[go_sem] theorem intT_134:bL Tryz.prog 134=none:=by kernel_rfl
@[go_sem] theorem isBoolT_134:aD Tryz.prog 134=false:=by kernel_rfl
@[go_sem] theorem infoT_134:(Tryz.prog.info? 134).isSome=true:=by kernel_rfl
@[go_sem] theorem plainIface_134:ag Tryz.prog 134=true:=by kernel_rfl
@[go_sem] theorem undT_134:Tryz.prog.underlying 134=some (.array 16 133):=by kernel_rfl
@[go_sem] theorem zeroT_134:aN Tryz.prog 134=some [.d .aF, .d .aF, .d .aF, .d .aF, .d .aF, .d .aF, .d .aF, .d .aF, .d .aF, .d .aF, .d .aF, .d .aF, .d .aF, .d .aF, .d .aF, .d .aF]:=by kernel_rfl
@[go_sem] theorem zeroV_134:zeroV Tryz.prog 134=some (dC [.d .aF, .d .aF, .d .aF, .d .aF, .d .aF, .d .aF, .d .aF, .d .aF, .d .aF, .d .aF, .d .aF, .d .aF, .d .aF, .d .aF, .d .aF, .d .aF]):=by kernel_rfl
@[go_sem] theorem zeroD_134:aT Tryz.prog 134=some (.agg [.aF, .aF, .aF, .aF, .aF, .aF, .aF, .aF, .aF, .aF, .aF, .aF, .aF, .aF, .aF, .aF]):=by kernel_rfl
@[go_sem] theorem placesT_134:cA Tryz.prog 134=some [(0,1),(1,1),(2,1),(3,1),(4,1),(5,1),(6,1),(7,1),(8,1),(9,1),(10,1),(11,1),(12,1),(13,1),(14,1),(15,1)]:=by kernel_rfl
@[go_sem] theorem cellsOf_138:Tryz.prog.cellsOf 138=1:=by kernel_rfl
@[go_sem] theorem bytesOf_138:Tryz.prog.bytesOf 138=8:=by kernel_rfl
@[go_sem] theorem sliceT_138:aI Tryz.prog 138=none:=by kernel_rfl
@[go_sem] theorem arrT_138:bE Tryz.prog 138=none:=by kernel_rfl
@[go_sem] theorem aggT_138:bq Tryz.prog 138=some false:=by kernel_rfl
@[go_sem] theorem intT_138:bL Tryz.prog 138=none:=by kernel_rfl
@[go_sem] theorem isBoolT_138:aD Tryz.prog 138=false:=by kernel_rfl
@[go_sem] theorem infoT_138:(Tryz.prog.info? 138).isSome=true:=by kernel_rfl
@[go_sem] theorem plainIface_138:ag Tryz.prog 138=true:=by kernel_rfl
@[go_sem] theorem zeroT_138:aN Tryz.prog 138=some [.d .aF]:=by kernel_rfl
@[go_sem] theorem zeroV_138:zeroV Tryz.prog 138=some (.d .aF):=by kernel_rfl
@[go_sem] theorem zeroD_138:aT Tryz.prog 138=some .aF:=by kernel_rfl
@[go_sem] theorem cellsOf_140:Tryz.prog.cellsOf 140=1:=by kernel_rfl
@[go_sem] theorem bytesOf_140:Tryz.prog.bytesOf 140=8:=by kernel_rfl
@[go_sem] theorem sliceT_140:aI Tryz.prog 140=none:=by kernel_rfl
@[go_sem] theorem arrT_140:bE Tryz.prog 140=none:=by kernel_rfl
@[go_sem] theorem aggT_140:bq Tryz.prog 140=some false:=by kernel_rfl
@[go_sem] theorem intT_140:bL Tryz.prog 140=none:=by kernel_rfl
@[go_sem] theorem isBoolT_140:aD Tryz.prog 140=false:=by kernel_rfl
@[go_sem] theorem infoT_140:(Tryz.prog.info? 140).isSome=true:=by kernel_rfl
@[go_sem] theorem plainIface_140:ag Tryz.prog 140=true:=by kernel_rfl
@[go_sem] theorem zeroT_140:aN Tryz.prog 140=some [.d .aF]:=by kernel_rfl
@[go_sem] theorem zeroV_140:zeroV Tryz.prog 140=some (.d .aF):=by kernel_rfl
@[go_sem] theorem zeroD_140:aT Tryz.prog 140=some .aF:=by kernel_rfl
@[go_sem] theorem cellsOf_143:Tryz.prog.cellsOf 143=1:=by kernel_rfl
@[go_sem] theorem bytesOf_143:Tryz.prog.bytesOf 143=8:=by kernel_rfl
@[go_sem] theorem sliceT_143:aI Tryz.prog 143=none:=by kernel_rfl
@[go_sem] theorem arrT_143:bE Tryz.prog 143=none:=by kernel_rfl
@[go_sem] theorem aggT_143:bq Tryz.prog 143=some false:=by kernel_rfl
@[go_sem] theorem intT_143:bL Tryz.prog 143=some .u64:=by kernel_rfl
@[go_sem] theorem isBoolT_143:aD Tryz.prog 143=false:=by kernel_rfl
@[go_sem] theorem infoT_143:(Tryz.prog.info? 143).isSome=true:=by kernel_rfl
@[go_sem] theorem plainIface_143:ag Tryz.prog 143=true:=by kernel_rfl
@[go_sem] theorem undT_143:Tryz.prog.underlying 143=some (.int .u64):=by kernel_rfl
@[go_sem] theorem eqShape_143:aV Tryz.prog 143=some .int:=by kernel_rfl
@[go_sem] theorem zeroT_143:aN Tryz.prog 143=some [.d (.int .u64 0)]:=by kernel_rfl
@[go_sem] theorem zeroV_143:zeroV Tryz.prog 143=some (.d (.int .u64 0)):=by kernel_rfl
@[go_sem] theorem zeroD_143:aT Tryz.prog 143=some (.int .u64 0):=by kernel_rfl
@[go_sem] theorem cellsOf_147:Tryz.prog.cellsOf 147=1:=by kernel_rfl
@[go_sem] theorem bytesOf_147:Tryz.prog.bytesOf 147=8:=by kernel_rfl
@[go_sem] theorem sliceT_147:aI Tryz.prog 147=none:=by kernel_rfl
@[go_sem] theorem arrT_147:bE Tryz.prog 147=none:=by kernel_rfl
@[go_sem] theorem aggT_147:bq Tryz.prog 147=some false:=by kernel_rfl
@[go_sem] theorem intT_147:bL Tryz.prog 147=none:=by kernel_rfl
@[go_sem] theorem isBoolT_147:aD Tryz.prog 147=false:=by kernel_rfl
@[go_sem] theorem infoT_147:(Tryz.prog.info? 147).isSome=true:=by kernel_rfl
@[go_sem] theorem plainIface_147:ag Tryz.prog 147=true:=by kernel_rfl
@[go_sem] theorem undT_147:Tryz.prog.underlying 147=some (.map 3 3):=by kernel_rfl
@[go_sem] theorem mapT_147:mQ Tryz.prog 147=some (3,3):=by kernel_rfl
@[go_sem] theorem zeroT_147:aN Tryz.prog 147=some [.d .dr]:=by kernel_rfl
@[go_sem] theorem zeroV_147:zeroV Tryz.prog 147=some (.d .dr):=by kernel_rfl
@[go_sem] theorem zeroD_147:aT Tryz.prog 147=some .dr:=by kernel_rfl
@[go_sem] theorem cellsOf_152:Tryz.prog.cellsOf 152=1:=by kernel_rfl
@[go_sem] theorem bytesOf_152:Tryz.prog.bytesOf 152=8:=by kernel_rfl
@[go_sem] theorem sliceT_152:aI Tryz.prog 152=none:=by kernel_rfl
@[go_sem] theorem arrT_152:bE Tryz.prog 152=none:=by kernel_rfl
@[go_sem] theorem aggT_152:bq Tryz.prog 152=some false:=by kernel_rfl
@[go_sem] theorem intT_152:bL Tryz.prog 152=none:=by kernel_rfl
@[go_sem] theorem isBoolT_152:aD Tryz.prog 152=false:=by kernel_rfl
@[go_sem] theorem infoT_152:(Tryz.prog.info? 152).isSome=true:=by kernel_rfl
@[go_sem] theorem plainIface_152:ag Tryz.prog 152=true:=by kernel_rfl
@[go_sem] theorem zeroT_152:aN Tryz.prog 152=some [.d .aF]:=by kernel_rfl
@[go_sem] theorem zeroV_152:zeroV Tryz.prog 152=some (.d .aF):=by kernel_rfl
@[go_sem] theorem zeroD_152:aT Tryz.prog 152=some .aF:=by kernel_rfl
@[go_sem] theorem cellsOf_153:Tryz.prog.cellsOf 153=16:=by kernel_rfl
@[go_sem] theorem bytesOf_153:Tryz.prog.bytesOf 153=128:=by kernel_rfl
@[go_sem] theorem sliceT_153:aI Tryz.prog 153=none:=by kernel_rfl
@[go_sem] theorem arrT_153:bE Tryz.prog 153=some (16,152):=by kernel_rfl
@[go_sem] theorem aggT_153:bq Tryz.prog 153=some true:=by kernel_rfl
@[go_sem] theorem intT_153:bL Tryz.prog 153=none:=by kernel_rfl
@[go_sem] theorem isBoolT_153:aD Tryz.prog 153=false:=by kernel_rfl
@[go_sem] theorem infoT_153:(Tryz.prog.info? 153).isSome=true:=by kernel_rfl
@[go_sem] theorem plainIface_153:ag Tryz.prog 153=true:=by kernel_rfl
@[go_sem] theorem undT_153:Tryz.prog.underlying 153=some (.array 16 152):=by kernel_rfl
@[go_sem] theorem zeroT_153:aN Tryz.prog 153=some [.d .aF, .d .aF, .d .aF, .d .aF, .d .aF, .d .aF, .d .aF, .d .aF, .d .aF, .d .aF, .d .aF, .d .aF, .d .aF, .d .aF, .d .aF, .d .aF]:=by kernel_rfl
@[go_sem] theorem zeroV_153:zeroV Tryz.prog 153=some (dC [.d .aF, .d .aF, .d .aF, .d .aF, .d .aF, .d .aF, .d .aF, .d .aF, .d .aF, .d .aF, .d .aF, .d .aF, .d .aF, .d .aF, .d .aF, .d .aF]):=by kernel_rfl
@[go_sem] theorem zeroD_153:aT Tryz.prog 153=some (.agg [.aF, .aF, .aF, .aF, .aF, .aF, .aF, .aF, .aF, .aF, .aF, .aF, .aF, .aF, .aF, .aF]):=by kernel_rfl
@[go_sem] theorem placesT_153:cA Tryz.prog 153=some [(0,1),(1,1),(2,1),(3,1),(4,1),(5,1),(6,1),(7,1),(8,1),(9,1),(10,1),(11,1),(12,1),(13,1),(14,1),(15,1)]:=by kernel_rfl
@[go_sem] theorem cellsOf_159:Tryz.prog.cellsOf 159=2:=by kernel_rfl
@[go_sem] theorem bytesOf_159:Tryz.prog.bytesOf 159=48:=by kernel_rfl
@[go_sem] theorem sliceT_159:aI Tryz.prog 159=none:=by kernel_rfl
@[go_sem] theorem arrT_159:bE Tryz.prog 159=none:=by kernel_rfl
@[go_sem] theorem aggT_159:bq Tryz.prog 159=some true:=by kernel_rfl
@[go_sem] theorem intT_159:bL Tryz.prog 159=none:=by kernel_rfl
@[go_sem] theorem isBoolT_159:aD Tryz.prog 159=false:=by kernel_rfl
@[go_sem] theorem infoT_159:(Tryz.prog.info? 159).isSome=true:=by kernel_rfl
@[go_sem] theorem plainIface_159:ag Tryz.prog 159=true:=by kernel_rfl
@[go_sem] theorem zeroT_159:aN Tryz.prog 159=some [.aM, .aM]:=by kernel_rfl
@[go_sem] theorem zeroV_159:zeroV Tryz.prog 159=some (dC [.aM, .aM]):=by kernel_rfl
@[go_sem] theorem zeroD_159:aT Tryz.prog 159=some (.agg [(.sl []),(.sl [])]):=by kernel_rfl
@[go_sem] theorem placesT_159:cA Tryz.prog 159=some [(0,2)]:=by kernel_rfl
@[go_sem] theorem cellsOf_161:Tryz.prog.cellsOf 161=1:=by kernel_rfl
@[go_sem] theorem bytesOf_161:Tryz.prog.bytesOf 161=8:=by kernel_rfl
@[go_sem] theorem sliceT_161:aI Tryz.prog 161=none:=by kernel_rfl
@[go_sem] theorem arrT_161:bE Tryz.prog 161=none:=by kernel_rfl
@[go_sem] theorem aggT_161:bq Tryz.prog 161=some false:=by kernel_rfl
@[go_sem] theorem intT_161:bL Tryz.prog 161=some .i64:=by kernel_rfl
@[go_sem] theorem isBoolT_161:aD Tryz.prog 161=false:=by kernel_rfl
@[go_sem] theorem infoT_161:(Tryz.prog.info? 161).isSome=true:=by kernel_rfl
@[go_sem] theorem plainIface_161:ag Tryz.prog 161=true:=by kernel_rfl
@[go_sem] theorem undT_161:Tryz.prog.underlying 161=some (.int .i64):=by kernel_rfl
@[go_sem] theorem eqShape_161:aV Tryz.prog 161=some .int:=by kernel_rfl
@[go_sem] theorem zeroT_161:aN Tryz.prog 161=some [.d (.int .i64 0)]:=by kernel_rfl
@[go_sem] theorem zeroV_161:zeroV Tryz.prog 161=some (.d (.int .i64 0)):=by kernel_rfl
@[go_sem] theorem zeroD_161:aT Tryz.prog 161=some (.int .i64 0):=by kernel_rfl
@[go_sem] theorem cellsOf_170:Tryz.prog.cellsOf 170=1:=by kernel_rfl
@[go_sem] theorem bytesOf_170:Tryz.prog.bytesOf 170=4:=by kernel_rfl
@[go_sem] theorem sliceT_170:aI Tryz.prog 170=none:=by kernel_rfl
@[go_sem] theorem arrT_170:bE Tryz.prog 170=none:=by kernel_rfl
@[go_sem] theorem aggT_170:bq Tryz.prog 170=some false:=by kernel_rfl
@[go_sem] theorem intT_170:bL Tryz.prog 170=some .u32:=by kernel_rfl
@[go_sem] theorem isBoolT_170:aD Tryz.prog 170=false:=by kernel_rfl
@[go_sem] theorem infoT_170:(Tryz.prog.info? 170).isSome=true:=by kernel_rfl
@[go_sem] theorem plainIface_170:ag Tryz.prog 170=true:=by kernel_rfl
@[go_sem] theorem undT_170:Tryz.prog.underlying 170=some (.int .u32):=by kernel_rfl
@[go_sem] theorem eqShape_170:aV Tryz.prog 170=some .int:=by kernel_rfl
@[go_sem] theorem zeroT_170:aN Tryz.prog 170=some [.d (.int .u32 0)]:=by kernel_rfl
@[go_sem] theorem zeroV_170:zeroV Tryz.prog 170=some (.d (.int .u32 0)):=by kernel_rfl
@[go_sem] theorem zeroD_170:aT Tryz.prog 170=some (.int .u32 0):=by kernel_rfl
@[go_sem] theorem cellsOf_172:Tryz.prog.cellsOf 172=1:=by kernel_rfl
@[go_sem] theorem bytesOf_172:Tryz.prog.bytesOf 172=8:=by kernel_rfl
@[go_sem] theorem sliceT_172:aI Tryz.prog 172=none:=by kernel_rfl
@[go_sem] theorem arrT_172:bE Tryz.prog 172=none:=by kernel_rfl
@[go_sem] theorem aggT_172:bq Tryz.prog 172=some false:=by kernel_rfl
@[go_sem] theorem intT_172:bL Tryz.prog 172=some .u64:=by kernel_rfl
@[go_sem] theorem isBoolT_172:aD Tryz.prog 172=false:=by kernel_rfl
@[go_sem] theorem infoT_172:(Tryz.prog.info? 172).isSome=true:=by kernel_rfl
@[go_sem] theorem plainIface_172:ag Tryz.prog 172=true:=by kernel_rfl
@[go_sem] theorem undT_172:Tryz.prog.underlying 172=some (.int .u64):=by kernel_rfl
@[go_sem] theorem eqShape_172:aV Tryz.prog 172=some .int:=by kernel_rfl
@[go_sem] theorem zeroT_172:aN Tryz.prog 172=some [.d (.int .u64 0)]:=by kernel_rfl
@[go_sem] theorem zeroV_172:zeroV Tryz.prog 172=some (.d (.int .u64 0)):=by kernel_rfl
@[go_sem] theorem zeroD_172:aT Tryz.prog 172=some (.int .u64 0):=by kernel_rfl
@[go_sem] theorem cellsOf_188:Tryz.prog.cellsOf 188=1:=by kernel_rfl
@[go_sem] theorem bytesOf_188:Tryz.prog.bytesOf 188=8:=by kernel_rfl
@[go_sem] theorem sliceT_188:aI Tryz.prog 188=none:=by kernel_rfl
@[go_sem] theorem arrT_188:bE Tryz.prog 188=none:=by kernel_rfl
@[go_sem] theorem aggT_188:bq Tryz.prog 188=some false:=by kernel_rfl
@[go_sem] theorem intT_188:bL Tryz.prog 188=none:=by kernel_rfl
@[go_sem] theorem isBoolT_188:aD Tryz.prog 188=false:=by kernel_rfl
@[go_sem] theorem infoT_188:(Tryz.prog.info? 188).isSome=true:=by kernel_rfl
@[go_sem] theorem plainIface_188:ag Tryz.prog 188=true:=by kernel_rfl
@[go_sem] theorem zeroT_188:aN Tryz.prog 188=some [.d .aF]:=by kernel_rfl
@[go_sem] theorem zeroV_188:zeroV Tryz.prog 188=some (.d .aF):=by kernel_rfl
@[go_sem] theorem zeroD_188:aT Tryz.prog 188=some .aF:=by kernel_rfl
@[go_sem] theorem cellsOf_189:Tryz.prog.cellsOf 189=1:=by kernel_rfl
@[go_sem] theorem bytesOf_189:Tryz.prog.bytesOf 189=8:=by kernel_rfl
@[go_sem] theorem sliceT_189:aI Tryz.prog 189=none:=by kernel_rfl
@[go_sem] theorem arrT_189:bE Tryz.prog 189=none:=by kernel_rfl
@[go_sem] theorem aggT_189:bq Tryz.prog 189=some false:=by kernel_rfl
@[go_sem] theorem intT_189:bL Tryz.prog 189=some .u64:=by kernel_rfl
@[go_sem] theorem isBoolT_189:aD Tryz.prog 189=false:=by kernel_rfl
@[go_sem] theorem infoT_189:(Tryz.prog.info? 189).isSome=true:=by kernel_rfl
@[go_sem] theorem plainIface_189:ag Tryz.prog 189=true:=by kernel_rfl
@[go_sem] theorem undT_189:Tryz.prog.underlying 189=some (.int .u64):=by kernel_rfl
@[go_sem] theorem eqShape_189:aV Tryz.prog 189=some .int:=by kernel_rfl
@[go_sem] theorem zeroT_189:aN Tryz.prog 189=some [.d (.int .u64 0)]:=by kernel_rfl
@[go_sem] theorem zeroV_189:zeroV Tryz.prog 189=some (.d (.int .u64 0)):=by kernel_rfl
@[go_sem] theorem zeroD_189:aT Tryz.prog 189=some (.int .u64 0):=by kernel_rfl
@[go_sem] theorem cellsOf_194:Tryz.prog.cellsOf 194=1:=by kernel_rfl
@[go_sem] theorem bytesOf_194:Tryz.prog.bytesOf 194=24:=by kernel_rfl
@[go_sem] theorem sliceT_194:aI Tryz.prog 194=some 25:=by kernel_rfl
@[go_sem] theorem arrT_194:bE Tryz.prog 194=none:=by kernel_rfl
@[go_sem] theorem aggT_194:bq Tryz.prog 194=some false:=by kernel_rfl
@[go_sem] theorem intT_194:bL Tryz.prog 194=none:=by kernel_rfl
@[go_sem] theorem isBoolT_194:aD Tryz.prog 194=false:=by kernel_rfl
@[go_sem] theorem infoT_194:(Tryz.prog.info? 194).isSome=true:=by kernel_rfl
@[go_sem] theorem plainIface_194:ag Tryz.prog 194=true:=by kernel_rfl
@[go_sem] theorem undT_194:Tryz.prog.underlying 194=some (.slice 25):=by kernel_rfl
@[go_sem] theorem zeroT_194:aN Tryz.prog 194=some [.aM]:=by kernel_rfl
@[go_sem] theorem zeroV_194:zeroV Tryz.prog 194=some (.aM):=by kernel_rfl
@[go_sem] theorem zeroD_194:aT Tryz.prog 194=some (.sl []):=by kernel_rfl
@[go_sem] theorem fieldT_24_0:bC Tryz.prog 24 0=some 0:=by kernel_rfl
@[go_sem] theorem fieldT_24_1:bC Tryz.prog 24 1=some 1:=by kernel_rfl
@[go_sem] theorem fieldT_28_0:bC Tryz.prog 28 0=some 0:=by kernel_rfl
@[go_sem] theorem fieldT_28_1:bC Tryz.prog 28 1=some 1:=by kernel_rfl
@[go_sem] theorem fieldT_28_2:bC Tryz.prog 28 2=some 2:=by kernel_rfl
@[go_sem] theorem fieldT_47_0:bC Tryz.prog 47 0=some 0:=by kernel_rfl
@[go_sem] theorem fieldT_47_1:bC Tryz.prog 47 1=some 2:=by kernel_rfl
@[go_sem] theorem fieldT_54_0:bC Tryz.prog 54 0=some 0:=by kernel_rfl
@[go_sem] theorem fieldT_54_1:bC Tryz.prog 54 1=some 1:=by kernel_rfl
@[go_sem] theorem fieldT_54_2:bC Tryz.prog 54 2=some 4:=by kernel_rfl
@[go_sem] theorem fieldT_54_3:bC Tryz.prog 54 3=some 5:=by kernel_rfl
@[go_sem] theorem fieldT_54_4:bC Tryz.prog 54 4=some 6:=by kernel_rfl
@[go_sem] theorem fieldT_61_0:bC Tryz.prog 61 0=some 0:=by kernel_rfl
@[go_sem] theorem fieldT_61_1:bC Tryz.prog 61 1=some 1:=by kernel_rfl
@[go_sem] theorem fieldT_69_0:bC Tryz.prog 69 0=some 0:=by kernel_rfl
@[go_sem] theorem fieldT_69_1:bC Tryz.prog 69 1=some 1:=by kernel_rfl
@[go_sem] theorem fieldT_84_0:bC Tryz.prog 84 0=some 0:=by kernel_rfl
@[go_sem] theorem fieldT_84_1:bC Tryz.prog 84 1=some 1:=by kernel_rfl
@[go_sem] theorem fieldT_84_2:bC Tryz.prog 84 2=some 2:=by kernel_rfl
@[go_sem] theorem fieldT_84_3:bC Tryz.prog 84 3=some 5:=by kernel_rfl
@[go_sem] theorem fieldT_105_2:bC Tryz.prog 105 2=some 2:=by kernel_rfl
@[go_sem] theorem fieldT_117_0:bC Tryz.prog 117 0=some 0:=by kernel_rfl
@[go_sem] theorem fieldT_117_1:bC Tryz.prog 117 1=some 3:=by kernel_rfl
@[go_sem] theorem fieldT_159_0:bC Tryz.prog 159 0=some 0:=by kernel_rfl
end Go.Proofs.YtpkobkdgcanmjaaGreat
namespace Go.Proofs.YtpkobkdgcanmjaaGreat
def w8(so:Nat->aa)(c:Nat)(ty:TypeId)(sz:Nat)(es:List D)(x:V):Prop:=
 (x= .aM/\es=[]/\0<sz)\/∃id ep,c<=id/\x= .osl id ep/\so id= .arr ep ty sz es
def As(c:Nat)(x:V)(env:Nat->V):List V->Nat->Prop
 |[],_=>True
 |v::l,i=>(v= .ak\/(v=env i/\∀r∈v.refs,r<c)\/(v= .osl c 0/\env i=x))/\As c x env l (i+1)
theorem ux{c:Nat}{x:V}{env:Nat->V}:∀ (l:List V) (i:Nat),As c x env l i->∀j,bD l j= .ak\/(bD l j=env (i+j)/\∀r∈(bD l j).refs,r<c)\/(bD l j= .osl c 0/\env (i+j)=x)
 |[],i,_,j=>by rw[iB];exact .inl rfl
 |v::l,i,h,0=>by rw[iA];exact h.1
 |v::l,i,h,j+1=>by
  rw[fQ]
  have:=ux l (i+1) h.2 j
  rwa [show i+1+j=i+(j+1) by omega]at this
def m7(φ:Place)(c:Nat)(x:V):Place:=fun id=>if id=c then(match x with| .osl id _=>φ id|_=> .slice none 0 0)else φ id
theorem cR.grow {b:Nat}{e:Nat->V}{so:Nat->aa}{m:Nat}(l:List V){o:Nat->aa}{c:Nat}{ty:TypeId}{sz:Nat}{es:List D}(x:V)(hb:b<=c)(Nf:c<=m)(hg:Good o c)(ho:∀id,id<c->so id=o id)(hx:w8 so c ty sz es x)(he:As c x e l 0):
 cR b ⟨e,so,m⟩ ⟨bD l,aQ o c (.arr 0 ty sz es),c+1⟩:=by
 intro M φ w tm hH hd
 let aj:Place:=m7 φ c x
 let o':Nat->aa:=aQ o c (.arr 0 ty sz es)
 let H':Hp:=hp o' (c+1)
 let H:Hp:=⟨so,fun id=>id<m⟩
 have tZ:o' c= .arr 0 ty sz es:=aG _ _ _
 have yN:∀id,id<c->o' id=o id:=fun id ah=>ay _ _ _ _ (by omega)
 have Fg:∀id,c<id->o' id= .no:=fun id ah=>by rw[show o' id=o id from ay _ _ _ _ (by omega)];exact hg.fresh id (by omega)
 have jd:∀id,id<c->aj id=φ id:=fun id ah=>if_neg (by omega)
 have vU:x= .aM->aj c= .slice none 0 0:=fun h=>by simp only[aj,m7,h,if_pos]
 have vV:∀id ep,x= .osl id ep->aj c=φ id:=fun id ep h=>by simp only[aj,m7,if_pos,h]
 have hold:∀id k,(o' id).live=true->dz (aj id)=some k->∃j,(so j).live=true/\dz (φ j)=some k/\((id<c/\j=id)\/(id=c/\c<=j)):=by
  intro id k h1 h2
  rcases Nat.lt_trichotomy id c with bz|heq|lE
  ·rw[yN id bz]at h1;rw[jd id bz]at h2
   exact⟨id,by rw[ho id bz];exact h1,h2, .inl ⟨bz,rfl⟩⟩
  ·subst heq
   rcases hx with⟨rfl,_,_⟩|⟨j,ep,hj,rfl,hU⟩
   ·rw[vU rfl]at h2;cases h2
   ·rw[vV j ep rfl]at h2
    exact⟨j,by rw[hU];rfl,h2, .inr ⟨rfl,hj⟩⟩
  ·rw[Fg id lE]at h1;cases h1
 have bA:∀k,bw aj H' k->bw φ H k:=by
  rintro k ⟨id,h1,h2⟩
  obtain⟨j,g1,g2,_⟩:=hold id k h1 h2
  exact⟨j,g1,g2⟩
 have hB:∀k, ¬ad M φ H k-> ¬ad M aj H' k:=fun k h h'=>h (h'.imp id (bA k))
 have qc:∀id,id<c->H'.o id=H.o id/\aj id=φ id/\H'.us id:=fun id ah=>⟨(yN id ah).trans (ho id ah).symm,jd id ah,(by show id<c+1;omega)⟩
 have dt:∀ (v:V) (val:Value),(∀r∈v.refs,r<c)->V.den (ad M φ H) φ H w v val->V.den (ad M aj H') aj H' w v val:=fun v val hr h=>
  V.iw (H:=H) (H':=H') hB v val (fun id ah=>qc id (hr id ah)) h
 have jg:∀ (v:List V) (val:List Value),(∀r∈V.aw v,r<c)->V.au (ad M φ H) φ H w v val->V.au (ad M aj H') aj H' w v val:=fun v val hr h=>
  V.dP (H:=H) (H':=H') hB v val (fun id ah=>qc id (hr id ah)) h
 refine⟨aj,⟨fun id=> ?_,fun id hu=>Fg id (by have: ¬id<c+1:=hu;omega),fun i j k h1 h2 h3 h4=> ?_,fun k hk=>hH.ours k (bA k hk),hH.p7⟩,fun i=> ?_,bA,by show b<=c+1;omega,fun id ah hr=> ?_,fun id e' ah dY=> ?_⟩
 ·have aJ:=hH.ok id
  have hrefs:=hg.refs id
  show aC M aj H' w id
  unfold aC at aJ|-
  rcases Nat.lt_trichotomy id c with bz|heq|lE
  ·have e1:(S.H ⟨e,so,m⟩).o id=o id:=ho id bz
   rw[e1]at aJ
   have e2:H'.o id=o id:=yN id bz
   rw[e2,jd id bz]
   cases lC:o id with
   |no=>trivial
   |row cs=>
    simp only[lC]at aJ hrefs|-
    obtain⟨b,cl,ty,k1,k2,k3,k4⟩:=aJ
    exact⟨b,cl,ty,k1,k2,jg _ _ hrefs k3,k4⟩
   |arr ep ty sz es=>
    simp only[lC]at aJ|-
    obtain⟨k1,xs,k2,evs,k3,k4,k5⟩:=aJ
    exact⟨k1,xs,k2,evs,k3,k4,D.aB (fun b _ hn=>⟨rfl,hB b hn⟩) _ _ k5⟩
   |lG ep es=>
    simp only[lC]at aJ|-
    exact D.ax (fun b _ hn=>⟨rfl,hB b hn⟩) _ _ aJ
   |map kt vt es=>
    simp only[lC]at aJ|-
    obtain⟨b,es',clock,k1,k2,k4,k3⟩:=aJ
    exact⟨b,es',clock,k1,k2,k4,aA.mono (fun b _ hn=>⟨rfl,hB b hn⟩) _ _ k3⟩
   |ef l=>
    simp only[lC]at aJ|-
    exact D.ax (fun b _ hn=>⟨rfl,hB b hn⟩) _ _ aJ
   |mJ l last=>
    simp only[lC]at aJ|-
    obtain⟨b,k1,k2⟩:=aJ
    exact⟨b,k1,k2.mono (fun b _ hn=>⟨rfl,hB b hn⟩) rfl⟩
   |oq s pos=>
    simp only[lC]at aJ|-
    exact aJ
   |loop nf n env ps a b st pd=>
    simp only[lC]at aJ hrefs|-
    obtain⟨b,r,k1,k2,k3,k4,k5,k6,k7,k8,k9,zW⟩:=aJ
    exact⟨b,r,k1,k2,k3,k4,k5,k6,k7,k8,k9,fun i=>dt _ _ (fun r hr=>hrefs r (V.iC _ _ r hr)) (zW i)⟩
  ·subst heq
   have e2:H'.o id= .arr 0 ty sz es:=tZ
   rw[e2]
   rcases hx with⟨rfl,rfl,du⟩|⟨j,ep,hj,rfl,hU⟩
   ·refine⟨du,[], ?_,[],by simp,by simp,rfl⟩
    rw[vU rfl]
    exact World.ownsRow_nil _ _ _ _
   ·have:=hH.ok j
    unfold aC at this
    simp only[S.H,hU]at this
    obtain⟨k1,xs,k2,evs,k3,k4,k5⟩:=this
    exact⟨k1,xs,by rw[vV j ep rfl];exact k2,evs,k3,k4,D.aB (fun b _ hn=>⟨rfl,hB b hn⟩) _ _ k5⟩
  ·have e2:H'.o id= .no:=Fg id lE
   rw[e2]
   trivial
 ·obtain⟨i',a1,a2,a3⟩:=hold i k h1 h3
  obtain⟨j',b1,b2,b3⟩:=hold j k h2 h4
  have:=hH.apart i' j' k a1 b1 a2 b2
  rcases a3 with⟨a3,a4⟩|⟨a3,a4⟩<;>rcases b3 with⟨b3,b4⟩|⟨b3,b4⟩<;>omega
 ·have hi:=ux l 0 he i
  rw[Nat.zero_add]at hi
  rcases hi with h|⟨h1,h2⟩|⟨h1,h2⟩
  ·show V.den _ _ _ _ (bD l i) _
   rw[h];trivial
  ·have:=hd i
   simp only at this
   rw[<- h1]at this
   exact dt _ _ h2 this
  ·have:=hd i
   simp only at this
   rw[h2]at this
   show V.den _ _ _ _ (bD l i) _
   rw[h1]
   rcases hx with⟨rfl,rfl,du⟩|⟨j,ep,hj,rfl,hU⟩
   ·simp only[V.den]at this
    rw[this]
    refine⟨rfl,(by show c<c+1;omega),fun e' dY=> ?_⟩
    have dY:(H'.o c).aP=some e':=dY
    have this:H'.o c= .arr 0 ty sz []:=tZ
    rw[this]at dY
    simp only[aa.aP,Option.some.injEq]at dY
    subst dY
    exact⟨Nat.le_refl _,fun _=>(vU rfl).symm⟩
   ·obtain⟨g1,g2,g3⟩:=this
    refine⟨g1,(by show c<c+1;omega),fun e' dY=> ?_⟩
    have dY:(H'.o c).aP=some e':=dY
    have this:H'.o c= .arr 0 ty sz es:=tZ
    rw[this]at dY
    simp only[aa.aP,Option.some.injEq]at dY
    subst dY
    have oB:((S.H ⟨e,so,m⟩).o j).aP=some ep:=by simp only[S.H,hU,aa.aP]
    exact⟨Nat.le_refl _,fun _=>by rw[vV j ep rfl];exact(g3 ep oB).2 rfl⟩
 ·have bz:id<c:=by omega
  exact⟨by show(so id).bp=true;rw[ho id bz, <- yN id bz];exact hr,jd id bz⟩
 ·have bz:id<c:=by omega
  exact⟨e',by show(so id).aP=some e';rw[ho id bz, <- yN id bz];exact dY,Nat.le_refl _,fun _=>jd id bz⟩
end Go.Proofs.YtpkobkdgcanmjaaGreat
