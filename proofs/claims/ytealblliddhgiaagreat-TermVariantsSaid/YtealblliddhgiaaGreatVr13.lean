/-
  A PART OF THE PROOF. Conditions: none.
-/
import Derived.Test.YtealblliddhgiaaGreatVr12
set_option linter.unusedSimpArgs false
set_option linter.unusedVariables false
namespace Go.Proofs.YtealblliddhgiaaGreat
theorem mix:Tryz.prog.follows .mixedOrders=true:=by kernel_rfl
def QE:Tr FD:=
 (.n .no (.n .no (.n (.fn 78 c3 [.tmp 6]) (.n (.fn 116 c7 [.tmp 6]) (.n (.fn 22 Tz [.tmp 4]) (.n (.fn 31 V9 [.tmp 2]) (.n (.Th 13 Pc Ws 99 6 [.tmp 4, .tmp 5] [.cell 4 78, .cell 5 4] 11 5 5 VS) (.n (.fn 53 PY [.tmp 8]) (.e fun _=> .no) (.e fun _=> .no)) (.e fun _=> .no)) (.n (.fn 33 WI [.tmp 4]) (.e fun _=> .no) (.e fun _=> .no))) (.n (.fn 45 T6 [.tmp 2]) (.n (.fn 15 UA [.tmp 6]) (.n (.fn 76 Qs []) (.e fun _=> .no) (.e fun _=> .no)) (.e fun _=> .no)) (.n (.fn 32 Li [.tmp 6]) (.e fun _=> .no) (.e fun _=> .no)))) (.n (.fn 50 V1 [.tmp 6, .tmp 7]) (.n (.fn 10 Wd [.tmp 4]) (.n (.fn 9 Us [.tmp 2]) (.n (.fn 32 Qe []) (.e fun _=> .no) (.e fun _=> .no)) (.e fun _=> .no)) (.n (.fn 16 PF [.tmp 4]) (.e fun _=> .no) (.e fun _=> .no))) (.n (.fn 15 Ud [.tmp 6]) (.n (.fn 18 UI [.tmp 4]) (.e fun _=> .no) (.e fun _=> .no)) (.n (.fn 14 Lp [.tmp 4]) (.e fun _=> .no) (.e fun _=> .no))))) (.n (.fn 20 Tv [.tmp 4]) (.n (.fn 13 TE [.tmp 4]) (.n (.fn 31 TU [.tmp 6, .tmp 7]) (.n (.fn 11 Wv [.tmp 4]) (.n (.fn 49 P6 []) (.e fun _=> .no) (.e fun _=> .no)) (.e fun _=> .no)) (.e fun _=> .no)) (.n (.fn 13 Ua [.tmp 4]) (.n (.fn 56 UE [.tmp 4, .tmp 5]) (.n (.fn 36 QA [.tmp 10]) (.e fun _=> .no) (.e fun _=> .no)) (.e fun _=> .no)) (.n (.fn 10 Ll [.tmp 4]) (.e fun _=> .no) (.e fun _=> .no)))) (.n (.fn 11 V5 [.tmp 4, .tmp 5]) (.n (.fn 7 Wg [.tmp 2]) (.n (.fn 24 Uw [.tmp 4]) (.n (.fn 168 Qm [.tmp 8, .tmp 9]) (.e fun _=> .no) (.e fun _=> .no)) (.e fun _=> .no)) (.n (.fn 45 Lh []) (.e fun _=> .no) (.e fun _=> .no))) (.n (.fn 25 Uh [.tmp 4]) (.n (.fn 102 Jg [.cell 4 28]) (.e fun _=> .no) (.e fun _=> .no)) (.n (.fn 14 Lt [.tmp 4]) (.e fun _=> .no) (.e fun _=> .no)))))) (.n (.fn 305 c5 [.tmp 8]) (.n (.fn 173 c9 [.tmp 8]) (.n (.fn 17 VY [.tmp 2]) (.n (.fn 5 TS [.cell 2 28]) (.n (.fn 5 Um [.cell 2 28]) (.n (.fn 6 P2 [.tmp 2]) (.e fun _=> .no) (.e fun _=> .no)) (.e fun _=> .no)) (.n (.fn 115 UR [.tmp 4]) (.e fun _=> .no) (.e fun _=> .no))) (.n (.fn 8 Wl [.cell 4 28]) (.n (.fn 4 UC [.tmp 2]) (.n (.fn 33 Qw [.tmp 2]) (.e fun _=> .no) (.e fun _=> .no)) (.e fun _=> .no)) (.n (.fn 8 Lj []) (.e fun _=> .no) (.e fun _=> .no)))) (.n (.fn 20 V3 [.tmp 6]) (.n (.fn 43 Wf [.cell 4 4, .cell 5 33]) (.n (.fn 5 Uu [.cell 2 28]) (.n (.fn 17 Qi [.tmp 4]) (.e fun _=> .no) (.e fun _=> .no)) (.e fun _=> .no)) (.n (.fn 38 PJ [.tmp 6]) (.e fun _=> .no) (.e fun _=> .no))) (.n (.fn 69 Wo [.cell 4 28]) (.n (.fn 18 UK [.tmp 4]) (.e fun _=> .no) (.e fun _=> .no)) (.n (.fn 27 Lr [.tmp 4]) (.e fun _=> .no) (.e fun _=> .no))))) (.n (.fn 210 VW [.tmp 0]) (.n (.fn 46 TG [.tmp 4]) (.n (.fn 22 Wc [.tmp 4]) (.n (.fn 81 Wx [.tmp 6, .tmp 7]) (.n (.fn 65 Qa []) (.e fun _=> .no) (.e fun _=> .no)) (.e fun _=> .no)) (.n (.fn 30 PB [.tmp 4]) (.e fun _=> .no) (.e fun _=> .no))) (.n (.fn 54 O6 [.cell 4 28]) (.n (.fn 26 WD [.tmp 2]) (.e fun _=> .no) (.e fun _=> .no)) (.n (.fn 20 Ln []) (.e fun _=> .no) (.e fun _=> .no)))) (.n (.fn 11 V7 [.tmp 4, .tmp 5]) (.n (.fn 26 Wi [.tmp 4]) (.n (.fn 24 Uy [.tmp 3]) (.n (.fn 25 Qq [.tmp 2]) (.e fun _=> .no) (.e fun _=> .no)) (.e fun _=> .no)) (.n (.fn 8 PQ [.tmp 2]) (.e fun _=> .no) (.e fun _=> .no))) (.n (.fn 73 Wq [.tmp 6]) (.n (.fn 28 WG [.tmp 4]) (.e fun _=> .no) (.e fun _=> .no)) (.n (.fn 5 PU [.cell 2 28]) (.e fun _=> .no) (.e fun _=> .no))))))) (.n .no (.n (.fn 167 c4 [.tmp 6]) (.n (.fn 231 c8 [.tmp 6]) (.n (.fn 50 VX [.tmp 4]) (.n (.fn 27 Wa [.tmp 4, .tmp 5]) (.n (.fn 66 Wt [.cell 8 28, .tmp 9]) (.n (.fn 4 P0 [.cell 2 28]) (.e fun _=> .no) (.e fun _=> .no)) (.e fun _=> .no)) (.n (.fn 10 WJ [.tmp 2]) (.e fun _=> .no) (.e fun _=> .no))) (.n (.fn 12 Wk [.cell 0 24]) (.n (.fn 18 UB [.tmp 4]) (.n (.fn 7 Qu [.tmp 2]) (.e fun _=> .no) (.e fun _=> .no)) (.e fun _=> .no)) (.n (.fn 26 PS [.tmp 4, .tmp 5]) (.e fun _=> .no) (.e fun _=> .no)))) (.n (.fn 17 V2 [.tmp 6, .tmp 7]) (.n (.fn 32 We [.tmp 4, .tmp 5, .tmp 6]) (.n (.fn 11 Wz []) (.n (.fn 133 Qg [.tmp 6]) (.e fun _=> .no) (.e fun _=> .no)) (.e fun _=> .no)) (.n (.fn 38 PH [.tmp 6]) (.e fun _=> .no) (.e fun _=> .no))) (.n (.fn 20 Wn [.tmp 4]) (.n (.fn 7 UJ [.tmp 3]) (.e fun _=> .no) (.e fun _=> .no)) (.n (.fn 27 Lq [.tmp 4]) (.e fun _=> .no) (.e fun _=> .no))))) (.n (.fn 24 VV [.tmp 2]) (.n (.fn 6 TF [.tmp 2]) (.n (.fn 15 Wb [.cell 2 28, .tmp 3]) (.n (.fn 21 Ww [.tmp 2]) (.n (.fn 56 P8 []) (.e fun _=> .no) (.e fun _=> .no)) (.e fun _=> .no)) (.n (.fn 109 Pz []) (.e fun _=> .no) (.e fun _=> .no))) (.n (.fn 14 Ub [.tmp 4]) (.n (.fn 42 WC [.tmp 4, .tmp 5]) (.n (.fn 28 QC [.tmp 8, .tmp 9]) (.e fun _=> .no) (.e fun _=> .no)) (.e fun _=> .no)) (.n (.fn 35 Lm [.tmp 2]) (.e fun _=> .no) (.e fun _=> .no)))) (.n (.fn 42 V6 [.tmp 4]) (.n (.fn 15 Wh [.tmp 2]) (.n (.fn 118 WA [.cell 4 28, .cell 5 98]) (.n (.fn 19 Qo [.tmp 2]) (.e fun _=> .no) (.e fun _=> .no)) (.e fun _=> .no)) (.n (.fn 134 PN []) (.e fun _=> .no) (.e fun _=> .no))) (.n (.fn 12 Wp [.tmp 4]) (.n (.fn 19 UM [.cell 0 120]) (.e fun _=> .no) (.e fun _=> .no)) (.n (.fn 14 Lu [.tmp 4]) (.e fun _=> .no) (.e fun _=> .no)))))) (.n (.fn 128 c6 [.tmp 8]) (.n (.fn 138 VU [.tmp 4]) (.n (.fn 49 VZ [.cell 4 28]) (.n (.fn 23 TT [.cell 4 28, .tmp 5]) (.n (.fn 49 Wu [.tmp 4]) (.n (.fn 11 P4 [.tmp 2]) (.e fun _=> .no) (.e fun _=> .no)) (.e fun _=> .no)) (.n (.fn 11 WK [.tmp 2]) (.e fun _=> .no) (.e fun _=> .no))) (.n (.fn 11 Wm [.cell 6 28]) (.n (.fn 16 WB [.cell 2 4]) (.n (.fn 15 Qy [.tmp 6]) (.e fun _=> .no) (.e fun _=> .no)) (.e fun _=> .no)) (.n (.fn 17 Lk [.tmp 6]) (.e fun _=> .no) (.e fun _=> .no)))) (.n (.fn 69 V4 [.tmp 4]) (.n (.fn 48 T1 [.tmp 2]) (.n (.fn 19 Uv [.cell 2 28, .tmp 3]) (.n (.fn 84 Qk [.tmp 8]) (.e fun _=> .no) (.e fun _=> .no)) (.e fun _=> .no)) (.n (.fn 18 PL [.tmp 4]) (.e fun _=> .no) (.e fun _=> .no))) (.n (.fn 37 Ug [.tmp 6]) (.n (.fn 24 UL [.tmp 4]) (.e fun _=> .no) (.e fun _=> .no)) (.n (.fn 27 Ls [.tmp 4]) (.e fun _=> .no) (.e fun _=> .no))))) (.n (.fn 46 Ty [.cell 6 28, .tmp 7]) (.n (.fn 23 V0 [.tmp 6, .tmp 7]) (.n (.fn 46 TX [.tmp 2]) (.n (.fn 117 Wy [.tmp 6, .tmp 7]) (.n (.fn 57 Qc [.tmp 6, .tmp 7]) (.e fun _=> .no) (.e fun _=> .no)) (.e fun _=> .no)) (.n (.fn 20 PD [.tmp 4]) (.e fun _=> .no) (.e fun _=> .no))) (.n (.fn 39 Uc [.cell 4 4]) (.n (.fn 44 WE [.tmp 4]) (.e fun _=> .no) (.e fun _=> .no)) (.n (.fn 14 Lo [.tmp 4]) (.e fun _=> .no) (.e fun _=> .no)))) (.n (.fn 20 V8 [.tmp 4]) (.n (.fn 55 Wj [.tmp 2]) (.n (.fn 28 Uz [.tmp 2]) (.n (.fn 15 Lv [.tmp 2]) (.e fun _=> .no) (.e fun _=> .no)) (.e fun _=> .no)) (.n (.fn 116 tH [.cell 4 28]) (.e fun _=> .no) (.e fun _=> .no))) (.n (.fn 27 Wr [.tmp 2]) (.n (.fn 34 WH [.tmp 6]) (.e fun _=> .no) (.e fun _=> .no)) (.n (.fn 6 PW []) (.e fun _=> .no) (.e fun _=> .no))))))))
noncomputable def bX:Nat->FD:=QE.get
theorem Lw:∀g,(bX g).Ok Tryz.prog g:=
 Tr.we (p:=fun g d=>d.Ok Tryz.prog g) (f:=fun g=>g) QE
   ⟨trivial,⟨trivial,⟨Yi,⟨Ym,⟨OU,⟨TQ,⟨⟨Pf,OR⟩,⟨PZ,(fun _=>trivial),(fun _=>trivial)⟩,(fun _=>trivial)⟩,⟨UP,(fun _=>trivial),(fun _=>trivial)⟩⟩,⟨O3,⟨Po,⟨Qt,(fun _=>trivial),(fun _=>trivial)⟩,(fun _=>trivial)⟩,⟨Jj,(fun _=>trivial),(fun _=>trivial)⟩⟩⟩,⟨TI,⟨TY,⟨Ph,⟨Qf,(fun _=>trivial),(fun _=>trivial)⟩,(fun _=>trivial)⟩,⟨PG,(fun _=>trivial),(fun _=>trivial)⟩⟩,⟨O9,⟨Ps,(fun _=>trivial),(fun _=>trivial)⟩,⟨Jq,(fun _=>trivial),(fun _=>trivial)⟩⟩⟩⟩,⟨OS,⟨OV,⟨O0,⟨Uo,⟨P7,(fun _=>trivial),(fun _=>trivial)⟩,(fun _=>trivial)⟩,(fun _=>trivial)⟩,⟨O4,⟨Pr,⟨QB,(fun _=>trivial),(fun _=>trivial)⟩,(fun _=>trivial)⟩,⟨Jm,(fun _=>trivial),(fun _=>trivial)⟩⟩⟩,⟨TM,⟨T2,⟨Pl,⟨Qn,(fun _=>trivial),(fun _=>trivial)⟩,(fun _=>trivial)⟩,⟨Jh,(fun _=>trivial),(fun _=>trivial)⟩⟩,⟨Pb,⟨Pw,(fun _=>trivial),(fun _=>trivial)⟩,⟨Ju,(fun _=>trivial),(fun _=>trivial)⟩⟩⟩⟩⟩,⟨Yk,⟨VT,⟨TC,⟨OY,⟨Pg,⟨P3,(fun _=>trivial),(fun _=>trivial)⟩,(fun _=>trivial)⟩,⟨Py,(fun _=>trivial),(fun _=>trivial)⟩⟩,⟨T8,⟨Pq,⟨Qx,(fun _=>trivial),(fun _=>trivial)⟩,(fun _=>trivial)⟩,⟨Jk,(fun _=>trivial),(fun _=>trivial)⟩⟩⟩,⟨TK,⟨T0,⟨Pj,⟨Qj,(fun _=>trivial),(fun _=>trivial)⟩,(fun _=>trivial)⟩,⟨PK,(fun _=>trivial),(fun _=>trivial)⟩⟩,⟨Uf,⟨Pu,(fun _=>trivial),(fun _=>trivial)⟩,⟨Js,(fun _=>trivial),(fun _=>trivial)⟩⟩⟩⟩,⟨Tx,⟨OX,⟨TW,⟨Uq,⟨Qb,(fun _=>trivial),(fun _=>trivial)⟩,(fun _=>trivial)⟩,⟨PC,(fun _=>trivial),(fun _=>trivial)⟩⟩,⟨O7,⟨UG,(fun _=>trivial),(fun _=>trivial)⟩,⟨Jo,(fun _=>trivial),(fun _=>trivial)⟩⟩⟩,⟨TO,⟨T4,⟨Pm,⟨Qr,(fun _=>trivial),(fun _=>trivial)⟩,(fun _=>trivial)⟩,⟨PR,(fun _=>trivial),(fun _=>trivial)⟩⟩,⟨Uj,⟨UN,(fun _=>trivial),(fun _=>trivial)⟩,⟨PV,(fun _=>trivial),(fun _=>trivial)⟩⟩⟩⟩⟩⟩,⟨trivial,⟨Yj,⟨Yn,⟨TA,⟨TR,⟨Ul,⟨P1,(fun _=>trivial),(fun _=>trivial)⟩,(fun _=>trivial)⟩,⟨UQ,(fun _=>trivial),(fun _=>trivial)⟩⟩,⟨T7,⟨Pp,⟨Qv,(fun _=>trivial),(fun _=>trivial)⟩,(fun _=>trivial)⟩,⟨PT,(fun _=>trivial),(fun _=>trivial)⟩⟩⟩,⟨TJ,⟨TZ,⟨Ut,⟨Qh,(fun _=>trivial),(fun _=>trivial)⟩,(fun _=>trivial)⟩,⟨PI,(fun _=>trivial),(fun _=>trivial)⟩⟩,⟨Ue,⟨Pt,(fun _=>trivial),(fun _=>trivial)⟩,⟨Jr,(fun _=>trivial),(fun _=>trivial)⟩⟩⟩⟩,⟨Tw,⟨OW,⟨TV,⟨Up,⟨P9,(fun _=>trivial),(fun _=>trivial)⟩,(fun _=>trivial)⟩,⟨PA,(fun _=>trivial),(fun _=>trivial)⟩⟩,⟨O5,⟨UF,⟨QD,(fun _=>trivial),(fun _=>trivial)⟩,(fun _=>trivial)⟩,⟨Jn,(fun _=>trivial),(fun _=>trivial)⟩⟩⟩,⟨TN,⟨T3,⟨Ux,⟨Qp,(fun _=>trivial),(fun _=>trivial)⟩,(fun _=>trivial)⟩,⟨PO,(fun _=>trivial),(fun _=>trivial)⟩⟩,⟨Ui,⟨Px,(fun _=>trivial),(fun _=>trivial)⟩,⟨Jv,(fun _=>trivial),(fun _=>trivial)⟩⟩⟩⟩⟩,⟨Yl,⟨Tu,⟨TD,⟨OZ,⟨Un,⟨P5,(fun _=>trivial),(fun _=>trivial)⟩,(fun _=>trivial)⟩,⟨US,(fun _=>trivial),(fun _=>trivial)⟩⟩,⟨T9,⟨UD,⟨Qz,(fun _=>trivial),(fun _=>trivial)⟩,(fun _=>trivial)⟩,⟨Jl,(fun _=>trivial),(fun _=>trivial)⟩⟩⟩,⟨TL,⟨O2,⟨Pk,⟨Ql,(fun _=>trivial),(fun _=>trivial)⟩,(fun _=>trivial)⟩,⟨PM,(fun _=>trivial),(fun _=>trivial)⟩⟩,⟨Pa,⟨Pv,(fun _=>trivial),(fun _=>trivial)⟩,⟨Jt,(fun _=>trivial),(fun _=>trivial)⟩⟩⟩⟩,⟨OT,⟨TH,⟨O1,⟨Ur,⟨Qd,(fun _=>trivial),(fun _=>trivial)⟩,(fun _=>trivial)⟩,⟨PE,(fun _=>trivial),(fun _=>trivial)⟩⟩,⟨O8,⟨UH,(fun _=>trivial),(fun _=>trivial)⟩,⟨Jp,(fun _=>trivial),(fun _=>trivial)⟩⟩⟩,⟨TP,⟨T5,⟨Pn,⟨Jw,(fun _=>trivial),(fun _=>trivial)⟩,(fun _=>trivial)⟩,⟨Ji,(fun _=>trivial),(fun _=>trivial)⟩⟩,⟨Uk,⟨UO,(fun _=>trivial),(fun _=>trivial)⟩,⟨PX,(fun _=>trivial),(fun _=>trivial)⟩⟩⟩⟩⟩⟩⟩
end Go.Proofs.YtealblliddhgiaaGreat
namespace Go.Proofs.YtealblliddhgiaaGreat
@[go_sem] theorem cellsOf_3:Tryz.prog.cellsOf 3=1:=by kernel_rfl
@[go_sem] theorem bytesOf_3:Tryz.prog.bytesOf 3=8:=by kernel_rfl
@[go_sem] theorem sliceT_3:aT Tryz.prog 3=none:=by kernel_rfl
@[go_sem] theorem arrT_3:cB Tryz.prog 3=none:=by kernel_rfl
@[go_sem] theorem aggT_3:b9 Tryz.prog 3=some false:=by kernel_rfl
@[go_sem] theorem intT_3:cL Tryz.prog 3=some .i64:=by kernel_rfl
@[go_sem] theorem isBoolT_3:aR Tryz.prog 3=false:=by kernel_rfl
@[go_sem] theorem infoT_3:(Tryz.prog.info? 3).isSome=true:=by kernel_rfl
@[go_sem] theorem plainIface_3:az Tryz.prog 3=true:=by kernel_rfl
@[go_sem] theorem undT_3:Tryz.prog.underlying 3=some (.int .i64):=by kernel_rfl
@[go_sem] theorem eqShape_3:bc Tryz.prog 3=some .int:=by kernel_rfl
@[go_sem] theorem zeroT_3:bf Tryz.prog 3=some [.d (.int .i64 0)]:=by kernel_rfl
@[go_sem] theorem zeroV_3:zeroV Tryz.prog 3=some (.d (.int .i64 0)):=by kernel_rfl
@[go_sem] theorem zeroD_3:bJ Tryz.prog 3=some (.int .i64 0):=by kernel_rfl
@[go_sem] theorem cellsOf_4:Tryz.prog.cellsOf 4=1:=by kernel_rfl
@[go_sem] theorem bytesOf_4:Tryz.prog.bytesOf 4=1:=by kernel_rfl
@[go_sem] theorem sliceT_4:aT Tryz.prog 4=none:=by kernel_rfl
@[go_sem] theorem arrT_4:cB Tryz.prog 4=none:=by kernel_rfl
@[go_sem] theorem aggT_4:b9 Tryz.prog 4=some false:=by kernel_rfl
@[go_sem] theorem intT_4:cL Tryz.prog 4=none:=by kernel_rfl
@[go_sem] theorem isBoolT_4:aR Tryz.prog 4=true:=by kernel_rfl
@[go_sem] theorem infoT_4:(Tryz.prog.info? 4).isSome=true:=by kernel_rfl
@[go_sem] theorem plainIface_4:az Tryz.prog 4=true:=by kernel_rfl
@[go_sem] theorem undT_4:Tryz.prog.underlying 4=some .bool:=by kernel_rfl
@[go_sem] theorem eqShape_4:bc Tryz.prog 4=some .bool:=by kernel_rfl
@[go_sem] theorem zeroT_4:bf Tryz.prog 4=some [.d (.bool false)]:=by kernel_rfl
@[go_sem] theorem zeroV_4:zeroV Tryz.prog 4=some (.d (.bool false)):=by kernel_rfl
@[go_sem] theorem zeroD_4:bJ Tryz.prog 4=some (.bool false):=by kernel_rfl
@[go_sem] theorem cellsOf_5:Tryz.prog.cellsOf 5=1:=by kernel_rfl
@[go_sem] theorem bytesOf_5:Tryz.prog.bytesOf 5=1:=by kernel_rfl
@[go_sem] theorem sliceT_5:aT Tryz.prog 5=none:=by kernel_rfl
@[go_sem] theorem arrT_5:cB Tryz.prog 5=none:=by kernel_rfl
@[go_sem] theorem aggT_5:b9 Tryz.prog 5=some false:=by kernel_rfl
@[go_sem] theorem intT_5:cL Tryz.prog 5=some .u8:=by kernel_rfl
@[go_sem] theorem isBoolT_5:aR Tryz.prog 5=false:=by kernel_rfl
@[go_sem] theorem infoT_5:(Tryz.prog.info? 5).isSome=true:=by kernel_rfl
@[go_sem] theorem plainIface_5:az Tryz.prog 5=true:=by kernel_rfl
@[go_sem] theorem undT_5:Tryz.prog.underlying 5=some (.int .u8):=by kernel_rfl
@[go_sem] theorem eqShape_5:bc Tryz.prog 5=some .int:=by kernel_rfl
@[go_sem] theorem zeroT_5:bf Tryz.prog 5=some [.d (.int .u8 0)]:=by kernel_rfl
@[go_sem] theorem zeroV_5:zeroV Tryz.prog 5=some (.d (.int .u8 0)):=by kernel_rfl
@[go_sem] theorem zeroD_5:bJ Tryz.prog 5=some (.int .u8 0):=by kernel_rfl
@[go_sem] theorem cellsOf_9:Tryz.prog.cellsOf 9=1:=by kernel_rfl
@[go_sem] theorem bytesOf_9:Tryz.prog.bytesOf 9=16:=by kernel_rfl
@[go_sem] theorem sliceT_9:aT Tryz.prog 9=none:=by kernel_rfl
@[go_sem] theorem arrT_9:cB Tryz.prog 9=none:=by kernel_rfl
@[go_sem] theorem aggT_9:b9 Tryz.prog 9=some false:=by kernel_rfl
@[go_sem] theorem intT_9:cL Tryz.prog 9=none:=by kernel_rfl
@[go_sem] theorem isBoolT_9:aR Tryz.prog 9=false:=by kernel_rfl
@[go_sem] theorem infoT_9:(Tryz.prog.info? 9).isSome=true:=by kernel_rfl
@[go_sem] theorem plainIface_9:az Tryz.prog 9=true:=by kernel_rfl
@[go_sem] theorem undT_9:Tryz.prog.underlying 9=some .string:=by kernel_rfl
@[go_sem] theorem eqShape_9:bc Tryz.prog 9=some .str:=by kernel_rfl
@[go_sem] theorem zeroT_9:bf Tryz.prog 9=some [.d (.str [])]:=by kernel_rfl
@[go_sem] theorem zeroV_9:zeroV Tryz.prog 9=some (.d (.str [])):=by kernel_rfl
@[go_sem] theorem zeroD_9:bJ Tryz.prog 9=some (.str []):=by kernel_rfl
@[go_sem] theorem cellsOf_20:Tryz.prog.cellsOf 20=1:=by kernel_rfl
@[go_sem] theorem bytesOf_20:Tryz.prog.bytesOf 20=16:=by kernel_rfl
@[go_sem] theorem sliceT_20:aT Tryz.prog 20=none:=by kernel_rfl
@[go_sem] theorem arrT_20:cB Tryz.prog 20=none:=by kernel_rfl
@[go_sem] theorem aggT_20:b9 Tryz.prog 20=some false:=by kernel_rfl
@[go_sem] theorem intT_20:cL Tryz.prog 20=none:=by kernel_rfl
@[go_sem] theorem isBoolT_20:aR Tryz.prog 20=false:=by kernel_rfl
@[go_sem] theorem infoT_20:(Tryz.prog.info? 20).isSome=true:=by kernel_rfl
@[go_sem] theorem plainIface_20:az Tryz.prog 20=false:=by kernel_rfl
@[go_sem] theorem zeroT_20:bf Tryz.prog 20=some [.d .ft]:=by kernel_rfl
@[go_sem] theorem zeroV_20:zeroV Tryz.prog 20=some (.d .ft):=by kernel_rfl
@[go_sem] theorem zeroD_20:bJ Tryz.prog 20=some .ft:=by kernel_rfl
@[go_sem] theorem cellsOf_21:Tryz.prog.cellsOf 21=1:=by kernel_rfl
@[go_sem] theorem bytesOf_21:Tryz.prog.bytesOf 21=4:=by kernel_rfl
@[go_sem] theorem sliceT_21:aT Tryz.prog 21=none:=by kernel_rfl
@[go_sem] theorem arrT_21:cB Tryz.prog 21=none:=by kernel_rfl
@[go_sem] theorem aggT_21:b9 Tryz.prog 21=some false:=by kernel_rfl
@[go_sem] theorem intT_21:cL Tryz.prog 21=some .i32:=by kernel_rfl
@[go_sem] theorem isBoolT_21:aR Tryz.prog 21=false:=by kernel_rfl
@[go_sem] theorem infoT_21:(Tryz.prog.info? 21).isSome=true:=by kernel_rfl
@[go_sem] theorem plainIface_21:az Tryz.prog 21=true:=by kernel_rfl
@[go_sem] theorem undT_21:Tryz.prog.underlying 21=some (.int .i32):=by kernel_rfl
@[go_sem] theorem eqShape_21:bc Tryz.prog 21=some .int:=by kernel_rfl
@[go_sem] theorem zeroT_21:bf Tryz.prog 21=some [.d (.int .i32 0)]:=by kernel_rfl
@[go_sem] theorem zeroV_21:zeroV Tryz.prog 21=some (.d (.int .i32 0)):=by kernel_rfl
@[go_sem] theorem zeroD_21:bJ Tryz.prog 21=some (.int .i32 0):=by kernel_rfl
@[go_sem] theorem cellsOf_22:Tryz.prog.cellsOf 22=1:=by kernel_rfl
@[go_sem] theorem bytesOf_22:Tryz.prog.bytesOf 22=24:=by kernel_rfl
@[go_sem] theorem sliceT_22:aT Tryz.prog 22=some 103:=by kernel_rfl
@[go_sem] theorem arrT_22:cB Tryz.prog 22=none:=by kernel_rfl
@[go_sem] theorem aggT_22:b9 Tryz.prog 22=some false:=by kernel_rfl
@[go_sem] theorem intT_22:cL Tryz.prog 22=none:=by kernel_rfl
@[go_sem] theorem isBoolT_22:aR Tryz.prog 22=false:=by kernel_rfl
@[go_sem] theorem infoT_22:(Tryz.prog.info? 22).isSome=true:=by kernel_rfl
@[go_sem] theorem plainIface_22:az Tryz.prog 22=true:=by kernel_rfl
@[go_sem] theorem undT_22:Tryz.prog.underlying 22=some (.slice 103):=by kernel_rfl
@[go_sem] theorem zeroT_22:bf Tryz.prog 22=some [.aX]:=by kernel_rfl
@[go_sem] theorem zeroV_22:zeroV Tryz.prog 22=some (.aX):=by kernel_rfl
@[go_sem] theorem zeroD_22:bJ Tryz.prog 22=some (.sl []):=by kernel_rfl
@[go_sem] theorem cellsOf_24:Tryz.prog.cellsOf 24=2:=by kernel_rfl
@[go_sem] theorem bytesOf_24:Tryz.prog.bytesOf 24=48:=by kernel_rfl
@[go_sem] theorem sliceT_24:aT Tryz.prog 24=none:=by kernel_rfl
@[go_sem] theorem arrT_24:cB Tryz.prog 24=none:=by kernel_rfl
@[go_sem] theorem aggT_24:b9 Tryz.prog 24=some true:=by kernel_rfl
@[go_sem] theorem intT_24:cL Tryz.prog 24=none:=by kernel_rfl
@[go_sem] theorem isBoolT_24:aR Tryz.prog 24=false:=by kernel_rfl
@[go_sem] theorem infoT_24:(Tryz.prog.info? 24).isSome=true:=by kernel_rfl
@[go_sem] theorem plainIface_24:az Tryz.prog 24=true:=by kernel_rfl
@[go_sem] theorem zeroT_24:bf Tryz.prog 24=some [.aX, .aX]:=by kernel_rfl
@[go_sem] theorem zeroV_24:zeroV Tryz.prog 24=some (fb [.aX, .aX]):=by kernel_rfl
@[go_sem] theorem zeroD_24:bJ Tryz.prog 24=some (.agg [(.sl []),(.sl [])]):=by kernel_rfl
@[go_sem] theorem placesT_24:dA Tryz.prog 24=some [(0,1),(1,1)]:=by kernel_rfl
@[go_sem] theorem cellsOf_25:Tryz.prog.cellsOf 25=1:=by kernel_rfl
@[go_sem] theorem bytesOf_25:Tryz.prog.bytesOf 25=8:=by kernel_rfl
@[go_sem] theorem sliceT_25:aT Tryz.prog 25=none:=by kernel_rfl
@[go_sem] theorem arrT_25:cB Tryz.prog 25=none:=by kernel_rfl
@[go_sem] theorem aggT_25:b9 Tryz.prog 25=some false:=by kernel_rfl
@[go_sem] theorem intT_25:cL Tryz.prog 25=some .i64:=by kernel_rfl
@[go_sem] theorem isBoolT_25:aR Tryz.prog 25=false:=by kernel_rfl
@[go_sem] theorem infoT_25:(Tryz.prog.info? 25).isSome=true:=by kernel_rfl
@[go_sem] theorem plainIface_25:az Tryz.prog 25=true:=by kernel_rfl
@[go_sem] theorem undT_25:Tryz.prog.underlying 25=some (.int .i64):=by kernel_rfl
@[go_sem] theorem eqShape_25:bc Tryz.prog 25=some .int:=by kernel_rfl
@[go_sem] theorem zeroT_25:bf Tryz.prog 25=some [.d (.int .i64 0)]:=by kernel_rfl
@[go_sem] theorem zeroV_25:zeroV Tryz.prog 25=some (.d (.int .i64 0)):=by kernel_rfl
@[go_sem] theorem zeroD_25:bJ Tryz.prog 25=some (.int .i64 0):=by kernel_rfl
@[go_sem] theorem cellsOf_26:Tryz.prog.cellsOf 26=1:=by kernel_rfl
@[go_sem] theorem bytesOf_26:Tryz.prog.bytesOf 26=24:=by kernel_rfl
@[go_sem] theorem sliceT_26:aT Tryz.prog 26=some 28:=by kernel_rfl
@[go_sem] theorem arrT_26:cB Tryz.prog 26=none:=by kernel_rfl
@[go_sem] theorem aggT_26:b9 Tryz.prog 26=some false:=by kernel_rfl
@[go_sem] theorem intT_26:cL Tryz.prog 26=none:=by kernel_rfl
@[go_sem] theorem isBoolT_26:aR Tryz.prog 26=false:=by kernel_rfl
@[go_sem] theorem infoT_26:(Tryz.prog.info? 26).isSome=true:=by kernel_rfl
@[go_sem] theorem plainIface_26:az Tryz.prog 26=true:=by kernel_rfl
@[go_sem] theorem undT_26:Tryz.prog.underlying 26=some (.slice 28):=by kernel_rfl
@[go_sem] theorem zeroT_26:bf Tryz.prog 26=some [.aX]:=by kernel_rfl
@[go_sem] theorem zeroV_26:zeroV Tryz.prog 26=some (.aX):=by kernel_rfl
@[go_sem] theorem zeroD_26:bJ Tryz.prog 26=some (.sl []):=by kernel_rfl
@[go_sem] theorem cellsOf_28:Tryz.prog.cellsOf 28=3:=by kernel_rfl
@[go_sem] theorem bytesOf_28:Tryz.prog.bytesOf 28=40:=by kernel_rfl
@[go_sem] theorem sliceT_28:aT Tryz.prog 28=none:=by kernel_rfl
@[go_sem] theorem arrT_28:cB Tryz.prog 28=none:=by kernel_rfl
@[go_sem] theorem aggT_28:b9 Tryz.prog 28=some true:=by kernel_rfl
@[go_sem] theorem intT_28:cL Tryz.prog 28=none:=by kernel_rfl
@[go_sem] theorem isBoolT_28:aR Tryz.prog 28=false:=by kernel_rfl
@[go_sem] theorem infoT_28:(Tryz.prog.info? 28).isSome=true:=by kernel_rfl
@[go_sem] theorem plainIface_28:az Tryz.prog 28=true:=by kernel_rfl
@[go_sem] theorem zeroT_28:bf Tryz.prog 28=some [.d (.int .i64 0), .d (.int .i64 0), .aX]:=by kernel_rfl
@[go_sem] theorem zeroV_28:zeroV Tryz.prog 28=some (fb [.d (.int .i64 0), .d (.int .i64 0), .aX]):=by kernel_rfl
@[go_sem] theorem zeroD_28:bJ Tryz.prog 28=some (.agg [(.int .i64 0),(.int .i64 0),(.sl [])]):=by kernel_rfl
@[go_sem] theorem placesT_28:dA Tryz.prog 28=some [(0,1),(1,1),(2,1)]:=by kernel_rfl
@[go_sem] theorem cellsOf_29:Tryz.prog.cellsOf 29=1:=by kernel_rfl
@[go_sem] theorem bytesOf_29:Tryz.prog.bytesOf 29=24:=by kernel_rfl
@[go_sem] theorem sliceT_29:aT Tryz.prog 29=some 52:=by kernel_rfl
@[go_sem] theorem arrT_29:cB Tryz.prog 29=none:=by kernel_rfl
@[go_sem] theorem aggT_29:b9 Tryz.prog 29=some false:=by kernel_rfl
@[go_sem] theorem intT_29:cL Tryz.prog 29=none:=by kernel_rfl
@[go_sem] theorem isBoolT_29:aR Tryz.prog 29=false:=by kernel_rfl
@[go_sem] theorem infoT_29:(Tryz.prog.info? 29).isSome=true:=by kernel_rfl
@[go_sem] theorem plainIface_29:az Tryz.prog 29=true:=by kernel_rfl
@[go_sem] theorem undT_29:Tryz.prog.underlying 29=some (.slice 52):=by kernel_rfl
@[go_sem] theorem zeroT_29:bf Tryz.prog 29=some [.aX]:=by kernel_rfl
@[go_sem] theorem zeroV_29:zeroV Tryz.prog 29=some (.aX):=by kernel_rfl
@[go_sem] theorem zeroD_29:bJ Tryz.prog 29=some (.sl []):=by kernel_rfl
@[go_sem] theorem cellsOf_33:Tryz.prog.cellsOf 33=1:=by kernel_rfl
@[go_sem] theorem bytesOf_33:Tryz.prog.bytesOf 33=8:=by kernel_rfl
@[go_sem] theorem sliceT_33:aT Tryz.prog 33=none:=by kernel_rfl
@[go_sem] theorem arrT_33:cB Tryz.prog 33=none:=by kernel_rfl
@[go_sem] theorem aggT_33:b9 Tryz.prog 33=some false:=by kernel_rfl
@[go_sem] theorem intT_33:cL Tryz.prog 33=some .i64:=by kernel_rfl
@[go_sem] theorem isBoolT_33:aR Tryz.prog 33=false:=by kernel_rfl
@[go_sem] theorem infoT_33:(Tryz.prog.info? 33).isSome=true:=by kernel_rfl
@[go_sem] theorem plainIface_33:az Tryz.prog 33=true:=by kernel_rfl
@[go_sem] theorem undT_33:Tryz.prog.underlying 33=some (.int .i64):=by kernel_rfl
@[go_sem] theorem eqShape_33:bc Tryz.prog 33=some .int:=by kernel_rfl
@[go_sem] theorem zeroT_33:bf Tryz.prog 33=some [.d (.int .i64 0)]:=by kernel_rfl
@[go_sem] theorem zeroV_33:zeroV Tryz.prog 33=some (.d (.int .i64 0)):=by kernel_rfl
@[go_sem] theorem zeroD_33:bJ Tryz.prog 33=some (.int .i64 0):=by kernel_rfl
@[go_sem] theorem cellsOf_37:Tryz.prog.cellsOf 37=1:=by kernel_rfl
@[go_sem] theorem bytesOf_37:Tryz.prog.bytesOf 37=8:=by kernel_rfl
@[go_sem] theorem sliceT_37:aT Tryz.prog 37=none:=by kernel_rfl
@[go_sem] theorem arrT_37:cB Tryz.prog 37=none:=by kernel_rfl
@[go_sem] theorem aggT_37:b9 Tryz.prog 37=some false:=by kernel_rfl
@[go_sem] theorem intT_37:cL Tryz.prog 37=none:=by kernel_rfl
@[go_sem] theorem isBoolT_37:aR Tryz.prog 37=false:=by kernel_rfl
@[go_sem] theorem infoT_37:(Tryz.prog.info? 37).isSome=true:=by kernel_rfl
@[go_sem] theorem plainIface_37:az Tryz.prog 37=true:=by kernel_rfl
@[go_sem] theorem zeroT_37:bf Tryz.prog 37=some [.d .aW]:=by kernel_rfl
@[go_sem] theorem zeroV_37:zeroV Tryz.prog 37=some (.d .aW):=by kernel_rfl
@[go_sem] theorem zeroD_37:bJ Tryz.prog 37=some .aW:=by kernel_rfl
@[go_sem] theorem cellsOf_40:Tryz.prog.cellsOf 40=1:=by kernel_rfl
@[go_sem] theorem bytesOf_40:Tryz.prog.bytesOf 40=8:=by kernel_rfl
@[go_sem] theorem sliceT_40:aT Tryz.prog 40=none:=by kernel_rfl
@[go_sem] theorem arrT_40:cB Tryz.prog 40=none:=by kernel_rfl
@[go_sem] theorem aggT_40:b9 Tryz.prog 40=some false:=by kernel_rfl
@[go_sem] theorem intT_40:cL Tryz.prog 40=none:=by kernel_rfl
@[go_sem] theorem isBoolT_40:aR Tryz.prog 40=false:=by kernel_rfl
@[go_sem] theorem infoT_40:(Tryz.prog.info? 40).isSome=true:=by kernel_rfl
@[go_sem] theorem plainIface_40:az Tryz.prog 40=true:=by kernel_rfl
@[go_sem] theorem zeroT_40:bf Tryz.prog 40=some [.d .aW]:=by kernel_rfl
@[go_sem] theorem zeroV_40:zeroV Tryz.prog 40=some (.d .aW):=by kernel_rfl
@[go_sem] theorem zeroD_40:bJ Tryz.prog 40=some .aW:=by kernel_rfl
@[go_sem] theorem cellsOf_52:Tryz.prog.cellsOf 52=4:=by kernel_rfl
@[go_sem] theorem bytesOf_52:Tryz.prog.bytesOf 52=48:=by kernel_rfl
@[go_sem] theorem sliceT_52:aT Tryz.prog 52=none:=by kernel_rfl
@[go_sem] theorem arrT_52:cB Tryz.prog 52=none:=by kernel_rfl
@[go_sem] theorem aggT_52:b9 Tryz.prog 52=some true:=by kernel_rfl
@[go_sem] theorem intT_52:cL Tryz.prog 52=none:=by kernel_rfl
@[go_sem] theorem isBoolT_52:aR Tryz.prog 52=false:=by kernel_rfl
@[go_sem] theorem infoT_52:(Tryz.prog.info? 52).isSome=true:=by kernel_rfl
@[go_sem] theorem plainIface_52:az Tryz.prog 52=true:=by kernel_rfl
@[go_sem] theorem zeroT_52:bf Tryz.prog 52=some [.d (.int .i64 0), .d (.int .i64 0), .d (.int .i64 0), .aX]:=by kernel_rfl
@[go_sem] theorem zeroV_52:zeroV Tryz.prog 52=some (fb [.d (.int .i64 0), .d (.int .i64 0), .d (.int .i64 0), .aX]):=by kernel_rfl
@[go_sem] theorem zeroD_52:bJ Tryz.prog 52=some (.agg [(.int .i64 0),(.int .i64 0),(.int .i64 0),(.sl [])]):=by kernel_rfl
@[go_sem] theorem placesT_52:dA Tryz.prog 52=some [(0,1),(1,3)]:=by kernel_rfl
@[go_sem] theorem cellsOf_53:Tryz.prog.cellsOf 53=1:=by kernel_rfl
@[go_sem] theorem bytesOf_53:Tryz.prog.bytesOf 53=24:=by kernel_rfl
@[go_sem] theorem sliceT_53:aT Tryz.prog 53=some 3:=by kernel_rfl
@[go_sem] theorem arrT_53:cB Tryz.prog 53=none:=by kernel_rfl
@[go_sem] theorem aggT_53:b9 Tryz.prog 53=some false:=by kernel_rfl
@[go_sem] theorem intT_53:cL Tryz.prog 53=none:=by kernel_rfl
@[go_sem] theorem isBoolT_53:aR Tryz.prog 53=false:=by kernel_rfl
@[go_sem] theorem infoT_53:(Tryz.prog.info? 53).isSome=true:=by kernel_rfl
@[go_sem] theorem plainIface_53:az Tryz.prog 53=true:=by kernel_rfl
@[go_sem] theorem undT_53:Tryz.prog.underlying 53=some (.slice 3):=by kernel_rfl
@[go_sem] theorem zeroT_53:bf Tryz.prog 53=some [.aX]:=by kernel_rfl
@[go_sem] theorem zeroV_53:zeroV Tryz.prog 53=some (.aX):=by kernel_rfl
@[go_sem] theorem zeroD_53:bJ Tryz.prog 53=some (.sl []):=by kernel_rfl
@[go_sem] theorem cellsOf_64:Tryz.prog.cellsOf 64=1:=by kernel_rfl
@[go_sem] theorem bytesOf_64:Tryz.prog.bytesOf 64=24:=by kernel_rfl
@[go_sem] theorem sliceT_64:aT Tryz.prog 64=some 4:=by kernel_rfl
@[go_sem] theorem arrT_64:cB Tryz.prog 64=none:=by kernel_rfl
@[go_sem] theorem aggT_64:b9 Tryz.prog 64=some false:=by kernel_rfl
@[go_sem] theorem intT_64:cL Tryz.prog 64=none:=by kernel_rfl
@[go_sem] theorem isBoolT_64:aR Tryz.prog 64=false:=by kernel_rfl
@[go_sem] theorem infoT_64:(Tryz.prog.info? 64).isSome=true:=by kernel_rfl
@[go_sem] theorem plainIface_64:az Tryz.prog 64=true:=by kernel_rfl
@[go_sem] theorem undT_64:Tryz.prog.underlying 64=some (.slice 4):=by kernel_rfl
@[go_sem] theorem zeroT_64:bf Tryz.prog 64=some [.aX]:=by kernel_rfl
@[go_sem] theorem zeroV_64:zeroV Tryz.prog 64=some (.aX):=by kernel_rfl
@[go_sem] theorem zeroD_64:bJ Tryz.prog 64=some (.sl []):=by kernel_rfl
@[go_sem] theorem cellsOf_78:Tryz.prog.cellsOf 78=1:=by kernel_rfl
@[go_sem] theorem bytesOf_78:Tryz.prog.bytesOf 78=8:=by kernel_rfl
@[go_sem] theorem sliceT_78:aT Tryz.prog 78=none:=by kernel_rfl
@[go_sem] theorem arrT_78:cB Tryz.prog 78=none:=by kernel_rfl
@[go_sem] theorem aggT_78:b9 Tryz.prog 78=some false:=by kernel_rfl
@[go_sem] theorem intT_78:cL Tryz.prog 78=none:=by kernel_rfl
@[go_sem] theorem isBoolT_78:aR Tryz.prog 78=false:=by kernel_rfl
@[go_sem] theorem infoT_78:(Tryz.prog.info? 78).isSome=true:=by kernel_rfl
@[go_sem] theorem plainIface_78:az Tryz.prog 78=true:=by kernel_rfl
@[go_sem] theorem undT_78:Tryz.prog.underlying 78=some (.map 3 28):=by kernel_rfl
@[go_sem] theorem mapT_78:nw Tryz.prog 78=some (3,28):=by kernel_rfl
@[go_sem] theorem zeroT_78:bf Tryz.prog 78=some [.d .cI]:=by kernel_rfl
@[go_sem] theorem zeroV_78:zeroV Tryz.prog 78=some (.d .cI):=by kernel_rfl
@[go_sem] theorem zeroD_78:bJ Tryz.prog 78=some .cI:=by kernel_rfl
@[go_sem] theorem cellsOf_88:Tryz.prog.cellsOf 88=1:=by kernel_rfl
@[go_sem] theorem bytesOf_88:Tryz.prog.bytesOf 88=8:=by kernel_rfl
@[go_sem] theorem sliceT_88:aT Tryz.prog 88=none:=by kernel_rfl
@[go_sem] theorem arrT_88:cB Tryz.prog 88=none:=by kernel_rfl
@[go_sem] theorem aggT_88:b9 Tryz.prog 88=some false:=by kernel_rfl
@[go_sem] theorem intT_88:cL Tryz.prog 88=none:=by kernel_rfl
@[go_sem] theorem isBoolT_88:aR Tryz.prog 88=false:=by kernel_rfl
@[go_sem] theorem infoT_88:(Tryz.prog.info? 88).isSome=true:=by kernel_rfl
@[go_sem] theorem plainIface_88:az Tryz.prog 88=true:=by kernel_rfl
@[go_sem] theorem zeroT_88:bf Tryz.prog 88=some [.d .gy]:=by kernel_rfl
@[go_sem] theorem zeroV_88:zeroV Tryz.prog 88=some (.d .gy):=by kernel_rfl
@[go_sem] theorem zeroD_88:bJ Tryz.prog 88=some .gy:=by kernel_rfl
@[go_sem] theorem cellsOf_92:Tryz.prog.cellsOf 92=1:=by kernel_rfl
@[go_sem] theorem bytesOf_92:Tryz.prog.bytesOf 92=8:=by kernel_rfl
@[go_sem] theorem sliceT_92:aT Tryz.prog 92=none:=by kernel_rfl
@[go_sem] theorem arrT_92:cB Tryz.prog 92=none:=by kernel_rfl
@[go_sem] theorem aggT_92:b9 Tryz.prog 92=some false:=by kernel_rfl
@[go_sem] theorem intT_92:cL Tryz.prog 92=none:=by kernel_rfl
@[go_sem] theorem isBoolT_92:aR Tryz.prog 92=false:=by kernel_rfl
@[go_sem] theorem infoT_92:(Tryz.prog.info? 92).isSome=true:=by kernel_rfl
@[go_sem] theorem plainIface_92:az Tryz.prog 92=true:=by kernel_rfl
@[go_sem] theorem undT_92:Tryz.prog.underlying 92=some (.map 3 4):=by kernel_rfl
@[go_sem] theorem mapT_92:nw Tryz.prog 92=some (3,4):=by kernel_rfl
@[go_sem] theorem zeroT_92:bf Tryz.prog 92=some [.d .cI]:=by kernel_rfl
@[go_sem] theorem zeroV_92:zeroV Tryz.prog 92=some (.d .cI):=by kernel_rfl
@[go_sem] theorem zeroD_92:bJ Tryz.prog 92=some .cI:=by kernel_rfl
@[go_sem] theorem cellsOf_93:Tryz.prog.cellsOf 93=1:=by kernel_rfl
@[go_sem] theorem bytesOf_93:Tryz.prog.bytesOf 93=8:=by kernel_rfl
@[go_sem] theorem sliceT_93:aT Tryz.prog 93=none:=by kernel_rfl
@[go_sem] theorem arrT_93:cB Tryz.prog 93=none:=by kernel_rfl
@[go_sem] theorem aggT_93:b9 Tryz.prog 93=some false:=by kernel_rfl
@[go_sem] theorem intT_93:cL Tryz.prog 93=none:=by kernel_rfl
@[go_sem] theorem isBoolT_93:aR Tryz.prog 93=false:=by kernel_rfl
@[go_sem] theorem infoT_93:(Tryz.prog.info? 93).isSome=true:=by kernel_rfl
@[go_sem] theorem plainIface_93:az Tryz.prog 93=true:=by kernel_rfl
@[go_sem] theorem undT_93:Tryz.prog.underlying 93=some (.map 3 4):=by kernel_rfl
@[go_sem] theorem mapT_93:nw Tryz.prog 93=some (3,4):=by kernel_rfl
@[go_sem] theorem zeroT_93:bf Tryz.prog 93=some [.d .cI]:=by kernel_rfl
@[go_sem] theorem zeroV_93:zeroV Tryz.prog 93=some (.d .cI):=by kernel_rfl
@[go_sem] theorem zeroD_93:bJ Tryz.prog 93=some .cI:=by kernel_rfl
@[go_sem] theorem cellsOf_96:Tryz.prog.cellsOf 96=1:=by kernel_rfl
@[go_sem] theorem bytesOf_96:Tryz.prog.bytesOf 96=24:=by kernel_rfl
@[go_sem] theorem sliceT_96:aT Tryz.prog 96=some 153:=by kernel_rfl
@[go_sem] theorem arrT_96:cB Tryz.prog 96=none:=by kernel_rfl
@[go_sem] theorem aggT_96:b9 Tryz.prog 96=some false:=by kernel_rfl
@[go_sem] theorem intT_96:cL Tryz.prog 96=none:=by kernel_rfl
@[go_sem] theorem isBoolT_96:aR Tryz.prog 96=false:=by kernel_rfl
@[go_sem] theorem infoT_96:(Tryz.prog.info? 96).isSome=true:=by kernel_rfl
@[go_sem] theorem plainIface_96:az Tryz.prog 96=true:=by kernel_rfl
@[go_sem] theorem undT_96:Tryz.prog.underlying 96=some (.slice 153):=by kernel_rfl
@[go_sem] theorem zeroT_96:bf Tryz.prog 96=some [.aX]:=by kernel_rfl
@[go_sem] theorem zeroV_96:zeroV Tryz.prog 96=some (.aX):=by kernel_rfl
@[go_sem] theorem zeroD_96:bJ Tryz.prog 96=some (.sl []):=by kernel_rfl
@[go_sem] theorem cellsOf_98:Tryz.prog.cellsOf 98=3:=by kernel_rfl
@[go_sem] theorem bytesOf_98:Tryz.prog.bytesOf 98=56:=by kernel_rfl
@[go_sem] theorem sliceT_98:aT Tryz.prog 98=none:=by kernel_rfl
@[go_sem] theorem arrT_98:cB Tryz.prog 98=none:=by kernel_rfl
@[go_sem] theorem aggT_98:b9 Tryz.prog 98=some true:=by kernel_rfl
@[go_sem] theorem intT_98:cL Tryz.prog 98=none:=by kernel_rfl
@[go_sem] theorem isBoolT_98:aR Tryz.prog 98=false:=by kernel_rfl
@[go_sem] theorem infoT_98:(Tryz.prog.info? 98).isSome=true:=by kernel_rfl
@[go_sem] theorem plainIface_98:az Tryz.prog 98=true:=by kernel_rfl
@[go_sem] theorem zeroT_98:bf Tryz.prog 98=some [.aX, .aX, .d (.int .i64 0)]:=by kernel_rfl
@[go_sem] theorem zeroV_98:zeroV Tryz.prog 98=some (fb [.aX, .aX, .d (.int .i64 0)]):=by kernel_rfl
@[go_sem] theorem zeroD_98:bJ Tryz.prog 98=some (.agg [(.sl []),(.sl []),(.int .i64 0)]):=by kernel_rfl
@[go_sem] theorem placesT_98:dA Tryz.prog 98=some [(0,1),(1,1),(2,1)]:=by kernel_rfl
@[go_sem] theorem cellsOf_101:Tryz.prog.cellsOf 101=1:=by kernel_rfl
@[go_sem] theorem bytesOf_101:Tryz.prog.bytesOf 101=8:=by kernel_rfl
@[go_sem] theorem sliceT_101:aT Tryz.prog 101=none:=by kernel_rfl
@[go_sem] theorem arrT_101:cB Tryz.prog 101=none:=by kernel_rfl
@[go_sem] theorem aggT_101:b9 Tryz.prog 101=some false:=by kernel_rfl
@[go_sem] theorem intT_101:cL Tryz.prog 101=none:=by kernel_rfl
@[go_sem] theorem isBoolT_101:aR Tryz.prog 101=false:=by kernel_rfl
@[go_sem] theorem infoT_101:(Tryz.prog.info? 101).isSome=true:=by kernel_rfl
@[go_sem] theorem plainIface_101:az Tryz.prog 101=true:=by kernel_rfl
@[go_sem] theorem undT_101:Tryz.prog.underlying 101=some (.map 9 4):=by kernel_rfl
@[go_sem] theorem mapT_101:nw Tryz.prog 101=some (9,4):=by kernel_rfl
@[go_sem] theorem zeroT_101:bf Tryz.prog 101=some [.d .cI]:=by kernel_rfl
@[go_sem] theorem zeroV_101:zeroV Tryz.prog 101=some (.d .cI):=by kernel_rfl
@[go_sem] theorem zeroD_101:bJ Tryz.prog 101=some .cI:=by kernel_rfl
@[go_sem] theorem cellsOf_103:Tryz.prog.cellsOf 103=2:=by kernel_rfl
@[go_sem] theorem bytesOf_103:Tryz.prog.bytesOf 103=24:=by kernel_rfl
@[go_sem] theorem sliceT_103:aT Tryz.prog 103=none:=by kernel_rfl
@[go_sem] theorem arrT_103:cB Tryz.prog 103=none:=by kernel_rfl
@[go_sem] theorem aggT_103:b9 Tryz.prog 103=some true:=by kernel_rfl
@[go_sem] theorem intT_103:cL Tryz.prog 103=none:=by kernel_rfl
@[go_sem] theorem isBoolT_103:aR Tryz.prog 103=false:=by kernel_rfl
@[go_sem] theorem infoT_103:(Tryz.prog.info? 103).isSome=true:=by kernel_rfl
@[go_sem] theorem plainIface_103:az Tryz.prog 103=true:=by kernel_rfl
@[go_sem] theorem zeroT_103:bf Tryz.prog 103=some [.d (.str []), .d (.int .i64 0)]:=by kernel_rfl
@[go_sem] theorem zeroV_103:zeroV Tryz.prog 103=some (fb [.d (.str []), .d (.int .i64 0)]):=by kernel_rfl
@[go_sem] theorem zeroD_103:bJ Tryz.prog 103=some (.agg [(.str []),(.int .i64 0)]):=by kernel_rfl
@[go_sem] theorem placesT_103:dA Tryz.prog 103=some [(0,1),(1,1)]:=by kernel_rfl
@[go_sem] theorem cellsOf_105:Tryz.prog.cellsOf 105=1:=by kernel_rfl
@[go_sem] theorem bytesOf_105:Tryz.prog.bytesOf 105=8:=by kernel_rfl
@[go_sem] theorem sliceT_105:aT Tryz.prog 105=none:=by kernel_rfl
@[go_sem] theorem arrT_105:cB Tryz.prog 105=none:=by kernel_rfl
@[go_sem] theorem aggT_105:b9 Tryz.prog 105=some false:=by kernel_rfl
@[go_sem] theorem intT_105:cL Tryz.prog 105=none:=by kernel_rfl
@[go_sem] theorem isBoolT_105:aR Tryz.prog 105=false:=by kernel_rfl
@[go_sem] theorem infoT_105:(Tryz.prog.info? 105).isSome=true:=by kernel_rfl
@[go_sem] theorem plainIface_105:az Tryz.prog 105=true:=by kernel_rfl
@[go_sem] theorem zeroT_105:bf Tryz.prog 105=some [.d .aW]:=by kernel_rfl
@[go_sem] theorem zeroV_105:zeroV Tryz.prog 105=some (.d .aW):=by kernel_rfl
@[go_sem] theorem zeroD_105:bJ Tryz.prog 105=some .aW:=by kernel_rfl
@[go_sem] theorem cellsOf_110:Tryz.prog.cellsOf 110=1:=by kernel_rfl
@[go_sem] theorem bytesOf_110:Tryz.prog.bytesOf 110=24:=by kernel_rfl
@[go_sem] theorem sliceT_110:aT Tryz.prog 110=some 9:=by kernel_rfl
@[go_sem] theorem arrT_110:cB Tryz.prog 110=none:=by kernel_rfl
@[go_sem] theorem aggT_110:b9 Tryz.prog 110=some false:=by kernel_rfl
@[go_sem] theorem intT_110:cL Tryz.prog 110=none:=by kernel_rfl
@[go_sem] theorem isBoolT_110:aR Tryz.prog 110=false:=by kernel_rfl
@[go_sem] theorem infoT_110:(Tryz.prog.info? 110).isSome=true:=by kernel_rfl
@[go_sem] theorem plainIface_110:az Tryz.prog 110=true:=by kernel_rfl
@[go_sem] theorem undT_110:Tryz.prog.underlying 110=some (.slice 9):=by kernel_rfl
@[go_sem] theorem zeroT_110:bf Tryz.prog 110=some [.aX]:=by kernel_rfl
@[go_sem] theorem zeroV_110:zeroV Tryz.prog 110=some (.aX):=by kernel_rfl
@[go_sem] theorem zeroD_110:bJ Tryz.prog 110=some (.sl []):=by kernel_rfl
@[go_sem] theorem cellsOf_118:Tryz.prog.cellsOf 118=1:=by kernel_rfl
@[go_sem] theorem bytesOf_118:Tryz.prog.bytesOf 118=8:=by kernel_rfl
@[go_sem] theorem sliceT_118:aT Tryz.prog 118=none:=by kernel_rfl
@[go_sem] theorem arrT_118:cB Tryz.prog 118=none:=by kernel_rfl
@[go_sem] theorem aggT_118:b9 Tryz.prog 118=some false:=by kernel_rfl
@[go_sem] theorem intT_118:cL Tryz.prog 118=none:=by kernel_rfl
@[go_sem] theorem isBoolT_118:aR Tryz.prog 118=false:=by kernel_rfl
@[go_sem] theorem infoT_118:(Tryz.prog.info? 118).isSome=true:=by kernel_rfl
@[go_sem] theorem plainIface_118:az Tryz.prog 118=true:=by kernel_rfl
@[go_sem] theorem zeroT_118:bf Tryz.prog 118=some [.d .aW]:=by kernel_rfl
@[go_sem] theorem zeroV_118:zeroV Tryz.prog 118=some (.d .aW):=by kernel_rfl
@[go_sem] theorem zeroD_118:bJ Tryz.prog 118=some .aW:=by kernel_rfl
@[go_sem] theorem cellsOf_119:Tryz.prog.cellsOf 119=1:=by kernel_rfl
@[go_sem] theorem bytesOf_119:Tryz.prog.bytesOf 119=8:=by kernel_rfl
@[go_sem] theorem sliceT_119:aT Tryz.prog 119=none:=by kernel_rfl
@[go_sem] theorem arrT_119:cB Tryz.prog 119=none:=by kernel_rfl
@[go_sem] theorem aggT_119:b9 Tryz.prog 119=some false:=by kernel_rfl
@[go_sem] theorem intT_119:cL Tryz.prog 119=none:=by kernel_rfl
@[go_sem] theorem isBoolT_119:aR Tryz.prog 119=false:=by kernel_rfl
@[go_sem] theorem infoT_119:(Tryz.prog.info? 119).isSome=true:=by kernel_rfl
@[go_sem] theorem plainIface_119:az Tryz.prog 119=true:=by kernel_rfl
@[go_sem] theorem zeroT_119:bf Tryz.prog 119=some [.d .aW]:=by kernel_rfl
@[go_sem] theorem zeroV_119:zeroV Tryz.prog 119=some (.d .aW):=by kernel_rfl
@[go_sem] theorem zeroD_119:bJ Tryz.prog 119=some .aW:=by kernel_rfl
@[go_sem] theorem cellsOf_120:Tryz.prog.cellsOf 120=16:=by kernel_rfl
@[go_sem] theorem bytesOf_120:Tryz.prog.bytesOf 120=128:=by kernel_rfl
@[go_sem] theorem sliceT_120:aT Tryz.prog 120=none:=by kernel_rfl
@[go_sem] theorem arrT_120:cB Tryz.prog 120=some (16,119):=by kernel_rfl
@[go_sem] theorem aggT_120:b9 Tryz.prog 120=some true:=by kernel_rfl
@[go_sem] theorem intT_120:cL Tryz.prog 120=none:=by kernel_rfl
@[go_sem] theorem isBoolT_120:aR Tryz.prog 120=false:=by kernel_rfl
@[go_sem] theorem infoT_120:(Tryz.prog.info? 120).isSome=true:=by kernel_rfl
@[go_sem] theorem plainIface_120:az Tryz.prog 120=true:=by kernel_rfl
@[go_sem] theorem undT_120:Tryz.prog.underlying 120=some (.array 16 119):=by kernel_rfl
@[go_sem] theorem zeroT_120:bf Tryz.prog 120=some [.d .aW, .d .aW, .d .aW, .d .aW, .d .aW, .d .aW, .d .aW, .d .aW, .d .aW, .d .aW, .d .aW, .d .aW, .d .aW, .d .aW, .d .aW, .d .aW]:=by kernel_rfl
@[go_sem] theorem zeroV_120:zeroV Tryz.prog 120=some (fb [.d .aW, .d .aW, .d .aW, .d .aW, .d .aW, .d .aW, .d .aW, .d .aW, .d .aW, .d .aW, .d .aW, .d .aW, .d .aW, .d .aW, .d .aW, .d .aW]):=by kernel_rfl
@[go_sem] theorem zeroD_120:bJ Tryz.prog 120=some (.agg [.aW, .aW, .aW, .aW, .aW, .aW, .aW, .aW, .aW, .aW, .aW, .aW, .aW, .aW, .aW, .aW]):=by kernel_rfl
@[go_sem] theorem placesT_120:dA Tryz.prog 120=some [(0,1),(1,1),(2,1),(3,1),(4,1),(5,1),(6,1),(7,1),(8,1),(9,1),(10,1),(11,1),(12,1),(13,1),(14,1),(15,1)]:=by kernel_rfl
@[go_sem] theorem cellsOf_123:Tryz.prog.cellsOf 123=2:=by kernel_rfl
@[go_sem] theorem bytesOf_123:Tryz.prog.bytesOf 123=48:=by kernel_rfl
@[go_sem] theorem sliceT_123:aT Tryz.prog 123=none:=by kernel_rfl
@[go_sem] theorem arrT_123:cB Tryz.prog 123=none:=by kernel_rfl
@[go_sem] theorem aggT_123:b9 Tryz.prog 123=some true:=by kernel_rfl
@[go_sem] theorem intT_123:cL Tryz.prog 123=none:=by kernel_rfl
@[go_sem] theorem isBoolT_123:aR Tryz.prog 123=false:=by kernel_rfl
@[go_sem] theorem infoT_123:(Tryz.prog.info? 123).isSome=true:=by kernel_rfl
@[go_sem] theorem plainIface_123:az Tryz.prog 123=true:=by kernel_rfl
@[go_sem] theorem zeroT_123:bf Tryz.prog 123=some [.aX, .aX]:=by kernel_rfl
@[go_sem] theorem zeroV_123:zeroV Tryz.prog 123=some (fb [.aX, .aX]):=by kernel_rfl
@[go_sem] theorem zeroD_123:bJ Tryz.prog 123=some (.agg [(.sl []),(.sl [])]):=by kernel_rfl
@[go_sem] theorem placesT_123:dA Tryz.prog 123=some [(0,2)]:=by kernel_rfl
@[go_sem] theorem cellsOf_131:Tryz.prog.cellsOf 131=1:=by kernel_rfl
@[go_sem] theorem bytesOf_131:Tryz.prog.bytesOf 131=8:=by kernel_rfl
@[go_sem] theorem sliceT_131:aT Tryz.prog 131=none:=by kernel_rfl
@[go_sem] theorem arrT_131:cB Tryz.prog 131=none:=by kernel_rfl
@[go_sem] theorem aggT_131:b9 Tryz.prog 131=some false:=by kernel_rfl
@[go_sem] theorem intT_131:cL Tryz.prog 131=some .i64:=by kernel_rfl
@[go_sem] theorem isBoolT_131:aR Tryz.prog 131=false:=by kernel_rfl
@[go_sem] theorem infoT_131:(Tryz.prog.info? 131).isSome=true:=by kernel_rfl
@[go_sem] theorem plainIface_131:az Tryz.prog 131=true:=by kernel_rfl
@[go_sem] theorem undT_131:Tryz.prog.underlying 131=some (.int .i64):=by kernel_rfl
@[go_sem] theorem eqShape_131:bc Tryz.prog 131=some .int:=by kernel_rfl
@[go_sem] theorem zeroT_131:bf Tryz.prog 131=some [.d (.int .i64 0)]:=by kernel_rfl
@[go_sem] theorem zeroV_131:zeroV Tryz.prog 131=some (.d (.int .i64 0)):=by kernel_rfl
@[go_sem] theorem zeroD_131:bJ Tryz.prog 131=some (.int .i64 0):=by kernel_rfl
@[go_sem] theorem cellsOf_132:Tryz.prog.cellsOf 132=3:=by kernel_rfl
@[go_sem] theorem bytesOf_132:Tryz.prog.bytesOf 132=40:=by kernel_rfl
@[go_sem] theorem sliceT_132:aT Tryz.prog 132=none:=by kernel_rfl
@[go_sem] theorem arrT_132:cB Tryz.prog 132=none:=by kernel_rfl
@[go_sem] theorem aggT_132:b9 Tryz.prog 132=some true:=by kernel_rfl
@[go_sem] theorem intT_132:cL Tryz.prog 132=none:=by kernel_rfl
@[go_sem] theorem isBoolT_132:aR Tryz.prog 132=false:=by kernel_rfl
@[go_sem] theorem infoT_132:(Tryz.prog.info? 132).isSome=true:=by kernel_rfl
@[go_sem] theorem plainIface_132:az Tryz.prog 132=true:=by kernel_rfl
@[go_sem] theorem zeroT_132:bf Tryz.prog 132=some [.d (.int .i64 0), .d (.int .i64 0), .aX]:=by kernel_rfl
@[go_sem] theorem zeroV_132:zeroV Tryz.prog 132=some (fb [.d (.int .i64 0), .d (.int .i64 0), .aX]):=by kernel_rfl
@[go_sem] theorem zeroD_132:bJ Tryz.prog 132=some (.agg [(.int .i64 0),(.int .i64 0),(.sl [])]):=by kernel_rfl
@[go_sem] theorem cellsOf_134:Tryz.prog.cellsOf 134=0:=by kernel_rfl
@[go_sem] theorem bytesOf_134:Tryz.prog.bytesOf 134=0:=by kernel_rfl
@[go_sem] theorem sliceT_134:aT Tryz.prog 134=none:=by kernel_rfl
@[go_sem] theorem arrT_134:cB Tryz.prog 134=none:=by kernel_rfl
@[go_sem] theorem aggT_134:b9 Tryz.prog 134=some true:=by kernel_rfl
@[go_sem] theorem intT_134:cL Tryz.prog 134=none:=by kernel_rfl
@[go_sem] theorem isBoolT_134:aR Tryz.prog 134=false:=by kernel_rfl
@[go_sem] theorem infoT_134:(Tryz.prog.info? 134).isSome=true:=by kernel_rfl
@[go_sem] theorem plainIface_134:az Tryz.prog 134=true:=by kernel_rfl
@[go_sem] theorem zeroT_134:bf Tryz.prog 134=some []:=by kernel_rfl
@[go_sem] theorem zeroV_134:zeroV Tryz.prog 134=some (fb []):=by kernel_rfl
@[go_sem] theorem zeroD_134:bJ Tryz.prog 134=some (.agg []):=by kernel_rfl
@[go_sem] theorem placesT_134:dA Tryz.prog 134=some []:=by kernel_rfl
@[go_sem] theorem cellsOf_143:Tryz.prog.cellsOf 143=1:=by kernel_rfl
@[go_sem] theorem bytesOf_143:Tryz.prog.bytesOf 143=8:=by kernel_rfl
@[go_sem] theorem sliceT_143:aT Tryz.prog 143=none:=by kernel_rfl
@[go_sem] theorem arrT_143:cB Tryz.prog 143=none:=by kernel_rfl
@[go_sem] theorem aggT_143:b9 Tryz.prog 143=some false:=by kernel_rfl
@[go_sem] theorem intT_143:cL Tryz.prog 143=some .u64:=by kernel_rfl
@[go_sem] theorem isBoolT_143:aR Tryz.prog 143=false:=by kernel_rfl
@[go_sem] theorem infoT_143:(Tryz.prog.info? 143).isSome=true:=by kernel_rfl
@[go_sem] theorem plainIface_143:az Tryz.prog 143=true:=by kernel_rfl
@[go_sem] theorem undT_143:Tryz.prog.underlying 143=some (.int .u64):=by kernel_rfl
@[go_sem] theorem eqShape_143:bc Tryz.prog 143=some .int:=by kernel_rfl
@[go_sem] theorem zeroT_143:bf Tryz.prog 143=some [.d (.int .u64 0)]:=by kernel_rfl
@[go_sem] theorem zeroV_143:zeroV Tryz.prog 143=some (.d (.int .u64 0)):=by kernel_rfl
@[go_sem] theorem zeroD_143:bJ Tryz.prog 143=some (.int .u64 0):=by kernel_rfl
@[go_sem] theorem cellsOf_144:Tryz.prog.cellsOf 144=1:=by kernel_rfl
@[go_sem] theorem bytesOf_144:Tryz.prog.bytesOf 144=8:=by kernel_rfl
@[go_sem] theorem sliceT_144:aT Tryz.prog 144=none:=by kernel_rfl
@[go_sem] theorem arrT_144:cB Tryz.prog 144=none:=by kernel_rfl
@[go_sem] theorem aggT_144:b9 Tryz.prog 144=some false:=by kernel_rfl
@[go_sem] theorem intT_144:cL Tryz.prog 144=none:=by kernel_rfl
@[go_sem] theorem isBoolT_144:aR Tryz.prog 144=false:=by kernel_rfl
@[go_sem] theorem infoT_144:(Tryz.prog.info? 144).isSome=true:=by kernel_rfl
@[go_sem] theorem plainIface_144:az Tryz.prog 144=true:=by kernel_rfl
@[go_sem] theorem zeroT_144:bf Tryz.prog 144=some [.d .gy]:=by kernel_rfl
@[go_sem] theorem zeroV_144:zeroV Tryz.prog 144=some (.d .gy):=by kernel_rfl
@[go_sem] theorem zeroD_144:bJ Tryz.prog 144=some .gy:=by kernel_rfl
@[go_sem] theorem cellsOf_145:Tryz.prog.cellsOf 145=1:=by kernel_rfl
@[go_sem] theorem bytesOf_145:Tryz.prog.bytesOf 145=8:=by kernel_rfl
@[go_sem] theorem sliceT_145:aT Tryz.prog 145=none:=by kernel_rfl
@[go_sem] theorem arrT_145:cB Tryz.prog 145=none:=by kernel_rfl
@[go_sem] theorem aggT_145:b9 Tryz.prog 145=some false:=by kernel_rfl
@[go_sem] theorem intT_145:cL Tryz.prog 145=none:=by kernel_rfl
@[go_sem] theorem isBoolT_145:aR Tryz.prog 145=false:=by kernel_rfl
@[go_sem] theorem infoT_145:(Tryz.prog.info? 145).isSome=true:=by kernel_rfl
@[go_sem] theorem plainIface_145:az Tryz.prog 145=true:=by kernel_rfl
@[go_sem] theorem undT_145:Tryz.prog.underlying 145=some (.map 3 3):=by kernel_rfl
@[go_sem] theorem mapT_145:nw Tryz.prog 145=some (3,3):=by kernel_rfl
@[go_sem] theorem zeroT_145:bf Tryz.prog 145=some [.d .cI]:=by kernel_rfl
@[go_sem] theorem zeroV_145:zeroV Tryz.prog 145=some (.d .cI):=by kernel_rfl
@[go_sem] theorem zeroD_145:bJ Tryz.prog 145=some .cI:=by kernel_rfl
@[go_sem] theorem cellsOf_147:Tryz.prog.cellsOf 147=2:=by kernel_rfl
@[go_sem] theorem bytesOf_147:Tryz.prog.bytesOf 147=16:=by kernel_rfl
@[go_sem] theorem sliceT_147:aT Tryz.prog 147=none:=by kernel_rfl
@[go_sem] theorem arrT_147:cB Tryz.prog 147=none:=by kernel_rfl
@[go_sem] theorem aggT_147:b9 Tryz.prog 147=some true:=by kernel_rfl
@[go_sem] theorem intT_147:cL Tryz.prog 147=none:=by kernel_rfl
@[go_sem] theorem isBoolT_147:aR Tryz.prog 147=false:=by kernel_rfl
@[go_sem] theorem infoT_147:(Tryz.prog.info? 147).isSome=true:=by kernel_rfl
@[go_sem] theorem plainIface_147:az Tryz.prog 147=true:=by kernel_rfl
@[go_sem] theorem zeroT_147:bf Tryz.prog 147=some [.d (.int .i64 0), .d .cI]:=by kernel_rfl
@[go_sem] theorem zeroV_147:zeroV Tryz.prog 147=some (fb [.d (.int .i64 0), .d .cI]):=by kernel_rfl
@[go_sem] theorem zeroD_147:bJ Tryz.prog 147=some (.agg [(.int .i64 0), .cI]):=by kernel_rfl
@[go_sem] theorem placesT_147:dA Tryz.prog 147=some [(0,1),(1,1)]:=by kernel_rfl
@[go_sem] theorem cellsOf_149:Tryz.prog.cellsOf 149=2:=by kernel_rfl
@[go_sem] theorem bytesOf_149:Tryz.prog.bytesOf 149=16:=by kernel_rfl
@[go_sem] theorem sliceT_149:aT Tryz.prog 149=none:=by kernel_rfl
@[go_sem] theorem arrT_149:cB Tryz.prog 149=none:=by kernel_rfl
@[go_sem] theorem aggT_149:b9 Tryz.prog 149=some true:=by kernel_rfl
@[go_sem] theorem intT_149:cL Tryz.prog 149=none:=by kernel_rfl
@[go_sem] theorem isBoolT_149:aR Tryz.prog 149=false:=by kernel_rfl
@[go_sem] theorem infoT_149:(Tryz.prog.info? 149).isSome=true:=by kernel_rfl
@[go_sem] theorem plainIface_149:az Tryz.prog 149=true:=by kernel_rfl
@[go_sem] theorem zeroT_149:bf Tryz.prog 149=some [.d .gy, .d .cI]:=by kernel_rfl
@[go_sem] theorem zeroV_149:zeroV Tryz.prog 149=some (fb [.d .gy, .d .cI]):=by kernel_rfl
@[go_sem] theorem zeroD_149:bJ Tryz.prog 149=some (.agg [.gy, .cI]):=by kernel_rfl
@[go_sem] theorem placesT_149:dA Tryz.prog 149=some [(0,1),(1,1)]:=by kernel_rfl
@[go_sem] theorem cellsOf_153:Tryz.prog.cellsOf 153=2:=by kernel_rfl
@[go_sem] theorem bytesOf_153:Tryz.prog.bytesOf 153=16:=by kernel_rfl
@[go_sem] theorem sliceT_153:aT Tryz.prog 153=none:=by kernel_rfl
@[go_sem] theorem arrT_153:cB Tryz.prog 153=some (2,3):=by kernel_rfl
@[go_sem] theorem aggT_153:b9 Tryz.prog 153=some true:=by kernel_rfl
@[go_sem] theorem intT_153:cL Tryz.prog 153=none:=by kernel_rfl
@[go_sem] theorem isBoolT_153:aR Tryz.prog 153=false:=by kernel_rfl
@[go_sem] theorem infoT_153:(Tryz.prog.info? 153).isSome=true:=by kernel_rfl
@[go_sem] theorem plainIface_153:az Tryz.prog 153=true:=by kernel_rfl
@[go_sem] theorem undT_153:Tryz.prog.underlying 153=some (.array 2 3):=by kernel_rfl
@[go_sem] theorem zeroT_153:bf Tryz.prog 153=some [.d (.int .i64 0), .d (.int .i64 0)]:=by kernel_rfl
@[go_sem] theorem zeroV_153:zeroV Tryz.prog 153=some (fb [.d (.int .i64 0), .d (.int .i64 0)]):=by kernel_rfl
@[go_sem] theorem zeroD_153:bJ Tryz.prog 153=some (.agg [(.int .i64 0),(.int .i64 0)]):=by kernel_rfl
@[go_sem] theorem placesT_153:dA Tryz.prog 153=some [(0,1),(1,1)]:=by kernel_rfl
@[go_sem] theorem cellsOf_154:Tryz.prog.cellsOf 154=1:=by kernel_rfl
@[go_sem] theorem bytesOf_154:Tryz.prog.bytesOf 154=8:=by kernel_rfl
@[go_sem] theorem sliceT_154:aT Tryz.prog 154=none:=by kernel_rfl
@[go_sem] theorem arrT_154:cB Tryz.prog 154=none:=by kernel_rfl
@[go_sem] theorem aggT_154:b9 Tryz.prog 154=some false:=by kernel_rfl
@[go_sem] theorem intT_154:cL Tryz.prog 154=none:=by kernel_rfl
@[go_sem] theorem isBoolT_154:aR Tryz.prog 154=false:=by kernel_rfl
@[go_sem] theorem infoT_154:(Tryz.prog.info? 154).isSome=true:=by kernel_rfl
@[go_sem] theorem plainIface_154:az Tryz.prog 154=true:=by kernel_rfl
@[go_sem] theorem zeroT_154:bf Tryz.prog 154=some [.d .aW]:=by kernel_rfl
@[go_sem] theorem zeroV_154:zeroV Tryz.prog 154=some (.d .aW):=by kernel_rfl
@[go_sem] theorem zeroD_154:bJ Tryz.prog 154=some .aW:=by kernel_rfl
@[go_sem] theorem cellsOf_160:Tryz.prog.cellsOf 160=1:=by kernel_rfl
@[go_sem] theorem bytesOf_160:Tryz.prog.bytesOf 160=8:=by kernel_rfl
@[go_sem] theorem sliceT_160:aT Tryz.prog 160=none:=by kernel_rfl
@[go_sem] theorem arrT_160:cB Tryz.prog 160=none:=by kernel_rfl
@[go_sem] theorem aggT_160:b9 Tryz.prog 160=some false:=by kernel_rfl
@[go_sem] theorem intT_160:cL Tryz.prog 160=some .i64:=by kernel_rfl
@[go_sem] theorem isBoolT_160:aR Tryz.prog 160=false:=by kernel_rfl
@[go_sem] theorem infoT_160:(Tryz.prog.info? 160).isSome=true:=by kernel_rfl
@[go_sem] theorem plainIface_160:az Tryz.prog 160=true:=by kernel_rfl
@[go_sem] theorem undT_160:Tryz.prog.underlying 160=some (.int .i64):=by kernel_rfl
@[go_sem] theorem eqShape_160:bc Tryz.prog 160=some .int:=by kernel_rfl
@[go_sem] theorem zeroT_160:bf Tryz.prog 160=some [.d (.int .i64 0)]:=by kernel_rfl
@[go_sem] theorem zeroV_160:zeroV Tryz.prog 160=some (.d (.int .i64 0)):=by kernel_rfl
@[go_sem] theorem zeroD_160:bJ Tryz.prog 160=some (.int .i64 0):=by kernel_rfl
@[go_sem] theorem cellsOf_168:Tryz.prog.cellsOf 168=1:=by kernel_rfl
@[go_sem] theorem bytesOf_168:Tryz.prog.bytesOf 168=4:=by kernel_rfl
@[go_sem] theorem sliceT_168:aT Tryz.prog 168=none:=by kernel_rfl
@[go_sem] theorem arrT_168:cB Tryz.prog 168=none:=by kernel_rfl
@[go_sem] theorem aggT_168:b9 Tryz.prog 168=some false:=by kernel_rfl
@[go_sem] theorem intT_168:cL Tryz.prog 168=some .u32:=by kernel_rfl
@[go_sem] theorem isBoolT_168:aR Tryz.prog 168=false:=by kernel_rfl
@[go_sem] theorem infoT_168:(Tryz.prog.info? 168).isSome=true:=by kernel_rfl
@[go_sem] theorem plainIface_168:az Tryz.prog 168=true:=by kernel_rfl
@[go_sem] theorem undT_168:Tryz.prog.underlying 168=some (.int .u32):=by kernel_rfl
@[go_sem] theorem eqShape_168:bc Tryz.prog 168=some .int:=by kernel_rfl
@[go_sem] theorem zeroT_168:bf Tryz.prog 168=some [.d (.int .u32 0)]:=by kernel_rfl
@[go_sem] theorem zeroV_168:zeroV Tryz.prog 168=some (.d (.int .u32 0)):=by kernel_rfl
@[go_sem] theorem zeroD_168:bJ Tryz.prog 168=some (.int .u32 0):=by kernel_rfl
@[go_sem] theorem cellsOf_170:Tryz.prog.cellsOf 170=1:=by kernel_rfl
@[go_sem] theorem bytesOf_170:Tryz.prog.bytesOf 170=8:=by kernel_rfl
@[go_sem] theorem sliceT_170:aT Tryz.prog 170=none:=by kernel_rfl
@[go_sem] theorem arrT_170:cB Tryz.prog 170=none:=by kernel_rfl
@[go_sem] theorem aggT_170:b9 Tryz.prog 170=some false:=by kernel_rfl
@[go_sem] theorem intT_170:cL Tryz.prog 170=some .u64:=by kernel_rfl
@[go_sem] theorem isBoolT_170:aR Tryz.prog 170=false:=by kernel_rfl
@[go_sem] theorem infoT_170:(Tryz.prog.info? 170).isSome=true:=by kernel_rfl
@[go_sem] theorem plainIface_170:az Tryz.prog 170=true:=by kernel_rfl
@[go_sem] theorem undT_170:Tryz.prog.underlying 170=some (.int .u64):=by kernel_rfl
@[go_sem] theorem eqShape_170:bc Tryz.prog 170=some .int:=by kernel_rfl
@[go_sem] theorem zeroT_170:bf Tryz.prog 170=some [.d (.int .u64 0)]:=by kernel_rfl
@[go_sem] theorem zeroV_170:zeroV Tryz.prog 170=some (.d (.int .u64 0)):=by kernel_rfl
@[go_sem] theorem zeroD_170:bJ Tryz.prog 170=some (.int .u64 0):=by kernel_rfl
@[go_sem] theorem cellsOf_172:Tryz.prog.cellsOf 172=1:=by kernel_rfl
@[go_sem] theorem bytesOf_172:Tryz.prog.bytesOf 172=8:=by kernel_rfl
@[go_sem] theorem sliceT_172:aT Tryz.prog 172=none:=by kernel_rfl
@[go_sem] theorem arrT_172:cB Tryz.prog 172=none:=by kernel_rfl
@[go_sem] theorem aggT_172:b9 Tryz.prog 172=some false:=by kernel_rfl
@[go_sem] theorem intT_172:cL Tryz.prog 172=some .u64:=by kernel_rfl
@[go_sem] theorem isBoolT_172:aR Tryz.prog 172=false:=by kernel_rfl
@[go_sem] theorem infoT_172:(Tryz.prog.info? 172).isSome=true:=by kernel_rfl
@[go_sem] theorem plainIface_172:az Tryz.prog 172=true:=by kernel_rfl
@[go_sem] theorem undT_172:Tryz.prog.underlying 172=some (.int .u64):=by kernel_rfl
@[go_sem] theorem eqShape_172:bc Tryz.prog 172=some .int:=by kernel_rfl
@[go_sem] theorem zeroT_172:bf Tryz.prog 172=some [.d (.int .u64 0)]:=by kernel_rfl
@[go_sem] theorem zeroV_172:zeroV Tryz.prog 172=some (.d (.int .u64 0)):=by kernel_rfl
@[go_sem] theorem zeroD_172:bJ Tryz.prog 172=some (.int .u64 0):=by kernel_rfl
@[go_sem] theorem fieldT_24_0:cu Tryz.prog 24 0=some 0:=by kernel_rfl
@[go_sem] theorem fieldT_24_1:cu Tryz.prog 24 1=some 1:=by kernel_rfl
@[go_sem] theorem fieldT_28_0:cu Tryz.prog 28 0=some 0:=by kernel_rfl
@[go_sem] theorem fieldT_28_1:cu Tryz.prog 28 1=some 1:=by kernel_rfl
@[go_sem] theorem fieldT_28_2:cu Tryz.prog 28 2=some 2:=by kernel_rfl
@[go_sem] theorem fieldT_52_0:cu Tryz.prog 52 0=some 0:=by kernel_rfl
@[go_sem] theorem fieldT_52_1:cu Tryz.prog 52 1=some 1:=by kernel_rfl
@[go_sem] theorem fieldT_98_0:cu Tryz.prog 98 0=some 0:=by kernel_rfl
@[go_sem] theorem fieldT_98_1:cu Tryz.prog 98 1=some 1:=by kernel_rfl
@[go_sem] theorem fieldT_98_2:cu Tryz.prog 98 2=some 2:=by kernel_rfl
@[go_sem] theorem fieldT_103_0:cu Tryz.prog 103 0=some 0:=by kernel_rfl
@[go_sem] theorem fieldT_103_1:cu Tryz.prog 103 1=some 1:=by kernel_rfl
@[go_sem] theorem fieldT_123_0:cu Tryz.prog 123 0=some 0:=by kernel_rfl
@[go_sem] theorem fieldT_132_0:cu Tryz.prog 132 0=some 0:=by kernel_rfl
@[go_sem] theorem fieldT_132_1:cu Tryz.prog 132 1=some 1:=by kernel_rfl
@[go_sem] theorem fieldT_132_2:cu Tryz.prog 132 2=some 2:=by kernel_rfl
@[go_sem] theorem fieldT_147_0:cu Tryz.prog 147 0=some 0:=by kernel_rfl
@[go_sem] theorem fieldT_147_1:cu Tryz.prog 147 1=some 1:=by kernel_rfl
@[go_sem] theorem fieldT_149_0:cu Tryz.prog 149 0=some 0:=by kernel_rfl
@[go_sem] theorem fieldT_149_1:cu Tryz.prog 149 1=some 1:=by kernel_rfl
end Go.Proofs.YtealblliddhgiaaGreat
namespace Go.Proofs.YtealblliddhgiaaGreat
def BB(so:Nat->ae)(c:Nat)(ty:TypeId)(sz:Nat)(es:List D)(x:V):Prop:=
 (x= .aX/\es=[]/\0<sz)\/∃id ep,c<=id/\x= .osl id ep/\so id= .arr ep ty sz es
def Fq(c:Nat)(x:V)(env:Nat->V):List V->Nat->Prop
 |[],_=>True
 |v::l,i=>(v= .aa\/(v=env i/\∀r∈v.refs,r<c)\/(v= .osl c 0/\env i=x))/\Fq c x env l (i+1)
theorem yi{c:Nat}{x:V}{env:Nat->V}:∀ (l:List V) (i:Nat),Fq c x env l i->∀j,bF l j= .aa\/(bF l j=env (i+j)/\∀r∈(bF l j).refs,r<c)\/(bF l j= .osl c 0/\env (i+j)=x)
 |[],i,_,j=>by rw[jl];exact .inl rfl
 |v::l,i,h,0=>by rw[iU];exact h.1
 |v::l,i,h,j+1=>by
  rw[gM]
  have:=yi l (i+1) h.2 j
  rwa [show i+1+j=i+(j+1) by omega]at this
def pP(φ:Place)(c:Nat)(x:V):Place:=fun id=>if id=c then(match x with| .osl id _=>φ id|_=> .slice none 0 0)else φ id
theorem cq.grow {b:Nat}{e:Nat->V}{so:Nat->ae}{m:Nat}(l:List V){o:Nat->ae}{c:Nat}{ty:TypeId}{sz:Nat}{es:List D}(x:V)(hb:b<=c)(Ry:c<=m)(hg:Good o c)(ho:∀id,id<c->so id=o id)(hx:BB so c ty sz es x)(he:Fq c x e l 0):
 cq b ⟨e,so,m⟩ ⟨bF l,ao o c (.arr 0 ty sz es),c+1⟩:=by
 intro M φ w tm hH hd
 let ay:Place:=pP φ c x
 let o':Nat->ae:=ao o c (.arr 0 ty sz es)
 let H':Hp:=hp o' (c+1)
 let H:Hp:=⟨so,fun id=>id<m⟩
 have uC:o' c= .arr 0 ty sz es:=ab _ _ _
 have DV:∀id,id<c->o' id=o id:=fun id aj=>ad _ _ _ _ (by omega)
 have Lx:∀id,c<id->o' id= .no:=fun id aj=>by rw[show o' id=o id from ad _ _ _ _ (by omega)];exact hg.fresh id (by omega)
 have lu:∀id,id<c->ay id=φ id:=fun id aj=>if_neg (by omega)
 have Ap:x= .aX->ay c= .slice none 0 0:=fun h=>by simp only[ay,pP,h,if_pos]
 have Aq:∀id ep,x= .osl id ep->ay c=φ id:=fun id ep h=>by simp only[ay,pP,if_pos,h]
 have hold:∀id k,(o' id).live=true->eC (ay id)=some k->∃j,(so j).live=true/\eC (φ j)=some k/\((id<c/\j=id)\/(id=c/\c<=j)):=by
  intro id k h1 h2
  rcases Nat.lt_trichotomy id c with bL|heq|cc
  ·rw[DV id bL]at h1;rw[lu id bL]at h2
   exact⟨id,by rw[ho id bL];exact h1,h2, .inl ⟨bL,rfl⟩⟩
  ·subst heq
   rcases hx with⟨rfl,_,_⟩|⟨j,ep,hj,rfl,j8⟩
   ·rw[Ap rfl]at h2;cases h2
   ·rw[Aq j ep rfl]at h2
    exact⟨j,by rw[j8];rfl,h2, .inr ⟨rfl,hj⟩⟩
  ·rw[Lx id cc]at h1;cases h1
 have bS:∀k,bO ay H' k->bO φ H k:=by
  rintro k ⟨id,h1,h2⟩
  obtain⟨j,g1,g2,_⟩:=hold id k h1 h2
  exact⟨j,g1,g2⟩
 have hB:∀k, ¬ai M φ H k-> ¬ai M ay H' k:=fun k h h'=>h (h'.imp id (bS k))
 have lH:∀id,id<c->H'.o id=H.o id/\ay id=φ id/\H'.us id:=fun id aj=>⟨(DV id aj).trans (ho id aj).symm,lu id aj,(by show id<c+1;omega)⟩
 have dP:∀ (v:V) (val:Value),(∀r∈v.refs,r<c)->V.den (ai M φ H) φ H w v val->V.den (ai M ay H') ay H' w v val:=fun v val hr h=>
  V.kA (H:=H) (H':=H') hB v val (fun id aj=>lH id (hr id aj)) h
 have lI:∀ (v:List V) (val:List Value),(∀r∈V.ag v,r<c)->V.aC (ai M φ H) φ H w v val->V.aC (ai M ay H') ay H' w v val:=fun v val hr h=>
  V.eT (H:=H) (H':=H') hB v val (fun id aj=>lH id (hr id aj)) h
 refine⟨ay,⟨fun id=> ?_,fun id hu=>Lx id (by have: ¬id<c+1:=hu;omega),fun i j k h1 h2 h3 h4=> ?_,fun k hk=>hH.ours k (bS k hk),hH.tv⟩,fun i=> ?_,bS,by show b<=c+1;omega,fun id aj hr=> ?_,fun id e' aj e8=> ?_⟩
 ·have aO:=hH.ok id
  have hrefs:=hg.refs id
  show aK M ay H' w id
  unfold aK at aO|-
  rcases Nat.lt_trichotomy id c with bL|heq|cc
  ·have e1:(S.H ⟨e,so,m⟩).o id=o id:=ho id bL
   rw[e1]at aO
   have e2:H'.o id=o id:=DV id bL
   rw[e2,lu id bL]
   cases nR:o id with
   |no=>trivial
   |row cs=>
    simp only[nR]at aO hrefs|-
    obtain⟨b,cP,ty,k1,k2,k3,k4⟩:=aO
    exact⟨b,cP,ty,k1,k2,lI _ _ hrefs k3,k4⟩
   |arr ep ty sz es=>
    simp only[nR]at aO|-
    obtain⟨k1,xs,k2,evs,k3,k4,k5⟩:=aO
    exact⟨k1,xs,k2,evs,k3,k4,D.aI (fun b _ hn=>⟨rfl,hB b hn⟩) _ _ k5⟩
   |nW ep es=>
    simp only[nR]at aO|-
    exact D.aA (fun b _ hn=>⟨rfl,hB b hn⟩) _ _ aO
   |map kt vt es=>
    simp only[nR]at aO|-
    obtain⟨b,es',clock,k1,k2,k4,k3⟩:=aO
    exact⟨b,es',clock,k1,k2,k4,aH.mono (fun b _ hn=>⟨rfl,hB b hn⟩) _ _ k3⟩
   |dZ l=>
    simp only[nR]at aO|-
    exact D.aA (fun b _ hn=>⟨rfl,hB b hn⟩) _ _ aO
   |kg l last=>
    simp only[nR]at aO|-
    obtain⟨b,k1,k2⟩:=aO
    exact⟨b,k1,k2.mono (fun b _ hn=>⟨rfl,hB b hn⟩) rfl⟩
   |rl s pos=>
    simp only[nR]at aO|-
    exact aO
   |loop nf n env ps a b st pd=>
    simp only[nR]at aO hrefs|-
    obtain⟨b,r,k1,k2,k3,k4,k5,k6,k7,k8,k9,EX⟩:=aO
    exact⟨b,r,k1,k2,k3,k4,k5,k6,k7,k8,k9,fun i=>dP _ _ (fun r hr=>hrefs r (V.kD _ _ r hr)) (EX i)⟩
  ·subst heq
   have e2:H'.o id= .arr 0 ty sz es:=uC
   rw[e2]
   rcases hx with⟨rfl,rfl,dX⟩|⟨j,ep,hj,rfl,j8⟩
   ·refine⟨dX,[], ?_,[],by simp,by simp,rfl⟩
    rw[Ap rfl]
    exact World.ownsRow_nil _ _ _ _
   ·have:=hH.ok j
    unfold aK at this
    simp only[S.H,j8]at this
    obtain⟨k1,xs,k2,evs,k3,k4,k5⟩:=this
    exact⟨k1,xs,by rw[Aq j ep rfl];exact k2,evs,k3,k4,D.aI (fun b _ hn=>⟨rfl,hB b hn⟩) _ _ k5⟩
  ·have e2:H'.o id= .no:=Lx id cc
   rw[e2]
   trivial
 ·obtain⟨i',a1,a2,a3⟩:=hold i k h1 h3
  obtain⟨j',b1,b2,b3⟩:=hold j k h2 h4
  have:=hH.apart i' j' k a1 b1 a2 b2
  rcases a3 with⟨a3,a4⟩|⟨a3,a4⟩<;>rcases b3 with⟨b3,b4⟩|⟨b3,b4⟩<;>omega
 ·have hi:=yi l 0 he i
  rw[Nat.zero_add]at hi
  rcases hi with h|⟨h1,h2⟩|⟨h1,h2⟩
  ·show V.den _ _ _ _ (bF l i) _
   rw[h];trivial
  ·have:=hd i
   simp only at this
   rw[<- h1]at this
   exact dP _ _ h2 this
  ·have:=hd i
   simp only at this
   rw[h2]at this
   show V.den _ _ _ _ (bF l i) _
   rw[h1]
   rcases hx with⟨rfl,rfl,dX⟩|⟨j,ep,hj,rfl,j8⟩
   ·simp only[V.den]at this
    rw[this]
    refine⟨rfl,(by show c<c+1;omega),fun e' e8=> ?_⟩
    have e8:(H'.o c).aZ=some e':=e8
    have this:H'.o c= .arr 0 ty sz []:=uC
    rw[this]at e8
    simp only[ae.aZ,Option.some.injEq]at e8
    subst e8
    exact⟨Nat.le_refl _,fun _=>(Ap rfl).symm⟩
   ·obtain⟨g1,g2,g3⟩:=this
    refine⟨g1,(by show c<c+1;omega),fun e' e8=> ?_⟩
    have e8:(H'.o c).aZ=some e':=e8
    have this:H'.o c= .arr 0 ty sz es:=uC
    rw[this]at e8
    simp only[ae.aZ,Option.some.injEq]at e8
    subst e8
    have rA:((S.H ⟨e,so,m⟩).o j).aZ=some ep:=by simp only[S.H,j8,ae.aZ]
    exact⟨Nat.le_refl _,fun _=>by rw[Aq j ep rfl];exact(g3 ep rA).2 rfl⟩
 ·have bL:id<c:=by omega
  exact⟨by show(so id).bN=true;rw[ho id bL, <- DV id bL];exact hr,lu id bL⟩
 ·have bL:id<c:=by omega
  exact⟨e',by show(so id).aZ=some e';rw[ho id bL, <- DV id bL];exact e8,Nat.le_refl _,fun _=>lu id bL⟩
end Go.Proofs.YtealblliddhgiaaGreat
