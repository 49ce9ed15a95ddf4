/-
  A PART OF THE PROOF. Conditions: none.
-/
import Derived.Test.YtbmnikpknlkbkaaGreatEc12
set_option linter.unusedSimpArgs false
set_option linter.unusedVariables false
namespace Go.Proofs.YtbmnikpknlkbkaaGreat
theorem mix:Tryz.prog.follows .mixedOrders=true:=by kernel_rfl
def Hk:Tr FD:=
 (.n .no (.n .no (.n (.fn 57 c3 [.tmp 4]) (.n (.fn 70 c7 [.tmp 2]) (.n (.fn 4 Mh [.cell 0 47]) (.n (.fn 8 Ms [.cell 4 47]) (.n (.fn 28 MX [.tmp 2]) (.e fun _=> .no) (.e fun _=> .no)) (.n (.fn 9 Nx [.tmp 4]) (.e fun _=> .no) (.e fun _=> .no))) (.n (.fn 8 MI [.tmp 3]) (.n (.fn 32 Ng []) (.e fun _=> .no) (.e fun _=> .no)) (.n (.fn 19 G0 [.tmp 4]) (.e fun _=> .no) (.e fun _=> .no)))) (.n (.fn 30 JU [.tmp 2]) (.n (.fn 19 MA [.tmp 2]) (.n (.fn 10 M7 [.tmp 4]) (.e fun _=> .no) (.e fun _=> .no)) (.n (.fn 18 GJ [.tmp 4]) (.e fun _=> .no) (.e fun _=> .no))) (.n (.fn 8 MQ [.tmp 2]) (.n (.fn 19 Np [.tmp 4]) (.e fun _=> .no) (.e fun _=> .no)) (.n (.fn 14 Hg [.tmp 4]) (.e fun _=> .no) (.e fun _=> .no))))) (.n (.fn 76 Md [.cell 0 38]) (.n (.fn 5 Ml [.cell 2 47]) (.n (.fn 9 Mw [.tmp 4]) (.n (.fn 8 M3 [.tmp 3]) (.e fun _=> .no) (.e fun _=> .no)) (.n (.fn 15 NB [.tmp 6]) (.e fun _=> .no) (.e fun _=> .no))) (.n (.fn 121 MM [.tmp 4]) (.n (.fn 168 Nk [.tmp 8, .tmp 9]) (.e fun _=> .no) (.e fun _=> .no)) (.n (.fn 14 G8 [.tmp 4]) (.e fun _=> .no) (.e fun _=> .no)))) (.n (.fn 35 Mo [.cell 2 69]) (.n (.fn 12 ME [.tmp 4]) (.n (.fn 49 Nb []) (.e fun _=> .no) (.e fun _=> .no)) (.n (.fn 17 GR [.tmp 6]) (.e fun _=> .no) (.e fun _=> .no))) (.n .no (.n (.fn 13 Nt [.tmp 4]) (.e fun _=> .no) (.e fun _=> .no)) (.e fun _=> .no))))) (.n (.fn 178 c5 [.tmp 0]) (.n (.fn 35 c9 [.tmp 4]) (.n (.fn 8 Mj [.cell 0 38]) (.n (.fn 3 Mu [.tmp 2]) (.n (.fn 18 MZ [.tmp 4]) (.e fun _=> .no) (.e fun _=> .no)) (.n (.fn 7 Nz [.tmp 2]) (.e fun _=> .no) (.e fun _=> .no))) (.n (.fn 9 MK [.tmp 4]) (.n (.fn 17 Ni [.tmp 4]) (.e fun _=> .no) (.e fun _=> .no)) (.n (.fn 19 G4 [.cell 0 167]) (.e fun _=> .no) (.e fun _=> .no)))) (.n (.fn 72 JW [.tmp 8, .tmp 9]) (.n (.fn 11 MC []) (.n (.fn 18 M9 [.tmp 2]) (.e fun _=> .no) (.e fun _=> .no)) (.n (.fn 39 GN [.cell 4 4]) (.e fun _=> .no) (.e fun _=> .no))) (.n (.fn 9 MS [.tmp 4]) (.n (.fn 36 Nr [.tmp 2]) (.e fun _=> .no) (.e fun _=> .no)) (.e fun _=> .no)))) (.n (.fn 10 Mf [.tmp 2, .tmp 3, .tmp 4]) (.n (.fn 65 JS [.cell 2 59, .tmp 3]) (.n (.fn 68 My [.tmp 2]) (.n (.fn 43 M5 [.cell 4 4, .cell 5 24]) (.e fun _=> .no) (.e fun _=> .no)) (.n (.fn 6 GF [.tmp 2]) (.e fun _=> .no) (.e fun _=> .no))) (.n (.fn 46 MO [.tmp 4]) (.n (.fn 25 Nm [.tmp 2]) (.e fun _=> .no) (.e fun _=> .no)) (.n (.fn 27 Hc [.tmp 4]) (.e fun _=> .no) (.e fun _=> .no)))) (.n (.fn 8 Mq [.cell 4 47]) (.n (.Jx 71 Gz MG 59 11 [.tmp 4, .tmp 5, .tmp 6] [.cell 4 4, .cell 5 40, .cell 6 24] 12 6 6 L6) (.n (.fn 65 Nd []) (.e fun _=> .no) (.e fun _=> .no)) (.n (.fn 8 GW []) (.e fun _=> .no) (.e fun _=> .no))) (.n (.fn 19 MV [.tmp 4]) (.n (.fn 8 Nv [.tmp 3]) (.e fun _=> .no) (.e fun _=> .no)) (.e fun _=> .no)))))) (.n .no (.n (.fn 80 c4 [.tmp 0]) (.n (.fn 26 c8 [.tmp 4]) (.n (.fn 84 Mi [.tmp 4, .tmp 5]) (.n (.fn 41 Mt [.tmp 4, .tmp 5, .tmp 6]) (.n (.fn 15 MY [.tmp 6]) (.e fun _=> .no) (.e fun _=> .no)) (.n (.fn 76 Ny []) (.e fun _=> .no) (.e fun _=> .no))) (.n (.fn 46 MJ [.tmp 2]) (.n (.fn 133 Nh [.tmp 6]) (.e fun _=> .no) (.e fun _=> .no)) (.n (.fn 28 G2 [.tmp 8, .tmp 9]) (.e fun _=> .no) (.e fun _=> .no)))) (.n (.fn 15 JV [.tmp 6]) (.n (.fn 4 MB [.tmp 2]) (.n (.fn 27 M8 [.tmp 2]) (.e fun _=> .no) (.e fun _=> .no)) (.n (.fn 7 GL [.tmp 3]) (.e fun _=> .no) (.e fun _=> .no))) (.n (.fn 24 MR [.tmp 4]) (.n (.fn 42 Nq []) (.e fun _=> .no) (.e fun _=> .no)) (.n (.fn 14 Hi [.tmp 4]) (.e fun _=> .no) (.e fun _=> .no))))) (.n (.fn 10 Me [.tmp 2, .tmp 3, .tmp 4]) (.n (.fn 16 Mm [.cell 0 38]) (.n (.fn 12 Mx [.tmp 3]) (.n (.fn 17 M4 [.tmp 3]) (.e fun _=> .no) (.e fun _=> .no)) (.n (.fn 36 GC [.tmp 10]) (.e fun _=> .no) (.e fun _=> .no))) (.n (.fn 9 MN []) (.n (.fn 19 Nl [.tmp 2]) (.e fun _=> .no) (.e fun _=> .no)) (.n (.fn 27 Ha [.tmp 4]) (.e fun _=> .no) (.e fun _=> .no)))) (.n (.fn 101 Mp [.tmp 2]) (.n (.fn 8 MF [.tmp 2]) (.n (.fn 56 Nc []) (.e fun _=> .no) (.e fun _=> .no)) (.n (.fn 10 GU [.tmp 4]) (.e fun _=> .no) (.e fun _=> .no))) (.n (.fn 125 MU []) (.n (.fn 4 Nu [.tmp 2]) (.e fun _=> .no) (.e fun _=> .no)) (.e fun _=> .no))))) (.n (.fn 30 c6 [.tmp 4, .tmp 5]) (.n (.fn 15 Mc [.tmp 2, .tmp 3]) (.n (.fn 45 Mk [.tmp 4]) (.n (.fn 5 Mv [.tmp 2]) (.n (.fn 9 M0 [.tmp 4]) (.e fun _=> .no) (.e fun _=> .no)) (.n (.fn 33 NA [.tmp 2]) (.e fun _=> .no) (.e fun _=> .no))) (.n (.fn 8 ML [.tmp 3]) (.n (.fn 84 Nj [.tmp 8]) (.e fun _=> .no) (.e fun _=> .no)) (.n (.fn 14 G6 [.tmp 4]) (.e fun _=> .no) (.e fun _=> .no)))) (.n (.fn 6 Mn [.tmp 2]) (.n (.fn 61 MD [.tmp 2]) (.n (.fn 52 Na [.tmp 6]) (.e fun _=> .no) (.e fun _=> .no)) (.n (.fn 8 GP []) (.e fun _=> .no) (.e fun _=> .no))) (.n (.fn 8 MT [.tmp 3]) (.n (.fn 19 Ns [.tmp 4]) (.e fun _=> .no) (.e fun _=> .no)) (.e fun _=> .no)))) (.n (.fn 17 Mg [.cell 2 38]) (.n (.fn 50 JT [.cell 4 59]) (.n (.fn 26 Mz [.tmp 4]) (.n (.fn 9 M6 [.tmp 4]) (.e fun _=> .no) (.e fun _=> .no)) (.n (.fn 27 GH [.tmp 4]) (.e fun _=> .no) (.e fun _=> .no))) (.n (.fn 134 MP []) (.n (.fn 32 Nn [.tmp 6]) (.e fun _=> .no) (.e fun _=> .no)) (.n (.fn 27 He [.tmp 4]) (.e fun _=> .no) (.e fun _=> .no)))) (.n (.fn 5 Mr [.cell 2 47]) (.n (.fn 9 MH [.tmp 4]) (.n (.fn 57 Nf [.tmp 6, .tmp 7]) (.e fun _=> .no) (.e fun _=> .no)) (.n (.fn 14 GY [.tmp 4]) (.e fun _=> .no) (.e fun _=> .no))) (.n (.fn 24 MW [.tmp 3]) (.n (.fn 4 Nw [.tmp 2]) (.e fun _=> .no) (.e fun _=> .no)) (.e fun _=> .no)))))))
noncomputable def bg:Nat->FD:=Hk.get
theorem eE:∀g,(bg g).Ok Tryz.prog g:=
 Tr.qR (p:=fun g d=>d.Ok Tryz.prog g) (f:=fun g=>g) Hk
   ⟨trivial,⟨trivial,⟨L7,⟨L9,⟨JM,⟨J2,⟨Kz,(fun _=>trivial),(fun _=>trivial)⟩,⟨Lc,(fun _=>trivial),(fun _=>trivial)⟩⟩,⟨Kj,⟨KU,(fun _=>trivial),(fun _=>trivial)⟩,⟨G1,(fun _=>trivial),(fun _=>trivial)⟩⟩⟩,⟨Gw,⟨Ka,⟨KK,(fun _=>trivial),(fun _=>trivial)⟩,⟨GK,(fun _=>trivial),(fun _=>trivial)⟩⟩,⟨Kr,⟨K4,(fun _=>trivial),(fun _=>trivial)⟩,⟨Hh,(fun _=>trivial),(fun _=>trivial)⟩⟩⟩⟩,⟨JI,⟨JQ,⟨J6,⟨KG,(fun _=>trivial),(fun _=>trivial)⟩,⟨Lg,(fun _=>trivial),(fun _=>trivial)⟩⟩,⟨Kn,⟨K0,(fun _=>trivial),(fun _=>trivial)⟩,⟨G9,(fun _=>trivial),(fun _=>trivial)⟩⟩⟩,⟨JY,⟨Kg,⟨KO,(fun _=>trivial),(fun _=>trivial)⟩,⟨GS,(fun _=>trivial),(fun _=>trivial)⟩⟩,⟨trivial,⟨K8,(fun _=>trivial),(fun _=>trivial)⟩,(fun _=>trivial)⟩⟩⟩⟩,⟨O1,⟨Mb,⟨JO,⟨J4,⟨KC,(fun _=>trivial),(fun _=>trivial)⟩,⟨Le,(fun _=>trivial),(fun _=>trivial)⟩⟩,⟨Kl,⟨KY,(fun _=>trivial),(fun _=>trivial)⟩,⟨G5,(fun _=>trivial),(fun _=>trivial)⟩⟩⟩,⟨Gy,⟨Kd,⟨KM,(fun _=>trivial),(fun _=>trivial)⟩,⟨GO,(fun _=>trivial),(fun _=>trivial)⟩⟩,⟨Ku,⟨K6,(fun _=>trivial),(fun _=>trivial)⟩,(fun _=>trivial)⟩⟩⟩,⟨JK,⟨Gu,⟨J8,⟨KI,(fun _=>trivial),(fun _=>trivial)⟩,⟨GG,(fun _=>trivial),(fun _=>trivial)⟩⟩,⟨Kp,⟨K2,(fun _=>trivial),(fun _=>trivial)⟩,⟨Hd,(fun _=>trivial),(fun _=>trivial)⟩⟩⟩,⟨J0,⟨⟨GA,Gt⟩,⟨KR,(fun _=>trivial),(fun _=>trivial)⟩,⟨GX,(fun _=>trivial),(fun _=>trivial)⟩⟩,⟨Kx,⟨La,(fun _=>trivial),(fun _=>trivial)⟩,(fun _=>trivial)⟩⟩⟩⟩⟩,⟨trivial,⟨O0,⟨Ma,⟨JN,⟨J3,⟨KA,(fun _=>trivial),(fun _=>trivial)⟩,⟨Ld,(fun _=>trivial),(fun _=>trivial)⟩⟩,⟨Kk,⟨KW,(fun _=>trivial),(fun _=>trivial)⟩,⟨G3,(fun _=>trivial),(fun _=>trivial)⟩⟩⟩,⟨Gx,⟨Kc,⟨KL,(fun _=>trivial),(fun _=>trivial)⟩,⟨GM,(fun _=>trivial),(fun _=>trivial)⟩⟩,⟨Ks,⟨K5,(fun _=>trivial),(fun _=>trivial)⟩,⟨Hj,(fun _=>trivial),(fun _=>trivial)⟩⟩⟩⟩,⟨JJ,⟨JR,⟨J7,⟨KH,(fun _=>trivial),(fun _=>trivial)⟩,⟨GD,(fun _=>trivial),(fun _=>trivial)⟩⟩,⟨Ko,⟨K1,(fun _=>trivial),(fun _=>trivial)⟩,⟨Hb,(fun _=>trivial),(fun _=>trivial)⟩⟩⟩,⟨JZ,⟨Kh,⟨KQ,(fun _=>trivial),(fun _=>trivial)⟩,⟨GV,(fun _=>trivial),(fun _=>trivial)⟩⟩,⟨Kw,⟨K9,(fun _=>trivial),(fun _=>trivial)⟩,(fun _=>trivial)⟩⟩⟩⟩,⟨L8,⟨JH,⟨JP,⟨J5,⟨KF,(fun _=>trivial),(fun _=>trivial)⟩,⟨Lf,(fun _=>trivial),(fun _=>trivial)⟩⟩,⟨Km,⟨KZ,(fun _=>trivial),(fun _=>trivial)⟩,⟨G7,(fun _=>trivial),(fun _=>trivial)⟩⟩⟩,⟨JX,⟨Ke,⟨KN,(fun _=>trivial),(fun _=>trivial)⟩,⟨GQ,(fun _=>trivial),(fun _=>trivial)⟩⟩,⟨Kv,⟨K7,(fun _=>trivial),(fun _=>trivial)⟩,(fun _=>trivial)⟩⟩⟩,⟨JL,⟨Gv,⟨J9,⟨KJ,(fun _=>trivial),(fun _=>trivial)⟩,⟨GI,(fun _=>trivial),(fun _=>trivial)⟩⟩,⟨Kq,⟨K3,(fun _=>trivial),(fun _=>trivial)⟩,⟨Hf,(fun _=>trivial),(fun _=>trivial)⟩⟩⟩,⟨J1,⟨Ki,⟨KT,(fun _=>trivial),(fun _=>trivial)⟩,⟨GZ,(fun _=>trivial),(fun _=>trivial)⟩⟩,⟨Ky,⟨Lb,(fun _=>trivial),(fun _=>trivial)⟩,(fun _=>trivial)⟩⟩⟩⟩⟩⟩
end Go.Proofs.YtbmnikpknlkbkaaGreat
namespace Go.Proofs.YtbmnikpknlkbkaaGreat
@[go_sem] theorem cellsOf_3:Tryz.prog.cellsOf 3=1:=by kernel_rfl
@[go_sem] theorem bytesOf_3:Tryz.prog.bytesOf 3=8:=by kernel_rfl
@[go_sem] theorem sliceT_3:aB Tryz.prog 3=none:=by kernel_rfl
@[go_sem] theorem arrT_3:bA Tryz.prog 3=none:=by kernel_rfl
@[go_sem] theorem aggT_3:bd Tryz.prog 3=some false:=by kernel_rfl
@[go_sem] theorem intT_3:bB Tryz.prog 3=some .i64:=by kernel_rfl
@[go_sem] theorem isBoolT_3:aA Tryz.prog 3=false:=by kernel_rfl
@[go_sem] theorem infoT_3:(Tryz.prog.info? 3).isSome=true:=by kernel_rfl
@[go_sem] theorem plainIface_3:ah Tryz.prog 3=true:=by kernel_rfl
@[go_sem] theorem undT_3:Tryz.prog.underlying 3=some (.int .i64):=by kernel_rfl
@[go_sem] theorem eqShape_3:a9 Tryz.prog 3=some .int:=by kernel_rfl
@[go_sem] theorem zeroT_3:aK Tryz.prog 3=some [.d (.int .i64 0)]:=by kernel_rfl
@[go_sem] theorem zeroV_3:zeroV Tryz.prog 3=some (.d (.int .i64 0)):=by kernel_rfl
@[go_sem] theorem zeroD_3:aR Tryz.prog 3=some (.int .i64 0):=by kernel_rfl
@[go_sem] theorem cellsOf_4:Tryz.prog.cellsOf 4=1:=by kernel_rfl
@[go_sem] theorem bytesOf_4:Tryz.prog.bytesOf 4=1:=by kernel_rfl
@[go_sem] theorem sliceT_4:aB Tryz.prog 4=none:=by kernel_rfl
@[go_sem] theorem arrT_4:bA Tryz.prog 4=none:=by kernel_rfl
@[go_sem] theorem aggT_4:bd Tryz.prog 4=some false:=by kernel_rfl
@[go_sem] theorem intT_4:bB Tryz.prog 4=none:=by kernel_rfl
@[go_sem] theorem isBoolT_4:aA Tryz.prog 4=true:=by kernel_rfl
@[go_sem] theorem infoT_4:(Tryz.prog.info? 4).isSome=true:=by kernel_rfl
@[go_sem] theorem plainIface_4:ah Tryz.prog 4=true:=by kernel_rfl
@[go_sem] theorem undT_4:Tryz.prog.underlying 4=some .bool:=by kernel_rfl
@[go_sem] theorem eqShape_4:a9 Tryz.prog 4=some .bool:=by kernel_rfl
@[go_sem] theorem zeroT_4:aK Tryz.prog 4=some [.d (.bool false)]:=by kernel_rfl
@[go_sem] theorem zeroV_4:zeroV Tryz.prog 4=some (.d (.bool false)):=by kernel_rfl
@[go_sem] theorem zeroD_4:aR Tryz.prog 4=some (.bool false):=by kernel_rfl
@[go_sem] theorem cellsOf_5:Tryz.prog.cellsOf 5=1:=by kernel_rfl
@[go_sem] theorem bytesOf_5:Tryz.prog.bytesOf 5=1:=by kernel_rfl
@[go_sem] theorem sliceT_5:aB Tryz.prog 5=none:=by kernel_rfl
@[go_sem] theorem arrT_5:bA Tryz.prog 5=none:=by kernel_rfl
@[go_sem] theorem aggT_5:bd Tryz.prog 5=some false:=by kernel_rfl
@[go_sem] theorem intT_5:bB Tryz.prog 5=some .u8:=by kernel_rfl
@[go_sem] theorem isBoolT_5:aA Tryz.prog 5=false:=by kernel_rfl
@[go_sem] theorem infoT_5:(Tryz.prog.info? 5).isSome=true:=by kernel_rfl
@[go_sem] theorem plainIface_5:ah Tryz.prog 5=true:=by kernel_rfl
@[go_sem] theorem undT_5:Tryz.prog.underlying 5=some (.int .u8):=by kernel_rfl
@[go_sem] theorem eqShape_5:a9 Tryz.prog 5=some .int:=by kernel_rfl
@[go_sem] theorem zeroT_5:aK Tryz.prog 5=some [.d (.int .u8 0)]:=by kernel_rfl
@[go_sem] theorem zeroV_5:zeroV Tryz.prog 5=some (.d (.int .u8 0)):=by kernel_rfl
@[go_sem] theorem zeroD_5:aR Tryz.prog 5=some (.int .u8 0):=by kernel_rfl
@[go_sem] theorem cellsOf_9:Tryz.prog.cellsOf 9=1:=by kernel_rfl
@[go_sem] theorem bytesOf_9:Tryz.prog.bytesOf 9=16:=by kernel_rfl
@[go_sem] theorem sliceT_9:aB Tryz.prog 9=none:=by kernel_rfl
@[go_sem] theorem arrT_9:bA Tryz.prog 9=none:=by kernel_rfl
@[go_sem] theorem aggT_9:bd Tryz.prog 9=some false:=by kernel_rfl
@[go_sem] theorem intT_9:bB Tryz.prog 9=none:=by kernel_rfl
@[go_sem] theorem isBoolT_9:aA Tryz.prog 9=false:=by kernel_rfl
@[go_sem] theorem infoT_9:(Tryz.prog.info? 9).isSome=true:=by kernel_rfl
@[go_sem] theorem plainIface_9:ah Tryz.prog 9=true:=by kernel_rfl
@[go_sem] theorem undT_9:Tryz.prog.underlying 9=some .string:=by kernel_rfl
@[go_sem] theorem eqShape_9:a9 Tryz.prog 9=some .str:=by kernel_rfl
@[go_sem] theorem zeroT_9:aK Tryz.prog 9=some [.d (.str [])]:=by kernel_rfl
@[go_sem] theorem zeroV_9:zeroV Tryz.prog 9=some (.d (.str [])):=by kernel_rfl
@[go_sem] theorem zeroD_9:aR Tryz.prog 9=some (.str []):=by kernel_rfl
@[go_sem] theorem cellsOf_20:Tryz.prog.cellsOf 20=1:=by kernel_rfl
@[go_sem] theorem bytesOf_20:Tryz.prog.bytesOf 20=16:=by kernel_rfl
@[go_sem] theorem sliceT_20:aB Tryz.prog 20=none:=by kernel_rfl
@[go_sem] theorem arrT_20:bA Tryz.prog 20=none:=by kernel_rfl
@[go_sem] theorem aggT_20:bd Tryz.prog 20=some false:=by kernel_rfl
@[go_sem] theorem intT_20:bB Tryz.prog 20=none:=by kernel_rfl
@[go_sem] theorem isBoolT_20:aA Tryz.prog 20=false:=by kernel_rfl
@[go_sem] theorem infoT_20:(Tryz.prog.info? 20).isSome=true:=by kernel_rfl
@[go_sem] theorem plainIface_20:ah Tryz.prog 20=false:=by kernel_rfl
@[go_sem] theorem zeroT_20:aK Tryz.prog 20=some [.d .dS]:=by kernel_rfl
@[go_sem] theorem zeroV_20:zeroV Tryz.prog 20=some (.d .dS):=by kernel_rfl
@[go_sem] theorem zeroD_20:aR Tryz.prog 20=some .dS:=by kernel_rfl
@[go_sem] theorem cellsOf_21:Tryz.prog.cellsOf 21=1:=by kernel_rfl
@[go_sem] theorem bytesOf_21:Tryz.prog.bytesOf 21=4:=by kernel_rfl
@[go_sem] theorem sliceT_21:aB Tryz.prog 21=none:=by kernel_rfl
@[go_sem] theorem arrT_21:bA Tryz.prog 21=none:=by kernel_rfl
@[go_sem] theorem aggT_21:bd Tryz.prog 21=some false:=by kernel_rfl
@[go_sem] theorem intT_21:bB Tryz.prog 21=some .i32:=by kernel_rfl
@[go_sem] theorem isBoolT_21:aA Tryz.prog 21=false:=by kernel_rfl
@[go_sem] theorem infoT_21:(Tryz.prog.info? 21).isSome=true:=by kernel_rfl
@[go_sem] theorem plainIface_21:ah Tryz.prog 21=true:=by kernel_rfl
@[go_sem] theorem undT_21:Tryz.prog.underlying 21=some (.int .i32):=by kernel_rfl
@[go_sem] theorem eqShape_21:a9 Tryz.prog 21=some .int:=by kernel_rfl
@[go_sem] theorem zeroT_21:aK Tryz.prog 21=some [.d (.int .i32 0)]:=by kernel_rfl
@[go_sem] theorem zeroV_21:zeroV Tryz.prog 21=some (.d (.int .i32 0)):=by kernel_rfl
@[go_sem] theorem zeroD_21:aR Tryz.prog 21=some (.int .i32 0):=by kernel_rfl
@[go_sem] theorem cellsOf_22:Tryz.prog.cellsOf 22=1:=by kernel_rfl
@[go_sem] theorem bytesOf_22:Tryz.prog.bytesOf 22=24:=by kernel_rfl
@[go_sem] theorem sliceT_22:aB Tryz.prog 22=some 56:=by kernel_rfl
@[go_sem] theorem arrT_22:bA Tryz.prog 22=none:=by kernel_rfl
@[go_sem] theorem aggT_22:bd Tryz.prog 22=some false:=by kernel_rfl
@[go_sem] theorem intT_22:bB Tryz.prog 22=none:=by kernel_rfl
@[go_sem] theorem isBoolT_22:aA Tryz.prog 22=false:=by kernel_rfl
@[go_sem] theorem infoT_22:(Tryz.prog.info? 22).isSome=true:=by kernel_rfl
@[go_sem] theorem plainIface_22:ah Tryz.prog 22=true:=by kernel_rfl
@[go_sem] theorem undT_22:Tryz.prog.underlying 22=some (.slice 56):=by kernel_rfl
@[go_sem] theorem zeroT_22:aK Tryz.prog 22=some [.aI]:=by kernel_rfl
@[go_sem] theorem zeroV_22:zeroV Tryz.prog 22=some (.aI):=by kernel_rfl
@[go_sem] theorem zeroD_22:aR Tryz.prog 22=some (.sl []):=by kernel_rfl
@[go_sem] theorem cellsOf_24:Tryz.prog.cellsOf 24=1:=by kernel_rfl
@[go_sem] theorem bytesOf_24:Tryz.prog.bytesOf 24=8:=by kernel_rfl
@[go_sem] theorem sliceT_24:aB Tryz.prog 24=none:=by kernel_rfl
@[go_sem] theorem arrT_24:bA Tryz.prog 24=none:=by kernel_rfl
@[go_sem] theorem aggT_24:bd Tryz.prog 24=some false:=by kernel_rfl
@[go_sem] theorem intT_24:bB Tryz.prog 24=some .i64:=by kernel_rfl
@[go_sem] theorem isBoolT_24:aA Tryz.prog 24=false:=by kernel_rfl
@[go_sem] theorem infoT_24:(Tryz.prog.info? 24).isSome=true:=by kernel_rfl
@[go_sem] theorem plainIface_24:ah Tryz.prog 24=true:=by kernel_rfl
@[go_sem] theorem undT_24:Tryz.prog.underlying 24=some (.int .i64):=by kernel_rfl
@[go_sem] theorem eqShape_24:a9 Tryz.prog 24=some .int:=by kernel_rfl
@[go_sem] theorem zeroT_24:aK Tryz.prog 24=some [.d (.int .i64 0)]:=by kernel_rfl
@[go_sem] theorem zeroV_24:zeroV Tryz.prog 24=some (.d (.int .i64 0)):=by kernel_rfl
@[go_sem] theorem zeroD_24:aR Tryz.prog 24=some (.int .i64 0):=by kernel_rfl
@[go_sem] theorem cellsOf_30:Tryz.prog.cellsOf 30=1:=by kernel_rfl
@[go_sem] theorem bytesOf_30:Tryz.prog.bytesOf 30=24:=by kernel_rfl
@[go_sem] theorem sliceT_30:aB Tryz.prog 30=some 53:=by kernel_rfl
@[go_sem] theorem arrT_30:bA Tryz.prog 30=none:=by kernel_rfl
@[go_sem] theorem aggT_30:bd Tryz.prog 30=some false:=by kernel_rfl
@[go_sem] theorem intT_30:bB Tryz.prog 30=none:=by kernel_rfl
@[go_sem] theorem isBoolT_30:aA Tryz.prog 30=false:=by kernel_rfl
@[go_sem] theorem infoT_30:(Tryz.prog.info? 30).isSome=true:=by kernel_rfl
@[go_sem] theorem plainIface_30:ah Tryz.prog 30=true:=by kernel_rfl
@[go_sem] theorem undT_30:Tryz.prog.underlying 30=some (.slice 53):=by kernel_rfl
@[go_sem] theorem zeroT_30:aK Tryz.prog 30=some [.aI]:=by kernel_rfl
@[go_sem] theorem zeroV_30:zeroV Tryz.prog 30=some (.aI):=by kernel_rfl
@[go_sem] theorem zeroD_30:aR Tryz.prog 30=some (.sl []):=by kernel_rfl
@[go_sem] theorem cellsOf_33:Tryz.prog.cellsOf 33=1:=by kernel_rfl
@[go_sem] theorem bytesOf_33:Tryz.prog.bytesOf 33=24:=by kernel_rfl
@[go_sem] theorem sliceT_33:aB Tryz.prog 33=some 73:=by kernel_rfl
@[go_sem] theorem arrT_33:bA Tryz.prog 33=none:=by kernel_rfl
@[go_sem] theorem aggT_33:bd Tryz.prog 33=some false:=by kernel_rfl
@[go_sem] theorem intT_33:bB Tryz.prog 33=none:=by kernel_rfl
@[go_sem] theorem isBoolT_33:aA Tryz.prog 33=false:=by kernel_rfl
@[go_sem] theorem infoT_33:(Tryz.prog.info? 33).isSome=true:=by kernel_rfl
@[go_sem] theorem plainIface_33:ah Tryz.prog 33=true:=by kernel_rfl
@[go_sem] theorem undT_33:Tryz.prog.underlying 33=some (.slice 73):=by kernel_rfl
@[go_sem] theorem zeroT_33:aK Tryz.prog 33=some [.aI]:=by kernel_rfl
@[go_sem] theorem zeroV_33:zeroV Tryz.prog 33=some (.aI):=by kernel_rfl
@[go_sem] theorem zeroD_33:aR Tryz.prog 33=some (.sl []):=by kernel_rfl
@[go_sem] theorem cellsOf_35:Tryz.prog.cellsOf 35=2:=by kernel_rfl
@[go_sem] theorem bytesOf_35:Tryz.prog.bytesOf 35=48:=by kernel_rfl
@[go_sem] theorem sliceT_35:aB Tryz.prog 35=none:=by kernel_rfl
@[go_sem] theorem arrT_35:bA Tryz.prog 35=none:=by kernel_rfl
@[go_sem] theorem aggT_35:bd Tryz.prog 35=some true:=by kernel_rfl
@[go_sem] theorem intT_35:bB Tryz.prog 35=none:=by kernel_rfl
@[go_sem] theorem isBoolT_35:aA Tryz.prog 35=false:=by kernel_rfl
@[go_sem] theorem infoT_35:(Tryz.prog.info? 35).isSome=true:=by kernel_rfl
@[go_sem] theorem plainIface_35:ah Tryz.prog 35=true:=by kernel_rfl
@[go_sem] theorem zeroT_35:aK Tryz.prog 35=some [.aI, .aI]:=by kernel_rfl
@[go_sem] theorem zeroV_35:zeroV Tryz.prog 35=some (cS [.aI, .aI]):=by kernel_rfl
@[go_sem] theorem zeroD_35:aR Tryz.prog 35=some (.agg [(.sl []),(.sl [])]):=by kernel_rfl
@[go_sem] theorem placesT_35:bS Tryz.prog 35=some [(0,1),(1,1)]:=by kernel_rfl
@[go_sem] theorem cellsOf_36:Tryz.prog.cellsOf 36=1:=by kernel_rfl
@[go_sem] theorem bytesOf_36:Tryz.prog.bytesOf 36=24:=by kernel_rfl
@[go_sem] theorem sliceT_36:aB Tryz.prog 36=some 76:=by kernel_rfl
@[go_sem] theorem arrT_36:bA Tryz.prog 36=none:=by kernel_rfl
@[go_sem] theorem aggT_36:bd Tryz.prog 36=some false:=by kernel_rfl
@[go_sem] theorem intT_36:bB Tryz.prog 36=none:=by kernel_rfl
@[go_sem] theorem isBoolT_36:aA Tryz.prog 36=false:=by kernel_rfl
@[go_sem] theorem infoT_36:(Tryz.prog.info? 36).isSome=true:=by kernel_rfl
@[go_sem] theorem plainIface_36:ah Tryz.prog 36=true:=by kernel_rfl
@[go_sem] theorem undT_36:Tryz.prog.underlying 36=some (.slice 76):=by kernel_rfl
@[go_sem] theorem zeroT_36:aK Tryz.prog 36=some [.aI]:=by kernel_rfl
@[go_sem] theorem zeroV_36:zeroV Tryz.prog 36=some (.aI):=by kernel_rfl
@[go_sem] theorem zeroD_36:aR Tryz.prog 36=some (.sl []):=by kernel_rfl
@[go_sem] theorem cellsOf_38:Tryz.prog.cellsOf 38=3:=by kernel_rfl
@[go_sem] theorem bytesOf_38:Tryz.prog.bytesOf 38=72:=by kernel_rfl
@[go_sem] theorem sliceT_38:aB Tryz.prog 38=none:=by kernel_rfl
@[go_sem] theorem arrT_38:bA Tryz.prog 38=none:=by kernel_rfl
@[go_sem] theorem aggT_38:bd Tryz.prog 38=some true:=by kernel_rfl
@[go_sem] theorem intT_38:bB Tryz.prog 38=none:=by kernel_rfl
@[go_sem] theorem isBoolT_38:aA Tryz.prog 38=false:=by kernel_rfl
@[go_sem] theorem infoT_38:(Tryz.prog.info? 38).isSome=true:=by kernel_rfl
@[go_sem] theorem plainIface_38:ah Tryz.prog 38=true:=by kernel_rfl
@[go_sem] theorem zeroT_38:aK Tryz.prog 38=some [.aI, .aI, .aI]:=by kernel_rfl
@[go_sem] theorem zeroV_38:zeroV Tryz.prog 38=some (cS [.aI, .aI, .aI]):=by kernel_rfl
@[go_sem] theorem zeroD_38:aR Tryz.prog 38=some (.agg [(.sl []),(.sl []),(.sl [])]):=by kernel_rfl
@[go_sem] theorem placesT_38:bS Tryz.prog 38=some [(0,2),(2,1)]:=by kernel_rfl
@[go_sem] theorem cellsOf_40:Tryz.prog.cellsOf 40=1:=by kernel_rfl
@[go_sem] theorem bytesOf_40:Tryz.prog.bytesOf 40=24:=by kernel_rfl
@[go_sem] theorem sliceT_40:aB Tryz.prog 40=some 3:=by kernel_rfl
@[go_sem] theorem arrT_40:bA Tryz.prog 40=none:=by kernel_rfl
@[go_sem] theorem aggT_40:bd Tryz.prog 40=some false:=by kernel_rfl
@[go_sem] theorem intT_40:bB Tryz.prog 40=none:=by kernel_rfl
@[go_sem] theorem isBoolT_40:aA Tryz.prog 40=false:=by kernel_rfl
@[go_sem] theorem infoT_40:(Tryz.prog.info? 40).isSome=true:=by kernel_rfl
@[go_sem] theorem plainIface_40:ah Tryz.prog 40=true:=by kernel_rfl
@[go_sem] theorem undT_40:Tryz.prog.underlying 40=some (.slice 3):=by kernel_rfl
@[go_sem] theorem zeroT_40:aK Tryz.prog 40=some [.aI]:=by kernel_rfl
@[go_sem] theorem zeroV_40:zeroV Tryz.prog 40=some (.aI):=by kernel_rfl
@[go_sem] theorem zeroD_40:aR Tryz.prog 40=some (.sl []):=by kernel_rfl
@[go_sem] theorem cellsOf_44:Tryz.prog.cellsOf 44=1:=by kernel_rfl
@[go_sem] theorem bytesOf_44:Tryz.prog.bytesOf 44=8:=by kernel_rfl
@[go_sem] theorem sliceT_44:aB Tryz.prog 44=none:=by kernel_rfl
@[go_sem] theorem arrT_44:bA Tryz.prog 44=none:=by kernel_rfl
@[go_sem] theorem aggT_44:bd Tryz.prog 44=some false:=by kernel_rfl
@[go_sem] theorem intT_44:bB Tryz.prog 44=some .i64:=by kernel_rfl
@[go_sem] theorem isBoolT_44:aA Tryz.prog 44=false:=by kernel_rfl
@[go_sem] theorem infoT_44:(Tryz.prog.info? 44).isSome=true:=by kernel_rfl
@[go_sem] theorem plainIface_44:ah Tryz.prog 44=true:=by kernel_rfl
@[go_sem] theorem undT_44:Tryz.prog.underlying 44=some (.int .i64):=by kernel_rfl
@[go_sem] theorem eqShape_44:a9 Tryz.prog 44=some .int:=by kernel_rfl
@[go_sem] theorem zeroT_44:aK Tryz.prog 44=some [.d (.int .i64 0)]:=by kernel_rfl
@[go_sem] theorem zeroV_44:zeroV Tryz.prog 44=some (.d (.int .i64 0)):=by kernel_rfl
@[go_sem] theorem zeroD_44:aR Tryz.prog 44=some (.int .i64 0):=by kernel_rfl
@[go_sem] theorem cellsOf_45:Tryz.prog.cellsOf 45=1:=by kernel_rfl
@[go_sem] theorem bytesOf_45:Tryz.prog.bytesOf 45=24:=by kernel_rfl
@[go_sem] theorem sliceT_45:aB Tryz.prog 45=some 47:=by kernel_rfl
@[go_sem] theorem arrT_45:bA Tryz.prog 45=none:=by kernel_rfl
@[go_sem] theorem aggT_45:bd Tryz.prog 45=some false:=by kernel_rfl
@[go_sem] theorem intT_45:bB Tryz.prog 45=none:=by kernel_rfl
@[go_sem] theorem isBoolT_45:aA Tryz.prog 45=false:=by kernel_rfl
@[go_sem] theorem infoT_45:(Tryz.prog.info? 45).isSome=true:=by kernel_rfl
@[go_sem] theorem plainIface_45:ah Tryz.prog 45=true:=by kernel_rfl
@[go_sem] theorem undT_45:Tryz.prog.underlying 45=some (.slice 47):=by kernel_rfl
@[go_sem] theorem zeroT_45:aK Tryz.prog 45=some [.aI]:=by kernel_rfl
@[go_sem] theorem zeroV_45:zeroV Tryz.prog 45=some (.aI):=by kernel_rfl
@[go_sem] theorem zeroD_45:aR Tryz.prog 45=some (.sl []):=by kernel_rfl
@[go_sem] theorem cellsOf_47:Tryz.prog.cellsOf 47=3:=by kernel_rfl
@[go_sem] theorem bytesOf_47:Tryz.prog.bytesOf 47=40:=by kernel_rfl
@[go_sem] theorem sliceT_47:aB Tryz.prog 47=none:=by kernel_rfl
@[go_sem] theorem arrT_47:bA Tryz.prog 47=none:=by kernel_rfl
@[go_sem] theorem aggT_47:bd Tryz.prog 47=some true:=by kernel_rfl
@[go_sem] theorem intT_47:bB Tryz.prog 47=none:=by kernel_rfl
@[go_sem] theorem isBoolT_47:aA Tryz.prog 47=false:=by kernel_rfl
@[go_sem] theorem infoT_47:(Tryz.prog.info? 47).isSome=true:=by kernel_rfl
@[go_sem] theorem plainIface_47:ah Tryz.prog 47=true:=by kernel_rfl
@[go_sem] theorem zeroT_47:aK Tryz.prog 47=some [.d (.int .i64 0), .d (.int .i64 0), .aI]:=by kernel_rfl
@[go_sem] theorem zeroV_47:zeroV Tryz.prog 47=some (cS [.d (.int .i64 0), .d (.int .i64 0), .aI]):=by kernel_rfl
@[go_sem] theorem zeroD_47:aR Tryz.prog 47=some (.agg [(.int .i64 0),(.int .i64 0),(.sl [])]):=by kernel_rfl
@[go_sem] theorem placesT_47:bS Tryz.prog 47=some [(0,1),(1,1),(2,1)]:=by kernel_rfl
@[go_sem] theorem cellsOf_53:Tryz.prog.cellsOf 53=6:=by kernel_rfl
@[go_sem] theorem bytesOf_53:Tryz.prog.bytesOf 53=80:=by kernel_rfl
@[go_sem] theorem sliceT_53:aB Tryz.prog 53=none:=by kernel_rfl
@[go_sem] theorem arrT_53:bA Tryz.prog 53=none:=by kernel_rfl
@[go_sem] theorem aggT_53:bd Tryz.prog 53=some true:=by kernel_rfl
@[go_sem] theorem intT_53:bB Tryz.prog 53=none:=by kernel_rfl
@[go_sem] theorem isBoolT_53:aA Tryz.prog 53=false:=by kernel_rfl
@[go_sem] theorem infoT_53:(Tryz.prog.info? 53).isSome=true:=by kernel_rfl
@[go_sem] theorem plainIface_53:ah Tryz.prog 53=true:=by kernel_rfl
@[go_sem] theorem zeroT_53:aK Tryz.prog 53=some [.d (.int .i64 0), .d (.int .i64 0), .d (.int .i64 0), .aI, .d (.bool false), .aI]:=by kernel_rfl
@[go_sem] theorem zeroV_53:zeroV Tryz.prog 53=some (cS [.d (.int .i64 0), .d (.int .i64 0), .d (.int .i64 0), .aI, .d (.bool false), .aI]):=by kernel_rfl
@[go_sem] theorem zeroD_53:aR Tryz.prog 53=some (.agg [(.int .i64 0),(.int .i64 0),(.int .i64 0),(.sl []),(.bool false),(.sl [])]):=by kernel_rfl
@[go_sem] theorem placesT_53:bS Tryz.prog 53=some [(0,1),(1,1),(2,1),(3,1),(4,1),(5,1)]:=by kernel_rfl
@[go_sem] theorem cellsOf_56:Tryz.prog.cellsOf 56=3:=by kernel_rfl
@[go_sem] theorem bytesOf_56:Tryz.prog.bytesOf 56=24:=by kernel_rfl
@[go_sem] theorem sliceT_56:aB Tryz.prog 56=none:=by kernel_rfl
@[go_sem] theorem arrT_56:bA Tryz.prog 56=none:=by kernel_rfl
@[go_sem] theorem aggT_56:bd Tryz.prog 56=some true:=by kernel_rfl
@[go_sem] theorem intT_56:bB Tryz.prog 56=none:=by kernel_rfl
@[go_sem] theorem isBoolT_56:aA Tryz.prog 56=false:=by kernel_rfl
@[go_sem] theorem infoT_56:(Tryz.prog.info? 56).isSome=true:=by kernel_rfl
@[go_sem] theorem plainIface_56:ah Tryz.prog 56=true:=by kernel_rfl
@[go_sem] theorem zeroT_56:aK Tryz.prog 56=some [.d (.int .i64 0), .d (.int .i64 0), .d (.bool false)]:=by kernel_rfl
@[go_sem] theorem zeroV_56:zeroV Tryz.prog 56=some (cS [.d (.int .i64 0), .d (.int .i64 0), .d (.bool false)]):=by kernel_rfl
@[go_sem] theorem zeroD_56:aR Tryz.prog 56=some (.agg [(.int .i64 0),(.int .i64 0),(.bool false)]):=by kernel_rfl
@[go_sem] theorem placesT_56:bS Tryz.prog 56=some [(0,1),(1,1),(2,1)]:=by kernel_rfl
@[go_sem] theorem cellsOf_57:Tryz.prog.cellsOf 57=4:=by kernel_rfl
@[go_sem] theorem bytesOf_57:Tryz.prog.bytesOf 57=32:=by kernel_rfl
@[go_sem] theorem sliceT_57:aB Tryz.prog 57=none:=by kernel_rfl
@[go_sem] theorem arrT_57:bA Tryz.prog 57=some (4,3):=by kernel_rfl
@[go_sem] theorem aggT_57:bd Tryz.prog 57=some true:=by kernel_rfl
@[go_sem] theorem intT_57:bB Tryz.prog 57=none:=by kernel_rfl
@[go_sem] theorem isBoolT_57:aA Tryz.prog 57=false:=by kernel_rfl
@[go_sem] theorem infoT_57:(Tryz.prog.info? 57).isSome=true:=by kernel_rfl
@[go_sem] theorem plainIface_57:ah Tryz.prog 57=true:=by kernel_rfl
@[go_sem] theorem undT_57:Tryz.prog.underlying 57=some (.array 4 3):=by kernel_rfl
@[go_sem] theorem zeroT_57:aK Tryz.prog 57=some [.d (.int .i64 0), .d (.int .i64 0), .d (.int .i64 0), .d (.int .i64 0)]:=by kernel_rfl
@[go_sem] theorem zeroV_57:zeroV Tryz.prog 57=some (cS [.d (.int .i64 0), .d (.int .i64 0), .d (.int .i64 0), .d (.int .i64 0)]):=by kernel_rfl
@[go_sem] theorem zeroD_57:aR Tryz.prog 57=some (.agg [(.int .i64 0),(.int .i64 0),(.int .i64 0),(.int .i64 0)]):=by kernel_rfl
@[go_sem] theorem cellsOf_59:Tryz.prog.cellsOf 59=16:=by kernel_rfl
@[go_sem] theorem bytesOf_59:Tryz.prog.bytesOf 59=128:=by kernel_rfl
@[go_sem] theorem sliceT_59:aB Tryz.prog 59=none:=by kernel_rfl
@[go_sem] theorem arrT_59:bA Tryz.prog 59=some (4,57):=by kernel_rfl
@[go_sem] theorem aggT_59:bd Tryz.prog 59=some true:=by kernel_rfl
@[go_sem] theorem intT_59:bB Tryz.prog 59=none:=by kernel_rfl
@[go_sem] theorem isBoolT_59:aA Tryz.prog 59=false:=by kernel_rfl
@[go_sem] theorem infoT_59:(Tryz.prog.info? 59).isSome=true:=by kernel_rfl
@[go_sem] theorem plainIface_59:ah Tryz.prog 59=true:=by kernel_rfl
@[go_sem] theorem undT_59:Tryz.prog.underlying 59=some (.array 4 57):=by kernel_rfl
@[go_sem] theorem zeroT_59:aK Tryz.prog 59=some [.d (.int .i64 0), .d (.int .i64 0), .d (.int .i64 0), .d (.int .i64 0), .d (.int .i64 0), .d (.int .i64 0), .d (.int .i64 0), .d (.int .i64 0), .d (.int .i64 0), .d (.int .i64 0), .d (.int .i64 0), .d (.int .i64 0), .d (.int .i64 0), .d (.int .i64 0), .d (.int .i64 0), .d (.int .i64 0)]:=by kernel_rfl
@[go_sem] theorem zeroV_59:zeroV Tryz.prog 59=some (cS [.d (.int .i64 0), .d (.int .i64 0), .d (.int .i64 0), .d (.int .i64 0), .d (.int .i64 0), .d (.int .i64 0), .d (.int .i64 0), .d (.int .i64 0), .d (.int .i64 0), .d (.int .i64 0), .d (.int .i64 0), .d (.int .i64 0), .d (.int .i64 0), .d (.int .i64 0), .d (.int .i64 0), .d (.int .i64 0)]):=by kernel_rfl
@[go_sem] theorem zeroD_59:aR Tryz.prog 59=some (.agg [(.int .i64 0),(.int .i64 0),(.int .i64 0),(.int .i64 0),(.int .i64 0),(.int .i64 0),(.int .i64 0),(.int .i64 0),(.int .i64 0),(.int .i64 0),(.int .i64 0),(.int .i64 0),(.int .i64 0),(.int .i64 0),(.int .i64 0),(.int .i64 0)]):=by kernel_rfl
@[go_sem] theorem placesT_59:bS Tryz.prog 59=some [(0,4),(4,4),(8,4),(12,4)]:=by kernel_rfl
@[go_sem] theorem cellsOf_69:Tryz.prog.cellsOf 69=4:=by kernel_rfl
@[go_sem] theorem bytesOf_69:Tryz.prog.bytesOf 69=96:=by kernel_rfl
@[go_sem] theorem sliceT_69:aB Tryz.prog 69=none:=by kernel_rfl
@[go_sem] theorem arrT_69:bA Tryz.prog 69=none:=by kernel_rfl
@[go_sem] theorem aggT_69:bd Tryz.prog 69=some true:=by kernel_rfl
@[go_sem] theorem intT_69:bB Tryz.prog 69=none:=by kernel_rfl
@[go_sem] theorem isBoolT_69:aA Tryz.prog 69=false:=by kernel_rfl
@[go_sem] theorem infoT_69:(Tryz.prog.info? 69).isSome=true:=by kernel_rfl
@[go_sem] theorem plainIface_69:ah Tryz.prog 69=true:=by kernel_rfl
@[go_sem] theorem zeroT_69:aK Tryz.prog 69=some [.aI, .aI, .aI, .aI]:=by kernel_rfl
@[go_sem] theorem zeroV_69:zeroV Tryz.prog 69=some (cS [.aI, .aI, .aI, .aI]):=by kernel_rfl
@[go_sem] theorem zeroD_69:aR Tryz.prog 69=some (.agg [(.sl []),(.sl []),(.sl []),(.sl [])]):=by kernel_rfl
@[go_sem] theorem placesT_69:bS Tryz.prog 69=some [(0,3),(3,1)]:=by kernel_rfl
@[go_sem] theorem cellsOf_73:Tryz.prog.cellsOf 73=2:=by kernel_rfl
@[go_sem] theorem bytesOf_73:Tryz.prog.bytesOf 73=24:=by kernel_rfl
@[go_sem] theorem sliceT_73:aB Tryz.prog 73=none:=by kernel_rfl
@[go_sem] theorem arrT_73:bA Tryz.prog 73=none:=by kernel_rfl
@[go_sem] theorem aggT_73:bd Tryz.prog 73=some true:=by kernel_rfl
@[go_sem] theorem intT_73:bB Tryz.prog 73=none:=by kernel_rfl
@[go_sem] theorem isBoolT_73:aA Tryz.prog 73=false:=by kernel_rfl
@[go_sem] theorem infoT_73:(Tryz.prog.info? 73).isSome=true:=by kernel_rfl
@[go_sem] theorem plainIface_73:ah Tryz.prog 73=true:=by kernel_rfl
@[go_sem] theorem zeroT_73:aK Tryz.prog 73=some [.d (.str []), .d (.int .i64 0)]:=by kernel_rfl
@[go_sem] theorem zeroV_73:zeroV Tryz.prog 73=some (cS [.d (.str []), .d (.int .i64 0)]):=by kernel_rfl
@[go_sem] theorem zeroD_73:aR Tryz.prog 73=some (.agg [(.str []),(.int .i64 0)]):=by kernel_rfl
@[go_sem] theorem placesT_73:bS Tryz.prog 73=some [(0,1),(1,1)]:=by kernel_rfl
@[go_sem] theorem cellsOf_76:Tryz.prog.cellsOf 76=6:=by kernel_rfl
@[go_sem] theorem bytesOf_76:Tryz.prog.bytesOf 76=80:=by kernel_rfl
@[go_sem] theorem sliceT_76:aB Tryz.prog 76=none:=by kernel_rfl
@[go_sem] theorem arrT_76:bA Tryz.prog 76=none:=by kernel_rfl
@[go_sem] theorem aggT_76:bd Tryz.prog 76=some true:=by kernel_rfl
@[go_sem] theorem intT_76:bB Tryz.prog 76=none:=by kernel_rfl
@[go_sem] theorem isBoolT_76:aA Tryz.prog 76=false:=by kernel_rfl
@[go_sem] theorem infoT_76:(Tryz.prog.info? 76).isSome=true:=by kernel_rfl
@[go_sem] theorem plainIface_76:ah Tryz.prog 76=true:=by kernel_rfl
@[go_sem] theorem zeroT_76:aK Tryz.prog 76=some [.d (.int .i64 0), .aI, .d (.int .i64 0), .d (.int .i64 0), .aI, .d (.int .i64 0)]:=by kernel_rfl
@[go_sem] theorem zeroV_76:zeroV Tryz.prog 76=some (cS [.d (.int .i64 0), .aI, .d (.int .i64 0), .d (.int .i64 0), .aI, .d (.int .i64 0)]):=by kernel_rfl
@[go_sem] theorem zeroD_76:aR Tryz.prog 76=some (.agg [(.int .i64 0),(.sl []),(.int .i64 0),(.int .i64 0),(.sl []),(.int .i64 0)]):=by kernel_rfl
@[go_sem] theorem placesT_76:bS Tryz.prog 76=some [(0,1),(1,1),(2,3),(5,1)]:=by kernel_rfl
@[go_sem] theorem cellsOf_78:Tryz.prog.cellsOf 78=1:=by kernel_rfl
@[go_sem] theorem bytesOf_78:Tryz.prog.bytesOf 78=8:=by kernel_rfl
@[go_sem] theorem sliceT_78:aB Tryz.prog 78=none:=by kernel_rfl
@[go_sem] theorem arrT_78:bA Tryz.prog 78=none:=by kernel_rfl
@[go_sem] theorem aggT_78:bd Tryz.prog 78=some false:=by kernel_rfl
@[go_sem] theorem intT_78:bB Tryz.prog 78=none:=by kernel_rfl
@[go_sem] theorem isBoolT_78:aA Tryz.prog 78=false:=by kernel_rfl
@[go_sem] theorem infoT_78:(Tryz.prog.info? 78).isSome=true:=by kernel_rfl
@[go_sem] theorem plainIface_78:ah Tryz.prog 78=true:=by kernel_rfl
@[go_sem] theorem zeroT_78:aK Tryz.prog 78=some [.d .aM]:=by kernel_rfl
@[go_sem] theorem zeroV_78:zeroV Tryz.prog 78=some (.d .aM):=by kernel_rfl
@[go_sem] theorem zeroD_78:aR Tryz.prog 78=some .aM:=by kernel_rfl
@[go_sem] theorem cellsOf_80:Tryz.prog.cellsOf 80=1:=by kernel_rfl
@[go_sem] theorem bytesOf_80:Tryz.prog.bytesOf 80=8:=by kernel_rfl
@[go_sem] theorem sliceT_80:aB Tryz.prog 80=none:=by kernel_rfl
@[go_sem] theorem arrT_80:bA Tryz.prog 80=none:=by kernel_rfl
@[go_sem] theorem aggT_80:bd Tryz.prog 80=some false:=by kernel_rfl
@[go_sem] theorem intT_80:bB Tryz.prog 80=none:=by kernel_rfl
@[go_sem] theorem isBoolT_80:aA Tryz.prog 80=false:=by kernel_rfl
@[go_sem] theorem infoT_80:(Tryz.prog.info? 80).isSome=true:=by kernel_rfl
@[go_sem] theorem plainIface_80:ah Tryz.prog 80=true:=by kernel_rfl
@[go_sem] theorem zeroT_80:aK Tryz.prog 80=some [.d .aM]:=by kernel_rfl
@[go_sem] theorem zeroV_80:zeroV Tryz.prog 80=some (.d .aM):=by kernel_rfl
@[go_sem] theorem zeroD_80:aR Tryz.prog 80=some .aM:=by kernel_rfl
@[go_sem] theorem cellsOf_87:Tryz.prog.cellsOf 87=5:=by kernel_rfl
@[go_sem] theorem bytesOf_87:Tryz.prog.bytesOf 87=72:=by kernel_rfl
@[go_sem] theorem sliceT_87:aB Tryz.prog 87=none:=by kernel_rfl
@[go_sem] theorem arrT_87:bA Tryz.prog 87=none:=by kernel_rfl
@[go_sem] theorem aggT_87:bd Tryz.prog 87=some true:=by kernel_rfl
@[go_sem] theorem intT_87:bB Tryz.prog 87=none:=by kernel_rfl
@[go_sem] theorem isBoolT_87:aA Tryz.prog 87=false:=by kernel_rfl
@[go_sem] theorem infoT_87:(Tryz.prog.info? 87).isSome=true:=by kernel_rfl
@[go_sem] theorem plainIface_87:ah Tryz.prog 87=true:=by kernel_rfl
@[go_sem] theorem zeroT_87:aK Tryz.prog 87=some [.d (.int .i64 0), .d (.int .i64 0), .aI, .aI, .d (.bool false)]:=by kernel_rfl
@[go_sem] theorem zeroV_87:zeroV Tryz.prog 87=some (cS [.d (.int .i64 0), .d (.int .i64 0), .aI, .aI, .d (.bool false)]):=by kernel_rfl
@[go_sem] theorem zeroD_87:aR Tryz.prog 87=some (.agg [(.int .i64 0),(.int .i64 0),(.sl []),(.sl []),(.bool false)]):=by kernel_rfl
@[go_sem] theorem placesT_87:bS Tryz.prog 87=some [(0,3),(3,1),(4,1)]:=by kernel_rfl
@[go_sem] theorem cellsOf_95:Tryz.prog.cellsOf 95=1:=by kernel_rfl
@[go_sem] theorem bytesOf_95:Tryz.prog.bytesOf 95=8:=by kernel_rfl
@[go_sem] theorem sliceT_95:aB Tryz.prog 95=none:=by kernel_rfl
@[go_sem] theorem arrT_95:bA Tryz.prog 95=none:=by kernel_rfl
@[go_sem] theorem aggT_95:bd Tryz.prog 95=some false:=by kernel_rfl
@[go_sem] theorem intT_95:bB Tryz.prog 95=none:=by kernel_rfl
@[go_sem] theorem isBoolT_95:aA Tryz.prog 95=false:=by kernel_rfl
@[go_sem] theorem infoT_95:(Tryz.prog.info? 95).isSome=true:=by kernel_rfl
@[go_sem] theorem plainIface_95:ah Tryz.prog 95=true:=by kernel_rfl
@[go_sem] theorem zeroT_95:aK Tryz.prog 95=some [.d .aM]:=by kernel_rfl
@[go_sem] theorem zeroV_95:zeroV Tryz.prog 95=some (.d .aM):=by kernel_rfl
@[go_sem] theorem zeroD_95:aR Tryz.prog 95=some .aM:=by kernel_rfl
@[go_sem] theorem cellsOf_96:Tryz.prog.cellsOf 96=1:=by kernel_rfl
@[go_sem] theorem bytesOf_96:Tryz.prog.bytesOf 96=8:=by kernel_rfl
@[go_sem] theorem sliceT_96:aB Tryz.prog 96=none:=by kernel_rfl
@[go_sem] theorem arrT_96:bA Tryz.prog 96=none:=by kernel_rfl
@[go_sem] theorem aggT_96:bd Tryz.prog 96=some false:=by kernel_rfl
@[go_sem] theorem intT_96:bB Tryz.prog 96=none:=by kernel_rfl
@[go_sem] theorem isBoolT_96:aA Tryz.prog 96=false:=by kernel_rfl
@[go_sem] theorem infoT_96:(Tryz.prog.info? 96).isSome=true:=by kernel_rfl
@[go_sem] theorem plainIface_96:ah Tryz.prog 96=true:=by kernel_rfl
@[go_sem] theorem zeroT_96:aK Tryz.prog 96=some [.d .aM]:=by kernel_rfl
@[go_sem] theorem zeroV_96:zeroV Tryz.prog 96=some (.d .aM):=by kernel_rfl
@[go_sem] theorem zeroD_96:aR Tryz.prog 96=some .aM:=by kernel_rfl
@[go_sem] theorem cellsOf_99:Tryz.prog.cellsOf 99=1:=by kernel_rfl
@[go_sem] theorem bytesOf_99:Tryz.prog.bytesOf 99=8:=by kernel_rfl
@[go_sem] theorem sliceT_99:aB Tryz.prog 99=none:=by kernel_rfl
@[go_sem] theorem arrT_99:bA Tryz.prog 99=none:=by kernel_rfl
@[go_sem] theorem aggT_99:bd Tryz.prog 99=some false:=by kernel_rfl
@[go_sem] theorem intT_99:bB Tryz.prog 99=some .u64:=by kernel_rfl
@[go_sem] theorem isBoolT_99:aA Tryz.prog 99=false:=by kernel_rfl
@[go_sem] theorem infoT_99:(Tryz.prog.info? 99).isSome=true:=by kernel_rfl
@[go_sem] theorem plainIface_99:ah Tryz.prog 99=true:=by kernel_rfl
@[go_sem] theorem undT_99:Tryz.prog.underlying 99=some (.int .u64):=by kernel_rfl
@[go_sem] theorem eqShape_99:a9 Tryz.prog 99=some .int:=by kernel_rfl
@[go_sem] theorem zeroT_99:aK Tryz.prog 99=some [.d (.int .u64 0)]:=by kernel_rfl
@[go_sem] theorem zeroV_99:zeroV Tryz.prog 99=some (.d (.int .u64 0)):=by kernel_rfl
@[go_sem] theorem zeroD_99:aR Tryz.prog 99=some (.int .u64 0):=by kernel_rfl
@[go_sem] theorem cellsOf_100:Tryz.prog.cellsOf 100=1:=by kernel_rfl
@[go_sem] theorem bytesOf_100:Tryz.prog.bytesOf 100=8:=by kernel_rfl
@[go_sem] theorem sliceT_100:aB Tryz.prog 100=none:=by kernel_rfl
@[go_sem] theorem arrT_100:bA Tryz.prog 100=none:=by kernel_rfl
@[go_sem] theorem aggT_100:bd Tryz.prog 100=some false:=by kernel_rfl
@[go_sem] theorem intT_100:bB Tryz.prog 100=none:=by kernel_rfl
@[go_sem] theorem isBoolT_100:aA Tryz.prog 100=false:=by kernel_rfl
@[go_sem] theorem infoT_100:(Tryz.prog.info? 100).isSome=true:=by kernel_rfl
@[go_sem] theorem plainIface_100:ah Tryz.prog 100=true:=by kernel_rfl
@[go_sem] theorem zeroT_100:aK Tryz.prog 100=some [.d .aM]:=by kernel_rfl
@[go_sem] theorem zeroV_100:zeroV Tryz.prog 100=some (.d .aM):=by kernel_rfl
@[go_sem] theorem zeroD_100:aR Tryz.prog 100=some .aM:=by kernel_rfl
@[go_sem] theorem cellsOf_102:Tryz.prog.cellsOf 102=1:=by kernel_rfl
@[go_sem] theorem bytesOf_102:Tryz.prog.bytesOf 102=8:=by kernel_rfl
@[go_sem] theorem sliceT_102:aB Tryz.prog 102=none:=by kernel_rfl
@[go_sem] theorem arrT_102:bA Tryz.prog 102=none:=by kernel_rfl
@[go_sem] theorem aggT_102:bd Tryz.prog 102=some false:=by kernel_rfl
@[go_sem] theorem intT_102:bB Tryz.prog 102=none:=by kernel_rfl
@[go_sem] theorem isBoolT_102:aA Tryz.prog 102=false:=by kernel_rfl
@[go_sem] theorem infoT_102:(Tryz.prog.info? 102).isSome=true:=by kernel_rfl
@[go_sem] theorem plainIface_102:ah Tryz.prog 102=true:=by kernel_rfl
@[go_sem] theorem zeroT_102:aK Tryz.prog 102=some [.d .aM]:=by kernel_rfl
@[go_sem] theorem zeroV_102:zeroV Tryz.prog 102=some (.d .aM):=by kernel_rfl
@[go_sem] theorem zeroD_102:aR Tryz.prog 102=some .aM:=by kernel_rfl
@[go_sem] theorem cellsOf_104:Tryz.prog.cellsOf 104=0:=by kernel_rfl
@[go_sem] theorem bytesOf_104:Tryz.prog.bytesOf 104=0:=by kernel_rfl
@[go_sem] theorem sliceT_104:aB Tryz.prog 104=none:=by kernel_rfl
@[go_sem] theorem arrT_104:bA Tryz.prog 104=none:=by kernel_rfl
@[go_sem] theorem aggT_104:bd Tryz.prog 104=some true:=by kernel_rfl
@[go_sem] theorem intT_104:bB Tryz.prog 104=none:=by kernel_rfl
@[go_sem] theorem isBoolT_104:aA Tryz.prog 104=false:=by kernel_rfl
@[go_sem] theorem infoT_104:(Tryz.prog.info? 104).isSome=true:=by kernel_rfl
@[go_sem] theorem plainIface_104:ah Tryz.prog 104=true:=by kernel_rfl
@[go_sem] theorem zeroT_104:aK Tryz.prog 104=some []:=by kernel_rfl
@[go_sem] theorem zeroV_104:zeroV Tryz.prog 104=some (cS []):=by kernel_rfl
@[go_sem] theorem zeroD_104:aR Tryz.prog 104=some (.agg []):=by kernel_rfl
@[go_sem] theorem placesT_104:bS Tryz.prog 104=some []:=by kernel_rfl
@[go_sem] theorem cellsOf_105:Tryz.prog.cellsOf 105=1:=by kernel_rfl
@[go_sem] theorem bytesOf_105:Tryz.prog.bytesOf 105=8:=by kernel_rfl
@[go_sem] theorem sliceT_105:aB Tryz.prog 105=none:=by kernel_rfl
@[go_sem] theorem arrT_105:bA Tryz.prog 105=none:=by kernel_rfl
@[go_sem] theorem aggT_105:bd Tryz.prog 105=some false:=by kernel_rfl
@[go_sem] theorem intT_105:bB Tryz.prog 105=none:=by kernel_rfl
@[go_sem] theorem isBoolT_105:aA Tryz.prog 105=false:=by kernel_rfl
@[go_sem] theorem infoT_105:(Tryz.prog.info? 105).isSome=true:=by kernel_rfl
@[go_sem] theorem plainIface_105:ah Tryz.prog 105=true:=by kernel_rfl
@[go_sem] theorem zeroT_105:aK Tryz.prog 105=some [.d .fg]:=by kernel_rfl
@[go_sem] theorem zeroV_105:zeroV Tryz.prog 105=some (.d .fg):=by kernel_rfl
@[go_sem] theorem zeroD_105:aR Tryz.prog 105=some .fg:=by kernel_rfl
@[go_sem] theorem cellsOf_106:Tryz.prog.cellsOf 106=1:=by kernel_rfl
@[go_sem] theorem bytesOf_106:Tryz.prog.bytesOf 106=8:=by kernel_rfl
@[go_sem] theorem sliceT_106:aB Tryz.prog 106=none:=by kernel_rfl
@[go_sem] theorem arrT_106:bA Tryz.prog 106=none:=by kernel_rfl
@[go_sem] theorem aggT_106:bd Tryz.prog 106=some false:=by kernel_rfl
@[go_sem] theorem intT_106:bB Tryz.prog 106=none:=by kernel_rfl
@[go_sem] theorem isBoolT_106:aA Tryz.prog 106=false:=by kernel_rfl
@[go_sem] theorem infoT_106:(Tryz.prog.info? 106).isSome=true:=by kernel_rfl
@[go_sem] theorem plainIface_106:ah Tryz.prog 106=true:=by kernel_rfl
@[go_sem] theorem undT_106:Tryz.prog.underlying 106=some (.map 112 40):=by kernel_rfl
@[go_sem] theorem mapT_106:oF Tryz.prog 106=some (112,40):=by kernel_rfl
@[go_sem] theorem zeroT_106:aK Tryz.prog 106=some [.d .c0]:=by kernel_rfl
@[go_sem] theorem zeroV_106:zeroV Tryz.prog 106=some (.d .c0):=by kernel_rfl
@[go_sem] theorem zeroD_106:aR Tryz.prog 106=some .c0:=by kernel_rfl
@[go_sem] theorem cellsOf_107:Tryz.prog.cellsOf 107=1:=by kernel_rfl
@[go_sem] theorem bytesOf_107:Tryz.prog.bytesOf 107=24:=by kernel_rfl
@[go_sem] theorem sliceT_107:aB Tryz.prog 107=some 112:=by kernel_rfl
@[go_sem] theorem arrT_107:bA Tryz.prog 107=none:=by kernel_rfl
@[go_sem] theorem aggT_107:bd Tryz.prog 107=some false:=by kernel_rfl
@[go_sem] theorem intT_107:bB Tryz.prog 107=none:=by kernel_rfl
@[go_sem] theorem isBoolT_107:aA Tryz.prog 107=false:=by kernel_rfl
@[go_sem] theorem infoT_107:(Tryz.prog.info? 107).isSome=true:=by kernel_rfl
@[go_sem] theorem plainIface_107:ah Tryz.prog 107=true:=by kernel_rfl
@[go_sem] theorem undT_107:Tryz.prog.underlying 107=some (.slice 112):=by kernel_rfl
@[go_sem] theorem zeroT_107:aK Tryz.prog 107=some [.aI]:=by kernel_rfl
@[go_sem] theorem zeroV_107:zeroV Tryz.prog 107=some (.aI):=by kernel_rfl
@[go_sem] theorem zeroD_107:aR Tryz.prog 107=some (.sl []):=by kernel_rfl
@[go_sem] theorem cellsOf_109:Tryz.prog.cellsOf 109=2:=by kernel_rfl
@[go_sem] theorem bytesOf_109:Tryz.prog.bytesOf 109=32:=by kernel_rfl
@[go_sem] theorem sliceT_109:aB Tryz.prog 109=none:=by kernel_rfl
@[go_sem] theorem arrT_109:bA Tryz.prog 109=none:=by kernel_rfl
@[go_sem] theorem aggT_109:bd Tryz.prog 109=some true:=by kernel_rfl
@[go_sem] theorem intT_109:bB Tryz.prog 109=none:=by kernel_rfl
@[go_sem] theorem isBoolT_109:aA Tryz.prog 109=false:=by kernel_rfl
@[go_sem] theorem infoT_109:(Tryz.prog.info? 109).isSome=true:=by kernel_rfl
@[go_sem] theorem plainIface_109:ah Tryz.prog 109=true:=by kernel_rfl
@[go_sem] theorem zeroT_109:aK Tryz.prog 109=some [.aI, .d .c0]:=by kernel_rfl
@[go_sem] theorem zeroV_109:zeroV Tryz.prog 109=some (cS [.aI, .d .c0]):=by kernel_rfl
@[go_sem] theorem zeroD_109:aR Tryz.prog 109=some (.agg [(.sl []), .c0]):=by kernel_rfl
@[go_sem] theorem placesT_109:bS Tryz.prog 109=some [(0,1),(1,1)]:=by kernel_rfl
@[go_sem] theorem cellsOf_112:Tryz.prog.cellsOf 112=18:=by kernel_rfl
@[go_sem] theorem bytesOf_112:Tryz.prog.bytesOf 112=144:=by kernel_rfl
@[go_sem] theorem sliceT_112:aB Tryz.prog 112=none:=by kernel_rfl
@[go_sem] theorem arrT_112:bA Tryz.prog 112=none:=by kernel_rfl
@[go_sem] theorem aggT_112:bd Tryz.prog 112=some true:=by kernel_rfl
@[go_sem] theorem intT_112:bB Tryz.prog 112=none:=by kernel_rfl
@[go_sem] theorem isBoolT_112:aA Tryz.prog 112=false:=by kernel_rfl
@[go_sem] theorem infoT_112:(Tryz.prog.info? 112).isSome=true:=by kernel_rfl
@[go_sem] theorem plainIface_112:ah Tryz.prog 112=true:=by kernel_rfl
@[go_sem] theorem zeroT_112:aK Tryz.prog 112=some [.d (.int .i64 0), .d (.int .i64 0), .d (.int .i64 0), .d (.int .i64 0), .d (.int .i64 0), .d (.int .i64 0), .d (.int .i64 0), .d (.int .i64 0), .d (.int .i64 0), .d (.int .i64 0), .d (.int .i64 0), .d (.int .i64 0), .d (.int .i64 0), .d (.int .i64 0), .d (.int .i64 0), .d (.int .i64 0), .d (.int .i64 0), .d (.int .i64 0)]:=by kernel_rfl
@[go_sem] theorem zeroV_112:zeroV Tryz.prog 112=some (cS [.d (.int .i64 0), .d (.int .i64 0), .d (.int .i64 0), .d (.int .i64 0), .d (.int .i64 0), .d (.int .i64 0), .d (.int .i64 0), .d (.int .i64 0), .d (.int .i64 0), .d (.int .i64 0), .d (.int .i64 0), .d (.int .i64 0), .d (.int .i64 0), .d (.int .i64 0), .d (.int .i64 0), .d (.int .i64 0), .d (.int .i64 0), .d (.int .i64 0)]):=by kernel_rfl
@[go_sem] theorem zeroD_112:aR Tryz.prog 112=some (.agg [(.int .i64 0),(.int .i64 0),(.int .i64 0),(.int .i64 0),(.int .i64 0),(.int .i64 0),(.int .i64 0),(.int .i64 0),(.int .i64 0),(.int .i64 0),(.int .i64 0),(.int .i64 0),(.int .i64 0),(.int .i64 0),(.int .i64 0),(.int .i64 0),(.int .i64 0),(.int .i64 0)]):=by kernel_rfl
@[go_sem] theorem placesT_112:bS Tryz.prog 112=some [(0,1),(1,1),(2,16)]:=by kernel_rfl
@[go_sem] theorem cellsOf_114:Tryz.prog.cellsOf 114=1:=by kernel_rfl
@[go_sem] theorem bytesOf_114:Tryz.prog.bytesOf 114=8:=by kernel_rfl
@[go_sem] theorem sliceT_114:aB Tryz.prog 114=none:=by kernel_rfl
@[go_sem] theorem arrT_114:bA Tryz.prog 114=none:=by kernel_rfl
@[go_sem] theorem aggT_114:bd Tryz.prog 114=some false:=by kernel_rfl
@[go_sem] theorem intT_114:bB Tryz.prog 114=none:=by kernel_rfl
@[go_sem] theorem isBoolT_114:aA Tryz.prog 114=false:=by kernel_rfl
@[go_sem] theorem infoT_114:(Tryz.prog.info? 114).isSome=true:=by kernel_rfl
@[go_sem] theorem plainIface_114:ah Tryz.prog 114=true:=by kernel_rfl
@[go_sem] theorem undT_114:Tryz.prog.underlying 114=some (.map 9 4):=by kernel_rfl
@[go_sem] theorem mapT_114:oF Tryz.prog 114=some (9,4):=by kernel_rfl
@[go_sem] theorem zeroT_114:aK Tryz.prog 114=some [.d .c0]:=by kernel_rfl
@[go_sem] theorem zeroV_114:zeroV Tryz.prog 114=some (.d .c0):=by kernel_rfl
@[go_sem] theorem zeroD_114:aR Tryz.prog 114=some .c0:=by kernel_rfl
@[go_sem] theorem cellsOf_116:Tryz.prog.cellsOf 116=1:=by kernel_rfl
@[go_sem] theorem bytesOf_116:Tryz.prog.bytesOf 116=8:=by kernel_rfl
@[go_sem] theorem sliceT_116:aB Tryz.prog 116=none:=by kernel_rfl
@[go_sem] theorem arrT_116:bA Tryz.prog 116=none:=by kernel_rfl
@[go_sem] theorem aggT_116:bd Tryz.prog 116=some false:=by kernel_rfl
@[go_sem] theorem intT_116:bB Tryz.prog 116=none:=by kernel_rfl
@[go_sem] theorem isBoolT_116:aA Tryz.prog 116=false:=by kernel_rfl
@[go_sem] theorem infoT_116:(Tryz.prog.info? 116).isSome=true:=by kernel_rfl
@[go_sem] theorem plainIface_116:ah Tryz.prog 116=true:=by kernel_rfl
@[go_sem] theorem zeroT_116:aK Tryz.prog 116=some [.d .aM]:=by kernel_rfl
@[go_sem] theorem zeroV_116:zeroV Tryz.prog 116=some (.d .aM):=by kernel_rfl
@[go_sem] theorem zeroD_116:aR Tryz.prog 116=some .aM:=by kernel_rfl
@[go_sem] theorem cellsOf_120:Tryz.prog.cellsOf 120=1:=by kernel_rfl
@[go_sem] theorem bytesOf_120:Tryz.prog.bytesOf 120=8:=by kernel_rfl
@[go_sem] theorem sliceT_120:aB Tryz.prog 120=none:=by kernel_rfl
@[go_sem] theorem arrT_120:bA Tryz.prog 120=none:=by kernel_rfl
@[go_sem] theorem aggT_120:bd Tryz.prog 120=some false:=by kernel_rfl
@[go_sem] theorem intT_120:bB Tryz.prog 120=none:=by kernel_rfl
@[go_sem] theorem isBoolT_120:aA Tryz.prog 120=false:=by kernel_rfl
@[go_sem] theorem infoT_120:(Tryz.prog.info? 120).isSome=true:=by kernel_rfl
@[go_sem] theorem plainIface_120:ah Tryz.prog 120=true:=by kernel_rfl
@[go_sem] theorem undT_120:Tryz.prog.underlying 120=some (.map 3 3):=by kernel_rfl
@[go_sem] theorem mapT_120:oF Tryz.prog 120=some (3,3):=by kernel_rfl
@[go_sem] theorem zeroT_120:aK Tryz.prog 120=some [.d .c0]:=by kernel_rfl
@[go_sem] theorem zeroV_120:zeroV Tryz.prog 120=some (.d .c0):=by kernel_rfl
@[go_sem] theorem zeroD_120:aR Tryz.prog 120=some .c0:=by kernel_rfl
@[go_sem] theorem cellsOf_125:Tryz.prog.cellsOf 125=1:=by kernel_rfl
@[go_sem] theorem bytesOf_125:Tryz.prog.bytesOf 125=8:=by kernel_rfl
@[go_sem] theorem sliceT_125:aB Tryz.prog 125=none:=by kernel_rfl
@[go_sem] theorem arrT_125:bA Tryz.prog 125=none:=by kernel_rfl
@[go_sem] theorem aggT_125:bd Tryz.prog 125=some false:=by kernel_rfl
@[go_sem] theorem intT_125:bB Tryz.prog 125=some .i64:=by kernel_rfl
@[go_sem] theorem isBoolT_125:aA Tryz.prog 125=false:=by kernel_rfl
@[go_sem] theorem infoT_125:(Tryz.prog.info? 125).isSome=true:=by kernel_rfl
@[go_sem] theorem plainIface_125:ah Tryz.prog 125=true:=by kernel_rfl
@[go_sem] theorem undT_125:Tryz.prog.underlying 125=some (.int .i64):=by kernel_rfl
@[go_sem] theorem eqShape_125:a9 Tryz.prog 125=some .int:=by kernel_rfl
@[go_sem] theorem zeroT_125:aK Tryz.prog 125=some [.d (.int .i64 0)]:=by kernel_rfl
@[go_sem] theorem zeroV_125:zeroV Tryz.prog 125=some (.d (.int .i64 0)):=by kernel_rfl
@[go_sem] theorem zeroD_125:aR Tryz.prog 125=some (.int .i64 0):=by kernel_rfl
@[go_sem] theorem cellsOf_134:Tryz.prog.cellsOf 134=1:=by kernel_rfl
@[go_sem] theorem bytesOf_134:Tryz.prog.bytesOf 134=4:=by kernel_rfl
@[go_sem] theorem sliceT_134:aB Tryz.prog 134=none:=by kernel_rfl
@[go_sem] theorem arrT_134:bA Tryz.prog 134=none:=by kernel_rfl
@[go_sem] theorem aggT_134:bd Tryz.prog 134=some false:=by kernel_rfl
@[go_sem] theorem intT_134:bB Tryz.prog 134=some .u32:=by kernel_rfl
@[go_sem] theorem isBoolT_134:aA Tryz.prog 134=false:=by kernel_rfl
@[go_sem] theorem infoT_134:(Tryz.prog.info? 134).isSome=true:=by kernel_rfl
@[go_sem] theorem plainIface_134:ah Tryz.prog 134=true:=by kernel_rfl
@[go_sem] theorem undT_134:Tryz.prog.underlying 134=some (.int .u32):=by kernel_rfl
@[go_sem] theorem eqShape_134:a9 Tryz.prog 134=some .int:=by kernel_rfl
@[go_sem] theorem zeroT_134:aK Tryz.prog 134=some [.d (.int .u32 0)]:=by kernel_rfl
@[go_sem] theorem zeroV_134:zeroV Tryz.prog 134=some (.d (.int .u32 0)):=by kernel_rfl
@[go_sem] theorem zeroD_134:aR Tryz.prog 134=some (.int .u32 0):=by kernel_rfl
@[go_sem] theorem cellsOf_136:Tryz.prog.cellsOf 136=1:=by kernel_rfl
@[go_sem] theorem bytesOf_136:Tryz.prog.bytesOf 136=8:=by kernel_rfl
@[go_sem] theorem sliceT_136:aB Tryz.prog 136=none:=by kernel_rfl
@[go_sem] theorem arrT_136:bA Tryz.prog 136=none:=by kernel_rfl
@[go_sem] theorem aggT_136:bd Tryz.prog 136=some false:=by kernel_rfl
@[go_sem] theorem intT_136:bB Tryz.prog 136=some .u64:=by kernel_rfl
@[go_sem] theorem isBoolT_136:aA Tryz.prog 136=false:=by kernel_rfl
@[go_sem] theorem infoT_136:(Tryz.prog.info? 136).isSome=true:=by kernel_rfl
@[go_sem] theorem plainIface_136:ah Tryz.prog 136=true:=by kernel_rfl
@[go_sem] theorem undT_136:Tryz.prog.underlying 136=some (.int .u64):=by kernel_rfl
@[go_sem] theorem eqShape_136:a9 Tryz.prog 136=some .int:=by kernel_rfl
@[go_sem] theorem zeroT_136:aK Tryz.prog 136=some [.d (.int .u64 0)]:=by kernel_rfl
@[go_sem] theorem zeroV_136:zeroV Tryz.prog 136=some (.d (.int .u64 0)):=by kernel_rfl
@[go_sem] theorem zeroD_136:aR Tryz.prog 136=some (.int .u64 0):=by kernel_rfl
@[go_sem] theorem cellsOf_139:Tryz.prog.cellsOf 139=1:=by kernel_rfl
@[go_sem] theorem bytesOf_139:Tryz.prog.bytesOf 139=24:=by kernel_rfl
@[go_sem] theorem sliceT_139:aB Tryz.prog 139=some 40:=by kernel_rfl
@[go_sem] theorem arrT_139:bA Tryz.prog 139=none:=by kernel_rfl
@[go_sem] theorem aggT_139:bd Tryz.prog 139=some false:=by kernel_rfl
@[go_sem] theorem intT_139:bB Tryz.prog 139=none:=by kernel_rfl
@[go_sem] theorem isBoolT_139:aA Tryz.prog 139=false:=by kernel_rfl
@[go_sem] theorem infoT_139:(Tryz.prog.info? 139).isSome=true:=by kernel_rfl
@[go_sem] theorem plainIface_139:ah Tryz.prog 139=true:=by kernel_rfl
@[go_sem] theorem undT_139:Tryz.prog.underlying 139=some (.slice 40):=by kernel_rfl
@[go_sem] theorem zeroT_139:aK Tryz.prog 139=some [.aI]:=by kernel_rfl
@[go_sem] theorem zeroV_139:zeroV Tryz.prog 139=some (.aI):=by kernel_rfl
@[go_sem] theorem zeroD_139:aR Tryz.prog 139=some (.sl []):=by kernel_rfl
@[go_sem] theorem cellsOf_145:Tryz.prog.cellsOf 145=1:=by kernel_rfl
@[go_sem] theorem bytesOf_145:Tryz.prog.bytesOf 145=8:=by kernel_rfl
@[go_sem] theorem sliceT_145:aB Tryz.prog 145=none:=by kernel_rfl
@[go_sem] theorem arrT_145:bA Tryz.prog 145=none:=by kernel_rfl
@[go_sem] theorem aggT_145:bd Tryz.prog 145=some false:=by kernel_rfl
@[go_sem] theorem intT_145:bB Tryz.prog 145=none:=by kernel_rfl
@[go_sem] theorem isBoolT_145:aA Tryz.prog 145=false:=by kernel_rfl
@[go_sem] theorem infoT_145:(Tryz.prog.info? 145).isSome=true:=by kernel_rfl
@[go_sem] theorem plainIface_145:ah Tryz.prog 145=true:=by kernel_rfl
@[go_sem] theorem undT_145:Tryz.prog.underlying 145=some (.map 3 4):=by kernel_rfl
@[go_sem] theorem mapT_145:oF Tryz.prog 145=some (3,4):=by kernel_rfl
@[go_sem] theorem zeroT_145:aK Tryz.prog 145=some [.d .c0]:=by kernel_rfl
@[go_sem] theorem zeroV_145:zeroV Tryz.prog 145=some (.d .c0):=by kernel_rfl
@[go_sem] theorem zeroD_145:aR Tryz.prog 145=some .c0:=by kernel_rfl
@[go_sem] theorem cellsOf_153:Tryz.prog.cellsOf 153=1:=by kernel_rfl
@[go_sem] theorem bytesOf_153:Tryz.prog.bytesOf 153=8:=by kernel_rfl
@[go_sem] theorem sliceT_153:aB Tryz.prog 153=none:=by kernel_rfl
@[go_sem] theorem arrT_153:bA Tryz.prog 153=none:=by kernel_rfl
@[go_sem] theorem aggT_153:bd Tryz.prog 153=some false:=by kernel_rfl
@[go_sem] theorem intT_153:bB Tryz.prog 153=some .u64:=by kernel_rfl
@[go_sem] theorem isBoolT_153:aA Tryz.prog 153=false:=by kernel_rfl
@[go_sem] theorem infoT_153:(Tryz.prog.info? 153).isSome=true:=by kernel_rfl
@[go_sem] theorem plainIface_153:ah Tryz.prog 153=true:=by kernel_rfl
@[go_sem] theorem undT_153:Tryz.prog.underlying 153=some (.int .u64):=by kernel_rfl
@[go_sem] theorem eqShape_153:a9 Tryz.prog 153=some .int:=by kernel_rfl
@[go_sem] theorem zeroT_153:aK Tryz.prog 153=some [.d (.int .u64 0)]:=by kernel_rfl
@[go_sem] theorem zeroV_153:zeroV Tryz.prog 153=some (.d (.int .u64 0)):=by kernel_rfl
@[go_sem] theorem zeroD_153:aR Tryz.prog 153=some (.int .u64 0):=by kernel_rfl
@[go_sem] theorem cellsOf_157:Tryz.prog.cellsOf 157=1:=by kernel_rfl
@[go_sem] theorem bytesOf_157:Tryz.prog.bytesOf 157=8:=by kernel_rfl
@[go_sem] theorem sliceT_157:aB Tryz.prog 157=none:=by kernel_rfl
@[go_sem] theorem arrT_157:bA Tryz.prog 157=none:=by kernel_rfl
@[go_sem] theorem aggT_157:bd Tryz.prog 157=some false:=by kernel_rfl
@[go_sem] theorem intT_157:bB Tryz.prog 157=none:=by kernel_rfl
@[go_sem] theorem isBoolT_157:aA Tryz.prog 157=false:=by kernel_rfl
@[go_sem] theorem infoT_157:(Tryz.prog.info? 157).isSome=true:=by kernel_rfl
@[go_sem] theorem plainIface_157:ah Tryz.prog 157=true:=by kernel_rfl
@[go_sem] theorem zeroT_157:aK Tryz.prog 157=some [.d .fg]:=by kernel_rfl
@[go_sem] theorem zeroV_157:zeroV Tryz.prog 157=some (.d .fg):=by kernel_rfl
@[go_sem] theorem zeroD_157:aR Tryz.prog 157=some .fg:=by kernel_rfl
@[go_sem] theorem cellsOf_161:Tryz.prog.cellsOf 161=1:=by kernel_rfl
@[go_sem] theorem bytesOf_161:Tryz.prog.bytesOf 161=8:=by kernel_rfl
@[go_sem] theorem sliceT_161:aB Tryz.prog 161=none:=by kernel_rfl
@[go_sem] theorem arrT_161:bA Tryz.prog 161=none:=by kernel_rfl
@[go_sem] theorem aggT_161:bd Tryz.prog 161=some false:=by kernel_rfl
@[go_sem] theorem intT_161:bB Tryz.prog 161=none:=by kernel_rfl
@[go_sem] theorem isBoolT_161:aA Tryz.prog 161=false:=by kernel_rfl
@[go_sem] theorem infoT_161:(Tryz.prog.info? 161).isSome=true:=by kernel_rfl
@[go_sem] theorem plainIface_161:ah Tryz.prog 161=true:=by kernel_rfl
@[go_sem] theorem zeroT_161:aK Tryz.prog 161=some [.d .aM]:=by kernel_rfl
@[go_sem] theorem zeroV_161:zeroV Tryz.prog 161=some (.d .aM):=by kernel_rfl
@[go_sem] theorem zeroD_161:aR Tryz.prog 161=some .aM:=by kernel_rfl
@[go_sem] theorem cellsOf_166:Tryz.prog.cellsOf 166=1:=by kernel_rfl
@[go_sem] theorem bytesOf_166:Tryz.prog.bytesOf 166=8:=by kernel_rfl
@[go_sem] theorem sliceT_166:aB Tryz.prog 166=none:=by kernel_rfl
@[go_sem] theorem arrT_166:bA Tryz.prog 166=none:=by kernel_rfl
@[go_sem] theorem aggT_166:bd Tryz.prog 166=some false:=by kernel_rfl
@[go_sem] theorem intT_166:bB Tryz.prog 166=none:=by kernel_rfl
@[go_sem] theorem isBoolT_166:aA Tryz.prog 166=false:=by kernel_rfl
@[go_sem] theorem infoT_166:(Tryz.prog.info? 166).isSome=true:=by kernel_rfl
@[go_sem] theorem plainIface_166:ah Tryz.prog 166=true:=by kernel_rfl
@[go_sem] theorem zeroT_166:aK Tryz.prog 166=some [.d .aM]:=by kernel_rfl
@[go_sem] theorem zeroV_166:zeroV Tryz.prog 166=some (.d .aM):=by kernel_rfl
@[go_sem] theorem zeroD_166:aR Tryz.prog 166=some .aM:=by kernel_rfl
@[go_sem] theorem cellsOf_167:Tryz.prog.cellsOf 167=16:=by kernel_rfl
@[go_sem] theorem bytesOf_167:Tryz.prog.bytesOf 167=128:=by kernel_rfl
@[go_sem] theorem sliceT_167:aB Tryz.prog 167=none:=by kernel_rfl
@[go_sem] theorem arrT_167:bA Tryz.prog 167=some (16,166):=by kernel_rfl
@[go_sem] theorem aggT_167:bd Tryz.prog 167=some true:=by kernel_rfl
@[go_sem] theorem intT_167:bB Tryz.prog 167=none:=by kernel_rfl
@[go_sem] theorem isBoolT_167:aA Tryz.prog 167=false:=by kernel_rfl
@[go_sem] theorem infoT_167:(Tryz.prog.info? 167).isSome=true:=by kernel_rfl
@[go_sem] theorem plainIface_167:ah Tryz.prog 167=true:=by kernel_rfl
@[go_sem] theorem undT_167:Tryz.prog.underlying 167=some (.array 16 166):=by kernel_rfl
@[go_sem] theorem zeroT_167:aK Tryz.prog 167=some [.d .aM, .d .aM, .d .aM, .d .aM, .d .aM, .d .aM, .d .aM, .d .aM, .d .aM, .d .aM, .d .aM, .d .aM, .d .aM, .d .aM, .d .aM, .d .aM]:=by kernel_rfl
@[go_sem] theorem zeroV_167:zeroV Tryz.prog 167=some (cS [.d .aM, .d .aM, .d .aM, .d .aM, .d .aM, .d .aM, .d .aM, .d .aM, .d .aM, .d .aM, .d .aM, .d .aM, .d .aM, .d .aM, .d .aM, .d .aM]):=by kernel_rfl
@[go_sem] theorem zeroD_167:aR Tryz.prog 167=some (.agg [.aM, .aM, .aM, .aM, .aM, .aM, .aM, .aM, .aM, .aM, .aM, .aM, .aM, .aM, .aM, .aM]):=by kernel_rfl
@[go_sem] theorem placesT_167:bS Tryz.prog 167=some [(0,1),(1,1),(2,1),(3,1),(4,1),(5,1),(6,1),(7,1),(8,1),(9,1),(10,1),(11,1),(12,1),(13,1),(14,1),(15,1)]:=by kernel_rfl
@[go_sem] theorem cellsOf_170:Tryz.prog.cellsOf 170=2:=by kernel_rfl
@[go_sem] theorem bytesOf_170:Tryz.prog.bytesOf 170=48:=by kernel_rfl
@[go_sem] theorem sliceT_170:aB Tryz.prog 170=none:=by kernel_rfl
@[go_sem] theorem arrT_170:bA Tryz.prog 170=none:=by kernel_rfl
@[go_sem] theorem aggT_170:bd Tryz.prog 170=some true:=by kernel_rfl
@[go_sem] theorem intT_170:bB Tryz.prog 170=none:=by kernel_rfl
@[go_sem] theorem isBoolT_170:aA Tryz.prog 170=false:=by kernel_rfl
@[go_sem] theorem infoT_170:(Tryz.prog.info? 170).isSome=true:=by kernel_rfl
@[go_sem] theorem plainIface_170:ah Tryz.prog 170=true:=by kernel_rfl
@[go_sem] theorem zeroT_170:aK Tryz.prog 170=some [.aI, .aI]:=by kernel_rfl
@[go_sem] theorem zeroV_170:zeroV Tryz.prog 170=some (cS [.aI, .aI]):=by kernel_rfl
@[go_sem] theorem zeroD_170:aR Tryz.prog 170=some (.agg [(.sl []),(.sl [])]):=by kernel_rfl
@[go_sem] theorem placesT_170:bS Tryz.prog 170=some [(0,2)]:=by kernel_rfl
@[go_sem] theorem fieldT_35_0:aW Tryz.prog 35 0=some 0:=by kernel_rfl
@[go_sem] theorem fieldT_35_1:aW Tryz.prog 35 1=some 1:=by kernel_rfl
@[go_sem] theorem fieldT_38_0:aW Tryz.prog 38 0=some 0:=by kernel_rfl
@[go_sem] theorem fieldT_38_1:aW Tryz.prog 38 1=some 2:=by kernel_rfl
@[go_sem] theorem fieldT_47_0:aW Tryz.prog 47 0=some 0:=by kernel_rfl
@[go_sem] theorem fieldT_47_1:aW Tryz.prog 47 1=some 1:=by kernel_rfl
@[go_sem] theorem fieldT_47_2:aW Tryz.prog 47 2=some 2:=by kernel_rfl
@[go_sem] theorem fieldT_53_0:aW Tryz.prog 53 0=some 0:=by kernel_rfl
@[go_sem] theorem fieldT_53_1:aW Tryz.prog 53 1=some 1:=by kernel_rfl
@[go_sem] theorem fieldT_53_2:aW Tryz.prog 53 2=some 2:=by kernel_rfl
@[go_sem] theorem fieldT_53_3:aW Tryz.prog 53 3=some 3:=by kernel_rfl
@[go_sem] theorem fieldT_53_4:aW Tryz.prog 53 4=some 4:=by kernel_rfl
@[go_sem] theorem fieldT_53_5:aW Tryz.prog 53 5=some 5:=by kernel_rfl
@[go_sem] theorem fieldT_56_0:aW Tryz.prog 56 0=some 0:=by kernel_rfl
@[go_sem] theorem fieldT_56_1:aW Tryz.prog 56 1=some 1:=by kernel_rfl
@[go_sem] theorem fieldT_56_2:aW Tryz.prog 56 2=some 2:=by kernel_rfl
@[go_sem] theorem fieldT_69_0:aW Tryz.prog 69 0=some 0:=by kernel_rfl
@[go_sem] theorem fieldT_69_1:aW Tryz.prog 69 1=some 3:=by kernel_rfl
@[go_sem] theorem fieldT_73_0:aW Tryz.prog 73 0=some 0:=by kernel_rfl
@[go_sem] theorem fieldT_73_1:aW Tryz.prog 73 1=some 1:=by kernel_rfl
@[go_sem] theorem fieldT_76_0:aW Tryz.prog 76 0=some 0:=by kernel_rfl
@[go_sem] theorem fieldT_76_1:aW Tryz.prog 76 1=some 1:=by kernel_rfl
@[go_sem] theorem fieldT_76_2:aW Tryz.prog 76 2=some 2:=by kernel_rfl
@[go_sem] theorem fieldT_76_3:aW Tryz.prog 76 3=some 5:=by kernel_rfl
@[go_sem] theorem fieldT_87_0:aW Tryz.prog 87 0=some 0:=by kernel_rfl
@[go_sem] theorem fieldT_87_1:aW Tryz.prog 87 1=some 3:=by kernel_rfl
@[go_sem] theorem fieldT_87_2:aW Tryz.prog 87 2=some 4:=by kernel_rfl
@[go_sem] theorem fieldT_109_0:aW Tryz.prog 109 0=some 0:=by kernel_rfl
@[go_sem] theorem fieldT_109_1:aW Tryz.prog 109 1=some 1:=by kernel_rfl
@[go_sem] theorem fieldT_112_0:aW Tryz.prog 112 0=some 0:=by kernel_rfl
@[go_sem] theorem fieldT_112_1:aW Tryz.prog 112 1=some 1:=by kernel_rfl
@[go_sem] theorem fieldT_112_2:aW Tryz.prog 112 2=some 2:=by kernel_rfl
@[go_sem] theorem fieldT_170_0:aW Tryz.prog 170 0=some 0:=by kernel_rfl
end Go.Proofs.YtbmnikpknlkbkaaGreat
namespace Go.Proofs.YtbmnikpknlkbkaaGreat
def vc(so:Nat->aa)(c:Nat)(ty:TypeId)(sz:Nat)(es:List D)(x:V):Prop:=
 (x= .aI/\es=[]/\0<sz)\/∃id ep,c<=id/\x= .osl id ep/\so id= .arr ep ty sz es
def yx(c:Nat)(x:V)(env:Nat->V):List V->Nat->Prop
 |[],_=>True
 |v::l,i=>(v= .aE\/(v=env i/\∀r∈v.refs,r<c)\/(v= .osl c 0/\env i=x))/\yx c x env l (i+1)
theorem sR{c:Nat}{x:V}{env:Nat->V}:∀ (l:List V) (i:Nat),yx c x env l i->∀j,bU l j= .aE\/(bU l j=env (i+j)/\∀r∈(bU l j).refs,r<c)\/(bU l j= .osl c 0/\env (i+j)=x)
 |[],i,_,j=>by rw[g8];exact .inl rfl
 |v::l,i,h,0=>by rw[gZ];exact h.1
 |v::l,i,h,j+1=>by
  rw[fy]
  have:=sR l (i+1) h.2 j
  rwa [show i+1+j=i+(j+1) by omega]at this
def mb(φ:Place)(c:Nat)(x:V):Place:=fun id=>if id=c then(match x with| .osl id _=>φ id|_=> .slice none 0 0)else φ id
theorem dv.grow {b:Nat}{e:Nat->V}{so:Nat->aa}{m:Nat}(l:List V){o:Nat->aa}{c:Nat}{ty:TypeId}{sz:Nat}{es:List D}(x:V)(hb:b<=c)(HH:c<=m)(hg:Good o c)(ho:∀id,id<c->so id=o id)(hx:vc so c ty sz es x)(he:yx c x e l 0):
 dv b ⟨e,so,m⟩ ⟨bU l,aV o c (.arr 0 ty sz es),c+1⟩:=by
 intro M φ w tm hH hd
 let ai:Place:=mb φ c x
 let o':Nat->aa:=aV o c (.arr 0 ty sz es)
 let H':Hp:=hp o' (c+1)
 let H:Hp:=⟨so,fun id=>id<m⟩
 have sw:o' c= .arr 0 ty sz es:=aX _ _ _
 have wG:∀id,id<c->o' id=o id:=fun id ag=>aS _ _ _ _ (by omega)
 have Dq:∀id,c<id->o' id= .no:=fun id ag=>by rw[show o' id=o id from aS _ _ _ _ (by omega)];exact hg.fresh id (by omega)
 have iF:∀id,id<c->ai id=φ id:=fun id ag=>if_neg (by omega)
 have uh:x= .aI->ai c= .slice none 0 0:=fun h=>by simp only[ai,mb,h,if_pos]
 have ui:∀id ep,x= .osl id ep->ai c=φ id:=fun id ep h=>by simp only[ai,mb,if_pos,h]
 have hold:∀id k,(o' id).live=true->cW (ai id)=some k->∃j,(so j).live=true/\cW (φ j)=some k/\((id<c/\j=id)\/(id=c/\c<=j)):=by
  intro id k h1 h2
  rcases Nat.lt_trichotomy id c with br|heq|z6
  ·rw[wG id br]at h1;rw[iF id br]at h2
   exact⟨id,by rw[ho id br];exact h1,h2, .inl ⟨br,rfl⟩⟩
  ·subst heq
   rcases hx with⟨rfl,_,_⟩|⟨j,ep,hj,rfl,gI⟩
   ·rw[uh rfl]at h2;cases h2
   ·rw[ui j ep rfl]at h2
    exact⟨j,by rw[gI];rfl,h2, .inr ⟨rfl,hj⟩⟩
  ·rw[Dq id z6]at h1;cases h1
 have bq:∀k,bp ai H' k->bp φ H k:=by
  rintro k ⟨id,h1,h2⟩
  obtain⟨j,g1,g2,_⟩:=hold id k h1 h2
  exact⟨j,g1,g2⟩
 have hB:∀k, ¬ad M φ H k-> ¬ad M ai H' k:=fun k h h'=>h (h'.imp id (bq k))
 have oN:∀id,id<c->H'.o id=H.o id/\ai id=φ id/\H'.us id:=fun id ag=>⟨(wG id ag).trans (ho id ag).symm,iF id ag,(by show id<c+1;omega)⟩
 have da:∀ (v:V) (val:Value),(∀r∈v.refs,r<c)->V.den (ad M φ H) φ H w v val->V.den (ad M ai H') ai H' w v val:=fun v val hr h=>
  V.gW (H:=H) (H':=H') hB v val (fun id ag=>oN id (hr id ag)) h
 have iG:∀ (v:List V) (val:List Value),(∀r∈V.az v,r<c)->V.ak (ad M φ H) φ H w v val->V.ak (ad M ai H') ai H' w v val:=fun v val hr h=>
  V.dC (H:=H) (H':=H') hB v val (fun id ag=>oN id (hr id ag)) h
 refine⟨ai,⟨fun id=> ?_,fun id hu=>Dq id (by have: ¬id<c+1:=hu;omega),fun i j k h1 h2 h3 h4=> ?_,fun k hk=>hH.ours k (bq k hk),hH.oE⟩,fun i=> ?_,bq,by show b<=c+1;omega,fun id ag hr=> ?_,fun id e' ag dN=> ?_⟩
 ·have aC:=hH.ok id
  have hrefs:=hg.refs id
  show aq M ai H' w id
  unfold aq at aC|-
  rcases Nat.lt_trichotomy id c with br|heq|z6
  ·have e1:(S.H ⟨e,so,m⟩).o id=o id:=ho id br
   rw[e1]at aC
   have e2:H'.o id=o id:=wG id br
   rw[e2,iF id br]
   cases gO:o id with
   |no=>trivial
   |row cs=>
    simp only[gO]at aC hrefs|-
    obtain⟨b,bY,ty,k1,k2,k3,k4⟩:=aC
    exact⟨b,bY,ty,k1,k2,iG _ _ hrefs k3,k4⟩
   |arr ep ty sz es=>
    simp only[gO]at aC|-
    obtain⟨k1,xs,k2,evs,k3,k4,k5⟩:=aC
    exact⟨k1,xs,k2,evs,k3,k4,D.aw (fun b _ hn=>⟨rfl,hB b hn⟩) _ _ k5⟩
   |ky ep es=>
    simp only[gO]at aC|-
    exact D.ao (fun b _ hn=>⟨rfl,hB b hn⟩) _ _ aC
   |map kt vt es=>
    simp only[gO]at aC|-
    obtain⟨b,es',clock,k1,k2,k4,k3⟩:=aC
    exact⟨b,es',clock,k1,k2,k4,au.mono (fun b _ hn=>⟨rfl,hB b hn⟩) _ _ k3⟩
   |dT l=>
    simp only[gO]at aC|-
    exact D.ao (fun b _ hn=>⟨rfl,hB b hn⟩) _ _ aC
   |lS l last=>
    simp only[gO]at aC|-
    obtain⟨b,k1,k2⟩:=aC
    exact⟨b,k1,k2.mono (fun b _ hn=>⟨rfl,hB b hn⟩) rfl⟩
   |oB s pos=>
    simp only[gO]at aC|-
    exact aC
   |loop nf n env ps a b st pd=>
    simp only[gO]at aC hrefs|-
    obtain⟨b,r,k1,k2,k3,k4,k5,k6,k7,k8,k9,xV⟩:=aC
    exact⟨b,r,k1,k2,k3,k4,k5,k6,k7,k8,k9,fun i=>da _ _ (fun r hr=>hrefs r (V.g9 _ _ r hr)) (xV i)⟩
  ·subst heq
   have e2:H'.o id= .arr 0 ty sz es:=sw
   rw[e2]
   rcases hx with⟨rfl,rfl,cK⟩|⟨j,ep,hj,rfl,gI⟩
   ·refine⟨cK,[], ?_,[],by simp,by simp,rfl⟩
    rw[uh rfl]
    exact World.ownsRow_nil _ _ _ _
   ·have:=hH.ok j
    unfold aq at this
    simp only[S.H,gI]at this
    obtain⟨k1,xs,k2,evs,k3,k4,k5⟩:=this
    exact⟨k1,xs,by rw[ui j ep rfl];exact k2,evs,k3,k4,D.aw (fun b _ hn=>⟨rfl,hB b hn⟩) _ _ k5⟩
  ·have e2:H'.o id= .no:=Dq id z6
   rw[e2]
   trivial
 ·obtain⟨i',a1,a2,a3⟩:=hold i k h1 h3
  obtain⟨j',b1,b2,b3⟩:=hold j k h2 h4
  have:=hH.apart i' j' k a1 b1 a2 b2
  rcases a3 with⟨a3,a4⟩|⟨a3,a4⟩<;>rcases b3 with⟨b3,b4⟩|⟨b3,b4⟩<;>omega
 ·have hi:=sR l 0 he i
  rw[Nat.zero_add]at hi
  rcases hi with h|⟨h1,h2⟩|⟨h1,h2⟩
  ·show V.den _ _ _ _ (bU l i) _
   rw[h];trivial
  ·have:=hd i
   simp only at this
   rw[<- h1]at this
   exact da _ _ h2 this
  ·have:=hd i
   simp only at this
   rw[h2]at this
   show V.den _ _ _ _ (bU l i) _
   rw[h1]
   rcases hx with⟨rfl,rfl,cK⟩|⟨j,ep,hj,rfl,gI⟩
   ·simp only[V.den]at this
    rw[this]
    refine⟨rfl,(by show c<c+1;omega),fun e' dN=> ?_⟩
    have dN:(H'.o c).aL=some e':=dN
    have this:H'.o c= .arr 0 ty sz []:=sw
    rw[this]at dN
    simp only[aa.aL,Option.some.injEq]at dN
    subst dN
    exact⟨Nat.le_refl _,fun _=>(uh rfl).symm⟩
   ·obtain⟨g1,g2,g3⟩:=this
    refine⟨g1,(by show c<c+1;omega),fun e' dN=> ?_⟩
    have dN:(H'.o c).aL=some e':=dN
    have this:H'.o c= .arr 0 ty sz es:=sw
    rw[this]at dN
    simp only[aa.aL,Option.some.injEq]at dN
    subst dN
    have mK:((S.H ⟨e,so,m⟩).o j).aL=some ep:=by simp only[S.H,gI,aa.aL]
    exact⟨Nat.le_refl _,fun _=>by rw[ui j ep rfl];exact(g3 ep mK).2 rfl⟩
 ·have br:id<c:=by omega
  exact⟨by show(so id).bc=true;rw[ho id br, <- wG id br];exact hr,iF id br⟩
 ·have br:id<c:=by omega
  exact⟨e',by show(so id).aL=some e';rw[ho id br, <- wG id br];exact dN,Nat.le_refl _,fun _=>iF id br⟩
end Go.Proofs.YtbmnikpknlkbkaaGreat
