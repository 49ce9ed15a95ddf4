/-
  A PART OF THE PROOF. Conditions: none.
-/
import Derived.Test.YtnkamdiiakdkgaaGreatEl14
set_option linter.unusedSimpArgs false
set_option linter.unusedVariables false
namespace Go.Proofs.YtnkamdiiakdkgaaGreat
theorem mix:Tryz.prog.follows .mixedOrders=true:=ai
def zn:Tr FD:= .e fun _=> .no
theorem zt{f:Nat->Nat}:Tr.HB (fun(g:Nat) (d:FD)=>d.Ok Tryz.prog g) zn f:=fun _=>trivial
def aeb:Tr FD:=
 (.n .no (.n .no (.n .no (.n .no (.n (.fn 45 c15 [.tmp 4]) (.n .no (.n .no (.n (.fn 15 WX [.tmp 6]) zn zn) zn) (.n (.fn 5 c95 [.cell 2 55]) (.n (.fn 13 Xd [.tmp 4]) zn zn) zn)) (.n (.fn 12 c47 [.tmp 3]) (.n .no (.n (.fn 133 adB [.tmp 6]) zn zn) zn) (.n .no (.n (.fn 17 Xn [.tmp 6]) zn zn) zn))) (.n .no (.n (.fn 16 c39 [.cell 0 27]) (.n (.fn 19 c71 [.tmp 2]) (.n (.fn 27 W5 [.tmp 2]) zn zn) zn) (.n (.fn 134 ac1 []) (.n (.fn 15 ad3 [.tmp 6]) zn zn) zn)) (.n (.fn 41 c55 [.tmp 4, .tmp 5, .tmp 6]) zn (.n .no (.n (.fn 14 Xu [.tmp 4]) zn zn) zn)))) (.n (.fn 15 c11 [.tmp 2, .tmp 3]) (.n (.fn 10 c19 [.tmp 2, .tmp 3, .tmp 4]) (.n (.fn 8 c35 [.cell 0 27]) (.n (.fn 30 c67 [.tmp 2]) (.n (.fn 17 W1 [.tmp 3]) zn zn) zn) (.n (.fn 8 c99 [.tmp 3]) (.n (.fn 9 Xh [.tmp 4]) zn zn) zn)) (.n .no (.n .no (.n (.fn 19 adJ [.tmp 2]) zn zn) zn) (.n .no (.n (.fn 19 Xr [.tmp 4]) zn zn) zn))) (.n .no (.n .no (.n (.fn 12 c75 [.tmp 4]) (.n (.fn 56 adt []) zn zn) zn) (.n (.fn 8 WT [.tmp 3]) (.n (.fn 18 Xj [.tmp 4]) zn zn) zn)) (.n .no zn (.n .no (.n (.fn 14 Xy [.tmp 4]) zn zn) zn))))) (.n .no (.n .no (.n .no (.n (.fn 26 c33 [.tmp 4]) (.n .no (.n (.fn 9 WZ [.tmp 4]) zn zn) zn) (.n (.fn 46 c97 [.tmp 2]) (.n (.fn 8 Xf [.tmp 3]) zn zn) zn)) (.n (.fn 50 c49 [.cell 4 90]) (.n (.fn 9 c81 [.tmp 4]) (.n (.fn 84 adF [.tmp 8]) zn zn) zn) (.n .no (.n (.fn 8 Xp []) zn zn) zn))) (.n .no (.n (.fn 35 c41 [.cell 2 81]) (.n (.fn 11 c73 []) (.n (.fn 52 W7 [.tmp 6]) zn zn) zn) (.n (.fn 24 WR [.tmp 4]) (.n (.fn 6 ad7 [.tmp 2]) zn zn) zn)) (.n (.fn 5 c57 [.tmp 2]) zn (.n .no (.n (.fn 27 Xw [.tmp 4]) zn zn) zn)))) (.n .no (.n .no (.n (.fn 4 c37 [.cell 0 55]) (.n .no (.n (.fn 9 W3 [.tmp 4]) zn zn) zn) (.n (.fn 9 WO []) (.n (.fn 7 adZ [.tmp 2]) zn zn) zn)) (.n .no (.n .no (.n (.fn 32 W8 [.tmp 6]) zn zn) zn) (.n .no (.n (.fn 19 Xs [.cell 0 215]) zn zn) zn))) (.n .no (.n (.fn 26 c45 [.tmp 4]) (.n .no (.n (.fn 57 adx [.tmp 6, .tmp 7]) zn zn) zn) (.n .no (.n (.fn 39 Xl [.cell 4 4]) zn zn) zn)) (.n .no (.n .no (.n (.fn 36 Xb [.tmp 2]) zn zn) zn) (.n (.fn 24 WV [.tmp 3]) zn zn)))))) (.n .no (.n .no (.n .no (.n (.fn 84 c16 [.tmp 4, .tmp 5]) (.n (.fn 30 c32 [.tmp 4, .tmp 5]) (.n .no (.n (.fn 18 WY [.tmp 4]) zn zn) zn) (.n (.fn 8 c96 [.cell 4 55]) (.n (.fn 4 Xe [.tmp 2]) zn zn) zn)) (.n (.fn 65 c48 [.cell 2 90, .tmp 3]) (.n .no (.n (.fn 17 adD [.tmp 4]) zn zn) zn) (.n .no (.n (.fn 10 Xo [.tmp 4]) zn zn) zn))) (.n .no (.n (.fn 6 c40 [.tmp 2]) (.n (.fn 4 c72 [.tmp 2]) (.n (.fn 18 W6 [.tmp 2]) zn zn) zn) (.n (.fn 8 ac3 [.tmp 2]) (.n (.fn 36 ad5 [.tmp 10]) zn zn) zn)) (.n (.fn 3 c56 [.tmp 2]) zn (.n (.fn 125 MR []) (.n (.fn 27 Xv [.tmp 4]) zn zn) zn)))) (.n .no (.n (.fn 10 c20 [.tmp 2, .tmp 3, .tmp 4]) (.n (.fn 17 c36 [.cell 2 27]) (.n .no (.n (.fn 43 W2 [.cell 4 4, .cell 5 31]) zn zn) zn) (.n (.fn 121 WN [.tmp 4]) (.n (.fn 76 adX []) zn zn) zn)) (.n .no (.n (.dfr 71 WM c84 119 11 [.tmp 4, .tmp 5, .tmp 6] [.cell 4 4, .cell 5 37, .cell 6 31] 12 6 6 MP) (.n (.fn 25 adL [.tmp 2]) zn zn) zn) (.n .no (.n (.fn 28 ad9 [.tmp 8, .tmp 9]) zn zn) zn))) (.n .no (.n .no (.n (.fn 8 c76 [.tmp 2]) (.n (.fn 65 adv []) zn zn) zn) (.n .no (.n (.fn 7 Xk [.tmp 3]) zn zn) zn)) (.n .no (.n .no (.n (.fn 42 Xa []) zn zn) zn) (.n .no (.n (.fn 14 Xz [.tmp 4]) zn zn) zn))))) (.n .no (.n (.fn 178 c10 [.tmp 0]) (.n .no (.n .no (.n .no (.n (.fn 8 W0 [.tmp 3]) zn zn) zn) (.n (.fn 9 c98 [.tmp 4]) (.n (.fn 4 Xg [.tmp 2]) zn zn) zn)) (.n (.fn 68 c50 [.tmp 2]) (.n (.fn 8 c82 [.tmp 3]) (.n (.fn 168 adH [.tmp 8, .tmp 9]) zn zn) zn) (.n .no (.n (.fn 14 Xq [.tmp 4]) zn zn) zn))) (.n .no (.n (.fn 101 c42 [.tmp 2]) (.n (.fn 61 c74 [.tmp 2]) (.n (.fn 49 adr []) zn zn) zn) (.n (.fn 9 WS [.tmp 4]) (.n (.fn 27 Xi [.tmp 4]) zn zn) zn)) (.n .no zn (.n .no (.n (.fn 27 Xx [.tmp 4]) zn zn) zn)))) (.n .no (.n .no (.n (.fn 5 c38 [.cell 2 55]) (.n (.fn 76 c70 [.cell 0 27]) (.n (.fn 10 W4 [.tmp 4]) zn zn) zn) (.n (.fn 46 WQ [.tmp 4]) (.n (.fn 33 ad1 [.tmp 2]) zn zn) zn)) (.n .no (.n .no (.n (.fn 19 W9 [.tmp 4]) zn zn) zn) (.n (.fn 19 WU [.tmp 4]) (.n (.fn 14 Xt [.tmp 4]) zn zn) zn))) (.n .no (.n (.fn 9 c46 [.tmp 4]) (.n .no (.n (.fn 32 adz []) zn zn) zn) (.n .no (.n (.fn 8 Xm []) zn zn) zn)) (.n .no (.n (.fn 8 c94 [.cell 4 55]) (.n (.fn 19 Xc [.tmp 4]) zn zn) zn) (.n (.fn 28 WW [.tmp 2]) zn zn)))))))
noncomputable def bN:Nat->FD:=aeb.get
theorem gQ:∀g,(bN g).Ok Tryz.prog g:=
 Tr.AW (p:=fun g d=>d.Ok Tryz.prog g) (f:=fun g=>g) aeb
   ⟨trivial,⟨trivial,⟨trivial,⟨trivial,⟨afI,⟨trivial,⟨trivial,⟨Tl,zt,zt⟩,zt⟩,⟨af6,⟨TE,zt,zt⟩,zt⟩⟩,⟨acL,⟨trivial,⟨adC,zt,zt⟩,zt⟩,⟨trivial,⟨TO,zt,zt⟩,zt⟩⟩⟩,⟨trivial,⟨afQ,⟨acT,⟨Tv,zt,zt⟩,zt⟩,⟨ac2,⟨ad4,zt,zt⟩,zt⟩⟩,⟨acP,zt,⟨trivial,⟨TV,zt,zt⟩,zt⟩⟩⟩⟩,⟨acD,⟨acF,⟨afM,⟨acS,⟨Tq,zt,zt⟩,zt⟩,⟨ac0,⟨TI,zt,zt⟩,zt⟩⟩,⟨trivial,⟨trivial,⟨adK,zt,zt⟩,zt⟩,⟨trivial,⟨TS,zt,zt⟩,zt⟩⟩⟩,⟨trivial,⟨trivial,⟨acV,⟨adu,zt,zt⟩,zt⟩,⟨Tg,⟨TK,zt,zt⟩,zt⟩⟩,⟨trivial,zt,⟨trivial,⟨TZ,zt,zt⟩,zt⟩⟩⟩⟩⟩,⟨trivial,⟨trivial,⟨trivial,⟨afK,⟨trivial,⟨To,zt,zt⟩,zt⟩,⟨acY,⟨TG,zt,zt⟩,zt⟩⟩,⟨acN,⟨acW,⟨adG,zt,zt⟩,zt⟩,⟨trivial,⟨TQ,zt,zt⟩,zt⟩⟩⟩,⟨trivial,⟨acI,⟨afY,⟨Tx,zt,zt⟩,zt⟩,⟨Te,⟨ad8,zt,zt⟩,zt⟩⟩,⟨acR,zt,⟨trivial,⟨TX,zt,zt⟩,zt⟩⟩⟩⟩,⟨trivial,⟨trivial,⟨afO,⟨trivial,⟨Tt,zt,zt⟩,zt⟩,⟨Tc,⟨ad0,zt,zt⟩,zt⟩⟩,⟨trivial,⟨trivial,⟨Ty,zt,zt⟩,zt⟩,⟨trivial,⟨TT,zt,zt⟩,zt⟩⟩⟩,⟨trivial,⟨afS,⟨trivial,⟨ady,zt,zt⟩,zt⟩,⟨trivial,⟨TM,zt,zt⟩,zt⟩⟩,⟨trivial,⟨trivial,⟨TC,zt,zt⟩,zt⟩,⟨Tj,zt,zt⟩⟩⟩⟩⟩⟩,⟨trivial,⟨trivial,⟨trivial,⟨acE,⟨afJ,⟨trivial,⟨Tn,zt,zt⟩,zt⟩,⟨af7,⟨TF,zt,zt⟩,zt⟩⟩,⟨acM,⟨trivial,⟨adE,zt,zt⟩,zt⟩,⟨trivial,⟨TP,zt,zt⟩,zt⟩⟩⟩,⟨trivial,⟨acH,⟨acU,⟨Tw,zt,zt⟩,zt⟩,⟨ac4,⟨ad6,zt,zt⟩,zt⟩⟩,⟨acQ,zt,⟨Ti,⟨TW,zt,zt⟩,zt⟩⟩⟩⟩,⟨trivial,⟨acG,⟨afN,⟨trivial,⟨Ts,zt,zt⟩,zt⟩,⟨Tb,⟨adY,zt,zt⟩,zt⟩⟩,⟨trivial,⟨⟨Ta,MQ⟩,⟨adM,zt,zt⟩,zt⟩,⟨trivial,⟨aea,zt,zt⟩,zt⟩⟩⟩,⟨trivial,⟨trivial,⟨WL,⟨adw,zt,zt⟩,zt⟩,⟨trivial,⟨TL,zt,zt⟩,zt⟩⟩,⟨trivial,⟨trivial,⟨TA,zt,zt⟩,zt⟩,⟨trivial,⟨T0,zt,zt⟩,zt⟩⟩⟩⟩⟩,⟨trivial,⟨afG,⟨trivial,⟨trivial,⟨trivial,⟨Tp,zt,zt⟩,zt⟩,⟨acZ,⟨TH,zt,zt⟩,zt⟩⟩,⟨acO,⟨acX,⟨adI,zt,zt⟩,zt⟩,⟨trivial,⟨TR,zt,zt⟩,zt⟩⟩⟩,⟨trivial,⟨acJ,⟨afZ,⟨ads,zt,zt⟩,zt⟩,⟨Tf,⟨TJ,zt,zt⟩,zt⟩⟩,⟨trivial,zt,⟨trivial,⟨TY,zt,zt⟩,zt⟩⟩⟩⟩,⟨trivial,⟨trivial,⟨afP,⟨afX,⟨Tu,zt,zt⟩,zt⟩,⟨Td,⟨ad2,zt,zt⟩,zt⟩⟩,⟨trivial,⟨trivial,⟨Tz,zt,zt⟩,zt⟩,⟨Th,⟨TU,zt,zt⟩,zt⟩⟩⟩,⟨trivial,⟨acK,⟨trivial,⟨adA,zt,zt⟩,zt⟩,⟨trivial,⟨TN,zt,zt⟩,zt⟩⟩,⟨trivial,⟨af5,⟨TD,zt,zt⟩,zt⟩,⟨Tk,zt,zt⟩⟩⟩⟩⟩⟩⟩
@[go_sem] theorem cellsOf_3:Tryz.prog.cellsOf 3=1:=ai
@[go_sem] theorem bytesOf_3:Tryz.prog.bytesOf 3=8:=ai
@[go_sem] theorem aggT_3:ct Tryz.prog 3=some false:=ai
@[go_sem] theorem intT_3:qf Tryz.prog 3=some .i64:=ai
@[go_sem] theorem infoT_3:(Tryz.prog.info? 3).isSome=true:=ai
@[go_sem] theorem undT_3:Tryz.prog.underlying 3=some (.int .i64):=ai
@[go_sem] theorem eqShape_3:bp Tryz.prog 3=some .int:=ai
@[go_sem] theorem zeroT_3:cl Tryz.prog 3=some [.d (.int .i64 0)]:=ai
@[go_sem] theorem zeroV_3:zeroV Tryz.prog 3=some (.d (.int .i64 0)):=ai
@[go_sem] theorem zeroD_3:yc Tryz.prog 3=some (.int .i64 0):=ai
@[go_sem] theorem cellsOf_4:Tryz.prog.cellsOf 4=1:=ai
@[go_sem] theorem aggT_4:ct Tryz.prog 4=some false:=ai
@[go_sem] theorem infoT_4:(Tryz.prog.info? 4).isSome=true:=ai
@[go_sem] theorem zeroT_4:cl Tryz.prog 4=some [.d (.bool false)]:=ai
@[go_sem] theorem zeroV_4:zeroV Tryz.prog 4=some (.d (.bool false)):=ai
@[go_sem] theorem undT_5:Tryz.prog.underlying 5=some (.int .u8):=ai
@[go_sem] theorem cellsOf_9:Tryz.prog.cellsOf 9=1:=ai
@[go_sem] theorem bytesOf_9:Tryz.prog.bytesOf 9=16:=ai
@[go_sem] theorem aggT_9:ct Tryz.prog 9=some false:=ai
@[go_sem] theorem undT_9:Tryz.prog.underlying 9=some .string:=ai
@[go_sem] theorem eqShape_9:bp Tryz.prog 9=some .str:=ai
@[go_sem] theorem zeroT_9:cl Tryz.prog 9=some [.d (.str [])]:=ai
@[go_sem] theorem sliceT_22:bV Tryz.prog 22=some 102:=ai
@[go_sem] theorem aggT_22:ct Tryz.prog 22=some false:=ai
@[go_sem] theorem undT_22:Tryz.prog.underlying 22=some (.slice 102):=ai
@[go_sem] theorem cellsOf_24:Tryz.prog.cellsOf 24=2:=ai
@[go_sem] theorem aggT_24:ct Tryz.prog 24=some true:=ai
@[go_sem] theorem sliceT_25:bV Tryz.prog 25=some 57:=ai
@[go_sem] theorem aggT_25:ct Tryz.prog 25=some false:=ai
@[go_sem] theorem intT_25:qf Tryz.prog 25=none:=ai
@[go_sem] theorem undT_25:Tryz.prog.underlying 25=some (.slice 57):=ai
@[go_sem] theorem cellsOf_27:Tryz.prog.cellsOf 27=3:=ai
@[go_sem] theorem aggT_27:ct Tryz.prog 27=some true:=ai
@[go_sem] theorem infoT_27:(Tryz.prog.info? 27).isSome=true:=ai
@[go_sem] theorem zeroT_27:cl Tryz.prog 27=some [.aZ, .aZ, .aZ]:=ai
@[go_sem] theorem placesT_27:dc Tryz.prog 27=some [(0,2),(2,1)]:=ai
@[go_sem] theorem cellsOf_30:Tryz.prog.cellsOf 30=1:=ai
@[go_sem] theorem sliceT_30:bV Tryz.prog 30=some 40:=ai
@[go_sem] theorem aggT_30:ct Tryz.prog 30=some false:=ai
@[go_sem] theorem intT_30:qf Tryz.prog 30=none:=ai
@[go_sem] theorem infoT_30:(Tryz.prog.info? 30).isSome=true:=ai
@[go_sem] theorem undT_30:Tryz.prog.underlying 30=some (.slice 40):=ai
@[go_sem] theorem zeroT_30:cl Tryz.prog 30=some [.aZ]:=ai
@[go_sem] theorem cellsOf_31:Tryz.prog.cellsOf 31=1:=ai
@[go_sem] theorem aggT_31:ct Tryz.prog 31=some false:=ai
@[go_sem] theorem infoT_31:(Tryz.prog.info? 31).isSome=true:=ai
@[go_sem] theorem zeroT_31:cl Tryz.prog 31=some [.d (.int .i64 0)]:=ai
@[go_sem] theorem cellsOf_37:Tryz.prog.cellsOf 37=1:=ai
@[go_sem] theorem bytesOf_37:Tryz.prog.bytesOf 37=24:=ai
@[go_sem] theorem sliceT_37:bV Tryz.prog 37=some 3:=ai
@[go_sem] theorem aggT_37:ct Tryz.prog 37=some false:=ai
@[go_sem] theorem intT_37:qf Tryz.prog 37=none:=ai
@[go_sem] theorem infoT_37:(Tryz.prog.info? 37).isSome=true:=ai
@[go_sem] theorem undT_37:Tryz.prog.underlying 37=some (.slice 3):=ai
@[go_sem] theorem zeroT_37:cl Tryz.prog 37=some [.aZ]:=ai
@[go_sem] theorem zeroV_37:zeroV Tryz.prog 37=some (.aZ):=ai
@[go_sem] theorem cellsOf_38:Tryz.prog.cellsOf 38=1:=ai
@[go_sem] theorem sliceT_38:bV Tryz.prog 38=some 64:=ai
@[go_sem] theorem aggT_38:ct Tryz.prog 38=some false:=ai
@[go_sem] theorem intT_38:qf Tryz.prog 38=none:=ai
@[go_sem] theorem infoT_38:(Tryz.prog.info? 38).isSome=true:=ai
@[go_sem] theorem undT_38:Tryz.prog.underlying 38=some (.slice 64):=ai
@[go_sem] theorem cellsOf_40:Tryz.prog.cellsOf 40=6:=ai
@[go_sem] theorem bytesOf_40:Tryz.prog.bytesOf 40=80:=ai
@[go_sem] theorem aggT_40:ct Tryz.prog 40=some true:=ai
@[go_sem] theorem infoT_40:(Tryz.prog.info? 40).isSome=true:=ai
@[go_sem] theorem zeroT_40:cl Tryz.prog 40=some [.d (.int .i64 0), .d (.int .i64 0), .d (.int .i64 0), .aZ, .d (.bool false), .aZ]:=ai
@[go_sem] theorem placesT_40:dc Tryz.prog 40=some [(0,1),(1,1),(2,1),(3,1),(4,1),(5,1)]:=ai
@[go_sem] theorem sliceT_49:bV Tryz.prog 49=some 55:=ai
@[go_sem] theorem aggT_49:ct Tryz.prog 49=some false:=ai
@[go_sem] theorem undT_49:Tryz.prog.underlying 49=some (.slice 55):=ai
@[go_sem] theorem aggT_53:ct Tryz.prog 53=some false:=ai
@[go_sem] theorem undT_53:Tryz.prog.underlying 53=some (.int .i64):=ai
@[go_sem] theorem cellsOf_55:Tryz.prog.cellsOf 55=3:=ai
@[go_sem] theorem aggT_55:ct Tryz.prog 55=some true:=ai
@[go_sem] theorem infoT_55:(Tryz.prog.info? 55).isSome=true:=ai
@[go_sem] theorem zeroT_55:cl Tryz.prog 55=some [.d (.int .i64 0), .d (.int .i64 0), .aZ]:=ai
@[go_sem] theorem placesT_55:dc Tryz.prog 55=some [(0,1),(1,1),(2,1)]:=ai
@[go_sem] theorem cellsOf_57:Tryz.prog.cellsOf 57=6:=ai
@[go_sem] theorem bytesOf_57:Tryz.prog.bytesOf 57=80:=ai
@[go_sem] theorem aggT_57:ct Tryz.prog 57=some true:=ai
@[go_sem] theorem infoT_57:(Tryz.prog.info? 57).isSome=true:=ai
@[go_sem] theorem zeroT_57:cl Tryz.prog 57=some [.d (.int .i64 0), .aZ, .d (.int .i64 0), .d (.int .i64 0), .aZ, .d (.int .i64 0)]:=ai
@[go_sem] theorem cellsOf_64:Tryz.prog.cellsOf 64=3:=ai
@[go_sem] theorem bytesOf_64:Tryz.prog.bytesOf 64=24:=ai
@[go_sem] theorem aggT_64:ct Tryz.prog 64=some true:=ai
@[go_sem] theorem infoT_64:(Tryz.prog.info? 64).isSome=true:=ai
@[go_sem] theorem zeroT_64:cl Tryz.prog 64=some [.d (.int .i64 0), .d (.int .i64 0), .d (.bool false)]:=ai
@[go_sem] theorem placesT_64:dc Tryz.prog 64=some [(0,1),(1,1),(2,1)]:=ai
@[go_sem] theorem sliceT_73:bV Tryz.prog 73=some 37:=ai
@[go_sem] theorem intT_73:qf Tryz.prog 73=none:=ai
@[go_sem] theorem undT_73:Tryz.prog.underlying 73=some (.slice 37):=ai
@[go_sem] theorem cellsOf_81:Tryz.prog.cellsOf 81=4:=ai
@[go_sem] theorem aggT_81:ct Tryz.prog 81=some true:=ai
@[go_sem] theorem infoT_81:(Tryz.prog.info? 81).isSome=true:=ai
@[go_sem] theorem zeroT_81:cl Tryz.prog 81=some [.aZ, .aZ, .aZ, .aZ]:=ai
@[go_sem] theorem placesT_81:dc Tryz.prog 81=some [(0,3),(3,1)]:=ai
@[go_sem] theorem aggT_87:ct Tryz.prog 87=some false:=ai
@[go_sem] theorem cellsOf_88:Tryz.prog.cellsOf 88=4:=ai
@[go_sem] theorem sliceT_88:bV Tryz.prog 88=none:=ai
@[go_sem] theorem arrT_88:xp Tryz.prog 88=some (4,3):=ai
@[go_sem] theorem aggT_88:ct Tryz.prog 88=some true:=ai
@[go_sem] theorem infoT_88:(Tryz.prog.info? 88).isSome=true:=ai
@[go_sem] theorem undT_88:Tryz.prog.underlying 88=some (.array 4 3):=ai
@[go_sem] theorem cellsOf_90:Tryz.prog.cellsOf 90=16:=ai
@[go_sem] theorem sliceT_90:bV Tryz.prog 90=none:=ai
@[go_sem] theorem arrT_90:xp Tryz.prog 90=some (4,88):=ai
@[go_sem] theorem aggT_90:ct Tryz.prog 90=some true:=ai
@[go_sem] theorem infoT_90:(Tryz.prog.info? 90).isSome=true:=ai
@[go_sem] theorem zeroT_90:cl Tryz.prog 90=some [.d (.int .i64 0), .d (.int .i64 0), .d (.int .i64 0), .d (.int .i64 0), .d (.int .i64 0), .d (.int .i64 0), .d (.int .i64 0), .d (.int .i64 0), .d (.int .i64 0), .d (.int .i64 0), .d (.int .i64 0), .d (.int .i64 0), .d (.int .i64 0), .d (.int .i64 0), .d (.int .i64 0), .d (.int .i64 0)]:=ai
@[go_sem] theorem placesT_90:dc Tryz.prog 90=some [(0,4),(4,4),(8,4),(12,4)]:=ai
@[go_sem] theorem cellsOf_102:Tryz.prog.cellsOf 102=2:=ai
@[go_sem] theorem aggT_102:ct Tryz.prog 102=some true:=ai
@[go_sem] theorem infoT_102:(Tryz.prog.info? 102).isSome=true:=ai
@[go_sem] theorem zeroT_102:cl Tryz.prog 102=some [.d (.str []), .d (.int .i64 0)]:=ai
@[go_sem] theorem placesT_102:dc Tryz.prog 102=some [(0,1),(1,1)]:=ai
@[go_sem] theorem cellsOf_104:Tryz.prog.cellsOf 104=1:=ai
@[go_sem] theorem aggT_104:ct Tryz.prog 104=some false:=ai
@[go_sem] theorem infoT_104:(Tryz.prog.info? 104).isSome=true:=ai
@[go_sem] theorem zeroT_104:cl Tryz.prog 104=some [.d .cf]:=ai
@[go_sem] theorem cellsOf_116:Tryz.prog.cellsOf 116=5:=ai
@[go_sem] theorem aggT_116:ct Tryz.prog 116=some true:=ai
@[go_sem] theorem infoT_116:(Tryz.prog.info? 116).isSome=true:=ai
@[go_sem] theorem zeroT_116:cl Tryz.prog 116=some [.d (.int .i64 0), .d (.int .i64 0), .aZ, .aZ, .d (.bool false)]:=ai
@[go_sem] theorem placesT_116:dc Tryz.prog 116=some [(0,3),(3,1),(4,1)]:=ai
@[go_sem] theorem aggT_140:ct Tryz.prog 140=some false:=ai
@[go_sem] theorem cellsOf_141:Tryz.prog.cellsOf 141=1:=ai
@[go_sem] theorem aggT_141:ct Tryz.prog 141=some false:=ai
@[go_sem] theorem infoT_141:(Tryz.prog.info? 141).isSome=true:=ai
@[go_sem] theorem zeroT_141:cl Tryz.prog 141=some [.d .cf]:=ai
@[go_sem] theorem sliceT_146:bV Tryz.prog 146=some 9:=ai
@[go_sem] theorem intT_146:qf Tryz.prog 146=none:=ai
@[go_sem] theorem undT_146:Tryz.prog.underlying 146=some (.slice 9):=ai
@[go_sem] theorem cellsOf_149:Tryz.prog.cellsOf 149=1:=ai
@[go_sem] theorem aggT_149:ct Tryz.prog 149=some false:=ai
@[go_sem] theorem infoT_149:(Tryz.prog.info? 149).isSome=true:=ai
@[go_sem] theorem zeroT_149:cl Tryz.prog 149=some [.d .cf]:=ai
@[go_sem] theorem cellsOf_154:Tryz.prog.cellsOf 154=0:=ai
@[go_sem] theorem infoT_154:(Tryz.prog.info? 154).isSome=true:=ai
@[go_sem] theorem plainIface_154:pz Tryz.prog 154=true:=ai
@[go_sem] theorem zeroT_154:cl Tryz.prog 154=some []:=ai
@[go_sem] theorem zeroV_154:zeroV Tryz.prog 154=some (oP []):=ai
@[go_sem] theorem placesT_154:dc Tryz.prog 154=some []:=ai
@[go_sem] theorem aggT_156:ct Tryz.prog 156=some false:=ai
@[go_sem] theorem mapT_156:qj Tryz.prog 156=some (162,37):=ai
@[go_sem] theorem cellsOf_157:Tryz.prog.cellsOf 157=1:=ai
@[go_sem] theorem sliceT_157:bV Tryz.prog 157=some 162:=ai
@[go_sem] theorem aggT_157:ct Tryz.prog 157=some false:=ai
@[go_sem] theorem intT_157:qf Tryz.prog 157=none:=ai
@[go_sem] theorem infoT_157:(Tryz.prog.info? 157).isSome=true:=ai
@[go_sem] theorem undT_157:Tryz.prog.underlying 157=some (.slice 162):=ai
@[go_sem] theorem zeroT_159:cl Tryz.prog 159=some [.aZ, .d .hY]:=ai
@[go_sem] theorem placesT_159:dc Tryz.prog 159=some [(0,1),(1,1)]:=ai
@[go_sem] theorem cellsOf_162:Tryz.prog.cellsOf 162=18:=ai
@[go_sem] theorem bytesOf_162:Tryz.prog.bytesOf 162=144:=ai
@[go_sem] theorem aggT_162:ct Tryz.prog 162=some true:=ai
@[go_sem] theorem infoT_162:(Tryz.prog.info? 162).isSome=true:=ai
@[go_sem] theorem zeroT_162:cl Tryz.prog 162=some [.d (.int .i64 0), .d (.int .i64 0), .d (.int .i64 0), .d (.int .i64 0), .d (.int .i64 0), .d (.int .i64 0), .d (.int .i64 0), .d (.int .i64 0), .d (.int .i64 0), .d (.int .i64 0), .d (.int .i64 0), .d (.int .i64 0), .d (.int .i64 0), .d (.int .i64 0), .d (.int .i64 0), .d (.int .i64 0), .d (.int .i64 0), .d (.int .i64 0)]:=ai
@[go_sem] theorem placesT_162:dc Tryz.prog 162=some [(0,1),(1,1),(2,16)]:=ai
@[go_sem] theorem cellsOf_166:Tryz.prog.cellsOf 166=1:=ai
@[go_sem] theorem aggT_166:ct Tryz.prog 166=some false:=ai
@[go_sem] theorem infoT_166:(Tryz.prog.info? 166).isSome=true:=ai
@[go_sem] theorem mapT_166:qj Tryz.prog 166=some (9,4):=ai
@[go_sem] theorem zeroT_166:cl Tryz.prog 166=some [.d .hY]:=ai
@[go_sem] theorem cellsOf_172:Tryz.prog.cellsOf 172=1:=ai
@[go_sem] theorem aggT_172:ct Tryz.prog 172=some false:=ai
@[go_sem] theorem infoT_172:(Tryz.prog.info? 172).isSome=true:=ai
@[go_sem] theorem undT_172:Tryz.prog.underlying 172=some (.map 3 3):=ai
@[go_sem] theorem mapT_172:qj Tryz.prog 172=some (3,3):=ai
@[go_sem] theorem zeroT_172:cl Tryz.prog 172=some [.d .hY]:=ai
@[go_sem] theorem cellsOf_198:Tryz.prog.cellsOf 198=1:=ai
@[go_sem] theorem aggT_198:ct Tryz.prog 198=some false:=ai
@[go_sem] theorem infoT_198:(Tryz.prog.info? 198).isSome=true:=ai
@[go_sem] theorem mapT_198:qj Tryz.prog 198=some (3,4):=ai
@[go_sem] theorem zeroT_198:cl Tryz.prog 198=some [.d .hY]:=ai
@[go_sem] theorem cellsOf_214:Tryz.prog.cellsOf 214=1:=ai
@[go_sem] theorem aggT_214:ct Tryz.prog 214=some false:=ai
@[go_sem] theorem infoT_214:(Tryz.prog.info? 214).isSome=true:=ai
@[go_sem] theorem cellsOf_215:Tryz.prog.cellsOf 215=16:=ai
@[go_sem] theorem sliceT_215:bV Tryz.prog 215=none:=ai
@[go_sem] theorem arrT_215:xp Tryz.prog 215=some (16,214):=ai
@[go_sem] theorem aggT_215:ct Tryz.prog 215=some true:=ai
@[go_sem] theorem infoT_215:(Tryz.prog.info? 215).isSome=true:=ai
@[go_sem] theorem zeroT_215:cl Tryz.prog 215=some [.d .cf, .d .cf, .d .cf, .d .cf, .d .cf, .d .cf, .d .cf, .d .cf, .d .cf, .d .cf, .d .cf, .d .cf, .d .cf, .d .cf, .d .cf, .d .cf]:=ai
@[go_sem] theorem placesT_215:dc Tryz.prog 215=some [(0,1),(1,1),(2,1),(3,1),(4,1),(5,1),(6,1),(7,1),(8,1),(9,1),(10,1),(11,1),(12,1),(13,1),(14,1),(15,1)]:=ai
@[go_sem] theorem zeroT_218:cl Tryz.prog 218=some [.aZ, .aZ]:=ai
@[go_sem] theorem placesT_218:dc Tryz.prog 218=some [(0,2)]:=ai
@[go_sem] theorem fieldT_24_0:bB Tryz.prog 24 0=some 0:=ai
@[go_sem] theorem fieldT_24_1:bB Tryz.prog 24 1=some 1:=ai
@[go_sem] theorem fieldT_27_0:bB Tryz.prog 27 0=some 0:=ai
@[go_sem] theorem fieldT_27_1:bB Tryz.prog 27 1=some 2:=ai
@[go_sem] theorem fieldT_40_1:bB Tryz.prog 40 1=some 1:=ai
@[go_sem] theorem fieldT_40_2:bB Tryz.prog 40 2=some 2:=ai
@[go_sem] theorem fieldT_40_3:bB Tryz.prog 40 3=some 3:=ai
@[go_sem] theorem fieldT_40_4:bB Tryz.prog 40 4=some 4:=ai
@[go_sem] theorem fieldT_40_5:bB Tryz.prog 40 5=some 5:=ai
@[go_sem] theorem fieldT_55_0:bB Tryz.prog 55 0=some 0:=ai
@[go_sem] theorem fieldT_55_1:bB Tryz.prog 55 1=some 1:=ai
@[go_sem] theorem fieldT_55_2:bB Tryz.prog 55 2=some 2:=ai
@[go_sem] theorem fieldT_57_0:bB Tryz.prog 57 0=some 0:=ai
@[go_sem] theorem fieldT_57_1:bB Tryz.prog 57 1=some 1:=ai
@[go_sem] theorem fieldT_57_2:bB Tryz.prog 57 2=some 2:=ai
@[go_sem] theorem fieldT_57_3:bB Tryz.prog 57 3=some 5:=ai
@[go_sem] theorem fieldT_64_0:bB Tryz.prog 64 0=some 0:=ai
@[go_sem] theorem fieldT_64_1:bB Tryz.prog 64 1=some 1:=ai
@[go_sem] theorem fieldT_64_2:bB Tryz.prog 64 2=some 2:=ai
@[go_sem] theorem fieldT_81_0:bB Tryz.prog 81 0=some 0:=ai
@[go_sem] theorem fieldT_81_1:bB Tryz.prog 81 1=some 3:=ai
@[go_sem] theorem fieldT_102_0:bB Tryz.prog 102 0=some 0:=ai
@[go_sem] theorem fieldT_102_1:bB Tryz.prog 102 1=some 1:=ai
@[go_sem] theorem fieldT_116_0:bB Tryz.prog 116 0=some 0:=ai
@[go_sem] theorem fieldT_116_1:bB Tryz.prog 116 1=some 3:=ai
@[go_sem] theorem fieldT_116_2:bB Tryz.prog 116 2=some 4:=ai
@[go_sem] theorem fieldT_159_0:bB Tryz.prog 159 0=some 0:=ai
@[go_sem] theorem fieldT_159_1:bB Tryz.prog 159 1=some 1:=ai
@[go_sem] theorem fieldT_162_0:bB Tryz.prog 162 0=some 0:=ai
@[go_sem] theorem fieldT_162_1:bB Tryz.prog 162 1=some 1:=ai
@[go_sem] theorem fieldT_162_2:bB Tryz.prog 162 2=some 2:=ai
@[go_sem] theorem fieldT_218_0:bB Tryz.prog 218 0=some 0:=ai
section
def mS(x y:ab):Prop:=(x.cj=true->y.cj=true)/\∀e,x.b9=some e->y.b9=some e
theorem mS.rfl' {x y:ab}(h:x=y):mS x y:=h ▸ ⟨id,fun _ h=>h⟩
theorem mS.fz (x:ab):mS x.fz x:=by cases x<;>exact⟨id,fun _ h=>h⟩
theorem mS.row (cs cs':List V):mS (.row cs) (.row cs'):=⟨fun _=>rfl,fun _ h=>by cases h⟩
mutual
theorem V.lL {B B':Nat->Prop}{φ aG:Place}{H H':Hp}{w:World}(hB:∀b, ¬B b-> ¬B' b):∀ (v:V) (val:Value),(∀id∈v.refs,mS (H'.o id) (H.o id)/\aG id=φ id/\H'.us id)->V.den B φ H w v val->V.den B' aG H' w v val
 | .d x,val,_,h=>D.aO (w:=w) (w':=w) (fun b _ hn=>⟨rfl,hB b hn⟩) x val h
 | .aZ,_,_,h=>h
 | .aa,_,_,_=>trivial
 | .ft,_,_,h=>h
 | .rK es,val,_,h=>⟨D.aO (w:=w) (w':=w) (fun b _ hn=>⟨rfl,hB b hn⟩) (.sl es) val h.1,h.2⟩
 | .agg cs,val,hr,h=>by
   obtain⟨a,rfl,h1,h2⟩:=h
   exact⟨a,rfl,V.fj hB cs _ x5 h1,h2⟩
 | .bW cs,val,hr,h=>by
   obtain⟨a,rfl,h1⟩:=h
   exact⟨a,rfl,V.fj hB cs _ x5 h1⟩
 | .ptr id off,val,hr,h=>by
   exact UU
 | .osl id ep,val,hr,h=>by
   obtain⟨a,b,c⟩:=hr id BN
   obtain⟨h0,h1,h2⟩:=h
   refine⟨h0,c,fun e he=> ?_⟩
   obtain⟨x,y⟩:=h2 e (a.2 e he)
   exact⟨x,fun heq=>(y heq).trans b.symm⟩
 | .pe id ep i sz off,val,hr,h=>by
   obtain⟨a,b,c⟩:=hr id BN
   obtain⟨h0,h1,h2⟩:=h
   refine⟨h0,c,fun e he=> ?_⟩
   obtain⟨x,y⟩:=h2 e (a.2 e he)
   exact R0
 | .pp cs off,val,_,h=>by
   obtain⟨a,ev,h1,h2,h3,h5,h4⟩:=h
   exact aaj
 | .func fn first cap,val,hr,h=>by
   obtain⟨f,c,rfl,h1,h2⟩:=h
   exact⟨f,c,rfl,V.fj hB first _ (fun id aq=>hr id (by simp[V.refs,aq])) h1,V.fj hB cap _ (fun id aq=>hr id (by simp[V.refs,aq])) h2⟩
 | .iface t x,val,hr,h=>by
   obtain⟨u,rfl,h⟩:=h
   exact⟨u,rfl,V.lL hB x u x5 h⟩
 | .x9 id off n,val,hr,h=>by
   exact UU
 | .mp id,val,hr,h=>by
   obtain⟨a,b,c⟩:=hr id BN
   obtain⟨h0,h1,h2⟩:=h
   refine⟨h0,c,fun bG=> ?_⟩
   exact(h2 (a.1 bG)).trans b.symm
 | .ju id,val,hr,h=>by
   exact UU
theorem V.fj {B B':Nat->Prop}{φ aG:Place}{H H':Hp}{w:World}(hB:∀b, ¬B b-> ¬B' b):∀ (vs:List V) (vals:List Value),(∀id∈V.aE vs,mS (H'.o id) (H.o id)/\aG id=φ id/\H'.us id)->V.aB B φ H w vs vals->V.aB B' aG H' w vs vals
 |[],_,_,h=>h
 |v::vs,_,hr,h=>by
  obtain⟨u,us,rfl,h1,h2⟩:=h
  exact⟨u,us,rfl,V.lL hB v u (fun id aq=>hr id (by simp[V.aE,aq])) h1,V.fj hB vs us (fun id aq=>hr id (by simp[V.aE,aq])) h2⟩
end
mutual
theorem V.lM {B:Nat->Prop}{φ:Place}{H:Hp}{w:World}:∀ (v:V) (val:Value),V.den B φ H w v val->∀id∈v.refs,H.us id
 | .osl id ep,_,h,j,hj| .ptr id off,_,h,j,hj| .pe id ep i sz off,_,h,j,hj| .x9 id off n,_,h,j,hj| .mp id,_,h,j,hj| .ju id,_,h,j,hj=>by simp[V.refs]at hj;subst hj;exact h.2.1
 | .agg cs,_,h,j,hj=>by obtain⟨a,rfl,h,_⟩:=h;exact V.eT cs _ h j (by simpa[V.refs]using hj)
 | .bW cs,_,h,j,hj=>by obtain⟨a,rfl,h⟩:=h;exact V.eT cs _ h j (by simpa[V.refs]using hj)
 | .func fn first cap,_,h,j,hj=>by
   obtain⟨f,c,rfl,h1,h2⟩:=h
   rcases List.mem_append.1 (show j∈V.aE first++V.aE cap by simpa[V.refs]using hj)with hj|hj
   ·exact V.eT first _ h1 j hj
   ·exact V.eT cap _ h2 j hj
 | .iface t x,_,h,j,hj=>by obtain⟨u,rfl,h⟩:=h;exact V.lM x u h j (by simpa[V.refs]using hj)
 | .d _,_,_,_,hj| .aZ,_,_,_,hj| .pp _ _,_,_,_,hj| .aa,_,_,_,hj| .rK _,_,_,_,hj| .ft,_,_,_,hj=>by simp[V.refs]at hj
theorem V.eT {B:Nat->Prop}{φ:Place}{H:Hp}{w:World}:∀ (vs:List V) (vals:List Value),V.aB B φ H w vs vals->∀id∈V.aE vs,H.us id
 |[],_,_,j,hj=>by simp[V.aE]at hj
 |v::vs,_,h,j,hj=>by
  obtain⟨u,us,rfl,h1,h2⟩:=h
  rcases List.mem_append.1 (show j∈v.refs++V.aE vs by simpa[V.aE]using hj)with hj|hj
  ·exact V.lM v u h1 j hj
  ·exact V.eT vs us h2 j hj
end
def pE(so:Nat->ab)(gone:Nat->Prop)(ty:TypeId)(sz:Nat)(es:List D)(x:V):Prop:=
 (x= .aZ/\es=[]/\0<sz)\/∃id ep,gone id/\x= .osl id ep/\so id= .arr ep ty sz es
theorem MS{xs ys:List Nat}:kX xs ys=true↔∀x∈xs,x∉ys:=by
 simp[kX,List.all_eq_true]
def mN(env:Nat->V):List V->Nat->Prop
 |[],_=>True
 |v::l,i=>(v= .aa\/v=env i)/\mN env l (i+1)
theorem IB{env:Nat->V}{i:Nat}:mN env [] i:=trivial
theorem EI{env:Nat->V}{l:List V}{i:Nat}(h:mN env l (i+1)):mN env (.aa::l) i:=⟨.inl rfl,h⟩
theorem OM{env:Nat->V}{l:List V}{i:Nat}{v:V}(he:env i=v)(h:mN env l (i+1)):mN env (v::l) i:=⟨.inr he.symm,h⟩
theorem Dn{env:Nat->V}:∀ (l:List V) (i:Nat),mN env l i->∀j,aU l j= .aa\/aU l j=env (i+j)
 |[],i,_,j=>by rw[qO];exact .inl rfl
 |v::l,i,h,0=>by rw[oh];exact h.1
 |v::l,i,h,j+1=>by
  rw[oi]
  have:=Dn l (i+1) h.2 j
  rwa [show i+1+j=i+(j+1) by omega]at this
theorem JC{P:Program}{n bq:Nat}{gq:Operand}{ps:List Nat}{x y:IC}{Q:fG->S->Prop}{e:Nat->V}{o:Nat->ab}{nx:Nat}{f:FuncId}{cap:List V}(env:List V)(he:mN e env 0)
 (h:cH P f (.ju nx::cap) (ax o nx (.loop P.funcs.size n env ps x y .ready none)) (nx+1)
  (fun _ o' nx'=>∃nf m en p c d st pd,o' nx= .loop nf m en p c d st pd/\st≠ .busy/\px Q pd ⟨e,ax o' nx (.loop nf m en p c d .exhausted pd),nx'⟩) (fun v o' nx'=>Q (.bE v) ⟨e,o',nx'⟩)):
 AE P n bq false gq ps x y Q ⟨e,o,nx⟩ (.func (.func f) [] cap):=by
 unfold AE Cz
 refine⟨rfl, .inl ⟨env,fun i=> ?_, .inl h⟩⟩
 have:=Dn env 0 he i
 rwa [Nat.zero_add]at this
theorem bt.trans {b:Nat}{s s' s'':S}(h1:bt b s s')(h2:bt b s' s''):bt b s s'':=fun M φ w tm hH hd=>by
 obtain⟨aG,a1,a2,a3,a4,a5,a6⟩:=h1 M φ w tm hH hd
 obtain⟨ES,b1,b2,b3,b4,b5,b6⟩:=h2 M aG w tm a1 a2
 refine⟨ES,b1,b2,fun k hk=>a3 k (b3 k hk),b4,fun id aq hr=> ?_,fun id e' aq he=> ?_⟩
 ·obtain⟨c1,c2⟩:=b5 id aq hr
  obtain⟨c3,c4⟩:=a5 id aq c1
  exact⟨c3,c2.trans c4⟩
 ·obtain⟨e1,c1,c2,c3⟩:=b6 id e' aq he
  obtain⟨e0,d1,d2,d3⟩:=a6 id e1 aq c1
  exact⟨e0,d1,Nat.le_trans d2 c2,fun h=>(c3 ag).trans (d3 ag)⟩
def pF(P:Program)(n b id:Nat)(eI:IC)(K X:V->(Nat->ab)->Nat->Prop)(e:fG)(s:S):Prop:=
 match e with
 | .normal=>∃nf m en p c d pd,s.o id= .loop nf m en p c d .ready pd/\kN P n b true eI (jZ id K X) ⟨s.env,ax s.o id (.loop nf m en p c d .busy pd),s.nx⟩
 | .bE v=>X v s.o s.nx
 |_=>False
theorem dI.aJ {P:Program}{n:Nat}(bd:P.follows .mixedOrders=true){id:Nat}{args:List V}{o:Nat->ab}{nx:Nat}{K X:V->(Nat->ab)->Nat->Prop}{env:List V}{ps:List Nat}{iZ eI:IC}{st:LoopState}{pd:Option kj}
 (ho:o id= .loop P.funcs.size n env ps iZ eI st pd) (cG:id<nx) (xI:ps.all (fun t=>decide (t<n))=true) (hl:args.length=ps.length)
 (h:kN P n nx true iZ (pF P n nx id eI K X) ⟨nC (aU env) ps args,o,nx⟩):dI P id args o nx K X:=by
 refine dI.vK bd ho cG xI hl (dY iZ _ _ _ (fun e s h=> ?_) h)
 cases e with
 |normal=>
  obtain⟨nf,m,en,p,c,d,pd,h1,h2⟩:=h
  exact⟨nf,m,en,p,c,d,pd,h1,dY eI _ _ _ (fun _ _ h=>h) h2⟩
 |bE v=>exact h
 |_=>exact h.elim
theorem AX{P:Program}{n b id:Nat}{eI:IC}{K X:V->(Nat->ab)->Nat->Prop}{s:S}{nf m:Nat}{en:List V}{p:List Nat}{c d:IC}{pd:Option kj}(h:s.o id= .loop nf m en p c d .ready pd)
 (h2:kN P n b true eI (jZ id K X) ⟨s.env,ax s.o id (.loop nf m en p c d .busy pd),s.nx⟩):pF P n b id eI K X .normal s:=⟨nf,m,en,p,c,d,pd,h,h2⟩
def xJ:List Nat->Nat->Nat->Nat
 |[],nx,k=>nx+k
 |i::_,_,0=>i
 |_::l,nx,k+1=>xJ l nx k
theorem AY:∀ (l:List Nat) (nx k:Nat),xJ l nx k∈l\/nx<=xJ l nx k
 |[],nx,k=> .inr (Nat.le_add_right _ _)
 |i::_,_,0=> .inl (List.mem_cons_self ..)
 |_::l,nx,k+1=>(AY l nx k).imp (List.mem_cons_of_mem _) id
theorem Dp{nx:Nat}:∀ (l:List Nat),l.Nodup->(∀i∈l,i<nx)->∀a b,xJ l nx a=xJ l nx b->a=b
 |[],_,_,a,b,e=>by simp only[xJ]at e;omega
 |i::l,_,_,0,0,_=>rfl
 |i::l,hd,hl,0,b+1,e=>by
  simp only[xJ]at e
  rcases AY l nx b with h|h
  ·rw[<- e]at h;exact absurd h (List.nodup_cons.1 hd).1
  ·have:=hl i (List.mem_cons_self ..);omega
 |i::l,hd,hl,a+1,0,e=>by
  simp only[xJ]at e
  rcases AY l nx a with h|h
  ·rw[e]at h;exact absurd h (List.nodup_cons.1 hd).1
  ·have:=hl i (List.mem_cons_self ..);omega
 |i::l,hd,hl,a+1,b+1,e=>by
  simp only[xJ]at e
  rw[Dp l (List.nodup_cons.1 hd).2 (fun j hj=>hl j (List.mem_cons_of_mem _ hj)) a b e]
def Qe(f:Nat->Nat)(x:List Nat×List Nat):List Nat×List Nat:=(x.1.map f,x.2.map f)
theorem wb{f:Nat->Nat}(hf:∀a b,f a=f b->a=b){xs ys:List Nat}(hd:kX xs ys=true):kX (xs.map f) (ys.map f)=true:=by
 rw[MS]at hd|-
 intro x hx hy
 obtain⟨a,ha,rfl⟩:=List.mem_map.1 hx
 obtain⟨b,hb,e⟩:=List.mem_map.1 hy
 rw[hf b a e]at hb
 exact hd a ha hb
theorem FL{f:Nat->Nat}(hf:∀a b,f a=f b->a=b){pr:List (List Nat)}(fp:List (List Nat×List Nat))(ho:ez pr fp=true):ez pr (fp.map (Qe f))=true:=by
 unfold ez at ho|-
 rw[List.all_eq_true]at ho|-
 intro j hj
 rw[List.length_map]at hj
 have ho:=ho j hj
 rw[List.all_eq_true]at ho|-
 intro i hi
 have ho:=ho i hi
 have hm:∀k,(fp.map (Qe f)).getD k ([],[])=Qe f (fp.getD k ([],[])):=fun k=>by
  rw[List.getD_eq_getElem?_getD,List.getD_eq_getElem?_getD,List.getElem?_map]
  cases fp[k]? <;>rfl
 rw[hm,hm]
 rw[Bool.or_eq_true]at ho|-
 refine ho.imp (fun h=>h) (fun ho=> ?_)
 rw[Bool.and_eq_true,Bool.and_eq_true]at ho|-
 exact⟨⟨wb hf ho.1.1,wb hf ho.1.2⟩,wb hf ho.2⟩
theorem bO{ids:List Nat}{nx:Nat}(hd:ids.Nodup)(hl:∀i∈ids,i<nx){pr:List (List Nat)}(fp:List (List Nat×List Nat))(ho:ez pr fp=true):ez pr (fp.map (Qe (xJ ids nx)))=true:=
 FL (Dp ids hd hl) fp ho
theorem FM{P:Program}{g:FuncId}{K:KD}{X:XD}{o:Nat->ab}{nx fr:Nat}{all:List V}{rd:List Nat}{x:D}{Δ:List (Nat×ab)}(m5:rd.all (fun id=>decide (id<nx))=true)(h:xF P g all rd o (.bE x) Δ)(hk:X (.d x) (Δ.map (·.1)) rd):nF P g K X o nx fr all:=by
 unfold nF
 exact⟨rd,Δ,m5, .inr (.inl ⟨x,h,hk⟩)⟩
section
variable {P:Program}{KB:List Nat->Fp->Prop}{pr:List (List Nat)}{l:List bM}{fr:Nat}{fp:Fp}{bad ws:List Nat}{s:S}{d:Option Nat}{op:Op}
theorem MT(h:KB ws fp):CZ P KB pr [] fr fp bad ws s:=by unfold CZ;exact h
end
end
section
structure Gr where
 x:V
 ty:TypeId
 sz:Nat
 es:List D
def Gr.ok (so:Nat->ab)(gone:Nat->Prop)(g:Gr):Prop:=pE so gone g.ty g.sz g.es g.x
def MU(c:Nat)(G:List Gr)(so:Nat->ab)(gone:Nat->Prop)(v v':V):Prop:=
 v'= .aa\/(v'=v/\∀r∈v.refs,r<c)\/(∃i g,G[i]? =some g/\v'= .osl (c+i) 0/\v=g.x)\/∃y,v'= .d y/\dB so v=some y/\∀id∈v.ids,gone id/\∀g∈G,∀ep,g.x≠ .osl id ep
def kx(c:Nat)(G:List Gr)(so:Nat->ab)(gone:Nat->Prop)(env:Nat->V):List V->Nat->Prop
 |[],_=>True
 |v::l,i=>MU c G so gone (env i) v/\kx c G so gone env l (i+1)
def sE(c:Nat)(G:List Gr)(so:Nat->ab)(gone:Nat->Prop):List V->List V->Prop
 |[],[]=>True
 |v::l,v'::l'=>MU c G so gone v v'/\sE c G so gone l l'
 |_,_=>False
def uj(c:Nat)(G:List Gr)(so:Nat->ab)(gone:Nat->Prop)(x x':ab):Prop:=
 x'= .no\/(x=x'/\∀r∈x'.refs,r<c)\/∃cs cs',x= .row cs/\x'= .row cs'/\sE c G so gone cs cs'
section
variable {c:Nat}{G:List Gr}{so:Nat->ab}{gone:Nat->Prop}
theorem HC{env:Nat->V}:∀ (l:List V) (i:Nat),kx c G so gone env l i->∀j,MU c G so gone (env (i+j)) (aU l j)
 |[],i,_,j=>by rw[qO];exact .inl rfl
 |v::l,i,h,0=>by rw[oh];exact h.1
 |v::l,i,h,j+1=>by
  rw[oi]
  have:=HC l (i+1) h.2 j
  rwa [show i+1+j=i+(j+1) by omega]at this
variable {env:Nat->V}{i:Nat}{l l':List V}{v:V}{y:D}
theorem p6:kx c G so gone env [] i:=trivial
theorem dk(h:kx c G so gone env l (i+1)):kx c G so gone env (.aa::l) i:=⟨.inl rfl,h⟩
theorem jG(he:env i= .d y)(h:kx c G so gone env l (i+1)):kx c G so gone env (.d y::l) i:=⟨.inr (.inl ⟨he.symm,fun r hr=>by rw[he]at hr;simp[V.refs]at hr⟩),h⟩
theorem mZ(he:env i=v)(hr:∀r∈v.refs,r<c)(h:kx c G so gone env l (i+1)):kx c G so gone env (v::l) i:=⟨.inr (.inl ⟨he.symm,fun r xB=>hr r (he ▸ xB)⟩),h⟩
theorem mY(k:Nat){g:Gr}{n:Nat}(hg:G[k]? =some g)(hn:n=c+k)(he:env i=g.x)(h:kx c G so gone env l (i+1)):kx c G so gone env (.osl n 0::l) i:=⟨.inr (.inr (.inl ⟨k,g,hg,by rw[hn],he⟩)),h⟩
theorem rN(ht:dB so (env i)=some y)(hi:∀id∈(env i).ids,gone id/\∀g∈G,∀ep,g.x≠ .osl id ep)(h:kx c G so gone env l (i+1)):kx c G so gone env (.d y::l) i:=⟨.inr (.inr (.inr ⟨y,rfl,ht,hi⟩)),h⟩
theorem qW:sE c G so gone [] []:=trivial
theorem XA(h:sE c G so gone l l'):sE c G so gone (.d y::l) (.d y::l'):=⟨.inr (.inl ⟨rfl,fun r hr=>by simp[V.refs]at hr⟩),h⟩
theorem MV(hr:∀r∈v.refs,r<c)(h:sE c G so gone l l'):sE c G so gone (v::l) (v::l'):=⟨.inr (.inl ⟨rfl,hr⟩),h⟩
theorem AZ(k:Nat){g:Gr}{n:Nat}(hg:G[k]? =some g)(hn:n=c+k)(he:v=g.x)(h:sE c G so gone l l'):sE c G so gone (v::l) (.osl n 0::l'):=⟨.inr (.inr (.inl ⟨k,g,hg,by rw[hn],he⟩)),h⟩
theorem Qf{x:ab}:uj c G so gone x .no:= .inl rfl
theorem cV{x x':ab}(h:x=x')(hr:∀r∈x'.refs,r<c):uj c G so gone x x':= .inr (.inl ⟨h,hr⟩)
theorem qX{x:ab}{cs cs':List V}(h:x= .row cs)(hr:sE c G so gone cs cs'):uj c G so gone x (.row cs'):= .inr (.inr ⟨cs,cs',h,rfl,hr⟩)
end
theorem qY{c:Nat}{G:List Gr}{so:Nat->ab}{gone:Nat->Prop}{B B':Nat->Prop}{φ aG:Place}{H H':Hp}{w:World}(hc:∀v v' val,MU c G so gone v v'->V.den B φ H w v val->V.den B' aG H' w v' val):
 ∀ (l l':List V) (vals:List Value),sE c G so gone l l'->V.aB B φ H w l vals->V.aB B' aG H' w l' vals
 |[],[],_,_,h=>h
 |v::l,v'::l',_,h,hd=>by
  obtain⟨u,us,rfl,h1,h2⟩:=hd
  exact⟨u,us,rfl,hc _ _ _ h.1 h1,qY hc l l' us h.2 h2⟩
 |[],_::_,_,h,_=>h.elim
 |_::_,[],_,h,_=>h.elim
def MW(φ:Place)(c:Nat)(G:List Gr):Place:=fun id=>if id<c then φ id else match G[id - c]? with
 |some g=>(match g.x with| .osl j _=>φ j|_=> .slice none 0 0)
 |none=>φ id
theorem bt.see (gone:Nat->Prop)(G:List Gr)(c:Nat){b:Nat}{e:Nat->V}{so:Nat->ab}{m:Nat}(l:List V){o':Nat->ab}{nx':Nat}(vw:nx'=c+G.length)(hb:b<=c)
 (ho:∀id,id<c->uj c G so gone (so id) (o' id)) (hG:∀i g,G[i]? =some g->o' (c+i)= .arr 0 g.ty g.sz g.es/\g.ok so gone) (hh:∀id,nx'<=id->o' id= .no) (zb:∀id,gone id->id<c->o' id= .no)
 (Vt:∀ (i j:Nat) (gi gj:Gr) (id ep fF:Nat),G[i]? =some gi->G[j]? =some gj->gi.x= .osl id ep->gj.x= .osl id fF->i=j) (he:kx c G so gone e l 0):bt b ⟨e,so,m⟩ ⟨aU l,o',nx'⟩:=by
 subst vw
 intro M φ w tm hH hd
 let aG:Place:=MW φ c G
 let H':Hp:=hp o' (c+G.length)
 let H:Hp:=⟨so,fun id=>id<m⟩
 have JD:∀id,id<c->aG id=φ id:=fun id aq=>if_pos aq
 have MX:∀i g,G[i]? =some g->aG (c+i)=(match g.x with| .osl j _=>φ j|_=> .slice none 0 0):=fun i g hg=>by
  show MW φ c G (c+i)=_
  unfold MW
  rw[if_neg (by omega),show c+i - c=i by omega,hg]
 have hold:∀id k,(o' id).live=true->dx (aG id)=some k->∃j,(so j).live=true/\dx (φ j)=some k/\((id<c/\j=id)\/∃i g ep,id=c+i/\G[i]? =some g/\gone j/\g.x= .osl j ep):=by
  intro id k h1 h2
  by_cases cG:id<c
  ·rw[JD id cG]at h2
   rcases ho id cG with h3|⟨h3,_⟩|⟨cs,cs',h3,h4,_⟩
   ·rw[h3]at h1;cases h1
   ·exact⟨id,by rw[h3];exact h1,h2, .inl ⟨cG,rfl⟩⟩
   ·exact⟨id,by rw[h3];rfl,h2, .inl ⟨cG,rfl⟩⟩
  ·by_cases BC:c+G.length<=id
   ·rw[hh id BC]at h1;cases h1
   ·obtain⟨i,rfl⟩:∃i,id=c+i:=⟨id - c,ag⟩
    obtain⟨g,hg⟩:∃g,G[i]? =some g:=⟨G[i]'ag,aI⟩
    rw[MX i g hg]at h2
    obtain⟨_,aW⟩:=hG i g hg
    rcases aW with⟨h3,_,_⟩|⟨j,ep,hj,h3,pX⟩
    ·rw[h3]at h2;cases h2
    ·rw[h3]at h2
     exact⟨j,by rw[pX];rfl,h2, .inr ⟨i,g,ep,rfl,hg,hj,h3⟩⟩
 have cN:∀k,cE aG H' k->cE φ H k:=by
  rintro k ⟨id,h1,h2⟩
  obtain⟨j,g1,g2,_⟩:=hold id k h1 h2
  exact⟨j,g1,g2⟩
 have hB:∀k, ¬ao M φ H k-> ¬ao M aG H' k:=fun k h h'=>h (h'.imp id (cN k))
 have jb:∀id,id<c->mS (H'.o id) (H.o id)/\aG id=φ id/\H'.us id:=fun id aq=>by
  refine⟨?_,JD id aq,(by show id<c+G.length;omega)⟩
  show mS (o' id) (so id)
  rcases ho id aq with h3|⟨h3,_⟩|⟨cs,cs',h3,h4,_⟩
  ·rw[h3];exact⟨fun h=>(by cases h),fun e h=>(by cases h)⟩
  ·exact mS.rfl' h3.symm
  ·rw[h3,h4];exact mS.row _ _
 have eY:∀ (v:V) (val:Value),(∀r∈v.refs,r<c)->V.den (ao M φ H) φ H w v val->V.den (ao M aG H') aG H' w v val:=fun v val hr h=>
  V.lL (H:=H) (H':=H') hB v val (fun id aq=>jb id (hr id aq)) h
 have jK:∀ (v:List V) (val:List Value),(∀r∈V.aE v,r<c)->V.aB (ao M φ H) φ H w v val->V.aB (ao M aG H') aG H' w v val:=fun v val hr h=>
  V.fj (H:=H) (H':=H') hB v val (fun id aq=>jb id (hr id aq)) h
 have af8:∀ (v:V) (y:D) (val:Value),dB so v=some y->(∀id∈v.ids,gone id/\∀g∈G,∀ep,g.x≠ .osl id ep)->V.den (ao M φ H) φ H w v val->D.den (ao M aG H') w y val:=fun v y val h1 h2 h3=>by
  obtain⟨f1,f2,f3,f4,f5⟩:=cO (H:=H) hH v.ids (fun id aq=>cJ v val h3 id aq)
  have T1:∀k,cE φ (H.put (bT H.o v.ids)) k->cE φ H k:=by
   rintro k ⟨id,g1,g2⟩
   by_cases aq:id∈v.ids
   ·rw[f3 id aq]at g1
    refine⟨id, ?_,g2⟩
    revert g1
    cases H.o id<;>simp[ab.fz,ab.live]
   ·rw[f4 id aq]at g1;exact⟨id,g1,g2⟩
  have h4:V.den (ao M φ (H.put (bT H.o v.ids))) φ (H.put (bT H.o v.ids)) w v val:=
   V.lL (H:=H) (fun k h h'=>h (h'.imp id (T1 k))) v val (fun id aq=>by
     have ed:H.us id:=(V.lM v val h3) id aq
     refine⟨?_,rfl,(f5 id).2 ed⟩
     by_cases hm:id∈v.ids
     ·rw[f3 id hm];exact mS.fz _
     ·rw[f4 id hm];exact mS.rfl' rfl) h3
  have h5:=eC f1 (o:=so) v y val (fun id aq=>f3 id aq) h1 h4
  refine D.aO (w:=w) (w':=w) (fun k _ hn=>⟨rfl,fun hk=>hn (hk.imp id ?_)⟩) y val h5
  rintro⟨id,g1,g2⟩
  obtain⟨j,k1,k2,k3⟩:=hold id k g1 g2
  refine⟨j, ?_,k2⟩
  have:j∉v.ids:=fun hm=>by
   obtain⟨k4,k5⟩:=h2 j hm
   rcases k3 with⟨k6,k7⟩|⟨i,g,ep,k6,k8,k9,k10⟩
   ·subst k7
    have:=zb _ k4 k6
    have g1:(o' j).live=true:=g1
    rw[this]at g1
    cases g1
   ·exact k5 g (List.mem_of_getElem? k8) ep k10
  rw[f4 j this];exact k1
 have wc:∀i g val,G[i]? =some g->V.den (ao M φ H) φ H w g.x val->V.den (ao M aG H') aG H' w (.osl (c+i) 0) val:=by
  intro i g val hg this
  obtain⟨EK,aW⟩:=hG i g hg
  have cG:c+i<c+G.length:=by have:=(List.getElem?_eq_some_iff.1 hg).1;omega
  rcases aW with⟨h3,_,_⟩|⟨j,ep,hj,h3,pX⟩
  ·rw[h3]at this
   simp only[V.den]at this
   rw[this]
   refine⟨rfl,cG,fun e' pW=> ?_⟩
   have pW:(o' (c+i)).b9=some e':=pW
   rw[EK]at pW
   simp only[ab.b9,Option.some.injEq]at pW
   subst pW
   exact⟨Nat.le_refl _,fun _=>by rw[MX i g hg,h3]⟩
  ·rw[h3]at this
   obtain⟨g1,g2,g3⟩:=this
   refine⟨g1,cG,fun e' pW=> ?_⟩
   have pW:(o' (c+i)).b9=some e':=pW
   rw[EK]at pW
   simp only[ab.b9,Option.some.injEq]at pW
   subst pW
   have xq:(H.o j).b9=some ep:=by show(so j).b9=_;rw[pX];rfl
   exact⟨Nat.le_refl _,fun _=>by rw[MX i g hg,h3];exact(g3 ep xq).2 rfl⟩
 have T2:∀v v' val,MU c G so gone v v'->V.den (ao M φ H) φ H w v val->V.den (ao M aG H') aG H' w v' val:=by
  intro v v' val h h1
  rcases h with rfl|⟨rfl,h2⟩|⟨i,g,hg,rfl,rfl⟩|⟨y,rfl,h2,h3⟩
  ·trivial
  ·exact eY _ _ h2 h1
  ·exact wc i g _ hg h1
  ·exact af8 v y val h2 h3 h1
 refine⟨aG,⟨fun id=> ?_,fun id hu=>hh id (by have: ¬id<c+G.length:=hu;omega),fun i j k h1 h2 h3 h4=> ?_,fun k hk=>hH.ours k (cN k hk),hH.BB⟩,fun i=> ?_,cN,by show b<=c+G.length;omega,fun id aq hr=> ?_,fun id e' aq pW=> ?_⟩
 ·have bc:aP M φ H w id:=hH.ok id
  show aP M aG H' w id
  unfold aP at bc|-
  by_cases cG:id<c
  ·rcases ho id cG with h3|⟨h3,hrefs⟩|⟨cs,cs',h3,h4,bG⟩
   ·have e2:H'.o id= .no:=h3
    rw[e2];trivial
   ·have e1:H.o id=o' id:=h3
    have e2:H'.o id=o' id:=rfl
    rw[e1]at bc
    rw[e2,JD id cG]
    cases Cr:o' id with
    |no=>trivial
    |row cs=>
     simp only[Cr]at bc hrefs|-
     exact RV
    |arr ep ty sz es=>
     simp only[Cr]at bc|-
     obtain⟨k1,xs,k2,evs,k3,k4,k5⟩:=bc
     exact aaN
    |rV ep es=>
     simp only[Cr]at bc|-
     exact OQ
    |map kt vt es=>
     simp only[Cr]at bc|-
     obtain⟨b,es',clock,k1,k2,k4,k3⟩:=bc
     exact aaK
    |hZ l=>
     simp only[Cr]at bc|-
     exact OQ
    |pb l last=>
     simp only[Cr]at bc|-
     obtain⟨b,k1,k2⟩:=bc
     exact RL
    |zQ s pos=>
     simp only[Cr]at bc|-
     exact bc
    |loop nf n env ps a b st pd=>
     simp only[Cr]at bc hrefs|-
     exact Sc
   ·have e1:H.o id= .row cs:=h3
    have e2:H'.o id= .row cs':=h4
    rw[e1]at bc
    rw[e2,JD id cG]
    obtain⟨b,dT,ty,k1,k2,k3,k4⟩:=bc
    exact⟨b,dT,ty,k1,k2,qY T2 _ _ _ bG k3,k4⟩
  ·by_cases BC:c+G.length<=id
   ·have e2:H'.o id= .no:=hh id BC
    rw[e2];trivial
   ·obtain⟨i,rfl⟩:∃i,id=c+i:=⟨id - c,ag⟩
    obtain⟨g,hg⟩:∃g,G[i]? =some g:=⟨G[i]'ag,aI⟩
    obtain⟨EK,aW⟩:=hG i g hg
    have e2:H'.o (c+i)= .arr 0 g.ty g.sz g.es:=EK
    rw[e2]
    rcases aW with⟨h3,h4,dO⟩|⟨j,ep,hj,h3,pX⟩
    ·rw[h4]
     refine⟨dO,[], ?_,[],aI,aI,rfl⟩
     rw[MX i g hg,h3]
     exact World.ownsRow_nil _ _ _ _
    ·have this:aP M φ H w j:=hH.ok j
     unfold aP at this
     have e3:H.o j= .arr ep g.ty g.sz g.es:=pX
     simp only[e3]at this
     obtain⟨k1,xs,k2,evs,k3,k4,k5⟩:=this
     exact⟨k1,xs,by rw[MX i g hg,h3];exact k2,evs,k3,k4,D.aQ (fun b _ hn=>⟨rfl,hB b hn⟩) _ _ k5⟩
 ·obtain⟨i',a1,a2,a3⟩:=hold i k h1 h3
  obtain⟨j',b1,b2,b3⟩:=hold j k h2 h4
  have:=hH.apart i' j' k a1 b1 a2 b2
  subst this
  have ik:∀EC,(o' EC).live=true->EC<c->gone EC->False:=fun EC g1 g2 g3=>by
   rw[zb _ g3 g2]at g1
   cases g1
  rcases a3 with⟨a3,a4⟩|⟨ia,ga,ea,a3,a4,a5,a6⟩<;>rcases b3 with⟨b3,b4⟩|⟨ib,gb,eb,b3,b4,b5,b6⟩
  ·omega
  ·exact(ik i h1 a3 (a4 ▸ b5)).elim
  ·exact(ik j h2 b3 (b4 ▸ a5)).elim
  ·have:=Vt ia ib ga gb _ _ _ a4 b4 a6 b6
   omega
 ·have hi:=HC l 0 he i
  rw[Nat.zero_add]at hi
  exact T2 _ _ _ hi (hd i)
 ·have cG:id<c:=ag
  have hr:(o' id).cj=true:=hr
  exact⟨(jb id cG).1.1 hr,JD id cG⟩
 ·have cG:id<c:=ag
  have pW:(o' id).b9=some e':=pW
  exact⟨e',(jb id cG).1.2 e' pW,Nat.le_refl _,fun _=>JD id cG⟩
theorem bt.aec (gone:Nat->Prop)(c:Nat){b:Nat}{e:Nat->V}{so:Nat->ab}{m:Nat}(l:List V){o':Nat->ab}(hb:b<=c)
 (ho:∀id,id<c->uj c [] so gone (so id) (o' id)) (hh:∀id,c<=id->o' id= .no) (zb:∀id,gone id->id<c->o' id= .no) (he:kx c [] so gone e l 0):bt b ⟨e,so,m⟩ ⟨aU l,o',c⟩:=
 bt.see gone [] c l rfl hb ho (fun i g h=>by cases h) hh zb (fun i j gi gj id ep fF h=>by cases h) he
theorem bt.xK (gone:Nat->Prop)(x:V)(c:Nat){ty:TypeId}{sz:Nat}{es:List D}{b:Nat}{e:Nat->V}{so:Nat->ab}{m:Nat}(l:List V){o':Nat->ab}(hb:b<=c)
 (ho:∀id,id<c->uj c [⟨x,ty,sz,es⟩] so gone (so id) (o' id)) (hc:o' c= .arr 0 ty sz es) (hx:pE so gone ty sz es x) (hh:∀id,c+1<=id->o' id= .no) (zb:∀id,gone id->id<c->o' id= .no)
 (he:kx c [⟨x,ty,sz,es⟩] so gone e l 0):bt b ⟨e,so,m⟩ ⟨aU l,o',c+1⟩:=
 bt.see gone [⟨x,ty,sz,es⟩] c l rfl hb ho (fun i g h=>by
  match i,h with
  |0,h=>simp at h;subst h;exact⟨hc,hx⟩) hh zb (fun i j gi gj id ep fF h h' _ _=>by
  match i,j,h,h' with
  |0,0,_,_=>rfl) he
theorem lt1{P:Nat->Prop}(h:P 0):∀id,id<1->P id:=fun id aq=>by
 have e:id=0:=ag
 rw[e];exact h
theorem lt0{P:Nat->Prop}:∀id,id<0->P id:=fun id aq=>ag
@[go_sem] theorem agI (b:Bool):(b==false)= !b:=BS
@[go_sem] theorem agJ (b:Bool):(b==true)=b:=BS
@[go_sem] theorem aed (c:Bool) (v:V):V.AB c (V.AB c v)=V.AB c v:=by cases c<;>rfl
@[go_sem] theorem aee (c:Bool):(c&&c)=c:=by cases c<;>rfl
@[go_sem] theorem ZM {α:Type} (f:α->D) (l:List α) (n:Nat) (h:∀x,(f x).cells.length=n):((l.map f).all fun z=>z.cells.length==n)=true:=by
  simp[List.all_eq_true,h]
attribute [go_sem] implies_true
attribute [go_sem] Option.isSome_none Option.getD_some Option.getD_none
theorem structOf{P:Program}{t:TypeId}(h:(match P.underlying t with|some (.struct _)=>true|_=>false)=true):∃fs,P.underlying t=some (.struct fs):=by
 split at h
 ·exact⟨_,by assumption⟩
 ·cases h
theorem aR{pr:List (List Nat)}{fp:List (List Nat×List Nat)}(h:fp.all (fun x=>x.2.isEmpty)=true):ez pr fp=true:=by
 have e:∀i,(fp.getD i ([],[])).2=[]:=fun i=>by
  rw[List.getD_eq_getElem?_getD]
  cases hi:fp[i]? with
  |none=>rfl
  |some x=>simpa using List.all_eq_true.1 h x (List.mem_of_getElem? hi)
 simp only[ez,List.all_eq_true,e,kX,List.all_nil,Bool.and_self,Bool.or_true,implies_true]
structure cR (base:Nat) (h o:Nat->ab) (nx:Nat):Prop where
 bn:Good o nx
 le:base<=nx
 eq:∀id,id<base->o id=h id
def StK(base:Nat)(h:Nat->ab)(v:V)(o:Nat->ab)(nx:Nat)(K:V->(Nat->ab)->Nat->Prop):Prop:=
 ∀o' nx',nx<=nx'->cR base h o' nx'->(∀id,base<=id->id<nx->o' id=o id)->K v o' nx'
def jg(P:Program)(g:FuncId)(args:List V)(base:Nat)(h h2:Nat->ab)(v:V):Prop:=
 ∀o nx,cR base h o nx->∀K X,StK base h2 v o nx K->cH P g args o nx K X
theorem cR.ax {base:Nat}{h o:Nat->ab}{nx m i:Nat}{x:ab}(hI:cR base h o nx)(hb:base<=i)(hi:i<m)(hm:nx<=m)(hx:x.refs.all (fun r=>decide (r<m))=true):cR base h (YtnkamdiiakdkgaaGreat.ax o i x) m:=
 ⟨(hI.bn.mono hm).ax hi hx,Nat.le_trans hI.le hm,fun id aq=>by rw[ae _ _ _ _ (by omega)];exact hI.eq id aq⟩
theorem cR.mono {base:Nat}{h o:Nat->ab}{nx m:Nat}(hI:cR base h o nx)(hm:nx<=m):cR base h o m:=⟨hI.bn.mono hm,Nat.le_trans hI.le hm,hI.eq⟩
def ext(base:Nat)(h o:Nat->ab):Nat->ab:=fun id=>if id<base then h id else o id
theorem cR.ext {base c:Nat}{h o:Nat->ab}{nx:Nat}(hI:cR base h o nx)(hc:c<=nx)(hb:base<=c):cR c (YtnkamdiiakdkgaaGreat.ext base h o) o nx:=
 ⟨hI.bn,hc,fun id _=>by unfold YtnkamdiiakdkgaaGreat.ext;split<;>first|exact hI.eq id p8|rfl⟩
theorem jg.ext {P:Program}{g:FuncId}{args:List V}{base c:Nat}{h h2:Nat->ab}{v:V}(hS:jg P g args base h h2 v)(hb:base<=c)(o0:Nat->ab):jg P g args c (YtnkamdiiakdkgaaGreat.ext base h o0) (YtnkamdiiakdkgaaGreat.ext base h2 o0) v:=by
 intro o nx hI K X hK
 refine hS o nx ⟨hI.bn,Nat.le_trans hb hI.le,fun id aq=>by rw[hI.eq id (by omega)];unfold YtnkamdiiakdkgaaGreat.ext;rw[if_pos aq]⟩ K X fun o' nx' h1 h2 h3=>hK o' nx' h1 ⟨h2.bn,Nat.le_trans hI.le h1,fun id aq=> ?_⟩ (fun id h4 h5=>h3 id ag h5)
 unfold YtnkamdiiakdkgaaGreat.ext
 split
 ·exact h2.eq id p8
 ·rename_i hn
  rw[h3 id (by omega) (by have:=hI.le;omega),hI.eq id aq]
  unfold YtnkamdiiakdkgaaGreat.ext;rw[if_neg hn]
theorem StK.ext {base c:Nat}{h o:Nat->ab}{v:V}{o1:Nat->ab}{nx BE:Nat}{K:V->(Nat->ab)->Nat->Prop}(hK:StK base h v o nx K)(hb:base<=c)(hn:nx<=BE)(hc:nx<=c)(ho:∀id,base<=id->id<nx->o1 id=o id):StK c (YtnkamdiiakdkgaaGreat.ext base h o1) v o1 BE K:=by
 intro o' nx' h1 h2 h3
 refine hK o' nx' ag ⟨h2.bn,Nat.le_trans hb h2.le,fun id aq=> ?_⟩ fun id h4 h5=> ?_
 ·rw[h2.eq id (by omega)];unfold YtnkamdiiakdkgaaGreat.ext;rw[if_pos aq]
 ·rw[h2.eq id (by omega), <- ho id h4 h5];unfold YtnkamdiiakdkgaaGreat.ext;rw[if_neg (by omega)]
def aw{α σ:Type}(step:σ->α->σ×Bool)(s:σ):List α->σ×Bool
 |[]=>(s,true)
 |x::l=>if(step s x).2=true then aw step (step s x).1 l else((step s x).1,false)
theorem nO{P:Program}{id:Nat}{args:List V}{e:Nat->V}{o:Nat->ab}{nx:Nat}{K X:V->(Nat->ab)->Nat->Prop}(h:dI P id args o nx K X):yN P id K X ⟨e,o,nx⟩ args:=by unfold yN;exact h
theorem df{α:Type}(f:Nat->α)(i:Nat)(x y:α):ax (ax f i x) i y=ax f i y:=by
 funext j;simp only[ax];split<;>rfl
attribute [go_sem] Int.cast_ofNat_Int
section
variable {P:Program}{n:Nat}{ps:List Nat}{x y:IC}{env:List V}{L:LoopState->Option kj->ab}
def iz(P:Program)(n:Nat)(env:List V)(ps:List Nat)(x y:IC)(L:LoopState->Option kj->ab):Prop:=∀st pd,L st pd= .loop P.funcs.size n env ps x y st pd
theorem FN{bq:Nat}{gq:Operand}{Q:fG->S->Prop}{e:Nat->V}{o:Nat->ab}{nx:Nat}{f:FuncId}{cap:List V}(env:List V)(he:mN e env 0)
 (h:∀L,iz P n env ps x y L->cH P f (.ju nx::cap) (ax o nx (L .ready none)) (nx+1)
  (fun _ o' nx'=>∃st pd,o' nx=L st pd/\st≠ .busy/\px Q pd ⟨e,ax o' nx (L .exhausted pd),nx'⟩) (fun v o' nx'=>Q (.bE v) ⟨e,o',nx'⟩)):
 AE P n bq false gq ps x y Q ⟨e,o,nx⟩ (.func (.func f) [] cap):=by
 refine JC env he ?_
 have:=h (fun st pd=> .loop P.funcs.size n env ps x y st pd) (fun _ _=>rfl)
 refine this.mono (fun v o' nx' hh=> ?_) (fun v o' nx' hh=>hh)
 obtain⟨st,pd,h1,h2,h3⟩:=hh
 exact⟨_,_,_,_,_,_,_,_,h1,h2,h3⟩
theorem we(hL:iz P n env ps x y L)(bd:P.follows .mixedOrders=true){id:Nat}{args:List V}{o:Nat->ab}{nx:Nat}{K X:V->(Nat->ab)->Nat->Prop}{st:LoopState}{pd:Option kj}
 (ho:o id=L st pd) (cG:id<nx) (xI:ps.all (fun t=>decide (t<n))=true) (hl:args.length=ps.length)
 (h:kN P n nx true x (pF P n nx id y K X) ⟨nC (aU env) ps args,o,nx⟩):dI P id args o nx K X:=
 dI.aJ bd (ho.trans (hL st pd)) cG xI hl h
theorem lN(hL:iz P n env ps x y L){b id:Nat}{eI:IC}{K X:V->(Nat->ab)->Nat->Prop}{e:Nat->V}{o:Nat->ab}{nx:Nat}{pd:Option kj}(h:o id=L .ready pd)
 (h2:kN P n b true eI (jZ id K X) ⟨e,ax o id (L .busy pd),nx⟩):pF P n b id eI K X .normal ⟨e,o,nx⟩:=by
 refine AX (h.trans (hL _ _)) ?_
 rw[<- hL];exact h2
theorem IF(hL:iz P n env ps x y L){id:Nat}{K X:V->(Nat->ab)->Nat->Prop}{e:Nat->V}{o:Nat->ab}{nx:Nat}{st:LoopState}{pd:Option kj}(h:o id=L st pd)(k:K (.d (.bool true)) (ax o id (L .ready none)) nx):jZ id K X .normal ⟨e,o,nx⟩:=
 ⟨_,_,_,_,_,_,_,_,h.trans (hL _ _),by rw[<- hL];exact k⟩
theorem EN(hL:iz P n env ps x y L){id:Nat}{K X:V->(Nat->ab)->Nat->Prop}{e:Nat->V}{o:Nat->ab}{nx:Nat}{st:LoopState}{pd:Option kj}(h:o id=L st pd)(k:K (.d (.bool false)) (ax o id (L .done (some .ret))) nx):jZ id K X .ret ⟨e,o,nx⟩:=
 ⟨_,_,_,_,_,_,_,_,h.trans (hL _ _),by rw[<- hL];exact k⟩
theorem BL(hL:iz P n env ps x y L){id j:Nat}{K X:V->(Nat->ab)->Nat->Prop}{e:Nat->V}{o:Nat->ab}{nx:Nat}{st:LoopState}{pd:Option kj}(h:o id=L st pd)(k:K (.d (.bool false)) (ax o id (L .done (some (.exit j)))) nx):jZ id K X (.exit j) ⟨e,o,nx⟩:=
 ⟨_,_,_,_,_,_,_,_,h.trans (hL _ _),by rw[<- hL];exact k⟩
theorem iz.no (hL:iz P n env ps x y L)(st:LoopState)(pd:Option kj):L st pd≠ .no:=by rw[hL];exact ab.noConfusion
theorem iz.refs (hL:iz P n env ps x y L)(st:LoopState)(pd:Option kj):(L st pd).refs=V.aE env:=by rw[hL];rfl
end
end
attribute [go_sem_proc] Int.reduceBEq Int.reduceBNe Int.reduceLT Int.reduceLE Int.reduceEq Int.reduceNe Nat.reducePow Nat.reduceEqDiff Nat.reduceAdd Nat.reduceSub Nat.reduceMul Nat.reduceLeDiff Nat.reduceBEq Nat.reduceLT reduceIte reduceCtorEq Int.reduceToNat
attribute [go_sem] List.range_zero Option.isSome_some and_self List.cons.injEq
theorem BR(n low high:Int):aV Tryz.prog 108 [.i n, .i low, .i high] (.ret [.bool (dR n low high)]):=by
 refine aV.aJ mix ac6 aI ?_
 rw[ac5]
 refine cT ?_
 rfl
theorem MY{t:Tm}{left depth:Int}(h:left<1\/depth<1):iN t left depth= -1:=by cases t;simp[iN,h]
theorem pG{l:List Tm}{left depth:Int}(h:left<0):cu l left depth=left:=by
 cases l with
 |nil=>rfl
 |cons k l=>simp[cu,show ¬ (0<=left) by omega]
theorem MZ:∀t:Tm,∀left depth:Int, -1<=iN t left depth/\(1<=left->iN t left depth<=left - 1)/\(left<1->iN t left depth= -1):=by
 refine Tm.ind fun op n kids ih left depth=> ?_
 have hs:∀ (l:List Tm) (left d:Int),(∀k∈l,k∈kids)-> -1<=left-> -1<=cu l left d/\cu l left d<=left:=by
  intro l
  induction l with
  |nil=>intro left d _ h;simp[cu,h]
  |cons k l wg=>
   intro left d hk h
   simp only[cu]
   split
   ·rename_i h0
    have h1:=ih k (hk k aI) left d
    have h2:=wg (iN k left d) d (fun x hx=>hk x o8) h1.1
    by_cases hl:1<=left
    ·have:=h1.2.1 hl;omega
    ·have:=h1.2.2 ag;omega
   ·omega
 simp only[iN]
 split
 ·rename_i h;refine⟨ag,fun h1=> ?_,fun _=>rfl⟩;omega
 ·rename_i h
  have:=hs kids (left - 1) (depth - 1) (fun _ h=>h) ag
  exact⟨this.1,fun _=>this.2,fun h=>ag⟩
theorem JE(l:List Tm)(left d:Int)(h: -1<=left): -1<=cu l left d/\cu l left d<=left:=by
 induction l generalizing left with
 |nil=>simp[cu,h]
 |cons k l wg=>
  simp only[cu]
  split
  ·have h1:=MZ k left d
   have h2:=wg (iN k left d) h1.1
   by_cases hl:1<=left
   ·have:=h1.2.1 hl;omega
   ·have:=h1.2.2 ag;omega
  ·omega
theorem o6(a b:List Tm)(left d:Int):cu (a++b) left d=cu b (cu a left d) d:=by
 induction a generalizing left with
 |nil=>rfl
 |cons k a ih=>
  simp only[List.cons_append,cu]
  split
  ·exact ih _
  ·rename_i h;rw[pG (by omega)]
theorem Dq{l:List Tm}{i:Nat}{k:Tm}(hi:l[i]? =some k)(left d:Int)(h:0<=cu (l.take i) left d):cu (l.take (i+1)) left d=iN k (cu (l.take i) left d) d:=by
 rw[List.take_add_one,hi,o6]
 simp[cu,h]
theorem Dr{l:List Tm}{i:Nat}(left d:Int)(h:cu (l.take i) left d<0):cu l left d=cu (l.take i) left d:=by
 conv=>lhs;rw[<- List.take_append_drop i l]
 rw[o6,pG h]
@[reducible] def jh (cs:List V):Nat->ab:=ax (fun _=> .no) 0 (.row cs)
@[reducible] def FO (cs ds:List V):Nat->ab:=ax (ax (fun _=> .no) 0 (.row cs)) 1 (.row ds)
theorem aX{cs:List V}(h:(ab.row cs).refs.all (fun r=>decide (r<1))=true):Good (jh cs) 1:=(Good.nil (nx:=1)).ax ag h
theorem kS{cs ds:List V}(h:(ab.row cs).refs.all (fun r=>decide (r<2))=true)(h2:(ab.row ds).refs.all (fun r=>decide (r<2))=true):Good (FO cs ds) 2:=((Good.nil (nx:=2)).ax ag h).ax ag h2
theorem bt.d1 {e:Nat->V}{so o:Nat->ab}{m:Nat}(l:List V)(hg:Good o 1)(hm:1<=m)(h0:so 0=o 0)(he:lK 1 e l 0):bt 0 ⟨e,so,m⟩ ⟨aU l,o,1⟩:=
 bt.aT l (Nat.zero_le _) hm hg (fun id h=>by obtain rfl:id=0:=ag
                                             exact h0) he
theorem bt.d2 {e:Nat->V}{so o:Nat->ab}{m:Nat}(l:List V)(hg:Good o 2)(hm:2<=m)(h0:so 0=o 0)(h1:so 1=o 1)(he:lK 2 e l 0):bt 0 ⟨e,so,m⟩ ⟨aU l,o,2⟩:=
 bt.aT l (Nat.zero_le _) hm hg (fun id h=>by
  rcases(by omega:id=0\/id=1)with rfl|rfl
  ·exact h0
  ·exact h1) he
@[reducible] def Tm.row (t:Tm):List V:=[.d (.i t.op), .d (.i t.n), .d (.sl (t.kids.map Tm.d))]
theorem Ds(t:Tm)(left depth:Int):iN t left depth=if left<1\/depth<1 then -1 else cu t.kids (left - 1) (depth - 1):=by cases t;simp[iN,Tm.kids]
theorem HD:∀t:Tm,t.fits->∀left depth:Int, -1<=left/\left<=1000000-> -1<=depth/\depth<=1000000->aV Tryz.prog 86 [t.d, .i left, .i depth] (.ret [.i (iN t left depth)]):=by
 refine Tm.fy fun t ih hf left depth hl hd=> ?_
 have oU:=(Tm.bZ _).1 hf
 refine aV.aJ mix af2 aI ?_
 rw[c86]
 refine cT ?_
 refine aj (fun h1=> ?_) (fun h1=> ?_)
 ·refine cT ?_
  simp at h1
  rw[MY h1]
 ·simp at h1
  refine cT ?_
  rw[wrap64 (n:=left - 1) (by omega) (by omega),Ds,if_neg (by omega)]
  refine az (fun k:Nat=>⟨aU [.aa, .d (.i (cu (t.kids.take k) (left - 1) (depth - 1))), .d (.i depth), .ptr 0 0, .aa, .aa, .aa, .d (.i k)],jh t.row,1⟩)
   (fun k=>k<=t.kids.length) (fun k=>t.kids.length - k) 0 (Nat.zero_le _) (bt.d1 _ (aX rfl) ag rfl ?_) (fun k hk=> ?_)
  ·exact cz
  have hb:=JE (t.kids.take k) (left - 1) (depth - 1) ag
  refine cT ?_
  refine aj (fun h2=> ?_) (fun h2=> ?_)
  ·simp at h2
   obtain⟨x,hx⟩:∃x,t.kids[k]? =some x:=⟨t.kids[k],by simp[h2.1]⟩
   have gf:=List.mem_of_getElem? hx
   refine ko hx ?_
   rw[wrap64 (n:=depth - 1) (by omega) (by omega)]
   refine aD (ih x gf (oU.2 x gf) _ _ ag ag) rfl ?_
   refine cT ?_
   rw[<- Dq hx _ _ h2.2]
   refine ak (k+1) h2.1 ag (bt.d1 _ (aX rfl) ag rfl ?_)
   exact cz
  ·refine cT ?_
   simp only[Bool.and_eq_false_iff,decide_eq_false_iff_not]at h2
   congr 3
   rcases h2 with h2|h2
   ·rw[List.take_of_length_le (by omega)]
   ·exact Dr _ _ ag
theorem XB(s:List UInt8)(hs:s.length<=9223372036854775807):aV Tryz.prog 151 [.str s] (.ret [.bool (jW s)]):=by
 refine aV.aJ mix adO aI ?_
 rw[adN]
 refine cT ?_
 refine az (fun k:Nat=>⟨aU [.d (.str s), .aa, .aa, .d (.i k)],fun _=> .no,0⟩)
  (fun k=>k<=s.length/\(s.take k).all letterF=true) (fun k=>s.length - k) 0 ⟨Nat.zero_le _,aI⟩ (bt.d0 _ ?_) (fun k hk=> ?_)
 ·exact cz
 refine cT ?_
 refine aj (fun h2=> ?_) (fun h2=> ?_)
 ·simp at h2
  obtain⟨x,hx⟩:∃x,s[k]? =some x:=⟨s[k],by simp[h2]⟩
  refine ko hx ?_
  refine aj (fun h3=> ?_) (fun h3=> ?_)
  ·refine cT ?_
   have:jW s=false:=by
    have:s.all letterF=false:=by
     rw[List.all_eq_false]
     refine⟨x,List.mem_of_getElem? hx, ?_⟩
     simp only[letterF,h3];simp
    simp[jW,this]
   rw[this]
  ·refine cT ?_
   refine ak (k+1) ⟨h2, ?_⟩ ag (bt.d0 _ ?_)
   ·rw[List.take_add_one,hx,List.all_append,hk.2]
    simp[letterF,h3]
   ·exact cz
 ·refine cT ?_
  refine aD (BR _ _ _) rfl ?_
  refine cT ?_
  simp at h2
  have:=hk.2
  rw[List.take_of_length_le (by omega)]at this
  simp[jW,this]
theorem HE(l:List jo)(bs:List (List UInt8))(hl:l.length<=1000)(hb:bs.length<=1000)(hs:∀x∈l,x.name.length<=9223372036854775807):
 aV Tryz.prog 109 [.sl (l.map jo.d), .sl (bs.map .str)] (.ret [.sl (((bY l bs).getD []).map .str), .bool (bY l bs).isSome]):=by
 refine aV.aJ mix ac8 aI ?_
 rw[ac7]
 refine cT ?_
 refine az (fun k:Nat=>⟨aU [.d (.sl (l.map jo.d)), .d (.sl ((bs++(l.take k).map (·.name)).map .str)), .aa, .aa, .aa, .aa, .d (.i k)],fun _=> .no,0⟩)
  (fun k=>k<=l.length/\bY l bs=bY (l.drop k) (bs++(l.take k).map (·.name))) (fun k=>l.length - k) 0 ⟨Nat.zero_le _,aI⟩ (bt.d0 _ ?_) (fun k hk=> ?_)
 ·simp only[List.take_zero,List.map_nil,List.append_nil]
  exact cz
 refine cT ?_
 refine aj (fun h2=> ?_) (fun h2=> ?_)
 ·simp at h2
  obtain⟨x,hx⟩:∃x,l[k]? =some x:=⟨l[k],by simp[h2]⟩
  have gf:=List.mem_of_getElem? hx
  have CP:l.drop k=x::l.drop (k+1):=by
   rw[List.drop_eq_getElem_cons h2]
   rw[List.getElem?_eq_getElem h2]at hx;injection hx with hx;rw[hx]
  generalize hB:bs++(l.take k).map (·.name)=B at*
  have hBl:B.length<=2000:=by rw[<- hB];simp;omega
  refine cT ?_
  refine az (fun j:Nat=>⟨aU [.d (.sl (l.map jo.d)), .d (.sl (B.map .str)), .aa, .aa, .aa, .aa, .d (.i k), .d (.i j)],fun _=> .no,0⟩)
   (fun j=>j<=B.length/\(B.take j).any (· ==x.name)=false) (fun j=>B.length - j) 0 ⟨Nat.zero_le _,aI⟩ (bt.d0 _ ?_) (fun j hj=> ?_)
  ·exact cz
  refine cT ?_
  refine aj (fun h3=> ?_) (fun h3=> ?_)
  ·simp at h3
   obtain⟨y,hy⟩:∃y,B[j]? =some y:=⟨B[j],by simp[h3]⟩
   simp+contextual only[go_sem,hx,hy]
   refine aH bI ?_
   refine cT ?_
   refine aj (fun h4=> ?_) (fun h4=> ?_)
   ·refine cT ?_
    have:bY l bs=none:=by
     rw[hk.2,CP,bY,if_pos]
     rw[List.any_eq_true]
     exact⟨y,List.mem_of_getElem? hy,h4⟩
    rw[this];rfl
   ·refine cT ?_
    refine ak (j+1) ⟨h3, ?_⟩ ag (bt.d0 _ ?_)
    ·rw[List.take_add_one,hy,List.any_append,hj.2]
     simp only[Option.toList_some,List.any_cons,h4,List.any_nil,Bool.or_false]
    ·exact cz
  ·simp at h3
   have XC:=hj.2
   rw[List.take_of_length_le (by omega)]at XC
   refine ko hx ?_
   refine aD (XB x.name (hs x gf)) rfl ?_
   refine ko hx ?_
   refine fV (eR [.bool (dR x.args 0 4)] ?_ ?_)
   ·refine cT ?_
    exact Gw
   refine cT ?_
   refine aj (fun h4=> ?_) (fun h4=> ?_)
   ·refine cT ?_
    have:bY l bs=none:=by
     rw[hk.2,CP,bY,if_neg (by rw[XC];exact Bool.false_ne_true),if_pos h4]
    rw[this];rfl
   ·have e1:B.length<=140737488355328:=ag
    have e2:B.length*16<=140737488355328:=ag
    have e3:B.length<=140737488355327:=ag
    have e4:(B.length+1)*16<=140737488355328:=ag
    simp+contextual only[go_sem,hx,e1,e2,e3,e4]
    refine aH bI ?_
    refine cT ?_
    have hn:bY l bs=bY (l.drop (k+1)) (bs++(l.take (k+1)).map (·.name)):=by
     rw[hk.2,CP,bY,if_neg (by rw[XC];exact Bool.false_ne_true),if_neg (by rw[h4];exact Bool.false_ne_true), <- hB,List.take_add_one,hx]
     simp
    refine ak (k+1) ⟨h2,hn⟩ ag (bt.aec (fun _=>True) 0 _ (Nat.le_refl _) lt0 (fun _ _=>rfl) (fun _ _ _=>rfl) ?_)
    have hB2:(bs++(l.take (k+1)).map (·.name)).map D.str=B.map D.str++[D.str x.name]:=by
     rw[<- hB,List.take_add_one,hx];simp
    rw[hB2]
    exact tU
 ·refine cT ?_
  simp at h2
  have:bY l bs=some (bs++l.map (·.name)):=by
   rw[hk.2,List.drop_eq_nil_of_le (by omega),bY,List.take_of_length_le (by omega)]
  rw[this,List.take_of_length_le (by omega)]
  rfl
theorem XE(a b:List UInt8)(m n:Int):mH Tryz.prog 100 102 (.agg [.str a, .i m]) (.agg [.str b, .i n])=some (a==b&&m==n):=by
 have h1:bp Tryz.prog 102=some (.struct [(9,0),(3,1)]):=ai
 have h2:bp Tryz.prog 9=some .str:=ai
 have h3:bp Tryz.prog 3=some .int:=ai
 have h4:ct Tryz.prog 9=some false:=ai
 have h5:ct Tryz.prog 3=some false:=ai
 simp[mH,h1,h2,h3,h4,h5,yd,Ov,cw,B0]
@[go_sem] theorem af9 (o:Nat->ab) (oF:Bool) (a b:List UInt8) (m n:Int):uA Tryz.prog o 102 oF (.d (.agg [.str a, .i m])) (.d (.agg [.str b, .i n]))=some (.d (.bool (a==b&&m==n))):=by
  obtain⟨fs,h⟩:∃fs,Tryz.prog.underlying 102=some (.struct fs):=structOf ai
  have h2:Tryz.prog.eqGuardType Tryz.prog.depth 102=false:=ai
  unfold uA
  rw[h]
  dsimp only
  rw[if_pos h2,XE]
  rfl
theorem JF{l:List jo}{bs B:List (List UInt8)}(h:bY l bs=some B):B=bs++l.map (·.name):=by
 induction l generalizing bs with
 |nil=>simp[bY]at h;simp[h]
 |cons x l ih=>
  simp only[bY]at h
  split at h
  ·cases h
  ·split at h
   ·cases h
   ·rw[ih h];simp
structure bH.Fits (s:bH):Prop where
 lc:s.cons.length<=9223372036854775807
 lf:s.bK.length<=9223372036854775807
 nc:∀x∈s.cons,x.name.length<=9223372036854775807
 nf:∀x∈s.bK,x.name.length<=9223372036854775807
theorem aef(s:bH)(hs:s.Fits):aV Tryz.prog 77 [s.d] (.ret [.bool (jw s)]):=by
 refine aV.aJ mix af0 aI ?_
 rw[c77]
 refine cT ?_
 refine aD (BR _ _ _) rfl ?_
 refine cT ?_
 cases h1:(!dR s.cons.length 2 12||decide (8<(s.bK.length:Int)))with
 |true=>
  refine ko h1 ?_
  simp only[jw,h1,if_true]
 |false=>
  simp[dR]at h1
  obtain⟨a,b,r,hc⟩:∃a b r,s.cons=a::b::r:=by
   match h:s.cons with
   |[]=>exact Gy
   |[a]=>exact Gy
   |a::b::r=>exact⟨a,b,r,rfl⟩
  have ma:(!dR s.cons.length 2 12||decide (8<(s.bK.length:Int)))=false:=by simp[dR];omega
  simp+contextual only[go_sem,ma,hc]
  have JG:jw s=if(!mV a fB|| !mV b tB)=true then false else match bY s.cons []with
   |none=>false
   |some l=>(bY s.bK l).isSome:=by
   unfold jw
   rw[if_neg (by rw[ma];exact Bool.false_ne_true),hc]
   dsimp only
   rfl
  refine aj (fun h2=> ?_) (fun h2=> ?_)
  ·refine cT ?_
   have mJ:(!mV a fB|| !mV b tB)=true:=h2
   rw[JG,if_pos mJ]
  ·refine ko hc ?_
   have hl:(a::b::r).length<=1000:=by rw[<- hc];omega
   have hnm:=HE (a::b::r) [] hl aI (by rw[<- hc];exact hs.nc)
   simp only[List.map_cons,List.map_nil]at hnm
   refine a7 hnm ?_
   have mJ:(!mV a fB|| !mV b tB)=false:=h2
   rw[JG,if_neg (by rw[mJ];exact Bool.false_ne_true),hc]
   cases hn:bY (a::b::r) []with
   |none=>simp+contextual only[go_sem,hn]
   |some B=>
    refine ko hn ?_
    have hB:B.length<=1000:=by
     have:=JF hn
     rw[this];simp at hl|-;omega
    have aga:=HE s.bK B ag hB hs.nf
    refine a7 aga ?_
    simp+contextual only[go_sem]
end Go.Proofs.YtnkamdiiakdkgaaGreat
