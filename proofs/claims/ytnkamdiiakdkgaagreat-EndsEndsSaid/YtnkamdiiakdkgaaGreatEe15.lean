/-
  A PART. Conditions: none.
-/
import Derived.Test.YtnkamdiiakdkgaaGreatEe14
set_option linter.unusedSimpArgs false
set_option linter.unusedVariables false
set_option maxHeartbeats 8000000
namespace Go.Proofs.YtnkamdiiakdkgaaGreat
theorem mix:Tryz.prog.follows .mixedOrders=true:=aK
def zn:Tr FD:= .e fun _=> .no
theorem zt{f:Nat->Nat}:Tr.JF (fun(g:Nat) (d:FD)=>d.Ok Tryz.prog g) zn f:=fun _=>trivial
def agk:Tr FD:=
 (.n .no (.n .no (.n .no (.n .no (.n (.fn 45 c15 [.tmp 4]) (.n .no (.n .no (.n (.fn 15 ZV [.tmp 6]) zn zn) zn) (.n (.fn 5 c95 [.cell 2 55]) (.n (.fn 13 aab [.tmp 4]) zn zn) zn)) (.n (.fn 12 c47 [.tmp 3]) (.n .no (.n (.fn 133 afK [.tmp 6]) zn zn) zn) (.n .no (.n (.fn 17 aal [.tmp 6]) zn zn) zn))) (.n .no (.n (.fn 16 c39 [.cell 0 27]) (.n (.fn 19 c71 [.tmp 2]) (.n (.fn 27 Z3 [.tmp 2]) zn zn) zn) (.n (.fn 134 ae7 []) (.n (.fn 15 agb [.tmp 6]) zn zn) zn)) (.n (.fn 41 c55 [.tmp 4, .tmp 5, .tmp 6]) zn (.n .no (.n (.fn 14 aas [.tmp 4]) zn zn) zn)))) (.n (.fn 15 c11 [.tmp 2, .tmp 3]) (.n (.fn 10 c19 [.tmp 2, .tmp 3, .tmp 4]) (.n (.fn 8 c35 [.cell 0 27]) (.n (.fn 30 c67 [.tmp 2]) (.n (.fn 17 ZZ [.tmp 3]) zn zn) zn) (.n (.fn 8 c99 [.tmp 3]) (.n (.fn 9 aaf [.tmp 4]) zn zn) zn)) (.n .no (.n .no (.n (.fn 19 afS [.tmp 2]) zn zn) zn) (.n .no (.n (.fn 19 aap [.tmp 4]) zn zn) zn))) (.n .no (.n .no (.n (.fn 12 c75 [.tmp 4]) (.n (.fn 56 afC []) zn zn) zn) (.n (.fn 8 ZR [.tmp 3]) (.n (.fn 18 aah [.tmp 4]) zn zn) zn)) (.n .no zn (.n .no (.n (.fn 14 aaw [.tmp 4]) zn zn) zn))))) (.n .no (.n .no (.n .no (.n (.fn 26 c33 [.tmp 4]) (.n .no (.n (.fn 9 ZX [.tmp 4]) zn zn) zn) (.n (.fn 46 c97 [.tmp 2]) (.n (.fn 8 aad [.tmp 3]) zn zn) zn)) (.n (.fn 50 c49 [.cell 4 90]) (.n (.fn 9 c81 [.tmp 4]) (.n (.fn 84 afO [.tmp 8]) zn zn) zn) (.n .no (.n (.fn 8 aan []) zn zn) zn))) (.n .no (.n (.fn 35 c41 [.cell 2 81]) (.n (.fn 11 c73 []) (.n (.fn 52 Z5 [.tmp 6]) zn zn) zn) (.n (.fn 24 ZP [.tmp 4]) (.n (.fn 6 agf [.tmp 2]) zn zn) zn)) (.n (.fn 5 c57 [.tmp 2]) zn (.n .no (.n (.fn 27 aau [.tmp 4]) zn zn) zn)))) (.n .no (.n .no (.n (.fn 4 c37 [.cell 0 55]) (.n .no (.n (.fn 9 Z1 [.tmp 4]) zn zn) zn) (.n (.fn 9 ZN []) (.n (.fn 7 af7 [.tmp 2]) zn zn) zn)) (.n .no (.n .no (.n (.fn 32 Z6 [.tmp 6]) zn zn) zn) (.n .no (.n (.fn 19 aaq [.cell 0 215]) zn zn) zn))) (.n .no (.n (.fn 26 c45 [.tmp 4]) (.n .no (.n (.fn 57 afG [.tmp 6, .tmp 7]) zn zn) zn) (.n .no (.n (.fn 39 aaj [.cell 4 4]) zn zn) zn)) (.n .no (.n .no (.n (.fn 36 Z9 [.tmp 2]) zn zn) zn) (.n (.fn 24 ZT [.tmp 3]) zn zn)))))) (.n .no (.n .no (.n .no (.n (.fn 84 c16 [.tmp 4, .tmp 5]) (.n (.fn 30 c32 [.tmp 4, .tmp 5]) (.n .no (.n (.fn 18 ZW [.tmp 4]) zn zn) zn) (.n (.fn 8 c96 [.cell 4 55]) (.n (.fn 4 aac [.tmp 2]) zn zn) zn)) (.n (.fn 65 c48 [.cell 2 90, .tmp 3]) (.n .no (.n (.fn 17 afM [.tmp 4]) zn zn) zn) (.n .no (.n (.fn 10 aam [.tmp 4]) zn zn) zn))) (.n .no (.n (.fn 6 c40 [.tmp 2]) (.n (.fn 4 c72 [.tmp 2]) (.n (.fn 18 Z4 [.tmp 2]) zn zn) zn) (.n (.fn 8 ae9 [.tmp 2]) (.n (.fn 36 agd [.tmp 10]) zn zn) zn)) (.n (.fn 3 c56 [.tmp 2]) zn (.n (.fn 125 Pl []) (.n (.fn 27 aat [.tmp 4]) zn zn) zn)))) (.n .no (.n (.fn 10 c20 [.tmp 2, .tmp 3, .tmp 4]) (.n (.fn 17 c36 [.cell 2 27]) (.n .no (.n (.fn 43 Z0 [.cell 4 4, .cell 5 31]) zn zn) zn) (.n (.fn 121 ZM [.tmp 4]) (.n (.fn 76 af5 []) zn zn) zn)) (.n .no (.n (.dfr 71 ZL c84 119 11 [.tmp 4, .tmp 5, .tmp 6] [.cell 4 4, .cell 5 37, .cell 6 31] 12 6 6 Pj) (.n (.fn 25 afU [.tmp 2]) zn zn) zn) (.n .no (.n (.fn 28 agi [.tmp 8, .tmp 9]) zn zn) zn))) (.n .no (.n .no (.n (.fn 8 c76 [.tmp 2]) (.n (.fn 65 afE []) zn zn) zn) (.n .no (.n (.fn 7 aai [.tmp 3]) zn zn) zn)) (.n .no (.n .no (.n (.fn 42 Z8 []) zn zn) zn) (.n .no (.n (.fn 14 aax [.tmp 4]) zn zn) zn))))) (.n .no (.n (.fn 178 c10 [.tmp 0]) (.n .no (.n .no (.n .no (.n (.fn 8 ZY [.tmp 3]) zn zn) zn) (.n (.fn 9 c98 [.tmp 4]) (.n (.fn 4 aae [.tmp 2]) zn zn) zn)) (.n (.fn 68 c50 [.tmp 2]) (.n (.fn 8 c82 [.tmp 3]) (.n (.fn 168 afQ [.tmp 8, .tmp 9]) zn zn) zn) (.n .no (.n (.fn 14 aao [.tmp 4]) zn zn) zn))) (.n .no (.n (.fn 101 c42 [.tmp 2]) (.n (.fn 61 c74 [.tmp 2]) (.n (.fn 49 afA []) zn zn) zn) (.n (.fn 9 ZQ [.tmp 4]) (.n (.fn 27 aag [.tmp 4]) zn zn) zn)) (.n .no zn (.n .no (.n (.fn 27 aav [.tmp 4]) zn zn) zn)))) (.n .no (.n .no (.n (.fn 5 c38 [.cell 2 55]) (.n (.fn 76 c70 [.cell 0 27]) (.n (.fn 10 Z2 [.tmp 4]) zn zn) zn) (.n (.fn 46 ZO [.tmp 4]) (.n (.fn 33 af9 [.tmp 2]) zn zn) zn)) (.n .no (.n .no (.n (.fn 19 Z7 [.tmp 4]) zn zn) zn) (.n (.fn 19 afu [.tmp 4]) (.n (.fn 14 aar [.tmp 4]) zn zn) zn))) (.n .no (.n (.fn 9 c46 [.tmp 4]) (.n .no (.n (.fn 32 afI []) zn zn) zn) (.n .no (.n (.fn 8 aak []) zn zn) zn)) (.n .no (.n (.fn 8 c94 [.cell 4 55]) (.n (.fn 19 aaa [.tmp 4]) zn zn) zn) (.n (.fn 28 ZU [.tmp 2]) zn zn)))))))
noncomputable def tab:Nat->FD:=agk.get
theorem iN:∀g,(tab g).Ok Tryz.prog g:=
 Tr.Cg (p:=fun g d=>d.Ok Tryz.prog g) (f:=fun g=>g) agk
   ⟨trivial,⟨trivial,⟨trivial,⟨trivial,⟨ah5,⟨trivial,⟨trivial,⟨Wu,zt,zt⟩,zt⟩,⟨aiN,⟨WL,zt,zt⟩,zt⟩⟩,⟨ain,⟨trivial,⟨afL,zt,zt⟩,zt⟩,⟨trivial,⟨WW,zt,zt⟩,zt⟩⟩⟩,⟨trivial,⟨aii,⟨ae1,⟨WC,zt,zt⟩,zt⟩,⟨ae8,⟨agc,zt,zt⟩,zt⟩⟩,⟨aeX,zt,⟨trivial,⟨W3,zt,zt⟩,zt⟩⟩⟩⟩,⟨aeN,⟨aeO,⟨aid,⟨ae0,⟨Wy,zt,zt⟩,zt⟩,⟨ae6,⟨WQ,zt,zt⟩,zt⟩⟩,⟨trivial,⟨trivial,⟨afT,zt,zt⟩,zt⟩,⟨trivial,⟨W0,zt,zt⟩,zt⟩⟩⟩,⟨trivial,⟨trivial,⟨ae3,⟨afD,zt,zt⟩,zt⟩,⟨Wp,⟨WS,zt,zt⟩,zt⟩⟩,⟨trivial,zt,⟨trivial,⟨W7,zt,zt⟩,zt⟩⟩⟩⟩⟩,⟨trivial,⟨trivial,⟨trivial,⟨aeR,⟨trivial,⟨Ww,zt,zt⟩,zt⟩,⟨ae4,⟨WN,zt,zt⟩,zt⟩⟩,⟨aeW,⟨aiF,⟨afP,zt,zt⟩,zt⟩,⟨trivial,⟨WY,zt,zt⟩,zt⟩⟩⟩,⟨trivial,⟨aeT,⟨aiz,⟨WE,zt,zt⟩,zt⟩,⟨Wn,⟨agh,zt,zt⟩,zt⟩⟩,⟨aeZ,zt,⟨trivial,⟨W5,zt,zt⟩,zt⟩⟩⟩⟩,⟨trivial,⟨trivial,⟨aif,⟨trivial,⟨WA,zt,zt⟩,zt⟩,⟨Wl,⟨af8,zt,zt⟩,zt⟩⟩,⟨trivial,⟨trivial,⟨WG,zt,zt⟩,zt⟩,⟨trivial,⟨W1,zt,zt⟩,zt⟩⟩⟩,⟨trivial,⟨ail,⟨trivial,⟨afH,zt,zt⟩,zt⟩,⟨trivial,⟨WU,zt,zt⟩,zt⟩⟩,⟨trivial,⟨trivial,⟨WJ,zt,zt⟩,zt⟩,⟨Ws,zt,zt⟩⟩⟩⟩⟩⟩,⟨trivial,⟨trivial,⟨trivial,⟨ah6,⟨aib,⟨trivial,⟨Wv,zt,zt⟩,zt⟩,⟨aiO,⟨WM,zt,zt⟩,zt⟩⟩,⟨aeV,⟨trivial,⟨afN,zt,zt⟩,zt⟩,⟨trivial,⟨WX,zt,zt⟩,zt⟩⟩⟩,⟨trivial,⟨aeS,⟨ae2,⟨WD,zt,zt⟩,zt⟩,⟨afa,⟨age,zt,zt⟩,zt⟩⟩,⟨aeY,zt,⟨Wq,⟨W4,zt,zt⟩,zt⟩⟩⟩⟩,⟨trivial,⟨aeP,⟨aie,⟨trivial,⟨Wz,zt,zt⟩,zt⟩,⟨Wj,⟨af6,zt,zt⟩,zt⟩⟩,⟨trivial,⟨⟨Wi,Pk⟩,⟨afV,zt,zt⟩,zt⟩,⟨trivial,⟨agj,zt,zt⟩,zt⟩⟩⟩,⟨trivial,⟨trivial,⟨ZK,⟨afF,zt,zt⟩,zt⟩,⟨trivial,⟨WT,zt,zt⟩,zt⟩⟩,⟨trivial,⟨trivial,⟨WI,zt,zt⟩,zt⟩,⟨trivial,⟨W8,zt,zt⟩,zt⟩⟩⟩⟩⟩,⟨trivial,⟨ah2,⟨trivial,⟨trivial,⟨trivial,⟨Wx,zt,zt⟩,zt⟩,⟨ae5,⟨WO,zt,zt⟩,zt⟩⟩,⟨aio,⟨aiG,⟨afR,zt,zt⟩,zt⟩,⟨trivial,⟨WZ,zt,zt⟩,zt⟩⟩⟩,⟨trivial,⟨aeU,⟨aiA,⟨afB,zt,zt⟩,zt⟩,⟨Wo,⟨WR,zt,zt⟩,zt⟩⟩,⟨trivial,zt,⟨trivial,⟨W6,zt,zt⟩,zt⟩⟩⟩⟩,⟨trivial,⟨trivial,⟨aih,⟨aiy,⟨WB,zt,zt⟩,zt⟩,⟨Wm,⟨aga,zt,zt⟩,zt⟩⟩,⟨trivial,⟨trivial,⟨WH,zt,zt⟩,zt⟩,⟨afv,⟨W2,zt,zt⟩,zt⟩⟩⟩,⟨trivial,⟨aim,⟨trivial,⟨afJ,zt,zt⟩,zt⟩,⟨trivial,⟨WV,zt,zt⟩,zt⟩⟩,⟨trivial,⟨aiM,⟨WK,zt,zt⟩,zt⟩,⟨Wt,zt,zt⟩⟩⟩⟩⟩⟩⟩
@[go_sem] theorem cellsOf_3:Tryz.prog.cellsOf 3=1:=aK
@[go_sem] theorem bytesOf_3:Tryz.prog.bytesOf 3=8:=aK
@[go_sem] theorem aggT_3:cL Tryz.prog 3=some false:=aK
@[go_sem] theorem intT_3:rl Tryz.prog 3=some .i64:=aK
@[go_sem] theorem infoT_3:(Tryz.prog.info? 3).isSome=true:=aK
@[go_sem] theorem undT_3:Tryz.prog.underlying 3=some (.int .i64):=aK
@[go_sem] theorem eqShape_3:bz Tryz.prog 3=some .int:=aK
@[go_sem] theorem zeroT_3:ct Tryz.prog 3=some [.d (.int .i64 0)]:=aK
@[go_sem] theorem zeroV_3:zeroV Tryz.prog 3=some (.d (.int .i64 0)):=aK
@[go_sem] theorem zeroD_3:zG Tryz.prog 3=some (.int .i64 0):=aK
@[go_sem] theorem cellsOf_4:Tryz.prog.cellsOf 4=1:=aK
@[go_sem] theorem aggT_4:cL Tryz.prog 4=some false:=aK
@[go_sem] theorem isBoolT_4:nm Tryz.prog 4=true:=aK
@[go_sem] theorem infoT_4:(Tryz.prog.info? 4).isSome=true:=aK
@[go_sem] theorem zeroT_4:ct Tryz.prog 4=some [.d (.bool false)]:=aK
@[go_sem] theorem zeroV_4:zeroV Tryz.prog 4=some (.d (.bool false)):=aK
@[go_sem] theorem cellsOf_9:Tryz.prog.cellsOf 9=1:=aK
@[go_sem] theorem bytesOf_9:Tryz.prog.bytesOf 9=16:=aK
@[go_sem] theorem aggT_9:cL Tryz.prog 9=some false:=aK
@[go_sem] theorem undT_9:Tryz.prog.underlying 9=some .string:=aK
@[go_sem] theorem eqShape_9:bz Tryz.prog 9=some .str:=aK
@[go_sem] theorem zeroT_9:ct Tryz.prog 9=some [.d (.str [])]:=aK
@[go_sem] theorem sliceT_22:bR Tryz.prog 22=some 102:=aK
@[go_sem] theorem aggT_22:cL Tryz.prog 22=some false:=aK
@[go_sem] theorem undT_22:Tryz.prog.underlying 22=some (.slice 102):=aK
@[go_sem] theorem cellsOf_24:Tryz.prog.cellsOf 24=2:=aK
@[go_sem] theorem aggT_24:cL Tryz.prog 24=some true:=aK
@[go_sem] theorem sliceT_25:bR Tryz.prog 25=some 57:=aK
@[go_sem] theorem aggT_25:cL Tryz.prog 25=some false:=aK
@[go_sem] theorem undT_25:Tryz.prog.underlying 25=some (.slice 57):=aK
@[go_sem] theorem cellsOf_27:Tryz.prog.cellsOf 27=3:=aK
@[go_sem] theorem aggT_27:cL Tryz.prog 27=some true:=aK
@[go_sem] theorem cellsOf_30:Tryz.prog.cellsOf 30=1:=aK
@[go_sem] theorem sliceT_30:bR Tryz.prog 30=some 40:=aK
@[go_sem] theorem aggT_30:cL Tryz.prog 30=some false:=aK
@[go_sem] theorem intT_30:rl Tryz.prog 30=none:=aK
@[go_sem] theorem infoT_30:(Tryz.prog.info? 30).isSome=true:=aK
@[go_sem] theorem undT_30:Tryz.prog.underlying 30=some (.slice 40):=aK
@[go_sem] theorem zeroT_30:ct Tryz.prog 30=some [.aU]:=aK
@[go_sem] theorem cellsOf_31:Tryz.prog.cellsOf 31=1:=aK
@[go_sem] theorem aggT_31:cL Tryz.prog 31=some false:=aK
@[go_sem] theorem infoT_31:(Tryz.prog.info? 31).isSome=true:=aK
@[go_sem] theorem zeroT_31:ct Tryz.prog 31=some [.d (.int .i64 0)]:=aK
@[go_sem] theorem cellsOf_37:Tryz.prog.cellsOf 37=1:=aK
@[go_sem] theorem bytesOf_37:Tryz.prog.bytesOf 37=24:=aK
@[go_sem] theorem sliceT_37:bR Tryz.prog 37=some 3:=aK
@[go_sem] theorem aggT_37:cL Tryz.prog 37=some false:=aK
@[go_sem] theorem intT_37:rl Tryz.prog 37=none:=aK
@[go_sem] theorem infoT_37:(Tryz.prog.info? 37).isSome=true:=aK
@[go_sem] theorem undT_37:Tryz.prog.underlying 37=some (.slice 3):=aK
@[go_sem] theorem zeroT_37:ct Tryz.prog 37=some [.aU]:=aK
@[go_sem] theorem zeroV_37:zeroV Tryz.prog 37=some (.aU):=aK
@[go_sem] theorem cellsOf_38:Tryz.prog.cellsOf 38=1:=aK
@[go_sem] theorem sliceT_38:bR Tryz.prog 38=some 64:=aK
@[go_sem] theorem aggT_38:cL Tryz.prog 38=some false:=aK
@[go_sem] theorem intT_38:rl Tryz.prog 38=none:=aK
@[go_sem] theorem infoT_38:(Tryz.prog.info? 38).isSome=true:=aK
@[go_sem] theorem undT_38:Tryz.prog.underlying 38=some (.slice 64):=aK
@[go_sem] theorem cellsOf_40:Tryz.prog.cellsOf 40=6:=aK
@[go_sem] theorem bytesOf_40:Tryz.prog.bytesOf 40=80:=aK
@[go_sem] theorem aggT_40:cL Tryz.prog 40=some true:=aK
@[go_sem] theorem infoT_40:(Tryz.prog.info? 40).isSome=true:=aK
@[go_sem] theorem zeroT_40:ct Tryz.prog 40=some [.d (.int .i64 0), .d (.int .i64 0), .d (.int .i64 0), .aU, .d (.bool false), .aU]:=aK
@[go_sem] theorem placesT_40:dC Tryz.prog 40=some [(0,1),(1,1),(2,1),(3,1),(4,1),(5,1)]:=aK
@[go_sem] theorem sliceT_49:bR Tryz.prog 49=some 55:=aK
@[go_sem] theorem aggT_49:cL Tryz.prog 49=some false:=aK
@[go_sem] theorem undT_49:Tryz.prog.underlying 49=some (.slice 55):=aK
@[go_sem] theorem aggT_53:cL Tryz.prog 53=some false:=aK
@[go_sem] theorem undT_53:Tryz.prog.underlying 53=some (.int .i64):=aK
@[go_sem] theorem cellsOf_55:Tryz.prog.cellsOf 55=3:=aK
@[go_sem] theorem aggT_55:cL Tryz.prog 55=some true:=aK
@[go_sem] theorem infoT_55:(Tryz.prog.info? 55).isSome=true:=aK
@[go_sem] theorem zeroT_55:ct Tryz.prog 55=some [.d (.int .i64 0), .d (.int .i64 0), .aU]:=aK
@[go_sem] theorem placesT_55:dC Tryz.prog 55=some [(0,1),(1,1),(2,1)]:=aK
@[go_sem] theorem cellsOf_57:Tryz.prog.cellsOf 57=6:=aK
@[go_sem] theorem aggT_57:cL Tryz.prog 57=some true:=aK
@[go_sem] theorem infoT_57:(Tryz.prog.info? 57).isSome=true:=aK
@[go_sem] theorem zeroT_57:ct Tryz.prog 57=some [.d (.int .i64 0), .aU, .d (.int .i64 0), .d (.int .i64 0), .aU, .d (.int .i64 0)]:=aK
@[go_sem] theorem cellsOf_64:Tryz.prog.cellsOf 64=3:=aK
@[go_sem] theorem bytesOf_64:Tryz.prog.bytesOf 64=24:=aK
@[go_sem] theorem aggT_64:cL Tryz.prog 64=some true:=aK
@[go_sem] theorem infoT_64:(Tryz.prog.info? 64).isSome=true:=aK
@[go_sem] theorem zeroT_64:ct Tryz.prog 64=some [.d (.int .i64 0), .d (.int .i64 0), .d (.bool false)]:=aK
@[go_sem] theorem placesT_64:dC Tryz.prog 64=some [(0,1),(1,1),(2,1)]:=aK
@[go_sem] theorem sliceT_73:bR Tryz.prog 73=some 37:=aK
@[go_sem] theorem intT_73:rl Tryz.prog 73=none:=aK
@[go_sem] theorem undT_73:Tryz.prog.underlying 73=some (.slice 37):=aK
@[go_sem] theorem cellsOf_81:Tryz.prog.cellsOf 81=4:=aK
@[go_sem] theorem aggT_81:cL Tryz.prog 81=some true:=aK
@[go_sem] theorem infoT_81:(Tryz.prog.info? 81).isSome=true:=aK
@[go_sem] theorem zeroT_81:ct Tryz.prog 81=some [.aU, .aU, .aU, .aU]:=aK
@[go_sem] theorem placesT_81:dC Tryz.prog 81=some [(0,3),(3,1)]:=aK
@[go_sem] theorem cellsOf_88:Tryz.prog.cellsOf 88=4:=aK
@[go_sem] theorem sliceT_88:bR Tryz.prog 88=none:=aK
@[go_sem] theorem arrT_88:yZ Tryz.prog 88=some (4,3):=aK
@[go_sem] theorem aggT_88:cL Tryz.prog 88=some true:=aK
@[go_sem] theorem infoT_88:(Tryz.prog.info? 88).isSome=true:=aK
@[go_sem] theorem undT_88:Tryz.prog.underlying 88=some (.array 4 3):=aK
@[go_sem] theorem cellsOf_90:Tryz.prog.cellsOf 90=16:=aK
@[go_sem] theorem sliceT_90:bR Tryz.prog 90=none:=aK
@[go_sem] theorem arrT_90:yZ Tryz.prog 90=some (4,88):=aK
@[go_sem] theorem aggT_90:cL Tryz.prog 90=some true:=aK
@[go_sem] theorem infoT_90:(Tryz.prog.info? 90).isSome=true:=aK
@[go_sem] theorem zeroT_90:ct Tryz.prog 90=some [.d (.int .i64 0), .d (.int .i64 0), .d (.int .i64 0), .d (.int .i64 0), .d (.int .i64 0), .d (.int .i64 0), .d (.int .i64 0), .d (.int .i64 0), .d (.int .i64 0), .d (.int .i64 0), .d (.int .i64 0), .d (.int .i64 0), .d (.int .i64 0), .d (.int .i64 0), .d (.int .i64 0), .d (.int .i64 0)]:=aK
@[go_sem] theorem placesT_90:dC Tryz.prog 90=some [(0,4),(4,4),(8,4),(12,4)]:=aK
@[go_sem] theorem cellsOf_102:Tryz.prog.cellsOf 102=2:=aK
@[go_sem] theorem aggT_102:cL Tryz.prog 102=some true:=aK
@[go_sem] theorem infoT_102:(Tryz.prog.info? 102).isSome=true:=aK
@[go_sem] theorem zeroT_102:ct Tryz.prog 102=some [.d (.str []), .d (.int .i64 0)]:=aK
@[go_sem] theorem placesT_102:dC Tryz.prog 102=some [(0,1),(1,1)]:=aK
@[go_sem] theorem cellsOf_104:Tryz.prog.cellsOf 104=1:=aK
@[go_sem] theorem aggT_104:cL Tryz.prog 104=some false:=aK
@[go_sem] theorem infoT_104:(Tryz.prog.info? 104).isSome=true:=aK
@[go_sem] theorem zeroT_104:ct Tryz.prog 104=some [.d .cK]:=aK
@[go_sem] theorem cellsOf_116:Tryz.prog.cellsOf 116=5:=aK
@[go_sem] theorem aggT_116:cL Tryz.prog 116=some true:=aK
@[go_sem] theorem infoT_116:(Tryz.prog.info? 116).isSome=true:=aK
@[go_sem] theorem zeroT_116:ct Tryz.prog 116=some [.d (.int .i64 0), .d (.int .i64 0), .aU, .aU, .d (.bool false)]:=aK
@[go_sem] theorem placesT_116:dC Tryz.prog 116=some [(0,3),(3,1),(4,1)]:=aK
@[go_sem] theorem sliceT_125:bR Tryz.prog 125=some 129:=aK
@[go_sem] theorem intT_125:rl Tryz.prog 125=none:=aK
@[go_sem] theorem undT_125:Tryz.prog.underlying 125=some (.slice 129):=aK
@[go_sem] theorem cellsOf_129:Tryz.prog.cellsOf 129=3:=aK
@[go_sem] theorem bytesOf_129:Tryz.prog.bytesOf 129=40:=aK
@[go_sem] theorem aggT_129:cL Tryz.prog 129=some true:=aK
@[go_sem] theorem zeroT_129:ct Tryz.prog 129=some [.d (.int .i64 0), .d (.int .i64 0), .aU]:=aK
@[go_sem] theorem placesT_129:dC Tryz.prog 129=some [(0,1),(1,1),(2,1)]:=aK
@[go_sem] theorem aggT_140:cL Tryz.prog 140=some false:=aK
@[go_sem] theorem cellsOf_141:Tryz.prog.cellsOf 141=1:=aK
@[go_sem] theorem aggT_141:cL Tryz.prog 141=some false:=aK
@[go_sem] theorem infoT_141:(Tryz.prog.info? 141).isSome=true:=aK
@[go_sem] theorem zeroT_141:ct Tryz.prog 141=some [.d .cK]:=aK
@[go_sem] theorem sliceT_146:bR Tryz.prog 146=some 9:=aK
@[go_sem] theorem intT_146:rl Tryz.prog 146=none:=aK
@[go_sem] theorem undT_146:Tryz.prog.underlying 146=some (.slice 9):=aK
@[go_sem] theorem cellsOf_149:Tryz.prog.cellsOf 149=1:=aK
@[go_sem] theorem aggT_149:cL Tryz.prog 149=some false:=aK
@[go_sem] theorem infoT_149:(Tryz.prog.info? 149).isSome=true:=aK
@[go_sem] theorem zeroT_149:ct Tryz.prog 149=some [.d .cK]:=aK
@[go_sem] theorem cellsOf_154:Tryz.prog.cellsOf 154=0:=aK
@[go_sem] theorem infoT_154:(Tryz.prog.info? 154).isSome=true:=aK
@[go_sem] theorem plainIface_154:qK Tryz.prog 154=true:=aK
@[go_sem] theorem zeroT_154:ct Tryz.prog 154=some []:=aK
@[go_sem] theorem zeroV_154:zeroV Tryz.prog 154=some (qi []):=aK
@[go_sem] theorem placesT_154:dC Tryz.prog 154=some []:=aK
@[go_sem] theorem aggT_156:cL Tryz.prog 156=some false:=aK
@[go_sem] theorem mapT_156:rq Tryz.prog 156=some (162,37):=aK
@[go_sem] theorem cellsOf_157:Tryz.prog.cellsOf 157=1:=aK
@[go_sem] theorem sliceT_157:bR Tryz.prog 157=some 162:=aK
@[go_sem] theorem aggT_157:cL Tryz.prog 157=some false:=aK
@[go_sem] theorem intT_157:rl Tryz.prog 157=none:=aK
@[go_sem] theorem infoT_157:(Tryz.prog.info? 157).isSome=true:=aK
@[go_sem] theorem undT_157:Tryz.prog.underlying 157=some (.slice 162):=aK
@[go_sem] theorem zeroT_159:ct Tryz.prog 159=some [.aU, .d .iY]:=aK
@[go_sem] theorem placesT_159:dC Tryz.prog 159=some [(0,1),(1,1)]:=aK
@[go_sem] theorem cellsOf_162:Tryz.prog.cellsOf 162=18:=aK
@[go_sem] theorem bytesOf_162:Tryz.prog.bytesOf 162=144:=aK
@[go_sem] theorem aggT_162:cL Tryz.prog 162=some true:=aK
@[go_sem] theorem infoT_162:(Tryz.prog.info? 162).isSome=true:=aK
@[go_sem] theorem zeroT_162:ct Tryz.prog 162=some [.d (.int .i64 0), .d (.int .i64 0), .d (.int .i64 0), .d (.int .i64 0), .d (.int .i64 0), .d (.int .i64 0), .d (.int .i64 0), .d (.int .i64 0), .d (.int .i64 0), .d (.int .i64 0), .d (.int .i64 0), .d (.int .i64 0), .d (.int .i64 0), .d (.int .i64 0), .d (.int .i64 0), .d (.int .i64 0), .d (.int .i64 0), .d (.int .i64 0)]:=aK
@[go_sem] theorem placesT_162:dC Tryz.prog 162=some [(0,1),(1,1),(2,16)]:=aK
@[go_sem] theorem cellsOf_166:Tryz.prog.cellsOf 166=1:=aK
@[go_sem] theorem aggT_166:cL Tryz.prog 166=some false:=aK
@[go_sem] theorem infoT_166:(Tryz.prog.info? 166).isSome=true:=aK
@[go_sem] theorem mapT_166:rq Tryz.prog 166=some (9,4):=aK
@[go_sem] theorem zeroT_166:ct Tryz.prog 166=some [.d .iY]:=aK
@[go_sem] theorem cellsOf_172:Tryz.prog.cellsOf 172=1:=aK
@[go_sem] theorem aggT_172:cL Tryz.prog 172=some false:=aK
@[go_sem] theorem infoT_172:(Tryz.prog.info? 172).isSome=true:=aK
@[go_sem] theorem undT_172:Tryz.prog.underlying 172=some (.map 3 3):=aK
@[go_sem] theorem mapT_172:rq Tryz.prog 172=some (3,3):=aK
@[go_sem] theorem zeroT_172:ct Tryz.prog 172=some [.d .iY]:=aK
@[go_sem] theorem cellsOf_198:Tryz.prog.cellsOf 198=1:=aK
@[go_sem] theorem aggT_198:cL Tryz.prog 198=some false:=aK
@[go_sem] theorem infoT_198:(Tryz.prog.info? 198).isSome=true:=aK
@[go_sem] theorem mapT_198:rq Tryz.prog 198=some (3,4):=aK
@[go_sem] theorem zeroT_198:ct Tryz.prog 198=some [.d .iY]:=aK
@[go_sem] theorem cellsOf_214:Tryz.prog.cellsOf 214=1:=aK
@[go_sem] theorem aggT_214:cL Tryz.prog 214=some false:=aK
@[go_sem] theorem infoT_214:(Tryz.prog.info? 214).isSome=true:=aK
@[go_sem] theorem cellsOf_215:Tryz.prog.cellsOf 215=16:=aK
@[go_sem] theorem sliceT_215:bR Tryz.prog 215=none:=aK
@[go_sem] theorem arrT_215:yZ Tryz.prog 215=some (16,214):=aK
@[go_sem] theorem aggT_215:cL Tryz.prog 215=some true:=aK
@[go_sem] theorem infoT_215:(Tryz.prog.info? 215).isSome=true:=aK
@[go_sem] theorem zeroT_215:ct Tryz.prog 215=some [.d .cK, .d .cK, .d .cK, .d .cK, .d .cK, .d .cK, .d .cK, .d .cK, .d .cK, .d .cK, .d .cK, .d .cK, .d .cK, .d .cK, .d .cK, .d .cK]:=aK
@[go_sem] theorem placesT_215:dC Tryz.prog 215=some [(0,1),(1,1),(2,1),(3,1),(4,1),(5,1),(6,1),(7,1),(8,1),(9,1),(10,1),(11,1),(12,1),(13,1),(14,1),(15,1)]:=aK
@[go_sem] theorem zeroT_218:ct Tryz.prog 218=some [.aU, .aU]:=aK
@[go_sem] theorem placesT_218:dC Tryz.prog 218=some [(0,2)]:=aK
@[go_sem] theorem fieldT_24_0:bH Tryz.prog 24 0=some 0:=aK
@[go_sem] theorem fieldT_24_1:bH Tryz.prog 24 1=some 1:=aK
@[go_sem] theorem fieldT_27_0:bH Tryz.prog 27 0=some 0:=aK
@[go_sem] theorem fieldT_27_1:bH Tryz.prog 27 1=some 2:=aK
@[go_sem] theorem fieldT_40_1:bH Tryz.prog 40 1=some 1:=aK
@[go_sem] theorem fieldT_40_2:bH Tryz.prog 40 2=some 2:=aK
@[go_sem] theorem fieldT_40_3:bH Tryz.prog 40 3=some 3:=aK
@[go_sem] theorem fieldT_40_4:bH Tryz.prog 40 4=some 4:=aK
@[go_sem] theorem fieldT_40_5:bH Tryz.prog 40 5=some 5:=aK
@[go_sem] theorem fieldT_55_0:bH Tryz.prog 55 0=some 0:=aK
@[go_sem] theorem fieldT_55_1:bH Tryz.prog 55 1=some 1:=aK
@[go_sem] theorem fieldT_55_2:bH Tryz.prog 55 2=some 2:=aK
@[go_sem] theorem fieldT_57_0:bH Tryz.prog 57 0=some 0:=aK
@[go_sem] theorem fieldT_57_1:bH Tryz.prog 57 1=some 1:=aK
@[go_sem] theorem fieldT_57_2:bH Tryz.prog 57 2=some 2:=aK
@[go_sem] theorem fieldT_57_3:bH Tryz.prog 57 3=some 5:=aK
@[go_sem] theorem fieldT_64_0:bH Tryz.prog 64 0=some 0:=aK
@[go_sem] theorem fieldT_64_1:bH Tryz.prog 64 1=some 1:=aK
@[go_sem] theorem fieldT_64_2:bH Tryz.prog 64 2=some 2:=aK
@[go_sem] theorem fieldT_81_0:bH Tryz.prog 81 0=some 0:=aK
@[go_sem] theorem fieldT_81_1:bH Tryz.prog 81 1=some 3:=aK
@[go_sem] theorem fieldT_102_0:bH Tryz.prog 102 0=some 0:=aK
@[go_sem] theorem fieldT_102_1:bH Tryz.prog 102 1=some 1:=aK
@[go_sem] theorem fieldT_116_0:bH Tryz.prog 116 0=some 0:=aK
@[go_sem] theorem fieldT_116_1:bH Tryz.prog 116 1=some 3:=aK
@[go_sem] theorem fieldT_116_2:bH Tryz.prog 116 2=some 4:=aK
@[go_sem] theorem fieldT_129_0:bH Tryz.prog 129 0=some 0:=aK
@[go_sem] theorem fieldT_129_1:bH Tryz.prog 129 1=some 1:=aK
@[go_sem] theorem fieldT_129_2:bH Tryz.prog 129 2=some 2:=aK
@[go_sem] theorem fieldT_159_0:bH Tryz.prog 159 0=some 0:=aK
@[go_sem] theorem fieldT_159_1:bH Tryz.prog 159 1=some 1:=aK
@[go_sem] theorem fieldT_162_0:bH Tryz.prog 162 0=some 0:=aK
@[go_sem] theorem fieldT_162_1:bH Tryz.prog 162 1=some 1:=aK
@[go_sem] theorem fieldT_162_2:bH Tryz.prog 162 2=some 2:=aK
@[go_sem] theorem fieldT_218_0:bH Tryz.prog 218 0=some 0:=aK
section
def nQ(x y:aa):Prop:=(x.bF=true->y.bF=true)/\∀e,x.bV=some e->y.bV=some e
theorem nQ.rfl' {x y:aa}(h:x=y):nQ x y:=h ▸ ⟨id,fun _ h=>h⟩
theorem nQ.fz (x:aa):nQ x.fz x:=by cases x<;>exact⟨id,fun _ h=>h⟩
theorem nQ.row (cs cs':List V):nQ (.row cs) (.row cs'):=⟨fun _=>rfl,fun _ h=>by cases h⟩
mutual
theorem V.mJ {B B':Nat->Prop}{φ aH:Place}{H H':Hp}{w:World}(hB:∀b, ¬B b-> ¬B' b):∀ (v:V) (val:Value),(∀id∈v.refs,nQ (H'.o id) (H.o id)/\aH id=φ id/\H'.us id)->V.den B φ H w v val->V.den B' aH H' w v val
 | .d x,val,_,h=>D.aS (w:=w) (w':=w) (fun b _ hn=>⟨rfl,hB b hn⟩) x val h
 | .aU,_,_,h=>h
 | .ag,_,_,_=>trivial
 | .fl,_,_,h=>h
 | .qx es,val,_,h=>⟨D.aS (w:=w) (w':=w) (fun b _ hn=>⟨rfl,hB b hn⟩) (.sl es) val h.1,h.2⟩
 | .agg cs,val,hr,h=>by
   obtain⟨a,rfl,h1,h2⟩:=h
   exact⟨a,rfl,V.fS hB cs _ zC h1,h2⟩
 | .cc cs,val,hr,h=>by
   obtain⟨a,rfl,h1⟩:=h
   exact⟨a,rfl,V.fS hB cs _ zC h1⟩
 | .ptr id off,val,hr,h=>by
   exact XY
 | .osl id ep,val,hr,h=>by
   obtain⟨a,b,c⟩:=hr id Dd
   obtain⟨h0,h1,h2⟩:=h
   refine⟨h0,c,fun e he=> ?_⟩
   obtain⟨x,y⟩:=h2 e (a.2 e he)
   exact⟨x,fun heq=>(y heq).trans b.symm⟩
 | .pe id ep i sz off,val,hr,h=>by
   obtain⟨a,b,c⟩:=hr id Dd
   obtain⟨h0,h1,h2⟩:=h
   refine⟨h0,c,fun e he=> ?_⟩
   obtain⟨x,y⟩:=h2 e (a.2 e he)
   exact U3
 | .pp cs off,val,_,h=>by
   obtain⟨a,ev,h1,h2,h3,h5,h4⟩:=h
   exact acy
 | .func fn first cap,val,hr,h=>by
   obtain⟨f,c,rfl,h1,h2⟩:=h
   exact⟨f,c,rfl,V.fS hB first _ (fun id aq=>hr id (by simp[V.refs,aq])) h1,V.fS hB cap _ (fun id aq=>hr id (by simp[V.refs,aq])) h2⟩
 | .iface t x,val,hr,h=>by
   obtain⟨u,rfl,h⟩:=h
   exact⟨u,rfl,V.mJ hB x u zC h⟩
 | .jo id off n _,val,hr,h=>by
   exact XY
 | .mp id,val,hr,h=>by
   obtain⟨a,b,c⟩:=hr id Dd
   obtain⟨h0,h1,h2⟩:=h
   refine⟨h0,c,fun bD=> ?_⟩
   exact(h2 (a.1 bD)).trans b.symm
 | .jI id,val,hr,h=>by
   exact XY
theorem V.fS {B B':Nat->Prop}{φ aH:Place}{H H':Hp}{w:World}(hB:∀b, ¬B b-> ¬B' b):∀ (vs:List V) (vals:List Value),(∀id∈V.aM vs,nQ (H'.o id) (H.o id)/\aH id=φ id/\H'.us id)->V.aG B φ H w vs vals->V.aG B' aH H' w vs vals
 |[],_,_,h=>h
 |v::vs,_,hr,h=>by
  obtain⟨u,us,rfl,h1,h2⟩:=h
  exact⟨u,us,rfl,V.mJ hB v u (fun id aq=>hr id (by simp[V.aM,aq])) h1,V.fS hB vs us (fun id aq=>hr id (by simp[V.aM,aq])) h2⟩
end
mutual
theorem V.mK {B:Nat->Prop}{φ:Place}{H:Hp}{w:World}:∀ (v:V) (val:Value),V.den B φ H w v val->∀id∈v.refs,H.us id
 | .osl id ep,_,h,j,hj| .ptr id off,_,h,j,hj| .pe id ep i sz off,_,h,j,hj| .jo id off n _,_,h,j,hj| .mp id,_,h,j,hj| .jI id,_,h,j,hj=>by simp[V.refs]at hj;subst hj;exact h.2.1
 | .agg cs,_,h,j,hj=>by obtain⟨a,rfl,h,_⟩:=h;exact V.fE cs _ h j (by simpa[V.refs]using hj)
 | .cc cs,_,h,j,hj=>by obtain⟨a,rfl,h⟩:=h;exact V.fE cs _ h j (by simpa[V.refs]using hj)
 | .func fn first cap,_,h,j,hj=>by
   obtain⟨f,c,rfl,h1,h2⟩:=h
   rcases List.mem_append.1 (show j∈V.aM first++V.aM cap by simpa[V.refs]using hj)with hj|hj
   ·exact V.fE first _ h1 j hj
   ·exact V.fE cap _ h2 j hj
 | .iface t x,_,h,j,hj=>by obtain⟨u,rfl,h⟩:=h;exact V.mK x u h j (by simpa[V.refs]using hj)
 | .d _,_,_,_,hj| .aU,_,_,_,hj| .pp _ _,_,_,_,hj| .ag,_,_,_,hj| .qx _,_,_,_,hj| .fl,_,_,_,hj=>by simp[V.refs]at hj
theorem V.fE {B:Nat->Prop}{φ:Place}{H:Hp}{w:World}:∀ (vs:List V) (vals:List Value),V.aG B φ H w vs vals->∀id∈V.aM vs,H.us id
 |[],_,_,j,hj=>by simp[V.aM]at hj
 |v::vs,_,h,j,hj=>by
  obtain⟨u,us,rfl,h1,h2⟩:=h
  rcases List.mem_append.1 (show j∈v.refs++V.aM vs by simpa[V.aM]using hj)with hj|hj
  ·exact V.mK v u h1 j hj
  ·exact V.fE vs us h2 j hj
end
def qQ(so:Nat->aa)(gone:Nat->Prop)(ty:TypeId)(sz:Nat)(es:List D)(x:V):Prop:=
 (x= .aU/\es=[]/\0<sz)\/∃id ep,gone id/\x= .osl id ep/\so id= .arr ep ty sz es
theorem Pm{xs ys:List Nat}:lX xs ys=true↔∀x∈xs,x∉ys:=by
 simp[lX,List.all_eq_true]
def nL(env:Nat->V):List V->Nat->Prop
 |[],_=>True
 |v::l,i=>(v= .ag\/v=env i)/\nL env l (i+1)
theorem Kx{env:Nat->V}{i:Nat}:nL env [] i:=trivial
theorem Gk{env:Nat->V}{l:List V}{i:Nat}(h:nL env l (i+1)):nL env (.ag::l) i:=⟨.inl rfl,h⟩
theorem Rw{env:Nat->V}{l:List V}{i:Nat}{v:V}(he:env i=v)(h:nL env l (i+1)):nL env (v::l) i:=⟨.inr he.symm,h⟩
theorem EJ{env:Nat->V}:∀ (l:List V) (i:Nat),nL env l i->∀j,aT l j= .ag\/aT l j=env (i+j)
 |[],i,_,j=>by rw[oT];exact .inl rfl
 |v::l,i,h,0=>by rw[mF];exact h.1
 |v::l,i,h,j+1=>by
  rw[mG]
  have:=EJ l (i+1) h.2 j
  rwa [show i+1+j=i+(j+1) by omega]at this
theorem LH{P:Program}{n bq:Nat}{gq:Operand}{ps:List Nat}{x y:IC}{Q:fW->S->Prop}{e:Nat->V}{o:Nat->aa}{nx:Nat}{f:FuncId}{cap:List V}(env:List V)(he:nL e env 0)
 (h:cX P f (.jI nx::cap) (au o nx (.loop P.funcs.size n env ps x y .ready none)) (nx+1)
  (fun _ o' nx'=>∃nf m en p c d st pd,o' nx= .loop nf m en p c d st pd/\st≠ .busy/\qI Q pd ⟨e,au o' nx (.loop nf m en p c d .exhausted pd),nx'⟩) (fun v o' nx'=>Q (.bU v) ⟨e,o',nx'⟩)):
 B0 P n bq false gq ps x y Q ⟨e,o,nx⟩ (.func (.func f) [] cap):=by
 unfold B0 DW
 refine⟨rfl, .inl ⟨env,fun i=> ?_, .inl h⟩⟩
 have:=EJ env 0 he i
 rwa [Nat.zero_add]at this
def qR(P:Program)(n b id:Nat)(fm:IC)(K X:V->(Nat->aa)->Nat->Prop)(e:fW)(s:S):Prop:=
 match e with
 | .normal=>∃nf m en p c d pd,s.o id= .loop nf m en p c d .ready pd/\lz P n b true fm (kX id K X) ⟨s.env,au s.o id (.loop nf m en p c d .busy pd),s.nx⟩
 | .bU v=>X v s.o s.nx
 |_=>False
theorem eu.aI {P:Program}{n:Nat}(bB:P.follows .mixedOrders=true){id:Nat}{args:List V}{o:Nat->aa}{nx:Nat}{K X:V->(Nat->aa)->Nat->Prop}{env:List V}{ps:List Nat}{jM fm:IC}{st:LoopState}{pd:Option lC}
 (ho:o id= .loop P.funcs.size n env ps jM fm st pd) (cS:id<nx) (pL:ps.all (fun t=>decide (t<n))=true) (hl:args.length=ps.length)
 (h:lz P n nx true jM (qR P n nx id fm K X) ⟨oP (aT env) ps args,o,nx⟩):eu P id args o nx K X:=by
 refine eu.xn bB ho cS pL hl (eI jM _ _ _ (fun e s h=> ?_) h)
 cases e with
 |normal=>
  obtain⟨nf,m,en,p,c,d,pd,h1,h2⟩:=h
  exact⟨nf,m,en,p,c,d,pd,h1,eI fm _ _ _ (fun _ _ h=>h) h2⟩
 |bU v=>exact h
 |_=>exact h.elim
theorem Ch{P:Program}{n b id:Nat}{fm:IC}{K X:V->(Nat->aa)->Nat->Prop}{s:S}{nf m:Nat}{en:List V}{p:List Nat}{c d:IC}{pd:Option lC}(h:s.o id= .loop nf m en p c d .ready pd)
 (h2:lz P n b true fm (kX id K X) ⟨s.env,au s.o id (.loop nf m en p c d .busy pd),s.nx⟩):qR P n b id fm K X .normal s:=⟨nf,m,en,p,c,d,pd,h,h2⟩
def zk:List Nat->Nat->Nat->Nat
 |[],nx,k=>nx+k
 |i::_,_,0=>i
 |_::l,nx,k+1=>zk l nx k
theorem Ci:∀ (l:List Nat) (nx k:Nat),zk l nx k∈l\/nx<=zk l nx k
 |[],nx,k=> .inr (Nat.le_add_right _ _)
 |i::_,_,0=> .inl (List.mem_cons_self ..)
 |_::l,nx,k+1=>(Ci l nx k).imp (List.mem_cons_of_mem _) id
theorem EK{nx:Nat}:∀ (l:List Nat),l.Nodup->(∀i∈l,i<nx)->∀a b,zk l nx a=zk l nx b->a=b
 |[],_,_,a,b,e=>by simp only[zk]at e;omega
 |i::l,_,_,0,0,_=>rfl
 |i::l,hd,hl,0,b+1,e=>by
  simp only[zk]at e
  rcases Ci l nx b with h|h
  ·rw[<- e]at h;exact absurd h (List.nodup_cons.1 hd).1
  ·have:=hl i (List.mem_cons_self ..);omega
 |i::l,hd,hl,a+1,0,e=>by
  simp only[zk]at e
  rcases Ci l nx a with h|h
  ·rw[e]at h;exact absurd h (List.nodup_cons.1 hd).1
  ·have:=hl i (List.mem_cons_self ..);omega
 |i::l,hd,hl,a+1,b+1,e=>by
  simp only[zk]at e
  rw[EK l (List.nodup_cons.1 hd).2 (fun j hj=>hl j (List.mem_cons_of_mem _ hj)) a b e]
def SR(f:Nat->Nat)(x:List Nat×List Nat):List Nat×List Nat:=(x.1.map f,x.2.map f)
theorem xM{f:Nat->Nat}(hf:∀a b,f a=f b->a=b){xs ys:List Nat}(hd:lX xs ys=true):lX (xs.map f) (ys.map f)=true:=by
 rw[Pm]at hd|-
 intro x hx hy
 obtain⟨a,ha,rfl⟩:=List.mem_map.1 hx
 obtain⟨b,hb,e⟩:=List.mem_map.1 hy
 rw[hf b a e]at hb
 exact hd a ha hb
theorem Hs{f:Nat->Nat}(hf:∀a b,f a=f b->a=b){pr:List (List Nat)}(fp:List (List Nat×List Nat))(ho:eX pr fp=true):eX pr (fp.map (SR f))=true:=by
 unfold eX at ho|-
 rw[List.all_eq_true]at ho|-
 intro j hj
 rw[List.length_map]at hj
 have ho:=ho j hj
 rw[List.all_eq_true]at ho|-
 intro i hi
 have ho:=ho i hi
 have hm:∀k,(fp.map (SR f)).getD k ([],[])=SR f (fp.getD k ([],[])):=fun k=>by
  rw[List.getD_eq_getElem?_getD,List.getD_eq_getElem?_getD,List.getElem?_map]
  cases fp[k]? <;>rfl
 rw[hm,hm]
 rw[Bool.or_eq_true]at ho|-
 refine ho.imp (fun h=>h) (fun ho=> ?_)
 rw[Bool.and_eq_true,Bool.and_eq_true]at ho|-
 exact⟨⟨xM hf ho.1.1,xM hf ho.1.2⟩,xM hf ho.2⟩
theorem cj{ids:List Nat}{nx:Nat}(hd:ids.Nodup)(hl:∀i∈ids,i<nx){pr:List (List Nat)}(fp:List (List Nat×List Nat))(ho:eX pr fp=true):eX pr (fp.map (SR (zk ids nx)))=true:=
 Hs (EK ids hd hl) fp ho
theorem Ht{P:Program}{g:FuncId}{K:KD}{X:XD}{o:Nat->aa}{nx fr:Nat}{all:List V}{rd:List Nat}{x:D}{Δ:List (Nat×aa)}(nP:rd.all (fun id=>decide (id<nx))=true)(h:zh P g all rd o (.bU x) Δ)(hk:X (.d x) (Δ.map (·.1)) rd):oS P g K X o nx fr all:=by
 unfold oS
 exact⟨rd,Δ,nP, .inr (.inl ⟨x,h,hk⟩)⟩
section
variable {P:Program}{KB:List Nat->Fp->Prop}{pr:List (List Nat)}{l:List b8}{fr:Nat}{fp:Fp}{bad ws:List Nat}{s:S}{d:Option Nat}{op:Op}
theorem Pn(h:KB ws fp):El P KB pr [] fr fp bad ws s:=by unfold El;exact h
end
end
section
structure Gr where
 x:V
 ty:TypeId
 sz:Nat
 es:List D
def Gr.ok (so:Nat->aa)(gone:Nat->Prop)(g:Gr):Prop:=qQ so gone g.ty g.sz g.es g.x
def Po(c:Nat)(G:List Gr)(so:Nat->aa)(gone:Nat->Prop)(v v':V):Prop:=
 v'= .ag\/(v'=v/\∀r∈v.refs,r<c)\/(∃i g,G[i]? =some g/\v'= .osl (c+i) 0/\v=g.x)\/∃y,v'= .d y/\dS so v=some y/\∀id∈v.ids,gone id/\∀g∈G,∀ep,g.x≠ .osl id ep
def lF(c:Nat)(G:List Gr)(so:Nat->aa)(gone:Nat->Prop)(env:Nat->V):List V->Nat->Prop
 |[],_=>True
 |v::l,i=>Po c G so gone (env i) v/\lF c G so gone env l (i+1)
def tT(c:Nat)(G:List Gr)(so:Nat->aa)(gone:Nat->Prop):List V->List V->Prop
 |[],[]=>True
 |v::l,v'::l'=>Po c G so gone v v'/\tT c G so gone l l'
 |_,_=>False
def vy(c:Nat)(G:List Gr)(so:Nat->aa)(gone:Nat->Prop)(x x':aa):Prop:=
 x'= .no\/(x=x'/\∀r∈x'.refs,r<c)\/∃cs cs',x= .row cs/\x'= .row cs'/\tT c G so gone cs cs'
section
variable {c:Nat}{G:List Gr}{so:Nat->aa}{gone:Nat->Prop}
theorem JG{env:Nat->V}:∀ (l:List V) (i:Nat),lF c G so gone env l i->∀j,Po c G so gone (env (i+j)) (aT l j)
 |[],i,_,j=>by rw[oT];exact .inl rfl
 |v::l,i,h,0=>by rw[mF];exact h.1
 |v::l,i,h,j+1=>by
  rw[mG]
  have:=JG l (i+1) h.2 j
  rwa [show i+1+j=i+(j+1) by omega]at this
variable {env:Nat->V}{i:Nat}{l l':List V}{v:V}{y:D}
theorem n6:lF c G so gone env [] i:=trivial
theorem dt(h:lF c G so gone env l (i+1)):lF c G so gone env (.ag::l) i:=⟨.inl rfl,h⟩
theorem iU(he:env i= .d y)(h:lF c G so gone env l (i+1)):lF c G so gone env (.d y::l) i:=⟨.inr (.inl ⟨he.symm,fun r hr=>by rw[he]at hr;simp[V.refs]at hr⟩),h⟩
theorem m4(he:env i=v)(hr:∀r∈v.refs,r<c)(h:lF c G so gone env l (i+1)):lF c G so gone env (v::l) i:=⟨.inr (.inl ⟨he.symm,fun r zd=>hr r (he ▸ zd)⟩),h⟩
theorem mZ(k:Nat){g:Gr}{n:Nat}(hg:G[k]? =some g)(hn:n=c+k)(he:env i=g.x)(h:lF c G so gone env l (i+1)):lF c G so gone env (.osl n 0::l) i:=⟨.inr (.inr (.inl ⟨k,g,hg,by rw[hn],he⟩)),h⟩
theorem qu(ht:dS so (env i)=some y)(hi:∀id∈(env i).ids,gone id/\∀g∈G,∀ep,g.x≠ .osl id ep)(h:lF c G so gone env l (i+1)):lF c G so gone env (.d y::l) i:=⟨.inr (.inr (.inr ⟨y,rfl,ht,hi⟩)),h⟩
theorem sn:tT c G so gone [] []:=trivial
theorem aay(h:tT c G so gone l l'):tT c G so gone (.d y::l) (.d y::l'):=⟨.inr (.inl ⟨rfl,fun r hr=>by simp[V.refs]at hr⟩),h⟩
theorem Pp(hr:∀r∈v.refs,r<c)(h:tT c G so gone l l'):tT c G so gone (v::l) (v::l'):=⟨.inr (.inl ⟨rfl,hr⟩),h⟩
theorem Cj(k:Nat){g:Gr}{n:Nat}(hg:G[k]? =some g)(hn:n=c+k)(he:v=g.x)(h:tT c G so gone l l'):tT c G so gone (v::l) (.osl n 0::l'):=⟨.inr (.inr (.inl ⟨k,g,hg,by rw[hn],he⟩)),h⟩
theorem SS{x:aa}:vy c G so gone x .no:= .inl rfl
theorem bn{x x':aa}(h:x=x')(hr:∀r∈x'.refs,r<c):vy c G so gone x x':= .inr (.inl ⟨h,hr⟩)
theorem sq{x:aa}{cs cs':List V}(h:x= .row cs)(hr:tT c G so gone cs cs'):vy c G so gone x (.row cs'):= .inr (.inr ⟨cs,cs',h,rfl,hr⟩)
end
theorem ss{c:Nat}{G:List Gr}{so:Nat->aa}{gone:Nat->Prop}{B B':Nat->Prop}{φ aH:Place}{H H':Hp}{w:World}(hc:∀v v' val,Po c G so gone v v'->V.den B φ H w v val->V.den B' aH H' w v' val):
 ∀ (l l':List V) (vals:List Value),tT c G so gone l l'->V.aG B φ H w l vals->V.aG B' aH H' w l' vals
 |[],[],_,_,h=>h
 |v::l,v'::l',_,h,hd=>by
  obtain⟨u,us,rfl,h1,h2⟩:=hd
  exact⟨u,us,rfl,hc _ _ _ h.1 h1,ss hc l l' us h.2 h2⟩
 |[],_::_,_,h,_=>h.elim
 |_::_,[],_,h,_=>h.elim
def Pq(φ:Place)(c:Nat)(G:List Gr):Place:=fun id=>if id<c then φ id else match G[id - c]? with
 |some g=>(match g.x with| .osl j _=>φ j|_=> .slice none 0 0)
 |none=>φ id
theorem aZ.see (gone:Nat->Prop)(G:List Gr)(c:Nat){b:Nat}{e:Nat->V}{so:Nat->aa}{m:Nat}(l:List V){o':Nat->aa}{nx':Nat}(w8:nx'=c+G.length)(hb:b<=c)
 (ho:∀id,id<c->vy c G so gone (so id) (o' id)) (hG:∀i g,G[i]? =some g->o' (c+i)= .arr 0 g.ty g.sz g.es/\g.ok so gone) (hh:∀id,nx'<=id->o' id= .no) (AB:∀id,gone id->id<c->o' id= .no)
 (GU:∀ (i j:Nat) (gi gj:Gr) (id ep fq:Nat),G[i]? =some gi->G[j]? =some gj->gi.x= .osl id ep->gj.x= .osl id fq->i=j) (he:lF c G so gone e l 0):aZ b ⟨e,so,m⟩ ⟨aT l,o',nx'⟩:=by
 subst w8
 intro M φ w tm hH hd
 let aH:Place:=Pq φ c G
 let H':Hp:=hp o' (c+G.length)
 let H:Hp:=⟨so,fun id=>id<m⟩
 have LI:∀id,id<c->aH id=φ id:=fun id aq=>if_pos aq
 have Pr:∀i g,G[i]? =some g->aH (c+i)=(match g.x with| .osl j _=>φ j|_=> .slice none 0 0):=fun i g hg=>by
  show Pq φ c G (c+i)=_
  unfold Pq
  rw[if_neg (by omega),show c+i - c=i by omega,hg]
 have hold:∀id k,(o' id).live=true->dG (aH id)=some k->∃j,(so j).live=true/\dG (φ j)=some k/\((id<c/\j=id)\/∃i g ep,id=c+i/\G[i]? =some g/\gone j/\g.x= .osl j ep):=by
  intro id k h1 h2
  by_cases cS:id<c
  ·rw[LI id cS]at h2
   rcases ho id cS with h3|⟨h3,_⟩|⟨cs,cs',h3,h4,_⟩
   ·rw[h3]at h1;cases h1
   ·exact⟨id,by rw[h3];exact h1,h2, .inl ⟨cS,rfl⟩⟩
   ·exact⟨id,by rw[h3];rfl,h2, .inl ⟨cS,rfl⟩⟩
  ·by_cases vM:c+G.length<=id
   ·rw[hh id vM]at h1;cases h1
   ·obtain⟨i,rfl⟩:∃i,id=c+i:=⟨id - c,ae⟩
    obtain⟨g,hg⟩:∃g,G[i]? =some g:=⟨G[i]'ae,aJ⟩
    rw[Pr i g hg]at h2
    obtain⟨_,bp⟩:=hG i g hg
    rcases bp with⟨h3,_,_⟩|⟨j,ep,hj,h3,qZ⟩
    ·rw[h3]at h2;cases h2
    ·rw[h3]at h2
     exact⟨j,by rw[qZ];rfl,h2, .inr ⟨i,g,ep,rfl,hg,hj,h3⟩⟩
 have cU:∀k,cw aH H' k->cw φ H k:=by
  rintro k ⟨id,h1,h2⟩
  obtain⟨j,g1,g2,_⟩:=hold id k h1 h2
  exact⟨j,g1,g2⟩
 have hB:∀k, ¬ao M φ H k-> ¬ao M aH H' k:=fun k h h'=>h (h'.imp id (cU k))
 have fY:∀id,id<c->nQ (H'.o id) (H.o id)/\aH id=φ id/\H'.us id:=fun id aq=>by
  refine⟨?_,LI id aq,(by show id<c+G.length;omega)⟩
  show nQ (o' id) (so id)
  rcases ho id aq with h3|⟨h3,_⟩|⟨cs,cs',h3,h4,_⟩
  ·rw[h3];exact⟨fun h=>(by cases h),fun e h=>(by cases h)⟩
  ·exact nQ.rfl' h3.symm
  ·rw[h3,h4];exact nQ.row _ _
 have fK:∀ (v:V) (val:Value),(∀r∈v.refs,r<c)->V.den (ao M φ H) φ H w v val->V.den (ao M aH H') aH H' w v val:=fun v val hr h=>
  V.mJ (H:=H) (H':=H') hB v val (fun id aq=>fY id (hr id aq)) h
 have kD:∀ (v:List V) (val:List Value),(∀r∈V.aM v,r<c)->V.aG (ao M φ H) φ H w v val->V.aG (ao M aH H') aH H' w v val:=fun v val hr h=>
  V.fS (H:=H) (H':=H') hB v val (fun id aq=>fY id (hr id aq)) h
 have aiP:∀ (v:V) (y:D) (val:Value),dS so v=some y->(∀id∈v.ids,gone id/\∀g∈G,∀ep,g.x≠ .osl id ep)->V.den (ao M φ H) φ H w v val->D.den (ao M aH H') w y val:=fun v y val h1 h2 h3=>by
  obtain⟨f1,f2,f3,f4,f5⟩:=cW (H:=H) hH v.ids (fun id aq=>b9 v val h3 id aq)
  have W9:∀k,cw φ (H.put (bY H.o v.ids)) k->cw φ H k:=by
   rintro k ⟨id,g1,g2⟩
   by_cases aq:id∈v.ids
   ·rw[f3 id aq]at g1
    refine⟨id, ?_,g2⟩
    revert g1
    cases H.o id<;>simp[aa.fz,aa.live]
   ·rw[f4 id aq]at g1;exact⟨id,g1,g2⟩
  have h4:V.den (ao M φ (H.put (bY H.o v.ids))) φ (H.put (bY H.o v.ids)) w v val:=
   V.mJ (H:=H) (fun k h h'=>h (h'.imp id (W9 k))) v val (fun id aq=>by
     have dg:H.us id:=(V.mK v val h3) id aq
     refine⟨?_,rfl,(f5 id).2 dg⟩
     by_cases hm:id∈v.ids
     ·rw[f3 id hm];exact nQ.fz _
     ·rw[f4 id hm];exact nQ.rfl' rfl) h3
  have h5:=eG f1 (o:=so) v y val (fun id aq=>f3 id aq) h1 h4
  refine D.aS (w:=w) (w':=w) (fun k _ hn=>⟨rfl,fun hk=>hn (hk.imp id ?_)⟩) y val h5
  rintro⟨id,g1,g2⟩
  obtain⟨j,k1,k2,k3⟩:=hold id k g1 g2
  refine⟨j, ?_,k2⟩
  have:j∉v.ids:=fun hm=>by
   obtain⟨k4,k5⟩:=h2 j hm
   rcases k3 with⟨k6,k7⟩|⟨i,g,ep,k6,k8,k9,k10⟩
   ·subst k7
    have:=AB _ k4 k6
    have g1:(o' j).live=true:=g1
    rw[this]at g1
    cases g1
   ·exact k5 g (List.mem_of_getElem? k8) ep k10
  rw[f4 j this];exact k1
 have xN:∀i g val,G[i]? =some g->V.den (ao M φ H) φ H w g.x val->V.den (ao M aH H') aH H' w (.osl (c+i) 0) val:=by
  intro i g val hg this
  obtain⟨Gl,bp⟩:=hG i g hg
  have cS:c+i<c+G.length:=by have:=(List.getElem?_eq_some_iff.1 hg).1;omega
  rcases bp with⟨h3,_,_⟩|⟨j,ep,hj,h3,qZ⟩
  ·rw[h3]at this
   simp only[V.den]at this
   rw[this]
   refine⟨rfl,cS,fun e' mc=> ?_⟩
   have mc:(o' (c+i)).bV=some e':=mc
   rw[Gl]at mc
   simp only[aa.bV,Option.some.injEq]at mc
   subst mc
   exact⟨Nat.le_refl _,fun _=>by rw[Pr i g hg,h3]⟩
  ·rw[h3]at this
   obtain⟨g1,g2,g3⟩:=this
   refine⟨g1,cS,fun e' mc=> ?_⟩
   have mc:(o' (c+i)).bV=some e':=mc
   rw[Gl]at mc
   simp only[aa.bV,Option.some.injEq]at mc
   subst mc
   have wK:(H.o j).bV=some ep:=by show(so j).bV=_;rw[qZ];rfl
   exact⟨Nat.le_refl _,fun _=>by rw[Pr i g hg,h3];exact(g3 ep wK).2 rfl⟩
 have Xa:∀v v' val,Po c G so gone v v'->V.den (ao M φ H) φ H w v val->V.den (ao M aH H') aH H' w v' val:=by
  intro v v' val h h1
  rcases h with rfl|⟨rfl,h2⟩|⟨i,g,hg,rfl,rfl⟩|⟨y,rfl,h2,h3⟩
  ·trivial
  ·exact fK _ _ h2 h1
  ·exact xN i g _ hg h1
  ·exact aiP v y val h2 h3 h1
 refine⟨aH,⟨fun id=> ?_,fun id hu=>hh id (by have: ¬id<c+G.length:=hu;omega),fun i j k h1 h2 h3 h4=> ?_,fun k hk=>hH.ours k (cU k hk),hH.Bh⟩,fun i=> ?_,cU,by show b<=c+G.length;omega,fun id aq hr=> ?_,fun id e' aq mc=> ?_⟩
 ·have bu:aO M φ H w id:=hH.ok id
  show aO M aH H' w id
  unfold aO at bu|-
  by_cases cS:id<c
  ·rcases ho id cS with h3|⟨h3,hrefs⟩|⟨cs,cs',h3,h4,bD⟩
   ·have e2:H'.o id= .no:=h3
    rw[e2];trivial
   ·have e1:H.o id=o' id:=h3
    have e2:H'.o id=o' id:=rfl
    rw[e1]at bu
    rw[e2,LI id cS]
    cases wX:o' id with
    |no=>trivial
    |row cs=>
     simp only[wX]at bu hrefs|-
     exact UY
    |arr ep ty sz es=>
     simp only[wX]at bu|-
     obtain⟨k1,xs,k2,evs,k3,k4,k5⟩:=bu
     exact Ue
    |qg ep es=>
     simp only[wX]at bu|-
     exact D.aS (fun b _ hn=>⟨rfl,hB b hn⟩) _ _ bu
    |map kt vt es=>
     simp only[wX]at bu|-
     obtain⟨b,es',clock,k1,k2,k4,k3⟩:=bu
     exact Uc
    |gw l=>
     simp only[wX]at bu|-
     exact kE.mono (fun b _ hn=>⟨rfl,hB b hn⟩) bu
    |pW l last=>
     simp only[wX]at bu|-
     obtain⟨b,k1,k2⟩:=bu
     exact UG
    |yY s pos=>
     simp only[wX]at bu|-
     exact bu
    |loop nf n env ps a b st pd=>
     simp only[wX]at bu hrefs|-
     exact Vg
   ·have e1:H.o id= .row cs:=h3
    have e2:H'.o id= .row cs':=h4
    rw[e1]at bu
    rw[e2,LI id cS]
    obtain⟨b,dk,ty,k1,k2,k3,k4⟩:=bu
    exact⟨b,dk,ty,k1,k2,ss Xa _ _ _ bD k3,k4⟩
  ·by_cases vM:c+G.length<=id
   ·have e2:H'.o id= .no:=hh id vM
    rw[e2];trivial
   ·obtain⟨i,rfl⟩:∃i,id=c+i:=⟨id - c,ae⟩
    obtain⟨g,hg⟩:∃g,G[i]? =some g:=⟨G[i]'ae,aJ⟩
    obtain⟨Gl,bp⟩:=hG i g hg
    have e2:H'.o (c+i)= .arr 0 g.ty g.sz g.es:=Gl
    rw[e2]
    rcases bp with⟨h3,h4,dU⟩|⟨j,ep,hj,h3,qZ⟩
    ·rw[h4]
     refine⟨dU,[], ?_,[],aJ,aJ,rfl⟩
     rw[Pr i g hg,h3]
     exact World.ownsRow_nil _ _ _ _
    ·have this:aO M φ H w j:=hH.ok j
     unfold aO at this
     have e3:H.o j= .arr ep g.ty g.sz g.es:=qZ
     simp only[e3]at this
     obtain⟨k1,xs,k2,evs,k3,k4,k5⟩:=this
     exact⟨k1,xs,by rw[Pr i g hg,h3];exact k2,evs,k3,k4,D.aQ (fun b _ hn=>⟨rfl,hB b hn⟩) _ _ k5⟩
 ·obtain⟨i',a1,a2,a3⟩:=hold i k h1 h3
  obtain⟨j',b1,b2,b3⟩:=hold j k h2 h4
  have:=hH.apart i' j' k a1 b1 a2 b2
  subst this
  have iz:∀dw,(o' dw).live=true->dw<c->gone dw->False:=fun dw g1 g2 g3=>by
   rw[AB _ g3 g2]at g1
   cases g1
  rcases a3 with⟨a3,a4⟩|⟨ia,ga,ea,a3,a4,a5,a6⟩<;>rcases b3 with⟨b3,b4⟩|⟨ib,gb,eb,b3,b4,b5,b6⟩
  ·omega
  ·exact(iz i h1 a3 (a4 ▸ b5)).elim
  ·exact(iz j h2 b3 (b4 ▸ a5)).elim
  ·have:=GU ia ib ga gb _ _ _ a4 b4 a6 b6
   omega
 ·have hi:=JG l 0 he i
  rw[Nat.zero_add]at hi
  exact Xa _ _ _ hi (hd i)
 ·have cS:id<c:=ae
  have hr:(o' id).bF=true:=hr
  exact⟨(fY id cS).1.1 hr,LI id cS⟩
 ·have cS:id<c:=ae
  have mc:(o' id).bV=some e':=mc
  exact⟨e',(fY id cS).1.2 e' mc,Nat.le_refl _,fun _=>LI id cS⟩
theorem aZ.agl (gone:Nat->Prop)(c:Nat){b:Nat}{e:Nat->V}{so:Nat->aa}{m:Nat}(l:List V){o':Nat->aa}(hb:b<=c)
 (ho:∀id,id<c->vy c [] so gone (so id) (o' id)) (hh:∀id,c<=id->o' id= .no) (AB:∀id,gone id->id<c->o' id= .no) (he:lF c [] so gone e l 0):aZ b ⟨e,so,m⟩ ⟨aT l,o',c⟩:=
 aZ.see gone [] c l rfl hb ho (fun i g h=>by cases h) hh AB (fun i j gi gj id ep fq h=>by cases h) he
theorem aZ.iu (gone:Nat->Prop)(x:V)(c:Nat){ty:TypeId}{sz:Nat}{es:List D}{b:Nat}{e:Nat->V}{so:Nat->aa}{m:Nat}(l:List V){o':Nat->aa}(hb:b<=c)
 (ho:∀id,id<c->vy c [⟨x,ty,sz,es⟩] so gone (so id) (o' id)) (hc:o' c= .arr 0 ty sz es) (hx:qQ so gone ty sz es x) (hh:∀id,c+1<=id->o' id= .no) (AB:∀id,gone id->id<c->o' id= .no)
 (he:lF c [⟨x,ty,sz,es⟩] so gone e l 0):aZ b ⟨e,so,m⟩ ⟨aT l,o',c+1⟩:=
 aZ.see gone [⟨x,ty,sz,es⟩] c l rfl hb ho (fun i g h=>by
  match i,h with
  |0,h=>simp at h;subst h;exact⟨hc,hx⟩) hh AB (fun i j gi gj id ep fq h h' _ _=>by
  match i,j,h,h' with
  |0,0,_,_=>rfl) he
theorem MI{P:Nat->Prop}(h:P 0):∀id,id<1->P id:=fun id aq=>by
 have e:id=0:=ae
 rw[e];exact h
theorem lt0{P:Nat->Prop}:∀id,id<0->P id:=fun id aq=>ae
@[go_sem] theorem ajm (b:Bool):(b==false)= !b:=Di
@[go_sem] theorem ajn (b:Bool):(b==true)=b:=Di
@[go_sem] theorem agm (c:Bool) (v:V):V.BX c (V.BX c v)=V.BX c v:=by cases c<;>rfl
@[go_sem] theorem agn (c:Bool):(c&&c)=c:=by cases c<;>rfl
@[go_sem] theorem aca {α:Type} (f:α->D) (l:List α) (n:Nat) (h:∀x,(f x).cells.length=n):((l.map f).all fun z=>z.cells.length==n)=true:=by
  simp[List.all_eq_true,h]
attribute [go_sem] implies_true
attribute [go_sem] Option.isSome_none Option.getD_some Option.getD_none
theorem structOf{P:Program}{t:TypeId}(h:(match P.underlying t with|some (.struct _)=>true|_=>false)=true):∃fs,P.underlying t=some (.struct fs):=by
 split at h
 ·exact⟨_,by assumption⟩
 ·cases h
theorem aD{pr:List (List Nat)}{fp:List (List Nat×List Nat)}(h:fp.all (fun x=>x.2.isEmpty)=true):eX pr fp=true:=by
 have e:∀i,(fp.getD i ([],[])).2=[]:=fun i=>by
  rw[List.getD_eq_getElem?_getD]
  cases hi:fp[i]? with
  |none=>rfl
  |some x=>simpa using List.all_eq_true.1 h x (List.mem_of_getElem? hi)
 simp only[eX,List.all_eq_true,e,lX,List.all_nil,Bool.and_self,Bool.or_true,implies_true]
structure dv (base:Nat) (h o:Nat->aa) (nx:Nat):Prop where
 bE:Good o nx
 le:base<=nx
 eq:∀id,id<base->o id=h id
def StK(base:Nat)(h:Nat->aa)(v:V)(o:Nat->aa)(nx:Nat)(K:V->(Nat->aa)->Nat->Prop):Prop:=
 ∀o' nx',nx<=nx'->dv base h o' nx'->(∀id,base<=id->id<nx->o' id=o id)->K v o' nx'
def mh(P:Program)(g:FuncId)(args:List V)(base:Nat)(h h2:Nat->aa)(v:V):Prop:=
 ∀o nx,dv base h o nx->∀K X,StK base h2 v o nx K->cX P g args o nx K X
theorem dv.au {base:Nat}{h o:Nat->aa}{nx m i:Nat}{x:aa}(hI:dv base h o nx)(hb:base<=i)(hi:i<m)(hm:nx<=m)(hx:x.refs.all (fun r=>decide (r<m))=true):dv base h (YtnkamdiiakdkgaaGreat.au o i x) m:=
 ⟨(hI.bE.mono hm).au hi hx,Nat.le_trans hI.le hm,fun id aq=>by rw[ab _ _ _ _ (by omega)];exact hI.eq id aq⟩
theorem dv.mono {base:Nat}{h o:Nat->aa}{nx m:Nat}(hI:dv base h o nx)(hm:nx<=m):dv base h o m:=⟨hI.bE.mono hm,Nat.le_trans hI.le hm,hI.eq⟩
def ext(base:Nat)(h o:Nat->aa):Nat->aa:=fun id=>if id<base then h id else o id
theorem dv.ext {base c:Nat}{h o:Nat->aa}{nx:Nat}(hI:dv base h o nx)(hc:c<=nx)(hb:base<=c):dv c (YtnkamdiiakdkgaaGreat.ext base h o) o nx:=
 ⟨hI.bE,hc,fun id _=>by unfold YtnkamdiiakdkgaaGreat.ext;split<;>first|exact hI.eq id re|rfl⟩
theorem mh.ext {P:Program}{g:FuncId}{args:List V}{base c:Nat}{h h2:Nat->aa}{v:V}(hS:mh P g args base h h2 v)(hb:base<=c)(o0:Nat->aa):mh P g args c (YtnkamdiiakdkgaaGreat.ext base h o0) (YtnkamdiiakdkgaaGreat.ext base h2 o0) v:=by
 intro o nx hI K X hK
 refine hS o nx ⟨hI.bE,Nat.le_trans hb hI.le,fun id aq=>by rw[hI.eq id (by omega)];unfold YtnkamdiiakdkgaaGreat.ext;rw[if_pos aq]⟩ K X fun o' nx' h1 h2 h3=>hK o' nx' h1 ⟨h2.bE,Nat.le_trans hI.le h1,fun id aq=> ?_⟩ (fun id h4 h5=>h3 id ae h5)
 unfold YtnkamdiiakdkgaaGreat.ext
 split
 ·exact h2.eq id re
 ·rename_i hn
  rw[h3 id (by omega) (by have:=hI.le;omega),hI.eq id aq]
  unfold YtnkamdiiakdkgaaGreat.ext;rw[if_neg hn]
def aA{α σ:Type}(step:σ->α->σ×Bool)(s:σ):List α->σ×Bool
 |[]=>(s,true)
 |x::l=>if(step s x).2=true then aA step (step s x).1 l else((step s x).1,false)
theorem o6{P:Program}{id:Nat}{args:List V}{e:Nat->V}{o:Nat->aa}{nx:Nat}{K X:V->(Nat->aa)->Nat->Prop}(h:eu P id args o nx K X):Am P id K X ⟨e,o,nx⟩ args:=by unfold Am;exact h
theorem dW{α:Type}(f:Nat->α)(i:Nat)(x y:α):au (au f i x) i y=au f i y:=by
 funext j;simp only[au];split<;>rfl
attribute [go_sem] Int.cast_ofNat_Int
section
variable {P:Program}{n:Nat}{ps:List Nat}{x y:IC}{env:List V}{L:LoopState->Option lC->aa}
def kZ(P:Program)(n:Nat)(env:List V)(ps:List Nat)(x y:IC)(L:LoopState->Option lC->aa):Prop:=∀st pd,L st pd= .loop P.funcs.size n env ps x y st pd
theorem Hu{bq:Nat}{gq:Operand}{Q:fW->S->Prop}{e:Nat->V}{o:Nat->aa}{nx:Nat}{f:FuncId}{cap:List V}(env:List V)(he:nL e env 0)
 (h:∀L,kZ P n env ps x y L->cX P f (.jI nx::cap) (au o nx (L .ready none)) (nx+1)
  (fun _ o' nx'=>∃st pd,o' nx=L st pd/\st≠ .busy/\qI Q pd ⟨e,au o' nx (L .exhausted pd),nx'⟩) (fun v o' nx'=>Q (.bU v) ⟨e,o',nx'⟩)):
 B0 P n bq false gq ps x y Q ⟨e,o,nx⟩ (.func (.func f) [] cap):=by
 refine LH env he ?_
 have:=h (fun st pd=> .loop P.funcs.size n env ps x y st pd) (fun _ _=>rfl)
 refine this.mono (fun v o' nx' hh=> ?_) (fun v o' nx' hh=>hh)
 obtain⟨st,pd,h1,h2,h3⟩:=hh
 exact⟨_,_,_,_,_,_,_,_,h1,h2,h3⟩
theorem xO(hL:kZ P n env ps x y L)(bB:P.follows .mixedOrders=true){id:Nat}{args:List V}{o:Nat->aa}{nx:Nat}{K X:V->(Nat->aa)->Nat->Prop}{st:LoopState}{pd:Option lC}
 (ho:o id=L st pd) (cS:id<nx) (pL:ps.all (fun t=>decide (t<n))=true) (hl:args.length=ps.length)
 (h:lz P n nx true x (qR P n nx id y K X) ⟨oP (aT env) ps args,o,nx⟩):eu P id args o nx K X:=
 eu.aI bB (ho.trans (hL st pd)) cS pL hl h
theorem mL(hL:kZ P n env ps x y L){b id:Nat}{fm:IC}{K X:V->(Nat->aa)->Nat->Prop}{e:Nat->V}{o:Nat->aa}{nx:Nat}{pd:Option lC}(h:o id=L .ready pd)
 (h2:lz P n b true fm (kX id K X) ⟨e,au o id (L .busy pd),nx⟩):qR P n b id fm K X .normal ⟨e,o,nx⟩:=by
 refine Ch (h.trans (hL _ _)) ?_
 rw[<- hL];exact h2
theorem KA(hL:kZ P n env ps x y L){id:Nat}{K X:V->(Nat->aa)->Nat->Prop}{e:Nat->V}{o:Nat->aa}{nx:Nat}{st:LoopState}{pd:Option lC}(h:o id=L st pd)(k:K (.d (.bool true)) (au o id (L .ready none)) nx):kX id K X .normal ⟨e,o,nx⟩:=
 ⟨_,_,_,_,_,_,_,_,h.trans (hL _ _),by rw[<- hL];exact k⟩
theorem Gp(hL:kZ P n env ps x y L){id:Nat}{K X:V->(Nat->aa)->Nat->Prop}{e:Nat->V}{o:Nat->aa}{nx:Nat}{st:LoopState}{pd:Option lC}(h:o id=L st pd)(k:K (.d (.bool false)) (au o id (L .done (some .ret))) nx):kX id K X .ret ⟨e,o,nx⟩:=
 ⟨_,_,_,_,_,_,_,_,h.trans (hL _ _),by rw[<- hL];exact k⟩
theorem Db(hL:kZ P n env ps x y L){id j:Nat}{K X:V->(Nat->aa)->Nat->Prop}{e:Nat->V}{o:Nat->aa}{nx:Nat}{st:LoopState}{pd:Option lC}(h:o id=L st pd)(k:K (.d (.bool false)) (au o id (L .done (some (.exit j)))) nx):kX id K X (.exit j) ⟨e,o,nx⟩:=
 ⟨_,_,_,_,_,_,_,_,h.trans (hL _ _),by rw[<- hL];exact k⟩
theorem kZ.refs (hL:kZ P n env ps x y L)(st:LoopState)(pd:Option lC):(L st pd).refs=V.aM env:=by rw[hL];rfl
end
end
attribute [go_sem_proc] Int.reduceBEq Int.reduceBNe Int.reduceLT Int.reduceLE Int.reduceEq Int.reduceNe Nat.reducePow Nat.reduceEqDiff Nat.reduceAdd Nat.reduceSub Nat.reduceMul Nat.reduceLeDiff Nat.reduceBEq Nat.reduceLT reduceIte reduceCtorEq Int.reduceToNat
attribute [go_sem] List.range_zero Option.isSome_some and_self List.cons.injEq
theorem Dg(n low high:Int):aW Tryz.prog 108 [.i n, .i low, .i high] (.ret [.bool (ft n low high)]):=by
 refine aW.aI mix afc aJ ?_
 rw[afb]
 refine dc ?_
 rfl
theorem Ps{t:Tm}{left depth:Int}(h:left<1\/depth<1):jz t left depth= -1:=by cases t;simp[jz,h]
theorem qT{l:List Tm}{left depth:Int}(h:left<0):cV l left depth=left:=by
 cases l with
 |nil=>rfl
 |cons k l=>simp[cV,show ¬ (0<=left) by omega]
theorem Pt:∀t:Tm,∀left depth:Int, -1<=jz t left depth/\(1<=left->jz t left depth<=left - 1)/\(left<1->jz t left depth= -1):=by
 refine Tm.ind fun op n kids ih left depth=> ?_
 have hs:∀ (l:List Tm) (left d:Int),(∀k∈l,k∈kids)-> -1<=left-> -1<=cV l left d/\cV l left d<=left:=by
  intro l
  induction l with
  |nil=>intro left d _ h;simp[cV,h]
  |cons k l xP=>
   intro left d hk h
   simp only[cV]
   split
   ·rename_i h0
    have h1:=ih k (hk k aJ) left d
    have h2:=xP (jz k left d) d (fun x hx=>hk x oh) h1.1
    by_cases hl:1<=left
    ·have:=h1.2.1 hl;omega
    ·have:=h1.2.2 ae;omega
   ·omega
 simp only[jz]
 split
 ·rename_i h;refine⟨ae,fun h1=> ?_,fun _=>rfl⟩;omega
 ·rename_i h
  have:=hs kids (left - 1) (depth - 1) (fun _ h=>h) ae
  exact⟨this.1,fun _=>this.2,fun h=>ae⟩
theorem LJ(l:List Tm)(left d:Int)(h: -1<=left): -1<=cV l left d/\cV l left d<=left:=by
 induction l generalizing left with
 |nil=>simp[cV,h]
 |cons k l xP=>
  simp only[cV]
  split
  ·have h1:=Pt k left d
   have h2:=xP (jz k left d) h1.1
   by_cases hl:1<=left
   ·have:=h1.2.1 hl;omega
   ·have:=h1.2.2 ae;omega
  ·omega
theorem qt(a b:List Tm)(left d:Int):cV (a++b) left d=cV b (cV a left d) d:=by
 induction a generalizing left with
 |nil=>rfl
 |cons k a ih=>
  simp only[List.cons_append,cV]
  split
  ·exact ih _
  ·rename_i h;rw[qT (by omega)]
theorem EL{l:List Tm}{i:Nat}{k:Tm}(hi:l[i]? =some k)(left d:Int)(h:0<=cV (l.take i) left d):cV (l.take (i+1)) left d=jz k (cV (l.take i) left d) d:=by
 rw[List.take_add_one,hi,qt]
 simp[cV,h]
theorem EM{l:List Tm}{i:Nat}(left d:Int)(h:cV (l.take i) left d<0):cV l left d=cV (l.take i) left d:=by
 conv=>lhs;rw[<- List.take_append_drop i l]
 rw[qt,qT h]
@[reducible] def jS (cs:List V):Nat->aa:=au (fun _=> .no) 0 (.row cs)
@[reducible] def Ck (cs ds:List V):Nat->aa:=au (au (fun _=> .no) 0 (.row cs)) 1 (.row ds)
theorem bt{cs:List V}(h:(aa.row cs).refs.all (fun r=>decide (r<1))=true):Good (jS cs) 1:=(Good.nil (nx:=1)).au ae h
theorem im{cs ds:List V}(h:(aa.row cs).refs.all (fun r=>decide (r<2))=true)(h2:(aa.row ds).refs.all (fun r=>decide (r<2))=true):Good (Ck cs ds) 2:=((Good.nil (nx:=2)).au ae h).au ae h2
theorem aZ.d1 {e:Nat->V}{so o:Nat->aa}{m:Nat}(l:List V)(hg:Good o 1)(hm:1<=m)(h0:so 0=o 0)(he:mH 1 e l 0):aZ 0 ⟨e,so,m⟩ ⟨aT l,o,1⟩:=
 aZ.aV l (Nat.zero_le _) hm hg (fun id h=>by obtain rfl:id=0:=ae
                                             exact h0) he
theorem aZ.d2 {e:Nat->V}{so o:Nat->aa}{m:Nat}(l:List V)(hg:Good o 2)(hm:2<=m)(h0:so 0=o 0)(h1:so 1=o 1)(he:mH 2 e l 0):aZ 0 ⟨e,so,m⟩ ⟨aT l,o,2⟩:=
 aZ.aV l (Nat.zero_le _) hm hg (fun id h=>by
  rcases(by omega:id=0\/id=1)with rfl|rfl
  ·exact h0
  ·exact h1) he
@[reducible] def Tm.row (t:Tm):List V:=[.d (.i t.op), .d (.i t.n), .d (.sl (t.kids.map Tm.d))]
theorem EN(t:Tm)(left depth:Int):jz t left depth=if left<1\/depth<1 then -1 else cV t.kids (left - 1) (depth - 1):=by cases t;simp[jz,Tm.kids]
theorem JH:∀t:Tm,t.fits->∀left depth:Int, -1<=left/\left<=1000000-> -1<=depth/\depth<=1000000->aW Tryz.prog 86 [t.d, .i left, .i depth] (.ret [.i (jz t left depth)]):=by
 refine Tm.eJ fun t ih hf left depth hl hd=> ?_
 have l0:=(Tm.bK _).1 hf
 refine aW.aI mix aiJ aJ ?_
 rw[c86]
 refine dc ?_
 refine aj (fun h1=> ?_) (fun h1=> ?_)
 ·refine dc ?_
  simp at h1
  rw[Ps h1]
 ·simp at h1
  refine dc ?_
  rw[wrap64 (n:=left - 1) (by omega) (by omega),EN,if_neg (by omega)]
  refine aw (fun k:Nat=>⟨aT [.ag, .d (.i (cV (t.kids.take k) (left - 1) (depth - 1))), .d (.i depth), .ptr 0 0, .ag, .ag, .ag, .d (.i k)],jS t.row,1⟩)
   (fun k=>k<=t.kids.length) (fun k=>t.kids.length - k) 0 (Nat.zero_le _) (aZ.d1 _ (bt rfl) ae rfl ?_) (fun k hk=> ?_)
  ·exact bZ
  have hb:=LJ (t.kids.take k) (left - 1) (depth - 1) ae
  refine dc ?_
  refine aj (fun h2=> ?_) (fun h2=> ?_)
  ·simp at h2
   obtain⟨x,hx⟩:∃x,t.kids[k]? =some x:=⟨t.kids[k],by simp[h2.1]⟩
   have dR:=List.mem_of_getElem? hx
   refine fX hx ?_
   rw[wrap64 (n:=depth - 1) (by omega) (by omega)]
   refine aF (ih x dR (l0.2 x dR) _ _ ae ae) rfl ?_
   refine dc ?_
   rw[<- EL hx _ _ h2.2]
   refine ai (k+1) h2.1 ae (aZ.d1 _ (bt rfl) ae rfl ?_)
   exact bZ
  ·refine dc ?_
   simp only[Bool.and_eq_false_iff,decide_eq_false_iff_not]at h2
   congr 3
   rcases h2 with h2|h2
   ·rw[List.take_of_length_le (by omega)]
   ·exact EM _ _ ae
theorem aaz(s:List UInt8)(hs:s.length<=9223372036854775807):aW Tryz.prog 151 [.str s] (.ret [.bool (kT s)]):=by
 refine aW.aI mix afX aJ ?_
 rw[afW]
 refine dc ?_
 refine aw (fun k:Nat=>⟨aT [.d (.str s), .ag, .ag, .d (.i k)],fun _=> .no,0⟩)
  (fun k=>k<=s.length/\(s.take k).all letterF=true) (fun k=>s.length - k) 0 ⟨Nat.zero_le _,aJ⟩ (aZ.d0 _ ?_) (fun k hk=> ?_)
 ·exact bZ
 refine dc ?_
 refine aj (fun h2=> ?_) (fun h2=> ?_)
 ·simp at h2
  obtain⟨x,hx⟩:∃x,s[k]? =some x:=⟨s[k],by simp[h2]⟩
  refine fX hx ?_
  refine aj (fun h3=> ?_) (fun h3=> ?_)
  ·refine dc ?_
   have:kT s=false:=by
    have:s.all letterF=false:=by
     rw[List.all_eq_false]
     refine⟨x,List.mem_of_getElem? hx, ?_⟩
     simp only[letterF,h3];simp
    simp[kT,this]
   rw[this]
  ·refine dc ?_
   refine ai (k+1) ⟨h2, ?_⟩ ae (aZ.d0 _ ?_)
   ·rw[List.take_add_one,hx,List.all_append,hk.2]
    simp[letterF,h3]
   ·exact bZ
 ·refine dc ?_
  refine aF (Dg _ _ _) rfl ?_
  refine dc ?_
  simp at h2
  have:=hk.2
  rw[List.take_of_length_le (by omega)]at this
  simp[kT,this]
theorem JI(l:List jX)(bs:List (List UInt8))(hl:l.length<=1000)(hb:bs.length<=1000)(hs:∀x∈l,x.name.length<=9223372036854775807):
 aW Tryz.prog 109 [.sl (l.map jX.d), .sl (bs.map .str)] (.ret [.sl (((cC l bs).getD []).map .str), .bool (cC l bs).isSome]):=by
 refine aW.aI mix afe aJ ?_
 rw[afd]
 refine dc ?_
 refine aw (fun k:Nat=>⟨aT [.d (.sl (l.map jX.d)), .d (.sl ((bs++(l.take k).map (·.name)).map .str)), .ag, .ag, .ag, .ag, .d (.i k)],fun _=> .no,0⟩)
  (fun k=>k<=l.length/\cC l bs=cC (l.drop k) (bs++(l.take k).map (·.name))) (fun k=>l.length - k) 0 ⟨Nat.zero_le _,aJ⟩ (aZ.d0 _ ?_) (fun k hk=> ?_)
 ·simp only[List.take_zero,List.map_nil,List.append_nil]
  exact bZ
 refine dc ?_
 refine aj (fun h2=> ?_) (fun h2=> ?_)
 ·simp at h2
  obtain⟨x,hx⟩:∃x,l[k]? =some x:=⟨l[k],by simp[h2]⟩
  have dR:=List.mem_of_getElem? hx
  have Ec:l.drop k=x::l.drop (k+1):=by
   rw[List.drop_eq_getElem_cons h2]
   rw[List.getElem?_eq_getElem h2]at hx;injection hx with hx;rw[hx]
  generalize hB:bs++(l.take k).map (·.name)=B at*
  have hBl:B.length<=2000:=by rw[<- hB];simp;omega
  refine dc ?_
  refine aw (fun j:Nat=>⟨aT [.d (.sl (l.map jX.d)), .d (.sl (B.map .str)), .ag, .ag, .ag, .ag, .d (.i k), .d (.i j)],fun _=> .no,0⟩)
   (fun j=>j<=B.length/\(B.take j).any (· ==x.name)=false) (fun j=>B.length - j) 0 ⟨Nat.zero_le _,aJ⟩ (aZ.d0 _ ?_) (fun j hj=> ?_)
  ·exact bZ
  refine dc ?_
  refine aj (fun h3=> ?_) (fun h3=> ?_)
  ·simp at h3
   obtain⟨y,hy⟩:∃y,B[j]? =some y:=⟨B[j],by simp[h3]⟩
   refine fX (ak hx hy) ?_
   refine aB bG ?_
   refine dc ?_
   refine aj (fun h4=> ?_) (fun h4=> ?_)
   ·refine dc ?_
    have:cC l bs=none:=by
     rw[hk.2,Ec,cC,if_pos]
     rw[List.any_eq_true]
     exact⟨y,List.mem_of_getElem? hy,h4⟩
    rw[this];rfl
   ·refine dc ?_
    refine ai (j+1) ⟨h3, ?_⟩ ae (aZ.d0 _ ?_)
    ·rw[List.take_add_one,hy,List.any_append,hj.2]
     simp only[Option.toList_some,List.any_cons,h4,List.any_nil,Bool.or_false]
    ·exact bZ
  ·simp at h3
   have aaA:=hj.2
   rw[List.take_of_length_le (by omega)]at aaA
   refine fX hx ?_
   refine aF (aaz x.name (hs x dR)) rfl ?_
   refine fX hx ?_
   refine gU (fD [.bool (ft x.args 0 4)] ?_ ?_)
   ·refine dc ?_
    exact It
   refine dc ?_
   refine aj (fun h4=> ?_) (fun h4=> ?_)
   ·refine dc ?_
    have:cC l bs=none:=by
     rw[hk.2,Ec,cC,if_neg (by rw[aaA];exact Bool.false_ne_true),if_pos h4]
    rw[this];rfl
   ·have e1:B.length<=140737488355328:=ae
    have e2:B.length*16<=140737488355328:=ae
    have e3:B.length<=140737488355327:=ae
    have e4:(B.length+1)*16<=140737488355328:=ae
    refine fX (ak hx (ak e1 (ak e2 (ak e3 e4)))) ?_
    refine aB bG ?_
    refine dc ?_
    have hn:cC l bs=cC (l.drop (k+1)) (bs++(l.take (k+1)).map (·.name)):=by
     rw[hk.2,Ec,cC,if_neg (by rw[aaA];exact Bool.false_ne_true),if_neg (by rw[h4];exact Bool.false_ne_true), <- hB,List.take_add_one,hx]
     simp
    refine ai (k+1) ⟨h2,hn⟩ ae (aZ.agl (fun _=>True) 0 _ (Nat.le_refl _) lt0 (fun _ _=>rfl) (fun _ _ _=>rfl) ?_)
    have hB2:(bs++(l.take (k+1)).map (·.name)).map D.str=B.map D.str++[D.str x.name]:=by
     rw[<- hB,List.take_add_one,hx];simp
    rw[hB2]
    exact lI
 ·refine dc ?_
  simp at h2
  have:cC l bs=some (bs++l.map (·.name)):=by
   rw[hk.2,List.drop_eq_nil_of_le (by omega),cC,List.take_of_length_le (by omega)]
  rw[this,List.take_of_length_le (by omega)]
  rfl
theorem aaB(a b:List UInt8)(m n:Int):mX Tryz.prog 100 102 (.agg [.str a, .i m]) (.agg [.str b, .i n])=some (a==b&&m==n):=by
 have h1:bz Tryz.prog 102=some (.struct [(9,0),(3,1)]):=aK
 have h2:bz Tryz.prog 9=some .str:=aK
 have h3:bz Tryz.prog 3=some .int:=aK
 have h4:cL Tryz.prog 9=some false:=aK
 have h5:cL Tryz.prog 3=some false:=aK
 simp[mX,h1,h2,h3,h4,h5,wG,NO,cT,Bj]
@[go_sem] theorem aiQ (o:Nat->aa) (oo:Bool) (a b:List UInt8) (m n:Int):ux Tryz.prog o 102 oo (.d (.agg [.str a, .i m])) (.d (.agg [.str b, .i n]))=some (.d (.bool (a==b&&m==n))):=by
  obtain⟨fs,h⟩:∃fs,Tryz.prog.underlying 102=some (.struct fs):=structOf aK
  have h2:Tryz.prog.eqGuardType Tryz.prog.depth 102=false:=aK
  unfold ux
  rw[h]
  dsimp only
  rw[if_pos h2,aaB]
  rfl
theorem LK{l:List jX}{bs B:List (List UInt8)}(h:cC l bs=some B):B=bs++l.map (·.name):=by
 induction l generalizing bs with
 |nil=>simp[cC]at h;simp[h]
 |cons x l ih=>
  simp only[cC]at h
  split at h
  ·cases h
  ·split at h
   ·cases h
   ·rw[ih h];simp
structure cB.Fits (s:cB):Prop where
 lc:s.cons.length<=9223372036854775807
 lf:s.bX.length<=9223372036854775807
 nc:∀x∈s.cons,x.name.length<=9223372036854775807
 nf:∀x∈s.bX,x.name.length<=9223372036854775807
theorem ago(s:cB)(hs:s.Fits):aW Tryz.prog 77 [s.d] (.ret [.bool (ke s)]):=by
 refine aW.aI mix aiB aJ ?_
 rw[c77]
 refine dc ?_
 refine aF (Dg _ _ _) rfl ?_
 refine dc ?_
 cases h1:(!ft s.cons.length 2 12||decide (8<(s.bX.length:Int)))with
 |true=>
  refine fX h1 ?_
  simp only[ke,h1,if_true]
 |false=>
  simp[ft]at h1
  obtain⟨a,b,r,hc⟩:∃a b r,s.cons=a::b::r:=by
   match h:s.cons with
   |[]=>exact Iu
   |[a]=>exact Iu
   |a::b::r=>exact⟨a,b,r,rfl⟩
  have nS:(!ft s.cons.length 2 12||decide (8<(s.bX.length:Int)))=false:=by simp[ft];omega
  refine fX (ak nS hc) ?_
  have LL:ke s=if(!nT a fB|| !nT b tB)=true then false else match cC s.cons []with
   |none=>false
   |some l=>(cC s.bX l).isSome:=by
   unfold ke
   rw[if_neg (by rw[nS];exact Bool.false_ne_true),hc]
   dsimp only
   rfl
  refine aj (fun h2=> ?_) (fun h2=> ?_)
  ·refine dc ?_
   have tF:(!nT a fB|| !nT b tB)=true:=h2
   rw[LL,if_pos tF]
  ·refine fX hc ?_
   have hl:(a::b::r).length<=1000:=by rw[<- hc];omega
   have hnm:=JI (a::b::r) [] hl aJ (by rw[<- hc];exact hs.nc)
   simp only[List.map_cons,List.map_nil]at hnm
   refine br hnm ?_
   have tF:(!nT a fB|| !nT b tB)=false:=h2
   rw[LL,if_neg (by rw[tF];exact Bool.false_ne_true),hc]
   cases hn:cC (a::b::r) []with
   |none=>simp+contextual only[go_sem,hn]
   |some B=>
    refine fX hn ?_
    have hB:B.length<=1000:=by
     have:=LK hn
     rw[this];simp at hl|-;omega
    have aiR:=JI s.bX B ae hB hs.nf
    refine br aiR ?_
    simp+contextual only[go_sem]
end Go.Proofs.YtnkamdiiakdkgaaGreat
