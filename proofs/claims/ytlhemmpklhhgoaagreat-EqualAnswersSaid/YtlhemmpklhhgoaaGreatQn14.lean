/-
  A PART OF THE PROOF. Conditions: none.
-/
import Derived.Test.YtlhemmpklhhgoaaGreatRows
import Derived.Shelf.SlMaps.Clone
import Derived.Test.YtlhemmpklhhgoaaGreatQn13
set_option linter.unusedSimpArgs false
set_option linter.unusedVariables false
section
namespace Go.Proofs.YtlhemmpklhhgoaaGreat
open Go.Shelf
def FP:Go.Shelf.Ren:=⟨fun|5=>100|7=>130|n=>n,fun|23=>93|25=>3|3=>33|4=>4|20=>20|n=>n,fun|n=>n⟩
theorem Yg:Go.Proofs.SlLaysW.n5 Tryz.prog FP:={
 mixed:=ai
 f5:=⟨Tryz.f100.name,bC,Tryz.func100.trans (congrArg some ai)⟩
 f7:=Tryz.func130.trans (congrArg some ai)
 t4:=Tryz.underlying4
 a4:=Tryz.isAgg4
 z4:=Tryz.sizeOf4
 v4:=Tryz.zeroValue4
 t20:=Tryz.underlying20
 a20:=Tryz.isAgg20
 z20:=Tryz.sizeOf20
 v20:=Tryz.zeroValue20
 t23:=Tryz.underlying93
 a23:=Tryz.isAgg93
 z23:=Tryz.sizeOf93
 v23:=Tryz.zeroValue93}
theorem Nf:HA Tryz.prog 100:=⟨⟨_,Tryz.func100,ai,ai⟩,fun w b es clock hb=>AnyW.maps_Clone Yg b es clock w hb⟩
end Go.Proofs.YtlhemmpklhhgoaaGreat
end
namespace Go.Proofs.YtlhemmpklhhgoaaGreat
theorem mix:Tryz.prog.follows .mixedOrders=true:=ai
def zn:Tr FD:= .e fun _=> .no
theorem zt{f:Nat->Nat}:Tr.HP (fun(g:Nat) (d:FD)=>d.Ok Tryz.prog g) zn f:=fun _=>trivial
def aez:Tr FD:=
 (.n .no (.n .no (.n .no (.n .no (.n (.fn 34 c15 [.cell 6 29, .tmp 7]) (.n .no (.n (.fn 27 c63 [.cell 6 95, .tmp 7]) zn (.n (.fn 15 aer [.tmp 6]) zn zn)) (.n .no (.n (.fn 4 XS [.tmp 2]) zn zn) zn)) (.n (.fn 9 c47 [.cell 4 33]) (.n (.fn 167 c79 [.cell 2 95, .tmp 3]) zn zn) (.n (.fn 4 XB [.tmp 2]) (.n (.fn 49 adZ []) zn zn) zn))) (.n .no (.n .no (.n .no (.n (.fn 11 adI []) zn zn) (.n (.fn 14 Ye [.tmp 4]) zn zn)) (.n (.fn 133 Xt []) (.n (.fn 8 XZ [.tmp 3]) zn zn) zn)) (.n .no zn (.n (.fn 46 XC [.tmp 2]) (.n (.fn 168 aef [.tmp 8, .tmp 9]) zn zn) zn)))) (.n .no (.n .no (.n (.fn 40 c35 [.tmp 6, .tmp 7]) (.n (.fn 45 c67 [.tmp 2, .tmp 3]) zn (.n (.fn 14 Ya [.tmp 4]) zn zn)) (.n (.fn 22 c99 [.tmp 4]) (.n (.fn 8 adX [.tmp 2]) zn zn) zn)) (.n (.fn 6 c51 [.cell 2 33]) (.n .no (.n (.fn 18 XO [.tmp 4]) zn zn) zn) (.n .no (.n (.fn 32 ad7 []) zn zn) zn))) (.n .no (.n .no zn (.n (.fn 6 Xx [.cell 2 33]) (.n (.fn 39 X2 [.cell 4 4]) zn zn) zn)) (.n .no (.n (.fn 35 c91 [.tmp 8]) zn zn) (.n .no (.n (.fn 19 X8 [.cell 0 210]) zn zn) zn))))) (.n .no (.n .no (.n .no (.n .no (.n (.fn 66 c65 [.cell 2 29]) (.n (.fn 32 XG [.tmp 4, .tmp 5, .tmp 6]) zn zn) (.n (.fn 6 aev [.tmp 2]) zn zn)) (.n .no (.n (.fn 13 XU [.tmp 4]) zn zn) zn)) (.n (.fn 10 c49 [.cell 0 29]) (.n .no (.n (.fn 28 XM [.tmp 2]) zn zn) zn) (.n .no (.n (.fn 65 ad3 []) zn zn) zn))) (.n (.fn 46 c25 [.tmp 4]) (.n .no (.n (.fn 33 c73 [.tmp 4]) zn (.n (.fn 28 aex [.tmp 8, .tmp 9]) zn zn)) (.n (.fn 8 Xv [.tmp 2]) (.n (.fn 18 X0 [.tmp 4]) zn zn) zn)) (.n .no zn (.n (.fn 15 XF [.tmp 2]) (.n (.fn 25 aej [.tmp 2]) zn zn) zn)))) (.n .no (.n (.fn 70 c21 [.tmp 4]) (.n .no (.n (.fn 9 c69 [.tmp 2]) (.n (.fn 32 XI [.tmp 6]) zn zn) (.n (.fn 27 Yc [.tmp 4]) zn zn)) (.n (.dfr 6 Na Xr 131 3 [.tmp 2] [.cell 2 36] 14 5 5 M8) (.n (.fn 17 XX [.tmp 4]) zn zn) zn)) (.n .no (.n (.fn 8 c85 [.cell 4 33]) (.n (.fn 4 XQ [.tmp 2]) zn zn) zn) (.n .no (.n (.fn 17 aeb [.tmp 4]) zn zn) zn))) (.n .no (.n .no zn (.n (.fn 17 Xz []) (.n (.fn 17 X5 [.tmp 6]) zn zn) zn)) (.n .no zn (.n .no (.n (.fn 7 aen [.tmp 2]) zn zn) zn)))))) (.n .no (.n .no (.n .no (.n (.fn 62 c16 [.cell 6 29, .tmp 7]) (.n .no (.n (.fn 45 c64 [.cell 6 95, .tmp 7]) zn (.n (.fn 36 aet [.tmp 10]) zn zn)) (.n .no (.n (.fn 16 XT [.cell 2 4]) zn zn) zn)) (.n (.fn 5 c48 [.cell 2 33]) (.n (.fn 5 c80 [.cell 2 33]) (.n (.fn 24 XL [.tmp 3]) zn zn) zn) (.n (.fn 21 QI [.cell 4 33]) (.n (.fn 56 ad1 []) zn zn) zn))) (.n (.fn 94 c24 [.cell 2 43, .tmp 3]) (.n (.fn 46 c40 [.tmp 4]) (.n .no (.n (.fn 14 XK []) zn zn) (.n (.fn 14 Yf [.tmp 4]) zn zn)) (.n (.fn 9 Xu [.tmp 2]) zn zn)) (.n .no (.n (.fn 9 c88 [.tmp 4]) zn zn) (.n (.fn 14 XE [.tmp 6]) (.n (.fn 19 aeh [.tmp 2]) zn zn) zn)))) (.n .no (.n .no (.n .no (.n (.fn 33 c68 [.cell 4 33]) (.n (.fn 47 XH []) zn zn) (.n (.fn 27 Yb [.tmp 4]) zn zn)) (.n .mpc (.n (.fn 8 XW []) zn zn) zn)) (.n (.fn 2 c52 [.cell 0 33]) (.n .no (.n (.fn 34 XP [.cell 6 4]) zn zn) zn) (.n .no (.n (.fn 133 ad9 [.tmp 6]) zn zn) zn))) (.n .no (.n .no zn (.n (.fn 24 Xy [.tmp 4]) (.n (.fn 8 X4 []) zn zn) zn)) (.n (.fn 42 c60 [.tmp 4]) zn (.n .no (.n (.fn 76 ael []) zn zn) zn))))) (.n .no (.n .no (.n .no (.n .no (.n (.fn 16 c66 [.tmp 4]) zn (.n (.fn 14 X9 [.tmp 4]) zn zn)) (.n .no (.n (.fn 134 adV []) zn zn) zn)) (.n (.fn 2 c50 [.cell 0 33]) (.n .no (.n (.fn 15 XN [.tmp 6]) zn zn) zn) (.n .no (.n (.fn 57 ad5 [.tmp 6, .tmp 7]) zn zn) zn))) (.n .no (.n .no (.n (.fn 50 c74 [.tmp 4]) zn zn) (.n (.fn 8 Xw [.tmp 2]) (.n (.fn 7 X1 [.tmp 3]) zn zn) zn)) (.n .no zn (.n .no (.n (.fn 19 X7 [.tmp 4]) zn zn) zn)))) (.n (.fn 101 c14 [.tmp 0]) (.n .no (.n .no (.n .no (.n (.fn 5 XJ [.tmp 2]) zn zn) (.n (.fn 27 Yd [.tmp 4]) zn zn)) (.n (.fn 7 Xs []) (.n (.fn 9 XY [.tmp 4]) zn zn) zn)) (.n .no zn (.n .no (.n (.fn 84 aed [.tmp 8]) zn zn) zn))) (.n .no (.n (.fn 10 c46 [.cell 0 29]) zn (.n (.fn 9 XA [.tmp 2]) (.n (.fn 10 X6 [.tmp 4]) zn zn) zn)) (.n (.fn 12 c62 [.cell 0 24]) (.n .no (.n (.fn 13 XR [.tmp 4]) zn zn) zn) (.n (.fn 19 QJ [.tmp 4]) (.n (.fn 33 aep [.tmp 2]) zn zn) zn)))))))
noncomputable def bX:Nat->FD:=aez.get
theorem ij:∀g,(bX g).Ok Tryz.prog g:=
 Tr.Be (p:=fun g d=>d.Ok Tryz.prog g) (f:=fun g=>g) aez
   ⟨trivial,⟨trivial,⟨trivial,⟨trivial,⟨ac4,⟨trivial,⟨adb,zt,⟨aes,zt,zt⟩⟩,⟨trivial,⟨UA,zt,zt⟩,zt⟩⟩,⟨agD,⟨adm,zt,zt⟩,⟨Uk,⟨ad0,zt,zt⟩,zt⟩⟩⟩,⟨trivial,⟨trivial,⟨trivial,⟨adJ,zt,zt⟩,⟨UU,zt,zt⟩⟩,⟨Uc,⟨UG,zt,zt⟩,zt⟩⟩,⟨trivial,zt,⟨Ul,⟨aeg,zt,zt⟩,zt⟩⟩⟩⟩,⟨trivial,⟨trivial,⟨ac7,⟨adh,zt,⟨UQ,zt,zt⟩⟩,⟨adr,⟨adY,zt,zt⟩,zt⟩⟩,⟨agG,⟨trivial,⟨Uw,zt,zt⟩,zt⟩,⟨trivial,⟨ad8,zt,zt⟩,zt⟩⟩⟩,⟨trivial,⟨trivial,zt,⟨Ug,⟨UJ,zt,zt⟩,zt⟩⟩,⟨trivial,⟨adq,zt,zt⟩,⟨trivial,⟨UO,zt,zt⟩,zt⟩⟩⟩⟩⟩,⟨trivial,⟨trivial,⟨trivial,⟨trivial,⟨adf,⟨Uo,zt,zt⟩,⟨aew,zt,zt⟩⟩,⟨trivial,⟨UC,zt,zt⟩,zt⟩⟩,⟨agE,⟨trivial,⟨Uu,zt,zt⟩,zt⟩,⟨trivial,⟨ad4,zt,zt⟩,zt⟩⟩⟩,⟨agr,⟨trivial,⟨adk,zt,⟨aey,zt,zt⟩⟩,⟨Ue,⟨UH,zt,zt⟩,zt⟩⟩,⟨trivial,zt,⟨Un,⟨aek,zt,zt⟩,zt⟩⟩⟩⟩,⟨trivial,⟨ac6,⟨trivial,⟨adj,⟨Uq,zt,zt⟩,⟨US,zt,zt⟩⟩,⟨⟨Nb,M9⟩,⟨UE,zt,zt⟩,zt⟩⟩,⟨trivial,⟨adp,⟨Uy,zt,zt⟩,zt⟩,⟨trivial,⟨aec,zt,zt⟩,zt⟩⟩⟩,⟨trivial,⟨trivial,zt,⟨Ui,⟨UL,zt,zt⟩,zt⟩⟩,⟨trivial,zt,⟨trivial,⟨aeo,zt,zt⟩,zt⟩⟩⟩⟩⟩⟩,⟨trivial,⟨trivial,⟨trivial,⟨ac5,⟨trivial,⟨ade,zt,⟨aeu,zt,zt⟩⟩,⟨trivial,⟨UB,zt,zt⟩,zt⟩⟩,⟨ac9,⟨adn,⟨Ut,zt,zt⟩,zt⟩,⟨Nc,⟨ad2,zt,zt⟩,zt⟩⟩⟩,⟨agq,⟨ac8,⟨trivial,⟨Us,zt,zt⟩,⟨UW,zt,zt⟩⟩,⟨Ud,zt,zt⟩⟩,⟨trivial,⟨Xq,zt,zt⟩,⟨Um,⟨aei,zt,zt⟩,zt⟩⟩⟩⟩,⟨trivial,⟨trivial,⟨trivial,⟨adi,⟨Up,zt,zt⟩,⟨UR,zt,zt⟩⟩,⟨Nf,⟨UD,zt,zt⟩,zt⟩⟩,⟨agH,⟨trivial,⟨Ux,zt,zt⟩,zt⟩,⟨trivial,⟨aea,zt,zt⟩,zt⟩⟩⟩,⟨trivial,⟨trivial,zt,⟨Uh,⟨UK,zt,zt⟩,zt⟩⟩,⟨ada,zt,⟨trivial,⟨aem,zt,zt⟩,zt⟩⟩⟩⟩⟩,⟨trivial,⟨trivial,⟨trivial,⟨trivial,⟨adg,zt,⟨UP,zt,zt⟩⟩,⟨trivial,⟨adW,zt,zt⟩,zt⟩⟩,⟨agF,⟨trivial,⟨Uv,zt,zt⟩,zt⟩,⟨trivial,⟨ad6,zt,zt⟩,zt⟩⟩⟩,⟨trivial,⟨trivial,⟨adl,zt,zt⟩,⟨Uf,⟨UI,zt,zt⟩,zt⟩⟩,⟨trivial,zt,⟨trivial,⟨UN,zt,zt⟩,zt⟩⟩⟩⟩,⟨agn,⟨trivial,⟨trivial,⟨trivial,⟨Ur,zt,zt⟩,⟨UT,zt,zt⟩⟩,⟨Ub,⟨UF,zt,zt⟩,zt⟩⟩,⟨trivial,zt,⟨trivial,⟨aee,zt,zt⟩,zt⟩⟩⟩,⟨trivial,⟨agC,zt,⟨Uj,⟨UM,zt,zt⟩,zt⟩⟩,⟨agJ,⟨trivial,⟨Uz,zt,zt⟩,zt⟩,⟨Nd,⟨aeq,zt,zt⟩,zt⟩⟩⟩⟩⟩⟩⟩
end Go.Proofs.YtlhemmpklhhgoaaGreat
namespace Go.Proofs.YtlhemmpklhhgoaaGreat
@[go_sem] theorem cellsOf_3:Tryz.prog.cellsOf 3=1:=ai
@[go_sem] theorem bytesOf_3:Tryz.prog.bytesOf 3=8:=ai
@[go_sem] theorem aggT_3:dm Tryz.prog 3=some false:=ai
@[go_sem] theorem intT_3:pq Tryz.prog 3=some .i64:=ai
@[go_sem] theorem infoT_3:(Tryz.prog.info? 3).isSome=true:=ai
@[go_sem] theorem undT_3:Tryz.prog.underlying 3=some (.int .i64):=ai
@[go_sem] theorem eqShape_3:bP Tryz.prog 3=some .int:=ai
@[go_sem] theorem zeroT_3:cG Tryz.prog 3=some [.d (.int .i64 0)]:=ai
@[go_sem] theorem cellsOf_4:Tryz.prog.cellsOf 4=1:=ai
@[go_sem] theorem aggT_4:dm Tryz.prog 4=some false:=ai
@[go_sem] theorem infoT_4:(Tryz.prog.info? 4).isSome=true:=ai
@[go_sem] theorem undT_4:Tryz.prog.underlying 4=some .bool:=ai
@[go_sem] theorem zeroT_4:cG Tryz.prog 4=some [.d (.bool false)]:=ai
@[go_sem] theorem zeroV_4:zeroV Tryz.prog 4=some (.d (.bool false)):=ai
@[go_sem] theorem cellsOf_5:Tryz.prog.cellsOf 5=1:=ai
@[go_sem] theorem aggT_5:dm Tryz.prog 5=some false:=ai
@[go_sem] theorem undT_5:Tryz.prog.underlying 5=some (.int .u8):=ai
@[go_sem] theorem cellsOf_9:Tryz.prog.cellsOf 9=1:=ai
@[go_sem] theorem bytesOf_9:Tryz.prog.bytesOf 9=16:=ai
@[go_sem] theorem aggT_9:dm Tryz.prog 9=some false:=ai
@[go_sem] theorem undT_9:Tryz.prog.underlying 9=some .string:=ai
@[go_sem] theorem eqShape_9:bP Tryz.prog 9=some .str:=ai
@[go_sem] theorem zeroT_9:cG Tryz.prog 9=some [.d (.str [])]:=ai
@[go_sem] theorem sliceT_22:b8 Tryz.prog 22=some 124:=ai
@[go_sem] theorem aggT_22:dm Tryz.prog 22=some false:=ai
@[go_sem] theorem intT_22:pq Tryz.prog 22=none:=ai
@[go_sem] theorem undT_22:Tryz.prog.underlying 22=some (.slice 124):=ai
@[go_sem] theorem cellsOf_24:Tryz.prog.cellsOf 24=2:=ai
@[go_sem] theorem aggT_24:dm Tryz.prog 24=some true:=ai
@[go_sem] theorem zeroT_24:cG Tryz.prog 24=some [.aw, .aw]:=ai
@[go_sem] theorem placesT_24:cR Tryz.prog 24=some [(0,1),(1,1)]:=ai
@[go_sem] theorem cellsOf_25:Tryz.prog.cellsOf 25=1:=ai
@[go_sem] theorem sliceT_25:b8 Tryz.prog 25=some 59:=ai
@[go_sem] theorem aggT_25:dm Tryz.prog 25=some false:=ai
@[go_sem] theorem intT_25:pq Tryz.prog 25=none:=ai
@[go_sem] theorem infoT_25:(Tryz.prog.info? 25).isSome=true:=ai
@[go_sem] theorem undT_25:Tryz.prog.underlying 25=some (.slice 59):=ai
@[go_sem] theorem cellsOf_26:Tryz.prog.cellsOf 26=1:=ai
@[go_sem] theorem sliceT_26:b8 Tryz.prog 26=some 101:=ai
@[go_sem] theorem aggT_26:dm Tryz.prog 26=some false:=ai
@[go_sem] theorem intT_26:pq Tryz.prog 26=none:=ai
@[go_sem] theorem infoT_26:(Tryz.prog.info? 26).isSome=true:=ai
@[go_sem] theorem undT_26:Tryz.prog.underlying 26=some (.slice 101):=ai
@[go_sem] theorem sliceT_27:b8 Tryz.prog 27=some 77:=ai
@[go_sem] theorem aggT_27:dm Tryz.prog 27=some false:=ai
@[go_sem] theorem intT_27:pq Tryz.prog 27=none:=ai
@[go_sem] theorem undT_27:Tryz.prog.underlying 27=some (.slice 77):=ai
@[go_sem] theorem cellsOf_29:Tryz.prog.cellsOf 29=5:=ai
@[go_sem] theorem aggT_29:dm Tryz.prog 29=some true:=ai
@[go_sem] theorem infoT_29:(Tryz.prog.info? 29).isSome=true:=ai
@[go_sem] theorem zeroT_29:cG Tryz.prog 29=some [.aw, .aw, .aw, .aw, .aw]:=ai
@[go_sem] theorem placesT_29:cR Tryz.prog 29=some [(0,2),(2,1),(3,1),(4,1)]:=ai
@[go_sem] theorem aggT_30:dm Tryz.prog 30=some false:=ai
@[go_sem] theorem undT_30:Tryz.prog.underlying 30=some (.int .i64):=ai
@[go_sem] theorem cellsOf_31:Tryz.prog.cellsOf 31=1:=ai
@[go_sem] theorem sliceT_31:b8 Tryz.prog 31=some 33:=ai
@[go_sem] theorem aggT_31:dm Tryz.prog 31=some false:=ai
@[go_sem] theorem intT_31:pq Tryz.prog 31=none:=ai
@[go_sem] theorem infoT_31:(Tryz.prog.info? 31).isSome=true:=ai
@[go_sem] theorem undT_31:Tryz.prog.underlying 31=some (.slice 33):=ai
@[go_sem] theorem cellsOf_33:Tryz.prog.cellsOf 33=3:=ai
@[go_sem] theorem bytesOf_33:Tryz.prog.bytesOf 33=40:=ai
@[go_sem] theorem aggT_33:dm Tryz.prog 33=some true:=ai
@[go_sem] theorem infoT_33:(Tryz.prog.info? 33).isSome=true:=ai
@[go_sem] theorem zeroT_33:cG Tryz.prog 33=some [.d (.int .i64 0), .d (.int .i64 0), .aw]:=ai
@[go_sem] theorem zeroV_33:zeroV Tryz.prog 33=some (mX [.d (.int .i64 0), .d (.int .i64 0), .aw]):=ai
@[go_sem] theorem placesT_33:cR Tryz.prog 33=some [(0,1),(1,1),(2,1)]:=ai
@[go_sem] theorem cellsOf_36:Tryz.prog.cellsOf 36=1:=ai
@[go_sem] theorem aggT_36:dm Tryz.prog 36=some false:=ai
@[go_sem] theorem infoT_36:(Tryz.prog.info? 36).isSome=true:=ai
@[go_sem] theorem zeroT_36:cG Tryz.prog 36=some [.d (.int .i64 0)]:=ai
@[go_sem] theorem sliceT_48:b8 Tryz.prog 48=some 53:=ai
@[go_sem] theorem intT_48:pq Tryz.prog 48=none:=ai
@[go_sem] theorem undT_48:Tryz.prog.underlying 48=some (.slice 53):=ai
@[go_sem] theorem sliceT_49:b8 Tryz.prog 49=some 5:=ai
@[go_sem] theorem undT_49:Tryz.prog.underlying 49=some (.slice 5):=ai
@[go_sem] theorem cellsOf_53:Tryz.prog.cellsOf 53=7:=ai
@[go_sem] theorem bytesOf_53:Tryz.prog.bytesOf 53=88:=ai
@[go_sem] theorem aggT_53:dm Tryz.prog 53=some true:=ai
@[go_sem] theorem infoT_53:(Tryz.prog.info? 53).isSome=true:=ai
@[go_sem] theorem zeroT_53:cG Tryz.prog 53=some [.d (.int .i64 0), .d (.int .i64 0), .aw, .d (.int .i64 0), .d (.int .i64 0), .aw, .d (.bool false)]:=ai
@[go_sem] theorem placesT_53:cR Tryz.prog 53=some [(0,3),(3,3),(6,1)]:=ai
@[go_sem] theorem cellsOf_59:Tryz.prog.cellsOf 59=4:=ai
@[go_sem] theorem bytesOf_59:Tryz.prog.bytesOf 59=48:=ai
@[go_sem] theorem aggT_59:dm Tryz.prog 59=some true:=ai
@[go_sem] theorem infoT_59:(Tryz.prog.info? 59).isSome=true:=ai
@[go_sem] theorem zeroT_59:cG Tryz.prog 59=some [.d (.int .i64 0), .d (.int .i64 0), .d (.int .i64 0), .aw]:=ai
@[go_sem] theorem placesT_59:cR Tryz.prog 59=some [(0,1),(1,3)]:=ai
@[go_sem] theorem cellsOf_77:Tryz.prog.cellsOf 77=2:=ai
@[go_sem] theorem bytesOf_77:Tryz.prog.bytesOf 77=16:=ai
@[go_sem] theorem aggT_77:dm Tryz.prog 77=some true:=ai
@[go_sem] theorem infoT_77:(Tryz.prog.info? 77).isSome=true:=ai
@[go_sem] theorem zeroT_77:cG Tryz.prog 77=some [.d (.int .i64 0), .d (.int .i64 0)]:=ai
@[go_sem] theorem placesT_77:cR Tryz.prog 77=some [(0,1),(1,1)]:=ai
@[go_sem] theorem cellsOf_90:Tryz.prog.cellsOf 90=1:=ai
@[go_sem] theorem aggT_90:dm Tryz.prog 90=some false:=ai
@[go_sem] theorem infoT_90:(Tryz.prog.info? 90).isSome=true:=ai
@[go_sem] theorem zeroT_90:cG Tryz.prog 90=some [.d .cF]:=ai
@[go_sem] theorem cellsOf_93:Tryz.prog.cellsOf 93=1:=ai
@[go_sem] theorem aggT_93:dm Tryz.prog 93=some false:=ai
@[go_sem] theorem infoT_93:(Tryz.prog.info? 93).isSome=true:=ai
@[go_sem] theorem undT_93:Tryz.prog.underlying 93=some (.map 3 33):=ai
@[go_sem] theorem mapT_93:sK Tryz.prog 93=some (3,33):=ai
@[go_sem] theorem cellsOf_95:Tryz.prog.cellsOf 95=6:=ai
@[go_sem] theorem aggT_95:dm Tryz.prog 95=some true:=ai
@[go_sem] theorem infoT_95:(Tryz.prog.info? 95).isSome=true:=ai
@[go_sem] theorem zeroT_95:cG Tryz.prog 95=some [.aw, .aw, .aw, .aw, .aw, .d .dL]:=ai
@[go_sem] theorem placesT_95:cR Tryz.prog 95=some [(0,5),(5,1)]:=ai
@[go_sem] theorem cellsOf_101:Tryz.prog.cellsOf 101=6:=ai
@[go_sem] theorem bytesOf_101:Tryz.prog.bytesOf 101=80:=ai
@[go_sem] theorem aggT_101:dm Tryz.prog 101=some true:=ai
@[go_sem] theorem infoT_101:(Tryz.prog.info? 101).isSome=true:=ai
@[go_sem] theorem zeroT_101:cG Tryz.prog 101=some [.d (.int .i64 0), .d (.int .i64 0), .aw, .d (.int .i64 0), .d (.int .i64 0), .aw]:=ai
@[go_sem] theorem placesT_101:cR Tryz.prog 101=some [(0,3),(3,3)]:=ai
@[go_sem] theorem cellsOf_106:Tryz.prog.cellsOf 106=6:=ai
@[go_sem] theorem bytesOf_106:Tryz.prog.bytesOf 106=80:=ai
@[go_sem] theorem sliceT_106:b8 Tryz.prog 106=none:=ai
@[go_sem] theorem arrT_106:Ao Tryz.prog 106=some (2,33):=ai
@[go_sem] theorem aggT_106:dm Tryz.prog 106=some true:=ai
@[go_sem] theorem infoT_106:(Tryz.prog.info? 106).isSome=true:=ai
@[go_sem] theorem zeroT_106:cG Tryz.prog 106=some [.d (.int .i64 0), .d (.int .i64 0), .aw, .d (.int .i64 0), .d (.int .i64 0), .aw]:=ai
@[go_sem] theorem placesT_106:cR Tryz.prog 106=some [(0,3),(3,3)]:=ai
@[go_sem] theorem sliceT_117:b8 Tryz.prog 117=some 106:=ai
@[go_sem] theorem aggT_117:dm Tryz.prog 117=some false:=ai
@[go_sem] theorem intT_117:pq Tryz.prog 117=none:=ai
@[go_sem] theorem undT_117:Tryz.prog.underlying 117=some (.slice 106):=ai
@[go_sem] theorem cellsOf_124:Tryz.prog.cellsOf 124=2:=ai
@[go_sem] theorem bytesOf_124:Tryz.prog.bytesOf 124=24:=ai
@[go_sem] theorem aggT_124:dm Tryz.prog 124=some true:=ai
@[go_sem] theorem infoT_124:(Tryz.prog.info? 124).isSome=true:=ai
@[go_sem] theorem zeroT_124:cG Tryz.prog 124=some [.d (.str []), .d (.int .i64 0)]:=ai
@[go_sem] theorem placesT_124:cR Tryz.prog 124=some [(0,1),(1,1)]:=ai
@[go_sem] theorem cellsOf_134:Tryz.prog.cellsOf 134=1:=ai
@[go_sem] theorem aggT_134:dm Tryz.prog 134=some false:=ai
@[go_sem] theorem infoT_134:(Tryz.prog.info? 134).isSome=true:=ai
@[go_sem] theorem zeroT_134:cG Tryz.prog 134=some [.d .lP]:=ai
@[go_sem] theorem zeroT_137:cG Tryz.prog 137=some [.d .dL, .aw, .d (.bool false)]:=ai
@[go_sem] theorem placesT_137:cR Tryz.prog 137=some [(0,1),(1,1),(2,1)]:=ai
@[go_sem] theorem cellsOf_142:Tryz.prog.cellsOf 142=1:=ai
@[go_sem] theorem sliceT_142:b8 Tryz.prog 142=some 3:=ai
@[go_sem] theorem aggT_142:dm Tryz.prog 142=some false:=ai
@[go_sem] theorem intT_142:pq Tryz.prog 142=none:=ai
@[go_sem] theorem infoT_142:(Tryz.prog.info? 142).isSome=true:=ai
@[go_sem] theorem undT_142:Tryz.prog.underlying 142=some (.slice 3):=ai
@[go_sem] theorem sliceT_148:b8 Tryz.prog 148=some 9:=ai
@[go_sem] theorem intT_148:pq Tryz.prog 148=none:=ai
@[go_sem] theorem undT_148:Tryz.prog.underlying 148=some (.slice 9):=ai
@[go_sem] theorem cellsOf_154:Tryz.prog.cellsOf 154=1:=ai
@[go_sem] theorem aggT_154:dm Tryz.prog 154=some false:=ai
@[go_sem] theorem infoT_154:(Tryz.prog.info? 154).isSome=true:=ai
@[go_sem] theorem zeroT_154:cG Tryz.prog 154=some [.d .cF]:=ai
@[go_sem] theorem cellsOf_162:Tryz.prog.cellsOf 162=0:=ai
@[go_sem] theorem infoT_162:(Tryz.prog.info? 162).isSome=true:=ai
@[go_sem] theorem plainIface_162:mI Tryz.prog 162=true:=ai
@[go_sem] theorem zeroT_162:cG Tryz.prog 162=some []:=ai
@[go_sem] theorem zeroV_162:zeroV Tryz.prog 162=some (mX []):=ai
@[go_sem] theorem placesT_162:cR Tryz.prog 162=some []:=ai
@[go_sem] theorem cellsOf_163:Tryz.prog.cellsOf 163=0:=ai
@[go_sem] theorem infoT_163:(Tryz.prog.info? 163).isSome=true:=ai
@[go_sem] theorem plainIface_163:mI Tryz.prog 163=true:=ai
@[go_sem] theorem zeroT_163:cG Tryz.prog 163=some []:=ai
@[go_sem] theorem zeroV_163:zeroV Tryz.prog 163=some (mX []):=ai
@[go_sem] theorem placesT_163:cR Tryz.prog 163=some []:=ai
@[go_sem] theorem zeroT_164:cG Tryz.prog 164=some [.d (.int .i64 0), .d (.int .i64 0)]:=ai
@[go_sem] theorem placesT_164:cR Tryz.prog 164=some [(0,1),(1,1)]:=ai
@[go_sem] theorem aggT_168:dm Tryz.prog 168=some false:=ai
@[go_sem] theorem cellsOf_175:Tryz.prog.cellsOf 175=1:=ai
@[go_sem] theorem aggT_175:dm Tryz.prog 175=some false:=ai
@[go_sem] theorem infoT_175:(Tryz.prog.info? 175).isSome=true:=ai
@[go_sem] theorem mapT_175:sK Tryz.prog 175=some (9,4):=ai
@[go_sem] theorem zeroT_175:cG Tryz.prog 175=some [.d .dL]:=ai
@[go_sem] theorem cellsOf_178:Tryz.prog.cellsOf 178=1:=ai
@[go_sem] theorem aggT_178:dm Tryz.prog 178=some false:=ai
@[go_sem] theorem infoT_178:(Tryz.prog.info? 178).isSome=true:=ai
@[go_sem] theorem mapT_178:sK Tryz.prog 178=some (3,4):=ai
@[go_sem] theorem zeroT_178:cG Tryz.prog 178=some [.d .dL]:=ai
@[go_sem] theorem cellsOf_209:Tryz.prog.cellsOf 209=1:=ai
@[go_sem] theorem aggT_209:dm Tryz.prog 209=some false:=ai
@[go_sem] theorem infoT_209:(Tryz.prog.info? 209).isSome=true:=ai
@[go_sem] theorem cellsOf_210:Tryz.prog.cellsOf 210=16:=ai
@[go_sem] theorem sliceT_210:b8 Tryz.prog 210=none:=ai
@[go_sem] theorem arrT_210:Ao Tryz.prog 210=some (16,209):=ai
@[go_sem] theorem aggT_210:dm Tryz.prog 210=some true:=ai
@[go_sem] theorem infoT_210:(Tryz.prog.info? 210).isSome=true:=ai
@[go_sem] theorem zeroT_210:cG Tryz.prog 210=some [.d .cF, .d .cF, .d .cF, .d .cF, .d .cF, .d .cF, .d .cF, .d .cF, .d .cF, .d .cF, .d .cF, .d .cF, .d .cF, .d .cF, .d .cF, .d .cF]:=ai
@[go_sem] theorem placesT_210:cR Tryz.prog 210=some [(0,1),(1,1),(2,1),(3,1),(4,1),(5,1),(6,1),(7,1),(8,1),(9,1),(10,1),(11,1),(12,1),(13,1),(14,1),(15,1)]:=ai
@[go_sem] theorem zeroT_213:cG Tryz.prog 213=some [.aw, .aw]:=ai
@[go_sem] theorem placesT_213:cR Tryz.prog 213=some [(0,2)]:=ai
@[go_sem] theorem fieldT_24_0:b7 Tryz.prog 24 0=some 0:=ai
@[go_sem] theorem fieldT_24_1:b7 Tryz.prog 24 1=some 1:=ai
@[go_sem] theorem fieldT_29_0:b7 Tryz.prog 29 0=some 0:=ai
@[go_sem] theorem fieldT_29_1:b7 Tryz.prog 29 1=some 2:=ai
@[go_sem] theorem fieldT_29_2:b7 Tryz.prog 29 2=some 3:=ai
@[go_sem] theorem fieldT_29_3:b7 Tryz.prog 29 3=some 4:=ai
@[go_sem] theorem fieldT_33_0:b7 Tryz.prog 33 0=some 0:=ai
@[go_sem] theorem fieldT_33_1:b7 Tryz.prog 33 1=some 1:=ai
@[go_sem] theorem fieldT_33_2:b7 Tryz.prog 33 2=some 2:=ai
@[go_sem] theorem fieldT_53_0:b7 Tryz.prog 53 0=some 0:=ai
@[go_sem] theorem fieldT_53_1:b7 Tryz.prog 53 1=some 3:=ai
@[go_sem] theorem fieldT_53_2:b7 Tryz.prog 53 2=some 6:=ai
@[go_sem] theorem fieldT_59_0:b7 Tryz.prog 59 0=some 0:=ai
@[go_sem] theorem fieldT_59_1:b7 Tryz.prog 59 1=some 1:=ai
@[go_sem] theorem fieldT_77_0:b7 Tryz.prog 77 0=some 0:=ai
@[go_sem] theorem fieldT_77_1:b7 Tryz.prog 77 1=some 1:=ai
@[go_sem] theorem fieldT_95_0:b7 Tryz.prog 95 0=some 0:=ai
@[go_sem] theorem fieldT_95_1:b7 Tryz.prog 95 1=some 5:=ai
@[go_sem] theorem fieldT_101_0:b7 Tryz.prog 101 0=some 0:=ai
@[go_sem] theorem fieldT_101_1:b7 Tryz.prog 101 1=some 3:=ai
@[go_sem] theorem fieldT_124_0:b7 Tryz.prog 124 0=some 0:=ai
@[go_sem] theorem fieldT_124_1:b7 Tryz.prog 124 1=some 1:=ai
@[go_sem] theorem fieldT_137_0:b7 Tryz.prog 137 0=some 0:=ai
@[go_sem] theorem fieldT_137_1:b7 Tryz.prog 137 1=some 1:=ai
@[go_sem] theorem fieldT_137_2:b7 Tryz.prog 137 2=some 2:=ai
@[go_sem] theorem fieldT_213_0:b7 Tryz.prog 213 0=some 0:=ai
section
def kC(x y:ab):Prop:=(x.cA=true->y.cA=true)/\∀e,x.cz=some e->y.cz=some e
theorem kC.rfl' {x y:ab}(h:x=y):kC x y:=h ▸ ⟨id,fun _ h=>h⟩
theorem kC.fz (x:ab):kC x.fz x:=by cases x<;>exact⟨id,fun _ h=>h⟩
theorem kC.row (cs cs':List V):kC (.row cs) (.row cs'):=⟨fun _=>rfl,fun _ h=>by cases h⟩
mutual
theorem V.kn {B B':Nat->Prop}{φ aJ:Place}{H H':Hp}{w:World}(hB:∀b, ¬B b-> ¬B' b):∀ (v:V) (val:Value),(∀id∈v.refs,kC (H'.o id) (H.o id)/\aJ id=φ id/\H'.us id)->V.den B φ H w v val->V.den B' aJ H' w v val
 | .d x,val,_,h=>D.aT (w:=w) (w':=w) (fun b _ hn=>⟨rfl,hB b hn⟩) x val h
 | .aw,_,_,h=>h
 | .ad,_,_,_=>trivial
 | .fF,_,_,h=>h
 | .pF es,val,_,h=>⟨D.aT (w:=w) (w':=w) (fun b _ hn=>⟨rfl,hB b hn⟩) (.sl es) val h.1,h.2⟩
 | .agg cs,val,hr,h=>by
   obtain⟨a,rfl,h1,h2⟩:=h
   exact⟨a,rfl,V.eI hB cs _ ym h1,h2⟩
 | .bW cs,val,hr,h=>by
   obtain⟨a,rfl,h1⟩:=h
   exact⟨a,rfl,V.eI hB cs _ ym h1⟩
 | .ptr id off,val,hr,h=>by
   exact VQ
 | .osl id ep,val,hr,h=>by
   obtain⟨a,b,c⟩:=hr id pk
   obtain⟨h0,h1,h2⟩:=h
   refine⟨h0,c,fun e he=> ?_⟩
   obtain⟨x,y⟩:=h2 e (a.2 e he)
   exact⟨x,fun heq=>(y heq).trans b.symm⟩
 | .pe id ep i sz off,val,hr,h=>by
   obtain⟨a,b,c⟩:=hr id pk
   obtain⟨h0,h1,h2⟩:=h
   refine⟨h0,c,fun e he=> ?_⟩
   obtain⟨x,y⟩:=h2 e (a.2 e he)
   exact SS
 | .pp cs off,val,_,h=>by
   obtain⟨a,ev,h1,h2,h3,h5,h4⟩:=h
   exact aaG
 | .func fn first cap,val,hr,h=>by
   obtain⟨f,c,rfl,h1,h2⟩:=h
   exact⟨f,c,rfl,V.eI hB first _ (fun id ax=>hr id (by simp[V.refs,ax])) h1,V.eI hB cap _ (fun id ax=>hr id (by simp[V.refs,ax])) h2⟩
 | .iface t x,val,hr,h=>by
   obtain⟨u,rfl,h⟩:=h
   exact⟨u,rfl,V.kn hB x u ym h⟩
 | .yA id off n,val,hr,h=>by
   exact VQ
 | .mp id,val,hr,h=>by
   obtain⟨a,b,c⟩:=hr id pk
   obtain⟨h0,h1,h2⟩:=h
   refine⟨h0,c,fun da=> ?_⟩
   exact(h2 (a.1 da)).trans b.symm
 | .kM id,val,hr,h=>by
   exact VQ
theorem V.eI {B B':Nat->Prop}{φ aJ:Place}{H H':Hp}{w:World}(hB:∀b, ¬B b-> ¬B' b):∀ (vs:List V) (vals:List Value),(∀id∈V.aL vs,kC (H'.o id) (H.o id)/\aJ id=φ id/\H'.us id)->V.aF B φ H w vs vals->V.aF B' aJ H' w vs vals
 |[],_,_,h=>h
 |v::vs,_,hr,h=>by
  obtain⟨u,us,rfl,h1,h2⟩:=h
  exact⟨u,us,rfl,V.kn hB v u (fun id ax=>hr id (by simp[V.aL,ax])) h1,V.eI hB vs us (fun id ax=>hr id (by simp[V.aL,ax])) h2⟩
end
mutual
theorem V.jN {B:Nat->Prop}{φ:Place}{H:Hp}{w:World}:∀ (v:V) (val:Value),V.den B φ H w v val->∀id∈v.refs,H.us id
 | .osl id ep,_,h,j,hj| .ptr id off,_,h,j,hj| .pe id ep i sz off,_,h,j,hj| .yA id off n,_,h,j,hj| .mp id,_,h,j,hj| .kM id,_,h,j,hj=>by simp[V.refs]at hj;subst hj;exact h.2.1
 | .agg cs,_,h,j,hj=>by obtain⟨a,rfl,h,_⟩:=h;exact V.ej cs _ h j (by simpa[V.refs]using hj)
 | .bW cs,_,h,j,hj=>by obtain⟨a,rfl,h⟩:=h;exact V.ej cs _ h j (by simpa[V.refs]using hj)
 | .func fn first cap,_,h,j,hj=>by
   obtain⟨f,c,rfl,h1,h2⟩:=h
   rcases List.mem_append.1 (show j∈V.aL first++V.aL cap by simpa[V.refs]using hj)with hj|hj
   ·exact V.ej first _ h1 j hj
   ·exact V.ej cap _ h2 j hj
 | .iface t x,_,h,j,hj=>by obtain⟨u,rfl,h⟩:=h;exact V.jN x u h j (by simpa[V.refs]using hj)
 | .d _,_,_,_,hj| .aw,_,_,_,hj| .pp _ _,_,_,_,hj| .ad,_,_,_,hj| .pF _,_,_,_,hj| .fF,_,_,_,hj=>by simp[V.refs]at hj
theorem V.ej {B:Nat->Prop}{φ:Place}{H:Hp}{w:World}:∀ (vs:List V) (vals:List Value),V.aF B φ H w vs vals->∀id∈V.aL vs,H.us id
 |[],_,_,j,hj=>by simp[V.aL]at hj
 |v::vs,_,h,j,hj=>by
  obtain⟨u,us,rfl,h1,h2⟩:=h
  rcases List.mem_append.1 (show j∈v.refs++V.aL vs by simpa[V.aL]using hj)with hj|hj
  ·exact V.jN v u h1 j hj
  ·exact V.ej vs us h2 j hj
end
def fW(so:Nat->ab)(gone:Nat->Prop)(ty:TypeId)(sz:Nat)(es:List D)(x:V):Prop:=
 (x= .aw/\es=[]/\0<sz)\/∃id ep,gone id/\x= .osl id ep/\so id= .arr ep ty sz es
theorem Ng{xs ys:List Nat}:lu xs ys=true↔∀x∈xs,x∉ys:=by
 simp[lu,List.all_eq_true]
def nZ(env:Nat->V):List V->Nat->Prop
 |[],_=>True
 |v::l,i=>(v= .ad\/v=env i)/\nZ env l (i+1)
theorem I9{env:Nat->V}{i:Nat}:nZ env [] i:=trivial
theorem EN{env:Nat->V}{l:List V}{i:Nat}(h:nZ env l (i+1)):nZ env (.ad::l) i:=⟨.inl rfl,h⟩
theorem Ps{env:Nat->V}{l:List V}{i:Nat}{v:V}(he:env i=v)(h:nZ env l (i+1)):nZ env (v::l) i:=⟨.inr he.symm,h⟩
theorem Dv{env:Nat->V}:∀ (l:List V) (i:Nat),nZ env l i->∀j,aZ l j= .ad\/aZ l j=env (i+j)
 |[],i,_,j=>by rw[rA];exact .inl rfl
 |v::l,i,h,0=>by rw[oO];exact h.1
 |v::l,i,h,j+1=>by
  rw[oP]
  have:=Dv l (i+1) h.2 j
  rwa [show i+1+j=i+(j+1) by omega]at this
theorem J2{P:Program}{n bq:Nat}{gq:Operand}{ps:List Nat}{x y:IC}{Q:fS->S->Prop}{e:Nat->V}{o:Nat->ab}{nx:Nat}{f:FuncId}{cap:List V}(env:List V)(he:nZ e env 0)
 (h:bQ P f (.kM nx::cap) (ay o nx (.loop P.funcs.size n env ps x y .ready none)) (nx+1)
  (fun _ o' nx'=>∃nf m en p c d st pd,o' nx= .loop nf m en p c d st pd/\st≠ .busy/\rk Q pd ⟨e,ay o' nx (.loop nf m en p c d .exhausted pd),nx'⟩) (fun v o' nx'=>Q (.bN v) ⟨e,o',nx'⟩)):
 uJ P n bq false gq ps x y Q ⟨e,o,nx⟩ (.func (.func f) [] cap):=by
 unfold uJ CK
 refine⟨rfl, .inl ⟨env,fun i=> ?_, .inl h⟩⟩
 have:=Dv env 0 he i
 rwa [Nat.zero_add]at this
theorem bO.trans {b:Nat}{s s' s'':S}(h1:bO b s s')(h2:bO b s' s''):bO b s s'':=fun M φ w tm hH hd=>by
 obtain⟨aJ,a1,a2,a3,a4,a5,a6⟩:=h1 M φ w tm hH hd
 obtain⟨EU,b1,b2,b3,b4,b5,b6⟩:=h2 M aJ w tm a1 a2
 refine⟨EU,b1,b2,fun k hk=>a3 k (b3 k hk),b4,fun id ax hr=> ?_,fun id e' ax he=> ?_⟩
 ·obtain⟨c1,c2⟩:=b5 id ax hr
  obtain⟨c3,c4⟩:=a5 id ax c1
  exact⟨c3,c2.trans c4⟩
 ·obtain⟨e1,c1,c2,c3⟩:=b6 id e' ax he
  obtain⟨e0,d1,d2,d3⟩:=a6 id e1 ax c1
  exact⟨e0,d1,Nat.le_trans d2 c2,fun h=>(c3 af).trans (d3 af)⟩
theorem QL{P:Program}{n bq:Nat}{gq:Operand}{ps:List Nat}{x y:IC}{Q:fS->S->Prop}{s s':S}{g:V}(hle:bO bq s s')(h:uJ P n bq false gq ps x y Q s' (s'.ev gq)):uJ P n bq false gq ps x y Q s g:=by
 unfold uJ at h|-
 obtain⟨h1,h2⟩:=h
 refine⟨h1, .inr ?_⟩
 rcases h2 with h2|⟨s'',Mo,h2⟩
 ·exact⟨s',hle,h2⟩
 ·exact⟨s'',hle.trans Mo,h2⟩
def tc(P:Program)(n b id:Nat)(fG:IC)(K X:V->(Nat->ab)->Nat->Prop)(e:fS)(s:S):Prop:=
 match e with
 | .normal=>∃nf m en p c d pd,s.o id= .loop nf m en p c d .ready pd/\ke P n b true fG (lH id K X) ⟨s.env,ay s.o id (.loop nf m en p c d .busy pd),s.nx⟩
 | .bN v=>X v s.o s.nx
 |_=>False
theorem dQ.aG {P:Program}{n:Nat}(bn:P.follows .mixedOrders=true){id:Nat}{args:List V}{o:Nat->ab}{nx:Nat}{K X:V->(Nat->ab)->Nat->Prop}{env:List V}{ps:List Nat}{jV fG:IC}{st:LoopState}{pd:Option ky}
 (ho:o id= .loop P.funcs.size n env ps jV fG st pd) (cu:id<nx) (FG:ps.all (fun t=>decide (t<n))=true) (hl:args.length=ps.length)
 (h:ke P n nx true jV (tc P n nx id fG K X) ⟨qk (aZ env) ps args,o,nx⟩):dQ P id args o nx K X:=by
 refine dQ.wh bn ho cu FG hl (eh jV _ _ _ (fun e s h=> ?_) h)
 cases e with
 |normal=>
  obtain⟨nf,m,en,p,c,d,pd,h1,h2⟩:=h
  exact⟨nf,m,en,p,c,d,pd,h1,eh fG _ _ _ (fun _ _ h=>h) h2⟩
 |bN v=>exact h
 |_=>exact h.elim
theorem Bf{P:Program}{n b id:Nat}{fG:IC}{K X:V->(Nat->ab)->Nat->Prop}{s:S}{nf m:Nat}{en:List V}{p:List Nat}{c d:IC}{pd:Option ky}(h:s.o id= .loop nf m en p c d .ready pd)
 (h2:ke P n b true fG (lH id K X) ⟨s.env,ay s.o id (.loop nf m en p c d .busy pd),s.nx⟩):tc P n b id fG K X .normal s:=⟨nf,m,en,p,c,d,pd,h,h2⟩
def xX:List Nat->Nat->Nat->Nat
 |[],nx,k=>nx+k
 |i::_,_,0=>i
 |_::l,nx,k+1=>xX l nx k
theorem Bg:∀ (l:List Nat) (nx k:Nat),xX l nx k∈l\/nx<=xX l nx k
 |[],nx,k=> .inr (Nat.le_add_right _ _)
 |i::_,_,0=> .inl (List.mem_cons_self ..)
 |_::l,nx,k+1=>(Bg l nx k).imp (List.mem_cons_of_mem _) id
theorem Dw{nx:Nat}:∀ (l:List Nat),l.Nodup->(∀i∈l,i<nx)->∀a b,xX l nx a=xX l nx b->a=b
 |[],_,_,a,b,e=>by simp only[xX]at e;omega
 |i::l,_,_,0,0,_=>rfl
 |i::l,hd,hl,0,b+1,e=>by
  simp only[xX]at e
  rcases Bg l nx b with h|h
  ·rw[<- e]at h;exact absurd h (List.nodup_cons.1 hd).1
  ·have:=hl i (List.mem_cons_self ..);omega
 |i::l,hd,hl,a+1,0,e=>by
  simp only[xX]at e
  rcases Bg l nx a with h|h
  ·rw[e]at h;exact absurd h (List.nodup_cons.1 hd).1
  ·have:=hl i (List.mem_cons_self ..);omega
 |i::l,hd,hl,a+1,b+1,e=>by
  simp only[xX]at e
  rw[Dw l (List.nodup_cons.1 hd).2 (fun j hj=>hl j (List.mem_cons_of_mem _ hj)) a b e]
def QM(f:Nat->Nat)(x:List Nat×List Nat):List Nat×List Nat:=(x.1.map f,x.2.map f)
theorem wI{f:Nat->Nat}(hf:∀a b,f a=f b->a=b){xs ys:List Nat}(hd:lu xs ys=true):lu (xs.map f) (ys.map f)=true:=by
 rw[Ng]at hd|-
 intro x hx hy
 obtain⟨a,ha,rfl⟩:=List.mem_map.1 hx
 obtain⟨b,hb,e⟩:=List.mem_map.1 hy
 rw[hf b a e]at hb
 exact hd a ha hb
theorem FQ{f:Nat->Nat}(hf:∀a b,f a=f b->a=b){pr:List (List Nat)}(fp:List (List Nat×List Nat))(ho:ff pr fp=true):ff pr (fp.map (QM f))=true:=by
 unfold ff at ho|-
 rw[List.all_eq_true]at ho|-
 intro j hj
 rw[List.length_map]at hj
 have ho:=ho j hj
 rw[List.all_eq_true]at ho|-
 intro i hi
 have ho:=ho i hi
 have hm:∀k,(fp.map (QM f)).getD k ([],[])=QM f (fp.getD k ([],[])):=fun k=>by
  rw[List.getD_eq_getElem?_getD,List.getD_eq_getElem?_getD,List.getElem?_map]
  cases fp[k]? <;>rfl
 rw[hm,hm]
 rw[Bool.or_eq_true]at ho|-
 refine ho.imp (fun h=>h) (fun ho=> ?_)
 rw[Bool.and_eq_true,Bool.and_eq_true]at ho|-
 exact⟨⟨wI hf ho.1.1,wI hf ho.1.2⟩,wI hf ho.2⟩
theorem bu{ids:List Nat}{nx:Nat}(hd:ids.Nodup)(hl:∀i∈ids,i<nx){pr:List (List Nat)}(fp:List (List Nat×List Nat))(ho:ff pr fp=true):ff pr (fp.map (QM (xX ids nx)))=true:=
 FQ (Dw ids hd hl) fp ho
section
variable {P:Program}{KB:List Nat->Fp->Prop}{pr:List (List Nat)}{l:List bZ}{fr:Nat}{fp:Fp}{bad ws:List Nat}{s:S}{d:Option Nat}{op:Op}
end
end
section
structure Gr where
 x:V
 ty:TypeId
 sz:Nat
 es:List D
def Gr.ok (so:Nat->ab)(gone:Nat->Prop)(g:Gr):Prop:=fW so gone g.ty g.sz g.es g.x
def Nh(c:Nat)(G:List Gr)(so:Nat->ab)(gone:Nat->Prop)(v v':V):Prop:=
 v'= .ad\/(v'=v/\∀r∈v.refs,r<c)\/(∃i g,G[i]? =some g/\v'= .osl (c+i) 0/\v=g.x)\/∃y,v'= .d y/\dM so v=some y/\∀id∈v.ids,gone id/\∀g∈G,∀ep,g.x≠ .osl id ep
def iV(c:Nat)(G:List Gr)(so:Nat->ab)(gone:Nat->Prop)(env:Nat->V):List V->Nat->Prop
 |[],_=>True
 |v::l,i=>Nh c G so gone (env i) v/\iV c G so gone env l (i+1)
def te(c:Nat)(G:List Gr)(so:Nat->ab)(gone:Nat->Prop):List V->List V->Prop
 |[],[]=>True
 |v::l,v'::l'=>Nh c G so gone v v'/\te c G so gone l l'
 |_,_=>False
def Dx(c:Nat)(G:List Gr)(so:Nat->ab)(gone:Nat->Prop)(x x':ab):Prop:=
 x'= .no\/(x=x'/\∀r∈x'.refs,r<c)\/∃cs cs',x= .row cs/\x'= .row cs'/\te c G so gone cs cs'
section
variable {c:Nat}{G:List Gr}{so:Nat->ab}{gone:Nat->Prop}
theorem HQ{env:Nat->V}:∀ (l:List V) (i:Nat),iV c G so gone env l i->∀j,Nh c G so gone (env (i+j)) (aZ l j)
 |[],i,_,j=>by rw[rA];exact .inl rfl
 |v::l,i,h,0=>by rw[oO];exact h.1
 |v::l,i,h,j+1=>by
  rw[oP]
  have:=HQ l (i+1) h.2 j
  rwa [show i+1+j=i+(j+1) by omega]at this
variable {env:Nat->V}{i:Nat}{l l':List V}{v:V}{y:D}
theorem gR:iV c G so gone env [] i:=trivial
theorem cD(h:iV c G so gone env l (i+1)):iV c G so gone env (.ad::l) i:=⟨.inl rfl,h⟩
theorem c7(he:env i= .d y)(h:iV c G so gone env l (i+1)):iV c G so gone env (.d y::l) i:=⟨.inr (.inl ⟨he.symm,fun r hr=>by rw[he]at hr;simp[V.refs]at hr⟩),h⟩
theorem iG(he:env i=v)(hr:∀r∈v.refs,r<c)(h:iV c G so gone env l (i+1)):iV c G so gone env (v::l) i:=⟨.inr (.inl ⟨he.symm,fun r Jz=>hr r (he ▸ Jz)⟩),h⟩
theorem jP(k:Nat){g:Gr}{n:Nat}(hg:G[k]? =some g)(hn:n=c+k)(he:env i=g.x)(h:iV c G so gone env l (i+1)):iV c G so gone env (.osl n 0::l) i:=⟨.inr (.inr (.inl ⟨k,g,hg,by rw[hn],he⟩)),h⟩
theorem mh(ht:dM so (env i)=some y)(hi:∀id∈(env i).ids,gone id/\∀g∈G,∀ep,g.x≠ .osl id ep)(h:iV c G so gone env l (i+1)):iV c G so gone env (.d y::l) i:=⟨.inr (.inr (.inr ⟨y,rfl,ht,hi⟩)),h⟩
theorem lM:te c G so gone [] []:=trivial
theorem mi(h:te c G so gone l l'):te c G so gone (.d y::l) (.d y::l'):=⟨.inr (.inl ⟨rfl,fun r hr=>by simp[V.refs]at hr⟩),h⟩
theorem vm(hr:∀r∈v.refs,r<c)(h:te c G so gone l l'):te c G so gone (v::l) (v::l'):=⟨.inr (.inl ⟨rfl,hr⟩),h⟩
theorem vn(k:Nat){g:Gr}{n:Nat}(hg:G[k]? =some g)(hn:n=c+k)(he:v=g.x)(h:te c G so gone l l'):te c G so gone (v::l) (.osl n 0::l'):=⟨.inr (.inr (.inl ⟨k,g,hg,by rw[hn],he⟩)),h⟩
theorem Yh(ht:dM so v=some y)(hi:∀id∈v.ids,gone id/\∀g∈G,∀ep,g.x≠ .osl id ep)(h:te c G so gone l l'):te c G so gone (v::l) (.d y::l'):=⟨.inr (.inr (.inr ⟨y,rfl,ht,hi⟩)),h⟩
theorem kW{x:ab}:Dx c G so gone x .no:= .inl rfl
theorem bD{x x':ab}(h:x=x')(hr:∀r∈x'.refs,r<c):Dx c G so gone x x':= .inr (.inl ⟨h,hr⟩)
theorem lL{x:ab}{cs cs':List V}(h:x= .row cs)(hr:te c G so gone cs cs'):Dx c G so gone x (.row cs'):= .inr (.inr ⟨cs,cs',h,rfl,hr⟩)
end
theorem rG{c:Nat}{G:List Gr}{so:Nat->ab}{gone:Nat->Prop}{B B':Nat->Prop}{φ aJ:Place}{H H':Hp}{w:World}(hc:∀v v' val,Nh c G so gone v v'->V.den B φ H w v val->V.den B' aJ H' w v' val):
 ∀ (l l':List V) (vals:List Value),te c G so gone l l'->V.aF B φ H w l vals->V.aF B' aJ H' w l' vals
 |[],[],_,_,h=>h
 |v::l,v'::l',_,h,hd=>by
  obtain⟨u,us,rfl,h1,h2⟩:=hd
  exact⟨u,us,rfl,hc _ _ _ h.1 h1,rG hc l l' us h.2 h2⟩
 |[],_::_,_,h,_=>h.elim
 |_::_,[],_,h,_=>h.elim
def Ni(φ:Place)(c:Nat)(G:List Gr):Place:=fun id=>if id<c then φ id else match G[id - c]? with
 |some g=>(match g.x with| .osl j _=>φ j|_=> .slice none 0 0)
 |none=>φ id
theorem bO.see (gone:Nat->Prop)(G:List Gr)(c:Nat){b:Nat}{e:Nat->V}{so:Nat->ab}{m:Nat}(l:List V){o':Nat->ab}{nx':Nat}(uz:nx'=c+G.length)(hb:b<=c)
 (ho:∀id,id<c->Dx c G so gone (so id) (o' id)) (hG:∀i g,G[i]? =some g->o' (c+i)= .arr 0 g.ty g.sz g.es/\g.ok so gone) (hh:∀id,nx'<=id->o' id= .no) (zH:∀id,gone id->id<c->o' id= .no)
 (We:∀ (i j:Nat) (gi gj:Gr) (id ep gr:Nat),G[i]? =some gi->G[j]? =some gj->gi.x= .osl id ep->gj.x= .osl id gr->i=j) (he:iV c G so gone e l 0):bO b ⟨e,so,m⟩ ⟨aZ l,o',nx'⟩:=by
 subst uz
 intro M φ w tm hH hd
 let aJ:Place:=Ni φ c G
 let H':Hp:=hp o' (c+G.length)
 let H:Hp:=⟨so,fun id=>id<m⟩
 have J3:∀id,id<c->aJ id=φ id:=fun id ax=>if_pos ax
 have Nj:∀i g,G[i]? =some g->aJ (c+i)=(match g.x with| .osl j _=>φ j|_=> .slice none 0 0):=fun i g hg=>by
  show Ni φ c G (c+i)=_
  unfold Ni
  rw[if_neg (by omega),show c+i - c=i by omega,hg]
 have hold:∀id k,(o' id).live=true->eA (aJ id)=some k->∃j,(so j).live=true/\eA (φ j)=some k/\((id<c/\j=id)\/∃i g ep,id=c+i/\G[i]? =some g/\gone j/\g.x= .osl j ep):=by
  intro id k h1 h2
  by_cases cu:id<c
  ·rw[J3 id cu]at h2
   rcases ho id cu with h3|⟨h3,_⟩|⟨cs,cs',h3,h4,_⟩
   ·rw[h3]at h1;cases h1
   ·exact⟨id,by rw[h3];exact h1,h2, .inl ⟨cu,rfl⟩⟩
   ·exact⟨id,by rw[h3];rfl,h2, .inl ⟨cu,rfl⟩⟩
  ·by_cases yK:c+G.length<=id
   ·rw[hh id yK]at h1;cases h1
   ·obtain⟨i,rfl⟩:∃i,id=c+i:=⟨id - c,af⟩
    obtain⟨g,hg⟩:∃g,G[i]? =some g:=⟨G[i]'af,aE⟩
    rw[Nj i g hg]at h2
    obtain⟨_,aY⟩:=hG i g hg
    rcases aY with⟨h3,_,_⟩|⟨j,ep,hj,h3,qI⟩
    ·rw[h3]at h2;cases h2
    ·rw[h3]at h2
     exact⟨j,by rw[qI];rfl,h2, .inr ⟨i,g,ep,rfl,hg,hj,h3⟩⟩
 have cY:∀k,cL aJ H' k->cL φ H k:=by
  rintro k ⟨id,h1,h2⟩
  obtain⟨j,g1,g2,_⟩:=hold id k h1 h2
  exact⟨j,g1,g2⟩
 have hB:∀k, ¬aq M φ H k-> ¬aq M aJ H' k:=fun k h h'=>h (h'.imp id (cY k))
 have G7:∀id,id<c->kC (H'.o id) (H.o id)/\aJ id=φ id/\H'.us id:=fun id ax=>by
  refine⟨?_,J3 id ax,(by show id<c+G.length;omega)⟩
  show kC (o' id) (so id)
  rcases ho id ax with h3|⟨h3,_⟩|⟨cs,cs',h3,h4,_⟩
  ·rw[h3];exact⟨fun h=>kJ,fun e h=>kJ⟩
  ·exact kC.rfl' h3.symm
  ·rw[h3,h4];exact kC.row _ _
 have e9:∀ (v:V) (val:Value),(∀r∈v.refs,r<c)->V.den (aq M φ H) φ H w v val->V.den (aq M aJ H') aJ H' w v val:=fun v val hr h=>
  V.kn (H:=H) (H':=H') hB v val (fun id ax=>G7 id (hr id ax)) h
 have lN:∀ (v:List V) (val:List Value),(∀r∈V.aL v,r<c)->V.aF (aq M φ H) φ H w v val->V.aF (aq M aJ H') aJ H' w v val:=fun v val hr h=>
  V.eI (H:=H) (H':=H') hB v val (fun id ax=>G7 id (hr id ax)) h
 have agX:∀ (v:V) (y:D) (val:Value),dM so v=some y->(∀id∈v.ids,gone id/\∀g∈G,∀ep,g.x≠ .osl id ep)->V.den (aq M φ H) φ H w v val->D.den (aq M aJ H') w y val:=fun v y val h1 h2 h3=>by
  obtain⟨f1,f2,f3,f4,f5⟩:=cZ (H:=H) hH v.ids (fun id ax=>cV v val h3 id ax)
  have O7:∀k,cL φ (H.put (bG H.o v.ids)) k->cL φ H k:=by
   rintro k ⟨id,g1,g2⟩
   by_cases ax:id∈v.ids
   ·rw[f3 id ax]at g1
    refine⟨id, ?_,g2⟩
    revert g1
    cases H.o id<;>simp[ab.fz,ab.live]
   ·rw[f4 id ax]at g1;exact⟨id,g1,g2⟩
  have h4:V.den (aq M φ (H.put (bG H.o v.ids))) φ (H.put (bG H.o v.ids)) w v val:=
   V.kn (H:=H) (fun k h h'=>h (h'.imp id (O7 k))) v val (fun id ax=>by
     have dY:H.us id:=(V.jN v val h3) id ax
     refine⟨?_,rfl,(f5 id).2 dY⟩
     by_cases hm:id∈v.ids
     ·rw[f3 id hm];exact kC.fz _
     ·rw[f4 id hm];exact kC.rfl' rfl) h3
  have h5:=eQ f1 (o:=so) v y val (fun id ax=>f3 id ax) h1 h4
  refine D.aT (w:=w) (w':=w) (fun k _ hn=>⟨rfl,fun hk=>hn (hk.imp id ?_)⟩) y val h5
  rintro⟨id,g1,g2⟩
  obtain⟨j,k1,k2,k3⟩:=hold id k g1 g2
  refine⟨j, ?_,k2⟩
  have:j∉v.ids:=fun hm=>by
   obtain⟨k4,k5⟩:=h2 j hm
   rcases k3 with⟨k6,k7⟩|⟨i,g,ep,k6,k8,k9,k10⟩
   ·subst k7
    have:=zH _ k4 k6
    have g1:(o' j).live=true:=g1
    rw[this]at g1
    cases g1
   ·exact k5 g (List.mem_of_getElem? k8) ep k10
  rw[f4 j this];exact k1
 have HS:∀i g val,G[i]? =some g->V.den (aq M φ H) φ H w g.x val->V.den (aq M aJ H') aJ H' w (.osl (c+i) 0) val:=by
  intro i g val hg this
  obtain⟨KG,aY⟩:=hG i g hg
  have cu:c+i<c+G.length:=by have:=(List.getElem?_eq_some_iff.1 hg).1;omega
  rcases aY with⟨h3,_,_⟩|⟨j,ep,hj,h3,qI⟩
  ·rw[h3]at this
   simp only[V.den]at this
   rw[this]
   refine⟨rfl,cu,fun e' qF=> ?_⟩
   have qF:(o' (c+i)).cz=some e':=qF
   rw[KG]at qF
   simp only[ab.cz,Option.some.injEq]at qF
   subst qF
   exact⟨Nat.le_refl _,fun _=>by rw[Nj i g hg,h3]⟩
  ·rw[h3]at this
   obtain⟨g1,g2,g3⟩:=this
   refine⟨g1,cu,fun e' qF=> ?_⟩
   have qF:(o' (c+i)).cz=some e':=qF
   rw[KG]at qF
   simp only[ab.cz,Option.some.injEq]at qF
   subst qF
   have vG:(H.o j).cz=some ep:=by show(so j).cz=_;rw[qI];rfl
   exact⟨Nat.le_refl _,fun _=>by rw[Nj i g hg,h3];exact(g3 ep vG).2 rfl⟩
 have UX:∀v v' val,Nh c G so gone v v'->V.den (aq M φ H) φ H w v val->V.den (aq M aJ H') aJ H' w v' val:=by
  intro v v' val h h1
  rcases h with rfl|⟨rfl,h2⟩|⟨i,g,hg,rfl,rfl⟩|⟨y,rfl,h2,h3⟩
  ·trivial
  ·exact e9 _ _ h2 h1
  ·exact HS i g _ hg h1
  ·exact agX v y val h2 h3 h1
 refine⟨aJ,⟨fun id=> ?_,fun id hu=>hh id (by have: ¬id<c+G.length:=hu;omega),fun i j k h1 h2 h3 h4=> ?_,fun k hk=>hH.ours k (cY k hk),hH.BM⟩,fun i=> ?_,cY,by show b<=c+G.length;omega,fun id ax hr=> ?_,fun id e' ax qF=> ?_⟩
 ·have bf:aR M φ H w id:=hH.ok id
  show aR M aJ H' w id
  unfold aR at bf|-
  by_cases cu:id<c
  ·rcases ho id cu with h3|⟨h3,hrefs⟩|⟨cs,cs',h3,h4,da⟩
   ·have e2:H'.o id= .no:=h3
    rw[e2];trivial
   ·have e1:H.o id=o' id:=h3
    have e2:H'.o id=o' id:=rfl
    rw[e1]at bf
    rw[e2,J3 id cu]
    cases yy:o' id with
    |no=>trivial
    |row cs=>
     simp only[yy]at bf hrefs|-
     exact SN
    |arr ep ty sz es=>
     simp only[yy]at bf|-
     obtain⟨k1,xs,k2,evs,k3,k4,k5⟩:=bf
     exact Sb
    |uO ep es=>
     simp only[yy]at bf|-
     exact D.aT (fun b _ hn=>⟨rfl,hB b hn⟩) _ _ bf
    |map kt vt es=>
     simp only[yy]at bf|-
     obtain⟨b,es',clock,k1,k2,k4,k3⟩:=bf
     exact R8
    |cj l=>
     simp only[yy]at bf|-
     exact ly.mono (fun b _ hn=>⟨rfl,hB b hn⟩) bf
    |sn l last=>
     simp only[yy]at bf|-
     obtain⟨b,k1,k2⟩:=bf
     exact SF
    |Am s pos=>
     simp only[yy]at bf|-
     exact bf
    |loop nf n env ps a b st pd=>
     simp only[yy]at bf hrefs|-
     exact S6
   ·have e1:H.o id= .row cs:=h3
    have e2:H'.o id= .row cs':=h4
    rw[e1]at bf
    rw[e2,J3 id cu]
    obtain⟨b,dZ,ty,k1,k2,k3,k4⟩:=bf
    exact⟨b,dZ,ty,k1,k2,rG UX _ _ _ da k3,k4⟩
  ·by_cases yK:c+G.length<=id
   ·have e2:H'.o id= .no:=hh id yK
    rw[e2];trivial
   ·obtain⟨i,rfl⟩:∃i,id=c+i:=⟨id - c,af⟩
    obtain⟨g,hg⟩:∃g,G[i]? =some g:=⟨G[i]'af,aE⟩
    obtain⟨KG,aY⟩:=hG i g hg
    have e2:H'.o (c+i)= .arr 0 g.ty g.sz g.es:=KG
    rw[e2]
    rcases aY with⟨h3,h4,eB⟩|⟨j,ep,hj,h3,qI⟩
    ·rw[h4]
     refine⟨eB,[], ?_,[],aE,aE,rfl⟩
     rw[Nj i g hg,h3]
     exact World.ownsRow_nil _ _ _ _
    ·have this:aR M φ H w j:=hH.ok j
     unfold aR at this
     have e3:H.o j= .arr ep g.ty g.sz g.es:=qI
     simp only[e3]at this
     obtain⟨k1,xs,k2,evs,k3,k4,k5⟩:=this
     exact⟨k1,xs,by rw[Nj i g hg,h3];exact k2,evs,k3,k4,D.aW (fun b _ hn=>⟨rfl,hB b hn⟩) _ _ k5⟩
 ·obtain⟨i',a1,a2,a3⟩:=hold i k h1 h3
  obtain⟨j',b1,b2,b3⟩:=hold j k h2 h4
  have:=hH.apart i' j' k a1 b1 a2 b2
  subst this
  have je:∀BO,(o' BO).live=true->BO<c->gone BO->False:=fun BO g1 g2 g3=>by
   rw[zH _ g3 g2]at g1
   cases g1
  rcases a3 with⟨a3,a4⟩|⟨ia,ga,ea,a3,a4,a5,a6⟩<;>rcases b3 with⟨b3,b4⟩|⟨ib,gb,eb,b3,b4,b5,b6⟩
  ·omega
  ·exact(je i h1 a3 (a4 ▸ b5)).elim
  ·exact(je j h2 b3 (b4 ▸ a5)).elim
  ·have:=We ia ib ga gb _ _ _ a4 b4 a6 b6
   omega
 ·have hi:=HQ l 0 he i
  rw[Nat.zero_add]at hi
  exact UX _ _ _ hi (hd i)
 ·have cu:id<c:=af
  have hr:(o' id).cA=true:=hr
  exact⟨(G7 id cu).1.1 hr,J3 id cu⟩
 ·have cu:id<c:=af
  have qF:(o' id).cz=some e':=qF
  exact⟨e',(G7 id cu).1.2 e' qF,Nat.le_refl _,fun _=>J3 id cu⟩
theorem bO.aeA (gone:Nat->Prop)(c:Nat){b:Nat}{e:Nat->V}{so:Nat->ab}{m:Nat}(l:List V){o':Nat->ab}(hb:b<=c)
 (ho:∀id,id<c->Dx c [] so gone (so id) (o' id)) (hh:∀id,c<=id->o' id= .no) (zH:∀id,gone id->id<c->o' id= .no) (he:iV c [] so gone e l 0):bO b ⟨e,so,m⟩ ⟨aZ l,o',c⟩:=
 bO.see gone [] c l rfl hb ho (fun i g h=>by cases h) hh zH (fun i j gi gj id ep gr h=>by cases h) he
theorem bO.uK (gone:Nat->Prop)(x:V)(c:Nat){ty:TypeId}{sz:Nat}{es:List D}{b:Nat}{e:Nat->V}{so:Nat->ab}{m:Nat}(l:List V){o':Nat->ab}(hb:b<=c)
 (ho:∀id,id<c->Dx c [⟨x,ty,sz,es⟩] so gone (so id) (o' id)) (hc:o' c= .arr 0 ty sz es) (hx:fW so gone ty sz es x) (hh:∀id,c+1<=id->o' id= .no) (zH:∀id,gone id->id<c->o' id= .no)
 (he:iV c [⟨x,ty,sz,es⟩] so gone e l 0):bO b ⟨e,so,m⟩ ⟨aZ l,o',c+1⟩:=
 bO.see gone [⟨x,ty,sz,es⟩] c l rfl hb ho (fun i g h=>by
  match i,h with
  |0,h=>simp at h;subst h;exact⟨hc,hx⟩) hh zH (fun i j gi gj id ep gr h h' _ _=>by
  match i,j,h,h' with
  |0,0,_,_=>rfl) he
theorem lt1{P:Nat->Prop}(h:P 0):∀id,id<1->P id:=fun id ax=>by
 have e:id=0:=af
 rw[e];exact h
theorem lt2{P:Nat->Prop}(h:P 0)(h1:P 1):∀id,id<2->P id:=fun id ax=>by
 rcases(by omega:id=0\/id=1)with rfl|rfl<;>assumption
theorem lt0{P:Nat->Prop}:∀id,id<0->P id:=fun id ax=>af
@[go_sem] theorem ahr (b:Bool):(b==false)= !b:=B5
@[go_sem] theorem ahs (b:Bool):(b==true)=b:=B5
@[go_sem] theorem aeB (c:Bool) (v:V):V.A2 c (V.A2 c v)=V.A2 c v:=by cases c<;>rfl
@[go_sem] theorem aeC (c:Bool):(c&&c)=c:=by cases c<;>rfl
@[go_sem] theorem aaa {α:Type} (f:α->D) (l:List α) (n:Nat) (h:∀x,(f x).cells.length=n):((l.map f).all fun z=>z.cells.length==n)=true:=by
  simp[List.all_eq_true,h]
attribute [go_sem] implies_true
attribute [go_sem] Option.isSome_none Option.getD_some Option.getD_none
theorem structOf{P:Program}{t:TypeId}(h:(match P.underlying t with|some (.struct _)=>true|_=>false)=true):∃fs,P.underlying t=some (.struct fs):=by
 split at h
 ·exact⟨_,by assumption⟩
 ·cases h
theorem a8{pr:List (List Nat)}{fp:List (List Nat×List Nat)}(h:fp.all (fun x=>x.2.isEmpty)=true):ff pr fp=true:=by
 have e:∀i,(fp.getD i ([],[])).2=[]:=fun i=>by
  rw[List.getD_eq_getElem?_getD]
  cases hi:fp[i]? with
  |none=>rfl
  |some x=>simpa using List.all_eq_true.1 h x (List.mem_of_getElem? hi)
 simp only[ff,List.all_eq_true,e,lu,List.all_nil,Bool.and_self,Bool.or_true,implies_true]
structure eX (base:Nat) (h o:Nat->ab) (nx:Nat):Prop where
 cH:Good o nx
 le:base<=nx
 eq:∀id,id<base->o id=h id
def StK(base:Nat)(h:Nat->ab)(v:V)(o:Nat->ab)(nx:Nat)(K:V->(Nat->ab)->Nat->Prop):Prop:=
 ∀o' nx',nx<=nx'->eX base h o' nx'->(∀id,base<=id->id<nx->o' id=o id)->K v o' nx'
def wJ(P:Program)(g:FuncId)(args:List V)(base:Nat)(h h2:Nat->ab)(v:V):Prop:=
 ∀o nx,eX base h o nx->∀K X,StK base h2 v o nx K->bQ P g args o nx K X
theorem eX.ay {base:Nat}{h o:Nat->ab}{nx m i:Nat}{x:ab}(hI:eX base h o nx)(hb:base<=i)(hi:i<m)(hm:nx<=m)(hx:x.refs.all (fun r=>decide (r<m))=true):eX base h (YtlhemmpklhhgoaaGreat.ay o i x) m:=
 ⟨(hI.cH.mono hm).ay hi hx,Nat.le_trans hI.le hm,fun id ax=>by rw[ae _ _ _ _ (by omega)];exact hI.eq id ax⟩
theorem eX.mono {base:Nat}{h o:Nat->ab}{nx m:Nat}(hI:eX base h o nx)(hm:nx<=m):eX base h o m:=⟨hI.cH.mono hm,Nat.le_trans hI.le hm,hI.eq⟩
def ext(base:Nat)(h o:Nat->ab):Nat->ab:=fun id=>if id<base then h id else o id
theorem eX.ext {base c:Nat}{h o:Nat->ab}{nx:Nat}(hI:eX base h o nx)(hc:c<=nx)(hb:base<=c):eX c (YtlhemmpklhhgoaaGreat.ext base h o) o nx:=
 ⟨hI.cH,hc,fun id _=>by unfold YtlhemmpklhhgoaaGreat.ext;split<;>first|exact hI.eq id (by assumption)|rfl⟩
theorem wJ.ext {P:Program}{g:FuncId}{args:List V}{base c:Nat}{h h2:Nat->ab}{v:V}(hS:wJ P g args base h h2 v)(hb:base<=c)(o0:Nat->ab):wJ P g args c (YtlhemmpklhhgoaaGreat.ext base h o0) (YtlhemmpklhhgoaaGreat.ext base h2 o0) v:=by
 intro o nx hI K X hK
 refine hS o nx ⟨hI.cH,Nat.le_trans hb hI.le,fun id ax=>by rw[hI.eq id (by omega)];unfold YtlhemmpklhhgoaaGreat.ext;rw[if_pos ax]⟩ K X fun o' nx' h1 h2 h3=>hK o' nx' h1 ⟨h2.cH,Nat.le_trans hI.le h1,fun id ax=> ?_⟩ (fun id h4 h5=>h3 id af h5)
 unfold YtlhemmpklhhgoaaGreat.ext
 split
 ·exact h2.eq id (by assumption)
 ·rename_i hn
  rw[h3 id (by omega) (by have:=hI.le;omega),hI.eq id ax]
  unfold YtlhemmpklhhgoaaGreat.ext;rw[if_neg hn]
theorem StK.ext {base c:Nat}{h o:Nat->ab}{v:V}{o1:Nat->ab}{nx BR:Nat}{K:V->(Nat->ab)->Nat->Prop}(hK:StK base h v o nx K)(hb:base<=c)(hn:nx<=BR)(hc:nx<=c)(ho:∀id,base<=id->id<nx->o1 id=o id):StK c (YtlhemmpklhhgoaaGreat.ext base h o1) v o1 BR K:=by
 intro o' nx' h1 h2 h3
 refine hK o' nx' af ⟨h2.cH,Nat.le_trans hb h2.le,fun id ax=> ?_⟩ fun id h4 h5=> ?_
 ·rw[h2.eq id (by omega)];unfold YtlhemmpklhhgoaaGreat.ext;rw[if_pos ax]
 ·rw[h2.eq id (by omega), <- ho id h4 h5];unfold YtlhemmpklhhgoaaGreat.ext;rw[if_neg (by omega)]
def aQ{α σ:Type}(step:σ->α->σ×Bool)(s:σ):List α->σ×Bool
 |[]=>(s,true)
 |x::l=>if(step s x).2=true then aQ step (step s x).1 l else((step s x).1,false)
theorem n6{P:Program}{id:Nat}{args:List V}{e:Nat->V}{o:Nat->ab}{nx:Nat}{K X:V->(Nat->ab)->Nat->Prop}(h:dQ P id args o nx K X):zl P id K X ⟨e,o,nx⟩ args:=by unfold zl;exact h
theorem u5{α:Type}(f:Nat->α)(i:Nat)(x y:α):ay (ay f i x) i y=ay f i y:=by
 funext j;simp only[ay];split<;>rfl
attribute [go_sem] Int.cast_ofNat_Int
section
variable {P:Program}{n:Nat}{ps:List Nat}{x y:IC}{env:List V}{L:LoopState->Option ky->ab}
def jv(P:Program)(n:Nat)(env:List V)(ps:List Nat)(x y:IC)(L:LoopState->Option ky->ab):Prop:=∀st pd,L st pd= .loop P.funcs.size n env ps x y st pd
theorem FR{bq:Nat}{gq:Operand}{Q:fS->S->Prop}{e:Nat->V}{o:Nat->ab}{nx:Nat}{f:FuncId}{cap:List V}(env:List V)(he:nZ e env 0)
 (h:∀L,jv P n env ps x y L->bQ P f (.kM nx::cap) (ay o nx (L .ready none)) (nx+1)
  (fun _ o' nx'=>∃st pd,o' nx=L st pd/\st≠ .busy/\rk Q pd ⟨e,ay o' nx (L .exhausted pd),nx'⟩) (fun v o' nx'=>Q (.bN v) ⟨e,o',nx'⟩)):
 uJ P n bq false gq ps x y Q ⟨e,o,nx⟩ (.func (.func f) [] cap):=by
 refine J2 env he ?_
 have:=h (fun st pd=> .loop P.funcs.size n env ps x y st pd) (fun _ _=>rfl)
 refine this.mono (fun v o' nx' hh=> ?_) (fun v o' nx' hh=>hh)
 obtain⟨st,pd,h1,h2,h3⟩:=hh
 exact⟨_,_,_,_,_,_,_,_,h1,h2,h3⟩
theorem wK(hL:jv P n env ps x y L)(bn:P.follows .mixedOrders=true){id:Nat}{args:List V}{o:Nat->ab}{nx:Nat}{K X:V->(Nat->ab)->Nat->Prop}{st:LoopState}{pd:Option ky}
 (ho:o id=L st pd) (cu:id<nx) (FG:ps.all (fun t=>decide (t<n))=true) (hl:args.length=ps.length)
 (h:ke P n nx true x (tc P n nx id y K X) ⟨qk (aZ env) ps args,o,nx⟩):dQ P id args o nx K X:=
 dQ.aG bn (ho.trans (hL st pd)) cu FG hl h
theorem n9(hL:jv P n env ps x y L){b id:Nat}{fG:IC}{K X:V->(Nat->ab)->Nat->Prop}{e:Nat->V}{o:Nat->ab}{nx:Nat}{pd:Option ky}(h:o id=L .ready pd)
 (h2:ke P n b true fG (lH id K X) ⟨e,ay o id (L .busy pd),nx⟩):tc P n b id fG K X .normal ⟨e,o,nx⟩:=by
 refine Bf (h.trans (hL _ _)) ?_
 rw[<- hL];exact h2
theorem tf(hL:jv P n env ps x y L){id:Nat}{K X:V->(Nat->ab)->Nat->Prop}{e:Nat->V}{o:Nat->ab}{nx:Nat}{st:LoopState}{pd:Option ky}(h:o id=L st pd)(k:K (.d (.bool true)) (ay o id (L .ready none)) nx):lH id K X .normal ⟨e,o,nx⟩:=
 ⟨_,_,_,_,_,_,_,_,h.trans (hL _ _),by rw[<- hL];exact k⟩
theorem wL(hL:jv P n env ps x y L){id:Nat}{K X:V->(Nat->ab)->Nat->Prop}{e:Nat->V}{o:Nat->ab}{nx:Nat}{st:LoopState}{pd:Option ky}(h:o id=L st pd)(k:K (.d (.bool false)) (ay o id (L .done (some .ret))) nx):lH id K X .ret ⟨e,o,nx⟩:=
 ⟨_,_,_,_,_,_,_,_,h.trans (hL _ _),by rw[<- hL];exact k⟩
theorem ud(hL:jv P n env ps x y L){id j:Nat}{K X:V->(Nat->ab)->Nat->Prop}{e:Nat->V}{o:Nat->ab}{nx:Nat}{st:LoopState}{pd:Option ky}(h:o id=L st pd)(k:K (.d (.bool false)) (ay o id (L .done (some (.exit j)))) nx):lH id K X (.exit j) ⟨e,o,nx⟩:=
 ⟨_,_,_,_,_,_,_,_,h.trans (hL _ _),by rw[<- hL];exact k⟩
theorem jv.no (hL:jv P n env ps x y L)(st:LoopState)(pd:Option ky):L st pd≠ .no:=by rw[hL];exact ab.noConfusion
theorem jv.refs (hL:jv P n env ps x y L)(st:LoopState)(pd:Option ky):(L st pd).refs=V.aL env:=by rw[hL];rfl
end
end
attribute [go_sem_proc] Int.reduceBEq Int.reduceBNe Int.reduceLT Int.reduceLE Int.reduceEq Int.reduceNe Nat.reducePow Nat.reduceEqDiff Nat.reduceAdd Nat.reduceSub Nat.reduceMul Nat.reduceLeDiff Nat.reduceBEq Nat.reduceLT reduceIte reduceCtorEq Int.reduceToNat
attribute [go_sem] List.range_zero Option.isSome_some and_self List.cons.injEq
theorem Jd(n low high:Int):aX Tryz.prog 114 [.i n, .i low, .i high] (.ret [.bool (dU n low high)]):=by
 refine aX.aG mix adt aE ?_
 rw[ads]
 refine cT ?_
 rfl
theorem Nk{t:Tm}{left depth:Int}(h:left<1\/depth<1):fP t left depth= -1:=by cases t;simp[fP,h]
theorem qo{l:List Tm}{left depth:Int}(h:left<0):cJ l left depth=left:=by
 cases l with
 |nil=>rfl
 |cons k l=>simp[cJ,show ¬ (0<=left) by omega]
theorem Nl:∀t:Tm,∀left depth:Int, -1<=fP t left depth/\(1<=left->fP t left depth<=left - 1)/\(left<1->fP t left depth= -1):=by
 refine Tm.ind fun op n kids ih left depth=> ?_
 have hs:∀ (l:List Tm) (left d:Int),(∀k∈l,k∈kids)-> -1<=left-> -1<=cJ l left d/\cJ l left d<=left:=by
  intro l
  induction l with
  |nil=>intro left d _ h;simp[cJ,h]
  |cons k l Yi=>
   intro left d hk h
   simp only[cJ]
   split
   ·rename_i h0
    have h1:=ih k (hk k aE) left d
    have h2:=Yi (fP k left d) d (fun x hx=>hk x kI) h1.1
    by_cases hl:1<=left
    ·have:=h1.2.1 hl;omega
    ·have:=h1.2.2 af;omega
   ·omega
 simp only[fP]
 split
 ·rename_i h;refine⟨af,fun h1=> ?_,fun _=>rfl⟩;omega
 ·rename_i h
  have:=hs kids (left - 1) (depth - 1) (fun _ h=>h) af
  exact⟨this.1,fun _=>this.2,fun h=>af⟩
theorem J4(l:List Tm)(left d:Int)(h: -1<=left): -1<=cJ l left d/\cJ l left d<=left:=by
 induction l generalizing left with
 |nil=>simp[cJ,h]
 |cons k l Yi=>
  simp only[cJ]
  split
  ·have h1:=Nl k left d
   have h2:=Yi (fP k left d) h1.1
   by_cases hl:1<=left
   ·have:=h1.2.1 hl;omega
   ·have:=h1.2.2 af;omega
  ·omega
theorem pS(a b:List Tm)(left d:Int):cJ (a++b) left d=cJ b (cJ a left d) d:=by
 induction a generalizing left with
 |nil=>rfl
 |cons k a ih=>
  simp only[List.cons_append,cJ]
  split
  ·exact ih _
  ·rename_i h;rw[qo (by omega)]
theorem Dy{l:List Tm}{i:Nat}{k:Tm}(hi:l[i]? =some k)(left d:Int)(h:0<=cJ (l.take i) left d):cJ (l.take (i+1)) left d=fP k (cJ (l.take i) left d) d:=by
 rw[List.take_add_one,hi,pS]
 simp[cJ,h]
theorem Dz{l:List Tm}{i:Nat}(left d:Int)(h:cJ (l.take i) left d<0):cJ l left d=cJ (l.take i) left d:=by
 conv=>lhs;rw[<- List.take_append_drop i l]
 rw[pS,qo h]
@[reducible] def qp (cs:List V):Nat->ab:=ay (fun _=> .no) 0 (.row cs)
@[reducible] def FT (cs ds:List V):Nat->ab:=ay (ay (fun _=> .no) 0 (.row cs)) 1 (.row ds)
theorem cW{cs:List V}(h:(ab.row cs).refs.all (fun r=>decide (r<1))=true):Good (qp cs) 1:=(Good.nil (nx:=1)).ay af h
theorem kX{cs ds:List V}(h:(ab.row cs).refs.all (fun r=>decide (r<2))=true)(h2:(ab.row ds).refs.all (fun r=>decide (r<2))=true):Good (FT cs ds) 2:=((Good.nil (nx:=2)).ay af h).ay af h2
theorem bO.d1 {e:Nat->V}{so o:Nat->ab}{m:Nat}(l:List V)(hg:Good o 1)(hm:1<=m)(h0:so 0=o 0)(he:lY 1 e l 0):bO 0 ⟨e,so,m⟩ ⟨aZ l,o,1⟩:=
 bO.cc l (Nat.zero_le _) hm hg (fun id h=>by obtain rfl:id=0:=af
                                             exact h0) he
theorem bO.d2 {e:Nat->V}{so o:Nat->ab}{m:Nat}(l:List V)(hg:Good o 2)(hm:2<=m)(h0:so 0=o 0)(h1:so 1=o 1)(he:lY 2 e l 0):bO 0 ⟨e,so,m⟩ ⟨aZ l,o,2⟩:=
 bO.cc l (Nat.zero_le _) hm hg (fun id h=>by
  rcases(by omega:id=0\/id=1)with rfl|rfl
  ·exact h0
  ·exact h1) he
@[reducible] def Tm.row (t:Tm):List V:=[.d (.i t.op), .d (.i t.n), .d (.sl (t.kids.map Tm.d))]
theorem DA(t:Tm)(left depth:Int):fP t left depth=if left<1\/depth<1 then -1 else cJ t.kids (left - 1) (depth - 1):=by cases t;simp[fP,Tm.kids]
theorem Bh:∀t:Tm,t.fits->∀left depth:Int, -1<=left/\left<=1000000-> -1<=depth/\depth<=1000000->aX Tryz.prog 87 [t.d, .i left, .i depth] (.ret [.i (fP t left depth)]):=by
 refine Tm.eN fun t ih hf left depth hl hd=> ?_
 have xT:=(Tm.cm _).1 hf
 refine aX.aG mix agS aE ?_
 rw[c87]
 refine cT ?_
 refine ao (fun h1=> ?_) (fun h1=> ?_)
 ·refine cT ?_
  simp at h1
  rw[Nk h1]
 ·simp at h1
  refine cT ?_
  rw[wrap64 (n:=left - 1) (by omega) (by omega),DA,if_neg (by omega)]
  refine aD (fun k:Nat=>⟨aZ [.ad, .d (.i (cJ (t.kids.take k) (left - 1) (depth - 1))), .d (.i depth), .ptr 0 0, .ad, .ad, .ad, .d (.i k)],qp t.row,1⟩)
   (fun k=>k<=t.kids.length) (fun k=>t.kids.length - k) 0 (Nat.zero_le _) (bO.d1 _ (cW rfl) af rfl ?_) (fun k hk=> ?_)
  ·exact dW
  have hb:=J4 (t.kids.take k) (left - 1) (depth - 1) af
  refine cT ?_
  refine ao (fun h2=> ?_) (fun h2=> ?_)
  ·simp at h2
   obtain⟨x,hx⟩:∃x,t.kids[k]? =some x:=⟨t.kids[k],by simp[h2.1]⟩
   have ck:=List.mem_of_getElem? hx
   refine lg hx ?_
   rw[wrap64 (n:=depth - 1) (by omega) (by omega)]
   refine ak (ih x ck (xT.2 x ck) _ _ af af) rfl ?_
   refine cT ?_
   rw[<- Dy hx _ _ h2.2]
   refine aj (k+1) h2.1 af (bO.d1 _ (cW rfl) af rfl ?_)
   exact dW
  ·refine cT ?_
   simp only[Bool.and_eq_false_iff,decide_eq_false_iff_not]at h2
   congr 3
   rcases h2 with h2|h2
   ·rw[List.take_of_length_le (by omega)]
   ·exact Dz _ _ af
theorem Yj(s:List UInt8)(hs:s.length<=9223372036854775807):aX Tryz.prog 139 [.str s] (.ret [.bool (ki s)]):=by
 refine aX.aG mix adL aE ?_
 rw[adK]
 refine cT ?_
 refine aD (fun k:Nat=>⟨aZ [.d (.str s), .ad, .ad, .d (.i k)],fun _=> .no,0⟩)
  (fun k=>k<=s.length/\(s.take k).all letterF=true) (fun k=>s.length - k) 0 ⟨Nat.zero_le _,aE⟩ (bO.d0 _ ?_) (fun k hk=> ?_)
 ·exact dW
 refine cT ?_
 refine ao (fun h2=> ?_) (fun h2=> ?_)
 ·simp at h2
  obtain⟨x,hx⟩:∃x,s[k]? =some x:=⟨s[k],by simp[h2]⟩
  refine lg hx ?_
  refine ao (fun h3=> ?_) (fun h3=> ?_)
  ·refine cT ?_
   have:ki s=false:=by
    have:s.all letterF=false:=by
     rw[List.all_eq_false]
     refine⟨x,List.mem_of_getElem? hx, ?_⟩
     simp only[letterF,h3];simp
    simp[ki,this]
   rw[this]
  ·refine cT ?_
   refine aj (k+1) ⟨h2, ?_⟩ af (bO.d0 _ ?_)
   ·rw[List.take_add_one,hx,List.all_append,hk.2]
    simp[letterF,h3]
   ·exact dW
 ·refine cT ?_
  refine ak (Jd _ _ _) rfl ?_
  refine cT ?_
  simp at h2
  have:=hk.2
  rw[List.take_of_length_le (by omega)]at this
  simp[ki,this]
theorem HT(l:List ei)(bs:List (List UInt8))(hl:l.length<=1000)(hb:bs.length<=1000)(hs:∀x∈l,x.name.length<=9223372036854775807):
 aX Tryz.prog 115 [.sl (l.map ei.d), .sl (bs.map .str)] (.ret [.sl (((cI l bs).getD []).map .str), .bool (cI l bs).isSome]):=by
 refine aX.aG mix adv aE ?_
 rw[adu]
 refine cT ?_
 refine aD (fun k:Nat=>⟨aZ [.d (.sl (l.map ei.d)), .d (.sl ((bs++(l.take k).map (·.name)).map .str)), .ad, .ad, .ad, .ad, .d (.i k)],fun _=> .no,0⟩)
  (fun k=>k<=l.length/\cI l bs=cI (l.drop k) (bs++(l.take k).map (·.name))) (fun k=>l.length - k) 0 ⟨Nat.zero_le _,aE⟩ (bO.d0 _ ?_) (fun k hk=> ?_)
 ·simp only[List.take_zero,List.map_nil,List.append_nil]
  exact dW
 refine cT ?_
 refine ao (fun h2=> ?_) (fun h2=> ?_)
 ·simp at h2
  obtain⟨x,hx⟩:∃x,l[k]? =some x:=⟨l[k],by simp[h2]⟩
  have ck:=List.mem_of_getElem? hx
  have C0:l.drop k=x::l.drop (k+1):=by
   rw[List.drop_eq_getElem_cons h2]
   rw[List.getElem?_eq_getElem h2]at hx;injection hx with hx;rw[hx]
  generalize hB:bs++(l.take k).map (·.name)=B at*
  have hBl:B.length<=2000:=by rw[<- hB];simp;omega
  refine cT ?_
  refine aD (fun j:Nat=>⟨aZ [.d (.sl (l.map ei.d)), .d (.sl (B.map .str)), .ad, .ad, .ad, .ad, .d (.i k), .d (.i j)],fun _=> .no,0⟩)
   (fun j=>j<=B.length/\(B.take j).any (· ==x.name)=false) (fun j=>B.length - j) 0 ⟨Nat.zero_le _,aE⟩ (bO.d0 _ ?_) (fun j hj=> ?_)
  ·exact dW
  refine cT ?_
  refine ao (fun h3=> ?_) (fun h3=> ?_)
  ·simp at h3
   obtain⟨y,hy⟩:∃y,B[j]? =some y:=⟨B[j],by simp[h3]⟩
   simp+contextual only[go_sem,hx,hy]
   refine aI bC ?_
   refine cT ?_
   refine ao (fun h4=> ?_) (fun h4=> ?_)
   ·refine cT ?_
    have:cI l bs=none:=by
     rw[hk.2,C0,cI,if_pos]
     rw[List.any_eq_true]
     exact⟨y,List.mem_of_getElem? hy,h4⟩
    rw[this];rfl
   ·refine cT ?_
    refine aj (j+1) ⟨h3, ?_⟩ af (bO.d0 _ ?_)
    ·rw[List.take_add_one,hy,List.any_append,hj.2]
     simp only[Option.toList_some,List.any_cons,h4,List.any_nil,Bool.or_false]
    ·exact dW
  ·simp at h3
   have Nn:=hj.2
   rw[List.take_of_length_le (by omega)]at Nn
   refine lg hx ?_
   refine ak (Yj x.name (hs x ck)) rfl ?_
   refine lg hx ?_
   refine iR (gL [.bool (dU x.args 0 4)] ?_ ?_)
   ·refine cT ?_
    exact GQ
   refine cT ?_
   refine ao (fun h4=> ?_) (fun h4=> ?_)
   ·refine cT ?_
    have:cI l bs=none:=by
     rw[hk.2,C0,cI,if_neg (by rw[Nn];exact Bool.false_ne_true),if_pos h4]
    rw[this];rfl
   ·have e1:B.length<=140737488355328:=af
    have e2:B.length*16<=140737488355328:=af
    have e3:B.length<=140737488355327:=af
    have e4:(B.length+1)*16<=140737488355328:=af
    simp+contextual only[go_sem,hx,e1,e2,e3,e4]
    refine aI bC ?_
    refine cT ?_
    have hn:cI l bs=cI (l.drop (k+1)) (bs++(l.take (k+1)).map (·.name)):=by
     rw[hk.2,C0,cI,if_neg (by rw[Nn];exact Bool.false_ne_true),if_neg (by rw[h4];exact Bool.false_ne_true), <- hB,List.take_add_one,hx]
     simp
    refine aj (k+1) ⟨h2,hn⟩ af (bO.aeA (fun _=>True) 0 _ (Nat.le_refl _) lt0 (fun _ _=>rfl) (fun _ _ _=>rfl) ?_)
    have hB2:(bs++(l.take (k+1)).map (·.name)).map D.str=B.map D.str++[D.str x.name]:=by
     rw[<- hB,List.take_add_one,hx];simp
    rw[hB2]
    exact kG
 ·refine cT ?_
  simp at h2
  have:cI l bs=some (bs++l.map (·.name)):=by
   rw[hk.2,List.drop_eq_nil_of_le (by omega),cI,List.take_of_length_le (by omega)]
  rw[this,List.take_of_length_le (by omega)]
  rfl
theorem Yk(a b:List UInt8)(m n:Int):pH Tryz.prog 100 124 (.agg [.str a, .i m]) (.agg [.str b, .i n])=some (a==b&&m==n):=by
 have h1:bP Tryz.prog 124=some (.struct [(9,0),(3,1)]):=ai
 have h2:bP Tryz.prog 9=some .str:=ai
 have h3:bP Tryz.prog 3=some .int:=ai
 have h4:dm Tryz.prog 9=some false:=ai
 have h5:dm Tryz.prog 3=some false:=ai
 simp[pH,h1,h2,h3,h4,h5,yC,PD,jd,EW]
@[go_sem] theorem agY (o:Nat->ab) (nu:Bool) (a b:List UInt8) (m n:Int):pn Tryz.prog o 124 nu (.d (.agg [.str a, .i m])) (.d (.agg [.str b, .i n]))=some (.d (.bool (a==b&&m==n))):=by
  obtain⟨fs,h⟩:∃fs,Tryz.prog.underlying 124=some (.struct fs):=structOf ai
  have h2:Tryz.prog.eqGuardType Tryz.prog.depth 124=false:=ai
  unfold pn
  rw[h]
  dsimp only
  rw[if_pos h2,Yk]
  rfl
theorem J5{l:List ei}{bs B:List (List UInt8)}(h:cI l bs=some B):B=bs++l.map (·.name):=by
 induction l generalizing bs with
 |nil=>simp[cI]at h;simp[h]
 |cons x l ih=>
  simp only[cI]at h
  split at h
  ·cases h
  ·split at h
   ·cases h
   ·rw[ih h];simp
structure aA.Fits (s:aA):Prop where
 lc:s.cons.length<=9223372036854775807
 lf:s.b9.length<=9223372036854775807
 nc:∀x∈s.cons,x.name.length<=9223372036854775807
 nf:∀x∈s.b9,x.name.length<=9223372036854775807
theorem UY(s:aA)(hs:s.Fits):aX Tryz.prog 75 [s.d] (.ret [.bool (ju s)]):=by
 refine aX.aG mix agL aE ?_
 rw[c75]
 refine cT ?_
 refine ak (Jd _ _ _) rfl ?_
 refine cT ?_
 cases h1:(!dU s.cons.length 2 12||decide (8<(s.b9.length:Int)))with
 |true=>
  refine lg h1 ?_
  simp only[ju,h1,if_true]
 |false=>
  simp[dU]at h1
  obtain⟨a,b,r,hc⟩:∃a b r,s.cons=a::b::r:=by
   match h:s.cons with
   |[]=>exact GU
   |[a]=>exact GU
   |a::b::r=>exact⟨a,b,r,rfl⟩
  have eW:(!dU s.cons.length 2 12||decide (8<(s.b9.length:Int)))=false:=by simp[dU];omega
  simp+contextual only[go_sem,eW,hc]
  have qq:ju s=if(!nh a fB|| !nh b tB)=true then false else match cI s.cons []with
   |none=>false
   |some l=>(cI s.b9 l).isSome:=by
   unfold ju
   rw[if_neg (by rw[eW];exact Bool.false_ne_true),hc]
   dsimp only
   rfl
  refine ao (fun h2=> ?_) (fun h2=> ?_)
  ·refine cT ?_
   have mY:(!nh a fB|| !nh b tB)=true:=h2
   rw[qq,if_pos mY]
  ·simp+contextual only[go_sem,hc]
   have hl:(a::b::r).length<=1000:=by rw[<- hc];omega
   have BP:=HT (a::b::r) [] hl aE (by rw[<- hc];exact hs.nc)
   simp only[List.map_cons,List.map_nil]at BP
   refine bc BP ?_
   have mY:(!nh a fB|| !nh b tB)=false:=h2
   rw[qq,if_neg (by rw[mY];exact Bool.false_ne_true),hc]
   cases hn:cI (a::b::r) []with
   |none=>simp+contextual only[go_sem,hn]
   |some B=>
    refine lg hn ?_
    have hB:B.length<=1000:=by
     have:=J5 hn
     rw[this];simp at hl|-;omega
    have agZ:=HT s.b9 B af hB hs.nf
    refine bc agZ ?_
    simp+contextual only[go_sem]
theorem EO{l:List ei}{n:Int}{x:ei}(h:l[n.toNat]? =some x):iS l n=x.args:=by simp[iS,h]
theorem GW{l:List ei}{n:Int}(h:dU n 0 (l.length - 1)=true):0<=n/\∃x,l[n.toNat]? =some x:=by
 simp[dU]at h
 exact⟨h.1,l[n.toNat]'af,aE⟩
theorem Yl(s:aA)(t:Tm)(hs:s.Fits)(ht:t.kids.length<=9223372036854775807):aX Tryz.prog 127 [s.d,t.d] (.ret [.bool (bF s t)]):=by
 refine aX.aG mix adH aE ?_
 rw[adG]
 refine cT ?_
 rcases(by omega:t.op=1\/t.op=2\/t.op=3\/t.op=4\/t.op=5\/t.op=8\/(t.op=6\/t.op=7\/t.op=9\/t.op=10\/t.op=11\/t.op=12\/t.op=13\/t.op=14\/t.op=15)\/(t.op<1\/15<t.op))with h|h|h|h|h|h|h|h
 ·have hn:bF s t=((t.kids.length:Int)==0&&dU t.n 0 19):=by simp[bF,h]
  refine lg h ?_
  refine iR (gL [.bool (dU t.n 0 19)] ?_ ?_)
  ·refine cT ?_
   exact GQ
  refine lg h ?_
  rw[hn]
 ·have hn:bF s t=((t.kids.length:Int)==0&&dU t.n (-1000000) 1000000):=by simp[bF,h]
  refine lg h ?_
  refine iR (gL [.bool (dU t.n (-1000000) 1000000)] ?_ ?_)
  ·refine cT ?_
   exact GQ
  refine lg h ?_
  rw[hn]
 ·have hn:bF s t=(dU t.n 0 (s.cons.length - 1)&&(t.kids.length:Int)==iS s.cons t.n):=by simp[bF,h]
  refine lg h ?_
  rw[wrap64 (by have:=hs.lc;omega) (by have:=hs.lc;omega)]
  refine ak (Jd _ _ _) rfl ?_
  cases hI:dU t.n 0 (s.cons.length - 1)with
  |false=>
   exact V5
  |true=>
   exact VU
 ·have hn:bF s t=(dU t.n 0 (s.b9.length - 1)&&(t.kids.length:Int)==iS s.b9 t.n):=by simp[bF,h]
  refine lg h ?_
  rw[wrap64 (by have:=hs.lf;omega) (by have:=hs.lf;omega)]
  refine ak (Jd _ _ _) rfl ?_
  cases hI:dU t.n 0 (s.b9.length - 1)with
  |false=>
   exact V5
  |true=>
   exact VU
 ·have hn:bF s t=(dU t.n 0 (s.b9.length - 1)&&decide ((t.kids.length:Int)<iS s.b9 t.n)):=by simp[bF,h]
  refine lg h ?_
  rw[wrap64 (by have:=hs.lf;omega) (by have:=hs.lf;omega)]
  refine ak (Jd _ _ _) rfl ?_
  cases hI:dU t.n 0 (s.b9.length - 1)with
  |false=>
   exact V5
  |true=>
   exact VU
 ·have hn:bF s t=((t.kids.length:Int)==2&&dU t.n 0 19):=by simp[bF,h]
  refine lg h ?_
  refine iR (gL [.bool (dU t.n 0 19)] ?_ ?_)
  ·refine cT ?_
   exact GQ
  refine lg h ?_
  rw[hn]
 ·have hn:bF s t=((t.kids.length:Int)==2&&t.n==0):=by
   rcases h with h|h|h|h|h|h|h|h|h<;>simp[bF,h,dU]
  rw[hn]
  rcases h with h|h|h|h|h|h|h|h|h<;>simp+contextual only[go_sem,h]
 ·have hn:bF s t=false:=by
   simp[bF,dU,show ¬ (t.op=1) by omega,show ¬ (t.op=2) by omega,show ¬ (t.op=3) by omega,show ¬ (t.op=4) by omega,show ¬ (t.op=5) by omega,show ¬ (t.op=8) by omega,show ¬ (6<=t.op/\t.op<=15) by omega]
  have e:∀k:Int,1<=k->k<=15->(t.op==k)=false:=fun k h1 h2=>by simp;omega
  simp+contextual only[go_sem,e 1 (by omega) (by omega),e 2 (by omega) (by omega),e 3 (by omega) (by omega),e 4 (by omega) (by omega),e 5 (by omega) (by omega),e 6 (by omega) (by omega),e 7 (by omega) (by omega),e 8 (by omega) (by omega),e 9 (by omega) (by omega),e 10 (by omega) (by omega),e 11 (by omega) (by omega),e 12 (by omega) (by omega),e 13 (by omega) (by omega),e 14 (by omega) (by omega),e 15 (by omega) (by omega)]
  rw[hn]
theorem lZ(s:aA)(t:Tm):iT s t=(bF s t&&t.kids.all (iT s)):=by
 have:∀l:List Tm,uV s l=l.all (iT s):=fun l=>by
  induction l with
  |nil=>rfl
  |cons k l ih=>simp[uV,ih]
 cases t;simp[iT,this,Tm.kids]
theorem l0{α:Type}{l:List α}{p:α->Bool}{k:Nat}{x:α}(hx:l[k]? =some x)(h:p x=false):l.all p=false:=by
 rw[List.all_eq_false];exact⟨x,List.mem_of_getElem? hx,by rw[h];exact Bool.false_ne_true⟩
theorem od{α:Type}{l:List α}{p:α->Bool}{k:Nat}{x:α}(hx:l[k]? =some x)(h0:(l.take k).all p=true)(h:p x=true):(l.take (k+1)).all p=true:=by
 rw[List.take_add_one,hx,List.all_append,h0];simp[h]
theorem oe{α:Type}{l:List α}{p:α->Bool}{k:Nat}(h0:(l.take k).all p=true)(h:l.length<=k):l.all p=true:=by
 rwa [List.take_of_length_le h]at h0
theorem aB{α:Type}{l:List α}{k:Nat}(h:k<l.length):∃x,l[k]? =some x:=⟨l[k],by simp[h]⟩
@[reducible] def aA.row (s:aA):List V:=[.d (.sl (s.cons.map ei.d)), .d (.sl (s.b9.map ei.d))]
theorem QN(s:aA)(hs:s.Fits):∀t:Tm,t.fits->aX Tryz.prog 94 [s.d,t.d] (.ret [.bool (iT s t)]):=by
 refine Tm.eN fun t ih hf=> ?_
 have xT:=(Tm.cm _).1 hf
 refine aX.aG mix agW aE ?_
 rw[c94]
 refine cT ?_
 refine ak (Yl s t hs xT.1) rfl ?_
 refine cT ?_
 rw[lZ]
 refine ao (fun h1=> ?_) (fun h1=> ?_)
 ·refine cT ?_
  simp at h1;simp[h1]
 ·simp at h1
  rw[h1,Bool.true_and]
  refine cT ?_
  refine aD (fun k:Nat=>⟨aZ [.ad, .ad, .ptr 0 0, .ptr 1 0, .ad, .d (.i k)],FT s.row t.row,2⟩)
   (fun k=>k<=t.kids.length/\(t.kids.take k).all (iT s)=true) (fun k=>t.kids.length - k) 0 ⟨Nat.zero_le _,aE⟩ (bO.d2 _ (kX rfl rfl) af rfl rfl ?_) (fun k hk=> ?_)
  ·exact dW
  refine cT ?_
  refine ao (fun h2=> ?_) (fun h2=> ?_)
  ·simp at h2
   obtain⟨x,hx⟩:=aB h2
   have ck:=List.mem_of_getElem? hx
   refine lg hx ?_
   refine a7 (ih x ck (xT.2 x ck)) rfl ?_
   refine cT ?_
   refine aI bC ?_
   refine cT ?_
   refine ao (fun h3=> ?_) (fun h3=> ?_)
   ·refine cT ?_
    simp at h3
    rw[l0 hx h3]
   ·refine cT ?_
    simp at h3
    refine aj (k+1) ⟨h2,od hx hk.2 h3⟩ af (bO.d2 _ (kX rfl rfl) af rfl rfl ?_)
    exact dW
  ·refine cT ?_
   simp at h2
   rw[oe hk.2 h2]
theorem Ym(s:aA)(hs:s.Fits)(t:Tm)(hf:t.fits):aX Tryz.prog 43 [s.d,t.d] (.ret [.bool (gM s t)]):=by
 refine aX.aG mix agB aE ?_
 rw[c43]
 refine cT ?_
 refine ak (Bh t hf 40 12 af af) rfl ?_
 refine cT ?_
 refine iR (gL [.bool (iT s t)] ?_ ?_)
 ·refine cT ?_
  exact fun _=>QN s hs t hf
 refine cT ?_
 rfl
theorem tg(t:Tm):ft t=(t.kids.all ft&&((decide (1<=t.op)&&decide (t.op<=3))||t.op==5)):=by
 have:∀l:List Tm,uW l=l.all ft:=fun l=>by
  induction l with
  |nil=>rfl
  |cons k l ih=>simp[uW,ih]
 cases t;simp only[ft,this,Tm.kids,Tm.op];rfl
theorem QO:∀t:Tm,t.fits->aX Tryz.prog 92 [t.d] (.ret [.bool (ft t)]):=by
 refine Tm.eN fun t ih hf=> ?_
 have xT:=(Tm.cm _).1 hf
 refine aX.aG mix agU aE ?_
 rw[c92,tg]
 refine cT ?_
 refine aD (fun k:Nat=>⟨aZ [.ad, .ptr 0 0, .ad, .d (.i k)],qp t.row,1⟩)
  (fun k=>k<=t.kids.length/\(t.kids.take k).all ft=true) (fun k=>t.kids.length - k) 0 ⟨Nat.zero_le _,aE⟩ (bO.d1 _ (cW rfl) af rfl ?_) (fun k hk=> ?_)
 ·exact dW
 refine cT ?_
 refine ao (fun h2=> ?_) (fun h2=> ?_)
 ·simp at h2
  obtain⟨x,hx⟩:=aB h2
  have ck:=List.mem_of_getElem? hx
  refine lg hx ?_
  refine ak (ih x ck (xT.2 x ck)) rfl ?_
  refine cT ?_
  refine ao (fun h3=> ?_) (fun h3=> ?_)
  ·refine cT ?_
   simp at h3
   rw[l0 hx h3];rfl
  ·refine cT ?_
   simp at h3
   refine aj (k+1) ⟨h2,od hx hk.2 h3⟩ af (bO.d1 _ (cW rfl) af rfl ?_)
   exact dW
 ·refine cT ?_
  simp at h2
  rw[oe hk.2 h2];rfl
theorem iW:∀l l':List Tm,l.length=l'.length->(iU l l'=true↔∀ (i:Nat) (x y:Tm),l[i]? =some x->l'[i]? =some y->hY x y=true)
 |[],l',_=>by simp[iU]
 |k::l,k'::l',h=>by
  simp only[iU,Bool.and_eq_true]
  rw[iW l l' (by simpa using h)]
  constructor
  ·rintro⟨h1,h2⟩ i x y hx hy
   cases i with
   |zero=>simp at hx hy;subst hx;subst hy;exact h1
   |succ i=>exact h2 i x y yu (by simpa using hy)
  ·intro h3
   exact⟨h3 0 k k' rfl rfl,fun i x y hx hy=>h3 (i+1) x y yu (by simpa using hy)⟩
 |_::_,[],h=>by simp at h
theorem rH(a b:Tm):hY a b=(a.op==b.op&&a.n==b.n&&a.kids.length==b.kids.length&&iU a.kids b.kids):=by cases a;cases b;simp[hY,Tm.op,Tm.n,Tm.kids]
theorem wM:∀a:Tm,a.fits->∀b:Tm,b.fits->aX Tryz.prog 40 [a.d,b.d] (.ret [.bool (hY a b)]):=by
 refine Tm.eN fun t ih hf b hb=> ?_
 have xT:=(Tm.cm _).1 hf
 have EY:=(Tm.cm _).1 hb
 refine aX.aG mix ac8 aE ?_
 rw[c40,rH]
 refine cT ?_
 refine ao (fun h1=> ?_) (fun h1=> ?_)
 ·refine cT ?_
  have:(t.op==b.op&&t.n==b.n&&t.kids.length==b.kids.length)=false:=by
   rw[Bool.eq_false_iff]
   intro h
   simp at h
   simp[h]at h1
  rw[this];rfl
 ·have eW:t.op=b.op/\t.n=b.n/\t.kids.length=b.kids.length:=by
   simp at h1
   refine⟨h1.1.1,h1.1.2,by have:=h1.2;omega⟩
  rw[show(t.op==b.op&&t.n==b.n&&t.kids.length==b.kids.length)=true by simp[eW],Bool.true_and]
  have hl:=eW.2.2
  refine cT ?_
  refine aD (fun k:Nat=>⟨aZ [.ad, .ad, .ptr 0 0, .ptr 1 0, .ad, .d (.i k)],FT t.row b.row,2⟩)
   (fun k=>k<=t.kids.length/\∀i,i<k->∀x y,t.kids[i]? =some x->b.kids[i]? =some y->hY x y=true) (fun k=>t.kids.length - k) 0 ⟨Nat.zero_le _,fun i h=>af⟩ (bO.d2 _ (kX rfl rfl) af rfl rfl ?_) (fun k hk=> ?_)
  ·exact dW
  refine cT ?_
  refine ao (fun h2=> ?_) (fun h2=> ?_)
  ·simp at h2
   obtain⟨x,hx⟩:=aB h2
   obtain⟨y,hy⟩:=aB (l:=b.kids) (k:=k) af
   have ck:=List.mem_of_getElem? hx
   have QP:=List.mem_of_getElem? hy
   simp+contextual only[go_sem,hx,hy]
   refine a7 (ih x ck (xT.2 x ck) y (EY.2 y QP)) rfl ?_
   refine cT ?_
   refine aI bC ?_
   refine cT ?_
   refine ao (fun h3=> ?_) (fun h3=> ?_)
   ·refine cT ?_
    simp at h3
    have:iU t.kids b.kids=false:=by
     rw[Bool.eq_false_iff]
     intro h
     have:=(iW _ _ hl).1 h k x y hx hy
     rw[h3]at this;cases this
    rw[this]
   ·refine cT ?_
    simp at h3
    refine aj (k+1) ⟨h2,fun i hi u v hu hv=> ?_⟩ af (bO.d2 _ (kX rfl rfl) af rfl rfl ?_)
    ·by_cases e:i=k
     ·subst e
      rw[hx]at hu;rw[hy]at hv
      exact Ss
     ·exact hk.2 i af u v hu hv
    ·exact dW
  ·refine cT ?_
   simp at h2
   have:iU t.kids b.kids=true:=(iW _ _ hl).2 fun i x y hx hy=>hk.2 i (by have:=(List.getElem?_eq_some_iff.1 hx).1;omega) x y hx hy
   rw[this]
theorem rI(t:Tm)(hf:t.fits):aX Tryz.prog 61 [t.d] (.ret [.bool (gA t)]):=by
 refine aX.aG mix agI aE ?_
 rw[c61]
 refine cT ?_
 refine ak (Bh t hf 50 14 af af) rfl ?_
 refine cT ?_
 rfl
theorem wN(s:aA)(hs:s.Fits):aX Tryz.prog 78 [s.d] (.ret [.bool (eH s)]):=by
 refine aX.aG mix agO aE ?_
 rw[c78]
 refine cT ?_
 refine ao (fun h1=> ?_) (fun h1=> ?_)
 ·refine cT ?_
  simp only[eH,h1];rfl
 ·have e:eH s=(gv s.cons&&gv s.b9):=by simp only[eH,h1];rfl
  rw[e]
  simp at h1
  refine cT ?_
  refine aD (fun k:Nat=>⟨aZ [.ad, .ptr 0 0, .ad, .d (.i k)],qp s.row,1⟩)
   (fun k=>k<=s.cons.length/\gv (s.cons.take k)=true) (fun k=>s.cons.length - k) 0 ⟨Nat.zero_le _,by simp[gv]⟩ (bO.d1 _ (cW rfl) af rfl ?_) (fun k hk=> ?_)
  ·exact dW
  refine cT ?_
  refine ao (fun h2=> ?_) (fun h2=> ?_)
  ·simp at h2
   obtain⟨x,hx⟩:=aB h2
   refine lg hx ?_
   refine ao (fun h3=> ?_) (fun h3=> ?_)
   ·refine cT ?_
    rw[show gv s.cons=false from l0 hx (by simpa using h3)];rfl
   ·refine cT ?_
    refine aj (k+1) ⟨h2,od hx hk.2 (by simpa using h3)⟩ af (bO.d1 _ (cW rfl) af rfl ?_)
    exact dW
  ·simp at h2
   rw[show gv s.cons=true from oe hk.2 h2,Bool.true_and]
   refine cT ?_
   refine aD (fun k:Nat=>⟨aZ [.ad, .ptr 0 0, .ad, .ad, .d (.i k)],qp s.row,1⟩)
    (fun k=>k<=s.b9.length/\gv (s.b9.take k)=true) (fun k=>s.b9.length - k) 0 ⟨Nat.zero_le _,by simp[gv]⟩ (bO.d1 _ (cW rfl) af rfl ?_) (fun k hk=> ?_)
   ·exact dW
   refine cT ?_
   refine ao (fun h4=> ?_) (fun h4=> ?_)
   ·simp at h4
    obtain⟨x,hx⟩:=aB h4
    refine lg hx ?_
    refine ao (fun h3=> ?_) (fun h3=> ?_)
    ·refine cT ?_
     rw[show gv s.b9=false from l0 hx (by simpa using h3)]
    ·refine cT ?_
     refine aj (k+1) ⟨h4,od hx hk.2 (by simpa using h3)⟩ af (bO.d1 _ (cW rfl) af rfl ?_)
     exact dW
   ·simp at h4
    rw[show gv s.b9=true from oe hk.2 h4]
    simp+contextual only[go_sem]
end Go.Proofs.YtlhemmpklhhgoaaGreat
