/-
  A PART. Conditions: none.
-/
import Derived.Test.YtlhemmpklhhgoaaGreatRows
import Derived.Shelf.SlMaps.Clone
import Derived.Test.YtlhemmpklhhgoaaGreatQf13
set_option linter.unusedSimpArgs false
set_option linter.unusedVariables false
set_option maxHeartbeats 8000000
section
namespace Go.Proofs.YtlhemmpklhhgoaaGreat
open Go.Shelf
def GI:Go.Shelf.Ren:=⟨fun|5=>100|7=>130|n=>n,fun|23=>93|25=>3|3=>33|4=>4|20=>20|n=>n,fun|n=>n⟩
theorem ZC:Go.Proofs.SlLaysW.n5 Tryz.prog GI:={
 mixed:=aJ
 f5:=⟨Tryz.f100.name,bF,Tryz.func100.trans (congrArg some aJ)⟩
 f7:=Tryz.func130.trans (congrArg some aJ)
 t4:=Tryz.underlying4
 a4:=Tryz.isAgg4
 z4:=Tryz.sizeOf4
 v4:=Tryz.zeroValue4
 t20:=Tryz.underlying20
 a20:=Tryz.isAgg20
 z20:=Tryz.sizeOf20
 v20:=Tryz.zeroValue20
 t23:=Tryz.underlying93
 a23:=Tryz.isAgg93
 z23:=Tryz.sizeOf93
 v23:=Tryz.zeroValue93}
theorem Oe:IF Tryz.prog 100:=⟨⟨_,Tryz.func100,aJ,aJ⟩,fun w b es clock hb=>AnyW.maps_Clone ZC b es clock w hb⟩
end Go.Proofs.YtlhemmpklhhgoaaGreat
end
namespace Go.Proofs.YtlhemmpklhhgoaaGreat
theorem mix:Tryz.prog.follows .mixedOrders=true:=aJ
def zn:Tr FD:= .e fun _=> .no
theorem zt{f:Nat->Nat}:Tr.IZ (fun(g:Nat) (d:FD)=>d.Ok Tryz.prog g) zn f:=fun _=>trivial
def ae1:Tr FD:=
 (.n .no (.n .no (.n .no (.n .no (.n (.fn 34 c15 [.cell 6 29, .tmp 7]) (.n .no (.n (.fn 27 c63 [.cell 6 95, .tmp 7]) zn zn) (.n .no (.n (.fn 4 Zg [.tmp 2]) zn zn) zn)) (.n (.fn 9 c47 [.cell 4 33]) (.n (.fn 167 c79 [.cell 2 95, .tmp 3]) zn zn) (.n (.fn 4 Y0 [.tmp 2]) (.n (.fn 49 aeT []) zn zn) zn))) (.n .no (.n .no (.n .no (.n (.fn 11 aeC []) zn zn) (.n (.fn 14 ZA [.tmp 4]) zn zn)) (.n (.fn 133 YS []) (.n (.fn 8 Zm [.tmp 3]) zn zn) zn)) (.n .no zn (.n (.fn 46 Y1 [.tmp 2]) zn zn)))) (.n .no (.n .no (.n (.fn 40 c35 [.tmp 6, .tmp 7]) (.n (.fn 45 c67 [.tmp 2, .tmp 3]) zn (.n (.fn 14 Zw [.tmp 4]) zn zn)) (.n (.fn 22 c99 [.tmp 4]) (.n (.fn 8 aeR [.tmp 2]) zn zn) zn)) (.n (.fn 6 c51 [.cell 2 33]) (.n .no (.n (.fn 18 Zc [.tmp 4]) zn zn) zn) zn)) (.n .no (.n .no zn (.n (.fn 6 YW [.cell 2 33]) (.n (.fn 39 Zp [.cell 4 4]) zn zn) zn)) (.n .no (.n (.fn 35 c91 [.tmp 8]) zn zn) (.n .no (.n (.fn 19 Zu [.cell 0 210]) zn zn) zn))))) (.n .no (.n .no (.n .no (.n .no (.n (.fn 66 c65 [.cell 2 29]) (.n (.fn 32 Y4 [.tmp 4, .tmp 5, .tmp 6]) zn zn) (.n (.fn 6 aeZ [.tmp 2]) zn zn)) (.n .no (.n (.fn 13 Zi [.tmp 4]) zn zn) zn)) (.n (.fn 10 c49 [.cell 0 29]) (.n .no (.n (.fn 28 Za [.tmp 2]) zn zn) zn) zn)) (.n (.fn 46 c25 [.tmp 4]) (.n .no (.n (.fn 33 c73 [.tmp 4]) zn zn) (.n (.fn 8 YU [.tmp 2]) (.n (.fn 18 Zn [.tmp 4]) zn zn) zn)) (.n .no zn (.n (.fn 15 Y3 [.tmp 2]) (.n (.fn 25 aeX [.tmp 2]) zn zn) zn)))) (.n .no (.n (.fn 70 c21 [.tmp 4]) (.n .no (.n (.fn 9 c69 [.tmp 2]) (.n (.fn 32 Y6 [.tmp 6]) zn zn) (.n (.fn 27 Zy [.tmp 4]) zn zn)) (.n (.dfr 6 Oa YQ 131 3 [.tmp 2] [.cell 2 36] 14 5 5 N8) (.n (.fn 17 Zk [.tmp 4]) zn zn) zn)) (.n .no (.n (.fn 8 c85 [.cell 4 33]) (.n (.fn 4 Ze [.tmp 2]) zn zn) zn) (.n .no (.n (.fn 17 aeV [.tmp 4]) zn zn) zn))) (.n .no (.n .no zn (.n (.fn 17 YY []) (.n (.fn 17 Zr [.tmp 6]) zn zn) zn)) zn)))) (.n .no (.n .no (.n .no (.n (.fn 62 c16 [.cell 6 29, .tmp 7]) (.n .no (.n (.fn 45 c64 [.cell 6 95, .tmp 7]) zn zn) (.n .no (.n (.fn 16 Zh [.cell 2 4]) zn zn) zn)) (.n (.fn 5 c48 [.cell 2 33]) (.n (.fn 5 c80 [.cell 2 33]) (.n (.fn 24 Y9 [.tmp 3]) zn zn) zn) (.n (.fn 21 RU [.cell 4 33]) zn zn))) (.n (.fn 94 c24 [.cell 2 43, .tmp 3]) (.n (.fn 46 c40 [.tmp 4]) (.n .no (.n (.fn 14 Y8 []) zn zn) (.n (.fn 14 ZB [.tmp 4]) zn zn)) (.n (.fn 9 YT [.tmp 2]) zn zn)) (.n .no (.n (.fn 9 c88 [.tmp 4]) zn zn) (.n (.fn 14 Y2 [.tmp 6]) zn zn)))) (.n .no (.n .no (.n .no (.n (.fn 33 c68 [.cell 4 33]) (.n (.fn 47 Y5 []) zn zn) (.n (.fn 27 Zx [.tmp 4]) zn zn)) (.n .mpc (.n (.fn 8 Zj []) zn zn) zn)) (.n (.fn 2 c52 [.cell 0 33]) (.n .no (.n (.fn 34 Zd [.cell 6 4]) zn zn) zn) zn)) (.n .no (.n .no zn (.n (.fn 24 YX [.tmp 4]) (.n (.fn 8 Zq []) zn zn) zn)) (.n (.fn 42 c60 [.tmp 4]) zn zn)))) (.n .no (.n .no (.n .no (.n .no (.n (.fn 16 c66 [.tmp 4]) zn (.n (.fn 14 Zv [.tmp 4]) zn zn)) (.n .no (.n (.fn 134 aeP []) zn zn) zn)) (.n (.fn 2 c50 [.cell 0 33]) (.n .no (.n (.fn 15 Zb [.tmp 6]) zn zn) zn) zn)) (.n .no (.n .no (.n (.fn 50 c74 [.tmp 4]) zn zn) (.n (.fn 8 YV [.tmp 2]) (.n (.fn 7 Zo [.tmp 3]) zn zn) zn)) (.n .no zn (.n .no (.n (.fn 19 Zt [.tmp 4]) zn zn) zn)))) (.n (.fn 101 c14 [.tmp 0]) (.n .no (.n .no (.n .no (.n (.fn 5 Y7 [.tmp 2]) zn zn) (.n (.fn 27 Zz [.tmp 4]) zn zn)) (.n (.fn 7 YR []) (.n (.fn 9 Zl [.tmp 4]) zn zn) zn)) zn) (.n .no (.n (.fn 10 c46 [.cell 0 29]) zn (.n (.fn 9 YZ [.tmp 2]) (.n (.fn 10 Zs [.tmp 4]) zn zn) zn)) (.n (.fn 12 c62 [.cell 0 24]) (.n .no (.n (.fn 13 Zf [.tmp 4]) zn zn) zn) (.n (.fn 19 RV [.tmp 4]) zn zn)))))))
noncomputable def tab:Nat->FD:=ae1.get
theorem iK:∀g,(tab g).Ok Tryz.prog g:=
 Tr.BR (p:=fun g d=>d.Ok Tryz.prog g) (f:=fun g=>g) ae1
   ⟨trivial,⟨trivial,⟨trivial,⟨trivial,⟨ad3,⟨trivial,⟨ad9,zt,zt⟩,⟨trivial,⟨VV,zt,zt⟩,zt⟩⟩,⟨ahh,⟨aeg,zt,zt⟩,⟨VF,⟨aeU,zt,zt⟩,zt⟩⟩⟩,⟨trivial,⟨trivial,⟨trivial,⟨aeD,zt,zt⟩,⟨Wf,zt,zt⟩⟩,⟨Vx,⟨V1,zt,zt⟩,zt⟩⟩,⟨trivial,zt,⟨VG,zt,zt⟩⟩⟩⟩,⟨trivial,⟨trivial,⟨ahb,⟨aed,zt,⟨Wb,zt,zt⟩⟩,⟨ael,⟨aeS,zt,zt⟩,zt⟩⟩,⟨ahk,⟨trivial,⟨VR,zt,zt⟩,zt⟩,zt⟩⟩,⟨trivial,⟨trivial,zt,⟨VB,⟨V4,zt,zt⟩,zt⟩⟩,⟨trivial,⟨aek,zt,zt⟩,⟨trivial,⟨V9,zt,zt⟩,zt⟩⟩⟩⟩⟩,⟨trivial,⟨trivial,⟨trivial,⟨trivial,⟨aeb,⟨VJ,zt,zt⟩,⟨ae0,zt,zt⟩⟩,⟨trivial,⟨VX,zt,zt⟩,zt⟩⟩,⟨ahi,⟨trivial,⟨VP,zt,zt⟩,zt⟩,zt⟩⟩,⟨ag5,⟨trivial,⟨ahv,zt,zt⟩,⟨Vz,⟨V2,zt,zt⟩,zt⟩⟩,⟨trivial,zt,⟨VI,⟨aeY,zt,zt⟩,zt⟩⟩⟩⟩,⟨trivial,⟨ag0,⟨trivial,⟨aef,⟨VL,zt,zt⟩,⟨Wd,zt,zt⟩⟩,⟨⟨Ob,N9⟩,⟨VZ,zt,zt⟩,zt⟩⟩,⟨trivial,⟨aej,⟨VT,zt,zt⟩,zt⟩,⟨trivial,⟨aeW,zt,zt⟩,zt⟩⟩⟩,⟨trivial,⟨trivial,zt,⟨VD,⟨V6,zt,zt⟩,zt⟩⟩,zt⟩⟩⟩⟩,⟨trivial,⟨trivial,⟨trivial,⟨ad4,⟨trivial,⟨aea,zt,zt⟩,⟨trivial,⟨VW,zt,zt⟩,zt⟩⟩,⟨ad7,⟨aeh,⟨VO,zt,zt⟩,zt⟩,⟨Oc,zt,zt⟩⟩⟩,⟨ad5,⟨ad6,⟨trivial,⟨VN,zt,zt⟩,⟨Wg,zt,zt⟩⟩,⟨Vy,zt,zt⟩⟩,⟨trivial,⟨YP,zt,zt⟩,⟨VH,zt,zt⟩⟩⟩⟩,⟨trivial,⟨trivial,⟨trivial,⟨aee,⟨VK,zt,zt⟩,⟨Wc,zt,zt⟩⟩,⟨Oe,⟨VY,zt,zt⟩,zt⟩⟩,⟨ahl,⟨trivial,⟨VS,zt,zt⟩,zt⟩,zt⟩⟩,⟨trivial,⟨trivial,zt,⟨VC,⟨V5,zt,zt⟩,zt⟩⟩,⟨ad8,zt,zt⟩⟩⟩⟩,⟨trivial,⟨trivial,⟨trivial,⟨trivial,⟨aec,zt,⟨Wa,zt,zt⟩⟩,⟨trivial,⟨aeQ,zt,zt⟩,zt⟩⟩,⟨ahj,⟨trivial,⟨VQ,zt,zt⟩,zt⟩,zt⟩⟩,⟨trivial,⟨trivial,⟨ahw,zt,zt⟩,⟨VA,⟨V3,zt,zt⟩,zt⟩⟩,⟨trivial,zt,⟨trivial,⟨V8,zt,zt⟩,zt⟩⟩⟩⟩,⟨agZ,⟨trivial,⟨trivial,⟨trivial,⟨VM,zt,zt⟩,⟨We,zt,zt⟩⟩,⟨Vw,⟨V0,zt,zt⟩,zt⟩⟩,zt⟩,⟨trivial,⟨ahg,zt,⟨VE,⟨V7,zt,zt⟩,zt⟩⟩,⟨aht,⟨trivial,⟨VU,zt,zt⟩,zt⟩,⟨Od,zt,zt⟩⟩⟩⟩⟩⟩⟩
end Go.Proofs.YtlhemmpklhhgoaaGreat
namespace Go.Proofs.YtlhemmpklhhgoaaGreat
@[go_sem] theorem cellsOf_3:Tryz.prog.cellsOf 3=1:=aJ
@[go_sem] theorem bytesOf_3:Tryz.prog.bytesOf 3=8:=aJ
@[go_sem] theorem aggT_3:du Tryz.prog 3=some false:=aJ
@[go_sem] theorem intT_3:nW Tryz.prog 3=some .i64:=aJ
@[go_sem] theorem infoT_3:(Tryz.prog.info? 3).isSome=true:=aJ
@[go_sem] theorem undT_3:Tryz.prog.underlying 3=some (.int .i64):=aJ
@[go_sem] theorem eqShape_3:b8 Tryz.prog 3=some .int:=aJ
@[go_sem] theorem zeroT_3:cy Tryz.prog 3=some [.d (.int .i64 0)]:=aJ
@[go_sem] theorem cellsOf_4:Tryz.prog.cellsOf 4=1:=aJ
@[go_sem] theorem aggT_4:du Tryz.prog 4=some false:=aJ
@[go_sem] theorem isBoolT_4:nm Tryz.prog 4=true:=aJ
@[go_sem] theorem infoT_4:(Tryz.prog.info? 4).isSome=true:=aJ
@[go_sem] theorem undT_4:Tryz.prog.underlying 4=some .bool:=aJ
@[go_sem] theorem zeroT_4:cy Tryz.prog 4=some [.d (.bool false)]:=aJ
@[go_sem] theorem zeroV_4:zeroV Tryz.prog 4=some (.d (.bool false)):=aJ
@[go_sem] theorem cellsOf_5:Tryz.prog.cellsOf 5=1:=aJ
@[go_sem] theorem aggT_5:du Tryz.prog 5=some false:=aJ
@[go_sem] theorem undT_5:Tryz.prog.underlying 5=some (.int .u8):=aJ
@[go_sem] theorem cellsOf_9:Tryz.prog.cellsOf 9=1:=aJ
@[go_sem] theorem bytesOf_9:Tryz.prog.bytesOf 9=16:=aJ
@[go_sem] theorem aggT_9:du Tryz.prog 9=some false:=aJ
@[go_sem] theorem undT_9:Tryz.prog.underlying 9=some .string:=aJ
@[go_sem] theorem eqShape_9:b8 Tryz.prog 9=some .str:=aJ
@[go_sem] theorem zeroT_9:cy Tryz.prog 9=some [.d (.str [])]:=aJ
@[go_sem] theorem sliceT_22:b7 Tryz.prog 22=some 124:=aJ
@[go_sem] theorem aggT_22:du Tryz.prog 22=some false:=aJ
@[go_sem] theorem intT_22:nW Tryz.prog 22=none:=aJ
@[go_sem] theorem undT_22:Tryz.prog.underlying 22=some (.slice 124):=aJ
@[go_sem] theorem cellsOf_24:Tryz.prog.cellsOf 24=2:=aJ
@[go_sem] theorem aggT_24:du Tryz.prog 24=some true:=aJ
@[go_sem] theorem zeroT_24:cy Tryz.prog 24=some [.ao, .ao]:=aJ
@[go_sem] theorem placesT_24:de Tryz.prog 24=some [(0,1),(1,1)]:=aJ
@[go_sem] theorem cellsOf_25:Tryz.prog.cellsOf 25=1:=aJ
@[go_sem] theorem bytesOf_25:Tryz.prog.bytesOf 25=24:=aJ
@[go_sem] theorem sliceT_25:b7 Tryz.prog 25=some 59:=aJ
@[go_sem] theorem aggT_25:du Tryz.prog 25=some false:=aJ
@[go_sem] theorem intT_25:nW Tryz.prog 25=none:=aJ
@[go_sem] theorem infoT_25:(Tryz.prog.info? 25).isSome=true:=aJ
@[go_sem] theorem undT_25:Tryz.prog.underlying 25=some (.slice 59):=aJ
@[go_sem] theorem zeroT_25:cy Tryz.prog 25=some [.ao]:=aJ
@[go_sem] theorem cellsOf_26:Tryz.prog.cellsOf 26=1:=aJ
@[go_sem] theorem sliceT_26:b7 Tryz.prog 26=some 101:=aJ
@[go_sem] theorem aggT_26:du Tryz.prog 26=some false:=aJ
@[go_sem] theorem intT_26:nW Tryz.prog 26=none:=aJ
@[go_sem] theorem infoT_26:(Tryz.prog.info? 26).isSome=true:=aJ
@[go_sem] theorem undT_26:Tryz.prog.underlying 26=some (.slice 101):=aJ
@[go_sem] theorem sliceT_27:b7 Tryz.prog 27=some 77:=aJ
@[go_sem] theorem aggT_27:du Tryz.prog 27=some false:=aJ
@[go_sem] theorem intT_27:nW Tryz.prog 27=none:=aJ
@[go_sem] theorem undT_27:Tryz.prog.underlying 27=some (.slice 77):=aJ
@[go_sem] theorem cellsOf_29:Tryz.prog.cellsOf 29=5:=aJ
@[go_sem] theorem aggT_29:du Tryz.prog 29=some true:=aJ
@[go_sem] theorem infoT_29:(Tryz.prog.info? 29).isSome=true:=aJ
@[go_sem] theorem zeroT_29:cy Tryz.prog 29=some [.ao, .ao, .ao, .ao, .ao]:=aJ
@[go_sem] theorem placesT_29:de Tryz.prog 29=some [(0,2),(2,1),(3,1),(4,1)]:=aJ
@[go_sem] theorem aggT_30:du Tryz.prog 30=some false:=aJ
@[go_sem] theorem undT_30:Tryz.prog.underlying 30=some (.int .i64):=aJ
@[go_sem] theorem cellsOf_31:Tryz.prog.cellsOf 31=1:=aJ
@[go_sem] theorem sliceT_31:b7 Tryz.prog 31=some 33:=aJ
@[go_sem] theorem aggT_31:du Tryz.prog 31=some false:=aJ
@[go_sem] theorem intT_31:nW Tryz.prog 31=none:=aJ
@[go_sem] theorem infoT_31:(Tryz.prog.info? 31).isSome=true:=aJ
@[go_sem] theorem undT_31:Tryz.prog.underlying 31=some (.slice 33):=aJ
@[go_sem] theorem cellsOf_33:Tryz.prog.cellsOf 33=3:=aJ
@[go_sem] theorem bytesOf_33:Tryz.prog.bytesOf 33=40:=aJ
@[go_sem] theorem aggT_33:du Tryz.prog 33=some true:=aJ
@[go_sem] theorem infoT_33:(Tryz.prog.info? 33).isSome=true:=aJ
@[go_sem] theorem zeroT_33:cy Tryz.prog 33=some [.d (.int .i64 0), .d (.int .i64 0), .ao]:=aJ
@[go_sem] theorem zeroV_33:zeroV Tryz.prog 33=some (nM [.d (.int .i64 0), .d (.int .i64 0), .ao]):=aJ
@[go_sem] theorem placesT_33:de Tryz.prog 33=some [(0,1),(1,1),(2,1)]:=aJ
@[go_sem] theorem cellsOf_36:Tryz.prog.cellsOf 36=1:=aJ
@[go_sem] theorem aggT_36:du Tryz.prog 36=some false:=aJ
@[go_sem] theorem infoT_36:(Tryz.prog.info? 36).isSome=true:=aJ
@[go_sem] theorem zeroT_36:cy Tryz.prog 36=some [.d (.int .i64 0)]:=aJ
@[go_sem] theorem cellsOf_41:Tryz.prog.cellsOf 41=1:=aJ
@[go_sem] theorem sliceT_41:b7 Tryz.prog 41=some 25:=aJ
@[go_sem] theorem aggT_41:du Tryz.prog 41=some false:=aJ
@[go_sem] theorem intT_41:nW Tryz.prog 41=none:=aJ
@[go_sem] theorem infoT_41:(Tryz.prog.info? 41).isSome=true:=aJ
@[go_sem] theorem undT_41:Tryz.prog.underlying 41=some (.slice 25):=aJ
@[go_sem] theorem cellsOf_43:Tryz.prog.cellsOf 43=2:=aJ
@[go_sem] theorem aggT_43:du Tryz.prog 43=some true:=aJ
@[go_sem] theorem infoT_43:(Tryz.prog.info? 43).isSome=true:=aJ
@[go_sem] theorem zeroT_43:cy Tryz.prog 43=some [.ao, .ao]:=aJ
@[go_sem] theorem sliceT_48:b7 Tryz.prog 48=some 53:=aJ
@[go_sem] theorem intT_48:nW Tryz.prog 48=none:=aJ
@[go_sem] theorem undT_48:Tryz.prog.underlying 48=some (.slice 53):=aJ
@[go_sem] theorem sliceT_49:b7 Tryz.prog 49=some 5:=aJ
@[go_sem] theorem undT_49:Tryz.prog.underlying 49=some (.slice 5):=aJ
@[go_sem] theorem cellsOf_53:Tryz.prog.cellsOf 53=7:=aJ
@[go_sem] theorem bytesOf_53:Tryz.prog.bytesOf 53=88:=aJ
@[go_sem] theorem aggT_53:du Tryz.prog 53=some true:=aJ
@[go_sem] theorem infoT_53:(Tryz.prog.info? 53).isSome=true:=aJ
@[go_sem] theorem zeroT_53:cy Tryz.prog 53=some [.d (.int .i64 0), .d (.int .i64 0), .ao, .d (.int .i64 0), .d (.int .i64 0), .ao, .d (.bool false)]:=aJ
@[go_sem] theorem cellsOf_59:Tryz.prog.cellsOf 59=4:=aJ
@[go_sem] theorem bytesOf_59:Tryz.prog.bytesOf 59=48:=aJ
@[go_sem] theorem aggT_59:du Tryz.prog 59=some true:=aJ
@[go_sem] theorem infoT_59:(Tryz.prog.info? 59).isSome=true:=aJ
@[go_sem] theorem zeroT_59:cy Tryz.prog 59=some [.d (.int .i64 0), .d (.int .i64 0), .d (.int .i64 0), .ao]:=aJ
@[go_sem] theorem placesT_59:de Tryz.prog 59=some [(0,1),(1,3)]:=aJ
@[go_sem] theorem cellsOf_77:Tryz.prog.cellsOf 77=2:=aJ
@[go_sem] theorem bytesOf_77:Tryz.prog.bytesOf 77=16:=aJ
@[go_sem] theorem aggT_77:du Tryz.prog 77=some true:=aJ
@[go_sem] theorem infoT_77:(Tryz.prog.info? 77).isSome=true:=aJ
@[go_sem] theorem zeroT_77:cy Tryz.prog 77=some [.d (.int .i64 0), .d (.int .i64 0)]:=aJ
@[go_sem] theorem placesT_77:de Tryz.prog 77=some [(0,1),(1,1)]:=aJ
@[go_sem] theorem cellsOf_90:Tryz.prog.cellsOf 90=1:=aJ
@[go_sem] theorem aggT_90:du Tryz.prog 90=some false:=aJ
@[go_sem] theorem infoT_90:(Tryz.prog.info? 90).isSome=true:=aJ
@[go_sem] theorem zeroT_90:cy Tryz.prog 90=some [.d .cJ]:=aJ
@[go_sem] theorem cellsOf_93:Tryz.prog.cellsOf 93=1:=aJ
@[go_sem] theorem aggT_93:du Tryz.prog 93=some false:=aJ
@[go_sem] theorem infoT_93:(Tryz.prog.info? 93).isSome=true:=aJ
@[go_sem] theorem undT_93:Tryz.prog.underlying 93=some (.map 3 33):=aJ
@[go_sem] theorem mapT_93:tw Tryz.prog 93=some (3,33):=aJ
@[go_sem] theorem cellsOf_95:Tryz.prog.cellsOf 95=6:=aJ
@[go_sem] theorem aggT_95:du Tryz.prog 95=some true:=aJ
@[go_sem] theorem infoT_95:(Tryz.prog.info? 95).isSome=true:=aJ
@[go_sem] theorem zeroT_95:cy Tryz.prog 95=some [.ao, .ao, .ao, .ao, .ao, .d .dX]:=aJ
@[go_sem] theorem placesT_95:de Tryz.prog 95=some [(0,5),(5,1)]:=aJ
@[go_sem] theorem cellsOf_101:Tryz.prog.cellsOf 101=6:=aJ
@[go_sem] theorem bytesOf_101:Tryz.prog.bytesOf 101=80:=aJ
@[go_sem] theorem aggT_101:du Tryz.prog 101=some true:=aJ
@[go_sem] theorem infoT_101:(Tryz.prog.info? 101).isSome=true:=aJ
@[go_sem] theorem zeroT_101:cy Tryz.prog 101=some [.d (.int .i64 0), .d (.int .i64 0), .ao, .d (.int .i64 0), .d (.int .i64 0), .ao]:=aJ
@[go_sem] theorem placesT_101:de Tryz.prog 101=some [(0,3),(3,3)]:=aJ
@[go_sem] theorem cellsOf_106:Tryz.prog.cellsOf 106=6:=aJ
@[go_sem] theorem bytesOf_106:Tryz.prog.bytesOf 106=80:=aJ
@[go_sem] theorem sliceT_106:b7 Tryz.prog 106=none:=aJ
@[go_sem] theorem arrT_106:A6 Tryz.prog 106=some (2,33):=aJ
@[go_sem] theorem aggT_106:du Tryz.prog 106=some true:=aJ
@[go_sem] theorem infoT_106:(Tryz.prog.info? 106).isSome=true:=aJ
@[go_sem] theorem zeroT_106:cy Tryz.prog 106=some [.d (.int .i64 0), .d (.int .i64 0), .ao, .d (.int .i64 0), .d (.int .i64 0), .ao]:=aJ
@[go_sem] theorem placesT_106:de Tryz.prog 106=some [(0,3),(3,3)]:=aJ
@[go_sem] theorem sliceT_117:b7 Tryz.prog 117=some 106:=aJ
@[go_sem] theorem aggT_117:du Tryz.prog 117=some false:=aJ
@[go_sem] theorem intT_117:nW Tryz.prog 117=none:=aJ
@[go_sem] theorem undT_117:Tryz.prog.underlying 117=some (.slice 106):=aJ
@[go_sem] theorem cellsOf_124:Tryz.prog.cellsOf 124=2:=aJ
@[go_sem] theorem bytesOf_124:Tryz.prog.bytesOf 124=24:=aJ
@[go_sem] theorem aggT_124:du Tryz.prog 124=some true:=aJ
@[go_sem] theorem infoT_124:(Tryz.prog.info? 124).isSome=true:=aJ
@[go_sem] theorem zeroT_124:cy Tryz.prog 124=some [.d (.str []), .d (.int .i64 0)]:=aJ
@[go_sem] theorem placesT_124:de Tryz.prog 124=some [(0,1),(1,1)]:=aJ
@[go_sem] theorem cellsOf_134:Tryz.prog.cellsOf 134=1:=aJ
@[go_sem] theorem aggT_134:du Tryz.prog 134=some false:=aJ
@[go_sem] theorem infoT_134:(Tryz.prog.info? 134).isSome=true:=aJ
@[go_sem] theorem zeroT_134:cy Tryz.prog 134=some [.d .mu]:=aJ
@[go_sem] theorem zeroT_137:cy Tryz.prog 137=some [.d .dX, .ao, .d (.bool false)]:=aJ
@[go_sem] theorem placesT_137:de Tryz.prog 137=some [(0,1),(1,1),(2,1)]:=aJ
@[go_sem] theorem cellsOf_142:Tryz.prog.cellsOf 142=1:=aJ
@[go_sem] theorem sliceT_142:b7 Tryz.prog 142=some 3:=aJ
@[go_sem] theorem aggT_142:du Tryz.prog 142=some false:=aJ
@[go_sem] theorem intT_142:nW Tryz.prog 142=none:=aJ
@[go_sem] theorem infoT_142:(Tryz.prog.info? 142).isSome=true:=aJ
@[go_sem] theorem undT_142:Tryz.prog.underlying 142=some (.slice 3):=aJ
@[go_sem] theorem sliceT_148:b7 Tryz.prog 148=some 9:=aJ
@[go_sem] theorem intT_148:nW Tryz.prog 148=none:=aJ
@[go_sem] theorem undT_148:Tryz.prog.underlying 148=some (.slice 9):=aJ
@[go_sem] theorem cellsOf_154:Tryz.prog.cellsOf 154=1:=aJ
@[go_sem] theorem aggT_154:du Tryz.prog 154=some false:=aJ
@[go_sem] theorem infoT_154:(Tryz.prog.info? 154).isSome=true:=aJ
@[go_sem] theorem zeroT_154:cy Tryz.prog 154=some [.d .cJ]:=aJ
@[go_sem] theorem cellsOf_162:Tryz.prog.cellsOf 162=0:=aJ
@[go_sem] theorem infoT_162:(Tryz.prog.info? 162).isSome=true:=aJ
@[go_sem] theorem plainIface_162:nr Tryz.prog 162=true:=aJ
@[go_sem] theorem zeroT_162:cy Tryz.prog 162=some []:=aJ
@[go_sem] theorem zeroV_162:zeroV Tryz.prog 162=some (nM []):=aJ
@[go_sem] theorem placesT_162:de Tryz.prog 162=some []:=aJ
@[go_sem] theorem cellsOf_163:Tryz.prog.cellsOf 163=0:=aJ
@[go_sem] theorem infoT_163:(Tryz.prog.info? 163).isSome=true:=aJ
@[go_sem] theorem plainIface_163:nr Tryz.prog 163=true:=aJ
@[go_sem] theorem zeroT_163:cy Tryz.prog 163=some []:=aJ
@[go_sem] theorem zeroV_163:zeroV Tryz.prog 163=some (nM []):=aJ
@[go_sem] theorem placesT_163:de Tryz.prog 163=some []:=aJ
@[go_sem] theorem zeroT_164:cy Tryz.prog 164=some [.d (.int .i64 0), .d (.int .i64 0)]:=aJ
@[go_sem] theorem placesT_164:de Tryz.prog 164=some [(0,1),(1,1)]:=aJ
@[go_sem] theorem aggT_168:du Tryz.prog 168=some false:=aJ
@[go_sem] theorem cellsOf_175:Tryz.prog.cellsOf 175=1:=aJ
@[go_sem] theorem aggT_175:du Tryz.prog 175=some false:=aJ
@[go_sem] theorem infoT_175:(Tryz.prog.info? 175).isSome=true:=aJ
@[go_sem] theorem mapT_175:tw Tryz.prog 175=some (9,4):=aJ
@[go_sem] theorem zeroT_175:cy Tryz.prog 175=some [.d .dX]:=aJ
@[go_sem] theorem cellsOf_178:Tryz.prog.cellsOf 178=1:=aJ
@[go_sem] theorem aggT_178:du Tryz.prog 178=some false:=aJ
@[go_sem] theorem infoT_178:(Tryz.prog.info? 178).isSome=true:=aJ
@[go_sem] theorem mapT_178:tw Tryz.prog 178=some (3,4):=aJ
@[go_sem] theorem zeroT_178:cy Tryz.prog 178=some [.d .dX]:=aJ
@[go_sem] theorem cellsOf_209:Tryz.prog.cellsOf 209=1:=aJ
@[go_sem] theorem aggT_209:du Tryz.prog 209=some false:=aJ
@[go_sem] theorem infoT_209:(Tryz.prog.info? 209).isSome=true:=aJ
@[go_sem] theorem cellsOf_210:Tryz.prog.cellsOf 210=16:=aJ
@[go_sem] theorem sliceT_210:b7 Tryz.prog 210=none:=aJ
@[go_sem] theorem arrT_210:A6 Tryz.prog 210=some (16,209):=aJ
@[go_sem] theorem aggT_210:du Tryz.prog 210=some true:=aJ
@[go_sem] theorem infoT_210:(Tryz.prog.info? 210).isSome=true:=aJ
@[go_sem] theorem zeroT_210:cy Tryz.prog 210=some [.d .cJ, .d .cJ, .d .cJ, .d .cJ, .d .cJ, .d .cJ, .d .cJ, .d .cJ, .d .cJ, .d .cJ, .d .cJ, .d .cJ, .d .cJ, .d .cJ, .d .cJ, .d .cJ]:=aJ
@[go_sem] theorem placesT_210:de Tryz.prog 210=some [(0,1),(1,1),(2,1),(3,1),(4,1),(5,1),(6,1),(7,1),(8,1),(9,1),(10,1),(11,1),(12,1),(13,1),(14,1),(15,1)]:=aJ
@[go_sem] theorem zeroT_213:cy Tryz.prog 213=some [.ao, .ao]:=aJ
@[go_sem] theorem placesT_213:de Tryz.prog 213=some [(0,2)]:=aJ
@[go_sem] theorem fieldT_24_0:bX Tryz.prog 24 0=some 0:=aJ
@[go_sem] theorem fieldT_24_1:bX Tryz.prog 24 1=some 1:=aJ
@[go_sem] theorem fieldT_29_0:bX Tryz.prog 29 0=some 0:=aJ
@[go_sem] theorem fieldT_29_1:bX Tryz.prog 29 1=some 2:=aJ
@[go_sem] theorem fieldT_29_2:bX Tryz.prog 29 2=some 3:=aJ
@[go_sem] theorem fieldT_29_3:bX Tryz.prog 29 3=some 4:=aJ
@[go_sem] theorem fieldT_33_0:bX Tryz.prog 33 0=some 0:=aJ
@[go_sem] theorem fieldT_33_1:bX Tryz.prog 33 1=some 1:=aJ
@[go_sem] theorem fieldT_33_2:bX Tryz.prog 33 2=some 2:=aJ
@[go_sem] theorem fieldT_43_0:bX Tryz.prog 43 0=some 0:=aJ
@[go_sem] theorem fieldT_43_1:bX Tryz.prog 43 1=some 1:=aJ
@[go_sem] theorem fieldT_53_0:bX Tryz.prog 53 0=some 0:=aJ
@[go_sem] theorem fieldT_53_1:bX Tryz.prog 53 1=some 3:=aJ
@[go_sem] theorem fieldT_53_2:bX Tryz.prog 53 2=some 6:=aJ
@[go_sem] theorem fieldT_59_0:bX Tryz.prog 59 0=some 0:=aJ
@[go_sem] theorem fieldT_59_1:bX Tryz.prog 59 1=some 1:=aJ
@[go_sem] theorem fieldT_77_0:bX Tryz.prog 77 0=some 0:=aJ
@[go_sem] theorem fieldT_77_1:bX Tryz.prog 77 1=some 1:=aJ
@[go_sem] theorem fieldT_95_0:bX Tryz.prog 95 0=some 0:=aJ
@[go_sem] theorem fieldT_95_1:bX Tryz.prog 95 1=some 5:=aJ
@[go_sem] theorem fieldT_101_0:bX Tryz.prog 101 0=some 0:=aJ
@[go_sem] theorem fieldT_101_1:bX Tryz.prog 101 1=some 3:=aJ
@[go_sem] theorem fieldT_124_0:bX Tryz.prog 124 0=some 0:=aJ
@[go_sem] theorem fieldT_124_1:bX Tryz.prog 124 1=some 1:=aJ
@[go_sem] theorem fieldT_137_0:bX Tryz.prog 137 0=some 0:=aJ
@[go_sem] theorem fieldT_137_1:bX Tryz.prog 137 1=some 1:=aJ
@[go_sem] theorem fieldT_137_2:bX Tryz.prog 137 2=some 2:=aJ
@[go_sem] theorem fieldT_213_0:bX Tryz.prog 213 0=some 0:=aJ
section
def la(x y:aa):Prop:=(x.cF=true->y.cF=true)/\∀e,x.cu=some e->y.cu=some e
theorem la.rfl' {x y:aa}(h:x=y):la x y:=h ▸ ⟨id,fun _ h=>h⟩
theorem la.fz (x:aa):la x.fz x:=by cases x<;>exact⟨id,fun _ h=>h⟩
theorem la.row (cs cs':List V):la (.row cs) (.row cs'):=⟨fun _=>rfl,fun _ h=>by cases h⟩
mutual
theorem V.kU {B B':Nat->Prop}{φ aI:Place}{H H':Hp}{w:World}(hB:∀b, ¬B b-> ¬B' b):∀ (v:V) (val:Value),(∀id∈v.refs,la (H'.o id) (H.o id)/\aI id=φ id/\H'.us id)->V.den B φ H w v val->V.den B' aI H' w v val
 | .d x,val,_,h=>D.aV (w:=w) (w':=w) (fun b _ hn=>⟨rfl,hB b hn⟩) x val h
 | .ao,_,_,h=>h
 | .ai,_,_,_=>trivial
 | .gh,_,_,h=>h
 | .pY es,val,_,h=>⟨D.aV (w:=w) (w':=w) (fun b _ hn=>⟨rfl,hB b hn⟩) (.sl es) val h.1,h.2⟩
 | .agg cs,val,hr,h=>by
   obtain⟨a,rfl,h1,h2⟩:=h
   exact⟨a,rfl,V.eX hB cs _ zm h1,h2⟩
 | .cf cs,val,hr,h=>by
   obtain⟨a,rfl,h1⟩:=h
   exact⟨a,rfl,V.eX hB cs _ zm h1⟩
 | .ptr id off,val,hr,h=>by
   exact Xc
 | .osl id ep,val,hr,h=>by
   obtain⟨a,b,c⟩:=hr id pM
   obtain⟨h0,h1,h2⟩:=h
   refine⟨h0,c,fun e he=> ?_⟩
   obtain⟨x,y⟩:=h2 e (a.2 e he)
   exact⟨x,fun heq=>(y heq).trans b.symm⟩
 | .pe id ep i sz off,val,hr,h=>by
   obtain⟨a,b,c⟩:=hr id pM
   obtain⟨h0,h1,h2⟩:=h
   refine⟨h0,c,fun e he=> ?_⟩
   obtain⟨x,y⟩:=h2 e (a.2 e he)
   exact Ua
 | .pp cs off,val,_,h=>by
   obtain⟨a,ev,h1,h2,h3,h5,h4⟩:=h
   exact abL
 | .func fn first cap,val,hr,h=>by
   obtain⟨f,c,rfl,h1,h2⟩:=h
   exact⟨f,c,rfl,V.eX hB first _ (fun id ay=>hr id (by simp[V.refs,ay])) h1,V.eX hB cap _ (fun id ay=>hr id (by simp[V.refs,ay])) h2⟩
 | .iface t x,val,hr,h=>by
   obtain⟨u,rfl,h⟩:=h
   exact⟨u,rfl,V.kU hB x u zm h⟩
 | .zA id off n,val,hr,h=>by
   exact Xc
 | .mp id,val,hr,h=>by
   obtain⟨a,b,c⟩:=hr id pM
   obtain⟨h0,h1,h2⟩:=h
   refine⟨h0,c,fun cL=> ?_⟩
   exact(h2 (a.1 cL)).trans b.symm
 | .lC id,val,hr,h=>by
   exact Xc
theorem V.eX {B B':Nat->Prop}{φ aI:Place}{H H':Hp}{w:World}(hB:∀b, ¬B b-> ¬B' b):∀ (vs:List V) (vals:List Value),(∀id∈V.aN vs,la (H'.o id) (H.o id)/\aI id=φ id/\H'.us id)->V.aG B φ H w vs vals->V.aG B' aI H' w vs vals
 |[],_,_,h=>h
 |v::vs,_,hr,h=>by
  obtain⟨u,us,rfl,h1,h2⟩:=h
  exact⟨u,us,rfl,V.kU hB v u (fun id ay=>hr id (by simp[V.aN,ay])) h1,V.eX hB vs us (fun id ay=>hr id (by simp[V.aN,ay])) h2⟩
end
mutual
theorem V.ko {B:Nat->Prop}{φ:Place}{H:Hp}{w:World}:∀ (v:V) (val:Value),V.den B φ H w v val->∀id∈v.refs,H.us id
 | .osl id ep,_,h,j,hj| .ptr id off,_,h,j,hj| .pe id ep i sz off,_,h,j,hj| .zA id off n,_,h,j,hj| .mp id,_,h,j,hj| .lC id,_,h,j,hj=>by simp[V.refs]at hj;subst hj;exact h.2.1
 | .agg cs,_,h,j,hj=>by obtain⟨a,rfl,h,_⟩:=h;exact V.eN cs _ h j (by simpa[V.refs]using hj)
 | .cf cs,_,h,j,hj=>by obtain⟨a,rfl,h⟩:=h;exact V.eN cs _ h j (by simpa[V.refs]using hj)
 | .func fn first cap,_,h,j,hj=>by
   obtain⟨f,c,rfl,h1,h2⟩:=h
   rcases List.mem_append.1 (show j∈V.aN first++V.aN cap by simpa[V.refs]using hj)with hj|hj
   ·exact V.eN first _ h1 j hj
   ·exact V.eN cap _ h2 j hj
 | .iface t x,_,h,j,hj=>by obtain⟨u,rfl,h⟩:=h;exact V.ko x u h j (by simpa[V.refs]using hj)
 | .d _,_,_,_,hj| .ao,_,_,_,hj| .pp _ _,_,_,_,hj| .ai,_,_,_,hj| .pY _,_,_,_,hj| .gh,_,_,_,hj=>by simp[V.refs]at hj
theorem V.eN {B:Nat->Prop}{φ:Place}{H:Hp}{w:World}:∀ (vs:List V) (vals:List Value),V.aG B φ H w vs vals->∀id∈V.aN vs,H.us id
 |[],_,_,j,hj=>by simp[V.aN]at hj
 |v::vs,_,h,j,hj=>by
  obtain⟨u,us,rfl,h1,h2⟩:=h
  rcases List.mem_append.1 (show j∈v.refs++V.aN vs by simpa[V.aN]using hj)with hj|hj
  ·exact V.ko v u h1 j hj
  ·exact V.eN vs us h2 j hj
end
def gw(so:Nat->aa)(gone:Nat->Prop)(ty:TypeId)(sz:Nat)(es:List D)(x:V):Prop:=
 (x= .ao/\es=[]/\0<sz)\/∃id ep,gone id/\x= .osl id ep/\so id= .arr ep ty sz es
theorem Of{xs ys:List Nat}:lY xs ys=true↔∀x∈xs,x∉ys:=by
 simp[lY,List.all_eq_true]
def oM(env:Nat->V):List V->Nat->Prop
 |[],_=>True
 |v::l,i=>(v= .ai\/v=env i)/\oM env l (i+1)
theorem J7{env:Nat->V}{i:Nat}:oM env [] i:=trivial
theorem FC{env:Nat->V}{l:List V}{i:Nat}(h:oM env l (i+1)):oM env (.ai::l) i:=⟨.inl rfl,h⟩
theorem Qz{env:Nat->V}{l:List V}{i:Nat}{v:V}(he:env i=v)(h:oM env l (i+1)):oM env (v::l) i:=⟨.inr he.symm,h⟩
theorem Ej{env:Nat->V}:∀ (l:List V) (i:Nat),oM env l i->∀j,aY l j= .ai\/aY l j=env (i+j)
 |[],i,_,j=>by rw[r9];exact .inl rfl
 |v::l,i,h,0=>by rw[pn];exact h.1
 |v::l,i,h,j+1=>by
  rw[pq]
  have:=Ej l (i+1) h.2 j
  rwa [show i+1+j=i+(j+1) by omega]at this
theorem Lf{P:Program}{n bq:Nat}{gq:Operand}{ps:List Nat}{x y:IC}{Q:gr->S->Prop}{e:Nat->V}{o:Nat->aa}{nx:Nat}{f:FuncId}{cap:List V}(env:List V)(he:oM e env 0)
 (h:bJ P f (.lC nx::cap) (aw o nx (.loop P.funcs.size n env ps x y .ready none)) (nx+1)
  (fun _ o' nx'=>∃nf m en p c d st pd,o' nx= .loop nf m en p c d st pd/\st≠ .busy/\rS Q pd ⟨e,aw o' nx (.loop nf m en p c d .exhausted pd),nx'⟩) (fun v o' nx'=>Q (.bU v) ⟨e,o',nx'⟩)):
 vA P n bq false gq ps x y Q ⟨e,o,nx⟩ (.func (.func f) [] cap):=by
 unfold vA Dx
 refine⟨rfl, .inl ⟨env,fun i=> ?_, .inl h⟩⟩
 have:=Ej env 0 he i
 rwa [Nat.zero_add]at this
theorem bM.trans {b:Nat}{s s' s'':S}(h1:bM b s s')(h2:bM b s' s''):bM b s s'':=fun M φ w tm hH hd=>by
 obtain⟨aI,a1,a2,a3,a4,a5,a6⟩:=h1 M φ w tm hH hd
 obtain⟨FM,b1,b2,b3,b4,b5,b6⟩:=h2 M aI w tm a1 a2
 refine⟨FM,b1,b2,fun k hk=>a3 k (b3 k hk),b4,fun id ay hr=> ?_,fun id e' ay he=> ?_⟩
 ·obtain⟨c1,c2⟩:=b5 id ay hr
  obtain⟨c3,c4⟩:=a5 id ay c1
  exact⟨c3,c2.trans c4⟩
 ·obtain⟨e1,c1,c2,c3⟩:=b6 id e' ay he
  obtain⟨e0,d1,d2,d3⟩:=a6 id e1 ay c1
  exact⟨e0,d1,Nat.le_trans d2 c2,fun h=>(c3 ad).trans (d3 ad)⟩
theorem RX{P:Program}{n bq:Nat}{gq:Operand}{ps:List Nat}{x y:IC}{Q:gr->S->Prop}{s s':S}{g:V}(hle:bM bq s s')(h:vA P n bq false gq ps x y Q s' (s'.ev gq)):vA P n bq false gq ps x y Q s g:=by
 unfold vA at h|-
 obtain⟨h1,h2⟩:=h
 refine⟨h1, .inr ?_⟩
 rcases h2 with h2|⟨s'',Np,h2⟩
 ·exact⟨s',hle,h2⟩
 ·exact⟨s'',hle.trans Np,h2⟩
def tU(P:Program)(n b id:Nat)(fV:IC)(K X:V->(Nat->aa)->Nat->Prop)(e:gr)(s:S):Prop:=
 match e with
 | .normal=>∃nf m en p c d pd,s.o id= .loop nf m en p c d .ready pd/\kQ P n b true fV (mi id K X) ⟨s.env,aw s.o id (.loop nf m en p c d .busy pd),s.nx⟩
 | .bU v=>X v s.o s.nx
 |_=>False
theorem ej.aH {P:Program}{n:Nat}(bz:P.follows .mixedOrders=true){id:Nat}{args:List V}{o:Nat->aa}{nx:Nat}{K X:V->(Nat->aa)->Nat->Prop}{env:List V}{ps:List Nat}{kG fV:IC}{st:LoopState}{pd:Option lh}
 (ho:o id= .loop P.funcs.size n env ps kG fV st pd) (cD:id<nx) (Gy:ps.all (fun t=>decide (t<n))=true) (hl:args.length=ps.length)
 (h:kQ P n nx true kG (tU P n nx id fV K X) ⟨qH (aY env) ps args,o,nx⟩):ej P id args o nx K X:=by
 refine ej.xe bz ho cD Gy hl (eL kG _ _ _ (fun e s h=> ?_) h)
 cases e with
 |normal=>
  obtain⟨nf,m,en,p,c,d,pd,h1,h2⟩:=h
  exact⟨nf,m,en,p,c,d,pd,h1,eL fV _ _ _ (fun _ _ h=>h) h2⟩
 |bU v=>exact h
 |_=>exact h.elim
theorem BS{P:Program}{n b id:Nat}{fV:IC}{K X:V->(Nat->aa)->Nat->Prop}{s:S}{nf m:Nat}{en:List V}{p:List Nat}{c d:IC}{pd:Option lh}(h:s.o id= .loop nf m en p c d .ready pd)
 (h2:kQ P n b true fV (mi id K X) ⟨s.env,aw s.o id (.loop nf m en p c d .busy pd),s.nx⟩):tU P n b id fV K X .normal s:=⟨nf,m,en,p,c,d,pd,h,h2⟩
def yW:List Nat->Nat->Nat->Nat
 |[],nx,k=>nx+k
 |i::_,_,0=>i
 |_::l,nx,k+1=>yW l nx k
theorem BT:∀ (l:List Nat) (nx k:Nat),yW l nx k∈l\/nx<=yW l nx k
 |[],nx,k=> .inr (Nat.le_add_right _ _)
 |i::_,_,0=> .inl (List.mem_cons_self ..)
 |_::l,nx,k+1=>(BT l nx k).imp (List.mem_cons_of_mem _) id
theorem Ek{nx:Nat}:∀ (l:List Nat),l.Nodup->(∀i∈l,i<nx)->∀a b,yW l nx a=yW l nx b->a=b
 |[],_,_,a,b,e=>by simp only[yW]at e;omega
 |i::l,_,_,0,0,_=>rfl
 |i::l,hd,hl,0,b+1,e=>by
  simp only[yW]at e
  rcases BT l nx b with h|h
  ·rw[<- e]at h;exact absurd h (List.nodup_cons.1 hd).1
  ·have:=hl i (List.mem_cons_self ..);omega
 |i::l,hd,hl,a+1,0,e=>by
  simp only[yW]at e
  rcases BT l nx a with h|h
  ·rw[e]at h;exact absurd h (List.nodup_cons.1 hd).1
  ·have:=hl i (List.mem_cons_self ..);omega
 |i::l,hd,hl,a+1,b+1,e=>by
  simp only[yW]at e
  rw[Ek l (List.nodup_cons.1 hd).2 (fun j hj=>hl j (List.mem_cons_of_mem _ hj)) a b e]
def RY(f:Nat->Nat)(x:List Nat×List Nat):List Nat×List Nat:=(x.1.map f,x.2.map f)
theorem xD{f:Nat->Nat}(hf:∀a b,f a=f b->a=b){xs ys:List Nat}(hd:lY xs ys=true):lY (xs.map f) (ys.map f)=true:=by
 rw[Of]at hd|-
 intro x hx hy
 obtain⟨a,ha,rfl⟩:=List.mem_map.1 hx
 obtain⟨b,hb,e⟩:=List.mem_map.1 hy
 rw[hf b a e]at hb
 exact hd a ha hb
theorem GJ{f:Nat->Nat}(hf:∀a b,f a=f b->a=b){pr:List (List Nat)}(fp:List (List Nat×List Nat))(ho:fD pr fp=true):fD pr (fp.map (RY f))=true:=by
 unfold fD at ho|-
 rw[List.all_eq_true]at ho|-
 intro j hj
 rw[List.length_map]at hj
 have ho:=ho j hj
 rw[List.all_eq_true]at ho|-
 intro i hi
 have ho:=ho i hi
 have hm:∀k,(fp.map (RY f)).getD k ([],[])=RY f (fp.getD k ([],[])):=fun k=>by
  rw[List.getD_eq_getElem?_getD,List.getD_eq_getElem?_getD,List.getElem?_map]
  cases fp[k]? <;>rfl
 rw[hm,hm]
 rw[Bool.or_eq_true]at ho|-
 refine ho.imp (fun h=>h) (fun ho=> ?_)
 rw[Bool.and_eq_true,Bool.and_eq_true]at ho|-
 exact⟨⟨xD hf ho.1.1,xD hf ho.1.2⟩,xD hf ho.2⟩
theorem bE{ids:List Nat}{nx:Nat}(hd:ids.Nodup)(hl:∀i∈ids,i<nx){pr:List (List Nat)}(fp:List (List Nat×List Nat))(ho:fD pr fp=true):fD pr (fp.map (RY (yW ids nx)))=true:=
 GJ (Ek ids hd hl) fp ho
section
variable {P:Program}{KB:List Nat->Fp->Prop}{pr:List (List Nat)}{l:List cg}{fr:Nat}{fp:Fp}{bad ws:List Nat}{s:S}{d:Option Nat}{op:Op}
end
end
section
structure Gr where
 x:V
 ty:TypeId
 sz:Nat
 es:List D
def Gr.ok (so:Nat->aa)(gone:Nat->Prop)(g:Gr):Prop:=gw so gone g.ty g.sz g.es g.x
def Og(c:Nat)(G:List Gr)(so:Nat->aa)(gone:Nat->Prop)(v v':V):Prop:=
 v'= .ai\/(v'=v/\∀r∈v.refs,r<c)\/(∃i g,G[i]? =some g/\v'= .osl (c+i) 0/\v=g.x)\/∃y,v'= .d y/\ef so v=some y/\∀id∈v.ids,gone id/\∀g∈G,∀ep,g.x≠ .osl id ep
def iL(c:Nat)(G:List Gr)(so:Nat->aa)(gone:Nat->Prop)(env:Nat->V):List V->Nat->Prop
 |[],_=>True
 |v::l,i=>Og c G so gone (env i) v/\iL c G so gone env l (i+1)
def qL(c:Nat)(G:List Gr)(so:Nat->aa)(gone:Nat->Prop):List V->List V->Prop
 |[],[]=>True
 |v::l,v'::l'=>Og c G so gone v v'/\qL c G so gone l l'
 |_,_=>False
def yX(c:Nat)(G:List Gr)(so:Nat->aa)(gone:Nat->Prop)(x x':aa):Prop:=
 x'= .no\/(x=x'/\∀r∈x'.refs,r<c)\/∃cs cs',x= .row cs/\x'= .row cs'/\qL c G so gone cs cs'
section
variable {c:Nat}{G:List Gr}{so:Nat->aa}{gone:Nat->Prop}
theorem I0{env:Nat->V}:∀ (l:List V) (i:Nat),iL c G so gone env l i->∀j,Og c G so gone (env (i+j)) (aY l j)
 |[],i,_,j=>by rw[r9];exact .inl rfl
 |v::l,i,h,0=>by rw[pn];exact h.1
 |v::l,i,h,j+1=>by
  rw[pq]
  have:=I0 l (i+1) h.2 j
  rwa [show i+1+j=i+(j+1) by omega]at this
variable {env:Nat->V}{i:Nat}{l l':List V}{v:V}{y:D}
theorem iw:iL c G so gone env [] i:=trivial
theorem cI(h:iL c G so gone env l (i+1)):iL c G so gone env (.ai::l) i:=⟨.inl rfl,h⟩
theorem dm(he:env i= .d y)(h:iL c G so gone env l (i+1)):iL c G so gone env (.d y::l) i:=⟨.inr (.inl ⟨he.symm,fun r hr=>by rw[he]at hr;simp[V.refs]at hr⟩),h⟩
theorem iY(he:env i=v)(hr:∀r∈v.refs,r<c)(h:iL c G so gone env l (i+1)):iL c G so gone env (v::l) i:=⟨.inr (.inl ⟨he.symm,fun r KF=>hr r (he ▸ KF)⟩),h⟩
theorem ku(k:Nat){g:Gr}{n:Nat}(hg:G[k]? =some g)(hn:n=c+k)(he:env i=g.x)(h:iL c G so gone env l (i+1)):iL c G so gone env (.osl n 0::l) i:=⟨.inr (.inr (.inl ⟨k,g,hg,by rw[hn],he⟩)),h⟩
theorem mU(ht:ef so (env i)=some y)(hi:∀id∈(env i).ids,gone id/\∀g∈G,∀ep,g.x≠ .osl id ep)(h:iL c G so gone env l (i+1)):iL c G so gone env (.d y::l) i:=⟨.inr (.inr (.inr ⟨y,rfl,ht,hi⟩)),h⟩
theorem ju:qL c G so gone [] []:=trivial
theorem lW(h:qL c G so gone l l'):qL c G so gone (.d y::l) (.d y::l'):=⟨.inr (.inl ⟨rfl,fun r hr=>by simp[V.refs]at hr⟩),h⟩
theorem wq(hr:∀r∈v.refs,r<c)(h:qL c G so gone l l'):qL c G so gone (v::l) (v::l'):=⟨.inr (.inl ⟨rfl,hr⟩),h⟩
theorem qv(k:Nat){g:Gr}{n:Nat}(hg:G[k]? =some g)(hn:n=c+k)(he:v=g.x)(h:qL c G so gone l l'):qL c G so gone (v::l) (.osl n 0::l'):=⟨.inr (.inr (.inl ⟨k,g,hg,by rw[hn],he⟩)),h⟩
theorem ZD(ht:ef so v=some y)(hi:∀id∈v.ids,gone id/\∀g∈G,∀ep,g.x≠ .osl id ep)(h:qL c G so gone l l'):qL c G so gone (v::l) (.d y::l'):=⟨.inr (.inr (.inr ⟨y,rfl,ht,hi⟩)),h⟩
theorem lM{x:aa}:yX c G so gone x .no:= .inl rfl
theorem bB{x x':aa}(h:x=x')(hr:∀r∈x'.refs,r<c):yX c G so gone x x':= .inr (.inl ⟨h,hr⟩)
theorem jt{x:aa}{cs cs':List V}(h:x= .row cs)(hr:qL c G so gone cs cs'):yX c G so gone x (.row cs'):= .inr (.inr ⟨cs,cs',h,rfl,hr⟩)
end
theorem si{c:Nat}{G:List Gr}{so:Nat->aa}{gone:Nat->Prop}{B B':Nat->Prop}{φ aI:Place}{H H':Hp}{w:World}(hc:∀v v' val,Og c G so gone v v'->V.den B φ H w v val->V.den B' aI H' w v' val):
 ∀ (l l':List V) (vals:List Value),qL c G so gone l l'->V.aG B φ H w l vals->V.aG B' aI H' w l' vals
 |[],[],_,_,h=>h
 |v::l,v'::l',_,h,hd=>by
  obtain⟨u,us,rfl,h1,h2⟩:=hd
  exact⟨u,us,rfl,hc _ _ _ h.1 h1,si hc l l' us h.2 h2⟩
 |[],_::_,_,h,_=>h.elim
 |_::_,[],_,h,_=>h.elim
def Oh(φ:Place)(c:Nat)(G:List Gr):Place:=fun id=>if id<c then φ id else match G[id - c]? with
 |some g=>(match g.x with| .osl j _=>φ j|_=> .slice none 0 0)
 |none=>φ id
theorem bM.see (gone:Nat->Prop)(G:List Gr)(c:Nat){b:Nat}{e:Nat->V}{so:Nat->aa}{m:Nat}(l:List V){o':Nat->aa}{nx':Nat}(vl:nx'=c+G.length)(hb:b<=c)
 (ho:∀id,id<c->yX c G so gone (so id) (o' id)) (hG:∀i g,G[i]? =some g->o' (c+i)= .arr 0 g.ty g.sz g.es/\g.ok so gone) (hh:∀id,nx'<=id->o' id= .no) (As:∀id,gone id->id<c->o' id= .no)
 (XC:∀ (i j:Nat) (gi gj:Gr) (id ep gM:Nat),G[i]? =some gi->G[j]? =some gj->gi.x= .osl id ep->gj.x= .osl id gM->i=j) (he:iL c G so gone e l 0):bM b ⟨e,so,m⟩ ⟨aY l,o',nx'⟩:=by
 subst vl
 intro M φ w tm hH hd
 let aI:Place:=Oh φ c G
 let H':Hp:=hp o' (c+G.length)
 let H:Hp:=⟨so,fun id=>id<m⟩
 have Lg:∀id,id<c->aI id=φ id:=fun id ay=>if_pos ay
 have Oi:∀i g,G[i]? =some g->aI (c+i)=(match g.x with| .osl j _=>φ j|_=> .slice none 0 0):=fun i g hg=>by
  show Oh φ c G (c+i)=_
  unfold Oh
  rw[if_neg (by omega),show c+i - c=i by omega,hg]
 have hold:∀id k,(o' id).live=true->dY (aI id)=some k->∃j,(so j).live=true/\dY (φ j)=some k/\((id<c/\j=id)\/∃i g ep,id=c+i/\G[i]? =some g/\gone j/\g.x= .osl j ep):=by
  intro id k h1 h2
  by_cases cD:id<c
  ·rw[Lg id cD]at h2
   rcases ho id cD with h3|⟨h3,_⟩|⟨cs,cs',h3,h4,_⟩
   ·rw[h3]at h1;cases h1
   ·exact⟨id,by rw[h3];exact h1,h2, .inl ⟨cD,rfl⟩⟩
   ·exact⟨id,by rw[h3];rfl,h2, .inl ⟨cD,rfl⟩⟩
  ·by_cases yA:c+G.length<=id
   ·rw[hh id yA]at h1;cases h1
   ·obtain⟨i,rfl⟩:∃i,id=c+i:=⟨id - c,ad⟩
    obtain⟨g,hg⟩:∃g,G[i]? =some g:=⟨G[i]'ad,aF⟩
    rw[Oi i g hg]at h2
    obtain⟨_,a8⟩:=hG i g hg
    rcases a8 with⟨h3,_,_⟩|⟨j,ep,hj,h3,ri⟩
    ·rw[h3]at h2;cases h2
    ·rw[h3]at h2
     exact⟨j,by rw[ri];rfl,h2, .inr ⟨i,g,ep,rfl,hg,hj,h3⟩⟩
 have dg:∀k,cO aI H' k->cO φ H k:=by
  rintro k ⟨id,h1,h2⟩
  obtain⟨j,g1,g2,_⟩:=hold id k h1 h2
  exact⟨j,g1,g2⟩
 have hB:∀k, ¬aq M φ H k-> ¬aq M aI H' k:=fun k h h'=>h (h'.imp id (dg k))
 have Cz:∀id,id<c->la (H'.o id) (H.o id)/\aI id=φ id/\H'.us id:=fun id ay=>by
  refine⟨?_,Lg id ay,(by show id<c+G.length;omega)⟩
  show la (o' id) (so id)
  rcases ho id ay with h3|⟨h3,_⟩|⟨cs,cs',h3,h4,_⟩
  ·rw[h3];exact⟨fun h=>lA,fun e h=>lA⟩
  ·exact la.rfl' h3.symm
  ·rw[h3,h4];exact la.row _ _
 have fR:∀ (v:V) (val:Value),(∀r∈v.refs,r<c)->V.den (aq M φ H) φ H w v val->V.den (aq M aI H') aI H' w v val:=fun v val hr h=>
  V.kU (H:=H) (H':=H') hB v val (fun id ay=>Cz id (hr id ay)) h
 have kF:∀ (v:List V) (val:List Value),(∀r∈V.aN v,r<c)->V.aG (aq M φ H) φ H w v val->V.aG (aq M aI H') aI H' w v val:=fun v val hr h=>
  V.eX (H:=H) (H':=H') hB v val (fun id ay=>Cz id (hr id ay)) h
 have ahL:∀ (v:V) (y:D) (val:Value),ef so v=some y->(∀id∈v.ids,gone id/\∀g∈G,∀ep,g.x≠ .osl id ep)->V.den (aq M φ H) φ H w v val->D.den (aq M aI H') w y val:=fun v y val h1 h2 h3=>by
  obtain⟨f1,f2,f3,f4,f5⟩:=dh (H:=H) hH v.ids (fun id ay=>c6 v val h3 id ay)
  have Qn:∀k,cO φ (H.put (bK H.o v.ids)) k->cO φ H k:=by
   rintro k ⟨id,g1,g2⟩
   by_cases ay:id∈v.ids
   ·rw[f3 id ay]at g1
    refine⟨id, ?_,g2⟩
    revert g1
    cases H.o id<;>simp[aa.fz,aa.live]
   ·rw[f4 id ay]at g1;exact⟨id,g1,g2⟩
  have h4:V.den (aq M φ (H.put (bK H.o v.ids))) φ (H.put (bK H.o v.ids)) w v val:=
   V.kU (H:=H) (fun k h h'=>h (h'.imp id (Qn k))) v val (fun id ay=>by
     have eE:H.us id:=(V.ko v val h3) id ay
     refine⟨?_,rfl,(f5 id).2 eE⟩
     by_cases hm:id∈v.ids
     ·rw[f3 id hm];exact la.fz _
     ·rw[f4 id hm];exact la.rfl' rfl) h3
  have h5:=fg f1 (o:=so) v y val (fun id ay=>f3 id ay) h1 h4
  refine D.aV (w:=w) (w':=w) (fun k _ hn=>⟨rfl,fun hk=>hn (hk.imp id ?_)⟩) y val h5
  rintro⟨id,g1,g2⟩
  obtain⟨j,k1,k2,k3⟩:=hold id k g1 g2
  refine⟨j, ?_,k2⟩
  have:j∉v.ids:=fun hm=>by
   obtain⟨k4,k5⟩:=h2 j hm
   rcases k3 with⟨k6,k7⟩|⟨i,g,ep,k6,k8,k9,k10⟩
   ·subst k7
    have:=As _ k4 k6
    have g1:(o' j).live=true:=g1
    rw[this]at g1
    cases g1
   ·exact k5 g (List.mem_of_getElem? k8) ep k10
  rw[f4 j this];exact k1
 have I1:∀i g val,G[i]? =some g->V.den (aq M φ H) φ H w g.x val->V.den (aq M aI H') aI H' w (.osl (c+i) 0) val:=by
  intro i g val hg this
  obtain⟨LS,a8⟩:=hG i g hg
  have cD:c+i<c+G.length:=by have:=(List.getElem?_eq_some_iff.1 hg).1;omega
  rcases a8 with⟨h3,_,_⟩|⟨j,ep,hj,h3,ri⟩
  ·rw[h3]at this
   simp only[V.den]at this
   rw[this]
   refine⟨rfl,cD,fun e' rb=> ?_⟩
   have rb:(o' (c+i)).cu=some e':=rb
   rw[LS]at rb
   simp only[aa.cu,Option.some.injEq]at rb
   subst rb
   exact⟨Nat.le_refl _,fun _=>by rw[Oi i g hg,h3]⟩
  ·rw[h3]at this
   obtain⟨g1,g2,g3⟩:=this
   refine⟨g1,cD,fun e' rb=> ?_⟩
   have rb:(o' (c+i)).cu=some e':=rb
   rw[LS]at rb
   simp only[aa.cu,Option.some.injEq]at rb
   subst rb
   have wH:(H.o j).cu=some ep:=by show(so j).cu=_;rw[ri];rfl
   exact⟨Nat.le_refl _,fun _=>by rw[Oi i g hg,h3];exact(g3 ep wH).2 rfl⟩
 have Wh:∀v v' val,Og c G so gone v v'->V.den (aq M φ H) φ H w v val->V.den (aq M aI H') aI H' w v' val:=by
  intro v v' val h h1
  rcases h with rfl|⟨rfl,h2⟩|⟨i,g,hg,rfl,rfl⟩|⟨y,rfl,h2,h3⟩
  ·trivial
  ·exact fR _ _ h2 h1
  ·exact I1 i g _ hg h1
  ·exact ahL v y val h2 h3 h1
 refine⟨aI,⟨fun id=> ?_,fun id hu=>hh id (by have: ¬id<c+G.length:=hu;omega),fun i j k h1 h2 h3 h4=> ?_,fun k hk=>hH.ours k (dg k hk),hH.Cy⟩,fun i=> ?_,dg,by show b<=c+G.length;omega,fun id ay hr=> ?_,fun id e' ay rb=> ?_⟩
 ·have bu:aU M φ H w id:=hH.ok id
  show aU M aI H' w id
  unfold aU at bu|-
  by_cases cD:id<c
  ·rcases ho id cD with h3|⟨h3,hrefs⟩|⟨cs,cs',h3,h4,cL⟩
   ·have e2:H'.o id= .no:=h3
    rw[e2];trivial
   ·have e1:H.o id=o' id:=h3
    have e2:H'.o id=o' id:=rfl
    rw[e1]at bu
    rw[e2,Lg id cD]
    cases yI:o' id with
    |no=>trivial
    |row cs=>
     simp only[yI]at bu hrefs|-
     exact T5
    |arr ep ty sz es=>
     simp only[yI]at bu|-
     obtain⟨k1,xs,k2,evs,k3,k4,k5⟩:=bu
     exact Tw
    |vg ep es=>
     simp only[yI]at bu|-
     exact D.aV (fun b _ hn=>⟨rfl,hB b hn⟩) _ _ bu
    |map kt vt es=>
     simp only[yI]at bu|-
     obtain⟨b,es',clock,k1,k2,k4,k3⟩:=bu
     exact Tu
    |bZ l=>
     simp only[yI]at bu|-
     exact lZ.mono (fun b _ hn=>⟨rfl,hB b hn⟩) bu
    |s8 l last=>
     simp only[yI]at bu|-
     obtain⟨b,k1,k2⟩:=bu
     exact TY
    |A4 s pos=>
     simp only[yI]at bu|-
     exact bu
    |loop nf n env ps a b st pd=>
     simp only[yI]at bu hrefs|-
     exact Ur
   ·have e1:H.o id= .row cs:=h3
    have e2:H'.o id= .row cs':=h4
    rw[e1]at bu
    rw[e2,Lg id cD]
    obtain⟨b,eG,ty,k1,k2,k3,k4⟩:=bu
    exact⟨b,eG,ty,k1,k2,si Wh _ _ _ cL k3,k4⟩
  ·by_cases yA:c+G.length<=id
   ·have e2:H'.o id= .no:=hh id yA
    rw[e2];trivial
   ·obtain⟨i,rfl⟩:∃i,id=c+i:=⟨id - c,ad⟩
    obtain⟨g,hg⟩:∃g,G[i]? =some g:=⟨G[i]'ad,aF⟩
    obtain⟨LS,a8⟩:=hG i g hg
    have e2:H'.o (c+i)= .arr 0 g.ty g.sz g.es:=LS
    rw[e2]
    rcases a8 with⟨h3,h4,eD⟩|⟨j,ep,hj,h3,ri⟩
    ·rw[h4]
     refine⟨eD,[], ?_,[],aF,aF,rfl⟩
     rw[Oi i g hg,h3]
     exact World.ownsRow_nil _ _ _ _
    ·have this:aU M φ H w j:=hH.ok j
     unfold aU at this
     have e3:H.o j= .arr ep g.ty g.sz g.es:=ri
     simp only[e3]at this
     obtain⟨k1,xs,k2,evs,k3,k4,k5⟩:=this
     exact⟨k1,xs,by rw[Oi i g hg,h3];exact k2,evs,k3,k4,D.aW (fun b _ hn=>⟨rfl,hB b hn⟩) _ _ k5⟩
 ·obtain⟨i',a1,a2,a3⟩:=hold i k h1 h3
  obtain⟨j',b1,b2,b3⟩:=hold j k h2 h4
  have:=hH.apart i' j' k a1 b1 a2 b2
  subst this
  have fS:∀CB,(o' CB).live=true->CB<c->gone CB->False:=fun CB g1 g2 g3=>by
   rw[As _ g3 g2]at g1
   cases g1
  rcases a3 with⟨a3,a4⟩|⟨ia,ga,ea,a3,a4,a5,a6⟩<;>rcases b3 with⟨b3,b4⟩|⟨ib,gb,eb,b3,b4,b5,b6⟩
  ·omega
  ·exact(fS i h1 a3 (a4 ▸ b5)).elim
  ·exact(fS j h2 b3 (b4 ▸ a5)).elim
  ·have:=XC ia ib ga gb _ _ _ a4 b4 a6 b6
   omega
 ·have hi:=I0 l 0 he i
  rw[Nat.zero_add]at hi
  exact Wh _ _ _ hi (hd i)
 ·have cD:id<c:=ad
  have hr:(o' id).cF=true:=hr
  exact⟨(Cz id cD).1.1 hr,Lg id cD⟩
 ·have cD:id<c:=ad
  have rb:(o' id).cu=some e':=rb
  exact⟨e',(Cz id cD).1.2 e' rb,Nat.le_refl _,fun _=>Lg id cD⟩
theorem bM.ae2 (gone:Nat->Prop)(c:Nat){b:Nat}{e:Nat->V}{so:Nat->aa}{m:Nat}(l:List V){o':Nat->aa}(hb:b<=c)
 (ho:∀id,id<c->yX c [] so gone (so id) (o' id)) (hh:∀id,c<=id->o' id= .no) (As:∀id,gone id->id<c->o' id= .no) (he:iL c [] so gone e l 0):bM b ⟨e,so,m⟩ ⟨aY l,o',c⟩:=
 bM.see gone [] c l rfl hb ho (fun i g h=>by cases h) hh As (fun i j gi gj id ep gM h=>by cases h) he
theorem bM.sj (gone:Nat->Prop)(x:V)(c:Nat){ty:TypeId}{sz:Nat}{es:List D}{b:Nat}{e:Nat->V}{so:Nat->aa}{m:Nat}(l:List V){o':Nat->aa}(hb:b<=c)
 (ho:∀id,id<c->yX c [⟨x,ty,sz,es⟩] so gone (so id) (o' id)) (hc:o' c= .arr 0 ty sz es) (hx:gw so gone ty sz es x) (hh:∀id,c+1<=id->o' id= .no) (As:∀id,gone id->id<c->o' id= .no)
 (he:iL c [⟨x,ty,sz,es⟩] so gone e l 0):bM b ⟨e,so,m⟩ ⟨aY l,o',c+1⟩:=
 bM.see gone [⟨x,ty,sz,es⟩] c l rfl hb ho (fun i g h=>by
  match i,h with
  |0,h=>simp at h;subst h;exact⟨hc,hx⟩) hh As (fun i j gi gj id ep gM h h' _ _=>by
  match i,j,h,h' with
  |0,0,_,_=>rfl) he
theorem lt1{P:Nat->Prop}(h:P 0):∀id,id<1->P id:=fun id ay=>by
 have e:id=0:=ad
 rw[e];exact h
theorem lt2{P:Nat->Prop}(h:P 0)(h1:P 1):∀id,id<2->P id:=fun id ay=>by
 rcases(by omega:id=0\/id=1)with rfl|rfl<;>assumption
theorem lt0{P:Nat->Prop}:∀id,id<0->P id:=fun id ay=>ad
@[go_sem] theorem ain (b:Bool):(b==false)= !b:=CQ
@[go_sem] theorem aio (b:Bool):(b==true)=b:=CQ
@[go_sem] theorem ae3 (c:Bool) (v:V):V.BE c (V.BE c v)=V.BE c v:=by cases c<;>rfl
@[go_sem] theorem ae4 (c:Bool):(c&&c)=c:=by cases c<;>rfl
@[go_sem] theorem abl {α:Type} (f:α->D) (l:List α) (n:Nat) (h:∀x,(f x).cells.length=n):((l.map f).all fun z=>z.cells.length==n)=true:=by
  simp[List.all_eq_true,h]
attribute [go_sem] implies_true
attribute [go_sem] Option.isSome_none Option.getD_some Option.getD_none
theorem structOf{P:Program}{t:TypeId}(h:(match P.underlying t with|some (.struct _)=>true|_=>false)=true):∃fs,P.underlying t=some (.struct fs):=by
 split at h
 ·exact⟨_,by assumption⟩
 ·cases h
theorem bN{pr:List (List Nat)}{fp:List (List Nat×List Nat)}(h:fp.all (fun x=>x.2.isEmpty)=true):fD pr fp=true:=by
 have e:∀i,(fp.getD i ([],[])).2=[]:=fun i=>by
  rw[List.getD_eq_getElem?_getD]
  cases hi:fp[i]? with
  |none=>rfl
  |some x=>simpa using List.all_eq_true.1 h x (List.mem_of_getElem? hi)
 simp only[fD,List.all_eq_true,e,lY,List.all_nil,Bool.and_self,Bool.or_true,implies_true]
structure fw (base:Nat) (h o:Nat->aa) (nx:Nat):Prop where
 cW:Good o nx
 le:base<=nx
 eq:∀id,id<base->o id=h id
def StK(base:Nat)(h:Nat->aa)(v:V)(o:Nat->aa)(nx:Nat)(K:V->(Nat->aa)->Nat->Prop):Prop:=
 ∀o' nx',nx<=nx'->fw base h o' nx'->(∀id,base<=id->id<nx->o' id=o id)->K v o' nx'
def Au(P:Program)(g:FuncId)(args:List V)(base:Nat)(h h2:Nat->aa)(v:V):Prop:=
 ∀o nx,fw base h o nx->∀K X,StK base h2 v o nx K->bJ P g args o nx K X
theorem fw.aw {base:Nat}{h o:Nat->aa}{nx m i:Nat}{x:aa}(hI:fw base h o nx)(hb:base<=i)(hi:i<m)(hm:nx<=m)(hx:x.refs.all (fun r=>decide (r<m))=true):fw base h (YtlhemmpklhhgoaaGreat.aw o i x) m:=
 ⟨(hI.cW.mono hm).aw hi hx,Nat.le_trans hI.le hm,fun id ay=>by rw[af _ _ _ _ (by omega)];exact hI.eq id ay⟩
theorem fw.mono {base:Nat}{h o:Nat->aa}{nx m:Nat}(hI:fw base h o nx)(hm:nx<=m):fw base h o m:=⟨hI.cW.mono hm,Nat.le_trans hI.le hm,hI.eq⟩
def ext(base:Nat)(h o:Nat->aa):Nat->aa:=fun id=>if id<base then h id else o id
theorem fw.ext {base c:Nat}{h o:Nat->aa}{nx:Nat}(hI:fw base h o nx)(hc:c<=nx)(hb:base<=c):fw c (YtlhemmpklhhgoaaGreat.ext base h o) o nx:=
 ⟨hI.cW,hc,fun id _=>by unfold YtlhemmpklhhgoaaGreat.ext;split<;>first|exact hI.eq id (by assumption)|rfl⟩
def aR{α σ:Type}(step:σ->α->σ×Bool)(s:σ):List α->σ×Bool
 |[]=>(s,true)
 |x::l=>if(step s x).2=true then aR step (step s x).1 l else((step s x).1,false)
theorem oN{P:Program}{id:Nat}{args:List V}{e:Nat->V}{o:Nat->aa}{nx:Nat}{K X:V->(Nat->aa)->Nat->Prop}(h:ej P id args o nx K X):Af P id K X ⟨e,o,nx⟩ args:=by unfold Af;exact h
theorem vU{α:Type}(f:Nat->α)(i:Nat)(x y:α):aw (aw f i x) i y=aw f i y:=by
 funext j;simp only[aw];split<;>rfl
attribute [go_sem] Int.cast_ofNat_Int
section
variable {P:Program}{n:Nat}{ps:List Nat}{x y:IC}{env:List V}{L:LoopState->Option lh->aa}
def mj(P:Program)(n:Nat)(env:List V)(ps:List Nat)(x y:IC)(L:LoopState->Option lh->aa):Prop:=∀st pd,L st pd= .loop P.funcs.size n env ps x y st pd
theorem GK{bq:Nat}{gq:Operand}{Q:gr->S->Prop}{e:Nat->V}{o:Nat->aa}{nx:Nat}{f:FuncId}{cap:List V}(env:List V)(he:oM e env 0)
 (h:∀L,mj P n env ps x y L->bJ P f (.lC nx::cap) (aw o nx (L .ready none)) (nx+1)
  (fun _ o' nx'=>∃st pd,o' nx=L st pd/\st≠ .busy/\rS Q pd ⟨e,aw o' nx (L .exhausted pd),nx'⟩) (fun v o' nx'=>Q (.bU v) ⟨e,o',nx'⟩)):
 vA P n bq false gq ps x y Q ⟨e,o,nx⟩ (.func (.func f) [] cap):=by
 refine Lf env he ?_
 have:=h (fun st pd=> .loop P.funcs.size n env ps x y st pd) (fun _ _=>rfl)
 refine this.mono (fun v o' nx' hh=> ?_) (fun v o' nx' hh=>hh)
 obtain⟨st,pd,h1,h2,h3⟩:=hh
 exact⟨_,_,_,_,_,_,_,_,h1,h2,h3⟩
theorem xE(hL:mj P n env ps x y L)(bz:P.follows .mixedOrders=true){id:Nat}{args:List V}{o:Nat->aa}{nx:Nat}{K X:V->(Nat->aa)->Nat->Prop}{st:LoopState}{pd:Option lh}
 (ho:o id=L st pd) (cD:id<nx) (Gy:ps.all (fun t=>decide (t<n))=true) (hl:args.length=ps.length)
 (h:kQ P n nx true x (tU P n nx id y K X) ⟨qH (aY env) ps args,o,nx⟩):ej P id args o nx K X:=
 ej.aH bz (ho.trans (hL st pd)) cD Gy hl h
theorem oO(hL:mj P n env ps x y L){b id:Nat}{fV:IC}{K X:V->(Nat->aa)->Nat->Prop}{e:Nat->V}{o:Nat->aa}{nx:Nat}{pd:Option lh}(h:o id=L .ready pd)
 (h2:kQ P n b true fV (mi id K X) ⟨e,aw o id (L .busy pd),nx⟩):tU P n b id fV K X .normal ⟨e,o,nx⟩:=by
 refine BS (h.trans (hL _ _)) ?_
 rw[<- hL];exact h2
theorem tV(hL:mj P n env ps x y L){id:Nat}{K X:V->(Nat->aa)->Nat->Prop}{e:Nat->V}{o:Nat->aa}{nx:Nat}{st:LoopState}{pd:Option lh}(h:o id=L st pd)(k:K (.d (.bool true)) (aw o id (L .ready none)) nx):mi id K X .normal ⟨e,o,nx⟩:=
 ⟨_,_,_,_,_,_,_,_,h.trans (hL _ _),by rw[<- hL];exact k⟩
theorem xF(hL:mj P n env ps x y L){id:Nat}{K X:V->(Nat->aa)->Nat->Prop}{e:Nat->V}{o:Nat->aa}{nx:Nat}{st:LoopState}{pd:Option lh}(h:o id=L st pd)(k:K (.d (.bool false)) (aw o id (L .done (some .ret))) nx):mi id K X .ret ⟨e,o,nx⟩:=
 ⟨_,_,_,_,_,_,_,_,h.trans (hL _ _),by rw[<- hL];exact k⟩
theorem uV(hL:mj P n env ps x y L){id j:Nat}{K X:V->(Nat->aa)->Nat->Prop}{e:Nat->V}{o:Nat->aa}{nx:Nat}{st:LoopState}{pd:Option lh}(h:o id=L st pd)(k:K (.d (.bool false)) (aw o id (L .done (some (.exit j)))) nx):mi id K X (.exit j) ⟨e,o,nx⟩:=
 ⟨_,_,_,_,_,_,_,_,h.trans (hL _ _),by rw[<- hL];exact k⟩
theorem mj.refs (hL:mj P n env ps x y L)(st:LoopState)(pd:Option lh):(L st pd).refs=V.aN env:=by rw[hL];rfl
end
end
attribute [go_sem_proc] Int.reduceBEq Int.reduceBNe Int.reduceLT Int.reduceLE Int.reduceEq Int.reduceNe Nat.reducePow Nat.reduceEqDiff Nat.reduceAdd Nat.reduceSub Nat.reduceMul Nat.reduceLeDiff Nat.reduceBEq Nat.reduceLT reduceIte reduceCtorEq Int.reduceToNat
attribute [go_sem] List.range_zero Option.isSome_some and_self List.cons.injEq
theorem Kc(n low high:Int):a7 Tryz.prog 114 [.i n, .i low, .i high] (.ret [.bool (eS n low high)]):=by
 refine a7.aH mix aen aF ?_
 rw[aem]
 refine cZ ?_
 rfl
theorem Oj{t:Tm}{left depth:Int}(h:left<1\/depth<1):gf t left depth= -1:=by cases t;simp[gf,h]
theorem qM{l:List Tm}{left depth:Int}(h:left<0):cN l left depth=left:=by
 cases l with
 |nil=>rfl
 |cons k l=>simp[cN,show ¬ (0<=left) by omega]
theorem Ol:∀t:Tm,∀left depth:Int, -1<=gf t left depth/\(1<=left->gf t left depth<=left - 1)/\(left<1->gf t left depth= -1):=by
 refine Tm.ind fun op n kids ih left depth=> ?_
 have hs:∀ (l:List Tm) (left d:Int),(∀k∈l,k∈kids)-> -1<=left-> -1<=cN l left d/\cN l left d<=left:=by
  intro l
  induction l with
  |nil=>intro left d _ h;simp[cN,h]
  |cons k l ZE=>
   intro left d hk h
   simp only[cN]
   split
   ·rename_i h0
    have h1:=ih k (hk k aF) left d
    have h2:=ZE (gf k left d) d (fun x hx=>hk x pN) h1.1
    by_cases hl:1<=left
    ·have:=h1.2.1 hl;omega
    ·have:=h1.2.2 ad;omega
   ·omega
 simp only[gf]
 split
 ·rename_i h;refine⟨ad,fun h1=> ?_,fun _=>rfl⟩;omega
 ·rename_i h
  have:=hs kids (left - 1) (depth - 1) (fun _ h=>h) ad
  exact⟨this.1,fun _=>this.2,fun h=>ad⟩
theorem Lh(l:List Tm)(left d:Int)(h: -1<=left): -1<=cN l left d/\cN l left d<=left:=by
 induction l generalizing left with
 |nil=>simp[cN,h]
 |cons k l ZE=>
  simp only[cN]
  split
  ·have h1:=Ol k left d
   have h2:=ZE (gf k left d) h1.1
   by_cases hl:1<=left
   ·have:=h1.2.1 hl;omega
   ·have:=h1.2.2 ad;omega
  ·omega
theorem qk(a b:List Tm)(left d:Int):cN (a++b) left d=cN b (cN a left d) d:=by
 induction a generalizing left with
 |nil=>rfl
 |cons k a ih=>
  simp only[List.cons_append,cN]
  split
  ·exact ih _
  ·rename_i h;rw[qM (by omega)]
theorem El{l:List Tm}{i:Nat}{k:Tm}(hi:l[i]? =some k)(left d:Int)(h:0<=cN (l.take i) left d):cN (l.take (i+1)) left d=gf k (cN (l.take i) left d) d:=by
 rw[List.take_add_one,hi,qk]
 simp[cN,h]
theorem Em{l:List Tm}{i:Nat}(left d:Int)(h:cN (l.take i) left d<0):cN l left d=cN (l.take i) left d:=by
 conv=>lhs;rw[<- List.take_append_drop i l]
 rw[qk,qM h]
@[reducible] def qN (cs:List V):Nat->aa:=aw (fun _=> .no) 0 (.row cs)
@[reducible] def GL (cs ds:List V):Nat->aa:=aw (aw (fun _=> .no) 0 (.row cs)) 1 (.row ds)
theorem c7{cs:List V}(h:(aa.row cs).refs.all (fun r=>decide (r<1))=true):Good (qN cs) 1:=(Good.nil (nx:=1)).aw ad h
theorem lN{cs ds:List V}(h:(aa.row cs).refs.all (fun r=>decide (r<2))=true)(h2:(aa.row ds).refs.all (fun r=>decide (r<2))=true):Good (GL cs ds) 2:=((Good.nil (nx:=2)).aw ad h).aw ad h2
theorem bM.d1 {e:Nat->V}{so o:Nat->aa}{m:Nat}(l:List V)(hg:Good o 1)(hm:1<=m)(h0:so 0=o 0)(he:mG 1 e l 0):bM 0 ⟨e,so,m⟩ ⟨aY l,o,1⟩:=
 bM.bQ l (Nat.zero_le _) hm hg (fun id h=>by obtain rfl:id=0:=ad
                                             exact h0) he
theorem bM.d2 {e:Nat->V}{so o:Nat->aa}{m:Nat}(l:List V)(hg:Good o 2)(hm:2<=m)(h0:so 0=o 0)(h1:so 1=o 1)(he:mG 2 e l 0):bM 0 ⟨e,so,m⟩ ⟨aY l,o,2⟩:=
 bM.bQ l (Nat.zero_le _) hm hg (fun id h=>by
  rcases(by omega:id=0\/id=1)with rfl|rfl
  ·exact h0
  ·exact h1) he
@[reducible] def Tm.row (t:Tm):List V:=[.d (.i t.op), .d (.i t.n), .d (.sl (t.kids.map Tm.d))]
theorem En(t:Tm)(left depth:Int):gf t left depth=if left<1\/depth<1 then -1 else cN t.kids (left - 1) (depth - 1):=by cases t;simp[gf,Tm.kids]
theorem BU:∀t:Tm,t.fits->∀left depth:Int, -1<=left/\left<=1000000-> -1<=depth/\depth<=1000000->a7 Tryz.prog 87 [t.d, .i left, .i depth] (.ret [.i (gf t left depth)]):=by
 refine Tm.eM fun t ih hf left depth hl hd=> ?_
 have yQ:=(Tm.cH _).1 hf
 refine a7.aH mix ahE aF ?_
 rw[c87]
 refine cZ ?_
 refine ak (fun h1=> ?_) (fun h1=> ?_)
 ·refine cZ ?_
  simp at h1
  rw[Oj h1]
 ·simp at h1
  refine cZ ?_
  rw[wrap64 (n:=left - 1) (by omega) (by omega),En,if_neg (by omega)]
  refine aC (fun k:Nat=>⟨aY [.ai, .d (.i (cN (t.kids.take k) (left - 1) (depth - 1))), .d (.i depth), .ptr 0 0, .ai, .ai, .ai, .d (.i k)],qN t.row,1⟩)
   (fun k=>k<=t.kids.length) (fun k=>t.kids.length - k) 0 (Nat.zero_le _) (bM.d1 _ (c7 rfl) ad rfl ?_) (fun k hk=> ?_)
  ·exact dU
  have hb:=Lh (t.kids.take k) (left - 1) (depth - 1) ad
  refine cZ ?_
  refine ak (fun h2=> ?_) (fun h2=> ?_)
  ·simp at h2
   obtain⟨x,hx⟩:∃x,t.kids[k]? =some x:=⟨t.kids[k],by simp[h2.1]⟩
   have cj:=List.mem_of_getElem? hx
   refine gD hx ?_
   rw[wrap64 (n:=depth - 1) (by omega) (by omega)]
   refine ax (ih x cj (yQ.2 x cj) _ _ ad ad) rfl ?_
   refine cZ ?_
   rw[<- El hx _ _ h2.2]
   refine aj (k+1) h2.1 ad (bM.d1 _ (c7 rfl) ad rfl ?_)
   exact dU
  ·refine cZ ?_
   simp only[Bool.and_eq_false_iff,decide_eq_false_iff_not]at h2
   congr 3
   rcases h2 with h2|h2
   ·rw[List.take_of_length_le (by omega)]
   ·exact Em _ _ ad
theorem ZF(s:List UInt8)(hs:s.length<=9223372036854775807):a7 Tryz.prog 139 [.str s] (.ret [.bool (kR s)]):=by
 refine a7.aH mix aeF aF ?_
 rw[aeE]
 refine cZ ?_
 refine aC (fun k:Nat=>⟨aY [.d (.str s), .ai, .ai, .d (.i k)],fun _=> .no,0⟩)
  (fun k=>k<=s.length/\(s.take k).all letterF=true) (fun k=>s.length - k) 0 ⟨Nat.zero_le _,aF⟩ (bM.d0 _ ?_) (fun k hk=> ?_)
 ·exact dU
 refine cZ ?_
 refine ak (fun h2=> ?_) (fun h2=> ?_)
 ·simp at h2
  obtain⟨x,hx⟩:∃x,s[k]? =some x:=⟨s[k],by simp[h2]⟩
  refine gD hx ?_
  refine ak (fun h3=> ?_) (fun h3=> ?_)
  ·refine cZ ?_
   have:kR s=false:=by
    have:s.all letterF=false:=by
     rw[List.all_eq_false]
     refine⟨x,List.mem_of_getElem? hx, ?_⟩
     simp only[letterF,h3];simp
    simp[kR,this]
   rw[this]
  ·refine cZ ?_
   refine aj (k+1) ⟨h2, ?_⟩ ad (bM.d0 _ ?_)
   ·rw[List.take_add_one,hx,List.all_append,hk.2]
    simp[letterF,h3]
   ·exact dU
 ·refine cZ ?_
  refine ax (Kc _ _ _) rfl ?_
  refine cZ ?_
  simp at h2
  have:=hk.2
  rw[List.take_of_length_le (by omega)]at this
  simp[kR,this]
theorem I2(l:List fj)(bs:List (List UInt8))(hl:l.length<=1000)(hb:bs.length<=1000)(hs:∀x∈l,x.name.length<=9223372036854775807):
 a7 Tryz.prog 115 [.sl (l.map fj.d), .sl (bs.map .str)] (.ret [.sl (((cM l bs).getD []).map .str), .bool (cM l bs).isSome]):=by
 refine a7.aH mix aep aF ?_
 rw[aeo]
 refine cZ ?_
 refine aC (fun k:Nat=>⟨aY [.d (.sl (l.map fj.d)), .d (.sl ((bs++(l.take k).map (·.name)).map .str)), .ai, .ai, .ai, .ai, .d (.i k)],fun _=> .no,0⟩)
  (fun k=>k<=l.length/\cM l bs=cM (l.drop k) (bs++(l.take k).map (·.name))) (fun k=>l.length - k) 0 ⟨Nat.zero_le _,aF⟩ (bM.d0 _ ?_) (fun k hk=> ?_)
 ·simp only[List.take_zero,List.map_nil,List.append_nil]
  exact dU
 refine cZ ?_
 refine ak (fun h2=> ?_) (fun h2=> ?_)
 ·simp at h2
  obtain⟨x,hx⟩:∃x,l[k]? =some x:=⟨l[k],by simp[h2]⟩
  have cj:=List.mem_of_getElem? hx
  have DN:l.drop k=x::l.drop (k+1):=by
   rw[List.drop_eq_getElem_cons h2]
   rw[List.getElem?_eq_getElem h2]at hx;injection hx with hx;rw[hx]
  generalize hB:bs++(l.take k).map (·.name)=B at*
  have hBl:B.length<=2000:=by rw[<- hB];simp;omega
  refine cZ ?_
  refine aC (fun j:Nat=>⟨aY [.d (.sl (l.map fj.d)), .d (.sl (B.map .str)), .ai, .ai, .ai, .ai, .d (.i k), .d (.i j)],fun _=> .no,0⟩)
   (fun j=>j<=B.length/\(B.take j).any (· ==x.name)=false) (fun j=>B.length - j) 0 ⟨Nat.zero_le _,aF⟩ (bM.d0 _ ?_) (fun j hj=> ?_)
  ·exact dU
  refine cZ ?_
  refine ak (fun h3=> ?_) (fun h3=> ?_)
  ·simp at h3
   obtain⟨y,hy⟩:∃y,B[j]? =some y:=⟨B[j],by simp[h3]⟩
   refine gD (ae hx hy) ?_
   refine aL bF ?_
   refine cZ ?_
   refine ak (fun h4=> ?_) (fun h4=> ?_)
   ·refine cZ ?_
    have:cM l bs=none:=by
     rw[hk.2,DN,cM,if_pos]
     rw[List.any_eq_true]
     exact⟨y,List.mem_of_getElem? hy,h4⟩
    rw[this];rfl
   ·refine cZ ?_
    refine aj (j+1) ⟨h3, ?_⟩ ad (bM.d0 _ ?_)
    ·rw[List.take_add_one,hy,List.any_append,hj.2]
     simp only[Option.toList_some,List.any_cons,h4,List.any_nil,Bool.or_false]
    ·exact dU
  ·simp at h3
   have Om:=hj.2
   rw[List.take_of_length_le (by omega)]at Om
   refine gD hx ?_
   refine ax (ZF x.name (hs x cj)) rfl ?_
   refine gD hx ?_
   refine jk (ik [.bool (eS x.args 0 4)] ?_ ?_)
   ·refine cZ ?_
    exact HL
   refine cZ ?_
   refine ak (fun h4=> ?_) (fun h4=> ?_)
   ·refine cZ ?_
    have:cM l bs=none:=by
     rw[hk.2,DN,cM,if_neg (by rw[Om];exact Bool.false_ne_true),if_pos h4]
    rw[this];rfl
   ·have e1:B.length<=140737488355328:=ad
    have e2:B.length*16<=140737488355328:=ad
    have e3:B.length<=140737488355327:=ad
    have e4:(B.length+1)*16<=140737488355328:=ad
    refine gD (ae hx (ae e1 (ae e2 (ae e3 e4)))) ?_
    refine aL bF ?_
    refine cZ ?_
    have hn:cM l bs=cM (l.drop (k+1)) (bs++(l.take (k+1)).map (·.name)):=by
     rw[hk.2,DN,cM,if_neg (by rw[Om];exact Bool.false_ne_true),if_neg (by rw[h4];exact Bool.false_ne_true), <- hB,List.take_add_one,hx]
     simp
    refine aj (k+1) ⟨h2,hn⟩ ad (bM.ae2 (fun _=>True) 0 _ (Nat.le_refl _) lt0 (fun _ _=>rfl) (fun _ _ _=>rfl) ?_)
    have hB2:(bs++(l.take (k+1)).map (·.name)).map D.str=B.map D.str++[D.str x.name]:=by
     rw[<- hB,List.take_add_one,hx];simp
    rw[hB2]
    exact iV
 ·refine cZ ?_
  simp at h2
  have:cM l bs=some (bs++l.map (·.name)):=by
   rw[hk.2,List.drop_eq_nil_of_le (by omega),cM,List.take_of_length_le (by omega)]
  rw[this,List.take_of_length_le (by omega)]
  rfl
theorem ZG(a b:List UInt8)(m n:Int):rh Tryz.prog 100 124 (.agg [.str a, .i m]) (.agg [.str b, .i n])=some (a==b&&m==n):=by
 have h1:b8 Tryz.prog 124=some (.struct [(9,0),(3,1)]):=aJ
 have h2:b8 Tryz.prog 9=some .str:=aJ
 have h3:b8 Tryz.prog 3=some .int:=aJ
 have h4:du Tryz.prog 9=some false:=aJ
 have h5:du Tryz.prog 3=some false:=aJ
 simp[rh,h1,h2,h3,h4,h5,CZ,UA,jU,Kj]
@[go_sem] theorem ahM (o:Nat->aa) (pO:Bool) (a b:List UInt8) (m n:Int):th Tryz.prog o 124 pO (.d (.agg [.str a, .i m])) (.d (.agg [.str b, .i n]))=some (.d (.bool (a==b&&m==n))):=by
  obtain⟨fs,h⟩:∃fs,Tryz.prog.underlying 124=some (.struct fs):=structOf aJ
  have h2:Tryz.prog.eqGuardType Tryz.prog.depth 124=false:=aJ
  unfold th
  rw[h]
  dsimp only
  rw[if_pos h2,ZG]
  rfl
theorem Li{l:List fj}{bs B:List (List UInt8)}(h:cM l bs=some B):B=bs++l.map (·.name):=by
 induction l generalizing bs with
 |nil=>simp[cM]at h;simp[h]
 |cons x l ih=>
  simp only[cM]at h
  split at h
  ·cases h
  ·split at h
   ·cases h
   ·rw[ih h];simp
structure az.Fits (s:az):Prop where
 lc:s.cons.length<=9223372036854775807
 lf:s.ct.length<=9223372036854775807
 nc:∀x∈s.cons,x.name.length<=9223372036854775807
 nf:∀x∈s.ct,x.name.length<=9223372036854775807
theorem Wi(s:az)(hs:s.Fits):a7 Tryz.prog 75 [s.d] (.ret [.bool (jP s)]):=by
 refine a7.aH mix ahx aF ?_
 rw[c75]
 refine cZ ?_
 refine ax (Kc _ _ _) rfl ?_
 refine cZ ?_
 cases h1:(!eS s.cons.length 2 12||decide (8<(s.ct.length:Int)))with
 |true=>
  refine gD h1 ?_
  simp only[jP,h1,if_true]
 |false=>
  simp[eS]at h1
  obtain⟨a,b,r,hc⟩:∃a b r,s.cons=a::b::r:=by
   match h:s.cons with
   |[]=>exact HO
   |[a]=>exact HO
   |a::b::r=>exact⟨a,b,r,rfl⟩
  have fP:(!eS s.cons.length 2 12||decide (8<(s.ct.length:Int)))=false:=by simp[eS];omega
  refine gD (ae fP hc) ?_
  have sn:jP s=if(!nS a fB|| !nS b tB)=true then false else match cM s.cons []with
   |none=>false
   |some l=>(cM s.ct l).isSome:=by
   unfold jP
   rw[if_neg (by rw[fP];exact Bool.false_ne_true),hc]
   dsimp only
   rfl
  refine ak (fun h2=> ?_) (fun h2=> ?_)
  ·refine cZ ?_
   have l7:(!nS a fB|| !nS b tB)=true:=h2
   rw[sn,if_pos l7]
  ·refine gD hc ?_
   have hl:(a::b::r).length<=1000:=by rw[<- hc];omega
   have yS:=I2 (a::b::r) [] hl aF (by rw[<- hc];exact hs.nc)
   simp only[List.map_cons,List.map_nil]at yS
   refine bC yS ?_
   have l7:(!nS a fB|| !nS b tB)=false:=h2
   rw[sn,if_neg (by rw[l7];exact Bool.false_ne_true),hc]
   cases hn:cM (a::b::r) []with
   |none=>simp+contextual only[go_sem,hn]
   |some B=>
    refine gD hn ?_
    have hB:B.length<=1000:=by
     have:=Li hn
     rw[this];simp at hl|-;omega
    have ahN:=I2 s.ct B ad hB hs.nf
    refine bC ahN ?_
    simp+contextual only[go_sem]
theorem FF{l:List fj}{n:Int}{x:fj}(h:l[n.toNat]? =some x):kS l n=x.args:=by simp[kS,h]
theorem HU{l:List fj}{n:Int}(h:eS n 0 (l.length - 1)=true):0<=n/\∃x,l[n.toNat]? =some x:=by
 simp[eS]at h
 exact⟨h.1,l[n.toNat]'ad,aF⟩
theorem ZH(s:az)(t:Tm)(hs:s.Fits)(ht:t.kids.length<=9223372036854775807):a7 Tryz.prog 127 [s.d,t.d] (.ret [.bool (bG s t)]):=by
 refine a7.aH mix aeB aF ?_
 rw[aeA]
 refine cZ ?_
 rcases(by omega:t.op=1\/t.op=2\/t.op=3\/t.op=4\/t.op=5\/t.op=8\/(t.op=6\/t.op=7\/t.op=9\/t.op=10\/t.op=11\/t.op=12\/t.op=13\/t.op=14\/t.op=15)\/(t.op<1\/15<t.op))with h|h|h|h|h|h|h|h
 ·have hn:bG s t=((t.kids.length:Int)==0&&eS t.n 0 19):=by simp[bG,h]
  refine gD h ?_
  refine jk (ik [.bool (eS t.n 0 19)] ?_ ?_)
  ·refine cZ ?_
   exact HL
  refine gD h ?_
  rw[hn]
 ·have hn:bG s t=((t.kids.length:Int)==0&&eS t.n (-1000000) 1000000):=by simp[bG,h]
  refine gD h ?_
  refine jk (ik [.bool (eS t.n (-1000000) 1000000)] ?_ ?_)
  ·refine cZ ?_
   exact HL
  refine gD h ?_
  rw[hn]
 ·have hn:bG s t=(eS t.n 0 (s.cons.length - 1)&&(t.kids.length:Int)==kS s.cons t.n):=by simp[bG,h]
  refine gD h ?_
  rw[wrap64 (by have:=hs.lc;omega) (by have:=hs.lc;omega)]
  refine ax (Kc _ _ _) rfl ?_
  cases hI:eS t.n 0 (s.cons.length - 1)with
  |false=>
   exact ML
  |true=>
   exact Xj
 ·have hn:bG s t=(eS t.n 0 (s.ct.length - 1)&&(t.kids.length:Int)==kS s.ct t.n):=by simp[bG,h]
  refine gD h ?_
  rw[wrap64 (by have:=hs.lf;omega) (by have:=hs.lf;omega)]
  refine ax (Kc _ _ _) rfl ?_
  cases hI:eS t.n 0 (s.ct.length - 1)with
  |false=>
   exact ML
  |true=>
   exact Xj
 ·have hn:bG s t=(eS t.n 0 (s.ct.length - 1)&&decide ((t.kids.length:Int)<kS s.ct t.n)):=by simp[bG,h]
  refine gD h ?_
  rw[wrap64 (by have:=hs.lf;omega) (by have:=hs.lf;omega)]
  refine ax (Kc _ _ _) rfl ?_
  cases hI:eS t.n 0 (s.ct.length - 1)with
  |false=>
   exact ML
  |true=>
   exact Xj
 ·have hn:bG s t=((t.kids.length:Int)==2&&eS t.n 0 19):=by simp[bG,h]
  refine gD h ?_
  refine jk (ik [.bool (eS t.n 0 19)] ?_ ?_)
  ·refine cZ ?_
   exact HL
  refine gD h ?_
  rw[hn]
 ·have hn:bG s t=((t.kids.length:Int)==2&&t.n==0):=by
   rcases h with h|h|h|h|h|h|h|h|h<;>simp[bG,h,eS]
  rw[hn]
  rcases h with h|h|h|h|h|h|h|h|h<;>simp+contextual only[go_sem,h]
 ·have hn:bG s t=false:=by
   simp[bG,eS,show ¬ (t.op=1) by omega,show ¬ (t.op=2) by omega,show ¬ (t.op=3) by omega,show ¬ (t.op=4) by omega,show ¬ (t.op=5) by omega,show ¬ (t.op=8) by omega,show ¬ (6<=t.op/\t.op<=15) by omega]
  have e:∀k:Int,1<=k->k<=15->(t.op==k)=false:=fun k h1 h2=>by simp;omega
  refine gD (ae (e 1 ad ad) (ae (e 2 ad ad) (ae (e 3 ad ad) (ae (e 4 ad ad) (ae (e 5 ad ad) (ae (e 6 ad ad) (ae (e 7 ad ad) (ae (e 8 ad ad) (ae (e 9 ad ad) (ae (e 10 ad ad) (ae (e 11 ad ad) (ae (e 12 ad ad) (ae (e 13 ad ad) (ae (e 14 ad ad) (e 15 ad ad))))))))))))))) ?_
  rw[hn]
theorem mH(s:az)(t:Tm):jl s t=(bG s t&&t.kids.all (jl s)):=by
 have:∀l:List Tm,vP s l=l.all (jl s):=fun l=>by
  induction l with
  |nil=>rfl
  |cons k l ih=>simp[vP,ih]
 cases t;simp[jl,this,Tm.kids]
theorem mI{α:Type}{l:List α}{p:α->Bool}{k:Nat}{x:α}(hx:l[k]? =some x)(h:p x=false):l.all p=false:=by
 rw[List.all_eq_false];exact⟨x,List.mem_of_getElem? hx,by rw[h];exact Bool.false_ne_true⟩
theorem oP{α:Type}{l:List α}{p:α->Bool}{k:Nat}{x:α}(hx:l[k]? =some x)(h0:(l.take k).all p=true)(h:p x=true):(l.take (k+1)).all p=true:=by
 rw[List.take_add_one,hx,List.all_append,h0];simp[h]
theorem oQ{α:Type}{l:List α}{p:α->Bool}{k:Nat}(h0:(l.take k).all p=true)(h:l.length<=k):l.all p=true:=by
 rwa [List.take_of_length_le h]at h0
theorem aA{α:Type}{l:List α}{k:Nat}(h:k<l.length):∃x,l[k]? =some x:=⟨l[k],by simp[h]⟩
@[reducible] def az.row (s:az):List V:=[.d (.sl (s.cons.map fj.d)), .d (.sl (s.ct.map fj.d))]
theorem RZ(s:az)(hs:s.Fits):∀t:Tm,t.fits->a7 Tryz.prog 94 [s.d,t.d] (.ret [.bool (jl s t)]):=by
 refine Tm.eM fun t ih hf=> ?_
 have yQ:=(Tm.cH _).1 hf
 refine a7.aH mix ahI aF ?_
 rw[c94]
 refine cZ ?_
 refine ax (ZH s t hs yQ.1) rfl ?_
 refine cZ ?_
 rw[mH]
 refine ak (fun h1=> ?_) (fun h1=> ?_)
 ·refine cZ ?_
  simp at h1;simp[h1]
 ·simp at h1
  rw[h1,Bool.true_and]
  refine cZ ?_
  refine aC (fun k:Nat=>⟨aY [.ai, .ai, .ptr 0 0, .ptr 1 0, .ai, .d (.i k)],GL s.row t.row,2⟩)
   (fun k=>k<=t.kids.length/\(t.kids.take k).all (jl s)=true) (fun k=>t.kids.length - k) 0 ⟨Nat.zero_le _,aF⟩ (bM.d2 _ (lN rfl rfl) ad rfl rfl ?_) (fun k hk=> ?_)
  ·exact dU
  refine cZ ?_
  refine ak (fun h2=> ?_) (fun h2=> ?_)
  ·simp at h2
   obtain⟨x,hx⟩:=aA h2
   have cj:=List.mem_of_getElem? hx
   refine gD hx ?_
   refine bf (ih x cj (yQ.2 x cj)) rfl ?_
   refine cZ ?_
   refine aL bF ?_
   refine cZ ?_
   refine ak (fun h3=> ?_) (fun h3=> ?_)
   ·refine cZ ?_
    simp at h3
    rw[mI hx h3]
   ·refine cZ ?_
    simp at h3
    refine aj (k+1) ⟨h2,oP hx hk.2 h3⟩ ad (bM.d2 _ (lN rfl rfl) ad rfl rfl ?_)
    exact dU
  ·refine cZ ?_
   simp at h2
   rw[oQ hk.2 h2]
theorem ZI(s:az)(hs:s.Fits)(t:Tm)(hf:t.fits):a7 Tryz.prog 43 [s.d,t.d] (.ret [.bool (il s t)]):=by
 refine a7.aH mix ahf aF ?_
 rw[c43]
 refine cZ ?_
 refine ax (BU t hf 40 12 ad ad) rfl ?_
 refine cZ ?_
 refine jk (ik [.bool (jl s t)] ?_ ?_)
 ·refine cZ ?_
  exact fun _=>RZ s hs t hf
 refine cZ ?_
 rfl
theorem tW(t:Tm):fL t=(t.kids.all fL&&((decide (1<=t.op)&&decide (t.op<=3))||t.op==5)):=by
 have:∀l:List Tm,vQ l=l.all fL:=fun l=>by
  induction l with
  |nil=>rfl
  |cons k l ih=>simp[vQ,ih]
 cases t;simp only[fL,this,Tm.kids,Tm.op];rfl
theorem R0:∀t:Tm,t.fits->a7 Tryz.prog 92 [t.d] (.ret [.bool (fL t)]):=by
 refine Tm.eM fun t ih hf=> ?_
 have yQ:=(Tm.cH _).1 hf
 refine a7.aH mix ahG aF ?_
 rw[c92,tW]
 refine cZ ?_
 refine aC (fun k:Nat=>⟨aY [.ai, .ptr 0 0, .ai, .d (.i k)],qN t.row,1⟩)
  (fun k=>k<=t.kids.length/\(t.kids.take k).all fL=true) (fun k=>t.kids.length - k) 0 ⟨Nat.zero_le _,aF⟩ (bM.d1 _ (c7 rfl) ad rfl ?_) (fun k hk=> ?_)
 ·exact dU
 refine cZ ?_
 refine ak (fun h2=> ?_) (fun h2=> ?_)
 ·simp at h2
  obtain⟨x,hx⟩:=aA h2
  have cj:=List.mem_of_getElem? hx
  refine gD hx ?_
  refine ax (ih x cj (yQ.2 x cj)) rfl ?_
  refine cZ ?_
  refine ak (fun h3=> ?_) (fun h3=> ?_)
  ·refine cZ ?_
   simp at h3
   rw[mI hx h3];rfl
  ·refine cZ ?_
   simp at h3
   refine aj (k+1) ⟨h2,oP hx hk.2 h3⟩ ad (bM.d1 _ (c7 rfl) ad rfl ?_)
   exact dU
 ·refine cZ ?_
  simp at h2
  rw[oQ hk.2 h2];rfl
theorem jn:∀l l':List Tm,l.length=l'.length->(jm l l'=true↔∀ (i:Nat) (x y:Tm),l[i]? =some x->l'[i]? =some y->iH x y=true)
 |[],l',_=>by simp[jm]
 |k::l,k'::l',h=>by
  simp only[jm,Bool.and_eq_true]
  rw[jn l l' (by simpa using h)]
  constructor
  ·rintro⟨h1,h2⟩ i x y hx hy
   cases i with
   |zero=>simp at hx hy;subst hx;subst hy;exact h1
   |succ i=>exact h2 i x y zr (by simpa using hy)
  ·intro h3
   exact⟨h3 0 k k' rfl rfl,fun i x y hx hy=>h3 (i+1) x y zr (by simpa using hy)⟩
 |_::_,[],h=>by simp at h
theorem sq(a b:Tm):iH a b=(a.op==b.op&&a.n==b.n&&a.kids.length==b.kids.length&&jm a.kids b.kids):=by cases a;cases b;simp[iH,Tm.op,Tm.n,Tm.kids]
theorem GM:∀a:Tm,a.fits->∀b:Tm,b.fits->a7 Tryz.prog 40 [a.d,b.d] (.ret [.bool (iH a b)]):=by
 refine Tm.eM fun t ih hf b hb=> ?_
 have yQ:=(Tm.cH _).1 hf
 have yK:=(Tm.cH _).1 hb
 refine a7.aH mix ad6 aF ?_
 rw[c40,sq]
 refine cZ ?_
 refine ak (fun h1=> ?_) (fun h1=> ?_)
 ·refine cZ ?_
  have:(t.op==b.op&&t.n==b.n&&t.kids.length==b.kids.length)=false:=by
   rw[Bool.eq_false_iff]
   intro h
   simp at h
   simp[h]at h1
  rw[this];rfl
 ·have fP:t.op=b.op/\t.n=b.n/\t.kids.length=b.kids.length:=by
   simp at h1
   refine⟨h1.1.1,h1.1.2,by have:=h1.2;omega⟩
  rw[show(t.op==b.op&&t.n==b.n&&t.kids.length==b.kids.length)=true by simp[fP],Bool.true_and]
  have hl:=fP.2.2
  refine cZ ?_
  refine aC (fun k:Nat=>⟨aY [.ai, .ai, .ptr 0 0, .ptr 1 0, .ai, .d (.i k)],GL t.row b.row,2⟩)
   (fun k=>k<=t.kids.length/\∀i,i<k->∀x y,t.kids[i]? =some x->b.kids[i]? =some y->iH x y=true) (fun k=>t.kids.length - k) 0 ⟨Nat.zero_le _,fun i h=>ad⟩ (bM.d2 _ (lN rfl rfl) ad rfl rfl ?_) (fun k hk=> ?_)
  ·exact dU
  refine cZ ?_
  refine ak (fun h2=> ?_) (fun h2=> ?_)
  ·simp at h2
   obtain⟨x,hx⟩:=aA h2
   obtain⟨y,hy⟩:=aA (l:=b.kids) (k:=k) ad
   have cj:=List.mem_of_getElem? hx
   have R3:=List.mem_of_getElem? hy
   refine gD (ae hx hy) ?_
   refine bf (ih x cj (yQ.2 x cj) y (yK.2 y R3)) rfl ?_
   refine cZ ?_
   refine aL bF ?_
   refine cZ ?_
   refine ak (fun h3=> ?_) (fun h3=> ?_)
   ·refine cZ ?_
    simp at h3
    have:jm t.kids b.kids=false:=by
     rw[Bool.eq_false_iff]
     intro h
     have:=(jn _ _ hl).1 h k x y hx hy
     rw[h3]at this;cases this
    rw[this]
   ·refine cZ ?_
    simp at h3
    refine aj (k+1) ⟨h2,fun i hi u v hu hv=> ?_⟩ ad (bM.d2 _ (lN rfl rfl) ad rfl rfl ?_)
    ·by_cases e:i=k
     ·subst e
      rw[hx]at hu;rw[hy]at hv
      exact TM
     ·exact hk.2 i ad u v hu hv
    ·exact dU
  ·refine cZ ?_
   simp at h2
   have:jm t.kids b.kids=true:=(jn _ _ hl).2 fun i x y hx hy=>hk.2 i (by have:=(List.getElem?_eq_some_iff.1 hx).1;omega) x y hx hy
   rw[this]
theorem pw(t:Tm)(hf:t.fits):a7 Tryz.prog 61 [t.d] (.ret [.bool (dI t)]):=by
 refine a7.aH mix ahs aF ?_
 rw[c61]
 refine cZ ?_
 refine ax (BU t hf 50 14 ad ad) rfl ?_
 refine cZ ?_
 rfl
theorem xG(s:az)(hs:s.Fits):a7 Tryz.prog 78 [s.d] (.ret [.bool (eW s)]):=by
 refine a7.aH mix ahA aF ?_
 rw[c78]
 refine cZ ?_
 refine ak (fun h1=> ?_) (fun h1=> ?_)
 ·refine cZ ?_
  simp only[eW,h1];rfl
 ·have e:eW s=(gO s.cons&&gO s.ct):=by simp only[eW,h1];rfl
  rw[e]
  simp at h1
  refine cZ ?_
  refine aC (fun k:Nat=>⟨aY [.ai, .ptr 0 0, .ai, .d (.i k)],qN s.row,1⟩)
   (fun k=>k<=s.cons.length/\gO (s.cons.take k)=true) (fun k=>s.cons.length - k) 0 ⟨Nat.zero_le _,by simp[gO]⟩ (bM.d1 _ (c7 rfl) ad rfl ?_) (fun k hk=> ?_)
  ·exact dU
  refine cZ ?_
  refine ak (fun h2=> ?_) (fun h2=> ?_)
  ·simp at h2
   obtain⟨x,hx⟩:=aA h2
   refine gD hx ?_
   refine ak (fun h3=> ?_) (fun h3=> ?_)
   ·refine cZ ?_
    rw[show gO s.cons=false from mI hx (by simpa using h3)];rfl
   ·refine cZ ?_
    refine aj (k+1) ⟨h2,oP hx hk.2 (by simpa using h3)⟩ ad (bM.d1 _ (c7 rfl) ad rfl ?_)
    exact dU
  ·simp at h2
   rw[show gO s.cons=true from oQ hk.2 h2,Bool.true_and]
   refine cZ ?_
   refine aC (fun k:Nat=>⟨aY [.ai, .ptr 0 0, .ai, .ai, .d (.i k)],qN s.row,1⟩)
    (fun k=>k<=s.ct.length/\gO (s.ct.take k)=true) (fun k=>s.ct.length - k) 0 ⟨Nat.zero_le _,by simp[gO]⟩ (bM.d1 _ (c7 rfl) ad rfl ?_) (fun k hk=> ?_)
   ·exact dU
   refine cZ ?_
   refine ak (fun h4=> ?_) (fun h4=> ?_)
   ·simp at h4
    obtain⟨x,hx⟩:=aA h4
    refine gD hx ?_
    refine ak (fun h3=> ?_) (fun h3=> ?_)
    ·refine cZ ?_
     rw[show gO s.ct=false from mI hx (by simpa using h3)]
    ·refine cZ ?_
     refine aj (k+1) ⟨h4,oP hx hk.2 (by simpa using h3)⟩ ad (bM.d1 _ (c7 rfl) ad rfl ?_)
     exact dU
   ·simp at h4
    rw[show gO s.ct=true from oQ hk.2 h4]
    simp+contextual only[go_sem]
end Go.Proofs.YtlhemmpklhhgoaaGreat
