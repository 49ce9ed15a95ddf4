/-
  A PART OF THE PROOF. Conditions: none.
-/
import Derived.Test.YtonbelhklnmjnaaGreatRows
import Derived.Test.YtonbelhklnmjnaaGreatLt12
set_option linter.unusedSimpArgs false
set_option linter.unusedVariables false
namespace Go.Proofs.YtonbelhklnmjnaaGreat
def aaI:IC:=
 (.seq (.ag [mv 8 1,
 bk .add 9 3 8 1 3,
 sg 6 9]) (.block 0 (.loop (.seq (.seq (.ag [mv 10 6,
 mv 11 2,
 bo .lss 12 3 10 11 3]) (.cond (.tmp 12) .skip (.exit 0))) (.seq (.block 1 (.seq (.ag [mv 15 6,
 sg 7 15]) (.block 2 (.loop (.seq (.seq (.eX [mv 16 7,
 mv 17 1,
 bo .gtr 18 3 16 17 3,
 mv 19 18,
 gT (mv 20 0) 19,
 gT (mv 21 7) 19,
 gT (ia 22 41 20 21) 19,
 gT (ld 23 3 22) 19,
 gT (mv 24 0) 19,
 gT (mv 25 7) 19,
 gT (bk .sub 26 3 25 1 3) 19,
 gT (ia 27 41 24 26) 19,
 gT (ld 28 3 27) 19,
 gT (k2 29 213 23 28 3 3) 19,
 cf 30 19 29]
 [[],[],[0,1],[2],[3],[3],[4,5,3],[6,3],[3],[3],[9,3],[8,10,3],[11,3],[7,12,3,3],[3,13]]) (.cond (.tmp 30) .skip (.exit 2))) (.seq (.block 3 (.eX [mv 33 0,
 mv 34 7,
 mv 35 0,
 mv 36 7,
 bk .sub 37 3 36 1 3,
 mv 38 0,
 mv 39 7,
 bk .sub 40 3 39 1 3,
 ia 41 41 38 40,
 ld 42 3 41,
 mv 43 0,
 mv 44 7,
 ia 45 41 43 44,
 ld 46 3 45,
 ia 47 41 33 34,
 st 3 47 42,
 ia 48 41 35 37,
 st 3 48 46]
 [[],[],[],[],[3],[],[],[6],[5,7],[8],[],[],[10,11],[12],[0,1,0,1,5,6,7,8,9,13],[14,9,0,1,5,6,7,8,9,13],[2,4,0,1,2,3,4,5,6,7,8,9,10,11,12,13,14,15],[16,13,15,0,1,2,3,4,5,6,7,8,9,10,11,12,13,14,15]])) (.ag [mv 31 7,
 bk .sub 32 3 31 1 3,
 sg 7 32]))))))) (.ag [mv 13 6,
 bk .add 14 3 13 1 3,
 sg 6 14]))))))
theorem aaJ:aF Tryz.prog 207 49 aaI []:=
 ⟨_,Tryz.func207,af,af,af,_,rfl,af⟩
def aaK:IC:=
 (.seq (.ag [bJ 4 false]) (.seq (.ag [mv 5 0,
 k1 6 253 5 3,
 mv 7 6,
 gT (mv 8 1) 7,
 gT (k1 9 253 8 3) 7,
 gT (nt 10 4 9) 7,
 cf 11 7 10,
 mv 12 11,
 gF (mv 13 0) 12,
 gF (mv 14 1) 12,
 gF (bo .lss 15 3 13 14 3) 12,
 ei 16 12 15,
 sg 4 16]) .ret))
theorem aaL:aF Tryz.prog 213 17 aaK [.tmp 4]:=
 ⟨_,Tryz.func213,af,af,af,_,rfl,af⟩
def aaM:IC:=
 (.seq (.ag [dh 2 0]) (.seq (.seq (.ag [mv 3 0,
 ⟨(some 4), .binOp .geq 208 (.tmp 3) (.const (.int .u64 4294967296)) 208,none⟩]) (.cond (.tmp 4) (.seq (.ag [mv 5 0,
 ⟨(some 6), .binOp .shr 208 (.tmp 5) (.const (.int .u64 32)) 172,none⟩,
 sg 0 6]) (.ag [dh 2 32])) .skip)) (.seq (.seq (.ag [mv 7 0,
 ⟨(some 8), .binOp .geq 208 (.tmp 7) (.const (.int .u64 65536)) 208,none⟩]) (.cond (.tmp 8) (.seq (.ag [mv 9 0,
 ⟨(some 10), .binOp .shr 208 (.tmp 9) (.const (.int .u64 16)) 172,none⟩,
 sg 0 10]) (.ag [mv 11 2,
 bk .add 12 3 11 16 3,
 sg 2 12])) .skip)) (.seq (.seq (.ag [mv 13 0,
 ⟨(some 14), .binOp .geq 208 (.tmp 13) (.const (.int .u64 256)) 208,none⟩]) (.cond (.tmp 14) (.seq (.ag [mv 15 0,
 ⟨(some 16), .binOp .shr 208 (.tmp 15) (.const (.int .u64 8)) 172,none⟩,
 sg 0 16]) (.ag [mv 17 2,
 bk .add 18 3 17 8 3,
 sg 2 18])) .skip)) (.seq (.ag [mv 19 2,
 mv 20 0,
 ⟨(some 21), .convert 208 5 (.tmp 20),none⟩,
 ⟨(some 22), .index 9 (.const (.string {data:=#[0,1,2,2,3,3,3,3,4,4,4,4,4,4,4,4,5,5,5,5,5,5,5,5,5,5,5,5,5,5,5,5,6,6,6,6,6,6,6,6,6,6,6,6,6,6,6,6,6,6,6,6,6,6,6,6,6,6,6,6,6,6,6,6,7,7,7,7,7,7,7,7,7,7,7,7,7,7,7,7,7,7,7,7,7,7,7,7,7,7,7,7,7,7,7,7,7,7,7,7,7,7,7,7,7,7,7,7,7,7,7,7,7,7,7,7,7,7,7,7,7,7,7,7,7,7,7,7,8,8,8,8,8,8,8,8,8,8,8,8,8,8,8,8,8,8,8,8,8,8,8,8,8,8,8,8,8,8,8,8,8,8,8,8,8,8,8,8,8,8,8,8,8,8,8,8,8,8,8,8,8,8,8,8,8,8,8,8,8,8,8,8,8,8,8,8,8,8,8,8,8,8,8,8,8,8,8,8,8,8,8,8,8,8,8,8,8,8,8,8,8,8,8,8,8,8,8,8,8,8,8,8,8,8,8,8,8,8,8,8,8,8,8,8,8,8,8,8,8,8,8,8,8,8,8,8]})) (.tmp 21),none⟩,
 ⟨(some 23), .convert 5 3 (.tmp 22),none⟩,
 bo .add 24 3 19 23 3,
 sg 2 24]) .ret)))))
theorem aaN:aF Tryz.prog 217 25 aaM [.tmp 2]:=
 ⟨_,Tryz.func217,af,af,af,_,rfl,af⟩
def VB:IC:=
 (.seq (.ag [bx 2 31 0,
 bx 3 31 1,
 bJ 4 false]) (.seq (.ag [fa 5 31 2 0,
 ld 6 29 5,
 fa 7 31 3 0,
 ld 8 29 7,
 bo .eql 9 29 6 8 29,
 mv 10 9,
 gT (fa 11 31 2 1) 10,
 gT (ld 12 3 11) 10,
 gT (fa 13 31 3 1) 10,
 gT (ld 14 3 13) 10,
 gT (bo .eql 15 3 12 14 3) 10,
 cf 16 10 15,
 mv 17 16,
 gT (fa 18 31 2 2) 17,
 gT (ld 19 28 18) 17,
 gT (fa 20 31 3 2) 17,
 gT (ld 21 28 20) 17,
 ⟨(some 22), .call {callee:= .value (.func 114),args:=#[.tmp 19, .tmp 21, .func 218],argTypes:=#[28,28,51]},(some (17,true))⟩,
 cf 23 17 22,
 sg 4 23]) .ret))
theorem RH:aF Tryz.prog 218 24 VB [.tmp 4]:=
 ⟨_,Tryz.func218,af,af,af,_,rfl,af⟩
def VC:IC:=
 (.seq (.ag [bx 3 119 0,
 bx 4 31 1,
 bx 5 35 2]) (.seq (.ag [fa 8 35 5 1,
 fa 9 31 8 0,
 ld 10 29 9,
 fa 11 31 4 0,
 ld 12 29 11,
 bo .eql 13 29 10 12 29,
 mv 14 13,
 gT (fa 15 35 5 1) 14,
 gT (fa 16 31 15 1) 14,
 gT (ld 17 3 16) 14,
 gT (fa 18 31 4 1) 14,
 gT (ld 19 3 18) 14,
 gT (bo .eql 20 3 17 19 3) 14,
 cf 21 14 20,
 mv 22 21,
 gT (fa 23 35 5 1) 22,
 gT (fa 24 31 23 2) 22,
 gT (ld 25 28 24) 22,
 gT (ln 26 25 28) 22,
 gT (fa 27 35 5 4) 22,
 gT (ld 28 33 27) 22,
 gT (ln 29 28 33) 22,
 gT (bo .eql 30 3 26 29 3) 22,
 cf 31 22 30,
 k1 32 128 31 4]) (.seq (.seq (.ag [fa 33 35 5 4,
 ld 34 33 33,
 ln 35 34 33,
 vg 36 0]) (.block 0 (.loop (.seq (.ag [bo .lss 37 3 36 35 3]) (.seq (.cond (.tmp 37) .skip (.exit 0)) (.seq (.block 1 (.seq (.ag [mv 38 36,
 ia 39 33 34 36,
 ld 40 35 39,
 al 7 35,
 sg 6 38,
 st 35 7 40]) (.eX [fa 41 35 7 1,
 ld 42 31 41,
 fa 43 35 5 1,
 fa 44 31 43 2,
 ld 45 28 44,
 mv 46 6,
 ia 47 28 45 46,
 ld 48 31 47,
 k2 49 218 42 48 31 31,
 k1 50 128 49 4]
 [[],[0],[],[2],[3],[],[4,5],[6],[1,7],[8,8]]))) (.ag [bk .add 51 3 36 1 3,
 mv 36 51]))))))) (.ag [ld 52 119 3,
 fa 53 31 4 2,
 ld 54 28 53,
 fa 55 35 5 4,
 ld 56 33 55,
 k3 57 221 52 54 56 119 28 33]))))
theorem RI:aF Tryz.prog 219 58 VC []:=
 ⟨_,Tryz.func219,af,af,af,_,rfl,af⟩
def VD:IC:=
 (.seq (.ag [bx 2 31 0,
 al 4 31]) (.seq (.seq (.ag [fa 8 31 2 0,
 ld 9 29 8,
 bk .eql 10 29 9 1 29]) (.cond (.tmp 10) (.seq (.ag [mv 11 1,
 fa 12 31 2 1,
 ld 13 3 12,
 ia 14 28 11 13,
 ld 15 31 14,
 st 31 4 15]) .ret) .skip)) (.seq (.ag [fa 16 31 2 0,
 ld 17 29 16,
 fa 18 31 2 1,
 ld 19 3 18,
 ⟨(some 20), .build 31 #[(0, .tmp 17),(1, .tmp 19)],none⟩,
 al 5 31,
 st 31 5 20]) (.seq (.seq (.ag [fa 21 31 2 2,
 ld 22 28 21,
 ln 23 22 28,
 vg 24 0]) (.block 0 (.loop (.seq (.ag [bo .lss 25 3 24 23 3]) (.seq (.cond (.tmp 25) .skip (.exit 0)) (.seq (.block 1 (.seq (.ag [ia 26 28 22 24,
 ld 27 31 26,
 al 7 31,
 st 31 7 27]) (.eX [fa 28 31 5 2,
 ld 29 28 28,
 ld 30 31 7,
 mv 31 1,
 k2 32 220 30 31 31 28,
 ⟨(some 33), .buildSlice 28 1 #[(0, .tmp 32)],none⟩,
 ⟨(some 34), .call {callee:= .builtin .append,args:=#[.tmp 29, .tmp 33],argTypes:=#[28,28]},none⟩,
 fa 35 31 5 2,
 st 28 35 34]
 [[],[0],[],[],[2,3],[4],[1,5,4],[0,1,2,3,4,5,6],[7,6,6,0,1,2,3,4,5,6]]))) (.ag [bk .add 36 3 24 1 3,
 mv 24 36]))))))) (.seq (.ag [ld 37 31 5,
 st 31 4 37]) .ret)))))
theorem RJ:aF Tryz.prog 220 38 VD [.cell 4 31]:=
 ⟨_,Tryz.func220,af,af,af,_,rfl,af⟩
def VE:IC:=
 (.seq (.ag [bx 3 119 0]) (.seq (.ag [mv 8 1,
 ln 9 8 28,
 mv 10 2,
 ln 11 10 33,
 bo .eql 12 3 9 11 3,
 k1 13 128 12 4]) (.seq (.ag [mv 14 2,
 ln 15 14 33,
 vg 16 0]) (.block 0 (.loop (.seq (.ag [bo .lss 17 3 16 15 3]) (.seq (.cond (.tmp 17) .skip (.exit 0)) (.seq (.block 1 (.seq (.ag [mv 18 16,
 ia 19 33 14 16,
 ld 20 35 19,
 al 7 35,
 sg 6 18,
 st 35 7 20]) (.eX [ld 21 119 3,
 mv 22 1,
 mv 23 6,
 ia 24 28 22 23,
 ld 25 31 24,
 ld 26 35 7,
 k3 27 93 21 25 26 119 31 35]
 [[],[],[],[1,2],[3],[],[0,4,5]]))) (.ag [bk .add 28 3 16 1 3,
 mv 16 28])))))))))
theorem RK:aF Tryz.prog 221 29 VE []:=
 ⟨_,Tryz.func221,af,af,af,_,rfl,af⟩
def VF:IC:=
 (.seq (.ag [bx 2 119 0,
 al 4 119]) (.seq (.ag [fa 5 119 2 0,
 ld 6 27 5,
 mv 7 1,
 ⟨(some 8), .build 119 #[(0, .tmp 6),(1, .tmp 7)],none⟩,
 st 119 4 8]) .ret))
theorem RL:aF Tryz.prog 222 9 VF [.cell 4 119]:=
 ⟨_,Tryz.func222,af,af,af,_,rfl,af⟩
def VG:IC:=
 (.seq (.ag [bx 2 106 0,
 ⟨(some 4), .assign (.const (.slice none 0 0)),none⟩]) (.seq (.ag [mv 7 1,
 k1 8 94 7 28,
 al 5 28,
 st 28 5 8]) (.seq (.ag [al 6 169]) (.seq (.ag [⟨(some 9), .makeFunc (.func 254) #[] #[.tmp 5, .tmp 6],none⟩,
 st 169 6 9]) (.seq (.ag [ld 10 169 6,
 fa 11 106 2 2,
 ld 12 31 11,
 ⟨(some 13), .call {callee:= .value (.tmp 10),args:=#[.tmp 12],argTypes:=#[31]},none⟩]) (.seq (.ag [ld 14 28 5,
 sg 4 14]) .ret))))))
theorem RM:aF Tryz.prog 223 15 VG [.tmp 4]:=
 ⟨_,Tryz.func223,af,af,af,_,rfl,af⟩
def VH:IC:=
 (.seq (.ag [bx 4 119 0,
 bx 5 31 1,
 bx 6 35 2]) (.seq (.eX [fa 8 31 5 0,
 ld 9 29 8,
 bk .eql 10 29 9 7 29,
 mv 11 10,
 gT (fa 12 35 6 4) 11,
 gT (ld 13 33 12) 11,
 gT (ln 14 13 33) 11,
 gT (bk .eql 15 3 14 1 3) 11,
 cf 16 11 15,
 mv 17 16,
 gT (fa 18 35 6 4) 17,
 gT (ld 19 33 18) 17,
 ⟨(some 20), .indexAddr 33 (.tmp 19) (.const (.int .i64 0)),(some (17,true))⟩,
 gT (fa 21 35 20 1) 17,
 gT (ld 22 31 21) 17,
 gT (fa 23 35 6 1) 17,
 gT (ld 24 31 23) 17,
 gT (k2 25 218 22 24 31 31) 17,
 cf 26 17 25,
 k1 27 128 26 4]
 [[],[0],[1],[2],[3],[4,3],[5,3],[6,3],[3,7],[8,3],[9],[10,9],[11,9],[12,9],[13,9],[9],[15,9],[14,16,9,9],[9,17],[18,17]]) (.eX [ld 28 119 4,
 fa 29 31 5 2,
 ld 30 28 29,
 mv 31 3,
 ia 32 28 30 31,
 ld 33 31 32,
 fa 34 35 6 4,
 ld 35 33 34,
 ⟨(some 36), .indexAddr 33 (.tmp 35) (.const (.int .i64 0)),none⟩,
 ld 37 35 36,
 k3 38 93 28 33 37 119 31 35]
 [[],[],[1],[],[2,3],[4],[],[6],[7],[8],[0,5,9]])))
theorem RN:aF Tryz.prog 224 39 VH []:=
 ⟨_,Tryz.func224,af,af,af,_,rfl,af⟩
def VI:IC:=
 (.seq (.ag [bx 1 133 0,
 al 2 31]) (.seq (.ag [⟨(some 3), .build 31 #[(0, .const (.int .i64 16))],none⟩,
 st 31 2 3]) .ret))
theorem RP:aF Tryz.prog 225 4 VI [.cell 2 31]:=
 ⟨_,Tryz.func225,af,af,af,_,rfl,af⟩
def VJ:IC:=
 (.seq (.ag [bx 4 119 0,
 bx 5 31 1,
 bx 6 35 2,
 al 8 31,
 al 9 31]) (.seq (.ag [mv 10 3,
 fa 11 31 5 0,
 ld 12 29 11,
 k2 13 255 10 12 225 29,
 k1 14 128 13 4]) (.seq (.ag [ld 15 119 4,
 fa 16 31 5 2,
 ld 17 28 16,
 fa 18 35 6 4,
 ld 19 33 18,
 k3 20 221 15 17 19 119 28 33]) (.seq (.eX [fa 21 35 6 4,
 ld 22 33 21,
 ⟨(some 23), .indexAddr 33 (.tmp 22) (.const (.int .i64 0)),none⟩,
 fa 24 35 23 1,
 ld 25 31 24,
 fa 26 35 6 4,
 ld 27 33 26,
 ⟨(some 28), .indexAddr 33 (.tmp 27) (.const (.int .i64 1)),none⟩,
 fa 29 35 28 1,
 ld 30 31 29,
 st 31 8 25,
 st 31 9 30]
 [[],[0],[1],[2],[3],[],[5],[6],[7],[8],[4,0,1,2,3,4],[9,10,0,1,2,3,4,5,6,7,8,9,10]]) .ret))))
theorem RQ:aF Tryz.prog 226 31 VJ [.cell 8 31, .cell 9 31]:=
 ⟨_,Tryz.func226,af,af,af,_,rfl,af⟩
def VK:IC:=
 (.seq (.ag [al 2 31]) (.seq (.seq (.ag [mv 3 0]) (.cond (.tmp 3) (.seq (.ag [⟨(some 4), .build 31 #[(0, .const (.int .i64 3)),(1, .const (.int .i64 1))],none⟩,
 st 31 2 4]) .ret) .skip)) (.seq (.ag [⟨(some 5), .build 31 #[(0, .const (.int .i64 3))],none⟩,
 st 31 2 5]) .ret)))
theorem RR:aF Tryz.prog 227 6 VK [.cell 2 31]:=
 ⟨_,Tryz.func227,af,af,af,_,rfl,af⟩
def VL:IC:=
 (.seq (.ag [bx 2 27 0,
 al 4 31]) (.seq (.ag [mv 7 1,
 ⟨(some 8), .build 31 #[(0, .const (.int .i64 4)),(1, .tmp 7)],none⟩,
 al 5 31,
 st 31 5 8]) (.seq (.seq (.ag [fa 9 27 2 0,
 fa 10 24 9 1,
 ld 11 22 10,
 mv 12 1,
 ia 13 22 11 12,
 fa 14 104 13 1,
 ld 15 3 14,
 vg 16 0]) (.block 0 (.loop (.seq (.ag [bo .lss 17 3 16 15 3]) (.seq (.cond (.tmp 17) .skip (.exit 0)) (.seq (.block 1 (.seq (.ag [mv 18 16,
 sg 6 18]) (.eX [fa 19 31 5 2,
 ld 20 28 19,
 mv 21 6,
 k1 22 256 21 134,
 ⟨(some 23), .buildSlice 28 1 #[(0, .tmp 22)],none⟩,
 ⟨(some 24), .call {callee:= .builtin .append,args:=#[.tmp 20, .tmp 23],argTypes:=#[28,28]},none⟩,
 fa 25 31 5 2,
 st 28 25 24]
 [[],[0],[],[2],[3],[1,4,3],[0,1,2,3,4,5],[6,5,5,0,1,2,3,4,5]]))) (.ag [bk .add 26 3 16 1 3,
 mv 16 26]))))))) (.seq (.ag [ld 27 31 5,
 st 31 4 27]) .ret))))
theorem RS:aF Tryz.prog 228 28 VL [.cell 4 31]:=
 ⟨_,Tryz.func228,af,af,af,_,rfl,af⟩
def VM:IC:=
 (.seq (.ag [dh 4 0]) (.seq (.seq (.ag [mv 6 0,
 ln 7 6 25,
 vg 8 0]) (.block 0 (.loop (.seq (.ag [bo .lss 9 3 8 7 3]) (.seq (.cond (.tmp 9) .skip (.exit 0)) (.seq (.block 1 (.seq (.ag [mv 10 8,
 sg 5 10]) (.seq (.ag [mv 11 1,
 mv 12 0,
 mv 13 5,
 ia 14 25 12 13,
 ld 15 106 14,
 ⟨(some 16), .call {callee:= .value (.tmp 11),args:=#[.tmp 15],argTypes:=#[106]},none⟩]) (.cond (.tmp 16) (.seq (.ag [mv 17 5,
 sg 4 17]) .ret) .skip)))) (.ag [bk .add 18 3 8 1 3,
 mv 8 18]))))))) (.seq (.ag [dh 4 (-1)]) .ret)))
theorem RT:aF Tryz.prog 229 19 VM [.tmp 4]:=
 ⟨_,Tryz.func229,af,af,af,_,rfl,af⟩
def VN:IC:=
 (.seq (.ag [bx 2 31 0,
 bJ 3 false]) (.seq (.ag [ld 4 46 1,
 ld 5 31 2,
 ⟨(some 6), .call {callee:= .value (.tmp 4),args:=#[.tmp 5],argTypes:=#[31]},none⟩,
 nt 7 4 6,
 sg 3 7]) .ret))
theorem RU:aF Tryz.prog 230 8 VN [.tmp 3]:=
 ⟨_,Tryz.func230,af,af,af,_,rfl,af⟩
def VO:IC:=
 (.seq (.ag [bx 1 31 0,
 ⟨(some 2), .assign (.const .nilFunc),none⟩]) (.seq (.ag [⟨(some 3), .makeFunc (.func 257) #[] #[.tmp 1],none⟩,
 sg 2 3]) .ret))
theorem RV:aF Tryz.prog 231 4 VO [.tmp 2]:=
 ⟨_,Tryz.func231,af,af,af,_,rfl,af⟩
def VP:IC:=
 (.seq (.ag [bJ 4 false]) (.seq (.ag [mv 5 0,
 mv 6 1,
 k2 7 259 5 6 41 3,
 bk .geq 8 3 7 0 3,
 sg 4 8]) .ret))
theorem RW:aF Tryz.prog 232 9 VP [.tmp 4]:=
 ⟨_,Tryz.func232,af,af,af,_,rfl,af⟩
def VQ:IC:=
 (.seq (.ag [⟨(some 2), .assign (.const (.slice none 0 0)),none⟩]) (.seq (.seq (.ag [mv 3 0,
 ⟨(some 4), .binOp .eql 41 (.tmp 3) (.const (.slice none 0 0)) 41,none⟩]) (.cond (.tmp 4) (.seq (.ag [⟨(some 2), .assign (.const (.slice none 0 0)),none⟩]) .ret) .skip)) (.seq (.ag [⟨(some 5), .buildSlice 41 0 #[],none⟩,
 mv 6 0,
 ⟨(some 7), .call {callee:= .builtin .append,args:=#[.tmp 5, .tmp 6],argTypes:=#[41,41]},none⟩,
 sg 2 7]) .ret)))
theorem RX:aF Tryz.prog 233 8 VQ [.tmp 2]:=
 ⟨_,Tryz.func233,af,af,af,_,rfl,af⟩
def VR:IC:=
 (.seq (.ag [bx 2 195 0,
 bx 3 31 1,
 bJ 4 false]) (.seq (.ag [fa 5 31 3 1,
 ld 6 3 5,
 ⟨(some 7), .call {callee:= .value (.func 155),args:=#[.tmp 6, .const (.int .i64 0), .const (.int .i64 19)],argTypes:=#[3,3,3]},none⟩,
 mv 8 7,
 gT (fa 9 31 3 2) 8,
 gT (ld 10 28 9) 8,
 gT (ln 11 10 28) 8,
 gT (bk .eql 12 3 11 0 3) 8,
 cf 13 8 12,
 sg 4 13]) .ret))
theorem RY:aF Tryz.prog 238 14 VR [.tmp 4]:=
 ⟨_,Tryz.func238,af,af,af,_,rfl,af⟩
def VS:IC:=
 (.seq (.ag [bx 2 195 0,
 bx 3 31 1,
 bJ 4 false]) (.seq (.ag [fa 5 31 3 1,
 ld 6 3 5,
 ⟨(some 7), .call {callee:= .value (.func 155),args:=#[.tmp 6, .const (.int .i64 (-1000000)), .const (.int .i64 1000000)],argTypes:=#[3,3,3]},none⟩,
 mv 8 7,
 gT (fa 9 31 3 2) 8,
 gT (ld 10 28 9) 8,
 gT (ln 11 10 28) 8,
 gT (bk .eql 12 3 11 0 3) 8,
 cf 13 8 12,
 sg 4 13]) .ret))
theorem RZ:aF Tryz.prog 239 14 VS [.tmp 4]:=
 ⟨_,Tryz.func239,af,af,af,_,rfl,af⟩
def VT:IC:=
 (.seq (.ag [bx 2 195 0,
 bx 3 31 1,
 bJ 4 false]) (.seq (.eX [fa 5 31 3 1,
 ld 6 3 5,
 fa 7 195 2 0,
 fa 8 24 7 0,
 ld 9 22 8,
 ln 10 9 22,
 bk .sub 11 3 10 1 3,
 ⟨(some 12), .call {callee:= .value (.func 155),args:=#[.tmp 6, .const (.int .i64 0), .tmp 11],argTypes:=#[3,3,3]},none⟩,
 mv 13 12,
 gT (fa 14 31 3 2) 13,
 gT (ld 15 28 14) 13,
 gT (ln 16 15 28) 13,
 gT (fa 17 195 2 0) 13,
 gT (fa 18 24 17 0) 13,
 gT (ld 19 22 18) 13,
 gT (fa 20 31 3 1) 13,
 gT (ld 21 3 20) 13,
 gT (ia 22 22 19 21) 13,
 gT (fa 23 104 22 1) 13,
 gT (ld 24 3 23) 13,
 gT (bo .eql 25 3 16 24 3) 13,
 cf 26 13 25,
 sg 4 26]
 [[],[0],[],[2],[3],[4],[5],[1,6],[7,7],[8],[9,8],[10,8],[8],[12,8],[13,8],[8],[15,8],[14,16,8],[17,8],[18,8],[11,19,8],[8,20],[21,8,0,1,2,3,4,5,6,7,8,9,10,11,12,13,14,15,16,17,18,19,20,21]]) .ret))
theorem R0:aF Tryz.prog 240 27 VT [.tmp 4]:=
 ⟨_,Tryz.func240,af,af,af,_,rfl,af⟩
def VU:IC:=
 (.seq (.ag [bx 2 195 0,
 bx 3 31 1,
 bJ 4 false]) (.seq (.eX [fa 5 31 3 1,
 ld 6 3 5,
 fa 7 195 2 0,
 fa 8 24 7 1,
 ld 9 22 8,
 ln 10 9 22,
 bk .sub 11 3 10 1 3,
 ⟨(some 12), .call {callee:= .value (.func 155),args:=#[.tmp 6, .const (.int .i64 0), .tmp 11],argTypes:=#[3,3,3]},none⟩,
 mv 13 12,
 gT (fa 14 31 3 2) 13,
 gT (ld 15 28 14) 13,
 gT (ln 16 15 28) 13,
 gT (fa 17 195 2 0) 13,
 gT (fa 18 24 17 1) 13,
 gT (ld 19 22 18) 13,
 gT (fa 20 31 3 1) 13,
 gT (ld 21 3 20) 13,
 gT (ia 22 22 19 21) 13,
 gT (fa 23 104 22 1) 13,
 gT (ld 24 3 23) 13,
 gT (bo .eql 25 3 16 24 3) 13,
 cf 26 13 25,
 sg 4 26]
 [[],[0],[],[2],[3],[4],[5],[1,6],[7,7],[8],[9,8],[10,8],[8],[12,8],[13,8],[8],[15,8],[14,16,8],[17,8],[18,8],[11,19,8],[8,20],[21,8,0,1,2,3,4,5,6,7,8,9,10,11,12,13,14,15,16,17,18,19,20,21]]) .ret))
theorem R1:aF Tryz.prog 241 27 VU [.tmp 4]:=
 ⟨_,Tryz.func241,af,af,af,_,rfl,af⟩
def VV:IC:=
 (.seq (.ag [bx 2 195 0,
 bx 3 31 1,
 bJ 4 false]) (.seq (.eX [fa 5 31 3 1,
 ld 6 3 5,
 fa 7 195 2 0,
 fa 8 24 7 1,
 ld 9 22 8,
 ln 10 9 22,
 bk .sub 11 3 10 1 3,
 ⟨(some 12), .call {callee:= .value (.func 155),args:=#[.tmp 6, .const (.int .i64 0), .tmp 11],argTypes:=#[3,3,3]},none⟩,
 mv 13 12,
 gT (fa 14 31 3 2) 13,
 gT (ld 15 28 14) 13,
 gT (ln 16 15 28) 13,
 gT (fa 17 195 2 0) 13,
 gT (fa 18 24 17 1) 13,
 gT (ld 19 22 18) 13,
 gT (fa 20 31 3 1) 13,
 gT (ld 21 3 20) 13,
 gT (ia 22 22 19 21) 13,
 gT (fa 23 104 22 1) 13,
 gT (ld 24 3 23) 13,
 gT (bo .lss 25 3 16 24 3) 13,
 cf 26 13 25,
 sg 4 26]
 [[],[0],[],[2],[3],[4],[5],[1,6],[7,7],[8],[9,8],[10,8],[8],[12,8],[13,8],[8],[15,8],[14,16,8],[17,8],[18,8],[11,19,8],[8,20],[21,8,0,1,2,3,4,5,6,7,8,9,10,11,12,13,14,15,16,17,18,19,20,21]]) .ret))
theorem R2:aF Tryz.prog 242 27 VV [.tmp 4]:=
 ⟨_,Tryz.func242,af,af,af,_,rfl,af⟩
def VW:IC:=
 (.seq (.ag [bx 2 195 0,
 bx 3 31 1,
 bJ 4 false]) (.seq (.ag [fa 5 31 3 1,
 ld 6 3 5,
 ⟨(some 7), .call {callee:= .value (.func 155),args:=#[.tmp 6, .const (.int .i64 0), .const (.int .i64 19)],argTypes:=#[3,3,3]},none⟩,
 mv 8 7,
 gT (fa 9 31 3 2) 8,
 gT (ld 10 28 9) 8,
 gT (ln 11 10 28) 8,
 gT (bk .eql 12 3 11 2 3) 8,
 cf 13 8 12,
 sg 4 13]) .ret))
theorem R3:aF Tryz.prog 243 14 VW [.tmp 4]:=
 ⟨_,Tryz.func243,af,af,af,_,rfl,af⟩
def VX:IC:=
 (.seq (.ag [bx 2 195 0,
 bx 3 31 1,
 bJ 4 false]) (.seq (.ag [fa 5 31 3 1,
 ld 6 3 5,
 bk .eql 7 3 6 0 3,
 mv 8 7,
 gT (fa 9 31 3 2) 8,
 gT (ld 10 28 9) 8,
 gT (ln 11 10 28) 8,
 gT (bk .eql 12 3 11 2 3) 8,
 cf 13 8 12,
 sg 4 13]) .ret))
theorem R4:aF Tryz.prog 244 14 VX [.tmp 4]:=
 ⟨_,Tryz.func244,af,af,af,_,rfl,af⟩
def VY:IC:=
 (.seq (.ag [bx 2 154 0]) (.seq (.ag [al 3 154]) (.seq (.ag [⟨(some 4), .makeFunc (.func 246) #[] #[.tmp 2, .tmp 3],none⟩,
 st 154 3 4]) (.ag [ld 5 154 3,
 ld 6 31 1,
 ⟨(some 7), .call {callee:= .value (.tmp 5),args:=#[.tmp 6, .const (.int .i64 1)],argTypes:=#[31,3]},none⟩]))))
theorem R5:aF Tryz.prog 245 8 VY []:=
 ⟨_,Tryz.func245,af,af,af,_,rfl,af⟩
def VZ:IC:=
 (.seq (.ag [bx 4 31 0,
 bx 5 3 1,
 bJ 6 false]) (.seq (.ag [ld 7 154 2,
 ld 8 31 4,
 ld 9 3 5,
 ⟨(some 10), .call {callee:= .value (.tmp 7),args:=#[.tmp 8, .tmp 9],argTypes:=#[31,3]},none⟩,
 mv 11 10,
 gT (fa 12 31 4 2) 11,
 gT (ld 13 28 12) 11,
 ⟨(some 14), .makeFunc (.func 247) #[] #[.tmp 3, .tmp 5],(some (11,true))⟩,
 gT (k2 15 161 13 14 28 46) 11,
 cf 16 11 15,
 sg 6 16]) .ret))
theorem R6:aF Tryz.prog 246 17 VZ [.tmp 6]:=
 ⟨_,Tryz.func246,af,af,af,_,rfl,af⟩
def V0:IC:=
 (.seq (.ag [bx 3 31 0,
 bJ 4 false]) (.seq (.ag [ld 5 154 1,
 ld 6 31 3,
 ld 7 3 2,
 bk .add 8 3 7 1 3,
 ⟨(some 9), .call {callee:= .value (.tmp 5),args:=#[.tmp 6, .tmp 8],argTypes:=#[31,3]},none⟩,
 sg 4 9]) .ret))
theorem R7:aF Tryz.prog 247 10 V0 [.tmp 4]:=
 ⟨_,Tryz.func247,af,af,af,_,rfl,af⟩
def aaO:IC:=
 (.seq (.ag [bJ 2 false]) (.seq (.ag [mv 3 0,
 mv 4 0,
 bo .neq 5 3 3 4 3,
 sg 2 5]) .ret))
theorem aaP:aF Tryz.prog 253 6 aaO [.tmp 2]:=
 ⟨_,Tryz.func253,af,af,af,_,rfl,af⟩
def KZ:IC:=
 (.seq (.ag [bx 3 31 0]) (.seq (.seq (.ag [fa 6 31 3 0,
 ld 7 29 6,
 bk .eql 8 29 7 8 29]) (.cond (.tmp 8) (.eX [ld 9 28 1,
 fa 10 31 3 1,
 ld 11 3 10,
 ⟨(some 12), .build 133 #[],none⟩,
 k1 13 225 12 133,
 ia 14 28 9 11,
 st 31 14 13]
 [[],[],[1],[],[3],[0,2,0,1,2,3,4],[5,4,4,0,1,2,3,4]]) .skip)) (.seq (.ag [fa 15 31 3 2,
 ld 16 28 15,
 ln 17 16 28,
 vg 18 0]) (.block 0 (.loop (.seq (.ag [bo .lss 19 3 18 17 3]) (.seq (.cond (.tmp 19) .skip (.exit 0)) (.seq (.block 1 (.seq (.ag [ia 20 28 16 18,
 ld 21 31 20,
 al 5 31,
 st 31 5 21]) (.ag [ld 22 169 2,
 ld 23 31 5,
 ⟨(some 24), .call {callee:= .value (.tmp 22),args:=#[.tmp 23],argTypes:=#[31]},none⟩]))) (.ag [bk .add 25 3 18 1 3,
 mv 18 25])))))))))
theorem R8:aF Tryz.prog 254 26 KZ []:=
 ⟨_,Tryz.func254,af,af,af,_,rfl,af⟩
def V1:IC:=
 (.seq (.ag [bJ 4 false]) (.seq (.ag [mv 5 0,
 mv 6 1,
 k2 7 261 5 6 225 29,
 bk .geq 8 3 7 0 3,
 sg 4 8]) .ret))
theorem R9:aF Tryz.prog 255 9 V1 [.tmp 4]:=
 ⟨_,Tryz.func255,af,af,af,_,rfl,af⟩
def V2:IC:=
 (.seq (.ag [al 2 31]) (.seq (.ag [mv 3 0,
 ⟨(some 4), .build 31 #[(0, .const (.int .i64 1)),(1, .tmp 3)],none⟩,
 st 31 2 4]) .ret))
theorem Sa:aF Tryz.prog 256 5 V2 [.cell 2 31]:=
 ⟨_,Tryz.func256,af,af,af,_,rfl,af⟩
def V3:IC:=
 (.seq (.ag [bx 2 46 0]) (.seq (.ag [al 3 46]) (.seq (.ag [⟨(some 4), .makeFunc (.func 258) #[] #[.tmp 2, .tmp 3],none⟩,
 st 46 3 4]) (.ag [ld 5 46 3,
 ld 6 31 1,
 ⟨(some 7), .call {callee:= .value (.tmp 5),args:=#[.tmp 6],argTypes:=#[31]},none⟩]))))
theorem Sb:aF Tryz.prog 257 8 V3 []:=
 ⟨_,Tryz.func257,af,af,af,_,rfl,af⟩
def V4:IC:=
 (.seq (.ag [bx 3 31 0,
 bJ 4 false]) (.seq (.ag [ld 5 46 1,
 ld 6 31 3,
 ⟨(some 7), .call {callee:= .value (.tmp 5),args:=#[.tmp 6],argTypes:=#[31]},none⟩,
 mv 8 7,
 gT (fa 9 31 3 2) 8,
 gT (ld 10 28 9) 8,
 gT (ld 11 46 2) 8,
 gT (k2 12 187 10 11 28 46) 8,
 cf 13 8 12,
 sg 4 13]) .ret))
theorem Sc:aF Tryz.prog 258 14 V4 [.tmp 4]:=
 ⟨_,Tryz.func258,af,af,af,_,rfl,af⟩
def V5:IC:=
 (.seq (.ag [dh 4 0]) (.seq (.seq (.ag [mv 6 0,
 ln 7 6 41,
 vg 8 0]) (.block 0 (.loop (.seq (.ag [bo .lss 9 3 8 7 3]) (.seq (.cond (.tmp 9) .skip (.exit 0)) (.seq (.block 1 (.seq (.ag [mv 10 8,
 sg 5 10]) (.seq (.ag [mv 11 1,
 mv 12 0,
 mv 13 5,
 ia 14 41 12 13,
 ld 15 3 14,
 bo .eql 16 3 11 15 3]) (.cond (.tmp 16) (.seq (.ag [mv 17 5,
 sg 4 17]) .ret) .skip)))) (.ag [bk .add 18 3 8 1 3,
 mv 8 18]))))))) (.seq (.ag [dh 4 (-1)]) .ret)))
theorem Sd:aF Tryz.prog 259 19 V5 [.tmp 4]:=
 ⟨_,Tryz.func259,af,af,af,_,rfl,af⟩
def V6:IC:=
 (.seq (.ag [dh 4 0]) (.seq (.seq (.ag [mv 6 0,
 ln 7 6 225,
 vg 8 0]) (.block 0 (.loop (.seq (.ag [bo .lss 9 3 8 7 3]) (.seq (.cond (.tmp 9) .skip (.exit 0)) (.seq (.block 1 (.seq (.ag [mv 10 8,
 sg 5 10]) (.seq (.ag [mv 11 1,
 mv 12 0,
 mv 13 5,
 ia 14 225 12 13,
 ld 15 29 14,
 bo .eql 16 29 11 15 29]) (.cond (.tmp 16) (.seq (.ag [mv 17 5,
 sg 4 17]) .ret) .skip)))) (.ag [bk .add 18 3 8 1 3,
 mv 8 18]))))))) (.seq (.ag [dh 4 (-1)]) .ret)))
theorem Se:aF Tryz.prog 261 19 V6 [.tmp 4]:=
 ⟨_,Tryz.func261,af,af,af,_,rfl,af⟩
theorem mix:Tryz.prog.follows .mixedOrders=true:=af
def zn:Tr FD:= .e fun _=> .no
theorem zt{f:Nat->Nat}:Tr.FR (fun(g:Nat) (d:FD)=>d.Ok Tryz.prog g) zn f:=fun _=>trivial
def aaQ:Tr FD:=
 (.n .no (.n .no (.n .no (.n .no (.n (.fn 26 c15 [.tmp 4]) (.n .no (.n (.fn 37 c63 [.tmp 6]) (.n (.fn 8 UO [.tmp 3]) (.n (.fn 9 V1 [.tmp 4]) zn zn) zn) (.n (.fn 52 Vw [.tmp 6]) zn zn)) (.n (.fn 19 c95 [.tmp 2]) (.n (.fn 92 U2 [.tmp 4]) zn zn) (.n (.fn 15 VG [.tmp 4]) zn zn))) (.n (.fn 7 c47 [.cell 0 31]) (.n (.fn 8 c79 [.cell 4 31]) zn (.n (.fn 49 aaI []) zn zn)) (.n (.fn 9 UH [.tmp 4]) (.n (.fn 10 Vg []) zn zn) (.n (.fn 14 VS [.tmp 4]) zn zn)))) (.n .no (.n .no zn (.n .no (.n (.fn 19 U8 [.tmp 4]) zn zn) (.n (.fn 4 VO [.tmp 2]) zn zn))) (.n (.fn 52 c55 [.cell 4 4]) (.n (.fn 3 c87 [.cell 0 35]) zn zn) (.n .no (.n (.fn 9 Vo [.tmp 4]) zn zn) (.n (.fn 10 V0 [.tmp 4]) zn zn))))) (.n (.fn 35 c11 [.tmp 4, .tmp 5, .tmp 6]) (.n .no (.n .no (.n (.fn 15 c67 [.tmp 6]) (.n (.fn 8 UR [.tmp 3]) (.n (.fn 19 V5 [.tmp 4]) zn zn) zn) zn) (.n (.fn 10 c99 [.tmp 4]) (.n (.fn 39 U6 [.cell 4 4]) zn zn) (.n (.fn 6 VK [.cell 2 31]) zn zn))) (.n (.fn 41 c51 [.tmp 8]) (.n (.fn 8 c83 [.cell 4 31]) zn zn) (.n .no (.n (.fn 31 Vk []) zn zn) (.n (.fn 14 VW [.tmp 4]) zn zn)))) (.n .no (.n (.fn 8 c43 [.cell 4 31]) zn (.n .no (.n (.fn 14 Vc []) zn zn) zn)) (.n .no (.n (.fn 8 c91 [.tmp 3]) (.n (.fn 15 UY [.tmp 6]) zn zn) (.n (.fn 58 VC []) zn zn)) (.n (.fn 13 UL [.tmp 4]) (.n (.fn 9 Vs [.tmp 4]) zn zn) zn))))) (.n .no (.n (.fn 161 c9 [.tmp 0]) (.n .no (.n .no (.n (.fn 39 c65 [.tmp 4]) (.n (.fn 2 UP [.cell 0 147]) (.n (.fn 8 V3 []) zn zn) zn) zn) (.n (.fn 17 c97 [.tmp 6]) (.n (.fn 18 U4 [.tmp 4]) zn zn) (.n (.fn 4 VI [.cell 2 31]) zn zn))) (.n (.fn 5 c49 [.cell 0 31]) (.n (.fn 5 c81 [.cell 2 31]) zn zn) (.n (.fn 16 UI [.tmp 2]) (.n (.fn 26 Vi []) zn zn) (.n (.fn 27 VU [.tmp 4]) zn zn)))) (.n (.fn 17 c25 [.tmp 6, .tmp 7]) (.n (.fn 18 c41 [.tmp 4, .tmp 5, .tmp 6]) zn (.n .no (.n (.fn 27 Va []) zn zn) (.n (.fn 8 VQ [.tmp 2]) zn zn))) (.n .no (.n (.fn 27 c89 [.tmp 4, .tmp 5]) (.n (.fn 24 UW [.tmp 3]) zn zn) (.n (.fn 25 aaM [.tmp 2]) zn zn)) (.n .no (.n (.fn 17 Vq [.tmp 3]) zn zn) zn)))) (.n .no (.n (.fn 46 c21 [.tmp 4]) (.n .no (.n (.fn 33 c69 [.tmp 2]) (.n (.fn 9 UT [.tmp 4]) (.n (.fn 19 V6 [.tmp 4]) zn zn) zn) zn) (.n .no (.n (.fn 134 aat []) zn zn) (.n (.fn 19 VM [.tmp 4]) zn zn))) (.n (.fn 24 c53 [.tmp 2]) (.n (.fn 11 c85 [.cell 6 35]) zn (.n (.fn 17 aaK [.tmp 4]) zn zn)) (.n .no (.n (.fn 58 Vm []) zn zn) (.n (.fn 8 VY []) zn zn)))) (.n .no (.n (.fn 2 c45 [.cell 0 31]) (.n (.fn 8 c77 [.cell 4 31]) zn (.n (.fn 19 Vz [.cell 0 189]) zn zn)) (.n .no (.n (.fn 116 Ve []) zn zn) zn)) (.n .no (.n (.fn 18 c93 []) (.n (.fn 9 U0 [.tmp 4]) zn zn) (.n (.fn 29 VE []) zn zn)) (.n (.fn 11 aab []) (.n (.fn 27 Vu [.tmp 2]) zn zn) (.n (.fn 6 aaO [.tmp 2]) zn zn))))))) (.n .no (.n .no (.n .no (.n .no (.n .no (.n (.fn 13 c64 [.tmp 4]) (.n (.fn 6 Ot []) (.n (.fn 5 V2 [.cell 2 31]) zn zn) zn) (.n (.fn 19 Vx [.tmp 4]) zn zn)) (.n (.fn 8 c96 []) (.n (.fn 12 U3 [.tmp 5]) zn zn) (.n (.fn 39 VH []) zn zn))) (.n (.fn 30 c48 [.cell 0 35]) (.n (.fn 11 c80 [.cell 6 31]) zn zn) (.n (.fn 7 Z3 [.tmp 3]) (.n (.fn 71 Vh []) zn zn) (.n (.fn 27 VT [.tmp 4]) zn zn)))) (.n .no (.n .no zn (.n .no (.n (.fn 17 U9 []) zn zn) (.n (.fn 9 VP [.tmp 4]) zn zn))) (.n (.fn 4 c56 [.tmp 2]) (.n (.fn 13 c88 [.tmp 4]) zn zn) (.n .no (.n (.fn 8 Vp [.tmp 3]) zn zn) zn)))) (.n .no (.n (.fn 6 c20 [.tmp 2]) (.n .no (.n (.fn 9 c68 [.tmp 4]) (.n (.fn 121 US [.tmp 4]) zn zn) zn) (.n .no (.n (.fn 45 U7 []) zn zn) (.n (.fn 28 VL [.cell 4 31]) zn zn))) (.n (.dfr 16 UF c52 92 9 [.tmp 8] [.cell 8 4] 10 4 4 c92) (.n (.fn 14 c84 [.cell 8 35]) zn zn) (.n (.fn 33 UJ [.tmp 8]) (.n (.fn 34 Vl []) zn zn) (.n (.fn 14 VX [.tmp 4]) zn zn)))) (.n .no (.n (.fn 5 c44 [.cell 2 31]) (.n .no zn (.n (.fn 19 Vy [.tmp 4]) zn zn)) (.n .no (.n (.fn 14 Vd []) zn zn) zn)) (.n .no (.n .no (.n (.fn 18 UZ [.tmp 4]) zn zn) (.n (.fn 38 VD [.cell 4 31]) zn zn)) (.n (.fn 9 UM [.tmp 2]) (.n (.fn 10 Vt [.tmp 4]) zn zn) zn))))) (.n .no (.n (.fn 30 c10 [.cell 8 31, .tmp 9]) (.n .no (.n .no (.n .no (.n (.fn 9 UQ [.tmp 4]) (.n (.fn 14 V4 [.tmp 4]) zn zn) zn) zn) (.n (.fn 9 c98 [.tmp 4]) (.n (.fn 7 U5 [.tmp 3]) zn zn) (.n (.fn 31 VJ [.cell 8 31, .cell 9 31]) zn zn))) (.n (.fn 31 c50 [.cell 2 35]) (.n (.fn 87 c82 [.cell 4 31, .tmp 5]) zn zn) (.n (.fn 32 Oq [.tmp 6]) (.n (.fn 31 Vj []) zn zn) (.n (.fn 27 VV [.tmp 4]) zn zn)))) (.n .no (.n (.fn 76 c42 [.cell 0 27]) zn (.n .no (.n (.fn 22 Vb []) zn zn) zn)) (.n .no (.n (.fn 9 c90 [.tmp 4]) (.n (.fn 28 UX [.tmp 2]) zn zn) (.n (.fn 24 VB [.tmp 4]) zn zn)) (.n (.fn 7 UK [.tmp 3]) (.n (.fn 43 Vr [.cell 4 4, .cell 5 38]) zn zn) zn)))) (.n .no (.n .no (.n .no (.n .no (.n (.fn 8 UU [.tmp 3]) zn zn) zn) (.n .no (.n (.fn 8 aav [.tmp 2]) zn zn) (.n (.fn 8 VN [.tmp 3]) zn zn))) (.n (.fn 6 c54 [.tmp 2]) (.n (.fn 7 c86 [.cell 0 35]) zn zn) (.n .no (.n (.fn 98 Vn []) zn zn) (.n (.fn 17 VZ [.tmp 6]) zn zn)))) (.n .no (.n (.fn 32 c46 [.cell 6 31, .tmp 7]) (.n (.fn 5 c78 [.cell 2 31]) zn (.n (.fn 4 VA [.tmp 2]) zn zn)) (.n (.fn 46 UG [.tmp 2]) (.n (.fn 10 Vf []) zn zn) (.n (.fn 14 VR [.tmp 4]) zn zn))) (.n .no (.n (.fn 8 XK [.tmp 2]) (.n (.fn 8 U1 [.tmp 3]) zn zn) (.n (.fn 9 VF [.cell 4 119]) zn zn)) (.n (.fn 9 UN [.tmp 4]) (.n (.fn 18 Vv [.tmp 2]) zn zn) (.n (.fn 26 KZ []) zn zn))))))))
noncomputable def cm:Nat->FD:=aaQ.get
theorem pw:∀g,(cm g).Ok Tryz.prog g:=
 Tr.Ac (p:=fun g d=>d.Ok Tryz.prog g) (f:=fun g=>g) aaQ
   ⟨trivial,⟨trivial,⟨trivial,⟨trivial,⟨aco,⟨trivial,⟨ZG,⟨QT,⟨R9,zt,zt⟩,zt⟩,⟨RC,zt,zt⟩⟩,⟨ZQ,⟨Q6,zt,zt⟩,⟨RM,zt,zt⟩⟩⟩,⟨acH,⟨acX,zt,⟨aaJ,zt,zt⟩⟩,⟨QM,⟨Rm,zt,zt⟩,⟨RZ,zt,zt⟩⟩⟩⟩,⟨trivial,⟨trivial,zt,⟨trivial,⟨Rc,zt,zt⟩,⟨RV,zt,zt⟩⟩⟩,⟨ZE,⟨ac5,zt,zt⟩,⟨trivial,⟨Ru,zt,zt⟩,⟨R7,zt,zt⟩⟩⟩⟩⟩,⟨ack,⟨trivial,⟨trivial,⟨ZI,⟨QW,⟨Sd,zt,zt⟩,zt⟩,zt⟩,⟨ZU,⟨Ra,zt,zt⟩,⟨RR,zt,zt⟩⟩⟩,⟨ZB,⟨ac1,zt,zt⟩,⟨trivial,⟨Rq,zt,zt⟩,⟨R3,zt,zt⟩⟩⟩⟩,⟨trivial,⟨acD,zt,⟨trivial,⟨Rh,zt,zt⟩,zt⟩⟩,⟨trivial,⟨ZO,⟨Q2,zt,zt⟩,⟨RI,zt,zt⟩⟩,⟨QQ,⟨Ry,zt,zt⟩,zt⟩⟩⟩⟩⟩,⟨trivial,⟨fn9,⟨trivial,⟨trivial,⟨ZH,⟨QU,⟨Sb,zt,zt⟩,zt⟩,zt⟩,⟨ZS,⟨Q8,zt,zt⟩,⟨RP,zt,zt⟩⟩⟩,⟨acJ,⟨acZ,zt,zt⟩,⟨QN,⟨Ro,zt,zt⟩,⟨R1,zt,zt⟩⟩⟩⟩,⟨acv,⟨acB,zt,⟨trivial,⟨Rf,zt,zt⟩,⟨RX,zt,zt⟩⟩⟩,⟨trivial,⟨ZM,⟨Q0,zt,zt⟩,⟨aaN,zt,zt⟩⟩,⟨trivial,⟨Rw,zt,zt⟩,zt⟩⟩⟩⟩,⟨trivial,⟨ZA,⟨trivial,⟨ZK,⟨QY,⟨Se,zt,zt⟩,zt⟩,zt⟩,⟨trivial,⟨aau,zt,zt⟩,⟨RT,zt,zt⟩⟩⟩,⟨ZC,⟨ac3,zt,⟨aaL,zt,zt⟩⟩,⟨trivial,⟨Rs,zt,zt⟩,⟨R5,zt,zt⟩⟩⟩⟩,⟨trivial,⟨acF,⟨acV,zt,⟨RF,zt,zt⟩⟩,⟨trivial,⟨Rj,zt,zt⟩,zt⟩⟩,⟨trivial,⟨ZP,⟨Q4,zt,zt⟩,⟨RK,zt,zt⟩⟩,⟨aac,⟨RA,zt,zt⟩,⟨aaP,zt,zt⟩⟩⟩⟩⟩⟩⟩,⟨trivial,⟨trivial,⟨trivial,⟨trivial,⟨trivial,⟨acQ,⟨KY,⟨Sa,zt,zt⟩,zt⟩,⟨RD,zt,zt⟩⟩,⟨ZR,⟨Q7,zt,zt⟩,⟨RN,zt,zt⟩⟩⟩,⟨acI,⟨acY,zt,zt⟩,⟨Z4,⟨Rn,zt,zt⟩,⟨R0,zt,zt⟩⟩⟩⟩,⟨trivial,⟨trivial,zt,⟨trivial,⟨Re,zt,zt⟩,⟨RW,zt,zt⟩⟩⟩,⟨ZF,⟨ZL,zt,zt⟩,⟨trivial,⟨Rv,zt,zt⟩,zt⟩⟩⟩⟩,⟨trivial,⟨Zz,⟨trivial,⟨ZJ,⟨QX,zt,zt⟩,zt⟩,⟨trivial,⟨Rb,zt,zt⟩,⟨RS,zt,zt⟩⟩⟩,⟨⟨QK,QJ⟩,⟨ac2,zt,zt⟩,⟨QO,⟨Rr,zt,zt⟩,⟨R4,zt,zt⟩⟩⟩⟩,⟨trivial,⟨acE,⟨trivial,zt,⟨RE,zt,zt⟩⟩,⟨trivial,⟨Ri,zt,zt⟩,zt⟩⟩,⟨trivial,⟨trivial,⟨Q3,zt,zt⟩,⟨RJ,zt,zt⟩⟩,⟨QR,⟨Rz,zt,zt⟩,zt⟩⟩⟩⟩⟩,⟨trivial,⟨Zy,⟨trivial,⟨trivial,⟨trivial,⟨QV,⟨Sc,zt,zt⟩,zt⟩,zt⟩,⟨ZT,⟨Q9,zt,zt⟩,⟨RQ,zt,zt⟩⟩⟩,⟨acK,⟨ac0,zt,zt⟩,⟨KW,⟨Rp,zt,zt⟩,⟨R2,zt,zt⟩⟩⟩⟩,⟨trivial,⟨acC,zt,⟨trivial,⟨Rg,zt,zt⟩,zt⟩⟩,⟨trivial,⟨ZN,⟨Q1,zt,zt⟩,⟨RH,zt,zt⟩⟩,⟨QP,⟨Rx,zt,zt⟩,zt⟩⟩⟩⟩,⟨trivial,⟨trivial,⟨trivial,⟨trivial,⟨QZ,zt,zt⟩,zt⟩,⟨trivial,⟨aaw,zt,zt⟩,⟨RU,zt,zt⟩⟩⟩,⟨ZD,⟨ac4,zt,zt⟩,⟨trivial,⟨Rt,zt,zt⟩,⟨R6,zt,zt⟩⟩⟩⟩,⟨trivial,⟨acG,⟨acW,zt,⟨RG,zt,zt⟩⟩,⟨QL,⟨Rk,zt,zt⟩,⟨RY,zt,zt⟩⟩⟩,⟨trivial,⟨KU,⟨Q5,zt,zt⟩,⟨RL,zt,zt⟩⟩,⟨QS,⟨RB,zt,zt⟩,⟨R8,zt,zt⟩⟩⟩⟩⟩⟩⟩⟩
@[go_sem] theorem cellsOf_3:Tryz.prog.cellsOf 3=1:=af
@[go_sem] theorem bytesOf_3:Tryz.prog.bytesOf 3=8:=af
@[go_sem] theorem aggT_3:dA Tryz.prog 3=some false:=af
@[go_sem] theorem intT_3:uj Tryz.prog 3=some .i64:=af
@[go_sem] theorem infoT_3:(Tryz.prog.info? 3).isSome=true:=af
@[go_sem] theorem undT_3:Tryz.prog.underlying 3=some (.int .i64):=af
@[go_sem] theorem eqShape_3:cn Tryz.prog 3=some .int:=af
@[go_sem] theorem zeroT_3:cN Tryz.prog 3=some [.d (.int .i64 0)]:=af
@[go_sem] theorem zeroV_3:zeroV Tryz.prog 3=some (.d (.int .i64 0)):=af
@[go_sem] theorem cellsOf_4:Tryz.prog.cellsOf 4=1:=af
@[go_sem] theorem aggT_4:dA Tryz.prog 4=some false:=af
@[go_sem] theorem infoT_4:(Tryz.prog.info? 4).isSome=true:=af
@[go_sem] theorem zeroT_4:cN Tryz.prog 4=some [.d (.bool false)]:=af
@[go_sem] theorem zeroV_4:zeroV Tryz.prog 4=some (.d (.bool false)):=af
@[go_sem] theorem cellsOf_9:Tryz.prog.cellsOf 9=1:=af
@[go_sem] theorem bytesOf_9:Tryz.prog.bytesOf 9=16:=af
@[go_sem] theorem aggT_9:dA Tryz.prog 9=some false:=af
@[go_sem] theorem undT_9:Tryz.prog.underlying 9=some .string:=af
@[go_sem] theorem eqShape_9:cn Tryz.prog 9=some .str:=af
@[go_sem] theorem zeroT_9:cN Tryz.prog 9=some [.d (.str [])]:=af
@[go_sem] theorem sliceT_22:cK Tryz.prog 22=some 104:=af
@[go_sem] theorem aggT_22:dA Tryz.prog 22=some false:=af
@[go_sem] theorem undT_22:Tryz.prog.underlying 22=some (.slice 104):=af
@[go_sem] theorem cellsOf_24:Tryz.prog.cellsOf 24=2:=af
@[go_sem] theorem aggT_24:dA Tryz.prog 24=some true:=af
@[go_sem] theorem sliceT_25:cK Tryz.prog 25=some 106:=af
@[go_sem] theorem aggT_25:dA Tryz.prog 25=some false:=af
@[go_sem] theorem undT_25:Tryz.prog.underlying 25=some (.slice 106):=af
@[go_sem] theorem cellsOf_27:Tryz.prog.cellsOf 27=3:=af
@[go_sem] theorem aggT_27:dA Tryz.prog 27=some true:=af
@[go_sem] theorem cellsOf_28:Tryz.prog.cellsOf 28=1:=af
@[go_sem] theorem sliceT_28:cK Tryz.prog 28=some 31:=af
@[go_sem] theorem aggT_28:dA Tryz.prog 28=some false:=af
@[go_sem] theorem intT_28:uj Tryz.prog 28=none:=af
@[go_sem] theorem infoT_28:(Tryz.prog.info? 28).isSome=true:=af
@[go_sem] theorem undT_28:Tryz.prog.underlying 28=some (.slice 31):=af
@[go_sem] theorem zeroT_28:cN Tryz.prog 28=some [.bO]:=af
@[go_sem] theorem cellsOf_29:Tryz.prog.cellsOf 29=1:=af
@[go_sem] theorem aggT_29:dA Tryz.prog 29=some false:=af
@[go_sem] theorem undT_29:Tryz.prog.underlying 29=some (.int .i64):=af
@[go_sem] theorem zeroT_29:cN Tryz.prog 29=some [.d (.int .i64 0)]:=af
@[go_sem] theorem cellsOf_31:Tryz.prog.cellsOf 31=3:=af
@[go_sem] theorem bytesOf_31:Tryz.prog.bytesOf 31=40:=af
@[go_sem] theorem aggT_31:dA Tryz.prog 31=some true:=af
@[go_sem] theorem infoT_31:(Tryz.prog.info? 31).isSome=true:=af
@[go_sem] theorem zeroT_31:cN Tryz.prog 31=some [.d (.int .i64 0), .d (.int .i64 0), .bO]:=af
@[go_sem] theorem placesT_31:gy Tryz.prog 31=some [(0,1),(1,1),(2,1)]:=af
@[go_sem] theorem aggT_32:dA Tryz.prog 32=some false:=af
@[go_sem] theorem undT_32:Tryz.prog.underlying 32=some (.int .i64):=af
@[go_sem] theorem cellsOf_33:Tryz.prog.cellsOf 33=1:=af
@[go_sem] theorem sliceT_33:cK Tryz.prog 33=some 35:=af
@[go_sem] theorem aggT_33:dA Tryz.prog 33=some false:=af
@[go_sem] theorem intT_33:uj Tryz.prog 33=none:=af
@[go_sem] theorem infoT_33:(Tryz.prog.info? 33).isSome=true:=af
@[go_sem] theorem undT_33:Tryz.prog.underlying 33=some (.slice 35):=af
@[go_sem] theorem cellsOf_35:Tryz.prog.cellsOf 35=7:=af
@[go_sem] theorem bytesOf_35:Tryz.prog.bytesOf 35=104:=af
@[go_sem] theorem aggT_35:dA Tryz.prog 35=some true:=af
@[go_sem] theorem infoT_35:(Tryz.prog.info? 35).isSome=true:=af
@[go_sem] theorem zeroT_35:cN Tryz.prog 35=some [.d (.int .i64 0), .d (.int .i64 0), .d (.int .i64 0), .bO, .d (.int .i64 0), .bO, .bO]:=af
@[go_sem] theorem cellsOf_38:Tryz.prog.cellsOf 38=1:=af
@[go_sem] theorem aggT_38:dA Tryz.prog 38=some false:=af
@[go_sem] theorem infoT_38:(Tryz.prog.info? 38).isSome=true:=af
@[go_sem] theorem zeroT_38:cN Tryz.prog 38=some [.d (.int .i64 0)]:=af
@[go_sem] theorem sliceT_41:cK Tryz.prog 41=some 3:=af
@[go_sem] theorem intT_41:uj Tryz.prog 41=none:=af
@[go_sem] theorem undT_41:Tryz.prog.underlying 41=some (.slice 3):=af
@[go_sem] theorem cellsOf_46:Tryz.prog.cellsOf 46=1:=af
@[go_sem] theorem aggT_46:dA Tryz.prog 46=some false:=af
@[go_sem] theorem infoT_46:(Tryz.prog.info? 46).isSome=true:=af
@[go_sem] theorem zeroT_46:cN Tryz.prog 46=some [.d .bW]:=af
@[go_sem] theorem undT_57:Tryz.prog.underlying 57=some (.int .u16):=af
@[go_sem] theorem aggT_67:dA Tryz.prog 67=some false:=af
@[go_sem] theorem cellsOf_104:Tryz.prog.cellsOf 104=2:=af
@[go_sem] theorem aggT_104:dA Tryz.prog 104=some true:=af
@[go_sem] theorem infoT_104:(Tryz.prog.info? 104).isSome=true:=af
@[go_sem] theorem zeroT_104:cN Tryz.prog 104=some [.d (.str []), .d (.int .i64 0)]:=af
@[go_sem] theorem placesT_104:gy Tryz.prog 104=some [(0,1),(1,1)]:=af
@[go_sem] theorem cellsOf_106:Tryz.prog.cellsOf 106=6:=af
@[go_sem] theorem aggT_106:dA Tryz.prog 106=some true:=af
@[go_sem] theorem infoT_106:(Tryz.prog.info? 106).isSome=true:=af
@[go_sem] theorem zeroT_106:cN Tryz.prog 106=some [.d (.int .i64 0), .bO, .d (.int .i64 0), .d (.int .i64 0), .bO, .d (.int .i64 0)]:=af
@[go_sem] theorem aggT_115:dA Tryz.prog 115=some false:=af
@[go_sem] theorem cellsOf_117:Tryz.prog.cellsOf 117=0:=af
@[go_sem] theorem infoT_117:(Tryz.prog.info? 117).isSome=true:=af
@[go_sem] theorem plainIface_117:iW Tryz.prog 117=true:=af
@[go_sem] theorem zeroT_117:cN Tryz.prog 117=some []:=af
@[go_sem] theorem zeroV_117:zeroV Tryz.prog 117=some (mD []):=af
@[go_sem] theorem placesT_117:gy Tryz.prog 117=some []:=af
@[go_sem] theorem cellsOf_119:Tryz.prog.cellsOf 119=4:=af
@[go_sem] theorem aggT_119:dA Tryz.prog 119=some true:=af
@[go_sem] theorem infoT_119:(Tryz.prog.info? 119).isSome=true:=af
@[go_sem] theorem zeroT_119:cN Tryz.prog 119=some [.bO, .bO, .bO, .bO]:=af
@[go_sem] theorem placesT_119:gy Tryz.prog 119=some [(0,3),(3,1)]:=af
@[go_sem] theorem cellsOf_122:Tryz.prog.cellsOf 122=1:=af
@[go_sem] theorem aggT_122:dA Tryz.prog 122=some false:=af
@[go_sem] theorem infoT_122:(Tryz.prog.info? 122).isSome=true:=af
@[go_sem] theorem zeroT_122:cN Tryz.prog 122=some [.d .bW]:=af
@[go_sem] theorem cellsOf_133:Tryz.prog.cellsOf 133=0:=af
@[go_sem] theorem infoT_133:(Tryz.prog.info? 133).isSome=true:=af
@[go_sem] theorem plainIface_133:iW Tryz.prog 133=true:=af
@[go_sem] theorem zeroT_133:cN Tryz.prog 133=some []:=af
@[go_sem] theorem zeroV_133:zeroV Tryz.prog 133=some (mD []):=af
@[go_sem] theorem placesT_133:gy Tryz.prog 133=some []:=af
@[go_sem] theorem plainIface_134:iW Tryz.prog 134=true:=af
@[go_sem] theorem zeroV_134:zeroV Tryz.prog 134=some (.d (.int .i64 0)):=af
@[go_sem] theorem aggT_137:dA Tryz.prog 137=some false:=af
@[go_sem] theorem cellsOf_138:Tryz.prog.cellsOf 138=3:=af
@[go_sem] theorem infoT_138:(Tryz.prog.info? 138).isSome=true:=af
@[go_sem] theorem plainIface_138:iW Tryz.prog 138=true:=af
@[go_sem] theorem zeroT_138:cN Tryz.prog 138=some [.d (.int .i64 0), .d (.int .i64 0), .bO]:=af
@[go_sem] theorem zeroV_138:zeroV Tryz.prog 138=some (mD [.d (.int .i64 0), .d (.int .i64 0), .bO]):=af
@[go_sem] theorem cellsOf_140:Tryz.prog.cellsOf 140=1:=af
@[go_sem] theorem aggT_140:dA Tryz.prog 140=some false:=af
@[go_sem] theorem infoT_140:(Tryz.prog.info? 140).isSome=true:=af
@[go_sem] theorem mapT_140:pV Tryz.prog 140=some (3,4):=af
@[go_sem] theorem zeroT_140:cN Tryz.prog 140=some [.d .jq]:=af
@[go_sem] theorem undT_141:Tryz.prog.underlying 141=some (.map 3 4):=af
@[go_sem] theorem mapT_141:pV Tryz.prog 141=some (3,4):=af
@[go_sem] theorem cellsOf_146:Tryz.prog.cellsOf 146=1:=af
@[go_sem] theorem aggT_146:dA Tryz.prog 146=some false:=af
@[go_sem] theorem infoT_146:(Tryz.prog.info? 146).isSome=true:=af
@[go_sem] theorem cellsOf_147:Tryz.prog.cellsOf 147=16:=af
@[go_sem] theorem aggT_147:dA Tryz.prog 147=some true:=af
@[go_sem] theorem infoT_147:(Tryz.prog.info? 147).isSome=true:=af
@[go_sem] theorem undT_147:Tryz.prog.underlying 147=some (.array 16 146):=af
@[go_sem] theorem zeroT_147:cN Tryz.prog 147=some [.d .bW, .d .bW, .d .bW, .d .bW, .d .bW, .d .bW, .d .bW, .d .bW, .d .bW, .d .bW, .d .bW, .d .bW, .d .bW, .d .bW, .d .bW, .d .bW]:=af
@[go_sem] theorem aggT_150:dA Tryz.prog 150=some false:=af
@[go_sem] theorem sliceT_151:cK Tryz.prog 151=some 9:=af
@[go_sem] theorem intT_151:uj Tryz.prog 151=none:=af
@[go_sem] theorem undT_151:Tryz.prog.underlying 151=some (.slice 9):=af
@[go_sem] theorem cellsOf_154:Tryz.prog.cellsOf 154=1:=af
@[go_sem] theorem aggT_154:dA Tryz.prog 154=some false:=af
@[go_sem] theorem infoT_154:(Tryz.prog.info? 154).isSome=true:=af
@[go_sem] theorem zeroT_154:cN Tryz.prog 154=some [.d .bW]:=af
@[go_sem] theorem cellsOf_165:Tryz.prog.cellsOf 165=1:=af
@[go_sem] theorem aggT_165:dA Tryz.prog 165=some false:=af
@[go_sem] theorem infoT_165:(Tryz.prog.info? 165).isSome=true:=af
@[go_sem] theorem mapT_165:pV Tryz.prog 165=some (9,4):=af
@[go_sem] theorem zeroT_165:cN Tryz.prog 165=some [.d .jq]:=af
@[go_sem] theorem cellsOf_169:Tryz.prog.cellsOf 169=1:=af
@[go_sem] theorem aggT_169:dA Tryz.prog 169=some false:=af
@[go_sem] theorem infoT_169:(Tryz.prog.info? 169).isSome=true:=af
@[go_sem] theorem zeroT_169:cN Tryz.prog 169=some [.d .bW]:=af
@[go_sem] theorem cellsOf_176:Tryz.prog.cellsOf 176=1:=af
@[go_sem] theorem aggT_176:dA Tryz.prog 176=some false:=af
@[go_sem] theorem infoT_176:(Tryz.prog.info? 176).isSome=true:=af
@[go_sem] theorem undT_176:Tryz.prog.underlying 176=some (.map 3 3):=af
@[go_sem] theorem mapT_176:pV Tryz.prog 176=some (3,3):=af
@[go_sem] theorem zeroT_176:cN Tryz.prog 176=some [.d .jq]:=af
@[go_sem] theorem cellsOf_188:Tryz.prog.cellsOf 188=1:=af
@[go_sem] theorem aggT_188:dA Tryz.prog 188=some false:=af
@[go_sem] theorem infoT_188:(Tryz.prog.info? 188).isSome=true:=af
@[go_sem] theorem cellsOf_189:Tryz.prog.cellsOf 189=16:=af
@[go_sem] theorem sliceT_189:cK Tryz.prog 189=none:=af
@[go_sem] theorem arrT_189:A2 Tryz.prog 189=some (16,188):=af
@[go_sem] theorem aggT_189:dA Tryz.prog 189=some true:=af
@[go_sem] theorem infoT_189:(Tryz.prog.info? 189).isSome=true:=af
@[go_sem] theorem zeroT_189:cN Tryz.prog 189=some [.d .bW, .d .bW, .d .bW, .d .bW, .d .bW, .d .bW, .d .bW, .d .bW, .d .bW, .d .bW, .d .bW, .d .bW, .d .bW, .d .bW, .d .bW, .d .bW]:=af
@[go_sem] theorem placesT_189:gy Tryz.prog 189=some [(0,1),(1,1),(2,1),(3,1),(4,1),(5,1),(6,1),(7,1),(8,1),(9,1),(10,1),(11,1),(12,1),(13,1),(14,1),(15,1)]:=af
@[go_sem] theorem zeroT_195:cN Tryz.prog 195=some [.bO, .bO]:=af
@[go_sem] theorem placesT_195:gy Tryz.prog 195=some [(0,2)]:=af
@[go_sem] theorem sliceT_225:cK Tryz.prog 225=some 29:=af
@[go_sem] theorem undT_225:Tryz.prog.underlying 225=some (.slice 29):=af
@[go_sem] theorem fieldT_24_0:cD Tryz.prog 24 0=some 0:=af
@[go_sem] theorem fieldT_24_1:cD Tryz.prog 24 1=some 1:=af
@[go_sem] theorem fieldT_27_0:cD Tryz.prog 27 0=some 0:=af
@[go_sem] theorem fieldT_27_1:cD Tryz.prog 27 1=some 2:=af
@[go_sem] theorem fieldT_31_0:cD Tryz.prog 31 0=some 0:=af
@[go_sem] theorem fieldT_31_1:cD Tryz.prog 31 1=some 1:=af
@[go_sem] theorem fieldT_31_2:cD Tryz.prog 31 2=some 2:=af
@[go_sem] theorem fieldT_35_0:cD Tryz.prog 35 0=some 0:=af
@[go_sem] theorem fieldT_35_1:cD Tryz.prog 35 1=some 1:=af
@[go_sem] theorem fieldT_35_2:cD Tryz.prog 35 2=some 4:=af
@[go_sem] theorem fieldT_35_3:cD Tryz.prog 35 3=some 5:=af
@[go_sem] theorem fieldT_35_4:cD Tryz.prog 35 4=some 6:=af
@[go_sem] theorem fieldT_104_0:cD Tryz.prog 104 0=some 0:=af
@[go_sem] theorem fieldT_104_1:cD Tryz.prog 104 1=some 1:=af
@[go_sem] theorem fieldT_106_0:cD Tryz.prog 106 0=some 0:=af
@[go_sem] theorem fieldT_106_1:cD Tryz.prog 106 1=some 1:=af
@[go_sem] theorem fieldT_106_2:cD Tryz.prog 106 2=some 2:=af
@[go_sem] theorem fieldT_106_3:cD Tryz.prog 106 3=some 5:=af
@[go_sem] theorem fieldT_119_0:cD Tryz.prog 119 0=some 0:=af
@[go_sem] theorem fieldT_119_1:cD Tryz.prog 119 1=some 3:=af
@[go_sem] theorem fieldT_138_2:cD Tryz.prog 138 2=some 2:=af
@[go_sem] theorem fieldT_195_0:cD Tryz.prog 195 0=some 0:=af
end Go.Proofs.YtonbelhklnmjnaaGreat
namespace Go.Proofs.YtonbelhklnmjnaaGreat
def qA(x y:ab):Prop:=(x.cC=true->y.cC=true)/\∀e,x.cy=some e->y.cy=some e
theorem qA.rfl' {x y:ab}(h:x=y):qA x y:=h ▸ ⟨id,fun _ h=>h⟩
theorem qA.fz (x:ab):qA x.fz x:=by cases x<;>exact⟨id,fun _ h=>h⟩
theorem qA.row (cs cs':List V):qA (.row cs) (.row cs'):=⟨fun _=>rfl,fun _ h=>by cases h⟩
mutual
theorem V.qB {B B':Nat->Prop}{φ aQ:Place}{H H':Hp}{w:World}(hB:∀b, ¬B b-> ¬B' b):∀ (v:V) (val:Value),(∀id∈v.refs,qA (H'.o id) (H.o id)/\aQ id=φ id/\H'.us id)->V.den B φ H w v val->V.den B' aQ H' w v val
 | .d x,val,_,h=>D.aT (w:=w) (w':=w) (fun b _ hn=>⟨rfl,hB b hn⟩) x val h
 | .bO,_,_,h=>h
 | .aa,_,_,_=>trivial
 | .fh,_,_,h=>h
 | .qZ es,val,_,h=>⟨D.aT (w:=w) (w':=w) (fun b _ hn=>⟨rfl,hB b hn⟩) (.sl es) val h.1,h.2⟩
 | .agg cs,val,hr,h=>by
   obtain⟨a,rfl,h1,h2⟩:=h
   exact⟨a,rfl,V.jZ hB cs _ GN h1,h2⟩
 | .cp cs,val,hr,h=>by
   obtain⟨a,rfl,h1⟩:=h
   exact⟨a,rfl,V.jZ hB cs _ GN h1⟩
 | .ptr id off,val,hr,h=>by
   obtain⟨a,b,c⟩:=hr id ta
   obtain⟨h0,h1,h2⟩:=h
   refine⟨h0,c,fun bZ=> ?_⟩
   obtain⟨x,y,z⟩:=h2 (a.1 bZ)
   exact⟨x,b.trans y,z⟩
 | .osl id ep,val,hr,h=>by
   obtain⟨a,b,c⟩:=hr id ta
   obtain⟨h0,h1,h2⟩:=h
   refine⟨h0,c,fun e he=> ?_⟩
   obtain⟨x,y⟩:=h2 e (a.2 e he)
   exact⟨x,fun heq=>(y heq).trans b.symm⟩
 | .pe id ep i sz off,val,hr,h=>by
   obtain⟨a,b,c⟩:=hr id ta
   obtain⟨h0,h1,h2⟩:=h
   refine⟨h0,c,fun e he=> ?_⟩
   obtain⟨x,y⟩:=h2 e (a.2 e he)
   refine⟨x,fun heq=> ?_⟩
   obtain⟨p,q,r,z,u⟩:=y heq
   exact⟨p,q,r,b.trans z,u⟩
 | .pp cs off,val,_,h=>by
   obtain⟨a,ev,h1,h2,h3,h5,h4⟩:=h
   exact⟨a,ev,h1,h2,D.ba (w:=w) (w':=w) (fun b _ hn=>⟨rfl,hB b hn⟩) cs ev h3,h5,h4.mono (w:=w) (w':=w) (fun b _ hn=>⟨rfl,hB b hn⟩)⟩
 | .func fn first cap,val,hr,h=>by
   obtain⟨f,c,rfl,h1,h2⟩:=h
   exact⟨f,c,rfl,V.jZ hB first _ (fun id aC=>hr id Nh) h1,V.jZ hB cap _ (fun id aC=>hr id Nh) h2⟩
 | .iface t x,val,hr,h=>by
   obtain⟨u,rfl,h⟩:=h
   exact⟨u,rfl,V.qB hB x u GN h⟩
 | .xd id off n,val,hr,h=>by
   obtain⟨a,b,c⟩:=hr id ta
   obtain⟨h0,h1,h2⟩:=h
   refine⟨h0,c,fun bZ=> ?_⟩
   obtain⟨x,y,z⟩:=h2 (a.1 bZ)
   exact⟨x,b.trans y,z⟩
 | .mp id,val,hr,h=>by
   obtain⟨a,b,c⟩:=hr id ta
   obtain⟨h0,h1,h2⟩:=h
   refine⟨h0,c,fun bZ=> ?_⟩
   exact(h2 (a.1 bZ)).trans b.symm
 | .jU id,val,hr,h=>by
   obtain⟨a,b,c⟩:=hr id ta
   obtain⟨h0,h1,h2⟩:=h
   refine⟨h0,c,fun bZ=> ?_⟩
   obtain⟨x,y,z⟩:=h2 (a.1 bZ)
   exact⟨x,b.trans y,z⟩
theorem V.jZ {B B':Nat->Prop}{φ aQ:Place}{H H':Hp}{w:World}(hB:∀b, ¬B b-> ¬B' b):∀ (vs:List V) (vals:List Value),(∀id∈V.aO vs,qA (H'.o id) (H.o id)/\aQ id=φ id/\H'.us id)->V.aN B φ H w vs vals->V.aN B' aQ H' w vs vals
 |[],_,_,h=>h
 |v::vs,_,hr,h=>by
  obtain⟨u,us,rfl,h1,h2⟩:=h
  exact⟨u,us,rfl,V.qB hB v u (fun id aC=>hr id Ng) h1,V.jZ hB vs us (fun id aC=>hr id Ng) h2⟩
end
mutual
theorem V.rT {B:Nat->Prop}{φ:Place}{H:Hp}{w:World}:∀ (v:V) (val:Value),V.den B φ H w v val->∀id∈v.refs,H.us id
 | .osl id ep,_,h,j,hj| .ptr id off,_,h,j,hj| .pe id ep i sz off,_,h,j,hj| .xd id off n,_,h,j,hj| .mp id,_,h,j,hj| .jU id,_,h,j,hj=>by simp[V.refs]at hj;subst hj;exact h.2.1
 | .agg cs,_,h,j,hj=>by obtain⟨a,rfl,h,_⟩:=h;exact V.kD cs _ h j Te
 | .cp cs,_,h,j,hj=>by obtain⟨a,rfl,h⟩:=h;exact V.kD cs _ h j Te
 | .func fn first cap,_,h,j,hj=>by
   obtain⟨f,c,rfl,h1,h2⟩:=h
   rcases List.mem_append.1 (show j∈V.aO first++V.aO cap by simpa[V.refs]using hj)with hj|hj
   ·exact V.kD first _ h1 j hj
   ·exact V.kD cap _ h2 j hj
 | .iface t x,_,h,j,hj=>by obtain⟨u,rfl,h⟩:=h;exact V.rT x u h j Te
 | .d _,_,_,_,hj| .bO,_,_,_,hj| .pp _ _,_,_,_,hj| .aa,_,_,_,hj| .qZ _,_,_,_,hj| .fh,_,_,_,hj=>by simp[V.refs]at hj
theorem V.kD {B:Nat->Prop}{φ:Place}{H:Hp}{w:World}:∀ (vs:List V) (vals:List Value),V.aN B φ H w vs vals->∀id∈V.aO vs,H.us id
 |[],_,_,j,hj=>by simp[V.aO]at hj
 |v::vs,_,h,j,hj=>by
  obtain⟨u,us,rfl,h1,h2⟩:=h
  rcases List.mem_append.1 (show j∈v.refs++V.aO vs by simpa[V.aO]using hj)with hj|hj
  ·exact V.rT v u h1 j hj
  ·exact V.kD vs us h2 j hj
end
def Eu(so:Nat->ab)(gone:Nat->Prop)(ty:TypeId)(sz:Nat)(es:List D)(x:V):Prop:=
 (x= .bO/\es=[]/\0<sz)\/∃id ep,gone id/\x= .osl id ep/\so id= .arr ep ty sz es
def lQ(env:Nat->V):List V->Nat->Prop
 |[],_=>True
 |v::l,i=>(v= .aa\/v=env i)/\lQ env l (i+1)
theorem GJ{env:Nat->V}{i:Nat}:lQ env [] i:=trivial
theorem Dx{env:Nat->V}{l:List V}{i:Nat}(h:lQ env l (i+1)):lQ env (.aa::l) i:=⟨.inl rfl,h⟩
theorem M0{env:Nat->V}{l:List V}{i:Nat}{v:V}(he:env i=v)(h:lQ env l (i+1)):lQ env (v::l) i:=⟨.inr he.symm,h⟩
theorem Co{env:Nat->V}:∀ (l:List V) (i:Nat),lQ env l i->∀j,bB l j= .aa\/bB l j=env (i+j)
 |[],i,_,j=>by rw[qv];exact .inl rfl
 |v::l,i,h,0=>by rw[n6];exact h.1
 |v::l,i,h,j+1=>by
  rw[n7]
  have:=Co l (i+1) h.2 j
  rwa [show i+1+j=i+(j+1) by omega]at this
theorem HO{P:Program}{n bq:Nat}{gq:Operand}{ps:List Nat}{x y:IC}{Q:fS->S->Prop}{e:Nat->V}{o:Nat->ab}{nx:Nat}{f:FuncId}{cap:List V}(env:List V)(he:lQ e env 0)
 (h:cO P f (.jU nx::cap) (aM o nx (.loop P.funcs.size n env ps x y .ready none)) (nx+1)
  (fun _ o' nx'=>∃nf m en p c d st pd,o' nx= .loop nf m en p c d st pd/\st≠ .busy/\ph Q pd ⟨e,aM o' nx (.loop nf m en p c d .exhausted pd),nx'⟩) (fun v o' nx'=>Q (.bU v) ⟨e,o',nx'⟩)):
 wQ P n bq false gq ps x y Q ⟨e,o,nx⟩ (.func (.func f) [] cap):=by
 unfold wQ BE
 refine⟨rfl, .inl ⟨env,fun i=> ?_, .inl h⟩⟩
 have:=Co env 0 he i
 rwa [Nat.zero_add]at this
theorem bM.trans {b:Nat}{s s' s'':S}(h1:bM b s s')(h2:bM b s' s''):bM b s s'':=fun M φ w tm hH hd=>by
 obtain⟨aQ,a1,a2,a3,a4,a5,a6⟩:=h1 M φ w tm hH hd
 obtain⟨DB,b1,b2,b3,b4,b5,b6⟩:=h2 M aQ w tm a1 a2
 refine⟨DB,b1,b2,fun k hk=>a3 k (b3 k hk),b4,fun id aC hr=> ?_,fun id e' aC he=> ?_⟩
 ·obtain⟨c1,c2⟩:=b5 id aC hr
  obtain⟨c3,c4⟩:=a5 id aC c1
  exact⟨c3,c2.trans c4⟩
 ·obtain⟨e1,c1,c2,c3⟩:=b6 id e' aC he
  obtain⟨e0,d1,d2,d3⟩:=a6 id e1 aC c1
  exact⟨e0,d1,Nat.le_trans d2 c2,fun h=>(c3 ad).trans (d3 ad)⟩
def nH(P:Program)(n b id:Nat)(eJ:IC)(K X:V->(Nat->ab)->Nat->Prop)(e:fS)(s:S):Prop:=
 match e with
 | .normal=>∃nf m en p c d pd,s.o id= .loop nf m en p c d .ready pd/\kX P n b true eJ (jI id K X) ⟨s.env,aM s.o id (.loop nf m en p c d .busy pd),s.nx⟩
 | .bU v=>X v s.o s.nx
 |_=>False
theorem ec.aB {P:Program}{n:Nat}(bD:P.follows .mixedOrders=true){id:Nat}{args:List V}{o:Nat->ab}{nx:Nat}{K X:V->(Nat->ab)->Nat->Prop}{env:List V}{ps:List Nat}{iQ eJ:IC}{st:LoopState}{pd:Option jN}
 (ho:o id= .loop P.funcs.size n env ps iQ eJ st pd) (cJ:id<nx) (El:ps.all (fun t=>decide (t<n))=true) (hl:args.length=ps.length)
 (h:kX P n nx true iQ (nH P n nx id eJ K X) ⟨nw (bB env) ps args,o,nx⟩):ec P id args o nx K X:=by
 refine ec.uS bD ho cJ El hl (eC iQ _ _ _ (fun e s h=> ?_) h)
 cases e with
 |normal=>
  obtain⟨nf,m,en,p,c,d,pd,h1,h2⟩:=h
  exact⟨nf,m,en,p,c,d,pd,h1,eC eJ _ _ _ (fun _ _ h=>h) h2⟩
 |bU v=>exact h
 |_=>exact h.elim
theorem Ad{P:Program}{n b id:Nat}{eJ:IC}{K X:V->(Nat->ab)->Nat->Prop}{s:S}{nf m:Nat}{en:List V}{p:List Nat}{c d:IC}{pd:Option jN}(h:s.o id= .loop nf m en p c d .ready pd)
 (h2:kX P n b true eJ (jI id K X) ⟨s.env,aM s.o id (.loop nf m en p c d .busy pd),s.nx⟩):nH P n b id eJ K X .normal s:=⟨nf,m,en,p,c,d,pd,h,h2⟩
section
variable {P:Program}{KB:List Nat->Fp->Prop}{pr:List (List Nat)}{l:List cz}{fr:Nat}{fp:Fp}{bad ws:List Nat}{s:S}{d:Option Nat}{op:Op}
theorem aU(h:KB ws fp):B6 P KB pr [] fr fp bad ws s:=by unfold B6;exact h
end
end Go.Proofs.YtonbelhklnmjnaaGreat
namespace Go.Proofs.YtonbelhklnmjnaaGreat
structure Gr where
 x:V
 ty:TypeId
 sz:Nat
 es:List D
def Gr.ok (so:Nat->ab)(gone:Nat->Prop)(g:Gr):Prop:=Eu so gone g.ty g.sz g.es g.x
def K0(c:Nat)(G:List Gr)(so:Nat->ab)(gone:Nat->Prop)(v v':V):Prop:=
 v'= .aa\/(v'=v/\∀r∈v.refs,r<c)\/(∃i g,G[i]? =some g/\v'= .osl (c+i) 0/\v=g.x)\/∃y,v'= .d y/\eg so v=some y/\∀id∈v.ids,gone id/\∀g∈G,∀ep,g.x≠ .osl id ep
def mO(c:Nat)(G:List Gr)(so:Nat->ab)(gone:Nat->Prop)(env:Nat->V):List V->Nat->Prop
 |[],_=>True
 |v::l,i=>K0 c G so gone (env i) v/\mO c G so gone env l (i+1)
def vh(c:Nat)(G:List Gr)(so:Nat->ab)(gone:Nat->Prop):List V->List V->Prop
 |[],[]=>True
 |v::l,v'::l'=>K0 c G so gone v v'/\vh c G so gone l l'
 |_,_=>False
def wR(c:Nat)(G:List Gr)(so:Nat->ab)(gone:Nat->Prop)(x x':ab):Prop:=
 x'= .no\/(x=x'/\∀r∈x'.refs,r<c)\/∃cs cs',x= .row cs/\x'= .row cs'/\vh c G so gone cs cs'
section
variable {c:Nat}{G:List Gr}{so:Nat->ab}{gone:Nat->Prop}
theorem FT{env:Nat->V}:∀ (l:List V) (i:Nat),mO c G so gone env l i->∀j,K0 c G so gone (env (i+j)) (bB l j)
 |[],i,_,j=>by rw[qv];exact .inl rfl
 |v::l,i,h,0=>by rw[n6];exact h.1
 |v::l,i,h,j+1=>by
  rw[n7]
  have:=FT l (i+1) h.2 j
  rwa [show i+1+j=i+(j+1) by omega]at this
variable {env:Nat->V}{i:Nat}{l l':List V}{v:V}{y:D}
theorem Jf:mO c G so gone env [] i:=trivial
theorem GH(h:mO c G so gone env l (i+1)):mO c G so gone env (.aa::l) i:=⟨.inl rfl,h⟩
theorem Jg(he:env i= .d y)(h:mO c G so gone env l (i+1)):mO c G so gone env (.d y::l) i:=⟨.inr (.inl ⟨he.symm,fun r hr=>by rw[he]at hr;simp[V.refs]at hr⟩),h⟩
theorem SG(he:env i=v)(hr:∀r∈v.refs,r<c)(h:mO c G so gone env l (i+1)):mO c G so gone env (v::l) i:=⟨.inr (.inl ⟨he.symm,fun r zl=>hr r (he ▸ zl)⟩),h⟩
theorem SF(k:Nat){g:Gr}{n:Nat}(hg:G[k]? =some g)(hn:n=c+k)(he:env i=g.x)(h:mO c G so gone env l (i+1)):mO c G so gone env (.osl n 0::l) i:=⟨.inr (.inr (.inl ⟨k,g,hg,by rw[hn],he⟩)),h⟩
theorem SH(ht:eg so (env i)=some y)(hi:∀id∈(env i).ids,gone id/\∀g∈G,∀ep,g.x≠ .osl id ep)(h:mO c G so gone env l (i+1)):mO c G so gone env (.d y::l) i:=⟨.inr (.inr (.inr ⟨y,rfl,ht,hi⟩)),h⟩
theorem Cp:vh c G so gone [] []:=trivial
theorem V7(h:vh c G so gone l l'):vh c G so gone (.d y::l) (.d y::l'):=⟨.inr (.inl ⟨rfl,fun r hr=>by simp[V.refs]at hr⟩),h⟩
theorem K1(k:Nat){g:Gr}{n:Nat}(hg:G[k]? =some g)(hn:n=c+k)(he:v=g.x)(h:vh c G so gone l l'):vh c G so gone (v::l) (.osl n 0::l'):=⟨.inr (.inr (.inl ⟨k,g,hg,by rw[hn],he⟩)),h⟩
theorem FU{x:ab}:wR c G so gone x .no:= .inl rfl
theorem b8{x x':ab}(h:x=x')(hr:∀r∈x'.refs,r<c):wR c G so gone x x':= .inr (.inl ⟨h,hr⟩)
theorem Cq{x:ab}{cs cs':List V}(h:x= .row cs)(hr:vh c G so gone cs cs'):wR c G so gone x (.row cs'):= .inr (.inr ⟨cs,cs',h,rfl,hr⟩)
end
theorem qC{c:Nat}{G:List Gr}{so:Nat->ab}{gone:Nat->Prop}{B B':Nat->Prop}{φ aQ:Place}{H H':Hp}{w:World}(hc:∀v v' val,K0 c G so gone v v'->V.den B φ H w v val->V.den B' aQ H' w v' val):
 ∀ (l l':List V) (vals:List Value),vh c G so gone l l'->V.aN B φ H w l vals->V.aN B' aQ H' w l' vals
 |[],[],_,_,h=>h
 |v::l,v'::l',_,h,hd=>by
  obtain⟨u,us,rfl,h1,h2⟩:=hd
  exact⟨u,us,rfl,hc _ _ _ h.1 h1,qC hc l l' us h.2 h2⟩
 |[],_::_,_,h,_=>h.elim
 |_::_,[],_,h,_=>h.elim
def K4(φ:Place)(c:Nat)(G:List Gr):Place:=fun id=>if id<c then φ id else match G[id - c]? with
 |some g=>(match g.x with| .osl j _=>φ j|_=> .slice none 0 0)
 |none=>φ id
theorem bM.see (gone:Nat->Prop)(G:List Gr)(c:Nat){b:Nat}{e:Nat->V}{so:Nat->ab}{m:Nat}(l:List V){o':Nat->ab}{nx':Nat}(tM:nx'=c+G.length)(hb:b<=c)
 (ho:∀id,id<c->wR c G so gone (so id) (o' id)) (hG:∀i g,G[i]? =some g->o' (c+i)= .arr 0 g.ty g.sz g.es/\g.ok so gone) (hh:∀id,nx'<=id->o' id= .no) (yf:∀id,gone id->id<c->o' id= .no)
 (Tu:∀ (i j:Nat) (gi gj:Gr) (id ep jr:Nat),G[i]? =some gi->G[j]? =some gj->gi.x= .osl id ep->gj.x= .osl id jr->i=j) (he:mO c G so gone e l 0):bM b ⟨e,so,m⟩ ⟨bB l,o',nx'⟩:=by
 subst tM
 intro M φ w tm hH hd
 let aQ:Place:=K4 φ c G
 let H':Hp:=hp o' (c+G.length)
 let H:Hp:=⟨so,fun id=>id<m⟩
 have HP:∀id,id<c->aQ id=φ id:=fun id aC=>if_pos aC
 have K5:∀i g,G[i]? =some g->aQ (c+i)=(match g.x with| .osl j _=>φ j|_=> .slice none 0 0):=fun i g hg=>by
  show K4 φ c G (c+i)=_
  unfold K4
  rw[if_neg (by omega),show c+i - c=i by omega,hg]
 have hold:∀id k,(o' id).live=true->eQ (aQ id)=some k->∃j,(so j).live=true/\eQ (φ j)=some k/\((id<c/\j=id)\/∃i g ep,id=c+i/\G[i]? =some g/\gone j/\g.x= .osl j ep):=by
  intro id k h1 h2
  by_cases cJ:id<c
  ·rw[HP id cJ]at h2
   rcases ho id cJ with h3|⟨h3,_⟩|⟨cs,cs',h3,h4,_⟩
   ·rw[h3]at h1;cases h1
   ·exact⟨id,by rw[h3];exact h1,h2, .inl ⟨cJ,rfl⟩⟩
   ·exact⟨id,by rw[h3];rfl,h2, .inl ⟨cJ,rfl⟩⟩
  ·by_cases AO:c+G.length<=id
   ·rw[hh id AO]at h1;cases h1
   ·obtain⟨i,rfl⟩:∃i,id=c+i:=⟨id - c,ad⟩
    obtain⟨g,hg⟩:∃g,G[i]? =some g:=⟨G[i]'ad,aj⟩
    rw[K5 i g hg]at h2
    obtain⟨_,bp⟩:=hG i g hg
    rcases bp with⟨h3,_,_⟩|⟨j,ep,hj,h3,pM⟩
    ·rw[h3]at h2;cases h2
    ·rw[h3]at h2
     exact⟨j,by rw[pM];rfl,h2, .inr ⟨i,g,ep,rfl,hg,hj,h3⟩⟩
 have c7:∀k,df aQ H' k->df φ H k:=by
  rintro k ⟨id,h1,h2⟩
  obtain⟨j,g1,g2,_⟩:=hold id k h1 h2
  exact⟨j,g1,g2⟩
 have hB:∀k, ¬ay M φ H k-> ¬ay M aQ H' k:=fun k h h'=>h (h'.imp id (c7 k))
 have JE:∀id,id<c->qA (H'.o id) (H.o id)/\aQ id=φ id/\H'.us id:=fun id aC=>by
  refine⟨?_,HP id aC,(by show id<c+G.length;omega)⟩
  show qA (o' id) (so id)
  rcases ho id aC with h3|⟨h3,_⟩|⟨cs,cs',h3,h4,_⟩
  ·rw[h3];exact⟨fun h=>(by cases h),fun e h=>(by cases h)⟩
  ·exact qA.rfl' h3.symm
  ·rw[h3,h4];exact qA.row _ _
 have fO:∀ (v:V) (val:Value),(∀r∈v.refs,r<c)->V.den (ay M φ H) φ H w v val->V.den (ay M aQ H') aQ H' w v val:=fun v val hr h=>
  V.qB (H:=H) (H':=H') hB v val (fun id aC=>JE id (hr id aC)) h
 have oK:∀ (v:List V) (val:List Value),(∀r∈V.aO v,r<c)->V.aN (ay M φ H) φ H w v val->V.aN (ay M aQ H') aQ H' w v val:=fun v val hr h=>
  V.jZ (H:=H) (H':=H') hB v val (fun id aC=>JE id (hr id aC)) h
 have ac6:∀ (v:V) (y:D) (val:Value),eg so v=some y->(∀id∈v.ids,gone id/\∀g∈G,∀ep,g.x≠ .osl id ep)->V.den (ay M φ H) φ H w v val->D.den (ay M aQ H') w y val:=fun v y val h1 h2 h3=>by
  obtain⟨f1,f2,f3,f4,f5⟩:=dx (H:=H) hH v.ids (fun id aC=>dq v val h3 id aC)
  have hB1:∀k,df φ (H.put (dn H.o v.ids)) k->df φ H k:=by
   rintro k ⟨id,g1,g2⟩
   by_cases aC:id∈v.ids
   ·rw[f3 id aC]at g1
    refine⟨id, ?_,g2⟩
    revert g1
    cases H.o id<;>simp[ab.fz,ab.live]
   ·rw[f4 id aC]at g1;exact⟨id,g1,g2⟩
  have h4:V.den (ay M φ (H.put (dn H.o v.ids))) φ (H.put (dn H.o v.ids)) w v val:=
   V.qB (H:=H) (fun k h h'=>h (h'.imp id (hB1 k))) v val (fun id aC=>by
     have fL:H.us id:=(V.rT v val h3) id aC
     refine⟨?_,rfl,(f5 id).2 fL⟩
     by_cases hm:id∈v.ids
     ·rw[f3 id hm];exact qA.fz _
     ·rw[f4 id hm];exact qA.rfl' rfl) h3
  have h5:=gA f1 (o:=so) v y val (fun id aC=>f3 id aC) h1 h4
  refine D.aT (w:=w) (w':=w) (fun k _ hn=>⟨rfl,fun hk=>hn (hk.imp id ?_)⟩) y val h5
  rintro⟨id,g1,g2⟩
  obtain⟨j,k1,k2,k3⟩:=hold id k g1 g2
  refine⟨j, ?_,k2⟩
  have:j∉v.ids:=fun hm=>by
   obtain⟨k4,k5⟩:=h2 j hm
   rcases k3 with⟨k6,k7⟩|⟨i,g,ep,k6,k8,k9,Y4⟩
   ·subst k7
    have:=yf _ k4 k6
    have g1:(o' j).live=true:=g1
    rw[this]at g1
    cases g1
   ·exact k5 g (List.mem_of_getElem? k8) ep Y4
  rw[f4 j this];exact k1
 have FV:∀i g val,G[i]? =some g->V.den (ay M φ H) φ H w g.x val->V.den (ay M aQ H') aQ H' w (.osl (c+i) 0) val:=by
  intro i g val hg this
  obtain⟨GL,bp⟩:=hG i g hg
  have cJ:c+i<c+G.length:=by have:=(List.getElem?_eq_some_iff.1 hg).1;omega
  rcases bp with⟨h3,_,_⟩|⟨j,ep,hj,h3,pM⟩
  ·rw[h3]at this
   simp only[V.den]at this
   rw[this]
   refine⟨rfl,cJ,fun e' oD=> ?_⟩
   have oD:(o' (c+i)).cy=some e':=oD
   rw[GL]at oD
   simp only[ab.cy,Option.some.injEq]at oD
   subst oD
   exact⟨Nat.le_refl _,fun _=>by rw[K5 i g hg,h3]⟩
  ·rw[h3]at this
   obtain⟨g1,g2,g3⟩:=this
   refine⟨g1,cJ,fun e' oD=> ?_⟩
   have oD:(o' (c+i)).cy=some e':=oD
   rw[GL]at oD
   simp only[ab.cy,Option.some.injEq]at oD
   subst oD
   have wF:(H.o j).cy=some ep:=by show(so j).cy=_;rw[pM];rfl
   exact⟨Nat.le_refl _,fun _=>by rw[K5 i g hg,h3];exact(g3 ep wF).2 rfl⟩
 have Sf:∀v v' val,K0 c G so gone v v'->V.den (ay M φ H) φ H w v val->V.den (ay M aQ H') aQ H' w v' val:=by
  intro v v' val h h1
  rcases h with rfl|⟨rfl,h2⟩|⟨i,g,hg,rfl,rfl⟩|⟨y,rfl,h2,h3⟩
  ·trivial
  ·exact fO _ _ h2 h1
  ·exact FV i g _ hg h1
  ·exact ac6 v y val h2 h3 h1
 refine⟨aQ,⟨fun id=> ?_,fun id hu=>hh id (by have: ¬id<c+G.length:=hu;omega),fun i j k h1 h2 h3 h4=> ?_,fun k hk=>hH.ours k (c7 k hk),hH.AL⟩,fun i=> ?_,c7,by show b<=c+G.length;omega,fun id aC hr=> ?_,fun id e' aC oD=> ?_⟩
 ·have bA:bc M φ H w id:=hH.ok id
  show bc M aQ H' w id
  unfold bc at bA|-
  by_cases cJ:id<c
  ·rcases ho id cJ with h3|⟨h3,hrefs⟩|⟨cs,cs',h3,h4,bZ⟩
   ·have e2:H'.o id= .no:=h3
    rw[e2];trivial
   ·have e1:H.o id=o' id:=h3
    have e2:H'.o id=o' id:=rfl
    rw[e1]at bA
    rw[e2,HP id cJ]
    cases I3:o' id with
    |no=>trivial
    |row cs=>
     simp only[I3]at bA hrefs|-
     obtain⟨b,dU,ty,k1,k2,k3,k4⟩:=bA
     exact⟨b,dU,ty,k1,k2,oK _ _ hrefs k3,k4⟩
    |arr ep ty sz es=>
     simp only[I3]at bA|-
     obtain⟨k1,xs,k2,evs,k3,k4,k5⟩:=bA
     exact⟨k1,xs,k2,evs,k3,k4,D.ba (fun b _ hn=>⟨rfl,hB b hn⟩) _ _ k5⟩
    |sv ep es=>
     simp only[I3]at bA|-
     exact D.aT (fun b _ hn=>⟨rfl,hB b hn⟩) _ _ bA
    |map kt vt es=>
     simp only[I3]at bA|-
     obtain⟨b,es',clock,k1,k2,k4,k3⟩:=bA
     exact⟨b,es',clock,k1,k2,k4,aY.mono (fun b _ hn=>⟨rfl,hB b hn⟩) _ _ k3⟩
    |iP l=>
     simp only[I3]at bA|-
     exact D.aT (fun b _ hn=>⟨rfl,hB b hn⟩) _ _ bA
    |mW l last=>
     simp only[I3]at bA|-
     obtain⟨b,k1,k2⟩:=bA
     exact⟨b,k1,k2.mono (fun b _ hn=>⟨rfl,hB b hn⟩) rfl⟩
    |za s pos=>
     simp only[I3]at bA|-
     exact bA
    |loop nf n env ps a b st pd=>
     simp only[I3]at bA hrefs|-
     obtain⟨b,r,k1,k2,k3,k4,k5,k6,k7,k8,k9,Y4⟩:=bA
     exact⟨b,r,k1,k2,k3,k4,k5,k6,k7,k8,k9,fun i=>fO _ _ (fun r hr=>hrefs r (V.rR _ _ r hr)) (Y4 i)⟩
   ·have e1:H.o id= .row cs:=h3
    have e2:H'.o id= .row cs':=h4
    rw[e1]at bA
    rw[e2,HP id cJ]
    obtain⟨b,dU,ty,k1,k2,k3,k4⟩:=bA
    exact⟨b,dU,ty,k1,k2,qC Sf _ _ _ bZ k3,k4⟩
  ·by_cases AO:c+G.length<=id
   ·have e2:H'.o id= .no:=hh id AO
    rw[e2];trivial
   ·obtain⟨i,rfl⟩:∃i,id=c+i:=⟨id - c,ad⟩
    obtain⟨g,hg⟩:∃g,G[i]? =some g:=⟨G[i]'ad,aj⟩
    obtain⟨GL,bp⟩:=hG i g hg
    have e2:H'.o (c+i)= .arr 0 g.ty g.sz g.es:=GL
    rw[e2]
    rcases bp with⟨h3,h4,eh⟩|⟨j,ep,hj,h3,pM⟩
    ·rw[h4]
     refine⟨eh,[], ?_,[],aj,aj,rfl⟩
     rw[K5 i g hg,h3]
     exact World.ownsRow_nil _ _ _ _
    ·have this:bc M φ H w j:=hH.ok j
     unfold bc at this
     have e3:H.o j= .arr ep g.ty g.sz g.es:=pM
     simp only[e3]at this
     obtain⟨k1,xs,k2,evs,k3,k4,k5⟩:=this
     exact⟨k1,xs,by rw[K5 i g hg,h3];exact k2,evs,k3,k4,D.ba (fun b _ hn=>⟨rfl,hB b hn⟩) _ _ k5⟩
 ·obtain⟨i',a1,a2,a3⟩:=hold i k h1 h3
  obtain⟨j',b1,b2,b3⟩:=hold j k h2 h4
  have:=hH.apart i' j' k a1 b1 a2 b2
  subst this
  have iJ:∀Dr,(o' Dr).live=true->Dr<c->gone Dr->False:=fun Dr g1 g2 g3=>by
   rw[yf _ g3 g2]at g1
   cases g1
  rcases a3 with⟨a3,a4⟩|⟨ia,ga,ea,a3,a4,a5,a6⟩<;>rcases b3 with⟨b3,b4⟩|⟨ib,gb,eb,b3,b4,b5,b6⟩
  ·omega
  ·exact(iJ i h1 a3 (a4 ▸ b5)).elim
  ·exact(iJ j h2 b3 (b4 ▸ a5)).elim
  ·have:=Tu ia ib ga gb _ _ _ a4 b4 a6 b6
   omega
 ·have hi:=FT l 0 he i
  rw[Nat.zero_add]at hi
  exact Sf _ _ _ hi (hd i)
 ·have cJ:id<c:=ad
  have hr:(o' id).cC=true:=hr
  exact⟨(JE id cJ).1.1 hr,HP id cJ⟩
 ·have cJ:id<c:=ad
  have oD:(o' id).cy=some e':=oD
  exact⟨e',(JE id cJ).1.2 e' oD,Nat.le_refl _,fun _=>HP id cJ⟩
theorem bM.aaR (gone:Nat->Prop)(c:Nat){b:Nat}{e:Nat->V}{so:Nat->ab}{m:Nat}(l:List V){o':Nat->ab}(hb:b<=c)
 (ho:∀id,id<c->wR c [] so gone (so id) (o' id)) (hh:∀id,c<=id->o' id= .no) (yf:∀id,gone id->id<c->o' id= .no) (he:mO c [] so gone e l 0):bM b ⟨e,so,m⟩ ⟨bB l,o',c⟩:=
 bM.see gone [] c l rfl hb ho (fun i g h=>by cases h) hh yf (fun i j gi gj id ep jr h=>by cases h) he
theorem bM.vi (gone:Nat->Prop)(x:V)(c:Nat){ty:TypeId}{sz:Nat}{es:List D}{b:Nat}{e:Nat->V}{so:Nat->ab}{m:Nat}(l:List V){o':Nat->ab}(hb:b<=c)
 (ho:∀id,id<c->wR c [⟨x,ty,sz,es⟩] so gone (so id) (o' id)) (hc:o' c= .arr 0 ty sz es) (hx:Eu so gone ty sz es x) (hh:∀id,c+1<=id->o' id= .no) (yf:∀id,gone id->id<c->o' id= .no)
 (he:mO c [⟨x,ty,sz,es⟩] so gone e l 0):bM b ⟨e,so,m⟩ ⟨bB l,o',c+1⟩:=
 bM.see gone [⟨x,ty,sz,es⟩] c l rfl hb ho (fun i g h=>by
  match i,h with
  |0,h=>simp at h;subst h;exact⟨hc,hx⟩) hh yf (fun i j gi gj id ep jr h h' _ _=>by
  match i,j,h,h' with
  |0,0,_,_=>rfl) he
theorem lt1{P:Nat->Prop}(h:P 0):∀id,id<1->P id:=fun id aC=>by
 have e:id=0:=ad
 rw[e];exact h
theorem lt3{P:Nat->Prop}(h:P 0)(h1:P 1)(h2:P 2):∀id,id<3->P id:=fun id aC=>by
 rcases(by omega:id=0\/id=1\/id=2)with rfl|rfl|rfl<;>assumption
theorem lt0{P:Nat->Prop}:∀id,id<0->P id:=fun id aC=>ad
@[go_sem] theorem adu (b:Bool):(b==false)= !b:=Jn
@[go_sem] theorem adv (b:Bool):(b==true)=b:=Jn
@[go_sem] theorem aaS (c:Bool) (v:V):V.zQ c (V.zQ c v)=V.zQ c v:=Nk
@[go_sem] theorem aaT (c:Bool):(c&&c)=c:=Nk
@[go_sem] theorem XL {α:Type} (f:α->D) (l:List α) (n:Nat) (h:∀x,(f x).cells.length=n):((l.map f).all fun z=>z.cells.length==n)=true:=by
  simp[List.all_eq_true,h]
attribute [go_sem] implies_true
attribute [go_sem] Option.isSome_none Option.getD_some Option.getD_none
theorem structOf{P:Program}{t:TypeId}(h:(match P.underlying t with|some (.struct _)=>true|_=>false)=true):∃fs,P.underlying t=some (.struct fs):=by
 split at h
 ·exact⟨_,by assumption⟩
 ·cases h
theorem aI{pr:List (List Nat)}{fp:List (List Nat×List Nat)}(h:fp.all (fun x=>x.2.isEmpty)=true):iO pr fp=true:=by
 have e:∀i,(fp.getD i ([],[])).2=[]:=fun i=>by
  rw[List.getD_eq_getElem?_getD]
  cases hi:fp[i]? with
  |none=>rfl
  |some x=>simpa using List.all_eq_true.1 h x (List.mem_of_getElem? hi)
 simp only[iO,List.all_eq_true,e,mV,List.all_nil,Bool.and_self,Bool.or_true,implies_true]
structure cW (base:Nat) (h o:Nat->ab) (nx:Nat):Prop where
 bP:Good o nx
 le:base<=nx
 eq:∀id,id<base->o id=h id
def StK(base:Nat)(h:Nat->ab)(v:V)(o:Nat->ab)(nx:Nat)(K:V->(Nat->ab)->Nat->Prop):Prop:=
 ∀o' nx',nx<=nx'->cW base h o' nx'->(∀id,base<=id->id<nx->o' id=o id)->K v o' nx'
def fM(P:Program)(g:FuncId)(args:List V)(base:Nat)(h h2:Nat->ab)(v:V):Prop:=
 ∀o nx,cW base h o nx->∀K X,StK base h2 v o nx K->cO P g args o nx K X
theorem cW.aM {base:Nat}{h o:Nat->ab}{nx m i:Nat}{x:ab}(hI:cW base h o nx)(hb:base<=i)(hi:i<m)(hm:nx<=m)(hx:x.refs.all (fun r=>decide (r<m))=true):cW base h (YtonbelhklnmjnaaGreat.aM o i x) m:=
 ⟨(hI.bP.mono hm).aM hi hx,Nat.le_trans hI.le hm,fun id aC=>by rw[ah _ _ _ _ (by omega)];exact hI.eq id aC⟩
theorem cW.mono {base:Nat}{h o:Nat->ab}{nx m:Nat}(hI:cW base h o nx)(hm:nx<=m):cW base h o m:=⟨hI.bP.mono hm,Nat.le_trans hI.le hm,hI.eq⟩
def ext(base:Nat)(h o:Nat->ab):Nat->ab:=fun id=>if id<base then h id else o id
theorem cW.ext {base c:Nat}{h o:Nat->ab}{nx:Nat}(hI:cW base h o nx)(hc:c<=nx)(hb:base<=c):cW c (YtonbelhklnmjnaaGreat.ext base h o) o nx:=
 ⟨hI.bP,hc,fun id _=>by unfold YtonbelhklnmjnaaGreat.ext;split<;>first|exact hI.eq id Jp|rfl⟩
theorem fM.ext {P:Program}{g:FuncId}{args:List V}{base c:Nat}{h h2:Nat->ab}{v:V}(hS:fM P g args base h h2 v)(hb:base<=c)(o0:Nat->ab):fM P g args c (YtonbelhklnmjnaaGreat.ext base h o0) (YtonbelhklnmjnaaGreat.ext base h2 o0) v:=by
 intro o nx hI K X hK
 refine hS o nx ⟨hI.bP,Nat.le_trans hb hI.le,fun id aC=>by rw[hI.eq id (by omega)];unfold YtonbelhklnmjnaaGreat.ext;rw[if_pos aC]⟩ K X fun o' nx' h1 h2 h3=>hK o' nx' h1 ⟨h2.bP,Nat.le_trans hI.le h1,fun id aC=> ?_⟩ (fun id h4 h5=>h3 id ad h5)
 unfold YtonbelhklnmjnaaGreat.ext
 split
 ·exact h2.eq id Jp
 ·rename_i hn
  rw[h3 id (by omega) (by have:=hI.le;omega),hI.eq id aC]
  unfold YtonbelhklnmjnaaGreat.ext;rw[if_neg hn]
theorem StK.ext {base c:Nat}{h o:Nat->ab}{v:V}{o1:Nat->ab}{nx AP:Nat}{K:V->(Nat->ab)->Nat->Prop}(hK:StK base h v o nx K)(hb:base<=c)(hn:nx<=AP)(hc:nx<=c)(ho:∀id,base<=id->id<nx->o1 id=o id):StK c (YtonbelhklnmjnaaGreat.ext base h o1) v o1 AP K:=by
 intro o' nx' h1 h2 h3
 refine hK o' nx' ad ⟨h2.bP,Nat.le_trans hb h2.le,fun id aC=> ?_⟩ fun id h4 h5=> ?_
 ·rw[h2.eq id (by omega)];unfold YtonbelhklnmjnaaGreat.ext;rw[if_pos aC]
 ·rw[h2.eq id (by omega), <- ho id h4 h5];unfold YtonbelhklnmjnaaGreat.ext;rw[if_neg (by omega)]
def aA{α σ:Type}(step:σ->α->σ×Bool)(s:σ):List α->σ×Bool
 |[]=>(s,true)
 |x::l=>if(step s x).2=true then aA step (step s x).1 l else((step s x).1,false)
theorem nI{P:Program}{id:Nat}{args:List V}{e:Nat->V}{o:Nat->ab}{nx:Nat}{K X:V->(Nat->ab)->Nat->Prop}(h:ec P id args o nx K X):xW P id K X ⟨e,o,nx⟩ args:=by unfold xW;exact h
theorem jn{α:Type}(f:Nat->α)(i:Nat)(x y:α):aM (aM f i x) i y=aM f i y:=by
 funext j;simp only[aM];split<;>rfl
attribute [go_sem] Int.cast_ofNat_Int
section
variable {P:Program}{n:Nat}{ps:List Nat}{x y:IC}{env:List V}{L:LoopState->Option jN->ab}
def iE(P:Program)(n:Nat)(env:List V)(ps:List Nat)(x y:IC)(L:LoopState->Option jN->ab):Prop:=∀st pd,L st pd= .loop P.funcs.size n env ps x y st pd
theorem Ev{bq:Nat}{gq:Operand}{Q:fS->S->Prop}{e:Nat->V}{o:Nat->ab}{nx:Nat}{f:FuncId}{cap:List V}(env:List V)(he:lQ e env 0)
 (h:∀L,iE P n env ps x y L->cO P f (.jU nx::cap) (aM o nx (L .ready none)) (nx+1)
  (fun _ o' nx'=>∃st pd,o' nx=L st pd/\st≠ .busy/\ph Q pd ⟨e,aM o' nx (L .exhausted pd),nx'⟩) (fun v o' nx'=>Q (.bU v) ⟨e,o',nx'⟩)):
 wQ P n bq false gq ps x y Q ⟨e,o,nx⟩ (.func (.func f) [] cap):=by
 refine HO env he ?_
 have:=h (fun st pd=> .loop P.funcs.size n env ps x y st pd) (fun _ _=>rfl)
 refine this.mono (fun v o' nx' hh=> ?_) (fun v o' nx' hh=>hh)
 obtain⟨st,pd,h1,h2,h3⟩:=hh
 exact⟨_,_,_,_,_,_,_,_,h1,h2,h3⟩
theorem vj(hL:iE P n env ps x y L)(bD:P.follows .mixedOrders=true){id:Nat}{args:List V}{o:Nat->ab}{nx:Nat}{K X:V->(Nat->ab)->Nat->Prop}{st:LoopState}{pd:Option jN}
 (ho:o id=L st pd) (cJ:id<nx) (El:ps.all (fun t=>decide (t<n))=true) (hl:args.length=ps.length)
 (h:kX P n nx true x (nH P n nx id y K X) ⟨nw (bB env) ps args,o,nx⟩):ec P id args o nx K X:=
 ec.aB bD (ho.trans (hL st pd)) cJ El hl h
theorem nJ(hL:iE P n env ps x y L){b id:Nat}{eJ:IC}{K X:V->(Nat->ab)->Nat->Prop}{e:Nat->V}{o:Nat->ab}{nx:Nat}{pd:Option jN}(h:o id=L .ready pd)
 (h2:kX P n b true eJ (jI id K X) ⟨e,aM o id (L .busy pd),nx⟩):nH P n b id eJ K X .normal ⟨e,o,nx⟩:=by
 refine Ad (h.trans (hL _ _)) ?_
 rw[<- hL];exact h2
theorem rU(hL:iE P n env ps x y L){id:Nat}{K X:V->(Nat->ab)->Nat->Prop}{e:Nat->V}{o:Nat->ab}{nx:Nat}{st:LoopState}{pd:Option jN}(h:o id=L st pd)(k:K (.d (.bool true)) (aM o id (L .ready none)) nx):jI id K X .normal ⟨e,o,nx⟩:=
 ⟨_,_,_,_,_,_,_,_,h.trans (hL _ _),by rw[<- hL];exact k⟩
theorem px(hL:iE P n env ps x y L){id:Nat}{K X:V->(Nat->ab)->Nat->Prop}{e:Nat->V}{o:Nat->ab}{nx:Nat}{st:LoopState}{pd:Option jN}(h:o id=L st pd)(k:K (.d (.bool false)) (aM o id (L .done (some .ret))) nx):jI id K X .ret ⟨e,o,nx⟩:=
 ⟨_,_,_,_,_,_,_,_,h.trans (hL _ _),by rw[<- hL];exact k⟩
theorem nK(hL:iE P n env ps x y L){id j:Nat}{K X:V->(Nat->ab)->Nat->Prop}{e:Nat->V}{o:Nat->ab}{nx:Nat}{st:LoopState}{pd:Option jN}(h:o id=L st pd)(k:K (.d (.bool false)) (aM o id (L .done (some (.exit j)))) nx):jI id K X (.exit j) ⟨e,o,nx⟩:=
 ⟨_,_,_,_,_,_,_,_,h.trans (hL _ _),by rw[<- hL];exact k⟩
theorem iE.no (hL:iE P n env ps x y L)(st:LoopState)(pd:Option jN):L st pd≠ .no:=by rw[hL];exact ab.noConfusion
theorem iE.refs (hL:iE P n env ps x y L)(st:LoopState)(pd:Option jN):(L st pd).refs=V.aO env:=by rw[hL];rfl
end
theorem cO.gen {P:Program}{g:FuncId}{args:List V}{o:Nat->ab}{nx:Nat}{K X:V->(Nat->ab)->Nat->Prop}(h:∀O,O=o->cO P g args O nx K X):cO P g args o nx K X:=h o rfl
end Go.Proofs.YtonbelhklnmjnaaGreat
