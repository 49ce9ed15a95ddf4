/-
  A PART OF THE PROOF. Conditions: none.
-/
import Derived.Test.YtonbelhklnmjnaaGreatRows
import Derived.Test.YtonbelhklnmjnaaGreatLa12
set_option linter.unusedSimpArgs false
set_option linter.unusedVariables false
namespace Go.Proofs.YtonbelhklnmjnaaGreat
def acr:IC:=
 (.seq (.af [mv 8 1,
 bk .add 9 3 8 1 3,
 sg 6 9]) (.block 0 (.loop (.seq (.seq (.af [mv 10 6,
 mv 11 2,
 bo .lss 12 3 10 11 3]) (.cond (.tmp 12) .skip (.exit 0))) (.seq (.block 1 (.seq (.af [mv 15 6,
 sg 7 15]) (.block 2 (.loop (.seq (.seq (.dx [mv 16 7,
 mv 17 1,
 bo .gtr 18 3 16 17 3,
 mv 19 18,
 gT (mv 20 0) 19,
 gT (mv 21 7) 19,
 gT (ia 22 41 20 21) 19,
 gT (ld 23 3 22) 19,
 gT (mv 24 0) 19,
 gT (mv 25 7) 19,
 gT (bk .sub 26 3 25 1 3) 19,
 gT (ia 27 41 24 26) 19,
 gT (ld 28 3 27) 19,
 gT (k2 29 213 23 28 3 3) 19,
 bQ 30 19 29]
 [[],[],[0,1],[2],[3],[3],[4,5,3],[6,3],[3],[3],[9,3],[8,10,3],[11,3],[7,12,3,3],[3,13]]) (.cond (.tmp 30) .skip (.exit 2))) (.seq (.block 3 (.dx [mv 33 0,
 mv 34 7,
 mv 35 0,
 mv 36 7,
 bk .sub 37 3 36 1 3,
 mv 38 0,
 mv 39 7,
 bk .sub 40 3 39 1 3,
 ia 41 41 38 40,
 ld 42 3 41,
 mv 43 0,
 mv 44 7,
 ia 45 41 43 44,
 ld 46 3 45,
 ia 47 41 33 34,
 st 3 47 42,
 ia 48 41 35 37,
 st 3 48 46]
 [[],[],[],[],[3],[],[],[6],[5,7],[8],[],[],[10,11],[12],[0,1,0,1,5,6,7,8,9,13],[14,9,0,1,5,6,7,8,9,13],[2,4,0,1,2,3,4,5,6,7,8,9,10,11,12,13,14,15],[16,13,15,0,1,2,3,4,5,6,7,8,9,10,11,12,13,14,15]])) (.af [mv 31 7,
 bk .sub 32 3 31 1 3,
 sg 7 32]))))))) (.af [mv 13 6,
 bk .add 14 3 13 1 3,
 sg 6 14]))))))
theorem acs:aD Tryz.prog 207 49 acr []:=
 ⟨_,Tryz.func207,ah,ah,ah,_,rfl,ah⟩
def acu:IC:=
 (.seq (.af [bD 4 false]) (.seq (.af [mv 5 0,
 k1 6 253 5 3,
 mv 7 6,
 gT (mv 8 1) 7,
 gT (k1 9 253 8 3) 7,
 gT (nt 10 4 9) 7,
 bQ 11 7 10,
 mv 12 11,
 gF (mv 13 0) 12,
 gF (mv 14 1) 12,
 gF (bo .lss 15 3 13 14 3) 12,
 dF 16 12 15,
 sg 4 16]) .ret))
theorem acv:aD Tryz.prog 213 17 acu [.tmp 4]:=
 ⟨_,Tryz.func213,ah,ah,ah,_,rfl,ah⟩
def acw:IC:=
 (.seq (.af [de 2 0]) (.seq (.seq (.af [mv 3 0,
 ⟨(some 4), .binOp .geq 208 (.tmp 3) (.const (.int .u64 4294967296)) 208,none⟩]) (.cond (.tmp 4) (.seq (.af [mv 5 0,
 ⟨(some 6), .binOp .shr 208 (.tmp 5) (.const (.int .u64 32)) 172,none⟩,
 sg 0 6]) (.af [de 2 32])) .skip)) (.seq (.seq (.af [mv 7 0,
 ⟨(some 8), .binOp .geq 208 (.tmp 7) (.const (.int .u64 65536)) 208,none⟩]) (.cond (.tmp 8) (.seq (.af [mv 9 0,
 ⟨(some 10), .binOp .shr 208 (.tmp 9) (.const (.int .u64 16)) 172,none⟩,
 sg 0 10]) (.af [mv 11 2,
 bk .add 12 3 11 16 3,
 sg 2 12])) .skip)) (.seq (.seq (.af [mv 13 0,
 ⟨(some 14), .binOp .geq 208 (.tmp 13) (.const (.int .u64 256)) 208,none⟩]) (.cond (.tmp 14) (.seq (.af [mv 15 0,
 ⟨(some 16), .binOp .shr 208 (.tmp 15) (.const (.int .u64 8)) 172,none⟩,
 sg 0 16]) (.af [mv 17 2,
 bk .add 18 3 17 8 3,
 sg 2 18])) .skip)) (.seq (.af [mv 19 2,
 mv 20 0,
 ⟨(some 21), .convert 208 5 (.tmp 20),none⟩,
 ⟨(some 22), .index 9 (.const (.string {data:=#[0,1,2,2,3,3,3,3,4,4,4,4,4,4,4,4,5,5,5,5,5,5,5,5,5,5,5,5,5,5,5,5,6,6,6,6,6,6,6,6,6,6,6,6,6,6,6,6,6,6,6,6,6,6,6,6,6,6,6,6,6,6,6,6,7,7,7,7,7,7,7,7,7,7,7,7,7,7,7,7,7,7,7,7,7,7,7,7,7,7,7,7,7,7,7,7,7,7,7,7,7,7,7,7,7,7,7,7,7,7,7,7,7,7,7,7,7,7,7,7,7,7,7,7,7,7,7,7,8,8,8,8,8,8,8,8,8,8,8,8,8,8,8,8,8,8,8,8,8,8,8,8,8,8,8,8,8,8,8,8,8,8,8,8,8,8,8,8,8,8,8,8,8,8,8,8,8,8,8,8,8,8,8,8,8,8,8,8,8,8,8,8,8,8,8,8,8,8,8,8,8,8,8,8,8,8,8,8,8,8,8,8,8,8,8,8,8,8,8,8,8,8,8,8,8,8,8,8,8,8,8,8,8,8,8,8,8,8,8,8,8,8,8,8,8,8,8,8,8,8,8,8,8,8,8,8]})) (.tmp 21),none⟩,
 ⟨(some 23), .convert 5 3 (.tmp 22),none⟩,
 bo .add 24 3 19 23 3,
 sg 2 24]) .ret)))))
theorem acx:aD Tryz.prog 217 25 acw [.tmp 2]:=
 ⟨_,Tryz.func217,ah,ah,ah,_,rfl,ah⟩
def WD:IC:=
 (.seq (.af [bx 2 31 0,
 bx 3 31 1,
 bD 4 false]) (.seq (.af [fa 5 31 2 0,
 ld 6 29 5,
 fa 7 31 3 0,
 ld 8 29 7,
 bo .eql 9 29 6 8 29,
 mv 10 9,
 gT (fa 11 31 2 1) 10,
 gT (ld 12 3 11) 10,
 gT (fa 13 31 3 1) 10,
 gT (ld 14 3 13) 10,
 gT (bo .eql 15 3 12 14 3) 10,
 bQ 16 10 15,
 mv 17 16,
 gT (fa 18 31 2 2) 17,
 gT (ld 19 28 18) 17,
 gT (fa 20 31 3 2) 17,
 gT (ld 21 28 20) 17,
 ⟨(some 22), .call {callee:= .value (.func 114),args:=#[.tmp 19, .tmp 21, .func 218],argTypes:=#[28,28,51]},(some (17,true))⟩,
 bQ 23 17 22,
 sg 4 23]) .ret))
theorem SJ:aD Tryz.prog 218 24 WD [.tmp 4]:=
 ⟨_,Tryz.func218,ah,ah,ah,_,rfl,ah⟩
def WE:IC:=
 (.seq (.af [bx 3 119 0,
 bx 4 31 1,
 bx 5 35 2]) (.seq (.af [fa 8 35 5 1,
 fa 9 31 8 0,
 ld 10 29 9,
 fa 11 31 4 0,
 ld 12 29 11,
 bo .eql 13 29 10 12 29,
 mv 14 13,
 gT (fa 15 35 5 1) 14,
 gT (fa 16 31 15 1) 14,
 gT (ld 17 3 16) 14,
 gT (fa 18 31 4 1) 14,
 gT (ld 19 3 18) 14,
 gT (bo .eql 20 3 17 19 3) 14,
 bQ 21 14 20,
 mv 22 21,
 gT (fa 23 35 5 1) 22,
 gT (fa 24 31 23 2) 22,
 gT (ld 25 28 24) 22,
 gT (ln 26 25 28) 22,
 gT (fa 27 35 5 4) 22,
 gT (ld 28 33 27) 22,
 gT (ln 29 28 33) 22,
 gT (bo .eql 30 3 26 29 3) 22,
 bQ 31 22 30,
 k1 32 128 31 4]) (.seq (.seq (.af [fa 33 35 5 4,
 ld 34 33 33,
 ln 35 34 33,
 vZ 36 0]) (.block 0 (.loop (.seq (.af [bo .lss 37 3 36 35 3]) (.seq (.cond (.tmp 37) .skip (.exit 0)) (.seq (.block 1 (.seq (.af [mv 38 36,
 ia 39 33 34 36,
 ld 40 35 39,
 al 7 35,
 sg 6 38,
 st 35 7 40]) (.dx [fa 41 35 7 1,
 ld 42 31 41,
 fa 43 35 5 1,
 fa 44 31 43 2,
 ld 45 28 44,
 mv 46 6,
 ia 47 28 45 46,
 ld 48 31 47,
 k2 49 218 42 48 31 31,
 k1 50 128 49 4]
 [[],[0],[],[2],[3],[],[4,5],[6],[1,7],[8,8]]))) (.af [bk .add 51 3 36 1 3,
 mv 36 51]))))))) (.af [ld 52 119 3,
 fa 53 31 4 2,
 ld 54 28 53,
 fa 55 35 5 4,
 ld 56 33 55,
 k3 57 221 52 54 56 119 28 33]))))
theorem SK:aD Tryz.prog 219 58 WE []:=
 ⟨_,Tryz.func219,ah,ah,ah,_,rfl,ah⟩
def WG:IC:=
 (.seq (.af [bx 2 31 0,
 al 4 31]) (.seq (.seq (.af [fa 8 31 2 0,
 ld 9 29 8,
 bk .eql 10 29 9 1 29]) (.cond (.tmp 10) (.seq (.af [mv 11 1,
 fa 12 31 2 1,
 ld 13 3 12,
 ia 14 28 11 13,
 ld 15 31 14,
 st 31 4 15]) .ret) .skip)) (.seq (.af [fa 16 31 2 0,
 ld 17 29 16,
 fa 18 31 2 1,
 ld 19 3 18,
 ⟨(some 20), .build 31 #[(0, .tmp 17),(1, .tmp 19)],none⟩,
 al 5 31,
 st 31 5 20]) (.seq (.seq (.af [fa 21 31 2 2,
 ld 22 28 21,
 ln 23 22 28,
 vZ 24 0]) (.block 0 (.loop (.seq (.af [bo .lss 25 3 24 23 3]) (.seq (.cond (.tmp 25) .skip (.exit 0)) (.seq (.block 1 (.seq (.af [ia 26 28 22 24,
 ld 27 31 26,
 al 7 31,
 st 31 7 27]) (.dx [fa 28 31 5 2,
 ld 29 28 28,
 ld 30 31 7,
 mv 31 1,
 k2 32 220 30 31 31 28,
 ⟨(some 33), .buildSlice 28 1 #[(0, .tmp 32)],none⟩,
 ⟨(some 34), .call {callee:= .builtin .append,args:=#[.tmp 29, .tmp 33],argTypes:=#[28,28]},none⟩,
 fa 35 31 5 2,
 st 28 35 34]
 [[],[0],[],[],[2,3],[4],[1,5,4],[0,1,2,3,4,5,6],[7,6,6,0,1,2,3,4,5,6]]))) (.af [bk .add 36 3 24 1 3,
 mv 24 36]))))))) (.seq (.af [ld 37 31 5,
 st 31 4 37]) .ret)))))
theorem SL:aD Tryz.prog 220 38 WG [.cell 4 31]:=
 ⟨_,Tryz.func220,ah,ah,ah,_,rfl,ah⟩
def WH:IC:=
 (.seq (.af [bx 3 119 0]) (.seq (.af [mv 8 1,
 ln 9 8 28,
 mv 10 2,
 ln 11 10 33,
 bo .eql 12 3 9 11 3,
 k1 13 128 12 4]) (.seq (.af [mv 14 2,
 ln 15 14 33,
 vZ 16 0]) (.block 0 (.loop (.seq (.af [bo .lss 17 3 16 15 3]) (.seq (.cond (.tmp 17) .skip (.exit 0)) (.seq (.block 1 (.seq (.af [mv 18 16,
 ia 19 33 14 16,
 ld 20 35 19,
 al 7 35,
 sg 6 18,
 st 35 7 20]) (.dx [ld 21 119 3,
 mv 22 1,
 mv 23 6,
 ia 24 28 22 23,
 ld 25 31 24,
 ld 26 35 7,
 k3 27 93 21 25 26 119 31 35]
 [[],[],[],[1,2],[3],[],[0,4,5]]))) (.af [bk .add 28 3 16 1 3,
 mv 16 28])))))))))
theorem SM:aD Tryz.prog 221 29 WH []:=
 ⟨_,Tryz.func221,ah,ah,ah,_,rfl,ah⟩
def WI:IC:=
 (.seq (.af [bx 2 119 0,
 al 4 119]) (.seq (.af [fa 5 119 2 0,
 ld 6 27 5,
 mv 7 1,
 ⟨(some 8), .build 119 #[(0, .tmp 6),(1, .tmp 7)],none⟩,
 st 119 4 8]) .ret))
theorem SN:aD Tryz.prog 222 9 WI [.cell 4 119]:=
 ⟨_,Tryz.func222,ah,ah,ah,_,rfl,ah⟩
def WJ:IC:=
 (.seq (.af [bx 2 106 0,
 ⟨(some 4), .assign (.const (.slice none 0 0)),none⟩]) (.seq (.af [mv 7 1,
 k1 8 94 7 28,
 al 5 28,
 st 28 5 8]) (.seq (.af [al 6 169]) (.seq (.af [⟨(some 9), .makeFunc (.func 254) #[] #[.tmp 5, .tmp 6],none⟩,
 st 169 6 9]) (.seq (.af [ld 10 169 6,
 fa 11 106 2 2,
 ld 12 31 11,
 ⟨(some 13), .call {callee:= .value (.tmp 10),args:=#[.tmp 12],argTypes:=#[31]},none⟩]) (.seq (.af [ld 14 28 5,
 sg 4 14]) .ret))))))
theorem SO:aD Tryz.prog 223 15 WJ [.tmp 4]:=
 ⟨_,Tryz.func223,ah,ah,ah,_,rfl,ah⟩
def WK:IC:=
 (.seq (.af [bx 4 119 0,
 bx 5 31 1,
 bx 6 35 2]) (.seq (.dx [fa 8 31 5 0,
 ld 9 29 8,
 bk .eql 10 29 9 7 29,
 mv 11 10,
 gT (fa 12 35 6 4) 11,
 gT (ld 13 33 12) 11,
 gT (ln 14 13 33) 11,
 gT (bk .eql 15 3 14 1 3) 11,
 bQ 16 11 15,
 mv 17 16,
 gT (fa 18 35 6 4) 17,
 gT (ld 19 33 18) 17,
 ⟨(some 20), .indexAddr 33 (.tmp 19) (.const (.int .i64 0)),(some (17,true))⟩,
 gT (fa 21 35 20 1) 17,
 gT (ld 22 31 21) 17,
 gT (fa 23 35 6 1) 17,
 gT (ld 24 31 23) 17,
 gT (k2 25 218 22 24 31 31) 17,
 bQ 26 17 25,
 k1 27 128 26 4]
 [[],[0],[1],[2],[3],[4,3],[5,3],[6,3],[3,7],[8,3],[9],[10,9],[11,9],[12,9],[13,9],[9],[15,9],[14,16,9,9],[9,17],[18,17]]) (.dx [ld 28 119 4,
 fa 29 31 5 2,
 ld 30 28 29,
 mv 31 3,
 ia 32 28 30 31,
 ld 33 31 32,
 fa 34 35 6 4,
 ld 35 33 34,
 ⟨(some 36), .indexAddr 33 (.tmp 35) (.const (.int .i64 0)),none⟩,
 ld 37 35 36,
 k3 38 93 28 33 37 119 31 35]
 [[],[],[1],[],[2,3],[4],[],[6],[7],[8],[0,5,9]])))
theorem SP:aD Tryz.prog 224 39 WK []:=
 ⟨_,Tryz.func224,ah,ah,ah,_,rfl,ah⟩
def WL:IC:=
 (.seq (.af [bx 1 133 0,
 al 2 31]) (.seq (.af [⟨(some 3), .build 31 #[(0, .const (.int .i64 16))],none⟩,
 st 31 2 3]) .ret))
theorem SQ:aD Tryz.prog 225 4 WL [.cell 2 31]:=
 ⟨_,Tryz.func225,ah,ah,ah,_,rfl,ah⟩
def WM:IC:=
 (.seq (.af [bx 4 119 0,
 bx 5 31 1,
 bx 6 35 2,
 al 8 31,
 al 9 31]) (.seq (.af [mv 10 3,
 fa 11 31 5 0,
 ld 12 29 11,
 k2 13 255 10 12 225 29,
 k1 14 128 13 4]) (.seq (.af [ld 15 119 4,
 fa 16 31 5 2,
 ld 17 28 16,
 fa 18 35 6 4,
 ld 19 33 18,
 k3 20 221 15 17 19 119 28 33]) (.seq (.dx [fa 21 35 6 4,
 ld 22 33 21,
 ⟨(some 23), .indexAddr 33 (.tmp 22) (.const (.int .i64 0)),none⟩,
 fa 24 35 23 1,
 ld 25 31 24,
 fa 26 35 6 4,
 ld 27 33 26,
 ⟨(some 28), .indexAddr 33 (.tmp 27) (.const (.int .i64 1)),none⟩,
 fa 29 35 28 1,
 ld 30 31 29,
 st 31 8 25,
 st 31 9 30]
 [[],[0],[1],[2],[3],[],[5],[6],[7],[8],[4,0,1,2,3,4],[9,10,0,1,2,3,4,5,6,7,8,9,10]]) .ret))))
theorem SR:aD Tryz.prog 226 31 WM [.cell 8 31, .cell 9 31]:=
 ⟨_,Tryz.func226,ah,ah,ah,_,rfl,ah⟩
def WN:IC:=
 (.seq (.af [al 2 31]) (.seq (.seq (.af [mv 3 0]) (.cond (.tmp 3) (.seq (.af [⟨(some 4), .build 31 #[(0, .const (.int .i64 3)),(1, .const (.int .i64 1))],none⟩,
 st 31 2 4]) .ret) .skip)) (.seq (.af [⟨(some 5), .build 31 #[(0, .const (.int .i64 3))],none⟩,
 st 31 2 5]) .ret)))
theorem SS:aD Tryz.prog 227 6 WN [.cell 2 31]:=
 ⟨_,Tryz.func227,ah,ah,ah,_,rfl,ah⟩
def WO:IC:=
 (.seq (.af [bx 2 27 0,
 al 4 31]) (.seq (.af [mv 7 1,
 ⟨(some 8), .build 31 #[(0, .const (.int .i64 4)),(1, .tmp 7)],none⟩,
 al 5 31,
 st 31 5 8]) (.seq (.seq (.af [fa 9 27 2 0,
 fa 10 24 9 1,
 ld 11 22 10,
 mv 12 1,
 ia 13 22 11 12,
 fa 14 104 13 1,
 ld 15 3 14,
 vZ 16 0]) (.block 0 (.loop (.seq (.af [bo .lss 17 3 16 15 3]) (.seq (.cond (.tmp 17) .skip (.exit 0)) (.seq (.block 1 (.seq (.af [mv 18 16,
 sg 6 18]) (.dx [fa 19 31 5 2,
 ld 20 28 19,
 mv 21 6,
 k1 22 256 21 134,
 ⟨(some 23), .buildSlice 28 1 #[(0, .tmp 22)],none⟩,
 ⟨(some 24), .call {callee:= .builtin .append,args:=#[.tmp 20, .tmp 23],argTypes:=#[28,28]},none⟩,
 fa 25 31 5 2,
 st 28 25 24]
 [[],[0],[],[2],[3],[1,4,3],[0,1,2,3,4,5],[6,5,5,0,1,2,3,4,5]]))) (.af [bk .add 26 3 16 1 3,
 mv 16 26]))))))) (.seq (.af [ld 27 31 5,
 st 31 4 27]) .ret))))
theorem SU:aD Tryz.prog 228 28 WO [.cell 4 31]:=
 ⟨_,Tryz.func228,ah,ah,ah,_,rfl,ah⟩
def WQ:IC:=
 (.seq (.af [de 4 0]) (.seq (.seq (.af [mv 6 0,
 ln 7 6 25,
 vZ 8 0]) (.block 0 (.loop (.seq (.af [bo .lss 9 3 8 7 3]) (.seq (.cond (.tmp 9) .skip (.exit 0)) (.seq (.block 1 (.seq (.af [mv 10 8,
 sg 5 10]) (.seq (.af [mv 11 1,
 mv 12 0,
 mv 13 5,
 ia 14 25 12 13,
 ld 15 106 14,
 ⟨(some 16), .call {callee:= .value (.tmp 11),args:=#[.tmp 15],argTypes:=#[106]},none⟩]) (.cond (.tmp 16) (.seq (.af [mv 17 5,
 sg 4 17]) .ret) .skip)))) (.af [bk .add 18 3 8 1 3,
 mv 8 18]))))))) (.seq (.af [de 4 (-1)]) .ret)))
theorem SV:aD Tryz.prog 229 19 WQ [.tmp 4]:=
 ⟨_,Tryz.func229,ah,ah,ah,_,rfl,ah⟩
def WR:IC:=
 (.seq (.af [bx 2 31 0,
 bD 3 false]) (.seq (.af [ld 4 46 1,
 ld 5 31 2,
 ⟨(some 6), .call {callee:= .value (.tmp 4),args:=#[.tmp 5],argTypes:=#[31]},none⟩,
 nt 7 4 6,
 sg 3 7]) .ret))
theorem SW:aD Tryz.prog 230 8 WR [.tmp 3]:=
 ⟨_,Tryz.func230,ah,ah,ah,_,rfl,ah⟩
def WS:IC:=
 (.seq (.af [bx 1 31 0,
 ⟨(some 2), .assign (.const .nilFunc),none⟩]) (.seq (.af [⟨(some 3), .makeFunc (.func 257) #[] #[.tmp 1],none⟩,
 sg 2 3]) .ret))
theorem SX:aD Tryz.prog 231 4 WS [.tmp 2]:=
 ⟨_,Tryz.func231,ah,ah,ah,_,rfl,ah⟩
def WT:IC:=
 (.seq (.af [bD 4 false]) (.seq (.af [mv 5 0,
 mv 6 1,
 k2 7 259 5 6 41 3,
 bk .geq 8 3 7 0 3,
 sg 4 8]) .ret))
theorem SY:aD Tryz.prog 232 9 WT [.tmp 4]:=
 ⟨_,Tryz.func232,ah,ah,ah,_,rfl,ah⟩
def WU:IC:=
 (.seq (.af [⟨(some 2), .assign (.const (.slice none 0 0)),none⟩]) (.seq (.seq (.af [mv 3 0,
 ⟨(some 4), .binOp .eql 41 (.tmp 3) (.const (.slice none 0 0)) 41,none⟩]) (.cond (.tmp 4) (.seq (.af [⟨(some 2), .assign (.const (.slice none 0 0)),none⟩]) .ret) .skip)) (.seq (.af [⟨(some 5), .buildSlice 41 0 #[],none⟩,
 mv 6 0,
 ⟨(some 7), .call {callee:= .builtin .append,args:=#[.tmp 5, .tmp 6],argTypes:=#[41,41]},none⟩,
 sg 2 7]) .ret)))
theorem SZ:aD Tryz.prog 233 8 WU [.tmp 2]:=
 ⟨_,Tryz.func233,ah,ah,ah,_,rfl,ah⟩
def acy:IC:=
 (.seq (.af [al 2 31]) (.seq (.af [mv 3 0,
 ⟨(some 4), .build 31 #[(2, .tmp 3)],none⟩,
 st 31 2 4]) .ret))
theorem acz:aD Tryz.prog 234 5 acy [.cell 2 31]:=
 ⟨_,Tryz.func234,ah,ah,ah,_,rfl,ah⟩
def Py:IC:=
 (.seq (.af [bx 1 31 0,
 ⟨(some 2), .assign (.const (.slice none 0 0)),none⟩]) (.seq (.af [⟨(some 3), .assign (.const (.slice none 0 0)),none⟩]) (.seq (.seq (.af [fa 5 31 1 0,
 ld 6 29 5,
 bk .eql 7 29 6 8 29]) (.cond (.tmp 7) (.af [mv 8 3,
 fa 9 31 1 1,
 ld 10 3 9,
 ⟨(some 11), .buildSlice 41 1 #[(0, .tmp 10)],none⟩,
 ⟨(some 12), .call {callee:= .builtin .append,args:=#[.tmp 8, .tmp 11],argTypes:=#[41,41]},none⟩,
 sg 3 12]) .skip)) (.seq (.seq (.af [de 4 0]) (.block 0 (.loop (.seq (.seq (.af [mv 13 4,
 fa 14 31 1 2,
 ld 15 28 14,
 ln 16 15 28,
 bo .lss 17 3 13 16 3]) (.cond (.tmp 17) .skip (.exit 0))) (.seq (.block 1 (.af [mv 20 3,
 fa 21 31 1 2,
 ld 22 28 21,
 mv 23 4,
 ia 24 28 22 23,
 ld 25 31 24,
 k1 26 235 25 31,
 ⟨(some 27), .call {callee:= .builtin .append,args:=#[.tmp 20, .tmp 26],argTypes:=#[41,41]},none⟩,
 sg 3 27])) (.af [mv 18 4,
 bk .add 19 3 18 1 3,
 sg 4 19])))))) (.seq (.af [mv 28 3,
 sg 2 28]) .ret)))))
theorem acA:aD Tryz.prog 235 29 Py [.tmp 2]:=
 ⟨_,Tryz.func235,ah,ah,ah,_,rfl,ah⟩
def acB:IC:=
 (.seq (.af [bD 4 false]) (.seq (.seq (.af [de 5 0]) (.block 0 (.loop (.seq (.seq (.af [mv 6 5,
 mv 7 0,
 ln 8 7 41,
 bo .lss 9 3 6 8 3]) (.cond (.tmp 9) .skip (.exit 0))) (.seq (.block 1 (.seq (.af [mv 12 0,
 mv 13 5,
 ia 14 41 12 13,
 ld 15 3 14,
 mv 16 1,
 bo .eql 17 3 15 16 3]) (.cond (.tmp 17) (.seq (.af [bD 4 true]) .ret) .skip))) (.af [mv 10 5,
 bk .add 11 3 10 1 3,
 sg 5 11])))))) (.seq (.af [bD 4 false]) .ret)))
theorem acC:aD Tryz.prog 236 18 acB [.tmp 4]:=
 ⟨_,Tryz.func236,ah,ah,ah,_,rfl,ah⟩
def acD:IC:=
 (.seq (.af [⟨(some 2), .assign (.const (.slice none 0 0)),none⟩]) (.seq (.af [⟨(some 3), .assign (.const (.slice none 0 0)),none⟩]) (.seq (.seq (.af [de 4 0]) (.block 0 (.loop (.seq (.seq (.af [mv 5 4,
 mv 6 0,
 bo .lss 7 3 5 6 3]) (.cond (.tmp 7) .skip (.exit 0))) (.seq (.block 1 (.af [mv 10 3,
 mv 11 4,
 k1 12 81 11 3,
 ⟨(some 13), .buildSlice 28 1 #[(0, .tmp 12)],none⟩,
 ⟨(some 14), .call {callee:= .builtin .append,args:=#[.tmp 10, .tmp 13],argTypes:=#[28,28]},none⟩,
 sg 3 14])) (.af [mv 8 4,
 bk .add 9 3 8 1 3,
 sg 4 9])))))) (.seq (.af [mv 15 3,
 sg 2 15]) .ret))))
theorem acE:aD Tryz.prog 237 16 acD [.tmp 2]:=
 ⟨_,Tryz.func237,ah,ah,ah,_,rfl,ah⟩
def WV:IC:=
 (.seq (.af [bx 2 195 0,
 bx 3 31 1,
 bD 4 false]) (.seq (.af [fa 5 31 3 1,
 ld 6 3 5,
 ⟨(some 7), .call {callee:= .value (.func 155),args:=#[.tmp 6, .const (.int .i64 0), .const (.int .i64 19)],argTypes:=#[3,3,3]},none⟩,
 mv 8 7,
 gT (fa 9 31 3 2) 8,
 gT (ld 10 28 9) 8,
 gT (ln 11 10 28) 8,
 gT (bk .eql 12 3 11 0 3) 8,
 bQ 13 8 12,
 sg 4 13]) .ret))
theorem S0:aD Tryz.prog 238 14 WV [.tmp 4]:=
 ⟨_,Tryz.func238,ah,ah,ah,_,rfl,ah⟩
def WW:IC:=
 (.seq (.af [bx 2 195 0,
 bx 3 31 1,
 bD 4 false]) (.seq (.af [fa 5 31 3 1,
 ld 6 3 5,
 ⟨(some 7), .call {callee:= .value (.func 155),args:=#[.tmp 6, .const (.int .i64 (-1000000)), .const (.int .i64 1000000)],argTypes:=#[3,3,3]},none⟩,
 mv 8 7,
 gT (fa 9 31 3 2) 8,
 gT (ld 10 28 9) 8,
 gT (ln 11 10 28) 8,
 gT (bk .eql 12 3 11 0 3) 8,
 bQ 13 8 12,
 sg 4 13]) .ret))
theorem S1:aD Tryz.prog 239 14 WW [.tmp 4]:=
 ⟨_,Tryz.func239,ah,ah,ah,_,rfl,ah⟩
def WX:IC:=
 (.seq (.af [bx 2 195 0,
 bx 3 31 1,
 bD 4 false]) (.seq (.dx [fa 5 31 3 1,
 ld 6 3 5,
 fa 7 195 2 0,
 fa 8 24 7 0,
 ld 9 22 8,
 ln 10 9 22,
 bk .sub 11 3 10 1 3,
 ⟨(some 12), .call {callee:= .value (.func 155),args:=#[.tmp 6, .const (.int .i64 0), .tmp 11],argTypes:=#[3,3,3]},none⟩,
 mv 13 12,
 gT (fa 14 31 3 2) 13,
 gT (ld 15 28 14) 13,
 gT (ln 16 15 28) 13,
 gT (fa 17 195 2 0) 13,
 gT (fa 18 24 17 0) 13,
 gT (ld 19 22 18) 13,
 gT (fa 20 31 3 1) 13,
 gT (ld 21 3 20) 13,
 gT (ia 22 22 19 21) 13,
 gT (fa 23 104 22 1) 13,
 gT (ld 24 3 23) 13,
 gT (bo .eql 25 3 16 24 3) 13,
 bQ 26 13 25,
 sg 4 26]
 [[],[0],[],[2],[3],[4],[5],[1,6],[7,7],[8],[9,8],[10,8],[8],[12,8],[13,8],[8],[15,8],[14,16,8],[17,8],[18,8],[11,19,8],[8,20],[21,8,0,1,2,3,4,5,6,7,8,9,10,11,12,13,14,15,16,17,18,19,20,21]]) .ret))
theorem S2:aD Tryz.prog 240 27 WX [.tmp 4]:=
 ⟨_,Tryz.func240,ah,ah,ah,_,rfl,ah⟩
def WY:IC:=
 (.seq (.af [bx 2 195 0,
 bx 3 31 1,
 bD 4 false]) (.seq (.dx [fa 5 31 3 1,
 ld 6 3 5,
 fa 7 195 2 0,
 fa 8 24 7 1,
 ld 9 22 8,
 ln 10 9 22,
 bk .sub 11 3 10 1 3,
 ⟨(some 12), .call {callee:= .value (.func 155),args:=#[.tmp 6, .const (.int .i64 0), .tmp 11],argTypes:=#[3,3,3]},none⟩,
 mv 13 12,
 gT (fa 14 31 3 2) 13,
 gT (ld 15 28 14) 13,
 gT (ln 16 15 28) 13,
 gT (fa 17 195 2 0) 13,
 gT (fa 18 24 17 1) 13,
 gT (ld 19 22 18) 13,
 gT (fa 20 31 3 1) 13,
 gT (ld 21 3 20) 13,
 gT (ia 22 22 19 21) 13,
 gT (fa 23 104 22 1) 13,
 gT (ld 24 3 23) 13,
 gT (bo .eql 25 3 16 24 3) 13,
 bQ 26 13 25,
 sg 4 26]
 [[],[0],[],[2],[3],[4],[5],[1,6],[7,7],[8],[9,8],[10,8],[8],[12,8],[13,8],[8],[15,8],[14,16,8],[17,8],[18,8],[11,19,8],[8,20],[21,8,0,1,2,3,4,5,6,7,8,9,10,11,12,13,14,15,16,17,18,19,20,21]]) .ret))
theorem S3:aD Tryz.prog 241 27 WY [.tmp 4]:=
 ⟨_,Tryz.func241,ah,ah,ah,_,rfl,ah⟩
def WZ:IC:=
 (.seq (.af [bx 2 195 0,
 bx 3 31 1,
 bD 4 false]) (.seq (.dx [fa 5 31 3 1,
 ld 6 3 5,
 fa 7 195 2 0,
 fa 8 24 7 1,
 ld 9 22 8,
 ln 10 9 22,
 bk .sub 11 3 10 1 3,
 ⟨(some 12), .call {callee:= .value (.func 155),args:=#[.tmp 6, .const (.int .i64 0), .tmp 11],argTypes:=#[3,3,3]},none⟩,
 mv 13 12,
 gT (fa 14 31 3 2) 13,
 gT (ld 15 28 14) 13,
 gT (ln 16 15 28) 13,
 gT (fa 17 195 2 0) 13,
 gT (fa 18 24 17 1) 13,
 gT (ld 19 22 18) 13,
 gT (fa 20 31 3 1) 13,
 gT (ld 21 3 20) 13,
 gT (ia 22 22 19 21) 13,
 gT (fa 23 104 22 1) 13,
 gT (ld 24 3 23) 13,
 gT (bo .lss 25 3 16 24 3) 13,
 bQ 26 13 25,
 sg 4 26]
 [[],[0],[],[2],[3],[4],[5],[1,6],[7,7],[8],[9,8],[10,8],[8],[12,8],[13,8],[8],[15,8],[14,16,8],[17,8],[18,8],[11,19,8],[8,20],[21,8,0,1,2,3,4,5,6,7,8,9,10,11,12,13,14,15,16,17,18,19,20,21]]) .ret))
theorem S4:aD Tryz.prog 242 27 WZ [.tmp 4]:=
 ⟨_,Tryz.func242,ah,ah,ah,_,rfl,ah⟩
def W0:IC:=
 (.seq (.af [bx 2 195 0,
 bx 3 31 1,
 bD 4 false]) (.seq (.af [fa 5 31 3 1,
 ld 6 3 5,
 ⟨(some 7), .call {callee:= .value (.func 155),args:=#[.tmp 6, .const (.int .i64 0), .const (.int .i64 19)],argTypes:=#[3,3,3]},none⟩,
 mv 8 7,
 gT (fa 9 31 3 2) 8,
 gT (ld 10 28 9) 8,
 gT (ln 11 10 28) 8,
 gT (bk .eql 12 3 11 2 3) 8,
 bQ 13 8 12,
 sg 4 13]) .ret))
theorem S5:aD Tryz.prog 243 14 W0 [.tmp 4]:=
 ⟨_,Tryz.func243,ah,ah,ah,_,rfl,ah⟩
def W1:IC:=
 (.seq (.af [bx 2 195 0,
 bx 3 31 1,
 bD 4 false]) (.seq (.af [fa 5 31 3 1,
 ld 6 3 5,
 bk .eql 7 3 6 0 3,
 mv 8 7,
 gT (fa 9 31 3 2) 8,
 gT (ld 10 28 9) 8,
 gT (ln 11 10 28) 8,
 gT (bk .eql 12 3 11 2 3) 8,
 bQ 13 8 12,
 sg 4 13]) .ret))
theorem S6:aD Tryz.prog 244 14 W1 [.tmp 4]:=
 ⟨_,Tryz.func244,ah,ah,ah,_,rfl,ah⟩
def W2:IC:=
 (.seq (.af [bx 2 154 0]) (.seq (.af [al 3 154]) (.seq (.af [⟨(some 4), .makeFunc (.func 246) #[] #[.tmp 2, .tmp 3],none⟩,
 st 154 3 4]) (.af [ld 5 154 3,
 ld 6 31 1,
 ⟨(some 7), .call {callee:= .value (.tmp 5),args:=#[.tmp 6, .const (.int .i64 1)],argTypes:=#[31,3]},none⟩]))))
theorem S7:aD Tryz.prog 245 8 W2 []:=
 ⟨_,Tryz.func245,ah,ah,ah,_,rfl,ah⟩
def W3:IC:=
 (.seq (.af [bx 4 31 0,
 bx 5 3 1,
 bD 6 false]) (.seq (.af [ld 7 154 2,
 ld 8 31 4,
 ld 9 3 5,
 ⟨(some 10), .call {callee:= .value (.tmp 7),args:=#[.tmp 8, .tmp 9],argTypes:=#[31,3]},none⟩,
 mv 11 10,
 gT (fa 12 31 4 2) 11,
 gT (ld 13 28 12) 11,
 ⟨(some 14), .makeFunc (.func 247) #[] #[.tmp 3, .tmp 5],(some (11,true))⟩,
 gT (k2 15 161 13 14 28 46) 11,
 bQ 16 11 15,
 sg 6 16]) .ret))
theorem S8:aD Tryz.prog 246 17 W3 [.tmp 6]:=
 ⟨_,Tryz.func246,ah,ah,ah,_,rfl,ah⟩
def W4:IC:=
 (.seq (.af [bx 3 31 0,
 bD 4 false]) (.seq (.af [ld 5 154 1,
 ld 6 31 3,
 ld 7 3 2,
 bk .add 8 3 7 1 3,
 ⟨(some 9), .call {callee:= .value (.tmp 5),args:=#[.tmp 6, .tmp 8],argTypes:=#[31,3]},none⟩,
 sg 4 9]) .ret))
theorem S9:aD Tryz.prog 247 10 W4 [.tmp 4]:=
 ⟨_,Tryz.func247,ah,ah,ah,_,rfl,ah⟩
def acF:IC:=
 (.seq (.af [bD 2 false]) (.seq (.af [mv 3 0,
 mv 4 0,
 bo .neq 5 3 3 4 3,
 sg 2 5]) .ret))
theorem acG:aD Tryz.prog 253 6 acF [.tmp 2]:=
 ⟨_,Tryz.func253,ah,ah,ah,_,rfl,ah⟩
def LN:IC:=
 (.seq (.af [bx 3 31 0]) (.seq (.seq (.af [fa 6 31 3 0,
 ld 7 29 6,
 bk .eql 8 29 7 8 29]) (.cond (.tmp 8) (.dx [ld 9 28 1,
 fa 10 31 3 1,
 ld 11 3 10,
 ⟨(some 12), .build 133 #[],none⟩,
 k1 13 225 12 133,
 ia 14 28 9 11,
 st 31 14 13]
 [[],[],[1],[],[3],[0,2,0,1,2,3,4],[5,4,4,0,1,2,3,4]]) .skip)) (.seq (.af [fa 15 31 3 2,
 ld 16 28 15,
 ln 17 16 28,
 vZ 18 0]) (.block 0 (.loop (.seq (.af [bo .lss 19 3 18 17 3]) (.seq (.cond (.tmp 19) .skip (.exit 0)) (.seq (.block 1 (.seq (.af [ia 20 28 16 18,
 ld 21 31 20,
 al 5 31,
 st 31 5 21]) (.af [ld 22 169 2,
 ld 23 31 5,
 ⟨(some 24), .call {callee:= .value (.tmp 22),args:=#[.tmp 23],argTypes:=#[31]},none⟩]))) (.af [bk .add 25 3 18 1 3,
 mv 18 25])))))))))
theorem Ta:aD Tryz.prog 254 26 LN []:=
 ⟨_,Tryz.func254,ah,ah,ah,_,rfl,ah⟩
def W5:IC:=
 (.seq (.af [bD 4 false]) (.seq (.af [mv 5 0,
 mv 6 1,
 k2 7 261 5 6 225 29,
 bk .geq 8 3 7 0 3,
 sg 4 8]) .ret))
theorem Tb:aD Tryz.prog 255 9 W5 [.tmp 4]:=
 ⟨_,Tryz.func255,ah,ah,ah,_,rfl,ah⟩
def W6:IC:=
 (.seq (.af [al 2 31]) (.seq (.af [mv 3 0,
 ⟨(some 4), .build 31 #[(0, .const (.int .i64 1)),(1, .tmp 3)],none⟩,
 st 31 2 4]) .ret))
theorem Tc:aD Tryz.prog 256 5 W6 [.cell 2 31]:=
 ⟨_,Tryz.func256,ah,ah,ah,_,rfl,ah⟩
def W7:IC:=
 (.seq (.af [bx 2 46 0]) (.seq (.af [al 3 46]) (.seq (.af [⟨(some 4), .makeFunc (.func 258) #[] #[.tmp 2, .tmp 3],none⟩,
 st 46 3 4]) (.af [ld 5 46 3,
 ld 6 31 1,
 ⟨(some 7), .call {callee:= .value (.tmp 5),args:=#[.tmp 6],argTypes:=#[31]},none⟩]))))
theorem Td:aD Tryz.prog 257 8 W7 []:=
 ⟨_,Tryz.func257,ah,ah,ah,_,rfl,ah⟩
def W8:IC:=
 (.seq (.af [bx 3 31 0,
 bD 4 false]) (.seq (.af [ld 5 46 1,
 ld 6 31 3,
 ⟨(some 7), .call {callee:= .value (.tmp 5),args:=#[.tmp 6],argTypes:=#[31]},none⟩,
 mv 8 7,
 gT (fa 9 31 3 2) 8,
 gT (ld 10 28 9) 8,
 gT (ld 11 46 2) 8,
 gT (k2 12 187 10 11 28 46) 8,
 bQ 13 8 12,
 sg 4 13]) .ret))
theorem Te:aD Tryz.prog 258 14 W8 [.tmp 4]:=
 ⟨_,Tryz.func258,ah,ah,ah,_,rfl,ah⟩
def W9:IC:=
 (.seq (.af [de 4 0]) (.seq (.seq (.af [mv 6 0,
 ln 7 6 41,
 vZ 8 0]) (.block 0 (.loop (.seq (.af [bo .lss 9 3 8 7 3]) (.seq (.cond (.tmp 9) .skip (.exit 0)) (.seq (.block 1 (.seq (.af [mv 10 8,
 sg 5 10]) (.seq (.af [mv 11 1,
 mv 12 0,
 mv 13 5,
 ia 14 41 12 13,
 ld 15 3 14,
 bo .eql 16 3 11 15 3]) (.cond (.tmp 16) (.seq (.af [mv 17 5,
 sg 4 17]) .ret) .skip)))) (.af [bk .add 18 3 8 1 3,
 mv 8 18]))))))) (.seq (.af [de 4 (-1)]) .ret)))
theorem Tf:aD Tryz.prog 259 19 W9 [.tmp 4]:=
 ⟨_,Tryz.func259,ah,ah,ah,_,rfl,ah⟩
def Xa:IC:=
 (.seq (.af [de 4 0]) (.seq (.seq (.af [mv 6 0,
 ln 7 6 225,
 vZ 8 0]) (.block 0 (.loop (.seq (.af [bo .lss 9 3 8 7 3]) (.seq (.cond (.tmp 9) .skip (.exit 0)) (.seq (.block 1 (.seq (.af [mv 10 8,
 sg 5 10]) (.seq (.af [mv 11 1,
 mv 12 0,
 mv 13 5,
 ia 14 225 12 13,
 ld 15 29 14,
 bo .eql 16 29 11 15 29]) (.cond (.tmp 16) (.seq (.af [mv 17 5,
 sg 4 17]) .ret) .skip)))) (.af [bk .add 18 3 8 1 3,
 mv 8 18]))))))) (.seq (.af [de 4 (-1)]) .ret)))
theorem Tg:aD Tryz.prog 261 19 Xa [.tmp 4]:=
 ⟨_,Tryz.func261,ah,ah,ah,_,rfl,ah⟩
theorem mix:Tryz.prog.follows .mixedOrders=true:=ah
def zn:Tr FD:= .e fun _=> .no
theorem zt{f:Nat->Nat}:Tr.GD (fun(g:Nat) (d:FD)=>d.Ok Tryz.prog g) zn f:=fun _=>trivial
def acH:Tr FD:=
 (.n .no (.n .no (.n .no (.n .no (.n (.fn 26 c15 [.tmp 4]) (.n .no (.n (.fn 37 c63 [.tmp 6]) (.n (.fn 8 VR [.tmp 3]) (.n (.fn 9 W5 [.tmp 4]) zn zn) zn) (.n (.fn 52 Wy [.tmp 6]) zn zn)) (.n (.fn 19 c95 [.tmp 2]) (.n (.fn 92 V4 [.tmp 4]) zn zn) (.n (.fn 15 WJ [.tmp 4]) zn zn))) (.n (.fn 7 c47 [.cell 0 31]) (.n (.fn 8 c79 [.cell 4 31]) zn (.n (.fn 49 acr []) zn zn)) (.n (.fn 9 VK [.tmp 4]) (.n (.fn 10 Wi []) zn zn) (.n (.fn 14 WW [.tmp 4]) zn zn)))) (.n .no (.n .no zn (.n .no (.n (.fn 19 Wa [.tmp 4]) zn zn) (.n (.fn 4 WS [.tmp 2]) zn zn))) (.n (.fn 52 c55 [.cell 4 4]) (.n (.fn 3 c87 [.cell 0 35]) zn zn) (.n .no (.n (.fn 9 Wq [.tmp 4]) zn zn) (.n (.fn 10 W4 [.tmp 4]) zn zn))))) (.n (.fn 35 c11 [.tmp 4, .tmp 5, .tmp 6]) (.n .no (.n .no (.n (.fn 15 c67 [.tmp 6]) (.n (.fn 8 VU [.tmp 3]) (.n (.fn 19 W9 [.tmp 4]) zn zn) zn) zn) (.n (.fn 10 c99 [.tmp 4]) (.n (.fn 39 V8 [.cell 4 4]) zn zn) (.n (.fn 6 WN [.cell 2 31]) zn zn))) (.n (.fn 41 c51 [.tmp 8]) (.n (.fn 8 c83 [.cell 4 31]) zn zn) (.n .no (.n (.fn 31 Wm []) zn zn) (.n (.fn 14 W0 [.tmp 4]) zn zn)))) (.n .no (.n (.fn 8 c43 [.cell 4 31]) zn (.n .no (.n (.fn 14 We []) zn zn) zn)) (.n .no (.n (.fn 8 c91 [.tmp 3]) (.n (.fn 15 V0 [.tmp 6]) zn zn) (.n (.fn 58 WE []) zn zn)) (.n (.fn 13 VO [.tmp 4]) (.n (.fn 9 Wu [.tmp 4]) zn zn) zn))))) (.n .no (.n (.fn 161 c9 [.tmp 0]) (.n .no (.n .no (.n (.fn 39 c65 [.tmp 4]) (.n (.fn 2 VS [.cell 0 147]) (.n (.fn 8 W7 []) zn zn) zn) zn) (.n (.fn 17 c97 [.tmp 6]) (.n (.fn 18 V6 [.tmp 4]) zn zn) (.n (.fn 4 WL [.cell 2 31]) zn zn))) (.n (.fn 5 c49 [.cell 0 31]) (.n (.fn 5 c81 [.cell 2 31]) zn zn) (.n (.fn 16 VL [.tmp 2]) (.n (.fn 26 Wk []) zn zn) (.n (.fn 27 WY [.tmp 4]) zn zn)))) (.n (.fn 17 c25 [.tmp 6, .tmp 7]) (.n (.fn 18 c41 [.tmp 4, .tmp 5, .tmp 6]) zn (.n .no (.n (.fn 27 Wc []) zn zn) (.n (.fn 8 WU [.tmp 2]) zn zn))) (.n .no (.n (.fn 27 c89 [.tmp 4, .tmp 5]) (.n (.fn 24 VY [.tmp 3]) zn zn) (.n (.fn 25 acw [.tmp 2]) zn zn)) (.n .no (.n (.fn 17 Ws [.tmp 3]) zn zn) zn)))) (.n .no (.n (.fn 46 c21 [.tmp 4]) (.n .no (.n (.fn 33 c69 [.tmp 2]) (.n (.fn 9 VW [.tmp 4]) (.n (.fn 19 Xa [.tmp 4]) zn zn) zn) zn) (.n .no (.n (.fn 134 ab0 []) zn zn) (.n (.fn 19 WQ [.tmp 4]) zn zn))) (.n (.fn 24 c53 [.tmp 2]) (.n (.fn 11 c85 [.cell 6 35]) zn (.n (.fn 17 acu [.tmp 4]) zn zn)) (.n .no (.n (.fn 58 Wo []) zn zn) (.n (.fn 8 W2 []) zn zn)))) (.n .no (.n (.fn 2 c45 [.cell 0 31]) (.n (.fn 8 c77 [.cell 4 31]) zn (.n (.fn 19 WB [.cell 0 189]) zn zn)) (.n .no (.n (.fn 116 Wg []) zn zn) zn)) (.n .no (.n (.fn 18 c93 []) (.n (.fn 9 V2 [.tmp 4]) zn zn) (.n (.fn 29 WH []) zn zn)) (.n (.fn 11 abn []) (.n (.fn 27 Ww [.tmp 2]) zn zn) (.n (.fn 6 acF [.tmp 2]) zn zn))))))) (.n .no (.n .no (.n .no (.n .no (.n .no (.n (.fn 13 c64 [.tmp 4]) (.n (.fn 6 Pw []) (.n (.fn 5 W6 [.cell 2 31]) zn zn) zn) (.n (.fn 19 Wz [.tmp 4]) zn zn)) (.n (.fn 8 c96 []) (.n (.fn 12 V5 [.tmp 5]) zn zn) (.n (.fn 39 WK []) zn zn))) (.n (.fn 30 c48 [.cell 0 35]) (.n (.fn 11 c80 [.cell 6 31]) zn zn) (.n (.fn 7 abd [.tmp 3]) (.n (.fn 71 Wj []) zn zn) (.n (.fn 27 WX [.tmp 4]) zn zn)))) (.n .no (.n .no zn (.n .no (.n (.fn 17 Wb []) zn zn) (.n (.fn 9 WT [.tmp 4]) zn zn))) (.n (.fn 4 c56 [.tmp 2]) (.n (.fn 13 c88 [.tmp 4]) zn zn) (.n .no (.n (.fn 8 Wr [.tmp 3]) zn zn) zn)))) (.n .no (.n (.fn 6 c20 [.tmp 2]) (.n .no (.n (.fn 9 c68 [.tmp 4]) (.n (.fn 121 VV [.tmp 4]) zn zn) zn) (.n .no (.n (.fn 45 V9 []) zn zn) (.n (.fn 28 WO [.cell 4 31]) zn zn))) (.n (.dfr 16 VI c52 92 9 [.tmp 8] [.cell 8 4] 10 4 4 c92) (.n (.fn 14 c84 [.cell 8 35]) zn zn) (.n (.fn 33 VM [.tmp 8]) (.n (.fn 34 Wn []) zn zn) (.n (.fn 14 W1 [.tmp 4]) zn zn)))) (.n .no (.n (.fn 5 c44 [.cell 2 31]) (.n .no zn (.n (.fn 19 WA [.tmp 4]) zn zn)) (.n .no (.n (.fn 14 Wf []) zn zn) zn)) (.n .no (.n .no (.n (.fn 18 V1 [.tmp 4]) zn zn) (.n (.fn 38 WG [.cell 4 31]) zn zn)) (.n (.fn 9 VP [.tmp 2]) (.n (.fn 10 Wv [.tmp 4]) zn zn) zn))))) (.n .no (.n (.fn 30 c10 [.cell 8 31, .tmp 9]) (.n .no (.n .no (.n .no (.n (.fn 9 VT [.tmp 4]) (.n (.fn 14 W8 [.tmp 4]) zn zn) zn) zn) (.n (.fn 9 c98 [.tmp 4]) (.n (.fn 7 V7 [.tmp 3]) zn zn) (.n (.fn 31 WM [.cell 8 31, .cell 9 31]) zn zn))) (.n (.fn 31 c50 [.cell 2 35]) (.n (.fn 87 c82 [.cell 4 31, .tmp 5]) zn zn) (.n (.fn 32 Pv [.tmp 6]) (.n (.fn 31 Wl []) zn zn) (.n (.fn 27 WZ [.tmp 4]) zn zn)))) (.n .no (.n (.fn 76 c42 [.cell 0 27]) zn (.n .no (.n (.fn 22 Wd []) zn zn) zn)) (.n .no (.n (.fn 9 c90 [.tmp 4]) (.n (.fn 28 VZ [.tmp 2]) zn zn) (.n (.fn 24 WD [.tmp 4]) zn zn)) (.n (.fn 7 VN [.tmp 3]) (.n (.fn 43 Wt [.cell 4 4, .cell 5 38]) zn zn) zn)))) (.n .no (.n .no (.n .no (.n .no (.n (.fn 8 VX [.tmp 3]) zn zn) zn) (.n .no (.n (.fn 8 ab2 [.tmp 2]) zn zn) (.n (.fn 8 WR [.tmp 3]) zn zn))) (.n (.fn 6 c54 [.tmp 2]) (.n (.fn 7 c86 [.cell 0 35]) zn zn) (.n .no (.n (.fn 98 Wp []) zn zn) (.n (.fn 17 W3 [.tmp 6]) zn zn)))) (.n .no (.n (.fn 32 c46 [.cell 6 31, .tmp 7]) (.n (.fn 5 c78 [.cell 2 31]) zn (.n (.fn 4 WC [.tmp 2]) zn zn)) (.n (.fn 46 VJ [.tmp 2]) (.n (.fn 10 Wh []) zn zn) (.n (.fn 14 WV [.tmp 4]) zn zn))) (.n .no (.n (.fn 8 YR [.tmp 2]) (.n (.fn 8 V3 [.tmp 3]) zn zn) (.n (.fn 9 WI [.cell 4 119]) zn zn)) (.n (.fn 9 VQ [.tmp 4]) (.n (.fn 18 Wx [.tmp 2]) zn zn) (.n (.fn 26 LN []) zn zn))))))))
noncomputable def cu:Nat->FD:=acH.get
theorem pU:∀g,(cu g).Ok Tryz.prog g:=
 Tr.AV (p:=fun g d=>d.Ok Tryz.prog g) (f:=fun g=>g) acH
   ⟨trivial,⟨trivial,⟨trivial,⟨trivial,⟨aau,⟨trivial,⟨aaD,⟨RV,⟨Tb,zt,zt⟩,zt⟩,⟨SE,zt,zt⟩⟩,⟨aaO,⟨R8,zt,zt⟩,⟨SO,zt,zt⟩⟩⟩,⟨aex,⟨aeP,zt,⟨acs,zt,zt⟩⟩,⟨RN,⟨Sm,zt,zt⟩,⟨S1,zt,zt⟩⟩⟩⟩,⟨trivial,⟨trivial,zt,⟨trivial,⟨Se,zt,zt⟩,⟨SX,zt,zt⟩⟩⟩,⟨aaB,⟨aeW,zt,zt⟩,⟨trivial,⟨Sw,zt,zt⟩,⟨S9,zt,zt⟩⟩⟩⟩⟩,⟨aat,⟨trivial,⟨trivial,⟨aaF,⟨RY,⟨Tf,zt,zt⟩,zt⟩,zt⟩,⟨aaS,⟨Sc,zt,zt⟩,⟨SS,zt,zt⟩⟩⟩,⟨aay,⟨aeS,zt,zt⟩,⟨trivial,⟨Sr,zt,zt⟩,⟨S5,zt,zt⟩⟩⟩⟩,⟨trivial,⟨aeu,zt,⟨trivial,⟨Si,zt,zt⟩,zt⟩⟩,⟨trivial,⟨aaM,⟨R4,zt,zt⟩,⟨SK,zt,zt⟩⟩,⟨RS,⟨SA,zt,zt⟩,zt⟩⟩⟩⟩⟩,⟨trivial,⟨fn9,⟨trivial,⟨trivial,⟨aaE,⟨RW,⟨Td,zt,zt⟩,zt⟩,zt⟩,⟨aaQ,⟨Sa,zt,zt⟩,⟨SQ,zt,zt⟩⟩⟩,⟨aez,⟨aaI,zt,zt⟩,⟨RP,⟨Sp,zt,zt⟩,⟨S3,zt,zt⟩⟩⟩⟩,⟨aem,⟨aes,zt,⟨trivial,⟨Sg,zt,zt⟩,⟨SZ,zt,zt⟩⟩⟩,⟨trivial,⟨aaK,⟨R2,zt,zt⟩,⟨acx,zt,zt⟩⟩,⟨trivial,⟨Sy,zt,zt⟩,zt⟩⟩⟩⟩,⟨trivial,⟨aaw,⟨trivial,⟨aaH,⟨R0,⟨Tg,zt,zt⟩,zt⟩,zt⟩,⟨trivial,⟨ab1,zt,zt⟩,⟨SV,zt,zt⟩⟩⟩,⟨aaz,⟨aeU,zt,⟨acv,zt,zt⟩⟩,⟨trivial,⟨Su,zt,zt⟩,⟨S7,zt,zt⟩⟩⟩⟩,⟨trivial,⟨aax,⟨aeN,zt,⟨SH,zt,zt⟩⟩,⟨trivial,⟨Sk,zt,zt⟩,zt⟩⟩,⟨trivial,⟨aaN,⟨R6,zt,zt⟩,⟨SM,zt,zt⟩⟩,⟨abo,⟨SC,zt,zt⟩,⟨acG,zt,zt⟩⟩⟩⟩⟩⟩⟩,⟨trivial,⟨trivial,⟨trivial,⟨trivial,⟨trivial,⟨aeH,⟨LM,⟨Tc,zt,zt⟩,zt⟩,⟨SF,zt,zt⟩⟩,⟨aaP,⟨R9,zt,zt⟩,⟨SP,zt,zt⟩⟩⟩,⟨aey,⟨aeQ,zt,zt⟩,⟨abe,⟨Sn,zt,zt⟩,⟨S2,zt,zt⟩⟩⟩⟩,⟨trivial,⟨trivial,zt,⟨trivial,⟨Sf,zt,zt⟩,⟨SY,zt,zt⟩⟩⟩,⟨aaC,⟨aaJ,zt,zt⟩,⟨trivial,⟨Sx,zt,zt⟩,zt⟩⟩⟩⟩,⟨trivial,⟨aav,⟨trivial,⟨aaG,⟨RZ,zt,zt⟩,zt⟩,⟨trivial,⟨Sd,zt,zt⟩,⟨SU,zt,zt⟩⟩⟩,⟨⟨RL,RK⟩,⟨aeT,zt,zt⟩,⟨RQ,⟨Ss,zt,zt⟩,⟨S6,zt,zt⟩⟩⟩⟩,⟨trivial,⟨aev,⟨trivial,zt,⟨SG,zt,zt⟩⟩,⟨trivial,⟨Sj,zt,zt⟩,zt⟩⟩,⟨trivial,⟨trivial,⟨R5,zt,zt⟩,⟨SL,zt,zt⟩⟩,⟨RT,⟨SB,zt,zt⟩,zt⟩⟩⟩⟩⟩,⟨trivial,⟨aas,⟨trivial,⟨trivial,⟨trivial,⟨RX,⟨Te,zt,zt⟩,zt⟩,zt⟩,⟨aaR,⟨Sb,zt,zt⟩,⟨SR,zt,zt⟩⟩⟩,⟨aeA,⟨aeR,zt,zt⟩,⟨LL,⟨Sq,zt,zt⟩,⟨S4,zt,zt⟩⟩⟩⟩,⟨trivial,⟨aet,zt,⟨trivial,⟨Sh,zt,zt⟩,zt⟩⟩,⟨trivial,⟨aaL,⟨R3,zt,zt⟩,⟨SJ,zt,zt⟩⟩,⟨RR,⟨Sz,zt,zt⟩,zt⟩⟩⟩⟩,⟨trivial,⟨trivial,⟨trivial,⟨trivial,⟨R1,zt,zt⟩,zt⟩,⟨trivial,⟨ab3,zt,zt⟩,⟨SW,zt,zt⟩⟩⟩,⟨aaA,⟨aeV,zt,zt⟩,⟨trivial,⟨Sv,zt,zt⟩,⟨S8,zt,zt⟩⟩⟩⟩,⟨trivial,⟨aew,⟨aeO,zt,⟨SI,zt,zt⟩⟩,⟨RM,⟨Sl,zt,zt⟩,⟨S0,zt,zt⟩⟩⟩,⟨trivial,⟨LK,⟨R7,zt,zt⟩,⟨SN,zt,zt⟩⟩,⟨RU,⟨SD,zt,zt⟩,⟨Ta,zt,zt⟩⟩⟩⟩⟩⟩⟩⟩
@[go_sem] theorem cellsOf_3:Tryz.prog.cellsOf 3=1:=ah
@[go_sem] theorem bytesOf_3:Tryz.prog.bytesOf 3=8:=ah
@[go_sem] theorem aggT_3:dB Tryz.prog 3=some false:=ah
@[go_sem] theorem infoT_3:(Tryz.prog.info? 3).isSome=true:=ah
@[go_sem] theorem undT_3:Tryz.prog.underlying 3=some (.int .i64):=ah
@[go_sem] theorem eqShape_3:cy Tryz.prog 3=some .int:=ah
@[go_sem] theorem zeroT_3:cQ Tryz.prog 3=some [.d (.int .i64 0)]:=ah
@[go_sem] theorem zeroV_3:zeroV Tryz.prog 3=some (.d (.int .i64 0)):=ah
@[go_sem] theorem cellsOf_4:Tryz.prog.cellsOf 4=1:=ah
@[go_sem] theorem aggT_4:dB Tryz.prog 4=some false:=ah
@[go_sem] theorem infoT_4:(Tryz.prog.info? 4).isSome=true:=ah
@[go_sem] theorem zeroT_4:cQ Tryz.prog 4=some [.d (.bool false)]:=ah
@[go_sem] theorem zeroV_4:zeroV Tryz.prog 4=some (.d (.bool false)):=ah
@[go_sem] theorem cellsOf_9:Tryz.prog.cellsOf 9=1:=ah
@[go_sem] theorem bytesOf_9:Tryz.prog.bytesOf 9=16:=ah
@[go_sem] theorem aggT_9:dB Tryz.prog 9=some false:=ah
@[go_sem] theorem undT_9:Tryz.prog.underlying 9=some .string:=ah
@[go_sem] theorem eqShape_9:cy Tryz.prog 9=some .str:=ah
@[go_sem] theorem zeroT_9:cQ Tryz.prog 9=some [.d (.str [])]:=ah
@[go_sem] theorem sliceT_22:cS Tryz.prog 22=some 104:=ah
@[go_sem] theorem aggT_22:dB Tryz.prog 22=some false:=ah
@[go_sem] theorem undT_22:Tryz.prog.underlying 22=some (.slice 104):=ah
@[go_sem] theorem cellsOf_24:Tryz.prog.cellsOf 24=2:=ah
@[go_sem] theorem aggT_24:dB Tryz.prog 24=some true:=ah
@[go_sem] theorem sliceT_25:cS Tryz.prog 25=some 106:=ah
@[go_sem] theorem aggT_25:dB Tryz.prog 25=some false:=ah
@[go_sem] theorem undT_25:Tryz.prog.underlying 25=some (.slice 106):=ah
@[go_sem] theorem cellsOf_27:Tryz.prog.cellsOf 27=3:=ah
@[go_sem] theorem aggT_27:dB Tryz.prog 27=some true:=ah
@[go_sem] theorem cellsOf_28:Tryz.prog.cellsOf 28=1:=ah
@[go_sem] theorem sliceT_28:cS Tryz.prog 28=some 31:=ah
@[go_sem] theorem aggT_28:dB Tryz.prog 28=some false:=ah
@[go_sem] theorem intT_28:zZ Tryz.prog 28=none:=ah
@[go_sem] theorem infoT_28:(Tryz.prog.info? 28).isSome=true:=ah
@[go_sem] theorem undT_28:Tryz.prog.underlying 28=some (.slice 31):=ah
@[go_sem] theorem zeroT_28:cQ Tryz.prog 28=some [.bT]:=ah
@[go_sem] theorem cellsOf_29:Tryz.prog.cellsOf 29=1:=ah
@[go_sem] theorem aggT_29:dB Tryz.prog 29=some false:=ah
@[go_sem] theorem undT_29:Tryz.prog.underlying 29=some (.int .i64):=ah
@[go_sem] theorem zeroT_29:cQ Tryz.prog 29=some [.d (.int .i64 0)]:=ah
@[go_sem] theorem cellsOf_31:Tryz.prog.cellsOf 31=3:=ah
@[go_sem] theorem bytesOf_31:Tryz.prog.bytesOf 31=40:=ah
@[go_sem] theorem aggT_31:dB Tryz.prog 31=some true:=ah
@[go_sem] theorem infoT_31:(Tryz.prog.info? 31).isSome=true:=ah
@[go_sem] theorem zeroT_31:cQ Tryz.prog 31=some [.d (.int .i64 0), .d (.int .i64 0), .bT]:=ah
@[go_sem] theorem placesT_31:gC Tryz.prog 31=some [(0,1),(1,1),(2,1)]:=ah
@[go_sem] theorem aggT_32:dB Tryz.prog 32=some false:=ah
@[go_sem] theorem undT_32:Tryz.prog.underlying 32=some (.int .i64):=ah
@[go_sem] theorem sliceT_33:cS Tryz.prog 33=some 35:=ah
@[go_sem] theorem aggT_33:dB Tryz.prog 33=some false:=ah
@[go_sem] theorem undT_33:Tryz.prog.underlying 33=some (.slice 35):=ah
@[go_sem] theorem cellsOf_35:Tryz.prog.cellsOf 35=7:=ah
@[go_sem] theorem aggT_35:dB Tryz.prog 35=some true:=ah
@[go_sem] theorem infoT_35:(Tryz.prog.info? 35).isSome=true:=ah
@[go_sem] theorem zeroT_35:cQ Tryz.prog 35=some [.d (.int .i64 0), .d (.int .i64 0), .d (.int .i64 0), .bT, .d (.int .i64 0), .bT, .bT]:=ah
@[go_sem] theorem cellsOf_38:Tryz.prog.cellsOf 38=1:=ah
@[go_sem] theorem aggT_38:dB Tryz.prog 38=some false:=ah
@[go_sem] theorem infoT_38:(Tryz.prog.info? 38).isSome=true:=ah
@[go_sem] theorem zeroT_38:cQ Tryz.prog 38=some [.d (.int .i64 0)]:=ah
@[go_sem] theorem cellsOf_41:Tryz.prog.cellsOf 41=1:=ah
@[go_sem] theorem sliceT_41:cS Tryz.prog 41=some 3:=ah
@[go_sem] theorem aggT_41:dB Tryz.prog 41=some false:=ah
@[go_sem] theorem intT_41:zZ Tryz.prog 41=none:=ah
@[go_sem] theorem infoT_41:(Tryz.prog.info? 41).isSome=true:=ah
@[go_sem] theorem undT_41:Tryz.prog.underlying 41=some (.slice 3):=ah
@[go_sem] theorem zeroT_41:cQ Tryz.prog 41=some [.bT]:=ah
@[go_sem] theorem cellsOf_46:Tryz.prog.cellsOf 46=1:=ah
@[go_sem] theorem aggT_46:dB Tryz.prog 46=some false:=ah
@[go_sem] theorem infoT_46:(Tryz.prog.info? 46).isSome=true:=ah
@[go_sem] theorem zeroT_46:cQ Tryz.prog 46=some [.d .cj]:=ah
@[go_sem] theorem aggT_67:dB Tryz.prog 67=some false:=ah
@[go_sem] theorem cellsOf_104:Tryz.prog.cellsOf 104=2:=ah
@[go_sem] theorem aggT_104:dB Tryz.prog 104=some true:=ah
@[go_sem] theorem infoT_104:(Tryz.prog.info? 104).isSome=true:=ah
@[go_sem] theorem zeroT_104:cQ Tryz.prog 104=some [.d (.str []), .d (.int .i64 0)]:=ah
@[go_sem] theorem placesT_104:gC Tryz.prog 104=some [(0,1),(1,1)]:=ah
@[go_sem] theorem cellsOf_106:Tryz.prog.cellsOf 106=6:=ah
@[go_sem] theorem aggT_106:dB Tryz.prog 106=some true:=ah
@[go_sem] theorem infoT_106:(Tryz.prog.info? 106).isSome=true:=ah
@[go_sem] theorem zeroT_106:cQ Tryz.prog 106=some [.d (.int .i64 0), .bT, .d (.int .i64 0), .d (.int .i64 0), .bT, .d (.int .i64 0)]:=ah
@[go_sem] theorem aggT_115:dB Tryz.prog 115=some false:=ah
@[go_sem] theorem cellsOf_117:Tryz.prog.cellsOf 117=0:=ah
@[go_sem] theorem infoT_117:(Tryz.prog.info? 117).isSome=true:=ah
@[go_sem] theorem plainIface_117:jf Tryz.prog 117=true:=ah
@[go_sem] theorem zeroT_117:cQ Tryz.prog 117=some []:=ah
@[go_sem] theorem zeroV_117:zeroV Tryz.prog 117=some (mR []):=ah
@[go_sem] theorem placesT_117:gC Tryz.prog 117=some []:=ah
@[go_sem] theorem cellsOf_119:Tryz.prog.cellsOf 119=4:=ah
@[go_sem] theorem aggT_119:dB Tryz.prog 119=some true:=ah
@[go_sem] theorem infoT_119:(Tryz.prog.info? 119).isSome=true:=ah
@[go_sem] theorem zeroT_119:cQ Tryz.prog 119=some [.bT, .bT, .bT, .bT]:=ah
@[go_sem] theorem placesT_119:gC Tryz.prog 119=some [(0,3),(3,1)]:=ah
@[go_sem] theorem cellsOf_122:Tryz.prog.cellsOf 122=1:=ah
@[go_sem] theorem aggT_122:dB Tryz.prog 122=some false:=ah
@[go_sem] theorem infoT_122:(Tryz.prog.info? 122).isSome=true:=ah
@[go_sem] theorem zeroT_122:cQ Tryz.prog 122=some [.d .cj]:=ah
@[go_sem] theorem cellsOf_133:Tryz.prog.cellsOf 133=0:=ah
@[go_sem] theorem infoT_133:(Tryz.prog.info? 133).isSome=true:=ah
@[go_sem] theorem plainIface_133:jf Tryz.prog 133=true:=ah
@[go_sem] theorem zeroT_133:cQ Tryz.prog 133=some []:=ah
@[go_sem] theorem zeroV_133:zeroV Tryz.prog 133=some (mR []):=ah
@[go_sem] theorem placesT_133:gC Tryz.prog 133=some []:=ah
@[go_sem] theorem plainIface_134:jf Tryz.prog 134=true:=ah
@[go_sem] theorem zeroV_134:zeroV Tryz.prog 134=some (.d (.int .i64 0)):=ah
@[go_sem] theorem aggT_137:dB Tryz.prog 137=some false:=ah
@[go_sem] theorem cellsOf_138:Tryz.prog.cellsOf 138=3:=ah
@[go_sem] theorem infoT_138:(Tryz.prog.info? 138).isSome=true:=ah
@[go_sem] theorem plainIface_138:jf Tryz.prog 138=true:=ah
@[go_sem] theorem zeroT_138:cQ Tryz.prog 138=some [.d (.int .i64 0), .d (.int .i64 0), .bT]:=ah
@[go_sem] theorem zeroV_138:zeroV Tryz.prog 138=some (mR [.d (.int .i64 0), .d (.int .i64 0), .bT]):=ah
@[go_sem] theorem cellsOf_140:Tryz.prog.cellsOf 140=1:=ah
@[go_sem] theorem aggT_140:dB Tryz.prog 140=some false:=ah
@[go_sem] theorem infoT_140:(Tryz.prog.info? 140).isSome=true:=ah
@[go_sem] theorem mapT_140:qy Tryz.prog 140=some (3,4):=ah
@[go_sem] theorem zeroT_140:cQ Tryz.prog 140=some [.d .jt]:=ah
@[go_sem] theorem undT_141:Tryz.prog.underlying 141=some (.map 3 4):=ah
@[go_sem] theorem mapT_141:qy Tryz.prog 141=some (3,4):=ah
@[go_sem] theorem cellsOf_146:Tryz.prog.cellsOf 146=1:=ah
@[go_sem] theorem aggT_146:dB Tryz.prog 146=some false:=ah
@[go_sem] theorem infoT_146:(Tryz.prog.info? 146).isSome=true:=ah
@[go_sem] theorem cellsOf_147:Tryz.prog.cellsOf 147=16:=ah
@[go_sem] theorem aggT_147:dB Tryz.prog 147=some true:=ah
@[go_sem] theorem infoT_147:(Tryz.prog.info? 147).isSome=true:=ah
@[go_sem] theorem undT_147:Tryz.prog.underlying 147=some (.array 16 146):=ah
@[go_sem] theorem zeroT_147:cQ Tryz.prog 147=some [.d .cj, .d .cj, .d .cj, .d .cj, .d .cj, .d .cj, .d .cj, .d .cj, .d .cj, .d .cj, .d .cj, .d .cj, .d .cj, .d .cj, .d .cj, .d .cj]:=ah
@[go_sem] theorem aggT_150:dB Tryz.prog 150=some false:=ah
@[go_sem] theorem sliceT_151:cS Tryz.prog 151=some 9:=ah
@[go_sem] theorem intT_151:zZ Tryz.prog 151=none:=ah
@[go_sem] theorem undT_151:Tryz.prog.underlying 151=some (.slice 9):=ah
@[go_sem] theorem cellsOf_154:Tryz.prog.cellsOf 154=1:=ah
@[go_sem] theorem aggT_154:dB Tryz.prog 154=some false:=ah
@[go_sem] theorem infoT_154:(Tryz.prog.info? 154).isSome=true:=ah
@[go_sem] theorem zeroT_154:cQ Tryz.prog 154=some [.d .cj]:=ah
@[go_sem] theorem cellsOf_165:Tryz.prog.cellsOf 165=1:=ah
@[go_sem] theorem aggT_165:dB Tryz.prog 165=some false:=ah
@[go_sem] theorem infoT_165:(Tryz.prog.info? 165).isSome=true:=ah
@[go_sem] theorem mapT_165:qy Tryz.prog 165=some (9,4):=ah
@[go_sem] theorem zeroT_165:cQ Tryz.prog 165=some [.d .jt]:=ah
@[go_sem] theorem cellsOf_169:Tryz.prog.cellsOf 169=1:=ah
@[go_sem] theorem aggT_169:dB Tryz.prog 169=some false:=ah
@[go_sem] theorem infoT_169:(Tryz.prog.info? 169).isSome=true:=ah
@[go_sem] theorem zeroT_169:cQ Tryz.prog 169=some [.d .cj]:=ah
@[go_sem] theorem cellsOf_176:Tryz.prog.cellsOf 176=1:=ah
@[go_sem] theorem aggT_176:dB Tryz.prog 176=some false:=ah
@[go_sem] theorem infoT_176:(Tryz.prog.info? 176).isSome=true:=ah
@[go_sem] theorem undT_176:Tryz.prog.underlying 176=some (.map 3 3):=ah
@[go_sem] theorem mapT_176:qy Tryz.prog 176=some (3,3):=ah
@[go_sem] theorem zeroT_176:cQ Tryz.prog 176=some [.d .jt]:=ah
@[go_sem] theorem cellsOf_188:Tryz.prog.cellsOf 188=1:=ah
@[go_sem] theorem aggT_188:dB Tryz.prog 188=some false:=ah
@[go_sem] theorem infoT_188:(Tryz.prog.info? 188).isSome=true:=ah
@[go_sem] theorem cellsOf_189:Tryz.prog.cellsOf 189=16:=ah
@[go_sem] theorem sliceT_189:cS Tryz.prog 189=none:=ah
@[go_sem] theorem arrT_189:BM Tryz.prog 189=some (16,188):=ah
@[go_sem] theorem aggT_189:dB Tryz.prog 189=some true:=ah
@[go_sem] theorem infoT_189:(Tryz.prog.info? 189).isSome=true:=ah
@[go_sem] theorem zeroT_189:cQ Tryz.prog 189=some [.d .cj, .d .cj, .d .cj, .d .cj, .d .cj, .d .cj, .d .cj, .d .cj, .d .cj, .d .cj, .d .cj, .d .cj, .d .cj, .d .cj, .d .cj, .d .cj]:=ah
@[go_sem] theorem placesT_189:gC Tryz.prog 189=some [(0,1),(1,1),(2,1),(3,1),(4,1),(5,1),(6,1),(7,1),(8,1),(9,1),(10,1),(11,1),(12,1),(13,1),(14,1),(15,1)]:=ah
@[go_sem] theorem zeroT_195:cQ Tryz.prog 195=some [.bT, .bT]:=ah
@[go_sem] theorem placesT_195:gC Tryz.prog 195=some [(0,2)]:=ah
@[go_sem] theorem sliceT_225:cS Tryz.prog 225=some 29:=ah
@[go_sem] theorem undT_225:Tryz.prog.underlying 225=some (.slice 29):=ah
@[go_sem] theorem fieldT_24_0:cL Tryz.prog 24 0=some 0:=ah
@[go_sem] theorem fieldT_24_1:cL Tryz.prog 24 1=some 1:=ah
@[go_sem] theorem fieldT_27_0:cL Tryz.prog 27 0=some 0:=ah
@[go_sem] theorem fieldT_27_1:cL Tryz.prog 27 1=some 2:=ah
@[go_sem] theorem fieldT_31_0:cL Tryz.prog 31 0=some 0:=ah
@[go_sem] theorem fieldT_31_1:cL Tryz.prog 31 1=some 1:=ah
@[go_sem] theorem fieldT_31_2:cL Tryz.prog 31 2=some 2:=ah
@[go_sem] theorem fieldT_35_0:cL Tryz.prog 35 0=some 0:=ah
@[go_sem] theorem fieldT_35_1:cL Tryz.prog 35 1=some 1:=ah
@[go_sem] theorem fieldT_35_2:cL Tryz.prog 35 2=some 4:=ah
@[go_sem] theorem fieldT_35_3:cL Tryz.prog 35 3=some 5:=ah
@[go_sem] theorem fieldT_35_4:cL Tryz.prog 35 4=some 6:=ah
@[go_sem] theorem fieldT_104_0:cL Tryz.prog 104 0=some 0:=ah
@[go_sem] theorem fieldT_104_1:cL Tryz.prog 104 1=some 1:=ah
@[go_sem] theorem fieldT_106_0:cL Tryz.prog 106 0=some 0:=ah
@[go_sem] theorem fieldT_106_1:cL Tryz.prog 106 1=some 1:=ah
@[go_sem] theorem fieldT_106_2:cL Tryz.prog 106 2=some 2:=ah
@[go_sem] theorem fieldT_106_3:cL Tryz.prog 106 3=some 5:=ah
@[go_sem] theorem fieldT_119_0:cL Tryz.prog 119 0=some 0:=ah
@[go_sem] theorem fieldT_119_1:cL Tryz.prog 119 1=some 3:=ah
@[go_sem] theorem fieldT_138_2:cL Tryz.prog 138 2=some 2:=ah
@[go_sem] theorem fieldT_195_0:cL Tryz.prog 195 0=some 0:=ah
end Go.Proofs.YtonbelhklnmjnaaGreat
namespace Go.Proofs.YtonbelhklnmjnaaGreat
def rm(x y:ae):Prop:=(x.cK=true->y.cK=true)/\∀e,x.cH=some e->y.cH=some e
theorem rm.rfl' {x y:ae}(h:x=y):rm x y:=h ▸ ⟨id,fun _ h=>h⟩
theorem rm.fz (x:ae):rm x.fz x:=by cases x<;>exact⟨id,fun _ h=>h⟩
theorem rm.row (cs cs':List V):rm (.row cs) (.row cs'):=⟨fun _=>rfl,fun _ h=>by cases h⟩
mutual
theorem V.rn {B B':Nat->Prop}{φ aS:Place}{H H':Hp}{w:World}(hB:∀b, ¬B b-> ¬B' b):∀ (v:V) (val:Value),(∀id∈v.refs,rm (H'.o id) (H.o id)/\aS id=φ id/\H'.us id)->V.den B φ H w v val->V.den B' aS H' w v val
 | .d x,val,_,h=>D.aX (w:=w) (w':=w) (fun b _ hn=>⟨rfl,hB b hn⟩) x val h
 | .bT,_,_,h=>h
 | .aa,_,_,_=>trivial
 | .fm,_,_,h=>h
 | .rP es,val,_,h=>⟨D.aX (w:=w) (w':=w) (fun b _ hn=>⟨rfl,hB b hn⟩) (.sl es) val h.1,h.2⟩
 | .agg cs,val,hr,h=>by
   obtain⟨a,rfl,h1,h2⟩:=h
   exact⟨a,rfl,V.kg hB cs _ Hz h1,h2⟩
 | .cA cs,val,hr,h=>by
   obtain⟨a,rfl,h1⟩:=h
   exact⟨a,rfl,V.kg hB cs _ Hz h1⟩
 | .ptr id off,val,hr,h=>by
   obtain⟨a,b,c⟩:=hr id tW
   obtain⟨h0,h1,h2⟩:=h
   refine⟨h0,c,fun ck=> ?_⟩
   obtain⟨x,y,z⟩:=h2 (a.1 ck)
   exact⟨x,b.trans y,z⟩
 | .osl id ep,val,hr,h=>by
   obtain⟨a,b,c⟩:=hr id tW
   obtain⟨h0,h1,h2⟩:=h
   refine⟨h0,c,fun e he=> ?_⟩
   obtain⟨x,y⟩:=h2 e (a.2 e he)
   exact⟨x,fun heq=>(y heq).trans b.symm⟩
 | .pe id ep i sz off,val,hr,h=>by
   obtain⟨a,b,c⟩:=hr id tW
   obtain⟨h0,h1,h2⟩:=h
   refine⟨h0,c,fun e he=> ?_⟩
   obtain⟨x,y⟩:=h2 e (a.2 e he)
   refine⟨x,fun heq=> ?_⟩
   obtain⟨p,q,r,z,u⟩:=y heq
   exact⟨p,q,r,b.trans z,u⟩
 | .pp cs off,val,_,h=>by
   obtain⟨a,ev,h1,h2,h3,h5,h4⟩:=h
   exact⟨a,ev,h1,h2,D.bg (w:=w) (w':=w) (fun b _ hn=>⟨rfl,hB b hn⟩) cs ev h3,h5,h4.mono (w:=w) (w':=w) (fun b _ hn=>⟨rfl,hB b hn⟩)⟩
 | .func fn first cap,val,hr,h=>by
   obtain⟨f,c,rfl,h1,h2⟩:=h
   exact⟨f,c,rfl,V.kg hB first _ (fun id aC=>hr id Oe) h1,V.kg hB cap _ (fun id aC=>hr id Oe) h2⟩
 | .iface t x,val,hr,h=>by
   obtain⟨u,rfl,h⟩:=h
   exact⟨u,rfl,V.rn hB x u Hz h⟩
 | .xW id off n,val,hr,h=>by
   obtain⟨a,b,c⟩:=hr id tW
   obtain⟨h0,h1,h2⟩:=h
   refine⟨h0,c,fun ck=> ?_⟩
   obtain⟨x,y,z⟩:=h2 (a.1 ck)
   exact⟨x,b.trans y,z⟩
 | .mp id,val,hr,h=>by
   obtain⟨a,b,c⟩:=hr id tW
   obtain⟨h0,h1,h2⟩:=h
   refine⟨h0,c,fun ck=> ?_⟩
   exact(h2 (a.1 ck)).trans b.symm
 | .j6 id,val,hr,h=>by
   obtain⟨a,b,c⟩:=hr id tW
   obtain⟨h0,h1,h2⟩:=h
   refine⟨h0,c,fun ck=> ?_⟩
   obtain⟨x,y,z⟩:=h2 (a.1 ck)
   exact⟨x,b.trans y,z⟩
theorem V.kg {B B':Nat->Prop}{φ aS:Place}{H H':Hp}{w:World}(hB:∀b, ¬B b-> ¬B' b):∀ (vs:List V) (vals:List Value),(∀id∈V.aQ vs,rm (H'.o id) (H.o id)/\aS id=φ id/\H'.us id)->V.aP B φ H w vs vals->V.aP B' aS H' w vs vals
 |[],_,_,h=>h
 |v::vs,_,hr,h=>by
  obtain⟨u,us,rfl,h1,h2⟩:=h
  exact⟨u,us,rfl,V.rn hB v u (fun id aC=>hr id Od) h1,V.kg hB vs us (fun id aC=>hr id Od) h2⟩
end
mutual
theorem V.sM {B:Nat->Prop}{φ:Place}{H:Hp}{w:World}:∀ (v:V) (val:Value),V.den B φ H w v val->∀id∈v.refs,H.us id
 | .osl id ep,_,h,j,hj| .ptr id off,_,h,j,hj| .pe id ep i sz off,_,h,j,hj| .xW id off n,_,h,j,hj| .mp id,_,h,j,hj| .j6 id,_,h,j,hj=>by simp[V.refs]at hj;subst hj;exact h.2.1
 | .agg cs,_,h,j,hj=>by obtain⟨a,rfl,h,_⟩:=h;exact V.kH cs _ h j Ug
 | .cA cs,_,h,j,hj=>by obtain⟨a,rfl,h⟩:=h;exact V.kH cs _ h j Ug
 | .func fn first cap,_,h,j,hj=>by
   obtain⟨f,c,rfl,h1,h2⟩:=h
   rcases List.mem_append.1 (show j∈V.aQ first++V.aQ cap by simpa[V.refs]using hj)with hj|hj
   ·exact V.kH first _ h1 j hj
   ·exact V.kH cap _ h2 j hj
 | .iface t x,_,h,j,hj=>by obtain⟨u,rfl,h⟩:=h;exact V.sM x u h j Ug
 | .d _,_,_,_,hj| .bT,_,_,_,hj| .pp _ _,_,_,_,hj| .aa,_,_,_,hj| .rP _,_,_,_,hj| .fm,_,_,_,hj=>by simp[V.refs]at hj
theorem V.kH {B:Nat->Prop}{φ:Place}{H:Hp}{w:World}:∀ (vs:List V) (vals:List Value),V.aP B φ H w vs vals->∀id∈V.aQ vs,H.us id
 |[],_,_,j,hj=>by simp[V.aQ]at hj
 |v::vs,_,h,j,hj=>by
  obtain⟨u,us,rfl,h1,h2⟩:=h
  rcases List.mem_append.1 (show j∈v.refs++V.aQ vs by simpa[V.aQ]using hj)with hj|hj
  ·exact V.sM v u h1 j hj
  ·exact V.kH vs us h2 j hj
end
def Fc(so:Nat->ae)(gone:Nat->Prop)(ty:TypeId)(sz:Nat)(es:List D)(x:V):Prop:=
 (x= .bT/\es=[]/\0<sz)\/∃id ep,gone id/\x= .osl id ep/\so id= .arr ep ty sz es
def lZ(env:Nat->V):List V->Nat->Prop
 |[],_=>True
 |v::l,i=>(v= .aa\/v=env i)/\lZ env l (i+1)
theorem Hv{env:Nat->V}{i:Nat}:lZ env [] i:=trivial
theorem El{env:Nat->V}{l:List V}{i:Nat}(h:lZ env l (i+1)):lZ env (.aa::l) i:=⟨.inl rfl,h⟩
theorem NX{env:Nat->V}{l:List V}{i:Nat}{v:V}(he:env i=v)(h:lZ env l (i+1)):lZ env (v::l) i:=⟨.inr he.symm,h⟩
theorem Da{env:Nat->V}:∀ (l:List V) (i:Nat),lZ env l i->∀j,bz l j= .aa\/bz l j=env (i+j)
 |[],i,_,j=>by rw[re];exact .inl rfl
 |v::l,i,h,0=>by rw[oE];exact h.1
 |v::l,i,h,j+1=>by
  rw[oF]
  have:=Da l (i+1) h.2 j
  rwa [show i+1+j=i+(j+1) by omega]at this
theorem ID{P:Program}{n bq:Nat}{gq:Operand}{ps:List Nat}{x y:IC}{Q:fG->S->Prop}{e:Nat->V}{o:Nat->ae}{nx:Nat}{f:FuncId}{cap:List V}(env:List V)(he:lZ e env 0)
 (h:cU P f (.j6 nx::cap) (aK o nx (.loop P.funcs.size n env ps x y .ready none)) (nx+1)
  (fun _ o' nx'=>∃nf m en p c d st pd,o' nx= .loop nf m en p c d st pd/\st≠ .busy/\oW Q pd ⟨e,aK o' nx (.loop nf m en p c d .exhausted pd),nx'⟩) (fun v o' nx'=>Q (.cc v) ⟨e,o',nx'⟩)):
 sI P n bq false gq ps x y Q ⟨e,o,nx⟩ (.func (.func f) [] cap):=by
 unfold sI Cp
 refine⟨rfl, .inl ⟨env,fun i=> ?_, .inl h⟩⟩
 have:=Da env 0 he i
 rwa [Nat.zero_add]at this
theorem bE.trans {b:Nat}{s s' s'':S}(h1:bE b s s')(h2:bE b s' s''):bE b s s'':=fun M φ w tm hH hd=>by
 obtain⟨aS,a1,a2,a3,a4,a5,a6⟩:=h1 M φ w tm hH hd
 obtain⟨Eo,b1,b2,b3,b4,b5,b6⟩:=h2 M aS w tm a1 a2
 refine⟨Eo,b1,b2,fun k hk=>a3 k (b3 k hk),b4,fun id aC hr=> ?_,fun id e' aC he=> ?_⟩
 ·obtain⟨c1,c2⟩:=b5 id aC hr
  obtain⟨c3,c4⟩:=a5 id aC c1
  exact⟨c3,c2.trans c4⟩
 ·obtain⟨e1,c1,c2,c3⟩:=b6 id e' aC he
  obtain⟨e0,d1,d2,d3⟩:=a6 id e1 aC c1
  exact⟨e0,d1,Nat.le_trans d2 c2,fun h=>(c3 ad).trans (d3 ad)⟩
theorem Pz{P:Program}{n bq:Nat}{gq:Operand}{ps:List Nat}{x y:IC}{Q:fG->S->Prop}{s s':S}{g:V}(hle:bE bq s s')(h:sI P n bq false gq ps x y Q s' (s'.ev gq)):sI P n bq false gq ps x y Q s g:=by
 unfold sI at h|-
 obtain⟨h1,h2⟩:=h
 refine⟨h1, .inr ?_⟩
 rcases h2 with h2|⟨s'',ON,h2⟩
 ·exact⟨s',hle,h2⟩
 ·exact⟨s'',hle.trans ON,h2⟩
def nW(P:Program)(n b id:Nat)(eN:IC)(K X:V->(Nat->ae)->Nat->Prop)(e:fG)(s:S):Prop:=
 match e with
 | .normal=>∃nf m en p c d pd,s.o id= .loop nf m en p c d .ready pd/\kS P n b true eN (jM id K X) ⟨s.env,aK s.o id (.loop nf m en p c d .busy pd),s.nx⟩
 | .cc v=>X v s.o s.nx
 |_=>False
theorem eh.ay {P:Program}{n:Nat}(bM:P.follows .mixedOrders=true){id:Nat}{args:List V}{o:Nat->ae}{nx:Nat}{K X:V->(Nat->ae)->Nat->Prop}{env:List V}{ps:List Nat}{iZ eN:IC}{st:LoopState}{pd:Option jS}
 (ho:o id= .loop P.funcs.size n env ps iZ eN st pd) (db:id<nx) (CY:ps.all (fun t=>decide (t<n))=true) (hl:args.length=ps.length)
 (h:kS P n nx true iZ (nW P n nx id eN K X) ⟨m8 (bz env) ps args,o,nx⟩):eh P id args o nx K X:=by
 refine eh.vI bM ho db CY hl (eH iZ _ _ _ (fun e s h=> ?_) h)
 cases e with
 |normal=>
  obtain⟨nf,m,en,p,c,d,pd,h1,h2⟩:=h
  exact⟨nf,m,en,p,c,d,pd,h1,eH eN _ _ _ (fun _ _ h=>h) h2⟩
 |cc v=>exact h
 |_=>exact h.elim
theorem AW{P:Program}{n b id:Nat}{eN:IC}{K X:V->(Nat->ae)->Nat->Prop}{s:S}{nf m:Nat}{en:List V}{p:List Nat}{c d:IC}{pd:Option jS}(h:s.o id= .loop nf m en p c d .ready pd)
 (h2:kS P n b true eN (jM id K X) ⟨s.env,aK s.o id (.loop nf m en p c d .busy pd),s.nx⟩):nW P n b id eN K X .normal s:=⟨nf,m,en,p,c,d,pd,h,h2⟩
section
variable {P:Program}{KB:List Nat->Fp->Prop}{pr:List (List Nat)}{l:List cI}{fr:Nat}{fp:Fp}{bad ws:List Nat}{s:S}{d:Option Nat}{op:Op}
theorem aY(h:KB ws fp):CQ P KB pr [] fr fp bad ws s:=by unfold CQ;exact h
end
end Go.Proofs.YtonbelhklnmjnaaGreat
namespace Go.Proofs.YtonbelhklnmjnaaGreat
structure Gr where
 x:V
 ty:TypeId
 sz:Nat
 es:List D
def Gr.ok (so:Nat->ae)(gone:Nat->Prop)(g:Gr):Prop:=Fc so gone g.ty g.sz g.es g.x
def LO(c:Nat)(G:List Gr)(so:Nat->ae)(gone:Nat->Prop)(v v':V):Prop:=
 v'= .aa\/(v'=v/\∀r∈v.refs,r<c)\/(∃i g,G[i]? =some g/\v'= .osl (c+i) 0/\v=g.x)\/∃y,v'= .d y/\eu so v=some y/\∀id∈v.ids,gone id/\∀g∈G,∀ep,g.x≠ .osl id ep
def na(c:Nat)(G:List Gr)(so:Nat->ae)(gone:Nat->Prop)(env:Nat->V):List V->Nat->Prop
 |[],_=>True
 |v::l,i=>LO c G so gone (env i) v/\na c G so gone env l (i+1)
def v7(c:Nat)(G:List Gr)(so:Nat->ae)(gone:Nat->Prop):List V->List V->Prop
 |[],[]=>True
 |v::l,v'::l'=>LO c G so gone v v'/\v7 c G so gone l l'
 |_,_=>False
def xK(c:Nat)(G:List Gr)(so:Nat->ae)(gone:Nat->Prop)(x x':ae):Prop:=
 x'= .no\/(x=x'/\∀r∈x'.refs,r<c)\/∃cs cs',x= .row cs/\x'= .row cs'/\v7 c G so gone cs cs'
section
variable {c:Nat}{G:List Gr}{so:Nat->ae}{gone:Nat->Prop}
theorem GF{env:Nat->V}:∀ (l:List V) (i:Nat),na c G so gone env l i->∀j,LO c G so gone (env (i+j)) (bz l j)
 |[],i,_,j=>by rw[re];exact .inl rfl
 |v::l,i,h,0=>by rw[oE];exact h.1
 |v::l,i,h,j+1=>by
  rw[oF]
  have:=GF l (i+1) h.2 j
  rwa [show i+1+j=i+(j+1) by omega]at this
variable {env:Nat->V}{i:Nat}{l l':List V}{v:V}{y:D}
theorem J2:na c G so gone env [] i:=trivial
theorem Hs(h:na c G so gone env l (i+1)):na c G so gone env (.aa::l) i:=⟨.inl rfl,h⟩
theorem J3(he:env i= .d y)(h:na c G so gone env l (i+1)):na c G so gone env (.d y::l) i:=⟨.inr (.inl ⟨he.symm,fun r hr=>by rw[he]at hr;simp[V.refs]at hr⟩),h⟩
theorem TK(he:env i=v)(hr:∀r∈v.refs,r<c)(h:na c G so gone env l (i+1)):na c G so gone env (v::l) i:=⟨.inr (.inl ⟨he.symm,fun r Ae=>hr r (he ▸ Ae)⟩),h⟩
theorem TJ(k:Nat){g:Gr}{n:Nat}(hg:G[k]? =some g)(hn:n=c+k)(he:env i=g.x)(h:na c G so gone env l (i+1)):na c G so gone env (.osl n 0::l) i:=⟨.inr (.inr (.inl ⟨k,g,hg,by rw[hn],he⟩)),h⟩
theorem TL(ht:eu so (env i)=some y)(hi:∀id∈(env i).ids,gone id/\∀g∈G,∀ep,g.x≠ .osl id ep)(h:na c G so gone env l (i+1)):na c G so gone env (.d y::l) i:=⟨.inr (.inr (.inr ⟨y,rfl,ht,hi⟩)),h⟩
theorem Db:v7 c G so gone [] []:=trivial
theorem Xb(h:v7 c G so gone l l'):v7 c G so gone (.d y::l) (.d y::l'):=⟨.inr (.inl ⟨rfl,fun r hr=>by simp[V.refs]at hr⟩),h⟩
theorem LP(k:Nat){g:Gr}{n:Nat}(hg:G[k]? =some g)(hn:n=c+k)(he:v=g.x)(h:v7 c G so gone l l'):v7 c G so gone (v::l) (.osl n 0::l'):=⟨.inr (.inr (.inl ⟨k,g,hg,by rw[hn],he⟩)),h⟩
theorem GG{x:ae}:xK c G so gone x .no:= .inl rfl
theorem bw{x x':ae}(h:x=x')(hr:∀r∈x'.refs,r<c):xK c G so gone x x':= .inr (.inl ⟨h,hr⟩)
theorem Dc{x:ae}{cs cs':List V}(h:x= .row cs)(hr:v7 c G so gone cs cs'):xK c G so gone x (.row cs'):= .inr (.inr ⟨cs,cs',h,rfl,hr⟩)
end
theorem rq{c:Nat}{G:List Gr}{so:Nat->ae}{gone:Nat->Prop}{B B':Nat->Prop}{φ aS:Place}{H H':Hp}{w:World}(hc:∀v v' val,LO c G so gone v v'->V.den B φ H w v val->V.den B' aS H' w v' val):
 ∀ (l l':List V) (vals:List Value),v7 c G so gone l l'->V.aP B φ H w l vals->V.aP B' aS H' w l' vals
 |[],[],_,_,h=>h
 |v::l,v'::l',_,h,hd=>by
  obtain⟨u,us,rfl,h1,h2⟩:=hd
  exact⟨u,us,rfl,hc _ _ _ h.1 h1,rq hc l l' us h.2 h2⟩
 |[],_::_,_,h,_=>h.elim
 |_::_,[],_,h,_=>h.elim
def LQ(φ:Place)(c:Nat)(G:List Gr):Place:=fun id=>if id<c then φ id else match G[id - c]? with
 |some g=>(match g.x with| .osl j _=>φ j|_=> .slice none 0 0)
 |none=>φ id
theorem bE.see (gone:Nat->Prop)(G:List Gr)(c:Nat){b:Nat}{e:Nat->V}{so:Nat->ae}{m:Nat}(l:List V){o':Nat->ae}{nx':Nat}(uA:nx'=c+G.length)(hb:b<=c)
 (ho:∀id,id<c->xK c G so gone (so id) (o' id)) (hG:∀i g,G[i]? =some g->o' (c+i)= .arr 0 g.ty g.sz g.es/\g.ok so gone) (hh:∀id,nx'<=id->o' id= .no) (yT:∀id,gone id->id<c->o' id= .no)
 (Uw:∀ (i j:Nat) (gi gj:Gr) (id ep ju:Nat),G[i]? =some gi->G[j]? =some gj->gi.x= .osl id ep->gj.x= .osl id ju->i=j) (he:na c G so gone e l 0):bE b ⟨e,so,m⟩ ⟨bz l,o',nx'⟩:=by
 subst uA
 intro M φ w tm hH hd
 let aS:Place:=LQ φ c G
 let H':Hp:=hp o' (c+G.length)
 let H:Hp:=⟨so,fun id=>id<m⟩
 have IE:∀id,id<c->aS id=φ id:=fun id aC=>if_pos aC
 have LR:∀i g,G[i]? =some g->aS (c+i)=(match g.x with| .osl j _=>φ j|_=> .slice none 0 0):=fun i g hg=>by
  show LQ φ c G (c+i)=_
  unfold LQ
  rw[if_neg (by omega),show c+i - c=i by omega,hg]
 have hold:∀id k,(o' id).live=true->eT (aS id)=some k->∃j,(so j).live=true/\eT (φ j)=some k/\((id<c/\j=id)\/∃i g ep,id=c+i/\G[i]? =some g/\gone j/\g.x= .osl j ep):=by
  intro id k h1 h2
  by_cases db:id<c
  ·rw[IE id db]at h2
   rcases ho id db with h3|⟨h3,_⟩|⟨cs,cs',h3,h4,_⟩
   ·rw[h3]at h1;cases h1
   ·exact⟨id,by rw[h3];exact h1,h2, .inl ⟨db,rfl⟩⟩
   ·exact⟨id,by rw[h3];rfl,h2, .inl ⟨db,rfl⟩⟩
  ·by_cases Bv:c+G.length<=id
   ·rw[hh id Bv]at h1;cases h1
   ·obtain⟨i,rfl⟩:∃i,id=c+i:=⟨id - c,ad⟩
    obtain⟨g,hg⟩:∃g,G[i]? =some g:=⟨G[i]'ad,au⟩
    rw[LR i g hg]at h2
    obtain⟨_,bA⟩:=hG i g hg
    rcases bA with⟨h3,_,_⟩|⟨j,ep,hj,h3,qm⟩
    ·rw[h3]at h2;cases h2
    ·rw[h3]at h2
     exact⟨j,by rw[qm];rfl,h2, .inr ⟨i,g,ep,rfl,hg,hj,h3⟩⟩
 have dk:∀k,du aS H' k->du φ H k:=by
  rintro k ⟨id,h1,h2⟩
  obtain⟨j,g1,g2,_⟩:=hold id k h1 h2
  exact⟨j,g1,g2⟩
 have hB:∀k, ¬az M φ H k-> ¬az M aS H' k:=fun k h h'=>h (h'.imp id (dk k))
 have Kr:∀id,id<c->rm (H'.o id) (H.o id)/\aS id=φ id/\H'.us id:=fun id aC=>by
  refine⟨?_,IE id aC,(by show id<c+G.length;omega)⟩
  show rm (o' id) (so id)
  rcases ho id aC with h3|⟨h3,_⟩|⟨cs,cs',h3,h4,_⟩
  ·rw[h3];exact⟨fun h=>(by cases h),fun e h=>(by cases h)⟩
  ·exact rm.rfl' h3.symm
  ·rw[h3,h4];exact rm.row _ _
 have fV:∀ (v:V) (val:Value),(∀r∈v.refs,r<c)->V.den (az M φ H) φ H w v val->V.den (az M aS H') aS H' w v val:=fun v val hr h=>
  V.rn (H:=H) (H':=H') hB v val (fun id aC=>Kr id (hr id aC)) h
 have pk:∀ (v:List V) (val:List Value),(∀r∈V.aQ v,r<c)->V.aP (az M φ H) φ H w v val->V.aP (az M aS H') aS H' w v val:=fun v val hr h=>
  V.kg (H:=H) (H':=H') hB v val (fun id aC=>Kr id (hr id aC)) h
 have aeX:∀ (v:V) (y:D) (val:Value),eu so v=some y->(∀id∈v.ids,gone id/\∀g∈G,∀ep,g.x≠ .osl id ep)->V.den (az M φ H) φ H w v val->D.den (az M aS H') w y val:=fun v y val h1 h2 h3=>by
  obtain⟨f1,f2,f3,f4,f5⟩:=dH (H:=H) hH v.ids (fun id aC=>dC v val h3 id aC)
  have hB1:∀k,du φ (H.put (dy H.o v.ids)) k->du φ H k:=by
   rintro k ⟨id,g1,g2⟩
   by_cases aC:id∈v.ids
   ·rw[f3 id aC]at g1
    refine⟨id, ?_,g2⟩
    revert g1
    cases H.o id<;>simp[ae.fz,ae.live]
   ·rw[f4 id aC]at g1;exact⟨id,g1,g2⟩
  have h4:V.den (az M φ (H.put (dy H.o v.ids))) φ (H.put (dy H.o v.ids)) w v val:=
   V.rn (H:=H) (fun k h h'=>h (h'.imp id (hB1 k))) v val (fun id aC=>by
     have fQ:H.us id:=(V.sM v val h3) id aC
     refine⟨?_,rfl,(f5 id).2 fQ⟩
     by_cases hm:id∈v.ids
     ·rw[f3 id hm];exact rm.fz _
     ·rw[f4 id hm];exact rm.rfl' rfl) h3
  have h5:=gE f1 (o:=so) v y val (fun id aC=>f3 id aC) h1 h4
  refine D.aX (w:=w) (w':=w) (fun k _ hn=>⟨rfl,fun hk=>hn (hk.imp id ?_)⟩) y val h5
  rintro⟨id,g1,g2⟩
  obtain⟨j,k1,k2,k3⟩:=hold id k g1 g2
  refine⟨j, ?_,k2⟩
  have:j∉v.ids:=fun hm=>by
   obtain⟨k4,k5⟩:=h2 j hm
   rcases k3 with⟨k6,k7⟩|⟨i,g,ep,k6,k8,k9,Z6⟩
   ·subst k7
    have:=yT _ k4 k6
    have g1:(o' j).live=true:=g1
    rw[this]at g1
    cases g1
   ·exact k5 g (List.mem_of_getElem? k8) ep Z6
  rw[f4 j this];exact k1
 have GH:∀i g val,G[i]? =some g->V.den (az M φ H) φ H w g.x val->V.den (az M aS H') aS H' w (.osl (c+i) 0) val:=by
  intro i g val hg this
  obtain⟨Hx,bA⟩:=hG i g hg
  have db:c+i<c+G.length:=by have:=(List.getElem?_eq_some_iff.1 hg).1;omega
  rcases bA with⟨h3,_,_⟩|⟨j,ep,hj,h3,qm⟩
  ·rw[h3]at this
   simp only[V.den]at this
   rw[this]
   refine⟨rfl,db,fun e' o7=> ?_⟩
   have o7:(o' (c+i)).cH=some e':=o7
   rw[Hx]at o7
   simp only[ae.cH,Option.some.injEq]at o7
   subst o7
   exact⟨Nat.le_refl _,fun _=>by rw[LR i g hg,h3]⟩
  ·rw[h3]at this
   obtain⟨g1,g2,g3⟩:=this
   refine⟨g1,db,fun e' o7=> ?_⟩
   have o7:(o' (c+i)).cH=some e':=o7
   rw[Hx]at o7
   simp only[ae.cH,Option.some.injEq]at o7
   subst o7
   have xy:(H.o j).cH=some ep:=by show(so j).cH=_;rw[qm];rfl
   exact⟨Nat.le_refl _,fun _=>by rw[LR i g hg,h3];exact(g3 ep xy).2 rfl⟩
 have Th:∀v v' val,LO c G so gone v v'->V.den (az M φ H) φ H w v val->V.den (az M aS H') aS H' w v' val:=by
  intro v v' val h h1
  rcases h with rfl|⟨rfl,h2⟩|⟨i,g,hg,rfl,rfl⟩|⟨y,rfl,h2,h3⟩
  ·trivial
  ·exact fV _ _ h2 h1
  ·exact GH i g _ hg h1
  ·exact aeX v y val h2 h3 h1
 refine⟨aS,⟨fun id=> ?_,fun id hu=>hh id (by have: ¬id<c+G.length:=hu;omega),fun i j k h1 h2 h3 h4=> ?_,fun k hk=>hH.ours k (dk k hk),hH.Bu⟩,fun i=> ?_,dk,by show b<=c+G.length;omega,fun id aC hr=> ?_,fun id e' aC o7=> ?_⟩
 ·have bI:bn M φ H w id:=hH.ok id
  show bn M aS H' w id
  unfold bn at bI|-
  by_cases db:id<c
  ·rcases ho id db with h3|⟨h3,hrefs⟩|⟨cs,cs',h3,h4,ck⟩
   ·have e2:H'.o id= .no:=h3
    rw[e2];trivial
   ·have e1:H.o id=o' id:=h3
    have e2:H'.o id=o' id:=rfl
    rw[e1]at bI
    rw[e2,IE id db]
    cases JQ:o' id with
    |no=>trivial
    |row cs=>
     simp only[JQ]at bI hrefs|-
     obtain⟨b,dX,ty,k1,k2,k3,k4⟩:=bI
     exact⟨b,dX,ty,k1,k2,pk _ _ hrefs k3,k4⟩
    |arr ep ty sz es=>
     simp only[JQ]at bI|-
     obtain⟨k1,xs,k2,evs,k3,k4,k5⟩:=bI
     exact⟨k1,xs,k2,evs,k3,k4,D.bg (fun b _ hn=>⟨rfl,hB b hn⟩) _ _ k5⟩
    |tc ep es=>
     simp only[JQ]at bI|-
     exact D.aX (fun b _ hn=>⟨rfl,hB b hn⟩) _ _ bI
    |map kt vt es=>
     simp only[JQ]at bI|-
     obtain⟨b,es',clock,k1,k2,k4,k3⟩:=bI
     exact⟨b,es',clock,k1,k2,k4,a8.mono (fun b _ hn=>⟨rfl,hB b hn⟩) _ _ k3⟩
    |iY l=>
     simp only[JQ]at bI|-
     exact D.aX (fun b _ hn=>⟨rfl,hB b hn⟩) _ _ bI
    |nq l last=>
     simp only[JQ]at bI|-
     obtain⟨b,k1,k2⟩:=bI
     exact⟨b,k1,k2.mono (fun b _ hn=>⟨rfl,hB b hn⟩) rfl⟩
    |zX s pos=>
     simp only[JQ]at bI|-
     exact bI
    |loop nf n env ps a b st pd=>
     simp only[JQ]at bI hrefs|-
     obtain⟨b,r,k1,k2,k3,k4,k5,k6,k7,k8,k9,Z6⟩:=bI
     exact⟨b,r,k1,k2,k3,k4,k5,k6,k7,k8,k9,fun i=>fV _ _ (fun r hr=>hrefs r (V.sK _ _ r hr)) (Z6 i)⟩
   ·have e1:H.o id= .row cs:=h3
    have e2:H'.o id= .row cs':=h4
    rw[e1]at bI
    rw[e2,IE id db]
    obtain⟨b,dX,ty,k1,k2,k3,k4⟩:=bI
    exact⟨b,dX,ty,k1,k2,rq Th _ _ _ ck k3,k4⟩
  ·by_cases Bv:c+G.length<=id
   ·have e2:H'.o id= .no:=hh id Bv
    rw[e2];trivial
   ·obtain⟨i,rfl⟩:∃i,id=c+i:=⟨id - c,ad⟩
    obtain⟨g,hg⟩:∃g,G[i]? =some g:=⟨G[i]'ad,au⟩
    obtain⟨Hx,bA⟩:=hG i g hg
    have e2:H'.o (c+i)= .arr 0 g.ty g.sz g.es:=Hx
    rw[e2]
    rcases bA with⟨h3,h4,ed⟩|⟨j,ep,hj,h3,qm⟩
    ·rw[h4]
     refine⟨ed,[], ?_,[],au,au,rfl⟩
     rw[LR i g hg,h3]
     exact World.ownsRow_nil _ _ _ _
    ·have this:bn M φ H w j:=hH.ok j
     unfold bn at this
     have e3:H.o j= .arr ep g.ty g.sz g.es:=qm
     simp only[e3]at this
     obtain⟨k1,xs,k2,evs,k3,k4,k5⟩:=this
     exact⟨k1,xs,by rw[LR i g hg,h3];exact k2,evs,k3,k4,D.bg (fun b _ hn=>⟨rfl,hB b hn⟩) _ _ k5⟩
 ·obtain⟨i',a1,a2,a3⟩:=hold i k h1 h3
  obtain⟨j',b1,b2,b3⟩:=hold j k h2 h4
  have:=hH.apart i' j' k a1 b1 a2 b2
  subst this
  have iQ:∀Eg,(o' Eg).live=true->Eg<c->gone Eg->False:=fun Eg g1 g2 g3=>by
   rw[yT _ g3 g2]at g1
   cases g1
  rcases a3 with⟨a3,a4⟩|⟨ia,ga,ea,a3,a4,a5,a6⟩<;>rcases b3 with⟨b3,b4⟩|⟨ib,gb,eb,b3,b4,b5,b6⟩
  ·omega
  ·exact(iQ i h1 a3 (a4 ▸ b5)).elim
  ·exact(iQ j h2 b3 (b4 ▸ a5)).elim
  ·have:=Uw ia ib ga gb _ _ _ a4 b4 a6 b6
   omega
 ·have hi:=GF l 0 he i
  rw[Nat.zero_add]at hi
  exact Th _ _ _ hi (hd i)
 ·have db:id<c:=ad
  have hr:(o' id).cK=true:=hr
  exact⟨(Kr id db).1.1 hr,IE id db⟩
 ·have db:id<c:=ad
  have o7:(o' id).cH=some e':=o7
  exact⟨e',(Kr id db).1.2 e' o7,Nat.le_refl _,fun _=>IE id db⟩
theorem bE.acI (gone:Nat->Prop)(c:Nat){b:Nat}{e:Nat->V}{so:Nat->ae}{m:Nat}(l:List V){o':Nat->ae}(hb:b<=c)
 (ho:∀id,id<c->xK c [] so gone (so id) (o' id)) (hh:∀id,c<=id->o' id= .no) (yT:∀id,gone id->id<c->o' id= .no) (he:na c [] so gone e l 0):bE b ⟨e,so,m⟩ ⟨bz l,o',c⟩:=
 bE.see gone [] c l rfl hb ho (fun i g h=>by cases h) hh yT (fun i j gi gj id ep ju h=>by cases h) he
theorem bE.gU (gone:Nat->Prop)(x:V)(c:Nat){ty:TypeId}{sz:Nat}{es:List D}{b:Nat}{e:Nat->V}{so:Nat->ae}{m:Nat}(l:List V){o':Nat->ae}(hb:b<=c)
 (ho:∀id,id<c->xK c [⟨x,ty,sz,es⟩] so gone (so id) (o' id)) (hc:o' c= .arr 0 ty sz es) (hx:Fc so gone ty sz es x) (hh:∀id,c+1<=id->o' id= .no) (yT:∀id,gone id->id<c->o' id= .no)
 (he:na c [⟨x,ty,sz,es⟩] so gone e l 0):bE b ⟨e,so,m⟩ ⟨bz l,o',c+1⟩:=
 bE.see gone [⟨x,ty,sz,es⟩] c l rfl hb ho (fun i g h=>by
  match i,h with
  |0,h=>simp at h;subst h;exact⟨hc,hx⟩) hh yT (fun i j gi gj id ep ju h h' _ _=>by
  match i,j,h,h' with
  |0,0,_,_=>rfl) he
theorem yU{P:Nat->Prop}(h:P 0):∀id,id<1->P id:=fun id aC=>by
 have e:id=0:=ad
 rw[e];exact h
theorem lt2{P:Nat->Prop}(h:P 0)(h1:P 1):∀id,id<2->P id:=fun id aC=>by
 rcases(by omega:id=0\/id=1)with rfl|rfl<;>assumption
theorem lt3{P:Nat->Prop}(h:P 0)(h1:P 1)(h2:P 2):∀id,id<3->P id:=fun id aC=>by
 rcases(by omega:id=0\/id=1\/id=2)with rfl|rfl|rfl<;>assumption
theorem lt0{P:Nat->Prop}:∀id,id<0->P id:=fun id aC=>ad
@[go_sem] theorem afj (b:Bool):(b==false)= !b:=J8
@[go_sem] theorem afk (b:Bool):(b==true)=b:=J8
@[go_sem] theorem acJ (c:Bool) (v:V):V.AD c (V.AD c v)=V.AD c v:=Oh
@[go_sem] theorem acK (c:Bool):(c&&c)=c:=Oh
@[go_sem] theorem YS {α:Type} (f:α->D) (l:List α) (n:Nat) (h:∀x,(f x).cells.length=n):((l.map f).all fun z=>z.cells.length==n)=true:=by
  simp[List.all_eq_true,h]
attribute [go_sem] implies_true
attribute [go_sem] Option.isSome_none Option.getD_some Option.getD_none
theorem structOf{P:Program}{t:TypeId}(h:(match P.underlying t with|some (.struct _)=>true|_=>false)=true):∃fs,P.underlying t=some (.struct fs):=by
 split at h
 ·exact⟨_,by assumption⟩
 ·cases h
theorem ak{pr:List (List Nat)}{fp:List (List Nat×List Nat)}(h:fp.all (fun x=>x.2.isEmpty)=true):iX pr fp=true:=by
 have e:∀i,(fp.getD i ([],[])).2=[]:=fun i=>by
  rw[List.getD_eq_getElem?_getD]
  cases hi:fp[i]? with
  |none=>rfl
  |some x=>simpa using List.all_eq_true.1 h x (List.mem_of_getElem? hi)
 simp only[iX,List.all_eq_true,e,np,List.all_nil,Bool.and_self,Bool.or_true,implies_true]
structure cW (base:Nat) (h o:Nat->ae) (nx:Nat):Prop where
 bU:Good o nx
 le:base<=nx
 eq:∀id,id<base->o id=h id
def StK(base:Nat)(h:Nat->ae)(v:V)(o:Nat->ae)(nx:Nat)(K:V->(Nat->ae)->Nat->Prop):Prop:=
 ∀o' nx',nx<=nx'->cW base h o' nx'->(∀id,base<=id->id<nx->o' id=o id)->K v o' nx'
def fR(P:Program)(g:FuncId)(args:List V)(base:Nat)(h h2:Nat->ae)(v:V):Prop:=
 ∀o nx,cW base h o nx->∀K X,StK base h2 v o nx K->cU P g args o nx K X
theorem cW.aK {base:Nat}{h o:Nat->ae}{nx m i:Nat}{x:ae}(hI:cW base h o nx)(hb:base<=i)(hi:i<m)(hm:nx<=m)(hx:x.refs.all (fun r=>decide (r<m))=true):cW base h (YtonbelhklnmjnaaGreat.aK o i x) m:=
 ⟨(hI.bU.mono hm).aK hi hx,Nat.le_trans hI.le hm,fun id aC=>by rw[aj _ _ _ _ (by omega)];exact hI.eq id aC⟩
theorem cW.mono {base:Nat}{h o:Nat->ae}{nx m:Nat}(hI:cW base h o nx)(hm:nx<=m):cW base h o m:=⟨hI.bU.mono hm,Nat.le_trans hI.le hm,hI.eq⟩
def ext(base:Nat)(h o:Nat->ae):Nat->ae:=fun id=>if id<base then h id else o id
theorem cW.ext {base c:Nat}{h o:Nat->ae}{nx:Nat}(hI:cW base h o nx)(hc:c<=nx)(hb:base<=c):cW c (YtonbelhklnmjnaaGreat.ext base h o) o nx:=
 ⟨hI.bU,hc,fun id _=>by unfold YtonbelhklnmjnaaGreat.ext;split<;>first|exact hI.eq id BK|rfl⟩
theorem fR.ext {P:Program}{g:FuncId}{args:List V}{base c:Nat}{h h2:Nat->ae}{v:V}(hS:fR P g args base h h2 v)(hb:base<=c)(o0:Nat->ae):fR P g args c (YtonbelhklnmjnaaGreat.ext base h o0) (YtonbelhklnmjnaaGreat.ext base h2 o0) v:=by
 intro o nx hI K X hK
 refine hS o nx ⟨hI.bU,Nat.le_trans hb hI.le,fun id aC=>by rw[hI.eq id (by omega)];unfold YtonbelhklnmjnaaGreat.ext;rw[if_pos aC]⟩ K X fun o' nx' h1 h2 h3=>hK o' nx' h1 ⟨h2.bU,Nat.le_trans hI.le h1,fun id aC=> ?_⟩ (fun id h4 h5=>h3 id ad h5)
 unfold YtonbelhklnmjnaaGreat.ext
 split
 ·exact h2.eq id BK
 ·rename_i hn
  rw[h3 id (by omega) (by have:=hI.le;omega),hI.eq id aC]
  unfold YtonbelhklnmjnaaGreat.ext;rw[if_neg hn]
theorem StK.ext {base c:Nat}{h o:Nat->ae}{v:V}{o1:Nat->ae}{nx Bx:Nat}{K:V->(Nat->ae)->Nat->Prop}(hK:StK base h v o nx K)(hb:base<=c)(hn:nx<=Bx)(hc:nx<=c)(ho:∀id,base<=id->id<nx->o1 id=o id):StK c (YtonbelhklnmjnaaGreat.ext base h o1) v o1 Bx K:=by
 intro o' nx' h1 h2 h3
 refine hK o' nx' ad ⟨h2.bU,Nat.le_trans hb h2.le,fun id aC=> ?_⟩ fun id h4 h5=> ?_
 ·rw[h2.eq id (by omega)];unfold YtonbelhklnmjnaaGreat.ext;rw[if_pos aC]
 ·rw[h2.eq id (by omega), <- ho id h4 h5];unfold YtonbelhklnmjnaaGreat.ext;rw[if_neg (by omega)]
def aA{α σ:Type}(step:σ->α->σ×Bool)(s:σ):List α->σ×Bool
 |[]=>(s,true)
 |x::l=>if(step s x).2=true then aA step (step s x).1 l else((step s x).1,false)
theorem nX{P:Program}{id:Nat}{args:List V}{e:Nat->V}{o:Nat->ae}{nx:Nat}{K X:V->(Nat->ae)->Nat->Prop}(h:eh P id args o nx K X):yH P id K X ⟨e,o,nx⟩ args:=by unfold yH;exact h
theorem iG{α:Type}(f:Nat->α)(i:Nat)(x y:α):aK (aK f i x) i y=aK f i y:=by
 funext j;simp only[aK];split<;>rfl
attribute [go_sem] Int.cast_ofNat_Int
section
variable {P:Program}{n:Nat}{ps:List Nat}{x y:IC}{env:List V}{L:LoopState->Option jS->ae}
def iH(P:Program)(n:Nat)(env:List V)(ps:List Nat)(x y:IC)(L:LoopState->Option jS->ae):Prop:=∀st pd,L st pd= .loop P.funcs.size n env ps x y st pd
theorem Fe{bq:Nat}{gq:Operand}{Q:fG->S->Prop}{e:Nat->V}{o:Nat->ae}{nx:Nat}{f:FuncId}{cap:List V}(env:List V)(he:lZ e env 0)
 (h:∀L,iH P n env ps x y L->cU P f (.j6 nx::cap) (aK o nx (L .ready none)) (nx+1)
  (fun _ o' nx'=>∃st pd,o' nx=L st pd/\st≠ .busy/\oW Q pd ⟨e,aK o' nx (L .exhausted pd),nx'⟩) (fun v o' nx'=>Q (.cc v) ⟨e,o',nx'⟩)):
 sI P n bq false gq ps x y Q ⟨e,o,nx⟩ (.func (.func f) [] cap):=by
 refine ID env he ?_
 have:=h (fun st pd=> .loop P.funcs.size n env ps x y st pd) (fun _ _=>rfl)
 refine this.mono (fun v o' nx' hh=> ?_) (fun v o' nx' hh=>hh)
 obtain⟨st,pd,h1,h2,h3⟩:=hh
 exact⟨_,_,_,_,_,_,_,_,h1,h2,h3⟩
theorem v8(hL:iH P n env ps x y L)(bM:P.follows .mixedOrders=true){id:Nat}{args:List V}{o:Nat->ae}{nx:Nat}{K X:V->(Nat->ae)->Nat->Prop}{st:LoopState}{pd:Option jS}
 (ho:o id=L st pd) (db:id<nx) (CY:ps.all (fun t=>decide (t<n))=true) (hl:args.length=ps.length)
 (h:kS P n nx true x (nW P n nx id y K X) ⟨m8 (bz env) ps args,o,nx⟩):eh P id args o nx K X:=
 eh.ay bM (ho.trans (hL st pd)) db CY hl h
theorem l0(hL:iH P n env ps x y L){b id:Nat}{eN:IC}{K X:V->(Nat->ae)->Nat->Prop}{e:Nat->V}{o:Nat->ae}{nx:Nat}{pd:Option jS}(h:o id=L .ready pd)
 (h2:kS P n b true eN (jM id K X) ⟨e,aK o id (L .busy pd),nx⟩):nW P n b id eN K X .normal ⟨e,o,nx⟩:=by
 refine AW (h.trans (hL _ _)) ?_
 rw[<- hL];exact h2
theorem sN(hL:iH P n env ps x y L){id:Nat}{K X:V->(Nat->ae)->Nat->Prop}{e:Nat->V}{o:Nat->ae}{nx:Nat}{st:LoopState}{pd:Option jS}(h:o id=L st pd)(k:K (.d (.bool true)) (aK o id (L .ready none)) nx):jM id K X .normal ⟨e,o,nx⟩:=
 ⟨_,_,_,_,_,_,_,_,h.trans (hL _ _),by rw[<- hL];exact k⟩
theorem pV(hL:iH P n env ps x y L){id:Nat}{K X:V->(Nat->ae)->Nat->Prop}{e:Nat->V}{o:Nat->ae}{nx:Nat}{st:LoopState}{pd:Option jS}(h:o id=L st pd)(k:K (.d (.bool false)) (aK o id (L .done (some .ret))) nx):jM id K X .ret ⟨e,o,nx⟩:=
 ⟨_,_,_,_,_,_,_,_,h.trans (hL _ _),by rw[<- hL];exact k⟩
theorem nY(hL:iH P n env ps x y L){id j:Nat}{K X:V->(Nat->ae)->Nat->Prop}{e:Nat->V}{o:Nat->ae}{nx:Nat}{st:LoopState}{pd:Option jS}(h:o id=L st pd)(k:K (.d (.bool false)) (aK o id (L .done (some (.exit j)))) nx):jM id K X (.exit j) ⟨e,o,nx⟩:=
 ⟨_,_,_,_,_,_,_,_,h.trans (hL _ _),by rw[<- hL];exact k⟩
theorem iH.no (hL:iH P n env ps x y L)(st:LoopState)(pd:Option jS):L st pd≠ .no:=by rw[hL];exact ae.noConfusion
theorem iH.refs (hL:iH P n env ps x y L)(st:LoopState)(pd:Option jS):(L st pd).refs=V.aQ env:=by rw[hL];rfl
end
theorem cU.gen {P:Program}{g:FuncId}{args:List V}{o:Nat->ae}{nx:Nat}{K X:V->(Nat->ae)->Nat->Prop}(h:∀O,O=o->cU P g args O nx K X):cU P g args o nx K X:=h o rfl
end Go.Proofs.YtonbelhklnmjnaaGreat
