/-
  A PART OF THE PROOF. Conditions: none.
-/
import Derived.Test.YtonbelhklnmjnaaGreatRows
import Derived.Test.YtonbelhklnmjnaaGreatLl13
set_option linter.unusedSimpArgs false
set_option linter.unusedVariables false
namespace Go.Proofs.YtonbelhklnmjnaaGreat
def aao:IC:=
 (.seq (.ad [bx 2 31 0,
 al 4 31]) (.seq (.seq (.ad [fa 8 31 2 0,
 ld 9 29 8,
 bk .eql 10 29 9 1 29]) (.cond (.tmp 10) (.seq (.ad [mv 11 1,
 fa 12 31 2 1,
 ld 13 3 12,
 ia 14 28 11 13,
 ld 15 31 14,
 st 31 4 15]) .ret) .skip)) (.seq (.ad [fa 16 31 2 0,
 ld 17 29 16,
 fa 18 31 2 1,
 ld 19 3 18,
 ⟨(some 20), .build 31 #[(0, .tmp 17),(1, .tmp 19)],none⟩,
 al 5 31,
 st 31 5 20]) (.seq (.seq (.ad [fa 21 31 2 2,
 ld 22 28 21,
 ln 23 22 28,
 u0 24 0]) (.block 0 (.loop (.seq (.ad [bo .lss 25 3 24 23 3]) (.seq (.cond (.tmp 25) .skip (.exit 0)) (.seq (.block 1 (.seq (.ad [ia 26 28 22 24,
 ld 27 31 26,
 al 7 31,
 st 31 7 27]) (.dp [fa 28 31 5 2,
 ld 29 28 28,
 ld 30 31 7,
 mv 31 1,
 k2 32 220 30 31 31 28,
 iP 33 28 32,
 ka 34 29 33 28,
 fa 35 31 5 2,
 st 28 35 34]
 [[],[0],[],[],[2,3],[4],[1,5,4],[0,1,2,3,4,5,6],[7,6,6,0,1,2,3,4,5,6]]))) (.ad [bk .add 36 3 24 1 3,
 mv 24 36]))))))) (.seq (.ad [ld 37 31 5,
 st 31 4 37]) .ret)))))
theorem Wp:aE Tryz.prog 220 38 aao [.cell 4 31]:=
 ⟨_,Tryz.func220,ag,ag,ag,_,rfl,ag⟩
def aap:IC:=
 (.seq (.ad [bx 3 119 0]) (.seq (.ad [mv 8 1,
 ln 9 8 28,
 mv 10 2,
 ln 11 10 33,
 bo .eql 12 3 9 11 3,
 k1 13 128 12 4]) (.seq (.ad [mv 14 2,
 ln 15 14 33,
 u0 16 0]) (.block 0 (.loop (.seq (.ad [bo .lss 17 3 16 15 3]) (.seq (.cond (.tmp 17) .skip (.exit 0)) (.seq (.block 1 (.seq (.ad [mv 18 16,
 ia 19 33 14 16,
 ld 20 35 19,
 al 7 35,
 sg 6 18,
 st 35 7 20]) (.dp [ld 21 119 3,
 mv 22 1,
 mv 23 6,
 ia 24 28 22 23,
 ld 25 31 24,
 ld 26 35 7,
 k3 27 93 21 25 26 119 31 35]
 [[],[],[],[1,2],[3],[],[0,4,5]]))) (.ad [bk .add 28 3 16 1 3,
 mv 16 28])))))))))
theorem Wq:aE Tryz.prog 221 29 aap []:=
 ⟨_,Tryz.func221,ag,ag,ag,_,rfl,ag⟩
def aaq:IC:=
 (.seq (.ad [bx 2 119 0,
 al 4 119]) (.seq (.ad [fa 5 119 2 0,
 ld 6 27 5,
 mv 7 1,
 ⟨(some 8), .build 119 #[(0, .tmp 6),(1, .tmp 7)],none⟩,
 st 119 4 8]) .ret))
theorem Wr:aE Tryz.prog 222 9 aaq [.cell 4 119]:=
 ⟨_,Tryz.func222,ag,ag,ag,_,rfl,ag⟩
def aar:IC:=
 (.seq (.ad [bx 2 106 0,
 nv 4]) (.seq (.ad [mv 7 1,
 k1 8 94 7 28,
 al 5 28,
 st 28 5 8]) (.seq (.ad [al 6 169]) (.seq (.ad [⟨(some 9), .makeFunc (.func 254) #[] #[.tmp 5, .tmp 6],none⟩,
 st 169 6 9]) (.seq (.ad [ld 10 169 6,
 fa 11 106 2 2,
 ld 12 31 11,
 ⟨(some 13), .call {callee:= .value (.tmp 10),args:=#[.tmp 12],argTypes:=#[31]},none⟩]) (.seq (.ad [ld 14 28 5,
 sg 4 14]) .ret))))))
theorem Ws:aE Tryz.prog 223 15 aar [.tmp 4]:=
 ⟨_,Tryz.func223,ag,ag,ag,_,rfl,ag⟩
def aas:IC:=
 (.seq (.ad [bx 4 119 0,
 bx 5 31 1,
 bx 6 35 2]) (.seq (.dp [fa 8 31 5 0,
 ld 9 29 8,
 bk .eql 10 29 9 7 29,
 mv 11 10,
 gT (fa 12 35 6 4) 11,
 gT (ld 13 33 12) 11,
 gT (ln 14 13 33) 11,
 gT (bk .eql 15 3 14 1 3) 11,
 bC 16 11 15,
 mv 17 16,
 gT (fa 18 35 6 4) 17,
 gT (ld 19 33 18) 17,
 gT (kW 20 33 19 0) 17,
 gT (fa 21 35 20 1) 17,
 gT (ld 22 31 21) 17,
 gT (fa 23 35 6 1) 17,
 gT (ld 24 31 23) 17,
 gT (k2 25 218 22 24 31 31) 17,
 bC 26 17 25,
 k1 27 128 26 4]
 [[],[0],[1],[2],[3],[4,3],[5,3],[6,3],[3,7],[8,3],[9],[10,9],[11,9],[12,9],[13,9],[9],[15,9],[14,16,9,9],[9,17],[18,17]]) (.dp [ld 28 119 4,
 fa 29 31 5 2,
 ld 30 28 29,
 mv 31 3,
 ia 32 28 30 31,
 ld 33 31 32,
 fa 34 35 6 4,
 ld 35 33 34,
 kW 36 33 35 0,
 ld 37 35 36,
 k3 38 93 28 33 37 119 31 35]
 [[],[],[1],[],[2,3],[4],[],[6],[7],[8],[0,5,9]])))
theorem Wt:aE Tryz.prog 224 39 aas []:=
 ⟨_,Tryz.func224,ag,ag,ag,_,rfl,ag⟩
def aat:IC:=
 (.seq (.ad [bx 1 133 0,
 al 2 31]) (.seq (.ad [⟨(some 3), .build 31 #[(0, .const (.int .i64 16))],none⟩,
 st 31 2 3]) .ret))
theorem Wu:aE Tryz.prog 225 4 aat [.cell 2 31]:=
 ⟨_,Tryz.func225,ag,ag,ag,_,rfl,ag⟩
def aau:IC:=
 (.seq (.ad [bx 4 119 0,
 bx 5 31 1,
 bx 6 35 2,
 al 8 31,
 al 9 31]) (.seq (.ad [mv 10 3,
 fa 11 31 5 0,
 ld 12 29 11,
 k2 13 255 10 12 225 29,
 k1 14 128 13 4]) (.seq (.ad [ld 15 119 4,
 fa 16 31 5 2,
 ld 17 28 16,
 fa 18 35 6 4,
 ld 19 33 18,
 k3 20 221 15 17 19 119 28 33]) (.seq (.dp [fa 21 35 6 4,
 ld 22 33 21,
 kW 23 33 22 0,
 fa 24 35 23 1,
 ld 25 31 24,
 fa 26 35 6 4,
 ld 27 33 26,
 kW 28 33 27 1,
 fa 29 35 28 1,
 ld 30 31 29,
 st 31 8 25,
 st 31 9 30]
 [[],[0],[1],[2],[3],[],[5],[6],[7],[8],[4,0,1,2,3,4],[9,10,0,1,2,3,4,5,6,7,8,9,10]]) .ret))))
theorem Wv:aE Tryz.prog 226 31 aau [.cell 8 31, .cell 9 31]:=
 ⟨_,Tryz.func226,ag,ag,ag,_,rfl,ag⟩
def aav:IC:=
 (.seq (.ad [al 2 31]) (.seq (.seq (.ad [mv 3 0]) (.cond (.tmp 3) (.seq (.ad [⟨(some 4), .build 31 #[(0, .const (.int .i64 3)),(1, .const (.int .i64 1))],none⟩,
 st 31 2 4]) .ret) .skip)) (.seq (.ad [⟨(some 5), .build 31 #[(0, .const (.int .i64 3))],none⟩,
 st 31 2 5]) .ret)))
theorem Ww:aE Tryz.prog 227 6 aav [.cell 2 31]:=
 ⟨_,Tryz.func227,ag,ag,ag,_,rfl,ag⟩
def aaw:IC:=
 (.seq (.ad [bx 2 27 0,
 al 4 31]) (.seq (.ad [mv 7 1,
 ⟨(some 8), .build 31 #[(0, .const (.int .i64 4)),(1, .tmp 7)],none⟩,
 al 5 31,
 st 31 5 8]) (.seq (.seq (.ad [fa 9 27 2 0,
 fa 10 24 9 1,
 ld 11 22 10,
 mv 12 1,
 ia 13 22 11 12,
 fa 14 104 13 1,
 ld 15 3 14,
 u0 16 0]) (.block 0 (.loop (.seq (.ad [bo .lss 17 3 16 15 3]) (.seq (.cond (.tmp 17) .skip (.exit 0)) (.seq (.block 1 (.seq (.ad [mv 18 16,
 sg 6 18]) (.dp [fa 19 31 5 2,
 ld 20 28 19,
 mv 21 6,
 k1 22 256 21 134,
 iP 23 28 22,
 ka 24 20 23 28,
 fa 25 31 5 2,
 st 28 25 24]
 [[],[0],[],[2],[3],[1,4,3],[0,1,2,3,4,5],[6,5,5,0,1,2,3,4,5]]))) (.ad [bk .add 26 3 16 1 3,
 mv 16 26]))))))) (.seq (.ad [ld 27 31 5,
 st 31 4 27]) .ret))))
theorem Wx:aE Tryz.prog 228 28 aaw [.cell 4 31]:=
 ⟨_,Tryz.func228,ag,ag,ag,_,rfl,ag⟩
def aax:IC:=
 (.seq (.ad [cZ 4 0]) (.seq (.seq (.ad [mv 6 0,
 ln 7 6 25,
 u0 8 0]) (.block 0 (.loop (.seq (.ad [bo .lss 9 3 8 7 3]) (.seq (.cond (.tmp 9) .skip (.exit 0)) (.seq (.block 1 (.seq (.ad [mv 10 8,
 sg 5 10]) (.seq (.ad [mv 11 1,
 mv 12 0,
 mv 13 5,
 ia 14 25 12 13,
 ld 15 106 14,
 ⟨(some 16), .call {callee:= .value (.tmp 11),args:=#[.tmp 15],argTypes:=#[106]},none⟩]) (.cond (.tmp 16) (.seq (.ad [mv 17 5,
 sg 4 17]) .ret) .skip)))) (.ad [bk .add 18 3 8 1 3,
 mv 8 18]))))))) (.seq (.ad [cZ 4 (-1)]) .ret)))
theorem Wy:aE Tryz.prog 229 19 aax [.tmp 4]:=
 ⟨_,Tryz.func229,ag,ag,ag,_,rfl,ag⟩
def aay:IC:=
 (.seq (.ad [bx 2 31 0,
 bt 3 false]) (.seq (.ad [ld 4 46 1,
 ld 5 31 2,
 ⟨(some 6), .call {callee:= .value (.tmp 4),args:=#[.tmp 5],argTypes:=#[31]},none⟩,
 nt 7 4 6,
 sg 3 7]) .ret))
theorem Wz:aE Tryz.prog 230 8 aay [.tmp 3]:=
 ⟨_,Tryz.func230,ag,ag,ag,_,rfl,ag⟩
def aaz:IC:=
 (.seq (.ad [bx 1 31 0,
 ⟨(some 2), .assign (.const .nilFunc),none⟩]) (.seq (.ad [⟨(some 3), .makeFunc (.func 257) #[] #[.tmp 1],none⟩,
 sg 2 3]) .ret))
theorem WA:aE Tryz.prog 231 4 aaz [.tmp 2]:=
 ⟨_,Tryz.func231,ag,ag,ag,_,rfl,ag⟩
def aaA:IC:=
 (.seq (.ad [bt 4 false]) (.seq (.ad [mv 5 0,
 mv 6 1,
 k2 7 259 5 6 41 3,
 bk .geq 8 3 7 0 3,
 sg 4 8]) .ret))
theorem WB:aE Tryz.prog 232 9 aaA [.tmp 4]:=
 ⟨_,Tryz.func232,ag,ag,ag,_,rfl,ag⟩
def aaB:IC:=
 (.seq (.ad [nv 2]) (.seq (.seq (.ad [mv 3 0,
 ⟨(some 4), .binOp .eql 41 (.tmp 3) (.const (.slice none 0 0)) 41,none⟩]) (.cond (.tmp 4) (.seq (.ad [nv 2]) .ret) .skip)) (.seq (.ad [⟨(some 5), .buildSlice 41 0 #[],none⟩,
 mv 6 0,
 ka 7 5 6 41,
 sg 2 7]) .ret)))
theorem WC:aE Tryz.prog 233 8 aaB [.tmp 2]:=
 ⟨_,Tryz.func233,ag,ag,ag,_,rfl,ag⟩
def agt:IC:=
 (.seq (.ad [al 2 31]) (.seq (.ad [mv 3 0,
 ⟨(some 4), .build 31 #[(2, .tmp 3)],none⟩,
 st 31 2 4]) .ret))
theorem agu:aE Tryz.prog 234 5 agt [.cell 2 31]:=
 ⟨_,Tryz.func234,ag,ag,ag,_,rfl,ag⟩
def RN:IC:=
 (.seq (.ad [bx 1 31 0,
 nv 2]) (.seq (.ad [nv 3]) (.seq (.seq (.ad [fa 5 31 1 0,
 ld 6 29 5,
 bk .eql 7 29 6 8 29]) (.cond (.tmp 7) (.ad [mv 8 3,
 fa 9 31 1 1,
 ld 10 3 9,
 iP 11 41 10,
 ka 12 8 11 41,
 sg 3 12]) .skip)) (.seq (.seq (.ad [cZ 4 0]) (.block 0 (.loop (.seq (.seq (.ad [mv 13 4,
 fa 14 31 1 2,
 ld 15 28 14,
 ln 16 15 28,
 bo .lss 17 3 13 16 3]) (.cond (.tmp 17) .skip (.exit 0))) (.seq (.block 1 (.ad [mv 20 3,
 fa 21 31 1 2,
 ld 22 28 21,
 mv 23 4,
 ia 24 28 22 23,
 ld 25 31 24,
 k1 26 235 25 31,
 ka 27 20 26 41,
 sg 3 27])) (.ad [mv 18 4,
 bk .add 19 3 18 1 3,
 sg 4 19])))))) (.seq (.ad [mv 28 3,
 sg 2 28]) .ret)))))
theorem agv:aE Tryz.prog 235 29 RN [.tmp 2]:=
 ⟨_,Tryz.func235,ag,ag,ag,_,rfl,ag⟩
def agw:IC:=
 (.seq (.ad [bt 4 false]) (.seq (.seq (.ad [cZ 5 0]) (.block 0 (.loop (.seq (.seq (.ad [mv 6 5,
 mv 7 0,
 ln 8 7 41,
 bo .lss 9 3 6 8 3]) (.cond (.tmp 9) .skip (.exit 0))) (.seq (.block 1 (.seq (.ad [mv 12 0,
 mv 13 5,
 ia 14 41 12 13,
 ld 15 3 14,
 mv 16 1,
 bo .eql 17 3 15 16 3]) (.cond (.tmp 17) (.seq (.ad [bt 4 true]) .ret) .skip))) (.ad [mv 10 5,
 bk .add 11 3 10 1 3,
 sg 5 11])))))) (.seq (.ad [bt 4 false]) .ret)))
theorem agx:aE Tryz.prog 236 18 agw [.tmp 4]:=
 ⟨_,Tryz.func236,ag,ag,ag,_,rfl,ag⟩
def agy:IC:=
 (.seq (.ad [nv 2]) (.seq (.ad [nv 3]) (.seq (.seq (.ad [cZ 4 0]) (.block 0 (.loop (.seq (.seq (.ad [mv 5 4,
 mv 6 0,
 bo .lss 7 3 5 6 3]) (.cond (.tmp 7) .skip (.exit 0))) (.seq (.block 1 (.ad [mv 10 3,
 mv 11 4,
 k1 12 81 11 3,
 iP 13 28 12,
 ka 14 10 13 28,
 sg 3 14])) (.ad [mv 8 4,
 bk .add 9 3 8 1 3,
 sg 4 9])))))) (.seq (.ad [mv 15 3,
 sg 2 15]) .ret))))
theorem agz:aE Tryz.prog 237 16 agy [.tmp 2]:=
 ⟨_,Tryz.func237,ag,ag,ag,_,rfl,ag⟩
def aaC:IC:=
 (.seq (.ad [bx 2 195 0,
 bx 3 31 1,
 bt 4 false]) (.seq (.ad [fa 5 31 3 1,
 ld 6 3 5,
 kg 7 155 #[.tmp 6, .const (.int .i64 0), .const (.int .i64 19)] #[3,3,3],
 mv 8 7,
 gT (fa 9 31 3 2) 8,
 gT (ld 10 28 9) 8,
 gT (ln 11 10 28) 8,
 gT (bk .eql 12 3 11 0 3) 8,
 bC 13 8 12,
 sg 4 13]) .ret))
theorem WD:aE Tryz.prog 238 14 aaC [.tmp 4]:=
 ⟨_,Tryz.func238,ag,ag,ag,_,rfl,ag⟩
def aaD:IC:=
 (.seq (.ad [bx 2 195 0,
 bx 3 31 1,
 bt 4 false]) (.seq (.ad [fa 5 31 3 1,
 ld 6 3 5,
 kg 7 155 #[.tmp 6, .const (.int .i64 (-1000000)), .const (.int .i64 1000000)] #[3,3,3],
 mv 8 7,
 gT (fa 9 31 3 2) 8,
 gT (ld 10 28 9) 8,
 gT (ln 11 10 28) 8,
 gT (bk .eql 12 3 11 0 3) 8,
 bC 13 8 12,
 sg 4 13]) .ret))
theorem WE:aE Tryz.prog 239 14 aaD [.tmp 4]:=
 ⟨_,Tryz.func239,ag,ag,ag,_,rfl,ag⟩
def aaE:IC:=
 (.seq (.ad [bx 2 195 0,
 bx 3 31 1,
 bt 4 false]) (.seq (.dp [fa 5 31 3 1,
 ld 6 3 5,
 fa 7 195 2 0,
 fa 8 24 7 0,
 ld 9 22 8,
 ln 10 9 22,
 bk .sub 11 3 10 1 3,
 kg 12 155 #[.tmp 6, .const (.int .i64 0), .tmp 11] #[3,3,3],
 mv 13 12,
 gT (fa 14 31 3 2) 13,
 gT (ld 15 28 14) 13,
 gT (ln 16 15 28) 13,
 gT (fa 17 195 2 0) 13,
 gT (fa 18 24 17 0) 13,
 gT (ld 19 22 18) 13,
 gT (fa 20 31 3 1) 13,
 gT (ld 21 3 20) 13,
 gT (ia 22 22 19 21) 13,
 gT (fa 23 104 22 1) 13,
 gT (ld 24 3 23) 13,
 gT (bo .eql 25 3 16 24 3) 13,
 bC 26 13 25,
 sg 4 26]
 [[],[0],[],[2],[3],[4],[5],[1,6],[7,7],[8],[9,8],[10,8],[8],[12,8],[13,8],[8],[15,8],[14,16,8],[17,8],[18,8],[11,19,8],[8,20],[21,8,0,1,2,3,4,5,6,7,8,9,10,11,12,13,14,15,16,17,18,19,20,21]]) .ret))
theorem WG:aE Tryz.prog 240 27 aaE [.tmp 4]:=
 ⟨_,Tryz.func240,ag,ag,ag,_,rfl,ag⟩
def aaF:IC:=
 (.seq (.ad [bx 2 195 0,
 bx 3 31 1,
 bt 4 false]) (.seq (.dp [fa 5 31 3 1,
 ld 6 3 5,
 fa 7 195 2 0,
 fa 8 24 7 1,
 ld 9 22 8,
 ln 10 9 22,
 bk .sub 11 3 10 1 3,
 kg 12 155 #[.tmp 6, .const (.int .i64 0), .tmp 11] #[3,3,3],
 mv 13 12,
 gT (fa 14 31 3 2) 13,
 gT (ld 15 28 14) 13,
 gT (ln 16 15 28) 13,
 gT (fa 17 195 2 0) 13,
 gT (fa 18 24 17 1) 13,
 gT (ld 19 22 18) 13,
 gT (fa 20 31 3 1) 13,
 gT (ld 21 3 20) 13,
 gT (ia 22 22 19 21) 13,
 gT (fa 23 104 22 1) 13,
 gT (ld 24 3 23) 13,
 gT (bo .eql 25 3 16 24 3) 13,
 bC 26 13 25,
 sg 4 26]
 [[],[0],[],[2],[3],[4],[5],[1,6],[7,7],[8],[9,8],[10,8],[8],[12,8],[13,8],[8],[15,8],[14,16,8],[17,8],[18,8],[11,19,8],[8,20],[21,8,0,1,2,3,4,5,6,7,8,9,10,11,12,13,14,15,16,17,18,19,20,21]]) .ret))
theorem WH:aE Tryz.prog 241 27 aaF [.tmp 4]:=
 ⟨_,Tryz.func241,ag,ag,ag,_,rfl,ag⟩
def aaG:IC:=
 (.seq (.ad [bx 2 195 0,
 bx 3 31 1,
 bt 4 false]) (.seq (.dp [fa 5 31 3 1,
 ld 6 3 5,
 fa 7 195 2 0,
 fa 8 24 7 1,
 ld 9 22 8,
 ln 10 9 22,
 bk .sub 11 3 10 1 3,
 kg 12 155 #[.tmp 6, .const (.int .i64 0), .tmp 11] #[3,3,3],
 mv 13 12,
 gT (fa 14 31 3 2) 13,
 gT (ld 15 28 14) 13,
 gT (ln 16 15 28) 13,
 gT (fa 17 195 2 0) 13,
 gT (fa 18 24 17 1) 13,
 gT (ld 19 22 18) 13,
 gT (fa 20 31 3 1) 13,
 gT (ld 21 3 20) 13,
 gT (ia 22 22 19 21) 13,
 gT (fa 23 104 22 1) 13,
 gT (ld 24 3 23) 13,
 gT (bo .lss 25 3 16 24 3) 13,
 bC 26 13 25,
 sg 4 26]
 [[],[0],[],[2],[3],[4],[5],[1,6],[7,7],[8],[9,8],[10,8],[8],[12,8],[13,8],[8],[15,8],[14,16,8],[17,8],[18,8],[11,19,8],[8,20],[21,8,0,1,2,3,4,5,6,7,8,9,10,11,12,13,14,15,16,17,18,19,20,21]]) .ret))
theorem WI:aE Tryz.prog 242 27 aaG [.tmp 4]:=
 ⟨_,Tryz.func242,ag,ag,ag,_,rfl,ag⟩
def aaH:IC:=
 (.seq (.ad [bx 2 195 0,
 bx 3 31 1,
 bt 4 false]) (.seq (.ad [fa 5 31 3 1,
 ld 6 3 5,
 kg 7 155 #[.tmp 6, .const (.int .i64 0), .const (.int .i64 19)] #[3,3,3],
 mv 8 7,
 gT (fa 9 31 3 2) 8,
 gT (ld 10 28 9) 8,
 gT (ln 11 10 28) 8,
 gT (bk .eql 12 3 11 2 3) 8,
 bC 13 8 12,
 sg 4 13]) .ret))
theorem WJ:aE Tryz.prog 243 14 aaH [.tmp 4]:=
 ⟨_,Tryz.func243,ag,ag,ag,_,rfl,ag⟩
def aaI:IC:=
 (.seq (.ad [bx 2 195 0,
 bx 3 31 1,
 bt 4 false]) (.seq (.ad [fa 5 31 3 1,
 ld 6 3 5,
 bk .eql 7 3 6 0 3,
 mv 8 7,
 gT (fa 9 31 3 2) 8,
 gT (ld 10 28 9) 8,
 gT (ln 11 10 28) 8,
 gT (bk .eql 12 3 11 2 3) 8,
 bC 13 8 12,
 sg 4 13]) .ret))
theorem WK:aE Tryz.prog 244 14 aaI [.tmp 4]:=
 ⟨_,Tryz.func244,ag,ag,ag,_,rfl,ag⟩
def aaJ:IC:=
 (.seq (.ad [bx 2 154 0]) (.seq (.ad [al 3 154]) (.seq (.ad [⟨(some 4), .makeFunc (.func 246) #[] #[.tmp 2, .tmp 3],none⟩,
 st 154 3 4]) (.ad [ld 5 154 3,
 ld 6 31 1,
 ⟨(some 7), .call {callee:= .value (.tmp 5),args:=#[.tmp 6, .const (.int .i64 1)],argTypes:=#[31,3]},none⟩]))))
theorem WL:aE Tryz.prog 245 8 aaJ []:=
 ⟨_,Tryz.func245,ag,ag,ag,_,rfl,ag⟩
def aaK:IC:=
 (.seq (.ad [bx 4 31 0,
 bx 5 3 1,
 bt 6 false]) (.seq (.ad [ld 7 154 2,
 ld 8 31 4,
 ld 9 3 5,
 ⟨(some 10), .call {callee:= .value (.tmp 7),args:=#[.tmp 8, .tmp 9],argTypes:=#[31,3]},none⟩,
 mv 11 10,
 gT (fa 12 31 4 2) 11,
 gT (ld 13 28 12) 11,
 ⟨(some 14), .makeFunc (.func 247) #[] #[.tmp 3, .tmp 5],(some (11,true))⟩,
 gT (k2 15 161 13 14 28 46) 11,
 bC 16 11 15,
 sg 6 16]) .ret))
theorem WM:aE Tryz.prog 246 17 aaK [.tmp 6]:=
 ⟨_,Tryz.func246,ag,ag,ag,_,rfl,ag⟩
def aaL:IC:=
 (.seq (.ad [bx 3 31 0,
 bt 4 false]) (.seq (.ad [ld 5 154 1,
 ld 6 31 3,
 ld 7 3 2,
 bk .add 8 3 7 1 3,
 ⟨(some 9), .call {callee:= .value (.tmp 5),args:=#[.tmp 6, .tmp 8],argTypes:=#[31,3]},none⟩,
 sg 4 9]) .ret))
theorem WN:aE Tryz.prog 247 10 aaL [.tmp 4]:=
 ⟨_,Tryz.func247,ag,ag,ag,_,rfl,ag⟩
def agA:IC:=
 (.seq (.ad [bt 2 false]) (.seq (.ad [mv 3 0,
 mv 4 0,
 bo .neq 5 3 3 4 3,
 sg 2 5]) .ret))
theorem agB:aE Tryz.prog 253 6 agA [.tmp 2]:=
 ⟨_,Tryz.func253,ag,ag,ag,_,rfl,ag⟩
def N2:IC:=
 (.seq (.ad [bx 3 31 0]) (.seq (.seq (.ad [fa 6 31 3 0,
 ld 7 29 6,
 bk .eql 8 29 7 8 29]) (.cond (.tmp 8) (.dp [ld 9 28 1,
 fa 10 31 3 1,
 ld 11 3 10,
 ⟨(some 12), .build 133 #[],none⟩,
 k1 13 225 12 133,
 ia 14 28 9 11,
 st 31 14 13]
 [[],[],[1],[],[3],[0,2,0,1,2,3,4],[5,4,4,0,1,2,3,4]]) .skip)) (.seq (.ad [fa 15 31 3 2,
 ld 16 28 15,
 ln 17 16 28,
 u0 18 0]) (.block 0 (.loop (.seq (.ad [bo .lss 19 3 18 17 3]) (.seq (.cond (.tmp 19) .skip (.exit 0)) (.seq (.block 1 (.seq (.ad [ia 20 28 16 18,
 ld 21 31 20,
 al 5 31,
 st 31 5 21]) (.ad [ld 22 169 2,
 ld 23 31 5,
 ⟨(some 24), .call {callee:= .value (.tmp 22),args:=#[.tmp 23],argTypes:=#[31]},none⟩]))) (.ad [bk .add 25 3 18 1 3,
 mv 18 25])))))))))
theorem WO:aE Tryz.prog 254 26 N2 []:=
 ⟨_,Tryz.func254,ag,ag,ag,_,rfl,ag⟩
def aaM:IC:=
 (.seq (.ad [bt 4 false]) (.seq (.ad [mv 5 0,
 mv 6 1,
 k2 7 261 5 6 225 29,
 bk .geq 8 3 7 0 3,
 sg 4 8]) .ret))
theorem WQ:aE Tryz.prog 255 9 aaM [.tmp 4]:=
 ⟨_,Tryz.func255,ag,ag,ag,_,rfl,ag⟩
def aaN:IC:=
 (.seq (.ad [al 2 31]) (.seq (.ad [mv 3 0,
 ⟨(some 4), .build 31 #[(0, .const (.int .i64 1)),(1, .tmp 3)],none⟩,
 st 31 2 4]) .ret))
theorem WR:aE Tryz.prog 256 5 aaN [.cell 2 31]:=
 ⟨_,Tryz.func256,ag,ag,ag,_,rfl,ag⟩
def aaO:IC:=
 (.seq (.ad [bx 2 46 0]) (.seq (.ad [al 3 46]) (.seq (.ad [⟨(some 4), .makeFunc (.func 258) #[] #[.tmp 2, .tmp 3],none⟩,
 st 46 3 4]) (.ad [ld 5 46 3,
 ld 6 31 1,
 ⟨(some 7), .call {callee:= .value (.tmp 5),args:=#[.tmp 6],argTypes:=#[31]},none⟩]))))
theorem WS:aE Tryz.prog 257 8 aaO []:=
 ⟨_,Tryz.func257,ag,ag,ag,_,rfl,ag⟩
def aaP:IC:=
 (.seq (.ad [bx 3 31 0,
 bt 4 false]) (.seq (.ad [ld 5 46 1,
 ld 6 31 3,
 ⟨(some 7), .call {callee:= .value (.tmp 5),args:=#[.tmp 6],argTypes:=#[31]},none⟩,
 mv 8 7,
 gT (fa 9 31 3 2) 8,
 gT (ld 10 28 9) 8,
 gT (ld 11 46 2) 8,
 gT (k2 12 187 10 11 28 46) 8,
 bC 13 8 12,
 sg 4 13]) .ret))
theorem WT:aE Tryz.prog 258 14 aaP [.tmp 4]:=
 ⟨_,Tryz.func258,ag,ag,ag,_,rfl,ag⟩
def aaQ:IC:=
 (.seq (.ad [cZ 4 0]) (.seq (.seq (.ad [mv 6 0,
 ln 7 6 41,
 u0 8 0]) (.block 0 (.loop (.seq (.ad [bo .lss 9 3 8 7 3]) (.seq (.cond (.tmp 9) .skip (.exit 0)) (.seq (.block 1 (.seq (.ad [mv 10 8,
 sg 5 10]) (.seq (.ad [mv 11 1,
 mv 12 0,
 mv 13 5,
 ia 14 41 12 13,
 ld 15 3 14,
 bo .eql 16 3 11 15 3]) (.cond (.tmp 16) (.seq (.ad [mv 17 5,
 sg 4 17]) .ret) .skip)))) (.ad [bk .add 18 3 8 1 3,
 mv 8 18]))))))) (.seq (.ad [cZ 4 (-1)]) .ret)))
theorem WU:aE Tryz.prog 259 19 aaQ [.tmp 4]:=
 ⟨_,Tryz.func259,ag,ag,ag,_,rfl,ag⟩
def aaR:IC:=
 (.seq (.ad [cZ 4 0]) (.seq (.seq (.ad [mv 6 0,
 ln 7 6 225,
 u0 8 0]) (.block 0 (.loop (.seq (.ad [bo .lss 9 3 8 7 3]) (.seq (.cond (.tmp 9) .skip (.exit 0)) (.seq (.block 1 (.seq (.ad [mv 10 8,
 sg 5 10]) (.seq (.ad [mv 11 1,
 mv 12 0,
 mv 13 5,
 ia 14 225 12 13,
 ld 15 29 14,
 bo .eql 16 29 11 15 29]) (.cond (.tmp 16) (.seq (.ad [mv 17 5,
 sg 4 17]) .ret) .skip)))) (.ad [bk .add 18 3 8 1 3,
 mv 8 18]))))))) (.seq (.ad [cZ 4 (-1)]) .ret)))
theorem WV:aE Tryz.prog 261 19 aaR [.tmp 4]:=
 ⟨_,Tryz.func261,ag,ag,ag,_,rfl,ag⟩
theorem mix:Tryz.prog.follows .mixedOrders=true:=ag
def zn:Tr FD:= .e fun _=> .no
theorem zt{f:Nat->Nat}:Tr.HX (fun(g:Nat) (d:FD)=>d.Ok Tryz.prog g) zn f:=fun _=>trivial
def agC:Tr FD:=
 (.n .no (.n .no (.n .no (.n .no (.n (.fn 26 SZ [.tmp 4]) (.n .no (.n (.fn 37 c63 [.tmp 6]) (.n (.fn 8 Zz [.tmp 3]) (.n (.fn 9 aaM [.tmp 4]) zn zn) zn) (.n (.fn 52 aah [.tmp 6]) zn zn)) (.n (.fn 19 c95 [.tmp 2]) (.n (.fn 92 ZN [.tmp 4]) zn zn) (.n (.fn 15 aar [.tmp 4]) zn zn))) (.n (.fn 7 c47 [.cell 0 31]) (.n (.fn 8 c79 [.cell 4 31]) zn (.n (.fn 49 agn []) zn zn)) (.n (.fn 9 Zs [.tmp 4]) (.n (.fn 10 Z1 []) zn zn) (.n (.fn 14 aaD [.tmp 4]) zn zn)))) (.n .no (.n .no zn (.n .no (.n (.fn 19 ZT [.tmp 4]) zn zn) (.n (.fn 4 aaz [.tmp 2]) zn zn))) (.n (.fn 52 c55 [.cell 4 4]) (.n (.fn 3 c87 [.cell 0 35]) zn zn) (.n (.fn 10 afh [.tmp 4]) (.n (.fn 9 Z9 [.tmp 4]) zn zn) (.n (.fn 10 aaL [.tmp 4]) zn zn))))) (.n (.fn 35 c11 [.tmp 4, .tmp 5, .tmp 6]) (.n .no (.n (.fn 62 c35 [.tmp 4]) (.n (.fn 15 c67 [.tmp 6]) (.n (.fn 8 ZC [.tmp 3]) (.n (.fn 19 aaQ [.tmp 4]) zn zn) zn) zn) (.n (.fn 10 c99 [.tmp 4]) (.n (.fn 39 ZR [.cell 4 4]) zn zn) (.n (.fn 6 aav [.cell 2 31]) zn zn))) (.n (.fn 41 c51 [.tmp 8]) (.n (.fn 8 c83 [.cell 4 31]) zn zn) (.n .no (.n (.fn 31 Z5 []) zn zn) (.n (.fn 14 aaH [.tmp 4]) zn zn)))) (.n .no (.n (.fn 8 c43 [.cell 4 31]) zn (.n .no (.n (.fn 14 ZX []) zn zn) zn)) (.n .no (.n (.fn 8 c91 [.tmp 3]) (.n (.fn 15 ZJ [.tmp 6]) zn zn) (.n (.fn 58 aan []) zn zn)) (.n (.fn 13 Zw [.tmp 4]) (.n (.fn 9 aad [.tmp 4]) zn zn) zn))))) (.n .no (.n (.fn 161 c9 [.tmp 0]) (.n .no (.n .no (.n (.fn 39 c65 [.tmp 4]) (.n (.fn 2 ZA [.cell 0 147]) (.n (.fn 8 aaO []) zn zn) zn) zn) (.n (.fn 17 c97 [.tmp 6]) (.n (.fn 18 ZP [.tmp 4]) zn zn) (.n (.fn 4 aat [.cell 2 31]) zn zn))) (.n (.fn 5 c49 [.cell 0 31]) (.n (.fn 5 c81 [.cell 2 31]) zn zn) (.n (.fn 16 Zt [.tmp 2]) (.n (.fn 26 Z3 []) zn zn) (.n (.fn 27 aaF [.tmp 4]) zn zn)))) (.n (.fn 17 c25 [.tmp 6, .tmp 7]) (.n (.fn 18 c41 [.tmp 4, .tmp 5, .tmp 6]) zn (.n .no (.n (.fn 27 ZV []) zn zn) (.n (.fn 8 aaB [.tmp 2]) zn zn))) (.n .no (.n (.fn 27 c89 [.tmp 4, .tmp 5]) (.n (.fn 24 ZH [.tmp 3]) zn zn) (.n (.fn 25 agr [.tmp 2]) zn zn)) (.n .no (.n (.fn 17 aab [.tmp 3]) zn zn) zn)))) (.n .no (.n (.fn 46 c21 [.tmp 4]) (.n .no (.n (.fn 33 c69 [.tmp 2]) (.n (.fn 9 ZE [.tmp 4]) (.n (.fn 19 aaR [.tmp 4]) zn zn) zn) zn) (.n .no (.n (.fn 134 afX []) zn zn) (.n (.fn 19 aax [.tmp 4]) zn zn))) (.n (.fn 24 c53 [.tmp 2]) (.n (.fn 11 c85 [.cell 6 35]) zn (.n (.fn 17 agp [.tmp 4]) zn zn)) (.n .no (.n (.fn 58 Z7 []) zn zn) (.n (.fn 8 aaJ []) zn zn)))) (.n .no (.n (.fn 2 c45 [.cell 0 31]) (.n (.fn 8 c77 [.cell 4 31]) (.n (.fn 5 ZG [.cell 2 31]) zn zn) (.n (.fn 19 aak [.cell 0 189]) zn zn)) (.n .no (.n (.fn 116 ZZ []) zn zn) zn)) (.n .no (.n (.fn 18 c93 []) (.n (.fn 9 ZL [.tmp 4]) zn zn) (.n (.fn 29 aap []) zn zn)) (.n (.fn 11 afn []) (.n (.fn 27 aaf [.tmp 2]) zn zn) (.n (.fn 6 agA [.tmp 2]) zn zn))))))) (.n .no (.n .no (.n .no (.n .no (.n (.fn 6 c32 [.tmp 2]) (.n (.fn 13 c64 [.tmp 4]) (.n (.fn 6 RL []) (.n (.fn 5 aaN [.cell 2 31]) zn zn) zn) (.n (.fn 19 aai [.tmp 4]) zn zn)) (.n (.fn 8 c96 []) (.n (.fn 12 ZO [.tmp 5]) zn zn) (.n (.fn 39 aas []) zn zn))) (.n (.fn 30 c48 [.cell 0 35]) (.n (.fn 11 c80 [.cell 6 31]) zn zn) (.n (.fn 7 afb [.tmp 3]) (.n (.fn 71 Z2 []) zn zn) (.n (.fn 27 aaE [.tmp 4]) zn zn)))) (.n .no (.n .no zn (.n .no (.n (.fn 17 ZU []) zn zn) (.n (.fn 9 aaA [.tmp 4]) zn zn))) (.n (.fn 4 c56 [.tmp 2]) (.n (.fn 13 c88 [.tmp 4]) zn zn) (.n .no (.n (.fn 8 aaa [.tmp 3]) zn zn) zn)))) (.n .no (.n (.fn 6 c20 [.tmp 2]) (.n .no (.n (.fn 9 c68 [.tmp 4]) (.n (.fn 121 ZD [.tmp 4]) zn zn) zn) (.n .no (.n (.fn 45 ZS []) zn zn) (.n (.fn 28 aaw [.cell 4 31]) zn zn))) (.n (.dfr 16 Zq c52 92 9 [.tmp 8] [.cell 8 4] 10 4 4 c92) (.n (.fn 14 c84 [.cell 8 35]) zn zn) (.n (.fn 33 Zu [.tmp 8]) (.n (.fn 34 Z6 []) zn zn) (.n (.fn 14 aaI [.tmp 4]) zn zn)))) (.n .no (.n (.fn 5 c44 [.cell 2 31]) (.n .no zn (.n (.fn 19 aaj [.tmp 4]) zn zn)) (.n .no (.n (.fn 14 ZY []) zn zn) zn)) (.n .no (.n .no (.n (.fn 18 ZK [.tmp 4]) zn zn) (.n (.fn 38 aao [.cell 4 31]) zn zn)) (.n (.fn 9 Zx [.tmp 2]) (.n (.fn 10 aae [.tmp 4]) zn zn) zn))))) (.n .no (.n (.fn 30 Lo [.cell 8 31, .tmp 9]) (.n .no (.n .no (.n .no (.n (.fn 9 ZB [.tmp 4]) (.n (.fn 14 aaP [.tmp 4]) zn zn) zn) zn) (.n (.fn 9 c98 [.tmp 4]) (.n (.fn 7 ZQ [.tmp 3]) zn zn) (.n (.fn 31 aau [.cell 8 31, .cell 9 31]) zn zn))) (.n (.fn 31 c50 [.cell 2 35]) (.n (.fn 87 c82 [.cell 4 31, .tmp 5]) zn zn) (.n (.fn 32 RK [.tmp 6]) (.n (.fn 31 Z4 []) zn zn) (.n (.fn 27 aaG [.tmp 4]) zn zn)))) (.n .no (.n (.fn 76 c42 [.cell 0 27]) (.n (.fn 8 c74 [.tmp 4]) zn zn) (.n .no (.n (.fn 22 ZW []) zn zn) zn)) (.n .no (.n (.fn 9 c90 [.tmp 4]) (.n (.fn 28 ZI [.tmp 2]) zn zn) (.n (.fn 24 aam [.tmp 4]) zn zn)) (.n (.fn 7 Zv [.tmp 3]) (.n (.fn 43 aac [.cell 4 4, .cell 5 38]) zn zn) zn)))) (.n .no (.n .no (.n .no (.n .no (.n (.fn 8 ZF [.tmp 3]) zn zn) zn) (.n .no (.n (.fn 8 afZ [.tmp 2]) zn zn) (.n (.fn 8 aay [.tmp 3]) zn zn))) (.n (.fn 6 c54 [.tmp 2]) (.n (.fn 7 c86 [.cell 0 35]) zn zn) (.n .no (.n (.fn 98 Z8 []) zn zn) (.n (.fn 17 aaK [.tmp 6]) zn zn)))) (.n .no (.n (.fn 32 c46 [.cell 6 31, .tmp 7]) (.n (.fn 5 c78 [.cell 2 31]) zn (.n (.fn 4 aal [.tmp 2]) zn zn)) (.n (.fn 46 Zr [.tmp 2]) (.n (.fn 10 Z0 []) zn zn) (.n (.fn 14 aaC [.tmp 4]) zn zn))) (.n .no (.n (.fn 8 c94 [.tmp 2]) (.n (.fn 8 ZM [.tmp 3]) zn zn) (.n (.fn 9 aaq [.cell 4 119]) zn zn)) (.n (.fn 9 Zy [.tmp 4]) (.n (.fn 18 aag [.tmp 2]) zn zn) (.n (.fn 26 N2 []) zn zn))))))))
noncomputable def cl:Nat->FD:=agC.get
theorem ou:∀g,(cl g).Ok Tryz.prog g:=
 Tr.Bw (p:=fun g d=>d.Ok Tryz.prog g) (f:=fun g=>g) agC
   ⟨trivial,⟨trivial,⟨trivial,⟨trivial,⟨ain,⟨trivial,⟨aeB,⟨VA,⟨WQ,zt,zt⟩,zt⟩,⟨Wi,zt,zt⟩⟩,⟨aeM,⟨VO,zt,zt⟩,⟨Ws,zt,zt⟩⟩⟩,⟨aiI,⟨ai2,zt,⟨ago,zt,zt⟩⟩,⟨Vt,⟨V2,zt,zt⟩,⟨WE,zt,zt⟩⟩⟩⟩,⟨trivial,⟨trivial,zt,⟨trivial,⟨VU,zt,zt⟩,⟨WA,zt,zt⟩⟩⟩,⟨aez,⟨ai9,zt,zt⟩,⟨afi,⟨Wa,zt,zt⟩,⟨WN,zt,zt⟩⟩⟩⟩⟩,⟨aik,⟨trivial,⟨aiz,⟨aeD,⟨VD,⟨WU,zt,zt⟩,zt⟩,zt⟩,⟨aeQ,⟨VS,zt,zt⟩,⟨Ww,zt,zt⟩⟩⟩,⟨aew,⟨ai5,zt,zt⟩,⟨trivial,⟨V6,zt,zt⟩,⟨WJ,zt,zt⟩⟩⟩⟩,⟨trivial,⟨aiF,zt,⟨trivial,⟨VY,zt,zt⟩,zt⟩⟩,⟨trivial,⟨aeK,⟨VK,zt,zt⟩,⟨Wo,zt,zt⟩⟩,⟨Vx,⟨We,zt,zt⟩,zt⟩⟩⟩⟩⟩,⟨trivial,⟨fn9,⟨trivial,⟨trivial,⟨aeC,⟨VB,⟨WS,zt,zt⟩,zt⟩,zt⟩,⟨aeO,⟨VQ,zt,zt⟩,⟨Wu,zt,zt⟩⟩⟩,⟨aiK,⟨aeG,zt,zt⟩,⟨Vu,⟨V4,zt,zt⟩,⟨WH,zt,zt⟩⟩⟩⟩,⟨aiu,⟨aiD,zt,⟨trivial,⟨VW,zt,zt⟩,⟨WC,zt,zt⟩⟩⟩,⟨trivial,⟨aeI,⟨VI,zt,zt⟩,⟨ags,zt,zt⟩⟩,⟨trivial,⟨Wc,zt,zt⟩,zt⟩⟩⟩⟩,⟨trivial,⟨aeu,⟨trivial,⟨aeF,⟨VF,⟨WV,zt,zt⟩,zt⟩,zt⟩,⟨trivial,⟨afY,zt,zt⟩,⟨Wy,zt,zt⟩⟩⟩,⟨aex,⟨ai7,zt,⟨agq,zt,zt⟩⟩,⟨trivial,⟨V8,zt,zt⟩,⟨WL,zt,zt⟩⟩⟩⟩,⟨trivial,⟨aev,⟨ai0,⟨VH,zt,zt⟩,⟨Wl,zt,zt⟩⟩,⟨trivial,⟨V0,zt,zt⟩,zt⟩⟩,⟨trivial,⟨aeL,⟨VM,zt,zt⟩,⟨Wq,zt,zt⟩⟩,⟨afo,⟨Wg,zt,zt⟩,⟨agB,zt,zt⟩⟩⟩⟩⟩⟩⟩,⟨trivial,⟨trivial,⟨trivial,⟨trivial,⟨aix,⟨aiS,⟨N1,⟨WR,zt,zt⟩,zt⟩,⟨Wj,zt,zt⟩⟩,⟨aeN,⟨VP,zt,zt⟩,⟨Wt,zt,zt⟩⟩⟩,⟨aiJ,⟨ai3,zt,zt⟩,⟨afc,⟨V3,zt,zt⟩,⟨WG,zt,zt⟩⟩⟩⟩,⟨trivial,⟨trivial,zt,⟨trivial,⟨VV,zt,zt⟩,⟨WB,zt,zt⟩⟩⟩,⟨aeA,⟨aeH,zt,zt⟩,⟨trivial,⟨Wb,zt,zt⟩,zt⟩⟩⟩⟩,⟨trivial,⟨aet,⟨trivial,⟨aeE,⟨VE,zt,zt⟩,zt⟩,⟨trivial,⟨VT,zt,zt⟩,⟨Wx,zt,zt⟩⟩⟩,⟨⟨Vr,Vq⟩,⟨ai6,zt,zt⟩,⟨Vv,⟨V7,zt,zt⟩,⟨WK,zt,zt⟩⟩⟩⟩,⟨trivial,⟨aiG,⟨trivial,zt,⟨Wk,zt,zt⟩⟩,⟨trivial,⟨VZ,zt,zt⟩,zt⟩⟩,⟨trivial,⟨trivial,⟨VL,zt,zt⟩,⟨Wp,zt,zt⟩⟩,⟨Vy,⟨Wf,zt,zt⟩,zt⟩⟩⟩⟩⟩,⟨trivial,⟨aes,⟨trivial,⟨trivial,⟨trivial,⟨VC,⟨WT,zt,zt⟩,zt⟩,zt⟩,⟨aeP,⟨VR,zt,zt⟩,⟨Wv,zt,zt⟩⟩⟩,⟨aiL,⟨ai4,zt,zt⟩,⟨N0,⟨V5,zt,zt⟩,⟨WI,zt,zt⟩⟩⟩⟩,⟨trivial,⟨aiE,⟨aiX,zt,zt⟩,⟨trivial,⟨VX,zt,zt⟩,zt⟩⟩,⟨trivial,⟨aeJ,⟨VJ,zt,zt⟩,⟨Wn,zt,zt⟩⟩,⟨Vw,⟨Wd,zt,zt⟩,zt⟩⟩⟩⟩,⟨trivial,⟨trivial,⟨trivial,⟨trivial,⟨VG,zt,zt⟩,zt⟩,⟨trivial,⟨af0,zt,zt⟩,⟨Wz,zt,zt⟩⟩⟩,⟨aey,⟨ai8,zt,zt⟩,⟨trivial,⟨V9,zt,zt⟩,⟨WM,zt,zt⟩⟩⟩⟩,⟨trivial,⟨aiH,⟨ai1,zt,⟨Wm,zt,zt⟩⟩,⟨Vs,⟨V1,zt,zt⟩,⟨WD,zt,zt⟩⟩⟩,⟨trivial,⟨NZ,⟨VN,zt,zt⟩,⟨Wr,zt,zt⟩⟩,⟨Vz,⟨Wh,zt,zt⟩,⟨WO,zt,zt⟩⟩⟩⟩⟩⟩⟩⟩
@[go_sem] theorem cellsOf_3:Tryz.prog.cellsOf 3=1:=ag
@[go_sem] theorem bytesOf_3:Tryz.prog.bytesOf 3=8:=ag
@[go_sem] theorem aggT_3:dL Tryz.prog 3=some false:=ag
@[go_sem] theorem infoT_3:(Tryz.prog.info? 3).isSome=true:=ag
@[go_sem] theorem undT_3:Tryz.prog.underlying 3=some (.int .i64):=ag
@[go_sem] theorem eqShape_3:cm Tryz.prog 3=some .int:=ag
@[go_sem] theorem zeroT_3:cQ Tryz.prog 3=some [.d (.int .i64 0)]:=ag
@[go_sem] theorem zeroV_3:zeroV Tryz.prog 3=some (.d (.int .i64 0)):=ag
@[go_sem] theorem cellsOf_4:Tryz.prog.cellsOf 4=1:=ag
@[go_sem] theorem aggT_4:dL Tryz.prog 4=some false:=ag
@[go_sem] theorem infoT_4:(Tryz.prog.info? 4).isSome=true:=ag
@[go_sem] theorem zeroT_4:cQ Tryz.prog 4=some [.d (.bool false)]:=ag
@[go_sem] theorem zeroV_4:zeroV Tryz.prog 4=some (.d (.bool false)):=ag
@[go_sem] theorem cellsOf_9:Tryz.prog.cellsOf 9=1:=ag
@[go_sem] theorem bytesOf_9:Tryz.prog.bytesOf 9=16:=ag
@[go_sem] theorem aggT_9:dL Tryz.prog 9=some false:=ag
@[go_sem] theorem undT_9:Tryz.prog.underlying 9=some .string:=ag
@[go_sem] theorem eqShape_9:cm Tryz.prog 9=some .str:=ag
@[go_sem] theorem zeroT_9:cQ Tryz.prog 9=some [.d (.str [])]:=ag
@[go_sem] theorem sliceT_22:cO Tryz.prog 22=some 104:=ag
@[go_sem] theorem aggT_22:dL Tryz.prog 22=some false:=ag
@[go_sem] theorem undT_22:Tryz.prog.underlying 22=some (.slice 104):=ag
@[go_sem] theorem cellsOf_24:Tryz.prog.cellsOf 24=2:=ag
@[go_sem] theorem aggT_24:dL Tryz.prog 24=some true:=ag
@[go_sem] theorem sliceT_25:cO Tryz.prog 25=some 106:=ag
@[go_sem] theorem aggT_25:dL Tryz.prog 25=some false:=ag
@[go_sem] theorem undT_25:Tryz.prog.underlying 25=some (.slice 106):=ag
@[go_sem] theorem cellsOf_27:Tryz.prog.cellsOf 27=3:=ag
@[go_sem] theorem aggT_27:dL Tryz.prog 27=some true:=ag
@[go_sem] theorem cellsOf_28:Tryz.prog.cellsOf 28=1:=ag
@[go_sem] theorem sliceT_28:cO Tryz.prog 28=some 31:=ag
@[go_sem] theorem aggT_28:dL Tryz.prog 28=some false:=ag
@[go_sem] theorem intT_28:xR Tryz.prog 28=none:=ag
@[go_sem] theorem infoT_28:(Tryz.prog.info? 28).isSome=true:=ag
@[go_sem] theorem undT_28:Tryz.prog.underlying 28=some (.slice 31):=ag
@[go_sem] theorem zeroT_28:cQ Tryz.prog 28=some [.bO]:=ag
@[go_sem] theorem cellsOf_29:Tryz.prog.cellsOf 29=1:=ag
@[go_sem] theorem aggT_29:dL Tryz.prog 29=some false:=ag
@[go_sem] theorem undT_29:Tryz.prog.underlying 29=some (.int .i64):=ag
@[go_sem] theorem zeroT_29:cQ Tryz.prog 29=some [.d (.int .i64 0)]:=ag
@[go_sem] theorem cellsOf_31:Tryz.prog.cellsOf 31=3:=ag
@[go_sem] theorem bytesOf_31:Tryz.prog.bytesOf 31=40:=ag
@[go_sem] theorem aggT_31:dL Tryz.prog 31=some true:=ag
@[go_sem] theorem infoT_31:(Tryz.prog.info? 31).isSome=true:=ag
@[go_sem] theorem zeroT_31:cQ Tryz.prog 31=some [.d (.int .i64 0), .d (.int .i64 0), .bO]:=ag
@[go_sem] theorem placesT_31:fW Tryz.prog 31=some [(0,1),(1,1),(2,1)]:=ag
@[go_sem] theorem aggT_32:dL Tryz.prog 32=some false:=ag
@[go_sem] theorem undT_32:Tryz.prog.underlying 32=some (.int .i64):=ag
@[go_sem] theorem cellsOf_33:Tryz.prog.cellsOf 33=1:=ag
@[go_sem] theorem sliceT_33:cO Tryz.prog 33=some 35:=ag
@[go_sem] theorem aggT_33:dL Tryz.prog 33=some false:=ag
@[go_sem] theorem intT_33:xR Tryz.prog 33=none:=ag
@[go_sem] theorem infoT_33:(Tryz.prog.info? 33).isSome=true:=ag
@[go_sem] theorem undT_33:Tryz.prog.underlying 33=some (.slice 35):=ag
@[go_sem] theorem cellsOf_35:Tryz.prog.cellsOf 35=7:=ag
@[go_sem] theorem bytesOf_35:Tryz.prog.bytesOf 35=104:=ag
@[go_sem] theorem aggT_35:dL Tryz.prog 35=some true:=ag
@[go_sem] theorem infoT_35:(Tryz.prog.info? 35).isSome=true:=ag
@[go_sem] theorem zeroT_35:cQ Tryz.prog 35=some [.d (.int .i64 0), .d (.int .i64 0), .d (.int .i64 0), .bO, .d (.int .i64 0), .bO, .bO]:=ag
@[go_sem] theorem placesT_35:fW Tryz.prog 35=some [(0,1),(1,3),(4,1),(5,1),(6,1)]:=ag
@[go_sem] theorem cellsOf_38:Tryz.prog.cellsOf 38=1:=ag
@[go_sem] theorem aggT_38:dL Tryz.prog 38=some false:=ag
@[go_sem] theorem infoT_38:(Tryz.prog.info? 38).isSome=true:=ag
@[go_sem] theorem zeroT_38:cQ Tryz.prog 38=some [.d (.int .i64 0)]:=ag
@[go_sem] theorem sliceT_41:cO Tryz.prog 41=some 3:=ag
@[go_sem] theorem intT_41:xR Tryz.prog 41=none:=ag
@[go_sem] theorem undT_41:Tryz.prog.underlying 41=some (.slice 3):=ag
@[go_sem] theorem cellsOf_46:Tryz.prog.cellsOf 46=1:=ag
@[go_sem] theorem aggT_46:dL Tryz.prog 46=some false:=ag
@[go_sem] theorem infoT_46:(Tryz.prog.info? 46).isSome=true:=ag
@[go_sem] theorem zeroT_46:cQ Tryz.prog 46=some [.d .bV]:=ag
@[go_sem] theorem aggT_67:dL Tryz.prog 67=some false:=ag
@[go_sem] theorem cellsOf_104:Tryz.prog.cellsOf 104=2:=ag
@[go_sem] theorem aggT_104:dL Tryz.prog 104=some true:=ag
@[go_sem] theorem infoT_104:(Tryz.prog.info? 104).isSome=true:=ag
@[go_sem] theorem zeroT_104:cQ Tryz.prog 104=some [.d (.str []), .d (.int .i64 0)]:=ag
@[go_sem] theorem placesT_104:fW Tryz.prog 104=some [(0,1),(1,1)]:=ag
@[go_sem] theorem cellsOf_106:Tryz.prog.cellsOf 106=6:=ag
@[go_sem] theorem aggT_106:dL Tryz.prog 106=some true:=ag
@[go_sem] theorem infoT_106:(Tryz.prog.info? 106).isSome=true:=ag
@[go_sem] theorem zeroT_106:cQ Tryz.prog 106=some [.d (.int .i64 0), .bO, .d (.int .i64 0), .d (.int .i64 0), .bO, .d (.int .i64 0)]:=ag
@[go_sem] theorem aggT_115:dL Tryz.prog 115=some false:=ag
@[go_sem] theorem cellsOf_117:Tryz.prog.cellsOf 117=0:=ag
@[go_sem] theorem infoT_117:(Tryz.prog.info? 117).isSome=true:=ag
@[go_sem] theorem plainIface_117:jm Tryz.prog 117=true:=ag
@[go_sem] theorem zeroT_117:cQ Tryz.prog 117=some []:=ag
@[go_sem] theorem zeroV_117:zeroV Tryz.prog 117=some (na []):=ag
@[go_sem] theorem placesT_117:fW Tryz.prog 117=some []:=ag
@[go_sem] theorem cellsOf_119:Tryz.prog.cellsOf 119=4:=ag
@[go_sem] theorem aggT_119:dL Tryz.prog 119=some true:=ag
@[go_sem] theorem infoT_119:(Tryz.prog.info? 119).isSome=true:=ag
@[go_sem] theorem zeroT_119:cQ Tryz.prog 119=some [.bO, .bO, .bO, .bO]:=ag
@[go_sem] theorem placesT_119:fW Tryz.prog 119=some [(0,3),(3,1)]:=ag
@[go_sem] theorem cellsOf_122:Tryz.prog.cellsOf 122=1:=ag
@[go_sem] theorem aggT_122:dL Tryz.prog 122=some false:=ag
@[go_sem] theorem infoT_122:(Tryz.prog.info? 122).isSome=true:=ag
@[go_sem] theorem zeroT_122:cQ Tryz.prog 122=some [.d .bV]:=ag
@[go_sem] theorem cellsOf_133:Tryz.prog.cellsOf 133=0:=ag
@[go_sem] theorem infoT_133:(Tryz.prog.info? 133).isSome=true:=ag
@[go_sem] theorem plainIface_133:jm Tryz.prog 133=true:=ag
@[go_sem] theorem zeroT_133:cQ Tryz.prog 133=some []:=ag
@[go_sem] theorem zeroV_133:zeroV Tryz.prog 133=some (na []):=ag
@[go_sem] theorem placesT_133:fW Tryz.prog 133=some []:=ag
@[go_sem] theorem plainIface_134:jm Tryz.prog 134=true:=ag
@[go_sem] theorem zeroV_134:zeroV Tryz.prog 134=some (.d (.int .i64 0)):=ag
@[go_sem] theorem aggT_137:dL Tryz.prog 137=some false:=ag
@[go_sem] theorem cellsOf_138:Tryz.prog.cellsOf 138=3:=ag
@[go_sem] theorem infoT_138:(Tryz.prog.info? 138).isSome=true:=ag
@[go_sem] theorem plainIface_138:jm Tryz.prog 138=true:=ag
@[go_sem] theorem zeroT_138:cQ Tryz.prog 138=some [.d (.int .i64 0), .d (.int .i64 0), .bO]:=ag
@[go_sem] theorem zeroV_138:zeroV Tryz.prog 138=some (na [.d (.int .i64 0), .d (.int .i64 0), .bO]):=ag
@[go_sem] theorem cellsOf_140:Tryz.prog.cellsOf 140=1:=ag
@[go_sem] theorem aggT_140:dL Tryz.prog 140=some false:=ag
@[go_sem] theorem infoT_140:(Tryz.prog.info? 140).isSome=true:=ag
@[go_sem] theorem mapT_140:qP Tryz.prog 140=some (3,4):=ag
@[go_sem] theorem zeroT_140:cQ Tryz.prog 140=some [.d .jD]:=ag
@[go_sem] theorem undT_141:Tryz.prog.underlying 141=some (.map 3 4):=ag
@[go_sem] theorem mapT_141:qP Tryz.prog 141=some (3,4):=ag
@[go_sem] theorem cellsOf_146:Tryz.prog.cellsOf 146=1:=ag
@[go_sem] theorem aggT_146:dL Tryz.prog 146=some false:=ag
@[go_sem] theorem infoT_146:(Tryz.prog.info? 146).isSome=true:=ag
@[go_sem] theorem cellsOf_147:Tryz.prog.cellsOf 147=16:=ag
@[go_sem] theorem aggT_147:dL Tryz.prog 147=some true:=ag
@[go_sem] theorem infoT_147:(Tryz.prog.info? 147).isSome=true:=ag
@[go_sem] theorem undT_147:Tryz.prog.underlying 147=some (.array 16 146):=ag
@[go_sem] theorem zeroT_147:cQ Tryz.prog 147=some [.d .bV, .d .bV, .d .bV, .d .bV, .d .bV, .d .bV, .d .bV, .d .bV, .d .bV, .d .bV, .d .bV, .d .bV, .d .bV, .d .bV, .d .bV, .d .bV]:=ag
@[go_sem] theorem aggT_150:dL Tryz.prog 150=some false:=ag
@[go_sem] theorem sliceT_151:cO Tryz.prog 151=some 9:=ag
@[go_sem] theorem intT_151:xR Tryz.prog 151=none:=ag
@[go_sem] theorem undT_151:Tryz.prog.underlying 151=some (.slice 9):=ag
@[go_sem] theorem cellsOf_154:Tryz.prog.cellsOf 154=1:=ag
@[go_sem] theorem aggT_154:dL Tryz.prog 154=some false:=ag
@[go_sem] theorem infoT_154:(Tryz.prog.info? 154).isSome=true:=ag
@[go_sem] theorem zeroT_154:cQ Tryz.prog 154=some [.d .bV]:=ag
@[go_sem] theorem cellsOf_165:Tryz.prog.cellsOf 165=1:=ag
@[go_sem] theorem aggT_165:dL Tryz.prog 165=some false:=ag
@[go_sem] theorem infoT_165:(Tryz.prog.info? 165).isSome=true:=ag
@[go_sem] theorem mapT_165:qP Tryz.prog 165=some (9,4):=ag
@[go_sem] theorem zeroT_165:cQ Tryz.prog 165=some [.d .jD]:=ag
@[go_sem] theorem cellsOf_169:Tryz.prog.cellsOf 169=1:=ag
@[go_sem] theorem aggT_169:dL Tryz.prog 169=some false:=ag
@[go_sem] theorem infoT_169:(Tryz.prog.info? 169).isSome=true:=ag
@[go_sem] theorem zeroT_169:cQ Tryz.prog 169=some [.d .bV]:=ag
@[go_sem] theorem cellsOf_176:Tryz.prog.cellsOf 176=1:=ag
@[go_sem] theorem aggT_176:dL Tryz.prog 176=some false:=ag
@[go_sem] theorem infoT_176:(Tryz.prog.info? 176).isSome=true:=ag
@[go_sem] theorem undT_176:Tryz.prog.underlying 176=some (.map 3 3):=ag
@[go_sem] theorem mapT_176:qP Tryz.prog 176=some (3,3):=ag
@[go_sem] theorem zeroT_176:cQ Tryz.prog 176=some [.d .jD]:=ag
@[go_sem] theorem cellsOf_188:Tryz.prog.cellsOf 188=1:=ag
@[go_sem] theorem aggT_188:dL Tryz.prog 188=some false:=ag
@[go_sem] theorem infoT_188:(Tryz.prog.info? 188).isSome=true:=ag
@[go_sem] theorem cellsOf_189:Tryz.prog.cellsOf 189=16:=ag
@[go_sem] theorem sliceT_189:cO Tryz.prog 189=none:=ag
@[go_sem] theorem arrT_189:CB Tryz.prog 189=some (16,188):=ag
@[go_sem] theorem aggT_189:dL Tryz.prog 189=some true:=ag
@[go_sem] theorem infoT_189:(Tryz.prog.info? 189).isSome=true:=ag
@[go_sem] theorem zeroT_189:cQ Tryz.prog 189=some [.d .bV, .d .bV, .d .bV, .d .bV, .d .bV, .d .bV, .d .bV, .d .bV, .d .bV, .d .bV, .d .bV, .d .bV, .d .bV, .d .bV, .d .bV, .d .bV]:=ag
@[go_sem] theorem placesT_189:fW Tryz.prog 189=some [(0,1),(1,1),(2,1),(3,1),(4,1),(5,1),(6,1),(7,1),(8,1),(9,1),(10,1),(11,1),(12,1),(13,1),(14,1),(15,1)]:=ag
@[go_sem] theorem zeroT_195:cQ Tryz.prog 195=some [.bO, .bO]:=ag
@[go_sem] theorem placesT_195:fW Tryz.prog 195=some [(0,2)]:=ag
@[go_sem] theorem sliceT_225:cO Tryz.prog 225=some 29:=ag
@[go_sem] theorem undT_225:Tryz.prog.underlying 225=some (.slice 29):=ag
@[go_sem] theorem fieldT_24_0:cL Tryz.prog 24 0=some 0:=ag
@[go_sem] theorem fieldT_24_1:cL Tryz.prog 24 1=some 1:=ag
@[go_sem] theorem fieldT_27_0:cL Tryz.prog 27 0=some 0:=ag
@[go_sem] theorem fieldT_27_1:cL Tryz.prog 27 1=some 2:=ag
@[go_sem] theorem fieldT_31_0:cL Tryz.prog 31 0=some 0:=ag
@[go_sem] theorem fieldT_31_1:cL Tryz.prog 31 1=some 1:=ag
@[go_sem] theorem fieldT_31_2:cL Tryz.prog 31 2=some 2:=ag
@[go_sem] theorem fieldT_35_0:cL Tryz.prog 35 0=some 0:=ag
@[go_sem] theorem fieldT_35_1:cL Tryz.prog 35 1=some 1:=ag
@[go_sem] theorem fieldT_35_2:cL Tryz.prog 35 2=some 4:=ag
@[go_sem] theorem fieldT_35_3:cL Tryz.prog 35 3=some 5:=ag
@[go_sem] theorem fieldT_35_4:cL Tryz.prog 35 4=some 6:=ag
@[go_sem] theorem fieldT_104_0:cL Tryz.prog 104 0=some 0:=ag
@[go_sem] theorem fieldT_104_1:cL Tryz.prog 104 1=some 1:=ag
@[go_sem] theorem fieldT_106_0:cL Tryz.prog 106 0=some 0:=ag
@[go_sem] theorem fieldT_106_1:cL Tryz.prog 106 1=some 1:=ag
@[go_sem] theorem fieldT_106_2:cL Tryz.prog 106 2=some 2:=ag
@[go_sem] theorem fieldT_106_3:cL Tryz.prog 106 3=some 5:=ag
@[go_sem] theorem fieldT_119_0:cL Tryz.prog 119 0=some 0:=ag
@[go_sem] theorem fieldT_119_1:cL Tryz.prog 119 1=some 3:=ag
@[go_sem] theorem fieldT_138_2:cL Tryz.prog 138 2=some 2:=ag
@[go_sem] theorem fieldT_195_0:cL Tryz.prog 195 0=some 0:=ag
section
def rH(x y:ab):Prop:=(x.cK=true->y.cK=true)/\∀e,x.cJ=some e->y.cJ=some e
theorem rH.rfl' {x y:ab}(h:x=y):rH x y:=h ▸ ⟨id,fun _ h=>h⟩
theorem rH.fz (x:ab):rH x.fz x:=by cases x<;>exact⟨id,fun _ h=>h⟩
theorem rH.row (cs cs':List V):rH (.row cs) (.row cs'):=⟨fun _=>rfl,fun _ h=>by cases h⟩
mutual
theorem V.rI {B B':Nat->Prop}{φ aS:Place}{H H':Hp}{w:World}(hB:∀b, ¬B b-> ¬B' b):∀ (v:V) (val:Value),(∀id∈v.refs,rH (H'.o id) (H.o id)/\aS id=φ id/\H'.us id)->V.den B φ H w v val->V.den B' aS H' w v val
 | .d x,val,_,h=>D.bc (w:=w) (w':=w) (fun b _ hn=>⟨rfl,hB b hn⟩) x val h
 | .bO,_,_,h=>h
 | .aa,_,_,_=>trivial
 | .fI,_,_,h=>h
 | .sn es,val,_,h=>⟨D.bc (w:=w) (w':=w) (fun b _ hn=>⟨rfl,hB b hn⟩) (.sl es) val h.1,h.2⟩
 | .agg cs,val,hr,h=>by
   obtain⟨a,rfl,h1,h2⟩:=h
   exact⟨a,rfl,V.kA hB cs _ yB h1,h2⟩
 | .cn cs,val,hr,h=>by
   obtain⟨a,rfl,h1⟩:=h
   exact⟨a,rfl,V.kA hB cs _ yB h1⟩
 | .ptr id off,val,hr,h=>by
   exact XQ
 | .osl id ep,val,hr,h=>by
   obtain⟨a,b,c⟩:=hr id Co
   obtain⟨h0,h1,h2⟩:=h
   refine⟨h0,c,fun e he=> ?_⟩
   obtain⟨x,y⟩:=h2 e (a.2 e he)
   exact⟨x,fun heq=>(y heq).trans b.symm⟩
 | .pe id ep i sz off,val,hr,h=>by
   obtain⟨a,b,c⟩:=hr id Co
   obtain⟨h0,h1,h2⟩:=h
   refine⟨h0,c,fun e he=> ?_⟩
   obtain⟨x,y⟩:=h2 e (a.2 e he)
   exact T9
 | .pp cs off,val,_,h=>by
   obtain⟨a,ev,h1,h2,h3,h5,h4⟩:=h
   exact acC
 | .func fn first cap,val,hr,h=>by
   obtain⟨f,c,rfl,h1,h2⟩:=h
   exact⟨f,c,rfl,V.kA hB first _ (fun id aG=>hr id (by simp[V.refs,aG])) h1,V.kA hB cap _ (fun id aG=>hr id (by simp[V.refs,aG])) h2⟩
 | .iface t x,val,hr,h=>by
   obtain⟨u,rfl,h⟩:=h
   exact⟨u,rfl,V.rI hB x u yB h⟩
 | .yJ id off n,val,hr,h=>by
   exact XQ
 | .mp id,val,hr,h=>by
   obtain⟨a,b,c⟩:=hr id Co
   obtain⟨h0,h1,h2⟩:=h
   refine⟨h0,c,fun cz=> ?_⟩
   exact(h2 (a.1 cz)).trans b.symm
 | .kq id,val,hr,h=>by
   exact XQ
theorem V.kA {B B':Nat->Prop}{φ aS:Place}{H H':Hp}{w:World}(hB:∀b, ¬B b-> ¬B' b):∀ (vs:List V) (vals:List Value),(∀id∈V.aO vs,rH (H'.o id) (H.o id)/\aS id=φ id/\H'.us id)->V.aP B φ H w vs vals->V.aP B' aS H' w vs vals
 |[],_,_,h=>h
 |v::vs,_,hr,h=>by
  obtain⟨u,us,rfl,h1,h2⟩:=h
  exact⟨u,us,rfl,V.rI hB v u (fun id aG=>hr id (by simp[V.aO,aG])) h1,V.kA hB vs us (fun id aG=>hr id (by simp[V.aO,aG])) h2⟩
end
mutual
theorem V.s8 {B:Nat->Prop}{φ:Place}{H:Hp}{w:World}:∀ (v:V) (val:Value),V.den B φ H w v val->∀id∈v.refs,H.us id
 | .osl id ep,_,h,j,hj| .ptr id off,_,h,j,hj| .pe id ep i sz off,_,h,j,hj| .yJ id off n,_,h,j,hj| .mp id,_,h,j,hj| .kq id,_,h,j,hj=>by simp[V.refs]at hj;subst hj;exact h.2.1
 | .agg cs,_,h,j,hj=>by obtain⟨a,rfl,h,_⟩:=h;exact V.kX cs _ h j (by simpa[V.refs]using hj)
 | .cn cs,_,h,j,hj=>by obtain⟨a,rfl,h⟩:=h;exact V.kX cs _ h j (by simpa[V.refs]using hj)
 | .func fn first cap,_,h,j,hj=>by
   obtain⟨f,c,rfl,h1,h2⟩:=h
   rcases List.mem_append.1 (show j∈V.aO first++V.aO cap by simpa[V.refs]using hj)with hj|hj
   ·exact V.kX first _ h1 j hj
   ·exact V.kX cap _ h2 j hj
 | .iface t x,_,h,j,hj=>by obtain⟨u,rfl,h⟩:=h;exact V.s8 x u h j (by simpa[V.refs]using hj)
 | .d _,_,_,_,hj| .bO,_,_,_,hj| .pp _ _,_,_,_,hj| .aa,_,_,_,hj| .sn _,_,_,_,hj| .fI,_,_,_,hj=>by simp[V.refs]at hj
theorem V.kX {B:Nat->Prop}{φ:Place}{H:Hp}{w:World}:∀ (vs:List V) (vals:List Value),V.aP B φ H w vs vals->∀id∈V.aO vs,H.us id
 |[],_,_,j,hj=>by simp[V.aO]at hj
 |v::vs,_,h,j,hj=>by
  obtain⟨u,us,rfl,h1,h2⟩:=h
  rcases List.mem_append.1 (show j∈v.refs++V.aO vs by simpa[V.aO]using hj)with hj|hj
  ·exact V.s8 v u h1 j hj
  ·exact V.kX vs us h2 j hj
end
def F8(so:Nat->ab)(gone:Nat->Prop)(ty:TypeId)(sz:Nat)(es:List D)(x:V):Prop:=
 (x= .bO/\es=[]/\0<sz)\/∃id ep,gone id/\x= .osl id ep/\so id= .arr ep ty sz es
def mh(env:Nat->V):List V->Nat->Prop
 |[],_=>True
 |v::l,i=>(v= .aa\/v=env i)/\mh env l (i+1)
theorem IY{env:Nat->V}{i:Nat}:mh env [] i:=trivial
theorem Fa{env:Nat->V}{l:List V}{i:Nat}(h:mh env l (i+1)):mh env (.aa::l) i:=⟨.inl rfl,h⟩
theorem Qu{env:Nat->V}{l:List V}{i:Nat}{v:V}(he:env i=v)(h:mh env l (i+1)):mh env (v::l) i:=⟨.inr he.symm,h⟩
theorem DX{env:Nat->V}:∀ (l:List V) (i:Nat),mh env l i->∀j,br l j= .aa\/br l j=env (i+j)
 |[],i,_,j=>by rw[rC];exact .inl rfl
 |v::l,i,h,0=>by rw[oW];exact h.1
 |v::l,i,h,j+1=>by
  rw[oX]
  have:=DX l (i+1) h.2 j
  rwa [show i+1+j=i+(j+1) by omega]at this
theorem JS{P:Program}{n bq:Nat}{gq:Operand}{ps:List Nat}{x y:IC}{Q:gf->S->Prop}{e:Nat->V}{o:Nat->ab}{nx:Nat}{f:FuncId}{cap:List V}(env:List V)(he:mh e env 0)
 (h:cR P f (.kq nx::cap) (aM o nx (.loop P.funcs.size n env ps x y .ready none)) (nx+1)
  (fun _ o' nx'=>∃nf m en p c d st pd,o' nx= .loop nf m en p c d st pd/\st≠ .busy/\qd Q pd ⟨e,aM o' nx (.loop nf m en p c d .exhausted pd),nx'⟩) (fun v o' nx'=>Q (.bW v) ⟨e,o',nx'⟩)):
 x9 P n bq false gq ps x y Q ⟨e,o,nx⟩ (.func (.func f) [] cap):=by
 unfold x9 Dc
 refine⟨rfl, .inl ⟨env,fun i=> ?_, .inl h⟩⟩
 have:=DX env 0 he i
 rwa [Nat.zero_add]at this
theorem bM.trans {b:Nat}{s s' s'':S}(h1:bM b s s')(h2:bM b s' s''):bM b s s'':=fun M φ w tm hH hd=>by
 obtain⟨aS,a1,a2,a3,a4,a5,a6⟩:=h1 M φ w tm hH hd
 obtain⟨Fg,b1,b2,b3,b4,b5,b6⟩:=h2 M aS w tm a1 a2
 refine⟨Fg,b1,b2,fun k hk=>a3 k (b3 k hk),b4,fun id aG hr=> ?_,fun id e' aG he=> ?_⟩
 ·obtain⟨c1,c2⟩:=b5 id aG hr
  obtain⟨c3,c4⟩:=a5 id aG c1
  exact⟨c3,c2.trans c4⟩
 ·obtain⟨e1,c1,c2,c3⟩:=b6 id e' aG he
  obtain⟨e0,d1,d2,d3⟩:=a6 id e1 aG c1
  exact⟨e0,d1,Nat.le_trans d2 c2,fun h=>(c3 af).trans (d3 af)⟩
def ow(P:Program)(n b id:Nat)(fe:IC)(K X:V->(Nat->ab)->Nat->Prop)(e:gf)(s:S):Prop:=
 match e with
 | .normal=>∃nf m en p c d pd,s.o id= .loop nf m en p c d .ready pd/\ll P n b true fe (jU id K X) ⟨s.env,aM s.o id (.loop nf m en p c d .busy pd),s.nx⟩
 | .bW v=>X v s.o s.nx
 |_=>False
theorem eD.ay {P:Program}{n:Nat}(bI:P.follows .mixedOrders=true){id:Nat}{args:List V}{o:Nat->ab}{nx:Nat}{K X:V->(Nat->ab)->Nat->Prop}{env:List V}{ps:List Nat}{jg fe:IC}{st:LoopState}{pd:Option j9}
 (ho:o id= .loop P.funcs.size n env ps jg fe st pd) (cD:id<nx) (DJ:ps.all (fun t=>decide (t<n))=true) (hl:args.length=ps.length)
 (h:ll P n nx true jg (ow P n nx id fe K X) ⟨nY (br env) ps args,o,nx⟩):eD P id args o nx K X:=by
 refine eD.vZ bI ho cD DJ hl (eV jg _ _ _ (fun e s h=> ?_) h)
 cases e with
 |normal=>
  obtain⟨nf,m,en,p,c,d,pd,h1,h2⟩:=h
  exact⟨nf,m,en,p,c,d,pd,h1,eV fe _ _ _ (fun _ _ h=>h) h2⟩
 |bW v=>exact h
 |_=>exact h.elim
theorem Bx{P:Program}{n b id:Nat}{fe:IC}{K X:V->(Nat->ab)->Nat->Prop}{s:S}{nf m:Nat}{en:List V}{p:List Nat}{c d:IC}{pd:Option j9}(h:s.o id= .loop nf m en p c d .ready pd)
 (h2:ll P n b true fe (jU id K X) ⟨s.env,aM s.o id (.loop nf m en p c d .busy pd),s.nx⟩):ow P n b id fe K X .normal s:=⟨nf,m,en,p,c,d,pd,h,h2⟩
section
variable {P:Program}{KB:List Nat->Fp->Prop}{pr:List (List Nat)}{l:List cq}{fr:Nat}{fp:Fp}{bad ws:List Nat}{s:S}{d:Option Nat}{op:Op}
theorem eu(h:KB ws fp):DC P KB pr [] fr fp bad ws s:=by unfold DC;exact h
end
end
section
structure Gr where
 x:V
 ty:TypeId
 sz:Nat
 es:List D
def Gr.ok (so:Nat->ab)(gone:Nat->Prop)(g:Gr):Prop:=F8 so gone g.ty g.sz g.es g.x
def N3(c:Nat)(G:List Gr)(so:Nat->ab)(gone:Nat->Prop)(v v':V):Prop:=
 v'= .aa\/(v'=v/\∀r∈v.refs,r<c)\/(∃i g,G[i]? =some g/\v'= .osl (c+i) 0/\v=g.x)\/∃y,v'= .d y/\eI so v=some y/\∀id∈v.ids,gone id/\∀g∈G,∀ep,g.x≠ .osl id ep
def nq(c:Nat)(G:List Gr)(so:Nat->ab)(gone:Nat->Prop)(env:Nat->V):List V->Nat->Prop
 |[],_=>True
 |v::l,i=>N3 c G so gone (env i) v/\nq c G so gone env l (i+1)
def wz(c:Nat)(G:List Gr)(so:Nat->ab)(gone:Nat->Prop):List V->List V->Prop
 |[],[]=>True
 |v::l,v'::l'=>N3 c G so gone v v'/\wz c G so gone l l'
 |_,_=>False
def yc(c:Nat)(G:List Gr)(so:Nat->ab)(gone:Nat->Prop)(x x':ab):Prop:=
 x'= .no\/(x=x'/\∀r∈x'.refs,r<c)\/∃cs cs',x= .row cs/\x'= .row cs'/\wz c G so gone cs cs'
section
variable {c:Nat}{G:List Gr}{so:Nat->ab}{gone:Nat->Prop}
theorem HY{env:Nat->V}:∀ (l:List V) (i:Nat),nq c G so gone env l i->∀j,N3 c G so gone (env (i+j)) (br l j)
 |[],i,_,j=>by rw[rC];exact .inl rfl
 |v::l,i,h,0=>by rw[oW];exact h.1
 |v::l,i,h,j+1=>by
  rw[oX]
  have:=HY l (i+1) h.2 j
  rwa [show i+1+j=i+(j+1) by omega]at this
variable {env:Nat->V}{i:Nat}{l l':List V}{v:V}{y:D}
theorem Lt:nq c G so gone env [] i:=trivial
theorem IW(h:nq c G so gone env l (i+1)):nq c G so gone env (.aa::l) i:=⟨.inl rfl,h⟩
theorem Lu(he:env i= .d y)(h:nq c G so gone env l (i+1)):nq c G so gone env (.d y::l) i:=⟨.inr (.inl ⟨he.symm,fun r hr=>by rw[he]at hr;simp[V.refs]at hr⟩),h⟩
theorem Xm(he:env i=v)(hr:∀r∈v.refs,r<c)(h:nq c G so gone env l (i+1)):nq c G so gone env (v::l) i:=⟨.inr (.inl ⟨he.symm,fun r AV=>hr r (he ▸ AV)⟩),h⟩
theorem Xl(k:Nat){g:Gr}{n:Nat}(hg:G[k]? =some g)(hn:n=c+k)(he:env i=g.x)(h:nq c G so gone env l (i+1)):nq c G so gone env (.osl n 0::l) i:=⟨.inr (.inr (.inl ⟨k,g,hg,by rw[hn],he⟩)),h⟩
theorem Xn(ht:eI so (env i)=some y)(hi:∀id∈(env i).ids,gone id/\∀g∈G,∀ep,g.x≠ .osl id ep)(h:nq c G so gone env l (i+1)):nq c G so gone env (.d y::l) i:=⟨.inr (.inr (.inr ⟨y,rfl,ht,hi⟩)),h⟩
theorem DY:wz c G so gone [] []:=trivial
theorem aaS(h:wz c G so gone l l'):wz c G so gone (.d y::l) (.d y::l'):=⟨.inr (.inl ⟨rfl,fun r hr=>by simp[V.refs]at hr⟩),h⟩
theorem N4(k:Nat){g:Gr}{n:Nat}(hg:G[k]? =some g)(hn:n=c+k)(he:v=g.x)(h:wz c G so gone l l'):wz c G so gone (v::l) (.osl n 0::l'):=⟨.inr (.inr (.inl ⟨k,g,hg,by rw[hn],he⟩)),h⟩
theorem HZ{x:ab}:yc c G so gone x .no:= .inl rfl
theorem bE{x x':ab}(h:x=x')(hr:∀r∈x'.refs,r<c):yc c G so gone x x':= .inr (.inl ⟨h,hr⟩)
theorem DZ{x:ab}{cs cs':List V}(h:x= .row cs)(hr:wz c G so gone cs cs'):yc c G so gone x (.row cs'):= .inr (.inr ⟨cs,cs',h,rfl,hr⟩)
end
theorem rJ{c:Nat}{G:List Gr}{so:Nat->ab}{gone:Nat->Prop}{B B':Nat->Prop}{φ aS:Place}{H H':Hp}{w:World}(hc:∀v v' val,N3 c G so gone v v'->V.den B φ H w v val->V.den B' aS H' w v' val):
 ∀ (l l':List V) (vals:List Value),wz c G so gone l l'->V.aP B φ H w l vals->V.aP B' aS H' w l' vals
 |[],[],_,_,h=>h
 |v::l,v'::l',_,h,hd=>by
  obtain⟨u,us,rfl,h1,h2⟩:=hd
  exact⟨u,us,rfl,hc _ _ _ h.1 h1,rJ hc l l' us h.2 h2⟩
 |[],_::_,_,h,_=>h.elim
 |_::_,[],_,h,_=>h.elim
def N5(φ:Place)(c:Nat)(G:List Gr):Place:=fun id=>if id<c then φ id else match G[id - c]? with
 |some g=>(match g.x with| .osl j _=>φ j|_=> .slice none 0 0)
 |none=>φ id
theorem bM.see (gone:Nat->Prop)(G:List Gr)(c:Nat){b:Nat}{e:Nat->V}{so:Nat->ab}{m:Nat}(l:List V){o':Nat->ab}{nx':Nat}(uS:nx'=c+G.length)(hb:b<=c)
 (ho:∀id,id<c->yc c G so gone (so id) (o' id)) (hG:∀i g,G[i]? =some g->o' (c+i)= .arr 0 g.ty g.sz g.es/\g.ok so gone) (hh:∀id,nx'<=id->o' id= .no) (zJ:∀id,gone id->id<c->o' id= .no)
 (Yf:∀ (i j:Nat) (gi gj:Gr) (id ep jE:Nat),G[i]? =some gi->G[j]? =some gj->gi.x= .osl id ep->gj.x= .osl id jE->i=j) (he:nq c G so gone e l 0):bM b ⟨e,so,m⟩ ⟨br l,o',nx'⟩:=by
 subst uS
 intro M φ w tm hH hd
 let aS:Place:=N5 φ c G
 let H':Hp:=hp o' (c+G.length)
 let H:Hp:=⟨so,fun id=>id<m⟩
 have JT:∀id,id<c->aS id=φ id:=fun id aG=>if_pos aG
 have N6:∀i g,G[i]? =some g->aS (c+i)=(match g.x with| .osl j _=>φ j|_=> .slice none 0 0):=fun i g hg=>by
  show N5 φ c G (c+i)=_
  unfold N5
  rw[if_neg (by omega),show c+i - c=i by omega,hg]
 have hold:∀id k,(o' id).live=true->fk (aS id)=some k->∃j,(so j).live=true/\fk (φ j)=some k/\((id<c/\j=id)\/∃i g ep,id=c+i/\G[i]? =some g/\gone j/\g.x= .osl j ep):=by
  intro id k h1 h2
  by_cases cD:id<c
  ·rw[JT id cD]at h2
   rcases ho id cD with h3|⟨h3,_⟩|⟨cs,cs',h3,h4,_⟩
   ·rw[h3]at h1;cases h1
   ·exact⟨id,by rw[h3];exact h1,h2, .inl ⟨cD,rfl⟩⟩
   ·exact⟨id,by rw[h3];rfl,h2, .inl ⟨cD,rfl⟩⟩
  ·by_cases Ca:c+G.length<=id
   ·rw[hh id Ca]at h1;cases h1
   ·obtain⟨i,rfl⟩:∃i,id=c+i:=⟨id - c,af⟩
    obtain⟨g,hg⟩:∃g,G[i]? =some g:=⟨G[i]'af,ao⟩
    rw[N6 i g hg]at h2
    obtain⟨_,bw⟩:=hG i g hg
    rcases bw with⟨h3,_,_⟩|⟨j,ep,hj,h3,qA⟩
    ·rw[h3]at h2;cases h2
    ·rw[h3]at h2
     exact⟨j,by rw[qA];rfl,h2, .inr ⟨i,g,ep,rfl,hg,hj,h3⟩⟩
 have dm:∀k,dt aS H' k->dt φ H k:=by
  rintro k ⟨id,h1,h2⟩
  obtain⟨j,g1,g2,_⟩:=hold id k h1 h2
  exact⟨j,g1,g2⟩
 have hB:∀k, ¬aA M φ H k-> ¬aA M aS H' k:=fun k h h'=>h (h'.imp id (dm k))
 have MQ:∀id,id<c->rH (H'.o id) (H.o id)/\aS id=φ id/\H'.us id:=fun id aG=>by
  refine⟨?_,JT id aG,(by show id<c+G.length;omega)⟩
  show rH (o' id) (so id)
  rcases ho id aG with h3|⟨h3,_⟩|⟨cs,cs',h3,h4,_⟩
  ·rw[h3];exact⟨fun h=>(by cases h),fun e h=>(by cases h)⟩
  ·exact rH.rfl' h3.symm
  ·rw[h3,h4];exact rH.row _ _
 have gG:∀ (v:V) (val:Value),(∀r∈v.refs,r<c)->V.den (aA M φ H) φ H w v val->V.den (aA M aS H') aS H' w v val:=fun v val hr h=>
  V.rI (H:=H) (H':=H') hB v val (fun id aG=>MQ id (hr id aG)) h
 have qJ:∀ (v:List V) (val:List Value),(∀r∈V.aO v,r<c)->V.aP (aA M φ H) φ H w v val->V.aP (aA M aS H') aS H' w v val:=fun v val hr h=>
  V.kA (H:=H) (H':=H') hB v val (fun id aG=>MQ id (hr id aG)) h
 have aja:∀ (v:V) (y:D) (val:Value),eI so v=some y->(∀id∈v.ids,gone id/\∀g∈G,∀ep,g.x≠ .osl id ep)->V.den (aA M φ H) φ H w v val->D.den (aA M aS H') w y val:=fun v y val h1 h2 h3=>by
  obtain⟨f1,f2,f3,f4,f5⟩:=dH (H:=H) hH v.ids (fun id aG=>dA v val h3 id aG)
  have hB1:∀k,dt φ (H.put (dw H.o v.ids)) k->dt φ H k:=by
   rintro k ⟨id,g1,g2⟩
   by_cases aG:id∈v.ids
   ·rw[f3 id aG]at g1
    refine⟨id, ?_,g2⟩
    revert g1
    cases H.o id<;>simp[ab.fz,ab.live]
   ·rw[f4 id aG]at g1;exact⟨id,g1,g2⟩
  have h4:V.den (aA M φ (H.put (dw H.o v.ids))) φ (H.put (dw H.o v.ids)) w v val:=
   V.rI (H:=H) (fun k h h'=>h (h'.imp id (hB1 k))) v val (fun id aG=>by
     have gu:H.us id:=(V.s8 v val h3) id aG
     refine⟨?_,rfl,(f5 id).2 gu⟩
     by_cases hm:id∈v.ids
     ·rw[f3 id hm];exact rH.fz _
     ·rw[f4 id hm];exact rH.rfl' rfl) h3
  have h5:=gP f1 (o:=so) v y val (fun id aG=>f3 id aG) h1 h4
  refine D.bc (w:=w) (w':=w) (fun k _ hn=>⟨rfl,fun hk=>hn (hk.imp id ?_)⟩) y val h5
  rintro⟨id,g1,g2⟩
  obtain⟨j,k1,k2,k3⟩:=hold id k g1 g2
  refine⟨j, ?_,k2⟩
  have:j∉v.ids:=fun hm=>by
   obtain⟨k4,k5⟩:=h2 j hm
   rcases k3 with⟨k6,k7⟩|⟨i,g,ep,k6,k8,k9,k10⟩
   ·subst k7
    have:=zJ _ k4 k6
    have g1:(o' j).live=true:=g1
    rw[this]at g1
    cases g1
   ·exact k5 g (List.mem_of_getElem? k8) ep k10
  rw[f4 j this];exact k1
 have H3:∀i g val,G[i]? =some g->V.den (aA M φ H) φ H w g.x val->V.den (aA M aS H') aS H' w (.osl (c+i) 0) val:=by
  intro i g val hg this
  obtain⟨I0,bw⟩:=hG i g hg
  have cD:c+i<c+G.length:=by have:=(List.getElem?_eq_some_iff.1 hg).1;omega
  rcases bw with⟨h3,_,_⟩|⟨j,ep,hj,h3,qA⟩
  ·rw[h3]at this
   simp only[V.den]at this
   rw[this]
   refine⟨rfl,cD,fun e' qz=> ?_⟩
   have qz:(o' (c+i)).cJ=some e':=qz
   rw[I0]at qz
   simp only[ab.cJ,Option.some.injEq]at qz
   subst qz
   exact⟨Nat.le_refl _,fun _=>by rw[N6 i g hg,h3]⟩
  ·rw[h3]at this
   obtain⟨g1,g2,g3⟩:=this
   refine⟨g1,cD,fun e' qz=> ?_⟩
   have qz:(o' (c+i)).cJ=some e':=qz
   rw[I0]at qz
   simp only[ab.cJ,Option.some.injEq]at qz
   subst qz
   have xT:(H.o j).cJ=some ep:=by show(so j).cJ=_;rw[qA];rfl
   exact⟨Nat.le_refl _,fun _=>by rw[N6 i g hg,h3];exact(g3 ep xT).2 rfl⟩
 have WW:∀v v' val,N3 c G so gone v v'->V.den (aA M φ H) φ H w v val->V.den (aA M aS H') aS H' w v' val:=by
  intro v v' val h h1
  rcases h with rfl|⟨rfl,h2⟩|⟨i,g,hg,rfl,rfl⟩|⟨y,rfl,h2,h3⟩
  ·trivial
  ·exact gG _ _ h2 h1
  ·exact H3 i g _ hg h1
  ·exact aja v y val h2 h3 h1
 refine⟨aS,⟨fun id=> ?_,fun id hu=>hh id (by have: ¬id<c+G.length:=hu;omega),fun i j k h1 h2 h3 h4=> ?_,fun k hk=>hH.ours k (dm k hk),hH.B9⟩,fun i=> ?_,dm,by show b<=c+G.length;omega,fun id aG hr=> ?_,fun id e' aG qz=> ?_⟩
 ·have bH:bf M φ H w id:=hH.ok id
  show bf M aS H' w id
  unfold bf at bH|-
  by_cases cD:id<c
  ·rcases ho id cD with h3|⟨h3,hrefs⟩|⟨cs,cs',h3,h4,cz⟩
   ·have e2:H'.o id= .no:=h3
    rw[e2];trivial
   ·have e1:H.o id=o' id:=h3
    have e2:H'.o id=o' id:=rfl
    rw[e1]at bH
    rw[e2,JT id cD]
    cases Le:o' id with
    |no=>trivial
    |row cs=>
     simp only[Le]at bH hrefs|-
     exact T2
    |arr ep ty sz es=>
     simp only[Le]at bH|-
     obtain⟨k1,xs,k2,evs,k3,k4,k5⟩:=bH
     exact S5
    |sF ep es=>
     simp only[Le]at bH|-
     exact Qw
    |map kt vt es=>
     simp only[Le]at bH|-
     obtain⟨b,es',clock,k1,k2,k4,k3⟩:=bH
     exact acW
    |jf l=>
     simp only[Le]at bH|-
     exact Qw
    |nD l last=>
     simp only[Le]at bH|-
     obtain⟨b,k1,k2⟩:=bH
     exact Tj
    |AK s pos=>
     simp only[Le]at bH|-
     exact bH
    |loop nf n env ps a b st pd=>
     simp only[Le]at bH hrefs|-
     exact Uq
   ·have e1:H.o id= .row cs:=h3
    have e2:H'.o id= .row cs':=h4
    rw[e1]at bH
    rw[e2,JT id cD]
    obtain⟨b,eQ,ty,k1,k2,k3,k4⟩:=bH
    exact⟨b,eQ,ty,k1,k2,rJ WW _ _ _ cz k3,k4⟩
  ·by_cases Ca:c+G.length<=id
   ·have e2:H'.o id= .no:=hh id Ca
    rw[e2];trivial
   ·obtain⟨i,rfl⟩:∃i,id=c+i:=⟨id - c,af⟩
    obtain⟨g,hg⟩:∃g,G[i]? =some g:=⟨G[i]'af,ao⟩
    obtain⟨I0,bw⟩:=hG i g hg
    have e2:H'.o (c+i)= .arr 0 g.ty g.sz g.es:=I0
    rw[e2]
    rcases bw with⟨h3,h4,eo⟩|⟨j,ep,hj,h3,qA⟩
    ·rw[h4]
     refine⟨eo,[], ?_,[],ao,ao,rfl⟩
     rw[N6 i g hg,h3]
     exact World.ownsRow_nil _ _ _ _
    ·have this:bf M φ H w j:=hH.ok j
     unfold bf at this
     have e3:H.o j= .arr ep g.ty g.sz g.es:=qA
     simp only[e3]at this
     obtain⟨k1,xs,k2,evs,k3,k4,k5⟩:=this
     exact⟨k1,xs,by rw[N6 i g hg,h3];exact k2,evs,k3,k4,D.bg (fun b _ hn=>⟨rfl,hB b hn⟩) _ _ k5⟩
 ·obtain⟨i',a1,a2,a3⟩:=hold i k h1 h3
  obtain⟨j',b1,b2,b3⟩:=hold j k h2 h4
  have:=hH.apart i' j' k a1 b1 a2 b2
  subst this
  have il:∀E4,(o' E4).live=true->E4<c->gone E4->False:=fun E4 g1 g2 g3=>by
   rw[zJ _ g3 g2]at g1
   cases g1
  rcases a3 with⟨a3,a4⟩|⟨ia,ga,ea,a3,a4,a5,a6⟩<;>rcases b3 with⟨b3,b4⟩|⟨ib,gb,eb,b3,b4,b5,b6⟩
  ·omega
  ·exact(il i h1 a3 (a4 ▸ b5)).elim
  ·exact(il j h2 b3 (b4 ▸ a5)).elim
  ·have:=Yf ia ib ga gb _ _ _ a4 b4 a6 b6
   omega
 ·have hi:=HY l 0 he i
  rw[Nat.zero_add]at hi
  exact WW _ _ _ hi (hd i)
 ·have cD:id<c:=af
  have hr:(o' id).cK=true:=hr
  exact⟨(MQ id cD).1.1 hr,JT id cD⟩
 ·have cD:id<c:=af
  have qz:(o' id).cJ=some e':=qz
  exact⟨e',(MQ id cD).1.2 e' qz,Nat.le_refl _,fun _=>JT id cD⟩
theorem bM.agD (gone:Nat->Prop)(c:Nat){b:Nat}{e:Nat->V}{so:Nat->ab}{m:Nat}(l:List V){o':Nat->ab}(hb:b<=c)
 (ho:∀id,id<c->yc c [] so gone (so id) (o' id)) (hh:∀id,c<=id->o' id= .no) (zJ:∀id,gone id->id<c->o' id= .no) (he:nq c [] so gone e l 0):bM b ⟨e,so,m⟩ ⟨br l,o',c⟩:=
 bM.see gone [] c l rfl hb ho (fun i g h=>by cases h) hh zJ (fun i j gi gj id ep jE h=>by cases h) he
theorem bM.jP (gone:Nat->Prop)(x:V)(c:Nat){ty:TypeId}{sz:Nat}{es:List D}{b:Nat}{e:Nat->V}{so:Nat->ab}{m:Nat}(l:List V){o':Nat->ab}(hb:b<=c)
 (ho:∀id,id<c->yc c [⟨x,ty,sz,es⟩] so gone (so id) (o' id)) (hc:o' c= .arr 0 ty sz es) (hx:F8 so gone ty sz es x) (hh:∀id,c+1<=id->o' id= .no) (zJ:∀id,gone id->id<c->o' id= .no)
 (he:nq c [⟨x,ty,sz,es⟩] so gone e l 0):bM b ⟨e,so,m⟩ ⟨br l,o',c+1⟩:=
 bM.see gone [⟨x,ty,sz,es⟩] c l rfl hb ho (fun i g h=>by
  match i,h with
  |0,h=>simp at h;subst h;exact⟨hc,hx⟩) hh zJ (fun i j gi gj id ep jE h h' _ _=>by
  match i,j,h,h' with
  |0,0,_,_=>rfl) he
theorem G3{P:Nat->Prop}(h:P 0):∀id,id<1->P id:=fun id aG=>by
 have e:id=0:=af
 rw[e];exact h
theorem lt2{P:Nat->Prop}(h:P 0)(h1:P 1):∀id,id<2->P id:=fun id aG=>by
 rcases(by omega:id=0\/id=1)with rfl|rfl<;>assumption
theorem lt3{P:Nat->Prop}(h:P 0)(h1:P 1)(h2:P 2):∀id,id<3->P id:=fun id aG=>by
 rcases(by omega:id=0\/id=1\/id=2)with rfl|rfl|rfl<;>assumption
theorem lt0{P:Nat->Prop}:∀id,id<0->P id:=fun id aG=>af
@[go_sem] theorem ajy (b:Bool):(b==false)= !b:=Ct
@[go_sem] theorem ajz (b:Bool):(b==true)=b:=Ct
@[go_sem] theorem agE (c:Bool) (v:V):V.Bi c (V.Bi c v)=V.Bi c v:=by cases c<;>rfl
@[go_sem] theorem agF (c:Bool):(c&&c)=c:=by cases c<;>rfl
@[go_sem] theorem acg {α:Type} (f:α->D) (l:List α) (n:Nat) (h:∀x,(f x).cells.length=n):((l.map f).all fun z=>z.cells.length==n)=true:=by
  simp[List.all_eq_true,h]
attribute [go_sem] implies_true
attribute [go_sem] Option.isSome_none Option.getD_some Option.getD_none
theorem structOf{P:Program}{t:TypeId}(h:(match P.underlying t with|some (.struct _)=>true|_=>false)=true):∃fs,P.underlying t=some (.struct fs):=by
 split at h
 ·exact⟨_,by assumption⟩
 ·cases h
theorem aD{pr:List (List Nat)}{fp:List (List Nat×List Nat)}(h:fp.all (fun x=>x.2.isEmpty)=true):je pr fp=true:=by
 have e:∀i,(fp.getD i ([],[])).2=[]:=fun i=>by
  rw[List.getD_eq_getElem?_getD]
  cases hi:fp[i]? with
  |none=>rfl
  |some x=>simpa using List.all_eq_true.1 h x (List.mem_of_getElem? hi)
 simp only[je,List.all_eq_true,e,nC,List.all_nil,Bool.and_self,Bool.or_true,implies_true]
structure c0 (base:Nat) (h o:Nat->ab) (nx:Nat):Prop where
 bX:Good o nx
 le:base<=nx
 eq:∀id,id<base->o id=h id
def StK(base:Nat)(h:Nat->ab)(v:V)(o:Nat->ab)(nx:Nat)(K:V->(Nat->ab)->Nat->Prop):Prop:=
 ∀o' nx',nx<=nx'->c0 base h o' nx'->(∀id,base<=id->id<nx->o' id=o id)->K v o' nx'
def gv(P:Program)(g:FuncId)(args:List V)(base:Nat)(h h2:Nat->ab)(v:V):Prop:=
 ∀o nx,c0 base h o nx->∀K X,StK base h2 v o nx K->cR P g args o nx K X
theorem c0.aM {base:Nat}{h o:Nat->ab}{nx m i:Nat}{x:ab}(hI:c0 base h o nx)(hb:base<=i)(hi:i<m)(hm:nx<=m)(hx:x.refs.all (fun r=>decide (r<m))=true):c0 base h (YtonbelhklnmjnaaGreat.aM o i x) m:=
 ⟨(hI.bX.mono hm).aM hi hx,Nat.le_trans hI.le hm,fun id aG=>by rw[ak _ _ _ _ (by omega)];exact hI.eq id aG⟩
theorem c0.mono {base:Nat}{h o:Nat->ab}{nx m:Nat}(hI:c0 base h o nx)(hm:nx<=m):c0 base h o m:=⟨hI.bX.mono hm,Nat.le_trans hI.le hm,hI.eq⟩
def ext(base:Nat)(h o:Nat->ab):Nat->ab:=fun id=>if id<base then h id else o id
theorem c0.ext {base c:Nat}{h o:Nat->ab}{nx:Nat}(hI:c0 base h o nx)(hc:c<=nx)(hb:base<=c):c0 c (YtonbelhklnmjnaaGreat.ext base h o) o nx:=
 ⟨hI.bX,hc,fun id _=>by unfold YtonbelhklnmjnaaGreat.ext;split<;>first|exact hI.eq id (by assumption)|rfl⟩
theorem gv.ext {P:Program}{g:FuncId}{args:List V}{base c:Nat}{h h2:Nat->ab}{v:V}(hS:gv P g args base h h2 v)(hb:base<=c)(o0:Nat->ab):gv P g args c (YtonbelhklnmjnaaGreat.ext base h o0) (YtonbelhklnmjnaaGreat.ext base h2 o0) v:=by
 intro o nx hI K X hK
 refine hS o nx ⟨hI.bX,Nat.le_trans hb hI.le,fun id aG=>by rw[hI.eq id (by omega)];unfold YtonbelhklnmjnaaGreat.ext;rw[if_pos aG]⟩ K X fun o' nx' h1 h2 h3=>hK o' nx' h1 ⟨h2.bX,Nat.le_trans hI.le h1,fun id aG=> ?_⟩ (fun id h4 h5=>h3 id af h5)
 unfold YtonbelhklnmjnaaGreat.ext
 split
 ·exact h2.eq id (by assumption)
 ·rename_i hn
  rw[h3 id (by omega) (by have:=hI.le;omega),hI.eq id aG]
  unfold YtonbelhklnmjnaaGreat.ext;rw[if_neg hn]
theorem StK.ext {base c:Nat}{h o:Nat->ab}{v:V}{o1:Nat->ab}{nx Cc:Nat}{K:V->(Nat->ab)->Nat->Prop}(hK:StK base h v o nx K)(hb:base<=c)(hn:nx<=Cc)(hc:nx<=c)(ho:∀id,base<=id->id<nx->o1 id=o id):StK c (YtonbelhklnmjnaaGreat.ext base h o1) v o1 Cc K:=by
 intro o' nx' h1 h2 h3
 refine hK o' nx' af ⟨h2.bX,Nat.le_trans hb h2.le,fun id aG=> ?_⟩ fun id h4 h5=> ?_
 ·rw[h2.eq id (by omega)];unfold YtonbelhklnmjnaaGreat.ext;rw[if_pos aG]
 ·rw[h2.eq id (by omega), <- ho id h4 h5];unfold YtonbelhklnmjnaaGreat.ext;rw[if_neg (by omega)]
def aC{α σ:Type}(step:σ->α->σ×Bool)(s:σ):List α->σ×Bool
 |[]=>(s,true)
 |x::l=>if(step s x).2=true then aC step (step s x).1 l else((step s x).1,false)
theorem ox{P:Program}{id:Nat}{args:List V}{e:Nat->V}{o:Nat->ab}{nx:Nat}{K X:V->(Nat->ab)->Nat->Prop}(h:eD P id args o nx K X):zw P id K X ⟨e,o,nx⟩ args:=by unfold zw;exact h
theorem jB{α:Type}(f:Nat->α)(i:Nat)(x y:α):aM (aM f i x) i y=aM f i y:=by
 funext j;simp only[aM];split<;>rfl
attribute [go_sem] Int.cast_ofNat_Int
section
variable {P:Program}{n:Nat}{ps:List Nat}{x y:IC}{env:List V}{L:LoopState->Option j9->ab}
def iQ(P:Program)(n:Nat)(env:List V)(ps:List Nat)(x y:IC)(L:LoopState->Option j9->ab):Prop:=∀st pd,L st pd= .loop P.funcs.size n env ps x y st pd
theorem F9{bq:Nat}{gq:Operand}{Q:gf->S->Prop}{e:Nat->V}{o:Nat->ab}{nx:Nat}{f:FuncId}{cap:List V}(env:List V)(he:mh e env 0)
 (h:∀L,iQ P n env ps x y L->cR P f (.kq nx::cap) (aM o nx (L .ready none)) (nx+1)
  (fun _ o' nx'=>∃st pd,o' nx=L st pd/\st≠ .busy/\qd Q pd ⟨e,aM o' nx (L .exhausted pd),nx'⟩) (fun v o' nx'=>Q (.bW v) ⟨e,o',nx'⟩)):
 x9 P n bq false gq ps x y Q ⟨e,o,nx⟩ (.func (.func f) [] cap):=by
 refine JS env he ?_
 have:=h (fun st pd=> .loop P.funcs.size n env ps x y st pd) (fun _ _=>rfl)
 refine this.mono (fun v o' nx' hh=> ?_) (fun v o' nx' hh=>hh)
 obtain⟨st,pd,h1,h2,h3⟩:=hh
 exact⟨_,_,_,_,_,_,_,_,h1,h2,h3⟩
theorem wA(hL:iQ P n env ps x y L)(bI:P.follows .mixedOrders=true){id:Nat}{args:List V}{o:Nat->ab}{nx:Nat}{K X:V->(Nat->ab)->Nat->Prop}{st:LoopState}{pd:Option j9}
 (ho:o id=L st pd) (cD:id<nx) (DJ:ps.all (fun t=>decide (t<n))=true) (hl:args.length=ps.length)
 (h:ll P n nx true x (ow P n nx id y K X) ⟨nY (br env) ps args,o,nx⟩):eD P id args o nx K X:=
 eD.ay bI (ho.trans (hL st pd)) cD DJ hl h
theorem oz(hL:iQ P n env ps x y L){b id:Nat}{fe:IC}{K X:V->(Nat->ab)->Nat->Prop}{e:Nat->V}{o:Nat->ab}{nx:Nat}{pd:Option j9}(h:o id=L .ready pd)
 (h2:ll P n b true fe (jU id K X) ⟨e,aM o id (L .busy pd),nx⟩):ow P n b id fe K X .normal ⟨e,o,nx⟩:=by
 refine Bx (h.trans (hL _ _)) ?_
 rw[<- hL];exact h2
theorem I2(hL:iQ P n env ps x y L){id:Nat}{K X:V->(Nat->ab)->Nat->Prop}{e:Nat->V}{o:Nat->ab}{nx:Nat}{st:LoopState}{pd:Option j9}(h:o id=L st pd)(k:K (.d (.bool true)) (aM o id (L .ready none)) nx):jU id K X .normal ⟨e,o,nx⟩:=
 ⟨_,_,_,_,_,_,_,_,h.trans (hL _ _),by rw[<- hL];exact k⟩
theorem Fe(hL:iQ P n env ps x y L){id:Nat}{K X:V->(Nat->ab)->Nat->Prop}{e:Nat->V}{o:Nat->ab}{nx:Nat}{st:LoopState}{pd:Option j9}(h:o id=L st pd)(k:K (.d (.bool false)) (aM o id (L .done (some .ret))) nx):jU id K X .ret ⟨e,o,nx⟩:=
 ⟨_,_,_,_,_,_,_,_,h.trans (hL _ _),by rw[<- hL];exact k⟩
theorem Cm(hL:iQ P n env ps x y L){id j:Nat}{K X:V->(Nat->ab)->Nat->Prop}{e:Nat->V}{o:Nat->ab}{nx:Nat}{st:LoopState}{pd:Option j9}(h:o id=L st pd)(k:K (.d (.bool false)) (aM o id (L .done (some (.exit j)))) nx):jU id K X (.exit j) ⟨e,o,nx⟩:=
 ⟨_,_,_,_,_,_,_,_,h.trans (hL _ _),by rw[<- hL];exact k⟩
theorem iQ.no (hL:iQ P n env ps x y L)(st:LoopState)(pd:Option j9):L st pd≠ .no:=by rw[hL];exact ab.noConfusion
theorem iQ.refs (hL:iQ P n env ps x y L)(st:LoopState)(pd:Option j9):(L st pd).refs=V.aO env:=by rw[hL];rfl
end
theorem cR.gen {P:Program}{g:FuncId}{args:List V}{o:Nat->ab}{nx:Nat}{K X:V->(Nat->ab)->Nat->Prop}(h:∀O,O=o->cR P g args O nx K X):cR P g args o nx K X:=h o rfl
end
end Go.Proofs.YtonbelhklnmjnaaGreat
