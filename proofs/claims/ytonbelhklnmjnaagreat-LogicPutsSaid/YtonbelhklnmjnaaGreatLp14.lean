/-
  A PART OF THE PROOF. Conditions: none.
-/
import Derived.Test.YtonbelhklnmjnaaGreatRows
import Derived.Test.YtonbelhklnmjnaaGreatLp13
set_option linter.unusedSimpArgs false
set_option linter.unusedVariables false
namespace Go.Proofs.YtonbelhklnmjnaaGreat
def YX:IC:=
 (.seq (.ae [bx 2 31 0,
 al 4 31]) (.seq (.seq (.ae [fa 8 31 2 0,
 ld 9 29 8,
 bk .eql 10 29 9 1 29]) (.cond (.tmp 10) (.seq (.ae [mv 11 1,
 fa 12 31 2 1,
 ld 13 3 12,
 ia 14 28 11 13,
 ld 15 31 14,
 st 31 4 15]) .ret) .skip)) (.seq (.ae [fa 16 31 2 0,
 ld 17 29 16,
 fa 18 31 2 1,
 ld 19 3 18,
 ⟨(some 20), .build 31 #[(0, .tmp 17),(1, .tmp 19)],none⟩,
 al 5 31,
 st 31 5 20]) (.seq (.seq (.ae [fa 21 31 2 2,
 ld 22 28 21,
 ln 23 22 28,
 tt 24 0]) (.block 0 (.loop (.seq (.ae [bo .lss 25 3 24 23 3]) (.seq (.cond (.tmp 25) .skip (.exit 0)) (.seq (.block 1 (.seq (.ae [ia 26 28 22 24,
 ld 27 31 26,
 al 7 31,
 st 31 7 27]) (.dZ [fa 28 31 5 2,
 ld 29 28 28,
 ld 30 31 7,
 mv 31 1,
 k2 32 220 30 31 31 28,
 jD 33 28 32,
 ka 34 29 33 28,
 fa 35 31 5 2,
 st 28 35 34]
 [[],[0],[],[],[2,3],[4],[1,5,4],[0,1,2,3,4,5,6],[7,6,6,0,1,2,3,4,5,6]]))) (.ae [bk .add 36 3 24 1 3,
 mv 24 36]))))))) (.seq (.ae [ld 37 31 5,
 st 31 4 37]) .ret)))))
theorem UR:aG Tryz.prog 220 38 YX [.cell 4 31]:=
 ⟨_,Tryz.func220,af,af,af,_,rfl,af⟩
def YY:IC:=
 (.seq (.ae [bx 3 119 0]) (.seq (.ae [mv 8 1,
 ln 9 8 28,
 mv 10 2,
 ln 11 10 33,
 bo .eql 12 3 9 11 3,
 k1 13 128 12 4]) (.seq (.ae [mv 14 2,
 ln 15 14 33,
 tt 16 0]) (.block 0 (.loop (.seq (.ae [bo .lss 17 3 16 15 3]) (.seq (.cond (.tmp 17) .skip (.exit 0)) (.seq (.block 1 (.seq (.ae [mv 18 16,
 ia 19 33 14 16,
 ld 20 35 19,
 al 7 35,
 sg 6 18,
 st 35 7 20]) (.dZ [ld 21 119 3,
 mv 22 1,
 mv 23 6,
 ia 24 28 22 23,
 ld 25 31 24,
 ld 26 35 7,
 k3 27 93 21 25 26 119 31 35]
 [[],[],[],[1,2],[3],[],[0,4,5]]))) (.ae [bk .add 28 3 16 1 3,
 mv 16 28])))))))))
theorem US:aG Tryz.prog 221 29 YY []:=
 ⟨_,Tryz.func221,af,af,af,_,rfl,af⟩
def YZ:IC:=
 (.seq (.ae [bx 2 119 0,
 al 4 119]) (.seq (.ae [fa 5 119 2 0,
 ld 6 27 5,
 mv 7 1,
 ⟨(some 8), .build 119 #[(0, .tmp 6),(1, .tmp 7)],none⟩,
 st 119 4 8]) .ret))
theorem UT:aG Tryz.prog 222 9 YZ [.cell 4 119]:=
 ⟨_,Tryz.func222,af,af,af,_,rfl,af⟩
def Y0:IC:=
 (.seq (.ae [bx 2 106 0,
 tu 4]) (.seq (.ae [mv 7 1,
 k1 8 94 7 28,
 al 5 28,
 st 28 5 8]) (.seq (.ae [al 6 169]) (.seq (.ae [⟨(some 9), .makeFunc (.func 254) #[] #[.tmp 5, .tmp 6],none⟩,
 st 169 6 9]) (.seq (.ae [ld 10 169 6,
 fa 11 106 2 2,
 ld 12 31 11,
 ⟨(some 13), .call {callee:= .value (.tmp 10),args:=#[.tmp 12],argTypes:=#[31]},none⟩]) (.seq (.ae [ld 14 28 5,
 sg 4 14]) .ret))))))
theorem UU:aG Tryz.prog 223 15 Y0 [.tmp 4]:=
 ⟨_,Tryz.func223,af,af,af,_,rfl,af⟩
def Y1:IC:=
 (.seq (.ae [bx 4 119 0,
 bx 5 31 1,
 bx 6 35 2]) (.seq (.dZ [fa 8 31 5 0,
 ld 9 29 8,
 bk .eql 10 29 9 7 29,
 mv 11 10,
 gT (fa 12 35 6 4) 11,
 gT (ld 13 33 12) 11,
 gT (ln 14 13 33) 11,
 gT (bk .eql 15 3 14 1 3) 11,
 bU 16 11 15,
 mv 17 16,
 gT (fa 18 35 6 4) 17,
 gT (ld 19 33 18) 17,
 gT (vP 20 33 19 0) 17,
 gT (fa 21 35 20 1) 17,
 gT (ld 22 31 21) 17,
 gT (fa 23 35 6 1) 17,
 gT (ld 24 31 23) 17,
 gT (k2 25 218 22 24 31 31) 17,
 bU 26 17 25,
 k1 27 128 26 4]
 [[],[0],[1],[2],[3],[4,3],[5,3],[6,3],[3,7],[8,3],[9],[10,9],[11,9],[12,9],[13,9],[9],[15,9],[14,16,9,9],[9,17],[18,17]]) (.dZ [ld 28 119 4,
 fa 29 31 5 2,
 ld 30 28 29,
 mv 31 3,
 ia 32 28 30 31,
 ld 33 31 32,
 fa 34 35 6 4,
 ld 35 33 34,
 vP 36 33 35 0,
 ld 37 35 36,
 k3 38 93 28 33 37 119 31 35]
 [[],[],[1],[],[2,3],[4],[],[6],[7],[8],[0,5,9]])))
theorem UW:aG Tryz.prog 224 39 Y1 []:=
 ⟨_,Tryz.func224,af,af,af,_,rfl,af⟩
def Y2:IC:=
 (.seq (.ae [bx 1 133 0,
 al 2 31]) (.seq (.ae [⟨(some 3), .build 31 #[(0, .const (.int .i64 16))],none⟩,
 st 31 2 3]) .ret))
theorem UX:aG Tryz.prog 225 4 Y2 [.cell 2 31]:=
 ⟨_,Tryz.func225,af,af,af,_,rfl,af⟩
def Y3:IC:=
 (.seq (.ae [bx 4 119 0,
 bx 5 31 1,
 bx 6 35 2,
 al 8 31,
 al 9 31]) (.seq (.ae [mv 10 3,
 fa 11 31 5 0,
 ld 12 29 11,
 k2 13 255 10 12 225 29,
 k1 14 128 13 4]) (.seq (.ae [ld 15 119 4,
 fa 16 31 5 2,
 ld 17 28 16,
 fa 18 35 6 4,
 ld 19 33 18,
 k3 20 221 15 17 19 119 28 33]) (.seq (.dZ [fa 21 35 6 4,
 ld 22 33 21,
 vP 23 33 22 0,
 fa 24 35 23 1,
 ld 25 31 24,
 fa 26 35 6 4,
 ld 27 33 26,
 vP 28 33 27 1,
 fa 29 35 28 1,
 ld 30 31 29,
 st 31 8 25,
 st 31 9 30]
 [[],[0],[1],[2],[3],[],[5],[6],[7],[8],[4,0,1,2,3,4],[9,10,0,1,2,3,4,5,6,7,8,9,10]]) .ret))))
theorem UY:aG Tryz.prog 226 31 Y3 [.cell 8 31, .cell 9 31]:=
 ⟨_,Tryz.func226,af,af,af,_,rfl,af⟩
def Y4:IC:=
 (.seq (.ae [al 2 31]) (.seq (.seq (.ae [mv 3 0]) (.cond (.tmp 3) (.seq (.ae [⟨(some 4), .build 31 #[(0, .const (.int .i64 3)),(1, .const (.int .i64 1))],none⟩,
 st 31 2 4]) .ret) .skip)) (.seq (.ae [⟨(some 5), .build 31 #[(0, .const (.int .i64 3))],none⟩,
 st 31 2 5]) .ret)))
theorem UZ:aG Tryz.prog 227 6 Y4 [.cell 2 31]:=
 ⟨_,Tryz.func227,af,af,af,_,rfl,af⟩
def Y5:IC:=
 (.seq (.ae [bx 2 27 0,
 al 4 31]) (.seq (.ae [mv 7 1,
 ⟨(some 8), .build 31 #[(0, .const (.int .i64 4)),(1, .tmp 7)],none⟩,
 al 5 31,
 st 31 5 8]) (.seq (.seq (.ae [fa 9 27 2 0,
 fa 10 24 9 1,
 ld 11 22 10,
 mv 12 1,
 ia 13 22 11 12,
 fa 14 104 13 1,
 ld 15 3 14,
 tt 16 0]) (.block 0 (.loop (.seq (.ae [bo .lss 17 3 16 15 3]) (.seq (.cond (.tmp 17) .skip (.exit 0)) (.seq (.block 1 (.seq (.ae [mv 18 16,
 sg 6 18]) (.dZ [fa 19 31 5 2,
 ld 20 28 19,
 mv 21 6,
 k1 22 256 21 134,
 jD 23 28 22,
 ka 24 20 23 28,
 fa 25 31 5 2,
 st 28 25 24]
 [[],[0],[],[2],[3],[1,4,3],[0,1,2,3,4,5],[6,5,5,0,1,2,3,4,5]]))) (.ae [bk .add 26 3 16 1 3,
 mv 16 26]))))))) (.seq (.ae [ld 27 31 5,
 st 31 4 27]) .ret))))
theorem U0:aG Tryz.prog 228 28 Y5 [.cell 4 31]:=
 ⟨_,Tryz.func228,af,af,af,_,rfl,af⟩
def Y6:IC:=
 (.seq (.ae [cX 4 0]) (.seq (.seq (.ae [mv 6 0,
 ln 7 6 25,
 tt 8 0]) (.block 0 (.loop (.seq (.ae [bo .lss 9 3 8 7 3]) (.seq (.cond (.tmp 9) .skip (.exit 0)) (.seq (.block 1 (.seq (.ae [mv 10 8,
 sg 5 10]) (.seq (.ae [mv 11 1,
 mv 12 0,
 mv 13 5,
 ia 14 25 12 13,
 ld 15 106 14,
 ⟨(some 16), .call {callee:= .value (.tmp 11),args:=#[.tmp 15],argTypes:=#[106]},none⟩]) (.cond (.tmp 16) (.seq (.ae [mv 17 5,
 sg 4 17]) .ret) .skip)))) (.ae [bk .add 18 3 8 1 3,
 mv 8 18]))))))) (.seq (.ae [cX 4 (-1)]) .ret)))
theorem U1:aG Tryz.prog 229 19 Y6 [.tmp 4]:=
 ⟨_,Tryz.func229,af,af,af,_,rfl,af⟩
def Y7:IC:=
 (.seq (.ae [bx 2 31 0,
 bA 3 false]) (.seq (.ae [ld 4 46 1,
 ld 5 31 2,
 ⟨(some 6), .call {callee:= .value (.tmp 4),args:=#[.tmp 5],argTypes:=#[31]},none⟩,
 nt 7 4 6,
 sg 3 7]) .ret))
theorem U2:aG Tryz.prog 230 8 Y7 [.tmp 3]:=
 ⟨_,Tryz.func230,af,af,af,_,rfl,af⟩
def Y8:IC:=
 (.seq (.ae [bx 1 31 0,
 ⟨(some 2), .assign (.const .nilFunc),none⟩]) (.seq (.ae [⟨(some 3), .makeFunc (.func 257) #[] #[.tmp 1],none⟩,
 sg 2 3]) .ret))
theorem U3:aG Tryz.prog 231 4 Y8 [.tmp 2]:=
 ⟨_,Tryz.func231,af,af,af,_,rfl,af⟩
def Y9:IC:=
 (.seq (.ae [bA 4 false]) (.seq (.ae [mv 5 0,
 mv 6 1,
 k2 7 259 5 6 41 3,
 bk .geq 8 3 7 0 3,
 sg 4 8]) .ret))
theorem U4:aG Tryz.prog 232 9 Y9 [.tmp 4]:=
 ⟨_,Tryz.func232,af,af,af,_,rfl,af⟩
def Za:IC:=
 (.seq (.ae [tu 2]) (.seq (.seq (.ae [mv 3 0,
 ⟨(some 4), .binOp .eql 41 (.tmp 3) (.const (.slice none 0 0)) 41,none⟩]) (.cond (.tmp 4) (.seq (.ae [tu 2]) .ret) .skip)) (.seq (.ae [⟨(some 5), .buildSlice 41 0 #[],none⟩,
 mv 6 0,
 ka 7 5 6 41,
 sg 2 7]) .ret)))
theorem U5:aG Tryz.prog 233 8 Za [.tmp 2]:=
 ⟨_,Tryz.func233,af,af,af,_,rfl,af⟩
def Zb:IC:=
 (.seq (.ae [bx 2 195 0,
 bx 3 31 1,
 bA 4 false]) (.seq (.ae [fa 5 31 3 1,
 ld 6 3 5,
 kg 7 155 #[.tmp 6, .const (.int .i64 0), .const (.int .i64 19)] #[3,3,3],
 mv 8 7,
 gT (fa 9 31 3 2) 8,
 gT (ld 10 28 9) 8,
 gT (ln 11 10 28) 8,
 gT (bk .eql 12 3 11 0 3) 8,
 bU 13 8 12,
 sg 4 13]) .ret))
theorem U6:aG Tryz.prog 238 14 Zb [.tmp 4]:=
 ⟨_,Tryz.func238,af,af,af,_,rfl,af⟩
def Zc:IC:=
 (.seq (.ae [bx 2 195 0,
 bx 3 31 1,
 bA 4 false]) (.seq (.ae [fa 5 31 3 1,
 ld 6 3 5,
 kg 7 155 #[.tmp 6, .const (.int .i64 (-1000000)), .const (.int .i64 1000000)] #[3,3,3],
 mv 8 7,
 gT (fa 9 31 3 2) 8,
 gT (ld 10 28 9) 8,
 gT (ln 11 10 28) 8,
 gT (bk .eql 12 3 11 0 3) 8,
 bU 13 8 12,
 sg 4 13]) .ret))
theorem U7:aG Tryz.prog 239 14 Zc [.tmp 4]:=
 ⟨_,Tryz.func239,af,af,af,_,rfl,af⟩
def Zd:IC:=
 (.seq (.ae [bx 2 195 0,
 bx 3 31 1,
 bA 4 false]) (.seq (.dZ [fa 5 31 3 1,
 ld 6 3 5,
 fa 7 195 2 0,
 fa 8 24 7 0,
 ld 9 22 8,
 ln 10 9 22,
 bk .sub 11 3 10 1 3,
 kg 12 155 #[.tmp 6, .const (.int .i64 0), .tmp 11] #[3,3,3],
 mv 13 12,
 gT (fa 14 31 3 2) 13,
 gT (ld 15 28 14) 13,
 gT (ln 16 15 28) 13,
 gT (fa 17 195 2 0) 13,
 gT (fa 18 24 17 0) 13,
 gT (ld 19 22 18) 13,
 gT (fa 20 31 3 1) 13,
 gT (ld 21 3 20) 13,
 gT (ia 22 22 19 21) 13,
 gT (fa 23 104 22 1) 13,
 gT (ld 24 3 23) 13,
 gT (bo .eql 25 3 16 24 3) 13,
 bU 26 13 25,
 sg 4 26]
 [[],[0],[],[2],[3],[4],[5],[1,6],[7,7],[8],[9,8],[10,8],[8],[12,8],[13,8],[8],[15,8],[14,16,8],[17,8],[18,8],[11,19,8],[8,20],[21,8,0,1,2,3,4,5,6,7,8,9,10,11,12,13,14,15,16,17,18,19,20,21]]) .ret))
theorem U8:aG Tryz.prog 240 27 Zd [.tmp 4]:=
 ⟨_,Tryz.func240,af,af,af,_,rfl,af⟩
def Ze:IC:=
 (.seq (.ae [bx 2 195 0,
 bx 3 31 1,
 bA 4 false]) (.seq (.dZ [fa 5 31 3 1,
 ld 6 3 5,
 fa 7 195 2 0,
 fa 8 24 7 1,
 ld 9 22 8,
 ln 10 9 22,
 bk .sub 11 3 10 1 3,
 kg 12 155 #[.tmp 6, .const (.int .i64 0), .tmp 11] #[3,3,3],
 mv 13 12,
 gT (fa 14 31 3 2) 13,
 gT (ld 15 28 14) 13,
 gT (ln 16 15 28) 13,
 gT (fa 17 195 2 0) 13,
 gT (fa 18 24 17 1) 13,
 gT (ld 19 22 18) 13,
 gT (fa 20 31 3 1) 13,
 gT (ld 21 3 20) 13,
 gT (ia 22 22 19 21) 13,
 gT (fa 23 104 22 1) 13,
 gT (ld 24 3 23) 13,
 gT (bo .eql 25 3 16 24 3) 13,
 bU 26 13 25,
 sg 4 26]
 [[],[0],[],[2],[3],[4],[5],[1,6],[7,7],[8],[9,8],[10,8],[8],[12,8],[13,8],[8],[15,8],[14,16,8],[17,8],[18,8],[11,19,8],[8,20],[21,8,0,1,2,3,4,5,6,7,8,9,10,11,12,13,14,15,16,17,18,19,20,21]]) .ret))
theorem U9:aG Tryz.prog 241 27 Ze [.tmp 4]:=
 ⟨_,Tryz.func241,af,af,af,_,rfl,af⟩
def Zf:IC:=
 (.seq (.ae [bx 2 195 0,
 bx 3 31 1,
 bA 4 false]) (.seq (.dZ [fa 5 31 3 1,
 ld 6 3 5,
 fa 7 195 2 0,
 fa 8 24 7 1,
 ld 9 22 8,
 ln 10 9 22,
 bk .sub 11 3 10 1 3,
 kg 12 155 #[.tmp 6, .const (.int .i64 0), .tmp 11] #[3,3,3],
 mv 13 12,
 gT (fa 14 31 3 2) 13,
 gT (ld 15 28 14) 13,
 gT (ln 16 15 28) 13,
 gT (fa 17 195 2 0) 13,
 gT (fa 18 24 17 1) 13,
 gT (ld 19 22 18) 13,
 gT (fa 20 31 3 1) 13,
 gT (ld 21 3 20) 13,
 gT (ia 22 22 19 21) 13,
 gT (fa 23 104 22 1) 13,
 gT (ld 24 3 23) 13,
 gT (bo .lss 25 3 16 24 3) 13,
 bU 26 13 25,
 sg 4 26]
 [[],[0],[],[2],[3],[4],[5],[1,6],[7,7],[8],[9,8],[10,8],[8],[12,8],[13,8],[8],[15,8],[14,16,8],[17,8],[18,8],[11,19,8],[8,20],[21,8,0,1,2,3,4,5,6,7,8,9,10,11,12,13,14,15,16,17,18,19,20,21]]) .ret))
theorem Va:aG Tryz.prog 242 27 Zf [.tmp 4]:=
 ⟨_,Tryz.func242,af,af,af,_,rfl,af⟩
def Zg:IC:=
 (.seq (.ae [bx 2 195 0,
 bx 3 31 1,
 bA 4 false]) (.seq (.ae [fa 5 31 3 1,
 ld 6 3 5,
 kg 7 155 #[.tmp 6, .const (.int .i64 0), .const (.int .i64 19)] #[3,3,3],
 mv 8 7,
 gT (fa 9 31 3 2) 8,
 gT (ld 10 28 9) 8,
 gT (ln 11 10 28) 8,
 gT (bk .eql 12 3 11 2 3) 8,
 bU 13 8 12,
 sg 4 13]) .ret))
theorem Vb:aG Tryz.prog 243 14 Zg [.tmp 4]:=
 ⟨_,Tryz.func243,af,af,af,_,rfl,af⟩
def Zh:IC:=
 (.seq (.ae [bx 2 195 0,
 bx 3 31 1,
 bA 4 false]) (.seq (.ae [fa 5 31 3 1,
 ld 6 3 5,
 bk .eql 7 3 6 0 3,
 mv 8 7,
 gT (fa 9 31 3 2) 8,
 gT (ld 10 28 9) 8,
 gT (ln 11 10 28) 8,
 gT (bk .eql 12 3 11 2 3) 8,
 bU 13 8 12,
 sg 4 13]) .ret))
theorem Vc:aG Tryz.prog 244 14 Zh [.tmp 4]:=
 ⟨_,Tryz.func244,af,af,af,_,rfl,af⟩
def Zi:IC:=
 (.seq (.ae [bx 2 154 0]) (.seq (.ae [al 3 154]) (.seq (.ae [⟨(some 4), .makeFunc (.func 246) #[] #[.tmp 2, .tmp 3],none⟩,
 st 154 3 4]) (.ae [ld 5 154 3,
 ld 6 31 1,
 ⟨(some 7), .call {callee:= .value (.tmp 5),args:=#[.tmp 6, .const (.int .i64 1)],argTypes:=#[31,3]},none⟩]))))
theorem Vd:aG Tryz.prog 245 8 Zi []:=
 ⟨_,Tryz.func245,af,af,af,_,rfl,af⟩
def Zj:IC:=
 (.seq (.ae [bx 4 31 0,
 bx 5 3 1,
 bA 6 false]) (.seq (.ae [ld 7 154 2,
 ld 8 31 4,
 ld 9 3 5,
 ⟨(some 10), .call {callee:= .value (.tmp 7),args:=#[.tmp 8, .tmp 9],argTypes:=#[31,3]},none⟩,
 mv 11 10,
 gT (fa 12 31 4 2) 11,
 gT (ld 13 28 12) 11,
 ⟨(some 14), .makeFunc (.func 247) #[] #[.tmp 3, .tmp 5],(some (11,true))⟩,
 gT (k2 15 161 13 14 28 46) 11,
 bU 16 11 15,
 sg 6 16]) .ret))
theorem Ve:aG Tryz.prog 246 17 Zj [.tmp 6]:=
 ⟨_,Tryz.func246,af,af,af,_,rfl,af⟩
def Zk:IC:=
 (.seq (.ae [bx 3 31 0,
 bA 4 false]) (.seq (.ae [ld 5 154 1,
 ld 6 31 3,
 ld 7 3 2,
 bk .add 8 3 7 1 3,
 ⟨(some 9), .call {callee:= .value (.tmp 5),args:=#[.tmp 6, .tmp 8],argTypes:=#[31,3]},none⟩,
 sg 4 9]) .ret))
theorem Vf:aG Tryz.prog 247 10 Zk [.tmp 4]:=
 ⟨_,Tryz.func247,af,af,af,_,rfl,af⟩
def ael:IC:=
 (.seq (.ae [bA 2 false]) (.seq (.ae [mv 3 0,
 mv 4 0,
 bo .neq 5 3 3 4 3,
 sg 2 5]) .ret))
theorem aem:aG Tryz.prog 253 6 ael [.tmp 2]:=
 ⟨_,Tryz.func253,af,af,af,_,rfl,af⟩
def ML:IC:=
 (.seq (.ae [bx 3 31 0]) (.seq (.seq (.ae [fa 6 31 3 0,
 ld 7 29 6,
 bk .eql 8 29 7 8 29]) (.cond (.tmp 8) (.dZ [ld 9 28 1,
 fa 10 31 3 1,
 ld 11 3 10,
 ⟨(some 12), .build 133 #[],none⟩,
 k1 13 225 12 133,
 ia 14 28 9 11,
 st 31 14 13]
 [[],[],[1],[],[3],[0,2,0,1,2,3,4],[5,4,4,0,1,2,3,4]]) .skip)) (.seq (.ae [fa 15 31 3 2,
 ld 16 28 15,
 ln 17 16 28,
 tt 18 0]) (.block 0 (.loop (.seq (.ae [bo .lss 19 3 18 17 3]) (.seq (.cond (.tmp 19) .skip (.exit 0)) (.seq (.block 1 (.seq (.ae [ia 20 28 16 18,
 ld 21 31 20,
 al 5 31,
 st 31 5 21]) (.ae [ld 22 169 2,
 ld 23 31 5,
 ⟨(some 24), .call {callee:= .value (.tmp 22),args:=#[.tmp 23],argTypes:=#[31]},none⟩]))) (.ae [bk .add 25 3 18 1 3,
 mv 18 25])))))))))
theorem Vg:aG Tryz.prog 254 26 ML []:=
 ⟨_,Tryz.func254,af,af,af,_,rfl,af⟩
def Zl:IC:=
 (.seq (.ae [bA 4 false]) (.seq (.ae [mv 5 0,
 mv 6 1,
 k2 7 261 5 6 225 29,
 bk .geq 8 3 7 0 3,
 sg 4 8]) .ret))
theorem Vh:aG Tryz.prog 255 9 Zl [.tmp 4]:=
 ⟨_,Tryz.func255,af,af,af,_,rfl,af⟩
def Zm:IC:=
 (.seq (.ae [al 2 31]) (.seq (.ae [mv 3 0,
 ⟨(some 4), .build 31 #[(0, .const (.int .i64 1)),(1, .tmp 3)],none⟩,
 st 31 2 4]) .ret))
theorem Vi:aG Tryz.prog 256 5 Zm [.cell 2 31]:=
 ⟨_,Tryz.func256,af,af,af,_,rfl,af⟩
def Zn:IC:=
 (.seq (.ae [bx 2 46 0]) (.seq (.ae [al 3 46]) (.seq (.ae [⟨(some 4), .makeFunc (.func 258) #[] #[.tmp 2, .tmp 3],none⟩,
 st 46 3 4]) (.ae [ld 5 46 3,
 ld 6 31 1,
 ⟨(some 7), .call {callee:= .value (.tmp 5),args:=#[.tmp 6],argTypes:=#[31]},none⟩]))))
theorem Vj:aG Tryz.prog 257 8 Zn []:=
 ⟨_,Tryz.func257,af,af,af,_,rfl,af⟩
def Zo:IC:=
 (.seq (.ae [bx 3 31 0,
 bA 4 false]) (.seq (.ae [ld 5 46 1,
 ld 6 31 3,
 ⟨(some 7), .call {callee:= .value (.tmp 5),args:=#[.tmp 6],argTypes:=#[31]},none⟩,
 mv 8 7,
 gT (fa 9 31 3 2) 8,
 gT (ld 10 28 9) 8,
 gT (ld 11 46 2) 8,
 gT (k2 12 187 10 11 28 46) 8,
 bU 13 8 12,
 sg 4 13]) .ret))
theorem Vk:aG Tryz.prog 258 14 Zo [.tmp 4]:=
 ⟨_,Tryz.func258,af,af,af,_,rfl,af⟩
def Zp:IC:=
 (.seq (.ae [cX 4 0]) (.seq (.seq (.ae [mv 6 0,
 ln 7 6 41,
 tt 8 0]) (.block 0 (.loop (.seq (.ae [bo .lss 9 3 8 7 3]) (.seq (.cond (.tmp 9) .skip (.exit 0)) (.seq (.block 1 (.seq (.ae [mv 10 8,
 sg 5 10]) (.seq (.ae [mv 11 1,
 mv 12 0,
 mv 13 5,
 ia 14 41 12 13,
 ld 15 3 14,
 bo .eql 16 3 11 15 3]) (.cond (.tmp 16) (.seq (.ae [mv 17 5,
 sg 4 17]) .ret) .skip)))) (.ae [bk .add 18 3 8 1 3,
 mv 8 18]))))))) (.seq (.ae [cX 4 (-1)]) .ret)))
theorem Vl:aG Tryz.prog 259 19 Zp [.tmp 4]:=
 ⟨_,Tryz.func259,af,af,af,_,rfl,af⟩
def Zq:IC:=
 (.seq (.ae [cX 4 0]) (.seq (.seq (.ae [mv 6 0,
 ln 7 6 225,
 tt 8 0]) (.block 0 (.loop (.seq (.ae [bo .lss 9 3 8 7 3]) (.seq (.cond (.tmp 9) .skip (.exit 0)) (.seq (.block 1 (.seq (.ae [mv 10 8,
 sg 5 10]) (.seq (.ae [mv 11 1,
 mv 12 0,
 mv 13 5,
 ia 14 225 12 13,
 ld 15 29 14,
 bo .eql 16 29 11 15 29]) (.cond (.tmp 16) (.seq (.ae [mv 17 5,
 sg 4 17]) .ret) .skip)))) (.ae [bk .add 18 3 8 1 3,
 mv 8 18]))))))) (.seq (.ae [cX 4 (-1)]) .ret)))
theorem Vm:aG Tryz.prog 261 19 Zq [.tmp 4]:=
 ⟨_,Tryz.func261,af,af,af,_,rfl,af⟩
theorem mix:Tryz.prog.follows .mixedOrders=true:=af
def zn:Tr FD:= .e fun _=> .no
theorem zt{f:Nat->Nat}:Tr.GZ (fun(g:Nat) (d:FD)=>d.Ok Tryz.prog g) zn f:=fun _=>trivial
def aen:Tr FD:=
 (.n .no (.n .no (.n .no (.n .no (.n (.fn 26 c15 [.tmp 4]) (.n .no (.n (.fn 37 c63 [.tmp 6]) (.n (.fn 8 X8 [.tmp 3]) (.n (.fn 9 Zl [.tmp 4]) zn zn) zn) (.n (.fn 52 YQ [.tmp 6]) zn zn)) (.n (.fn 19 c95 [.tmp 2]) (.n (.fn 92 Ym [.tmp 4]) zn zn) (.n (.fn 15 Y0 [.tmp 4]) zn zn))) (.n (.fn 7 c47 [.cell 0 31]) (.n (.fn 8 c79 [.cell 4 31]) zn (.n (.fn 49 aef []) zn zn)) (.n (.fn 9 XY [.tmp 4]) (.n (.fn 10 YA []) zn zn) (.n (.fn 14 Zc [.tmp 4]) zn zn)))) (.n .no (.n .no zn (.n .no (.n (.fn 19 Ys [.tmp 4]) zn zn) (.n (.fn 4 Y8 [.tmp 2]) zn zn))) (.n (.fn 52 c55 [.cell 4 4]) (.n (.fn 3 c87 [.cell 0 35]) zn zn) (.n (.fn 10 X1 [.tmp 4]) (.n (.fn 9 YI [.tmp 4]) zn zn) (.n (.fn 10 Zk [.tmp 4]) zn zn))))) (.n (.fn 35 c11 [.tmp 4, .tmp 5, .tmp 6]) (.n .no (.n (.fn 62 c35 [.tmp 4]) (.n (.fn 15 c67 [.tmp 6]) (.n (.fn 8 Yb [.tmp 3]) (.n (.fn 19 Zp [.tmp 4]) zn zn) zn) zn) (.n (.fn 10 c99 [.tmp 4]) (.n (.fn 39 Yq [.cell 4 4]) zn zn) (.n (.fn 6 Y4 [.cell 2 31]) zn zn))) (.n (.fn 41 c51 [.tmp 8]) (.n (.fn 8 c83 [.cell 4 31]) zn zn) (.n .no (.n (.fn 31 YE []) zn zn) (.n (.fn 14 Zg [.tmp 4]) zn zn)))) (.n .no (.n (.fn 8 c43 [.cell 4 31]) zn (.n .no (.n (.fn 14 Yw []) zn zn) zn)) (.n .no (.n (.fn 8 c91 [.tmp 3]) (.n (.fn 15 Yi [.tmp 6]) zn zn) (.n (.fn 58 YW []) zn zn)) (.n (.fn 13 X5 [.tmp 4]) (.n (.fn 9 YM [.tmp 4]) zn zn) zn))))) (.n .no (.n (.fn 161 c9 [.tmp 0]) (.n .no (.n .no (.n (.fn 39 c65 [.tmp 4]) (.n (.fn 2 X9 [.cell 0 147]) (.n (.fn 8 Zn []) zn zn) zn) zn) (.n (.fn 17 c97 [.tmp 6]) (.n (.fn 18 Yo [.tmp 4]) zn zn) (.n (.fn 4 Y2 [.cell 2 31]) zn zn))) (.n (.fn 5 c49 [.cell 0 31]) (.n (.fn 5 c81 [.cell 2 31]) zn zn) (.n (.fn 16 XZ [.tmp 2]) (.n (.fn 26 YC []) zn zn) (.n (.fn 27 Ze [.tmp 4]) zn zn)))) (.n (.fn 17 c25 [.tmp 6, .tmp 7]) (.n (.fn 18 c41 [.tmp 4, .tmp 5, .tmp 6]) zn (.n .no (.n (.fn 27 Yu []) zn zn) (.n (.fn 8 Za [.tmp 2]) zn zn))) (.n .no (.n (.fn 27 c89 [.tmp 4, .tmp 5]) (.n (.fn 24 Yg [.tmp 3]) zn zn) (.n (.fn 25 aej [.tmp 2]) zn zn)) (.n .no (.n (.fn 17 YK [.tmp 3]) zn zn) zn)))) (.n .no (.n (.fn 46 c21 [.tmp 4]) (.n .no (.n (.fn 33 c69 [.tmp 2]) (.n (.fn 9 Yd [.tmp 4]) (.n (.fn 19 Zq [.tmp 4]) zn zn) zn) zn) (.n .no (.n (.fn 134 ad0 []) zn zn) (.n (.fn 19 Y6 [.tmp 4]) zn zn))) (.n (.fn 24 c53 [.tmp 2]) (.n (.fn 11 c85 [.cell 6 35]) zn (.n (.fn 17 aeh [.tmp 4]) zn zn)) (.n .no (.n (.fn 58 YG []) zn zn) (.n (.fn 8 Zi []) zn zn)))) (.n .no (.n (.fn 2 c45 [.cell 0 31]) (.n (.fn 8 c77 [.cell 4 31]) (.n (.fn 5 Yf [.cell 2 31]) zn zn) (.n (.fn 19 YT [.cell 0 189]) zn zn)) (.n .no (.n (.fn 116 Yy []) zn zn) zn)) (.n .no (.n (.fn 18 c93 []) (.n (.fn 9 Yk [.tmp 4]) zn zn) (.n (.fn 29 YY []) zn zn)) (.n (.fn 11 adK []) (.n (.fn 27 YO [.tmp 2]) zn zn) (.n (.fn 6 ael [.tmp 2]) zn zn))))))) (.n .no (.n .no (.n .no (.n .no (.n (.fn 6 c32 [.tmp 2]) (.n (.fn 13 c64 [.tmp 4]) (.n (.fn 6 Qq []) (.n (.fn 5 Zm [.cell 2 31]) zn zn) zn) (.n (.fn 19 YR [.tmp 4]) zn zn)) (.n (.fn 8 c96 []) (.n (.fn 12 Yn [.tmp 5]) zn zn) (.n (.fn 39 Y1 []) zn zn))) (.n (.fn 30 c48 [.cell 0 35]) (.n (.fn 11 c80 [.cell 6 31]) zn zn) (.n (.fn 7 ady [.tmp 3]) (.n (.fn 71 YB []) zn zn) (.n (.fn 27 Zd [.tmp 4]) zn zn)))) (.n .no (.n .no zn (.n .no (.n (.fn 17 Yt []) zn zn) (.n (.fn 9 Y9 [.tmp 4]) zn zn))) (.n (.fn 4 c56 [.tmp 2]) (.n (.fn 13 c88 [.tmp 4]) zn zn) (.n .no (.n (.fn 8 YJ [.tmp 3]) zn zn) zn)))) (.n .no (.n (.fn 6 c20 [.tmp 2]) (.n .no (.n (.fn 9 c68 [.tmp 4]) (.n (.fn 121 Yc [.tmp 4]) zn zn) zn) (.n .no (.n (.fn 45 Yr []) zn zn) (.n (.fn 28 Y5 [.cell 4 31]) zn zn))) (.n (.dfr 16 XW c52 92 9 [.tmp 8] [.cell 8 4] 10 4 4 c92) (.n (.fn 14 c84 [.cell 8 35]) zn zn) (.n (.fn 33 X0 [.tmp 8]) (.n (.fn 34 YF []) zn zn) (.n (.fn 14 Zh [.tmp 4]) zn zn)))) (.n .no (.n (.fn 5 c44 [.cell 2 31]) (.n .no zn (.n (.fn 19 YS [.tmp 4]) zn zn)) (.n .no (.n (.fn 14 Yx []) zn zn) zn)) (.n .no (.n .no (.n (.fn 18 Yj [.tmp 4]) zn zn) (.n (.fn 38 YX [.cell 4 31]) zn zn)) (.n (.fn 9 X6 [.tmp 2]) (.n (.fn 10 YN [.tmp 4]) zn zn) zn))))) (.n .no (.n (.fn 30 c10 [.cell 8 31, .tmp 9]) (.n .no (.n .no (.n .no (.n (.fn 9 Ya [.tmp 4]) (.n (.fn 14 Zo [.tmp 4]) zn zn) zn) zn) (.n (.fn 9 c98 [.tmp 4]) (.n (.fn 7 Yp [.tmp 3]) zn zn) (.n (.fn 31 Y3 [.cell 8 31, .cell 9 31]) zn zn))) (.n (.fn 31 c50 [.cell 2 35]) (.n (.fn 87 c82 [.cell 4 31, .tmp 5]) zn zn) (.n (.fn 32 Qp [.tmp 6]) (.n (.fn 31 YD []) zn zn) (.n (.fn 27 Zf [.tmp 4]) zn zn)))) (.n .no (.n (.fn 76 c42 [.cell 0 27]) (.n (.fn 8 c74 [.tmp 4]) zn zn) (.n .no (.n (.fn 22 Yv []) zn zn) zn)) (.n .no (.n (.fn 9 c90 [.tmp 4]) (.n (.fn 28 Yh [.tmp 2]) zn zn) (.n (.fn 24 YV [.tmp 4]) zn zn)) (.n (.fn 7 X4 [.tmp 3]) (.n (.fn 43 YL [.cell 4 4, .cell 5 38]) zn zn) zn)))) (.n .no (.n .no (.n .no (.n .no (.n (.fn 8 Ye [.tmp 3]) zn zn) zn) (.n .no (.n (.fn 8 ad2 [.tmp 2]) zn zn) (.n (.fn 8 Y7 [.tmp 3]) zn zn))) (.n (.fn 6 c54 [.tmp 2]) (.n (.fn 7 c86 [.cell 0 35]) zn zn) (.n .no (.n (.fn 98 YH []) zn zn) (.n (.fn 17 Zj [.tmp 6]) zn zn)))) (.n .no (.n (.fn 32 c46 [.cell 6 31, .tmp 7]) (.n (.fn 5 c78 [.cell 2 31]) zn (.n (.fn 4 YU [.tmp 2]) zn zn)) (.n (.fn 46 XX [.tmp 2]) (.n (.fn 10 Yz []) zn zn) (.n (.fn 14 Zb [.tmp 4]) zn zn))) (.n .no (.n (.fn 8 c94 [.tmp 2]) (.n (.fn 8 Yl [.tmp 3]) zn zn) (.n (.fn 9 YZ [.cell 4 119]) zn zn)) (.n (.fn 9 X7 [.tmp 4]) (.n (.fn 18 YP [.tmp 2]) zn zn) (.n (.fn 26 ML []) zn zn))))))))
noncomputable def cf:Nat->FD:=aen.get
theorem nR:∀g,(cf g).Ok Tryz.prog g:=
 Tr.AP (p:=fun g d=>d.Ok Tryz.prog g) (f:=fun g=>g) aen
   ⟨trivial,⟨trivial,⟨trivial,⟨trivial,⟨af1,⟨trivial,⟨ac8,⟨T2,⟨Vh,zt,zt⟩,zt⟩,⟨UK,zt,zt⟩⟩,⟨adl,⟨Ug,zt,zt⟩,⟨UU,zt,zt⟩⟩⟩,⟨agn,⟨agF,zt,⟨aeg,zt,zt⟩⟩,⟨TU,⟨Uu,zt,zt⟩,⟨U7,zt,zt⟩⟩⟩⟩,⟨trivial,⟨trivial,zt,⟨trivial,⟨Um,zt,zt⟩,⟨U3,zt,zt⟩⟩⟩,⟨ac6,⟨agN,zt,zt⟩,⟨TX,⟨UC,zt,zt⟩,⟨Vf,zt,zt⟩⟩⟩⟩⟩,⟨afY,⟨trivial,⟨ac2,⟨ada,⟨T5,⟨Vl,zt,zt⟩,zt⟩,zt⟩,⟨adp,⟨Uk,zt,zt⟩,⟨UZ,zt,zt⟩⟩⟩,⟨ac3,⟨agJ,zt,zt⟩,⟨trivial,⟨Uy,zt,zt⟩,⟨Vb,zt,zt⟩⟩⟩⟩,⟨trivial,⟨agj,zt,⟨trivial,⟨Uq,zt,zt⟩,zt⟩⟩,⟨trivial,⟨adj,⟨Uc,zt,zt⟩,⟨UQ,zt,zt⟩⟩,⟨TZ,⟨UG,zt,zt⟩,zt⟩⟩⟩⟩⟩,⟨trivial,⟨fn9,⟨trivial,⟨trivial,⟨ac9,⟨T3,⟨Vj,zt,zt⟩,zt⟩,zt⟩,⟨adn,⟨Ui,zt,zt⟩,⟨UX,zt,zt⟩⟩⟩,⟨agp,⟨agH,zt,zt⟩,⟨TV,⟨Uw,zt,zt⟩,⟨U9,zt,zt⟩⟩⟩⟩,⟨af4,⟨agh,zt,⟨trivial,⟨Uo,zt,zt⟩,⟨U5,zt,zt⟩⟩⟩,⟨trivial,⟨adh,⟨Ua,zt,zt⟩,⟨aek,zt,zt⟩⟩,⟨trivial,⟨UE,zt,zt⟩,zt⟩⟩⟩⟩,⟨trivial,⟨ac1,⟨trivial,⟨ade,⟨T7,⟨Vm,zt,zt⟩,zt⟩,zt⟩,⟨trivial,⟨ad1,zt,zt⟩,⟨U1,zt,zt⟩⟩⟩,⟨ac4,⟨agL,zt,⟨aei,zt,zt⟩⟩,⟨trivial,⟨UA,zt,zt⟩,⟨Vd,zt,zt⟩⟩⟩⟩,⟨trivial,⟨agl,⟨agD,⟨T9,zt,zt⟩,⟨UN,zt,zt⟩⟩,⟨trivial,⟨Us,zt,zt⟩,zt⟩⟩,⟨trivial,⟨adk,⟨Ue,zt,zt⟩,⟨US,zt,zt⟩⟩,⟨adL,⟨UI,zt,zt⟩,⟨aem,zt,zt⟩⟩⟩⟩⟩⟩⟩,⟨trivial,⟨trivial,⟨trivial,⟨trivial,⟨af9,⟨agw,⟨MK,⟨Vi,zt,zt⟩,zt⟩,⟨UL,zt,zt⟩⟩,⟨adm,⟨Uh,zt,zt⟩,⟨UW,zt,zt⟩⟩⟩,⟨ago,⟨agG,zt,zt⟩,⟨adz,⟨Uv,zt,zt⟩,⟨U8,zt,zt⟩⟩⟩⟩,⟨trivial,⟨trivial,zt,⟨trivial,⟨Un,zt,zt⟩,⟨U4,zt,zt⟩⟩⟩,⟨ac7,⟨adg,zt,zt⟩,⟨trivial,⟨UD,zt,zt⟩,zt⟩⟩⟩⟩,⟨trivial,⟨ac0,⟨trivial,⟨adb,⟨T6,zt,zt⟩,zt⟩,⟨trivial,⟨Ul,zt,zt⟩,⟨U0,zt,zt⟩⟩⟩,⟨⟨TS,TR⟩,⟨agK,zt,zt⟩,⟨TW,⟨Uz,zt,zt⟩,⟨Vc,zt,zt⟩⟩⟩⟩,⟨trivial,⟨agk,⟨trivial,zt,⟨UM,zt,zt⟩⟩,⟨trivial,⟨Ur,zt,zt⟩,zt⟩⟩,⟨trivial,⟨trivial,⟨Ud,zt,zt⟩,⟨UR,zt,zt⟩⟩,⟨T0,⟨UH,zt,zt⟩,zt⟩⟩⟩⟩⟩,⟨trivial,⟨acZ,⟨trivial,⟨trivial,⟨trivial,⟨T4,⟨Vk,zt,zt⟩,zt⟩,zt⟩,⟨ado,⟨Uj,zt,zt⟩,⟨UY,zt,zt⟩⟩⟩,⟨agq,⟨agI,zt,zt⟩,⟨MJ,⟨Ux,zt,zt⟩,⟨Va,zt,zt⟩⟩⟩⟩,⟨trivial,⟨agi,⟨adf,zt,zt⟩,⟨trivial,⟨Up,zt,zt⟩,zt⟩⟩,⟨trivial,⟨adi,⟨Ub,zt,zt⟩,⟨UP,zt,zt⟩⟩,⟨TY,⟨UF,zt,zt⟩,zt⟩⟩⟩⟩,⟨trivial,⟨trivial,⟨trivial,⟨trivial,⟨T8,zt,zt⟩,zt⟩,⟨trivial,⟨ad3,zt,zt⟩,⟨U2,zt,zt⟩⟩⟩,⟨ac5,⟨agM,zt,zt⟩,⟨trivial,⟨UB,zt,zt⟩,⟨Ve,zt,zt⟩⟩⟩⟩,⟨trivial,⟨agm,⟨agE,zt,⟨UO,zt,zt⟩⟩,⟨TT,⟨Ut,zt,zt⟩,⟨U6,zt,zt⟩⟩⟩,⟨trivial,⟨MI,⟨Uf,zt,zt⟩,⟨UT,zt,zt⟩⟩,⟨T1,⟨UJ,zt,zt⟩,⟨Vg,zt,zt⟩⟩⟩⟩⟩⟩⟩⟩
@[go_sem] theorem cellsOf_3:Tryz.prog.cellsOf 3=1:=af
@[go_sem] theorem bytesOf_3:Tryz.prog.bytesOf 3=8:=af
@[go_sem] theorem aggT_3:dp Tryz.prog 3=some false:=af
@[go_sem] theorem infoT_3:(Tryz.prog.info? 3).isSome=true:=af
@[go_sem] theorem undT_3:Tryz.prog.underlying 3=some (.int .i64):=af
@[go_sem] theorem eqShape_3:cj Tryz.prog 3=some .int:=af
@[go_sem] theorem zeroT_3:cG Tryz.prog 3=some [.d (.int .i64 0)]:=af
@[go_sem] theorem zeroV_3:zeroV Tryz.prog 3=some (.d (.int .i64 0)):=af
@[go_sem] theorem cellsOf_4:Tryz.prog.cellsOf 4=1:=af
@[go_sem] theorem aggT_4:dp Tryz.prog 4=some false:=af
@[go_sem] theorem infoT_4:(Tryz.prog.info? 4).isSome=true:=af
@[go_sem] theorem zeroT_4:cG Tryz.prog 4=some [.d (.bool false)]:=af
@[go_sem] theorem zeroV_4:zeroV Tryz.prog 4=some (.d (.bool false)):=af
@[go_sem] theorem cellsOf_9:Tryz.prog.cellsOf 9=1:=af
@[go_sem] theorem bytesOf_9:Tryz.prog.bytesOf 9=16:=af
@[go_sem] theorem aggT_9:dp Tryz.prog 9=some false:=af
@[go_sem] theorem undT_9:Tryz.prog.underlying 9=some .string:=af
@[go_sem] theorem eqShape_9:cj Tryz.prog 9=some .str:=af
@[go_sem] theorem zeroT_9:cG Tryz.prog 9=some [.d (.str [])]:=af
@[go_sem] theorem sliceT_22:cC Tryz.prog 22=some 104:=af
@[go_sem] theorem aggT_22:dp Tryz.prog 22=some false:=af
@[go_sem] theorem undT_22:Tryz.prog.underlying 22=some (.slice 104):=af
@[go_sem] theorem cellsOf_24:Tryz.prog.cellsOf 24=2:=af
@[go_sem] theorem aggT_24:dp Tryz.prog 24=some true:=af
@[go_sem] theorem sliceT_25:cC Tryz.prog 25=some 106:=af
@[go_sem] theorem aggT_25:dp Tryz.prog 25=some false:=af
@[go_sem] theorem undT_25:Tryz.prog.underlying 25=some (.slice 106):=af
@[go_sem] theorem cellsOf_27:Tryz.prog.cellsOf 27=3:=af
@[go_sem] theorem aggT_27:dp Tryz.prog 27=some true:=af
@[go_sem] theorem cellsOf_28:Tryz.prog.cellsOf 28=1:=af
@[go_sem] theorem sliceT_28:cC Tryz.prog 28=some 31:=af
@[go_sem] theorem aggT_28:dp Tryz.prog 28=some false:=af
@[go_sem] theorem intT_28:w8 Tryz.prog 28=none:=af
@[go_sem] theorem infoT_28:(Tryz.prog.info? 28).isSome=true:=af
@[go_sem] theorem undT_28:Tryz.prog.underlying 28=some (.slice 31):=af
@[go_sem] theorem zeroT_28:cG Tryz.prog 28=some [.br]:=af
@[go_sem] theorem cellsOf_29:Tryz.prog.cellsOf 29=1:=af
@[go_sem] theorem aggT_29:dp Tryz.prog 29=some false:=af
@[go_sem] theorem undT_29:Tryz.prog.underlying 29=some (.int .i64):=af
@[go_sem] theorem zeroT_29:cG Tryz.prog 29=some [.d (.int .i64 0)]:=af
@[go_sem] theorem cellsOf_31:Tryz.prog.cellsOf 31=3:=af
@[go_sem] theorem bytesOf_31:Tryz.prog.bytesOf 31=40:=af
@[go_sem] theorem aggT_31:dp Tryz.prog 31=some true:=af
@[go_sem] theorem infoT_31:(Tryz.prog.info? 31).isSome=true:=af
@[go_sem] theorem zeroT_31:cG Tryz.prog 31=some [.d (.int .i64 0), .d (.int .i64 0), .br]:=af
@[go_sem] theorem zeroV_31:zeroV Tryz.prog 31=some (lO [.d (.int .i64 0), .d (.int .i64 0), .br]):=af
@[go_sem] theorem placesT_31:fK Tryz.prog 31=some [(0,1),(1,1),(2,1)]:=af
@[go_sem] theorem aggT_32:dp Tryz.prog 32=some false:=af
@[go_sem] theorem undT_32:Tryz.prog.underlying 32=some (.int .i64):=af
@[go_sem] theorem cellsOf_33:Tryz.prog.cellsOf 33=1:=af
@[go_sem] theorem sliceT_33:cC Tryz.prog 33=some 35:=af
@[go_sem] theorem aggT_33:dp Tryz.prog 33=some false:=af
@[go_sem] theorem intT_33:w8 Tryz.prog 33=none:=af
@[go_sem] theorem infoT_33:(Tryz.prog.info? 33).isSome=true:=af
@[go_sem] theorem undT_33:Tryz.prog.underlying 33=some (.slice 35):=af
@[go_sem] theorem cellsOf_35:Tryz.prog.cellsOf 35=7:=af
@[go_sem] theorem bytesOf_35:Tryz.prog.bytesOf 35=104:=af
@[go_sem] theorem aggT_35:dp Tryz.prog 35=some true:=af
@[go_sem] theorem infoT_35:(Tryz.prog.info? 35).isSome=true:=af
@[go_sem] theorem zeroT_35:cG Tryz.prog 35=some [.d (.int .i64 0), .d (.int .i64 0), .d (.int .i64 0), .br, .d (.int .i64 0), .br, .br]:=af
@[go_sem] theorem placesT_35:fK Tryz.prog 35=some [(0,1),(1,3),(4,1),(5,1),(6,1)]:=af
@[go_sem] theorem cellsOf_38:Tryz.prog.cellsOf 38=1:=af
@[go_sem] theorem aggT_38:dp Tryz.prog 38=some false:=af
@[go_sem] theorem infoT_38:(Tryz.prog.info? 38).isSome=true:=af
@[go_sem] theorem zeroT_38:cG Tryz.prog 38=some [.d (.int .i64 0)]:=af
@[go_sem] theorem sliceT_41:cC Tryz.prog 41=some 3:=af
@[go_sem] theorem intT_41:w8 Tryz.prog 41=none:=af
@[go_sem] theorem undT_41:Tryz.prog.underlying 41=some (.slice 3):=af
@[go_sem] theorem cellsOf_46:Tryz.prog.cellsOf 46=1:=af
@[go_sem] theorem aggT_46:dp Tryz.prog 46=some false:=af
@[go_sem] theorem infoT_46:(Tryz.prog.info? 46).isSome=true:=af
@[go_sem] theorem zeroT_46:cG Tryz.prog 46=some [.d .bN]:=af
@[go_sem] theorem sliceT_62:cC Tryz.prog 62=some 95:=af
@[go_sem] theorem undT_62:Tryz.prog.underlying 62=some (.slice 95):=af
@[go_sem] theorem aggT_67:dp Tryz.prog 67=some false:=af
@[go_sem] theorem cellsOf_95:Tryz.prog.cellsOf 95=4:=af
@[go_sem] theorem aggT_95:dp Tryz.prog 95=some true:=af
@[go_sem] theorem infoT_95:(Tryz.prog.info? 95).isSome=true:=af
@[go_sem] theorem zeroT_95:cG Tryz.prog 95=some [.d (.int .i64 0), .d (.int .i64 0), .d (.int .i64 0), .br]:=af
@[go_sem] theorem mapT_97:px Tryz.prog 97=some (3,31):=af
@[go_sem] theorem cellsOf_104:Tryz.prog.cellsOf 104=2:=af
@[go_sem] theorem aggT_104:dp Tryz.prog 104=some true:=af
@[go_sem] theorem infoT_104:(Tryz.prog.info? 104).isSome=true:=af
@[go_sem] theorem zeroT_104:cG Tryz.prog 104=some [.d (.str []), .d (.int .i64 0)]:=af
@[go_sem] theorem placesT_104:fK Tryz.prog 104=some [(0,1),(1,1)]:=af
@[go_sem] theorem cellsOf_106:Tryz.prog.cellsOf 106=6:=af
@[go_sem] theorem aggT_106:dp Tryz.prog 106=some true:=af
@[go_sem] theorem infoT_106:(Tryz.prog.info? 106).isSome=true:=af
@[go_sem] theorem zeroT_106:cG Tryz.prog 106=some [.d (.int .i64 0), .br, .d (.int .i64 0), .d (.int .i64 0), .br, .d (.int .i64 0)]:=af
@[go_sem] theorem aggT_115:dp Tryz.prog 115=some false:=af
@[go_sem] theorem cellsOf_117:Tryz.prog.cellsOf 117=0:=af
@[go_sem] theorem infoT_117:(Tryz.prog.info? 117).isSome=true:=af
@[go_sem] theorem plainIface_117:jc Tryz.prog 117=true:=af
@[go_sem] theorem zeroT_117:cG Tryz.prog 117=some []:=af
@[go_sem] theorem zeroV_117:zeroV Tryz.prog 117=some (lO []):=af
@[go_sem] theorem placesT_117:fK Tryz.prog 117=some []:=af
@[go_sem] theorem cellsOf_119:Tryz.prog.cellsOf 119=4:=af
@[go_sem] theorem aggT_119:dp Tryz.prog 119=some true:=af
@[go_sem] theorem infoT_119:(Tryz.prog.info? 119).isSome=true:=af
@[go_sem] theorem zeroT_119:cG Tryz.prog 119=some [.br, .br, .br, .br]:=af
@[go_sem] theorem placesT_119:fK Tryz.prog 119=some [(0,3),(3,1)]:=af
@[go_sem] theorem cellsOf_122:Tryz.prog.cellsOf 122=1:=af
@[go_sem] theorem aggT_122:dp Tryz.prog 122=some false:=af
@[go_sem] theorem infoT_122:(Tryz.prog.info? 122).isSome=true:=af
@[go_sem] theorem zeroT_122:cG Tryz.prog 122=some [.d .bN]:=af
@[go_sem] theorem cellsOf_133:Tryz.prog.cellsOf 133=0:=af
@[go_sem] theorem infoT_133:(Tryz.prog.info? 133).isSome=true:=af
@[go_sem] theorem plainIface_133:jc Tryz.prog 133=true:=af
@[go_sem] theorem zeroT_133:cG Tryz.prog 133=some []:=af
@[go_sem] theorem zeroV_133:zeroV Tryz.prog 133=some (lO []):=af
@[go_sem] theorem placesT_133:fK Tryz.prog 133=some []:=af
@[go_sem] theorem plainIface_134:jc Tryz.prog 134=true:=af
@[go_sem] theorem zeroV_134:zeroV Tryz.prog 134=some (.d (.int .i64 0)):=af
@[go_sem] theorem aggT_137:dp Tryz.prog 137=some false:=af
@[go_sem] theorem cellsOf_138:Tryz.prog.cellsOf 138=3:=af
@[go_sem] theorem infoT_138:(Tryz.prog.info? 138).isSome=true:=af
@[go_sem] theorem plainIface_138:jc Tryz.prog 138=true:=af
@[go_sem] theorem zeroT_138:cG Tryz.prog 138=some [.d (.int .i64 0), .d (.int .i64 0), .br]:=af
@[go_sem] theorem zeroV_138:zeroV Tryz.prog 138=some (lO [.d (.int .i64 0), .d (.int .i64 0), .br]):=af
@[go_sem] theorem cellsOf_140:Tryz.prog.cellsOf 140=1:=af
@[go_sem] theorem aggT_140:dp Tryz.prog 140=some false:=af
@[go_sem] theorem infoT_140:(Tryz.prog.info? 140).isSome=true:=af
@[go_sem] theorem mapT_140:px Tryz.prog 140=some (3,4):=af
@[go_sem] theorem zeroT_140:cG Tryz.prog 140=some [.d .jw]:=af
@[go_sem] theorem undT_141:Tryz.prog.underlying 141=some (.map 3 4):=af
@[go_sem] theorem mapT_141:px Tryz.prog 141=some (3,4):=af
@[go_sem] theorem cellsOf_146:Tryz.prog.cellsOf 146=1:=af
@[go_sem] theorem aggT_146:dp Tryz.prog 146=some false:=af
@[go_sem] theorem infoT_146:(Tryz.prog.info? 146).isSome=true:=af
@[go_sem] theorem cellsOf_147:Tryz.prog.cellsOf 147=16:=af
@[go_sem] theorem aggT_147:dp Tryz.prog 147=some true:=af
@[go_sem] theorem infoT_147:(Tryz.prog.info? 147).isSome=true:=af
@[go_sem] theorem undT_147:Tryz.prog.underlying 147=some (.array 16 146):=af
@[go_sem] theorem zeroT_147:cG Tryz.prog 147=some [.d .bN, .d .bN, .d .bN, .d .bN, .d .bN, .d .bN, .d .bN, .d .bN, .d .bN, .d .bN, .d .bN, .d .bN, .d .bN, .d .bN, .d .bN, .d .bN]:=af
@[go_sem] theorem aggT_150:dp Tryz.prog 150=some false:=af
@[go_sem] theorem sliceT_151:cC Tryz.prog 151=some 9:=af
@[go_sem] theorem intT_151:w8 Tryz.prog 151=none:=af
@[go_sem] theorem undT_151:Tryz.prog.underlying 151=some (.slice 9):=af
@[go_sem] theorem cellsOf_154:Tryz.prog.cellsOf 154=1:=af
@[go_sem] theorem aggT_154:dp Tryz.prog 154=some false:=af
@[go_sem] theorem infoT_154:(Tryz.prog.info? 154).isSome=true:=af
@[go_sem] theorem zeroT_154:cG Tryz.prog 154=some [.d .bN]:=af
@[go_sem] theorem cellsOf_165:Tryz.prog.cellsOf 165=1:=af
@[go_sem] theorem aggT_165:dp Tryz.prog 165=some false:=af
@[go_sem] theorem infoT_165:(Tryz.prog.info? 165).isSome=true:=af
@[go_sem] theorem mapT_165:px Tryz.prog 165=some (9,4):=af
@[go_sem] theorem zeroT_165:cG Tryz.prog 165=some [.d .jw]:=af
@[go_sem] theorem cellsOf_169:Tryz.prog.cellsOf 169=1:=af
@[go_sem] theorem aggT_169:dp Tryz.prog 169=some false:=af
@[go_sem] theorem infoT_169:(Tryz.prog.info? 169).isSome=true:=af
@[go_sem] theorem zeroT_169:cG Tryz.prog 169=some [.d .bN]:=af
@[go_sem] theorem cellsOf_176:Tryz.prog.cellsOf 176=1:=af
@[go_sem] theorem aggT_176:dp Tryz.prog 176=some false:=af
@[go_sem] theorem infoT_176:(Tryz.prog.info? 176).isSome=true:=af
@[go_sem] theorem undT_176:Tryz.prog.underlying 176=some (.map 3 3):=af
@[go_sem] theorem mapT_176:px Tryz.prog 176=some (3,3):=af
@[go_sem] theorem zeroT_176:cG Tryz.prog 176=some [.d .jw]:=af
@[go_sem] theorem cellsOf_188:Tryz.prog.cellsOf 188=1:=af
@[go_sem] theorem aggT_188:dp Tryz.prog 188=some false:=af
@[go_sem] theorem infoT_188:(Tryz.prog.info? 188).isSome=true:=af
@[go_sem] theorem cellsOf_189:Tryz.prog.cellsOf 189=16:=af
@[go_sem] theorem sliceT_189:cC Tryz.prog 189=none:=af
@[go_sem] theorem arrT_189:BR Tryz.prog 189=some (16,188):=af
@[go_sem] theorem aggT_189:dp Tryz.prog 189=some true:=af
@[go_sem] theorem infoT_189:(Tryz.prog.info? 189).isSome=true:=af
@[go_sem] theorem zeroT_189:cG Tryz.prog 189=some [.d .bN, .d .bN, .d .bN, .d .bN, .d .bN, .d .bN, .d .bN, .d .bN, .d .bN, .d .bN, .d .bN, .d .bN, .d .bN, .d .bN, .d .bN, .d .bN]:=af
@[go_sem] theorem placesT_189:fK Tryz.prog 189=some [(0,1),(1,1),(2,1),(3,1),(4,1),(5,1),(6,1),(7,1),(8,1),(9,1),(10,1),(11,1),(12,1),(13,1),(14,1),(15,1)]:=af
@[go_sem] theorem zeroT_195:cG Tryz.prog 195=some [.br, .br]:=af
@[go_sem] theorem placesT_195:fK Tryz.prog 195=some [(0,2)]:=af
@[go_sem] theorem sliceT_225:cC Tryz.prog 225=some 29:=af
@[go_sem] theorem undT_225:Tryz.prog.underlying 225=some (.slice 29):=af
@[go_sem] theorem fieldT_24_0:cl Tryz.prog 24 0=some 0:=af
@[go_sem] theorem fieldT_24_1:cl Tryz.prog 24 1=some 1:=af
@[go_sem] theorem fieldT_27_0:cl Tryz.prog 27 0=some 0:=af
@[go_sem] theorem fieldT_27_1:cl Tryz.prog 27 1=some 2:=af
@[go_sem] theorem fieldT_31_0:cl Tryz.prog 31 0=some 0:=af
@[go_sem] theorem fieldT_31_1:cl Tryz.prog 31 1=some 1:=af
@[go_sem] theorem fieldT_31_2:cl Tryz.prog 31 2=some 2:=af
@[go_sem] theorem fieldT_35_0:cl Tryz.prog 35 0=some 0:=af
@[go_sem] theorem fieldT_35_1:cl Tryz.prog 35 1=some 1:=af
@[go_sem] theorem fieldT_35_2:cl Tryz.prog 35 2=some 4:=af
@[go_sem] theorem fieldT_35_3:cl Tryz.prog 35 3=some 5:=af
@[go_sem] theorem fieldT_35_4:cl Tryz.prog 35 4=some 6:=af
@[go_sem] theorem fieldT_95_0:cl Tryz.prog 95 0=some 0:=af
@[go_sem] theorem fieldT_95_1:cl Tryz.prog 95 1=some 1:=af
@[go_sem] theorem fieldT_104_0:cl Tryz.prog 104 0=some 0:=af
@[go_sem] theorem fieldT_104_1:cl Tryz.prog 104 1=some 1:=af
@[go_sem] theorem fieldT_106_0:cl Tryz.prog 106 0=some 0:=af
@[go_sem] theorem fieldT_106_1:cl Tryz.prog 106 1=some 1:=af
@[go_sem] theorem fieldT_106_2:cl Tryz.prog 106 2=some 2:=af
@[go_sem] theorem fieldT_106_3:cl Tryz.prog 106 3=some 5:=af
@[go_sem] theorem fieldT_119_0:cl Tryz.prog 119 0=some 0:=af
@[go_sem] theorem fieldT_119_1:cl Tryz.prog 119 1=some 3:=af
@[go_sem] theorem fieldT_138_2:cl Tryz.prog 138 2=some 2:=af
@[go_sem] theorem fieldT_195_0:cl Tryz.prog 195 0=some 0:=af
section
def qR(x y:ab):Prop:=(x.cB=true->y.cB=true)/\∀e,x.cA=some e->y.cA=some e
theorem qR.rfl' {x y:ab}(h:x=y):qR x y:=h ▸ ⟨id,fun _ h=>h⟩
theorem qR.fz (x:ab):qR x.fz x:=by cases x<;>exact⟨id,fun _ h=>h⟩
theorem qR.row (cs cs':List V):qR (.row cs) (.row cs'):=⟨fun _=>rfl,fun _ h=>by cases h⟩
mutual
theorem V.qS {B B':Nat->Prop}{φ aN:Place}{H H':Hp}{w:World}(hB:∀b, ¬B b-> ¬B' b):∀ (v:V) (val:Value),(∀id∈v.refs,qR (H'.o id) (H.o id)/\aN id=φ id/\H'.us id)->V.den B φ H w v val->V.den B' aN H' w v val
 | .d x,val,_,h=>D.aW (w:=w) (w':=w) (fun b _ hn=>⟨rfl,hB b hn⟩) x val h
 | .br,_,_,h=>h
 | .aa,_,_,_=>trivial
 | .fq,_,_,h=>h
 | .rF es,val,_,h=>⟨D.aW (w:=w) (w':=w) (fun b _ hn=>⟨rfl,hB b hn⟩) (.sl es) val h.1,h.2⟩
 | .agg cs,val,hr,h=>by
   obtain⟨a,rfl,h1,h2⟩:=h
   exact⟨a,rfl,V.j6 hB cs _ xJ h1,h2⟩
 | .cg cs,val,hr,h=>by
   obtain⟨a,rfl,h1⟩:=h
   exact⟨a,rfl,V.j6 hB cs _ xJ h1⟩
 | .ptr id off,val,hr,h=>by
   exact Wj
 | .osl id ep,val,hr,h=>by
   obtain⟨a,b,c⟩:=hr id BE
   obtain⟨h0,h1,h2⟩:=h
   refine⟨h0,c,fun e he=> ?_⟩
   obtain⟨x,y⟩:=h2 e (a.2 e he)
   exact⟨x,fun heq=>(y heq).trans b.symm⟩
 | .pe id ep i sz off,val,hr,h=>by
   obtain⟨a,b,c⟩:=hr id BE
   obtain⟨h0,h1,h2⟩:=h
   refine⟨h0,c,fun e he=> ?_⟩
   obtain⟨x,y⟩:=h2 e (a.2 e he)
   exact SA
 | .pp cs off,val,_,h=>by
   obtain⟨a,ev,h1,h2,h3,h5,h4⟩:=h
   exact aa6
 | .func fn first cap,val,hr,h=>by
   obtain⟨f,c,rfl,h1,h2⟩:=h
   exact⟨f,c,rfl,V.j6 hB first _ (fun id aC=>hr id (by simp[V.refs,aC])) h1,V.j6 hB cap _ (fun id aC=>hr id (by simp[V.refs,aC])) h2⟩
 | .iface t x,val,hr,h=>by
   obtain⟨u,rfl,h⟩:=h
   exact⟨u,rfl,V.qS hB x u xJ h⟩
 | .xR id off n,val,hr,h=>by
   exact Wj
 | .mp id,val,hr,h=>by
   obtain⟨a,b,c⟩:=hr id BE
   obtain⟨h0,h1,h2⟩:=h
   refine⟨h0,c,fun cq=> ?_⟩
   exact(h2 (a.1 cq)).trans b.symm
 | .jW id,val,hr,h=>by
   exact Wj
theorem V.j6 {B B':Nat->Prop}{φ aN:Place}{H H':Hp}{w:World}(hB:∀b, ¬B b-> ¬B' b):∀ (vs:List V) (vals:List Value),(∀id∈V.aL vs,qR (H'.o id) (H.o id)/\aN id=φ id/\H'.us id)->V.aM B φ H w vs vals->V.aM B' aN H' w vs vals
 |[],_,_,h=>h
 |v::vs,_,hr,h=>by
  obtain⟨u,us,rfl,h1,h2⟩:=h
  exact⟨u,us,rfl,V.qS hB v u (fun id aC=>hr id (by simp[V.aL,aC])) h1,V.j6 hB vs us (fun id aC=>hr id (by simp[V.aL,aC])) h2⟩
end
mutual
theorem V.sw {B:Nat->Prop}{φ:Place}{H:Hp}{w:World}:∀ (v:V) (val:Value),V.den B φ H w v val->∀id∈v.refs,H.us id
 | .osl id ep,_,h,j,hj| .ptr id off,_,h,j,hj| .pe id ep i sz off,_,h,j,hj| .xR id off n,_,h,j,hj| .mp id,_,h,j,hj| .jW id,_,h,j,hj=>by simp[V.refs]at hj;subst hj;exact h.2.1
 | .agg cs,_,h,j,hj=>by obtain⟨a,rfl,h,_⟩:=h;exact V.kG cs _ h j (by simpa[V.refs]using hj)
 | .cg cs,_,h,j,hj=>by obtain⟨a,rfl,h⟩:=h;exact V.kG cs _ h j (by simpa[V.refs]using hj)
 | .func fn first cap,_,h,j,hj=>by
   obtain⟨f,c,rfl,h1,h2⟩:=h
   rcases List.mem_append.1 (show j∈V.aL first++V.aL cap by simpa[V.refs]using hj)with hj|hj
   ·exact V.kG first _ h1 j hj
   ·exact V.kG cap _ h2 j hj
 | .iface t x,_,h,j,hj=>by obtain⟨u,rfl,h⟩:=h;exact V.sw x u h j (by simpa[V.refs]using hj)
 | .d _,_,_,_,hj| .br,_,_,_,hj| .pp _ _,_,_,_,hj| .aa,_,_,_,hj| .rF _,_,_,_,hj| .fq,_,_,_,hj=>by simp[V.refs]at hj
theorem V.kG {B:Nat->Prop}{φ:Place}{H:Hp}{w:World}:∀ (vs:List V) (vals:List Value),V.aM B φ H w vs vals->∀id∈V.aL vs,H.us id
 |[],_,_,j,hj=>by simp[V.aL]at hj
 |v::vs,_,h,j,hj=>by
  obtain⟨u,us,rfl,h1,h2⟩:=h
  rcases List.mem_append.1 (show j∈v.refs++V.aL vs by simpa[V.aL]using hj)with hj|hj
  ·exact V.sw v u h1 j hj
  ·exact V.kG vs us h2 j hj
end
def Fi(so:Nat->ab)(gone:Nat->Prop)(ty:TypeId)(sz:Nat)(es:List D)(x:V):Prop:=
 (x= .br/\es=[]/\0<sz)\/∃id ep,gone id/\x= .osl id ep/\so id= .arr ep ty sz es
def lZ(env:Nat->V):List V->Nat->Prop
 |[],_=>True
 |v::l,i=>(v= .aa\/v=env i)/\lZ env l (i+1)
theorem HT{env:Nat->V}{i:Nat}:lZ env [] i:=trivial
theorem El{env:Nat->V}{l:List V}{i:Nat}(h:lZ env l (i+1)):lZ env (.aa::l) i:=⟨.inl rfl,h⟩
theorem O1{env:Nat->V}{l:List V}{i:Nat}{v:V}(he:env i=v)(h:lZ env l (i+1)):lZ env (v::l) i:=⟨.inr he.symm,h⟩
theorem Db{env:Nat->V}:∀ (l:List V) (i:Nat),lZ env l i->∀j,bp l j= .aa\/bp l j=env (i+j)
 |[],i,_,j=>by rw[qM];exact .inl rfl
 |v::l,i,h,0=>by rw[oB];exact h.1
 |v::l,i,h,j+1=>by
  rw[oC]
  have:=Db l (i+1) h.2 j
  rwa [show i+1+j=i+(j+1) by omega]at this
theorem I2{P:Program}{n bq:Nat}{gq:Operand}{ps:List Nat}{x y:IC}{Q:fX->S->Prop}{e:Nat->V}{o:Nat->ab}{nx:Nat}{f:FuncId}{cap:List V}(env:List V)(he:lZ e env 0)
 (h:cK P f (.jW nx::cap) (aK o nx (.loop P.funcs.size n env ps x y .ready none)) (nx+1)
  (fun _ o' nx'=>∃nf m en p c d st pd,o' nx= .loop nf m en p c d st pd/\st≠ .busy/\pG Q pd ⟨e,aK o' nx (.loop nf m en p c d .exhausted pd),nx'⟩) (fun v o' nx'=>Q (.bP v) ⟨e,o',nx'⟩)):
 xj P n bq false gq ps x y Q ⟨e,o,nx⟩ (.func (.func f) [] cap):=by
 unfold xj Cs
 refine⟨rfl, .inl ⟨env,fun i=> ?_, .inl h⟩⟩
 have:=Db env 0 he i
 rwa [Nat.zero_add]at this
theorem bJ.trans {b:Nat}{s s' s'':S}(h1:bJ b s s')(h2:bJ b s' s''):bJ b s s'':=fun M φ w tm hH hd=>by
 obtain⟨aN,a1,a2,a3,a4,a5,a6⟩:=h1 M φ w tm hH hd
 obtain⟨Et,b1,b2,b3,b4,b5,b6⟩:=h2 M aN w tm a1 a2
 refine⟨Et,b1,b2,fun k hk=>a3 k (b3 k hk),b4,fun id aC hr=> ?_,fun id e' aC he=> ?_⟩
 ·obtain⟨c1,c2⟩:=b5 id aC hr
  obtain⟨c3,c4⟩:=a5 id aC c1
  exact⟨c3,c2.trans c4⟩
 ·obtain⟨e1,c1,c2,c3⟩:=b6 id e' aC he
  obtain⟨e0,d1,d2,d3⟩:=a6 id e1 aC c1
  exact⟨e0,d1,Nat.le_trans d2 c2,fun h=>(c3 ah).trans (d3 ah)⟩
def nS(P:Program)(n b id:Nat)(eS:IC)(K X:V->(Nat->ab)->Nat->Prop)(e:fX)(s:S):Prop:=
 match e with
 | .normal=>∃nf m en p c d pd,s.o id= .loop nf m en p c d .ready pd/\lj P n b true eS (jL id K X) ⟨s.env,aK s.o id (.loop nf m en p c d .busy pd),s.nx⟩
 | .bP v=>X v s.o s.nx
 |_=>False
theorem eh.az {P:Program}{n:Nat}(bB:P.follows .mixedOrders=true){id:Nat}{args:List V}{o:Nat->ab}{nx:Nat}{K X:V->(Nat->ab)->Nat->Prop}{env:List V}{ps:List Nat}{iW eS:IC}{st:LoopState}{pd:Option jQ}
 (ho:o id= .loop P.funcs.size n env ps iW eS st pd) (cM:id<nx) (E9:ps.all (fun t=>decide (t<n))=true) (hl:args.length=ps.length)
 (h:lj P n nx true iW (nS P n nx id eS K X) ⟨nG (bp env) ps args,o,nx⟩):eh P id args o nx K X:=by
 refine eh.vu bB ho cM E9 hl (eK iW _ _ _ (fun e s h=> ?_) h)
 cases e with
 |normal=>
  obtain⟨nf,m,en,p,c,d,pd,h1,h2⟩:=h
  exact⟨nf,m,en,p,c,d,pd,h1,eK eS _ _ _ (fun _ _ h=>h) h2⟩
 |bP v=>exact h
 |_=>exact h.elim
theorem AQ{P:Program}{n b id:Nat}{eS:IC}{K X:V->(Nat->ab)->Nat->Prop}{s:S}{nf m:Nat}{en:List V}{p:List Nat}{c d:IC}{pd:Option jQ}(h:s.o id= .loop nf m en p c d .ready pd)
 (h2:lj P n b true eS (jL id K X) ⟨s.env,aK s.o id (.loop nf m en p c d .busy pd),s.nx⟩):nS P n b id eS K X .normal s:=⟨nf,m,en,p,c,d,pd,h,h2⟩
section
variable {P:Program}{KB:List Nat->Fp->Prop}{pr:List (List Nat)}{l:List ck}{fr:Nat}{fp:Fp}{bad ws:List Nat}{s:S}{d:Option Nat}{op:Op}
theorem dW(h:KB ws fp):CT P KB pr [] fr fp bad ws s:=by unfold CT;exact h
end
end
section
structure Gr where
 x:V
 ty:TypeId
 sz:Nat
 es:List D
def Gr.ok (so:Nat->ab)(gone:Nat->Prop)(g:Gr):Prop:=Fi so gone g.ty g.sz g.es g.x
def MM(c:Nat)(G:List Gr)(so:Nat->ab)(gone:Nat->Prop)(v v':V):Prop:=
 v'= .aa\/(v'=v/\∀r∈v.refs,r<c)\/(∃i g,G[i]? =some g/\v'= .osl (c+i) 0/\v=g.x)\/∃y,v'= .d y/\ew so v=some y/\∀id∈v.ids,gone id/\∀g∈G,∀ep,g.x≠ .osl id ep
def mW(c:Nat)(G:List Gr)(so:Nat->ab)(gone:Nat->Prop)(env:Nat->V):List V->Nat->Prop
 |[],_=>True
 |v::l,i=>MM c G so gone (env i) v/\mW c G so gone env l (i+1)
def vQ(c:Nat)(G:List Gr)(so:Nat->ab)(gone:Nat->Prop):List V->List V->Prop
 |[],[]=>True
 |v::l,v'::l'=>MM c G so gone v v'/\vQ c G so gone l l'
 |_,_=>False
def xm(c:Nat)(G:List Gr)(so:Nat->ab)(gone:Nat->Prop)(x x':ab):Prop:=
 x'= .no\/(x=x'/\∀r∈x'.refs,r<c)\/∃cs cs',x= .row cs/\x'= .row cs'/\vQ c G so gone cs cs'
section
variable {c:Nat}{G:List Gr}{so:Nat->ab}{gone:Nat->Prop}
theorem G0{env:Nat->V}:∀ (l:List V) (i:Nat),mW c G so gone env l i->∀j,MM c G so gone (env (i+j)) (bp l j)
 |[],i,_,j=>by rw[qM];exact .inl rfl
 |v::l,i,h,0=>by rw[oB];exact h.1
 |v::l,i,h,j+1=>by
  rw[oC]
  have:=G0 l (i+1) h.2 j
  rwa [show i+1+j=i+(j+1) by omega]at this
variable {env:Nat->V}{i:Nat}{l l':List V}{v:V}{y:D}
theorem Kk:mW c G so gone env [] i:=trivial
theorem HQ(h:mW c G so gone env l (i+1)):mW c G so gone env (.aa::l) i:=⟨.inl rfl,h⟩
theorem Kl(he:env i= .d y)(h:mW c G so gone env l (i+1)):mW c G so gone env (.d y::l) i:=⟨.inr (.inl ⟨he.symm,fun r hr=>by rw[he]at hr;simp[V.refs]at hr⟩),h⟩
theorem VN(he:env i=v)(hr:∀r∈v.refs,r<c)(h:mW c G so gone env l (i+1)):mW c G so gone env (v::l) i:=⟨.inr (.inl ⟨he.symm,fun r z7=>hr r (he ▸ z7)⟩),h⟩
theorem VM(k:Nat){g:Gr}{n:Nat}(hg:G[k]? =some g)(hn:n=c+k)(he:env i=g.x)(h:mW c G so gone env l (i+1)):mW c G so gone env (.osl n 0::l) i:=⟨.inr (.inr (.inl ⟨k,g,hg,by rw[hn],he⟩)),h⟩
theorem VO(ht:ew so (env i)=some y)(hi:∀id∈(env i).ids,gone id/\∀g∈G,∀ep,g.x≠ .osl id ep)(h:mW c G so gone env l (i+1)):mW c G so gone env (.d y::l) i:=⟨.inr (.inr (.inr ⟨y,rfl,ht,hi⟩)),h⟩
theorem Dc:vQ c G so gone [] []:=trivial
theorem Zr(h:vQ c G so gone l l'):vQ c G so gone (.d y::l) (.d y::l'):=⟨.inr (.inl ⟨rfl,fun r hr=>by simp[V.refs]at hr⟩),h⟩
theorem MN(k:Nat){g:Gr}{n:Nat}(hg:G[k]? =some g)(hn:n=c+k)(he:v=g.x)(h:vQ c G so gone l l'):vQ c G so gone (v::l) (.osl n 0::l'):=⟨.inr (.inr (.inl ⟨k,g,hg,by rw[hn],he⟩)),h⟩
theorem G1{x:ab}:xm c G so gone x .no:= .inl rfl
theorem cn{x x':ab}(h:x=x')(hr:∀r∈x'.refs,r<c):xm c G so gone x x':= .inr (.inl ⟨h,hr⟩)
theorem Dd{x:ab}{cs cs':List V}(h:x= .row cs)(hr:vQ c G so gone cs cs'):xm c G so gone x (.row cs'):= .inr (.inr ⟨cs,cs',h,rfl,hr⟩)
end
theorem qT{c:Nat}{G:List Gr}{so:Nat->ab}{gone:Nat->Prop}{B B':Nat->Prop}{φ aN:Place}{H H':Hp}{w:World}(hc:∀v v' val,MM c G so gone v v'->V.den B φ H w v val->V.den B' aN H' w v' val):
 ∀ (l l':List V) (vals:List Value),vQ c G so gone l l'->V.aM B φ H w l vals->V.aM B' aN H' w l' vals
 |[],[],_,_,h=>h
 |v::l,v'::l',_,h,hd=>by
  obtain⟨u,us,rfl,h1,h2⟩:=hd
  exact⟨u,us,rfl,hc _ _ _ h.1 h1,qT hc l l' us h.2 h2⟩
 |[],_::_,_,h,_=>h.elim
 |_::_,[],_,h,_=>h.elim
def MO(φ:Place)(c:Nat)(G:List Gr):Place:=fun id=>if id<c then φ id else match G[id - c]? with
 |some g=>(match g.x with| .osl j _=>φ j|_=> .slice none 0 0)
 |none=>φ id
theorem bJ.see (gone:Nat->Prop)(G:List Gr)(c:Nat){b:Nat}{e:Nat->V}{so:Nat->ab}{m:Nat}(l:List V){o':Nat->ab}{nx':Nat}(uj:nx'=c+G.length)(hb:b<=c)
 (ho:∀id,id<c->xm c G so gone (so id) (o' id)) (hG:∀i g,G[i]? =some g->o' (c+i)= .arr 0 g.ty g.sz g.es/\g.ok so gone) (hh:∀id,nx'<=id->o' id= .no) (yN:∀id,gone id->id<c->o' id= .no)
 (WK:∀ (i j:Nat) (gi gj:Gr) (id ep jx:Nat),G[i]? =some gi->G[j]? =some gj->gi.x= .osl id ep->gj.x= .osl id jx->i=j) (he:mW c G so gone e l 0):bJ b ⟨e,so,m⟩ ⟨bp l,o',nx'⟩:=by
 subst uj
 intro M φ w tm hH hd
 let aN:Place:=MO φ c G
 let H':Hp:=hp o' (c+G.length)
 let H:Hp:=⟨so,fun id=>id<m⟩
 have I3:∀id,id<c->aN id=φ id:=fun id aC=>if_pos aC
 have MP:∀i g,G[i]? =some g->aN (c+i)=(match g.x with| .osl j _=>φ j|_=> .slice none 0 0):=fun i g hg=>by
  show MO φ c G (c+i)=_
  unfold MO
  rw[if_neg (by omega),show c+i - c=i by omega,hg]
 have hold:∀id k,(o' id).live=true->eW (aN id)=some k->∃j,(so j).live=true/\eW (φ j)=some k/\((id<c/\j=id)\/∃i g ep,id=c+i/\G[i]? =some g/\gone j/\g.x= .osl j ep):=by
  intro id k h1 h2
  by_cases cM:id<c
  ·rw[I3 id cM]at h2
   rcases ho id cM with h3|⟨h3,_⟩|⟨cs,cs',h3,h4,_⟩
   ·rw[h3]at h1;cases h1
   ·exact⟨id,by rw[h3];exact h1,h2, .inl ⟨cM,rfl⟩⟩
   ·exact⟨id,by rw[h3];rfl,h2, .inl ⟨cM,rfl⟩⟩
  ·by_cases Bt:c+G.length<=id
   ·rw[hh id Bt]at h1;cases h1
   ·obtain⟨i,rfl⟩:∃i,id=c+i:=⟨id - c,ah⟩
    obtain⟨g,hg⟩:∃g,G[i]? =some g:=⟨G[i]'ah,ao⟩
    rw[MP i g hg]at h2
    obtain⟨_,bn⟩:=hG i g hg
    rcases bn with⟨h3,_,_⟩|⟨j,ep,hj,h3,p7⟩
    ·rw[h3]at h2;cases h2
    ·rw[h3]at h2
     exact⟨j,by rw[p7];rfl,h2, .inr ⟨i,g,ep,rfl,hg,hj,h3⟩⟩
 have c0:∀k,df aN H' k->df φ H k:=by
  rintro k ⟨id,h1,h2⟩
  obtain⟨j,g1,g2,_⟩:=hold id k h1 h2
  exact⟨j,g1,g2⟩
 have hB:∀k, ¬ay M φ H k-> ¬ay M aN H' k:=fun k h h'=>h (h'.imp id (c0 k))
 have LD:∀id,id<c->qR (H'.o id) (H.o id)/\aN id=φ id/\H'.us id:=fun id aC=>by
  refine⟨?_,I3 id aC,(by show id<c+G.length;omega)⟩
  show qR (o' id) (so id)
  rcases ho id aC with h3|⟨h3,_⟩|⟨cs,cs',h3,h4,_⟩
  ·rw[h3];exact⟨fun h=>(by cases h),fun e h=>(by cases h)⟩
  ·exact qR.rfl' h3.symm
  ·rw[h3,h4];exact qR.row _ _
 have gu:∀ (v:V) (val:Value),(∀r∈v.refs,r<c)->V.den (ay M φ H) φ H w v val->V.den (ay M aN H') aN H' w v val:=fun v val hr h=>
  V.qS (H:=H) (H':=H') hB v val (fun id aC=>LD id (hr id aC)) h
 have qe:∀ (v:List V) (val:List Value),(∀r∈V.aL v,r<c)->V.aM (ay M φ H) φ H w v val->V.aM (ay M aN H') aN H' w v val:=fun v val hr h=>
  V.j6 (H:=H) (H':=H') hB v val (fun id aC=>LD id (hr id aC)) h
 have agO:∀ (v:V) (y:D) (val:Value),ew so v=some y->(∀id∈v.ids,gone id/\∀g∈G,∀ep,g.x≠ .osl id ep)->V.den (ay M φ H) φ H w v val->D.den (ay M aN H') w y val:=fun v y val h1 h2 h3=>by
  obtain⟨f1,f2,f3,f4,f5⟩:=dx (H:=H) hH v.ids (fun id aC=>dq v val h3 id aC)
  have hB1:∀k,df φ (H.put (dk H.o v.ids)) k->df φ H k:=by
   rintro k ⟨id,g1,g2⟩
   by_cases aC:id∈v.ids
   ·rw[f3 id aC]at g1
    refine⟨id, ?_,g2⟩
    revert g1
    cases H.o id<;>simp[ab.fz,ab.live]
   ·rw[f4 id aC]at g1;exact⟨id,g1,g2⟩
  have h4:V.den (ay M φ (H.put (dk H.o v.ids))) φ (H.put (dk H.o v.ids)) w v val:=
   V.qS (H:=H) (fun k h h'=>h (h'.imp id (hB1 k))) v val (fun id aC=>by
     have fS:H.us id:=(V.sw v val h3) id aC
     refine⟨?_,rfl,(f5 id).2 fS⟩
     by_cases hm:id∈v.ids
     ·rw[f3 id hm];exact qR.fz _
     ·rw[f4 id hm];exact qR.rfl' rfl) h3
  have h5:=gG f1 (o:=so) v y val (fun id aC=>f3 id aC) h1 h4
  refine D.aW (w:=w) (w':=w) (fun k _ hn=>⟨rfl,fun hk=>hn (hk.imp id ?_)⟩) y val h5
  rintro⟨id,g1,g2⟩
  obtain⟨j,k1,k2,k3⟩:=hold id k g1 g2
  refine⟨j, ?_,k2⟩
  have:j∉v.ids:=fun hm=>by
   obtain⟨k4,k5⟩:=h2 j hm
   rcases k3 with⟨k6,k7⟩|⟨i,g,ep,k6,k8,k9,k10⟩
   ·subst k7
    have:=yN _ k4 k6
    have g1:(o' j).live=true:=g1
    rw[this]at g1
    cases g1
   ·exact k5 g (List.mem_of_getElem? k8) ep k10
  rw[f4 j this];exact k1
 have G2:∀i g val,G[i]? =some g->V.den (ay M φ H) φ H w g.x val->V.den (ay M aN H') aN H' w (.osl (c+i) 0) val:=by
  intro i g val hg this
  obtain⟨HV,bn⟩:=hG i g hg
  have cM:c+i<c+G.length:=by have:=(List.getElem?_eq_some_iff.1 hg).1;omega
  rcases bn with⟨h3,_,_⟩|⟨j,ep,hj,h3,p7⟩
  ·rw[h3]at this
   simp only[V.den]at this
   rw[this]
   refine⟨rfl,cM,fun e' pZ=> ?_⟩
   have pZ:(o' (c+i)).cA=some e':=pZ
   rw[HV]at pZ
   simp only[ab.cA,Option.some.injEq]at pZ
   subst pZ
   exact⟨Nat.le_refl _,fun _=>by rw[MP i g hg,h3]⟩
  ·rw[h3]at this
   obtain⟨g1,g2,g3⟩:=this
   refine⟨g1,cM,fun e' pZ=> ?_⟩
   have pZ:(o' (c+i)).cA=some e':=pZ
   rw[HV]at pZ
   simp only[ab.cA,Option.some.injEq]at pZ
   subst pZ
   have w9:(H.o j).cA=some ep:=by show(so j).cA=_;rw[p7];rfl
   exact⟨Nat.le_refl _,fun _=>by rw[MP i g hg,h3];exact(g3 ep w9).2 rfl⟩
 have Vn:∀v v' val,MM c G so gone v v'->V.den (ay M φ H) φ H w v val->V.den (ay M aN H') aN H' w v' val:=by
  intro v v' val h h1
  rcases h with rfl|⟨rfl,h2⟩|⟨i,g,hg,rfl,rfl⟩|⟨y,rfl,h2,h3⟩
  ·trivial
  ·exact gu _ _ h2 h1
  ·exact G2 i g _ hg h1
  ·exact agO v y val h2 h3 h1
 refine⟨aN,⟨fun id=> ?_,fun id hu=>hh id (by have: ¬id<c+G.length:=hu;omega),fun i j k h1 h2 h3 h4=> ?_,fun k hk=>hH.ours k (c0 k hk),hH.Br⟩,fun i=> ?_,c0,by show b<=c+G.length;omega,fun id aC hr=> ?_,fun id e' aC pZ=> ?_⟩
 ·have bw:aX M φ H w id:=hH.ok id
  show aX M aN H' w id
  unfold aX at bw|-
  by_cases cM:id<c
  ·rcases ho id cM with h3|⟨h3,hrefs⟩|⟨cs,cs',h3,h4,cq⟩
   ·have e2:H'.o id= .no:=h3
    rw[e2];trivial
   ·have e1:H.o id=o' id:=h3
    have e2:H'.o id=o' id:=rfl
    rw[e1]at bw
    rw[e2,I3 id cM]
    cases J7:o' id with
    |no=>trivial
    |row cs=>
     simp only[J7]at bw hrefs|-
     exact Ss
    |arr ep ty sz es=>
     simp only[J7]at bw|-
     obtain⟨k1,xs,k2,evs,k3,k4,k5⟩:=bw
     exact abt
    |qg ep es=>
     simp only[J7]at bw|-
     exact O3
    |map kt vt es=>
     simp only[J7]at bw|-
     obtain⟨b,es',clock,k1,k2,k4,k3⟩:=bw
     exact abp
    |iV l=>
     simp only[J7]at bw|-
     exact O3
    |nh l last=>
     simp only[J7]at bw|-
     obtain⟨b,k1,k2⟩:=bw
     exact RL
    |zS s pos=>
     simp only[J7]at bw|-
     exact bw
    |loop nf n env ps a b st pd=>
     simp only[J7]at bw hrefs|-
     exact SQ
   ·have e1:H.o id= .row cs:=h3
    have e2:H'.o id= .row cs':=h4
    rw[e1]at bw
    rw[e2,I3 id cM]
    obtain⟨b,eE,ty,k1,k2,k3,k4⟩:=bw
    exact⟨b,eE,ty,k1,k2,qT Vn _ _ _ cq k3,k4⟩
  ·by_cases Bt:c+G.length<=id
   ·have e2:H'.o id= .no:=hh id Bt
    rw[e2];trivial
   ·obtain⟨i,rfl⟩:∃i,id=c+i:=⟨id - c,ah⟩
    obtain⟨g,hg⟩:∃g,G[i]? =some g:=⟨G[i]'ah,ao⟩
    obtain⟨HV,bn⟩:=hG i g hg
    have e2:H'.o (c+i)= .arr 0 g.ty g.sz g.es:=HV
    rw[e2]
    rcases bn with⟨h3,h4,eu⟩|⟨j,ep,hj,h3,p7⟩
    ·rw[h4]
     refine⟨eu,[], ?_,[],ao,ao,rfl⟩
     rw[MP i g hg,h3]
     exact World.ownsRow_nil _ _ _ _
    ·have this:aX M φ H w j:=hH.ok j
     unfold aX at this
     have e3:H.o j= .arr ep g.ty g.sz g.es:=p7
     simp only[e3]at this
     obtain⟨k1,xs,k2,evs,k3,k4,k5⟩:=this
     exact⟨k1,xs,by rw[MP i g hg,h3];exact k2,evs,k3,k4,D.aY (fun b _ hn=>⟨rfl,hB b hn⟩) _ _ k5⟩
 ·obtain⟨i',a1,a2,a3⟩:=hold i k h1 h3
  obtain⟨j',b1,b2,b3⟩:=hold j k h2 h4
  have:=hH.apart i' j' k a1 b1 a2 b2
  subst this
  have ik:∀Eg,(o' Eg).live=true->Eg<c->gone Eg->False:=fun Eg g1 g2 g3=>by
   rw[yN _ g3 g2]at g1
   cases g1
  rcases a3 with⟨a3,a4⟩|⟨ia,ga,ea,a3,a4,a5,a6⟩<;>rcases b3 with⟨b3,b4⟩|⟨ib,gb,eb,b3,b4,b5,b6⟩
  ·omega
  ·exact(ik i h1 a3 (a4 ▸ b5)).elim
  ·exact(ik j h2 b3 (b4 ▸ a5)).elim
  ·have:=WK ia ib ga gb _ _ _ a4 b4 a6 b6
   omega
 ·have hi:=G0 l 0 he i
  rw[Nat.zero_add]at hi
  exact Vn _ _ _ hi (hd i)
 ·have cM:id<c:=ah
  have hr:(o' id).cB=true:=hr
  exact⟨(LD id cM).1.1 hr,I3 id cM⟩
 ·have cM:id<c:=ah
  have pZ:(o' id).cA=some e':=pZ
  exact⟨e',(LD id cM).1.2 e' pZ,Nat.le_refl _,fun _=>I3 id cM⟩
theorem bJ.aeo (gone:Nat->Prop)(c:Nat){b:Nat}{e:Nat->V}{so:Nat->ab}{m:Nat}(l:List V){o':Nat->ab}(hb:b<=c)
 (ho:∀id,id<c->xm c [] so gone (so id) (o' id)) (hh:∀id,c<=id->o' id= .no) (yN:∀id,gone id->id<c->o' id= .no) (he:mW c [] so gone e l 0):bJ b ⟨e,so,m⟩ ⟨bp l,o',c⟩:=
 bJ.see gone [] c l rfl hb ho (fun i g h=>by cases h) hh yN (fun i j gi gj id ep jx h=>by cases h) he
theorem bJ.oP (gone:Nat->Prop)(x:V)(c:Nat){ty:TypeId}{sz:Nat}{es:List D}{b:Nat}{e:Nat->V}{so:Nat->ab}{m:Nat}(l:List V){o':Nat->ab}(hb:b<=c)
 (ho:∀id,id<c->xm c [⟨x,ty,sz,es⟩] so gone (so id) (o' id)) (hc:o' c= .arr 0 ty sz es) (hx:Fi so gone ty sz es x) (hh:∀id,c+1<=id->o' id= .no) (yN:∀id,gone id->id<c->o' id= .no)
 (he:mW c [⟨x,ty,sz,es⟩] so gone e l 0):bJ b ⟨e,so,m⟩ ⟨bp l,o',c+1⟩:=
 bJ.see gone [⟨x,ty,sz,es⟩] c l rfl hb ho (fun i g h=>by
  match i,h with
  |0,h=>simp at h;subst h;exact⟨hc,hx⟩) hh yN (fun i j gi gj id ep jx h h' _ _=>by
  match i,j,h,h' with
  |0,0,_,_=>rfl) he
theorem lt1{P:Nat->Prop}(h:P 0):∀id,id<1->P id:=fun id aC=>by
 have e:id=0:=ah
 rw[e];exact h
theorem lt2{P:Nat->Prop}(h:P 0)(h1:P 1):∀id,id<2->P id:=fun id aC=>by
 rcases(by omega:id=0\/id=1)with rfl|rfl<;>assumption
theorem lt3{P:Nat->Prop}(h:P 0)(h1:P 1)(h2:P 2):∀id,id<3->P id:=fun id aC=>by
 rcases(by omega:id=0\/id=1\/id=2)with rfl|rfl|rfl<;>assumption
theorem lt0{P:Nat->Prop}:∀id,id<0->P id:=fun id aC=>ah
@[go_sem] theorem ahg (b:Bool):(b==false)= !b:=BK
@[go_sem] theorem ahh (b:Bool):(b==true)=b:=BK
@[go_sem] theorem aep (c:Bool) (v:V):V.Ay c (V.Ay c v)=V.Ay c v:=by cases c<;>rfl
@[go_sem] theorem aeq (c:Bool):(c&&c)=c:=by cases c<;>rfl
@[go_sem] theorem aaN {α:Type} (f:α->D) (l:List α) (n:Nat) (h:∀x,(f x).cells.length=n):((l.map f).all fun z=>z.cells.length==n)=true:=by
  simp[List.all_eq_true,h]
attribute [go_sem] implies_true
attribute [go_sem] Option.isSome_none Option.getD_some Option.getD_none
theorem structOf{P:Program}{t:TypeId}(h:(match P.underlying t with|some (.struct _)=>true|_=>false)=true):∃fs,P.underlying t=some (.struct fs):=by
 split at h
 ·exact⟨_,by assumption⟩
 ·cases h
theorem aZ{pr:List (List Nat)}{fp:List (List Nat×List Nat)}(h:fp.all (fun x=>x.2.isEmpty)=true):iU pr fp=true:=by
 have e:∀i,(fp.getD i ([],[])).2=[]:=fun i=>by
  rw[List.getD_eq_getElem?_getD]
  cases hi:fp[i]? with
  |none=>rfl
  |some x=>simpa using List.all_eq_true.1 h x (List.mem_of_getElem? hi)
 simp only[iU,List.all_eq_true,e,ng,List.all_nil,Bool.and_self,Bool.or_true,implies_true]
structure cQ (base:Nat) (h o:Nat->ab) (nx:Nat):Prop where
 bQ:Good o nx
 le:base<=nx
 eq:∀id,id<base->o id=h id
def StK(base:Nat)(h:Nat->ab)(v:V)(o:Nat->ab)(nx:Nat)(K:V->(Nat->ab)->Nat->Prop):Prop:=
 ∀o' nx',nx<=nx'->cQ base h o' nx'->(∀id,base<=id->id<nx->o' id=o id)->K v o' nx'
def fT(P:Program)(g:FuncId)(args:List V)(base:Nat)(h h2:Nat->ab)(v:V):Prop:=
 ∀o nx,cQ base h o nx->∀K X,StK base h2 v o nx K->cK P g args o nx K X
theorem cQ.aK {base:Nat}{h o:Nat->ab}{nx m i:Nat}{x:ab}(hI:cQ base h o nx)(hb:base<=i)(hi:i<m)(hm:nx<=m)(hx:x.refs.all (fun r=>decide (r<m))=true):cQ base h (YtonbelhklnmjnaaGreat.aK o i x) m:=
 ⟨(hI.bQ.mono hm).aK hi hx,Nat.le_trans hI.le hm,fun id aC=>by rw[ak _ _ _ _ (by omega)];exact hI.eq id aC⟩
theorem cQ.mono {base:Nat}{h o:Nat->ab}{nx m:Nat}(hI:cQ base h o nx)(hm:nx<=m):cQ base h o m:=⟨hI.bQ.mono hm,Nat.le_trans hI.le hm,hI.eq⟩
def ext(base:Nat)(h o:Nat->ab):Nat->ab:=fun id=>if id<base then h id else o id
theorem cQ.ext {base c:Nat}{h o:Nat->ab}{nx:Nat}(hI:cQ base h o nx)(hc:c<=nx)(hb:base<=c):cQ c (YtonbelhklnmjnaaGreat.ext base h o) o nx:=
 ⟨hI.bQ,hc,fun id _=>by unfold YtonbelhklnmjnaaGreat.ext;split<;>first|exact hI.eq id (by assumption)|rfl⟩
theorem fT.ext {P:Program}{g:FuncId}{args:List V}{base c:Nat}{h h2:Nat->ab}{v:V}(hS:fT P g args base h h2 v)(hb:base<=c)(o0:Nat->ab):fT P g args c (YtonbelhklnmjnaaGreat.ext base h o0) (YtonbelhklnmjnaaGreat.ext base h2 o0) v:=by
 intro o nx hI K X hK
 refine hS o nx ⟨hI.bQ,Nat.le_trans hb hI.le,fun id aC=>by rw[hI.eq id (by omega)];unfold YtonbelhklnmjnaaGreat.ext;rw[if_pos aC]⟩ K X fun o' nx' h1 h2 h3=>hK o' nx' h1 ⟨h2.bQ,Nat.le_trans hI.le h1,fun id aC=> ?_⟩ (fun id h4 h5=>h3 id ah h5)
 unfold YtonbelhklnmjnaaGreat.ext
 split
 ·exact h2.eq id (by assumption)
 ·rename_i hn
  rw[h3 id (by omega) (by have:=hI.le;omega),hI.eq id aC]
  unfold YtonbelhklnmjnaaGreat.ext;rw[if_neg hn]
theorem StK.ext {base c:Nat}{h o:Nat->ab}{v:V}{o1:Nat->ab}{nx Bu:Nat}{K:V->(Nat->ab)->Nat->Prop}(hK:StK base h v o nx K)(hb:base<=c)(hn:nx<=Bu)(hc:nx<=c)(ho:∀id,base<=id->id<nx->o1 id=o id):StK c (YtonbelhklnmjnaaGreat.ext base h o1) v o1 Bu K:=by
 intro o' nx' h1 h2 h3
 refine hK o' nx' ah ⟨h2.bQ,Nat.le_trans hb h2.le,fun id aC=> ?_⟩ fun id h4 h5=> ?_
 ·rw[h2.eq id (by omega)];unfold YtonbelhklnmjnaaGreat.ext;rw[if_pos aC]
 ·rw[h2.eq id (by omega), <- ho id h4 h5];unfold YtonbelhklnmjnaaGreat.ext;rw[if_neg (by omega)]
def aB{α σ:Type}(step:σ->α->σ×Bool)(s:σ):List α->σ×Bool
 |[]=>(s,true)
 |x::l=>if(step s x).2=true then aB step (step s x).1 l else((step s x).1,false)
theorem nT{P:Program}{id:Nat}{args:List V}{e:Nat->V}{o:Nat->ab}{nx:Nat}{K X:V->(Nat->ab)->Nat->Prop}(h:eh P id args o nx K X):yB P id K X ⟨e,o,nx⟩ args:=by unfold yB;exact h
theorem jt{α:Type}(f:Nat->α)(i:Nat)(x y:α):aK (aK f i x) i y=aK f i y:=by
 funext j;simp only[aK];split<;>rfl
attribute [go_sem] Int.cast_ofNat_Int
section
variable {P:Program}{n:Nat}{ps:List Nat}{x y:IC}{env:List V}{L:LoopState->Option jQ->ab}
def iF(P:Program)(n:Nat)(env:List V)(ps:List Nat)(x y:IC)(L:LoopState->Option jQ->ab):Prop:=∀st pd,L st pd= .loop P.funcs.size n env ps x y st pd
theorem Fj{bq:Nat}{gq:Operand}{Q:fX->S->Prop}{e:Nat->V}{o:Nat->ab}{nx:Nat}{f:FuncId}{cap:List V}(env:List V)(he:lZ e env 0)
 (h:∀L,iF P n env ps x y L->cK P f (.jW nx::cap) (aK o nx (L .ready none)) (nx+1)
  (fun _ o' nx'=>∃st pd,o' nx=L st pd/\st≠ .busy/\pG Q pd ⟨e,aK o' nx (L .exhausted pd),nx'⟩) (fun v o' nx'=>Q (.bP v) ⟨e,o',nx'⟩)):
 xj P n bq false gq ps x y Q ⟨e,o,nx⟩ (.func (.func f) [] cap):=by
 refine I2 env he ?_
 have:=h (fun st pd=> .loop P.funcs.size n env ps x y st pd) (fun _ _=>rfl)
 refine this.mono (fun v o' nx' hh=> ?_) (fun v o' nx' hh=>hh)
 obtain⟨st,pd,h1,h2,h3⟩:=hh
 exact⟨_,_,_,_,_,_,_,_,h1,h2,h3⟩
theorem vR(hL:iF P n env ps x y L)(bB:P.follows .mixedOrders=true){id:Nat}{args:List V}{o:Nat->ab}{nx:Nat}{K X:V->(Nat->ab)->Nat->Prop}{st:LoopState}{pd:Option jQ}
 (ho:o id=L st pd) (cM:id<nx) (E9:ps.all (fun t=>decide (t<n))=true) (hl:args.length=ps.length)
 (h:lj P n nx true x (nS P n nx id y K X) ⟨nG (bp env) ps args,o,nx⟩):eh P id args o nx K X:=
 eh.az bB (ho.trans (hL st pd)) cM E9 hl h
theorem nU(hL:iF P n env ps x y L){b id:Nat}{eS:IC}{K X:V->(Nat->ab)->Nat->Prop}{e:Nat->V}{o:Nat->ab}{nx:Nat}{pd:Option jQ}(h:o id=L .ready pd)
 (h2:lj P n b true eS (jL id K X) ⟨e,aK o id (L .busy pd),nx⟩):nS P n b id eS K X .normal ⟨e,o,nx⟩:=by
 refine AQ (h.trans (hL _ _)) ?_
 rw[<- hL];exact h2
theorem HX(hL:iF P n env ps x y L){id:Nat}{K X:V->(Nat->ab)->Nat->Prop}{e:Nat->V}{o:Nat->ab}{nx:Nat}{st:LoopState}{pd:Option jQ}(h:o id=L st pd)(k:K (.d (.bool true)) (aK o id (L .ready none)) nx):jL id K X .normal ⟨e,o,nx⟩:=
 ⟨_,_,_,_,_,_,_,_,h.trans (hL _ _),by rw[<- hL];exact k⟩
theorem En(hL:iF P n env ps x y L){id:Nat}{K X:V->(Nat->ab)->Nat->Prop}{e:Nat->V}{o:Nat->ab}{nx:Nat}{st:LoopState}{pd:Option jQ}(h:o id=L st pd)(k:K (.d (.bool false)) (aK o id (L .done (some .ret))) nx):jL id K X .ret ⟨e,o,nx⟩:=
 ⟨_,_,_,_,_,_,_,_,h.trans (hL _ _),by rw[<- hL];exact k⟩
theorem BC(hL:iF P n env ps x y L){id j:Nat}{K X:V->(Nat->ab)->Nat->Prop}{e:Nat->V}{o:Nat->ab}{nx:Nat}{st:LoopState}{pd:Option jQ}(h:o id=L st pd)(k:K (.d (.bool false)) (aK o id (L .done (some (.exit j)))) nx):jL id K X (.exit j) ⟨e,o,nx⟩:=
 ⟨_,_,_,_,_,_,_,_,h.trans (hL _ _),by rw[<- hL];exact k⟩
theorem iF.no (hL:iF P n env ps x y L)(st:LoopState)(pd:Option jQ):L st pd≠ .no:=by rw[hL];exact ab.noConfusion
theorem iF.refs (hL:iF P n env ps x y L)(st:LoopState)(pd:Option jQ):(L st pd).refs=V.aL env:=by rw[hL];rfl
end
theorem cK.gen {P:Program}{g:FuncId}{args:List V}{o:Nat->ab}{nx:Nat}{K X:V->(Nat->ab)->Nat->Prop}(h:∀O,O=o->cK P g args O nx K X):cK P g args o nx K X:=h o rfl
end
end Go.Proofs.YtonbelhklnmjnaaGreat
