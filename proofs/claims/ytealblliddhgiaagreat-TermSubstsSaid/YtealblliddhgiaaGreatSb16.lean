/-
  A PART OF THE PROOF. Conditions: none.
-/
import Derived.Test.YtealblliddhgiaaGreatSb15
set_option linter.unusedSimpArgs false
set_option linter.unusedVariables false
namespace Go.Proofs.YtealblliddhgiaaGreat
theorem mix : Tryz.prog.follows .mixedOrders = true := by kernel_rfl
def tabT : Tr FD :=
 (.n .no (.n .no (.n (.fn 78 c3 [.tmp 6]) (.n (.fn 116 c7 [.tmp 6]) (.n (.fn 22 c15 [.tmp 4]) (.n (.fn 31 c31 [.tmp 2]) (.n (.dfr 13 c63a c63 99 6 [.tmp 4, .tmp 5] [.cell 4 78, .cell 5 4] 11 5 5 c99) (.n (.fn 53 c127 [.tmp 8]) (.e fun _ => .no) (.e fun _ => .no)) (.e fun _ => .no)) (.n (.fn 33 c95 [.tmp 4]) (.e fun _ => .no) (.e fun _ => .no))) (.n (.fn 45 c47 [.tmp 2]) (.n (.fn 15 c79 [.tmp 6]) (.n (.fn 76 c143 []) (.e fun _ => .no) (.e fun _ => .no)) (.e fun _ => .no)) (.n (.fn 32 c111 [.tmp 6]) (.e fun _ => .no) (.e fun _ => .no)))) (.n (.fn 50 c23 [.tmp 6, .tmp 7]) (.n (.fn 10 c39 [.tmp 4]) (.n (.fn 9 c71 [.tmp 2]) (.n (.fn 32 c135 []) (.e fun _ => .no) (.e fun _ => .no)) (.e fun _ => .no)) (.n (.fn 16 c103 [.tmp 4]) (.e fun _ => .no) (.e fun _ => .no))) (.n (.fn 15 c55 [.tmp 6]) (.n (.fn 18 c87 [.tmp 4]) (.e fun _ => .no) (.e fun _ => .no)) (.n (.fn 14 c119 [.tmp 4]) (.e fun _ => .no) (.e fun _ => .no))))) (.n (.fn 20 c11 [.tmp 4]) (.n (.fn 13 c19 [.tmp 4]) (.n (.fn 31 c35 [.tmp 6, .tmp 7]) (.n (.fn 11 c67 [.tmp 4]) (.n (.fn 49 c131 []) (.e fun _ => .no) (.e fun _ => .no)) (.e fun _ => .no)) (.e fun _ => .no)) (.n (.fn 13 c51 [.tmp 4]) (.n (.fn 56 c83 [.tmp 4, .tmp 5]) (.n (.fn 36 c147 [.tmp 10]) (.e fun _ => .no) (.e fun _ => .no)) (.e fun _ => .no)) (.n (.fn 10 c115 [.tmp 4]) (.e fun _ => .no) (.e fun _ => .no)))) (.n (.fn 11 c27 [.tmp 4, .tmp 5]) (.n (.fn 7 c43 [.tmp 2]) (.n (.fn 24 c75 [.tmp 4]) (.n (.fn 168 c139 [.tmp 8, .tmp 9]) (.e fun _ => .no) (.e fun _ => .no)) (.e fun _ => .no)) (.n (.fn 45 c107 []) (.e fun _ => .no) (.e fun _ => .no))) (.n (.fn 25 c59 [.tmp 4]) (.n (.fn 102 c91 [.cell 4 28]) (.e fun _ => .no) (.e fun _ => .no)) (.n (.fn 14 c123 [.tmp 4]) (.e fun _ => .no) (.e fun _ => .no)))))) (.n (.fn 305 c5 [.tmp 8]) (.n (.fn 173 c9 [.tmp 8]) (.n (.fn 17 c17 [.tmp 2]) (.n (.fn 5 c33 [.cell 2 28]) (.n (.fn 5 c65 [.cell 2 28]) (.n (.fn 6 c129 [.tmp 2]) (.e fun _ => .no) (.e fun _ => .no)) (.e fun _ => .no)) (.n (.fn 115 c97 [.tmp 4]) (.e fun _ => .no) (.e fun _ => .no))) (.n (.fn 8 c49 [.cell 4 28]) (.n (.fn 4 c81 [.tmp 2]) (.n (.fn 33 c145 [.tmp 2]) (.e fun _ => .no) (.e fun _ => .no)) (.e fun _ => .no)) (.n (.fn 8 c113 []) (.e fun _ => .no) (.e fun _ => .no)))) (.n (.fn 20 c25 [.tmp 6]) (.n (.fn 43 c41 [.cell 4 4, .cell 5 33]) (.n (.fn 5 c73 [.cell 2 28]) (.n (.fn 17 c137 [.tmp 4]) (.e fun _ => .no) (.e fun _ => .no)) (.e fun _ => .no)) (.n (.fn 38 c105 [.tmp 6]) (.e fun _ => .no) (.e fun _ => .no))) (.n (.fn 69 c57 [.cell 4 28]) (.n (.fn 18 c89 [.tmp 4]) (.e fun _ => .no) (.e fun _ => .no)) (.n (.fn 27 c121 [.tmp 4]) (.e fun _ => .no) (.e fun _ => .no))))) (.n (.fn 210 c13 [.tmp 0]) (.n (.fn 46 c21 [.tmp 4]) (.n (.fn 22 c37 [.tmp 4]) (.n (.fn 81 c69 [.tmp 6, .tmp 7]) (.n (.fn 65 c133 []) (.e fun _ => .no) (.e fun _ => .no)) (.e fun _ => .no)) (.n (.fn 30 c101 [.tmp 4]) (.e fun _ => .no) (.e fun _ => .no))) (.n (.fn 54 c53 [.cell 4 28]) (.n (.fn 26 c85 [.tmp 2]) (.e fun _ => .no) (.e fun _ => .no)) (.n (.fn 20 c117 []) (.e fun _ => .no) (.e fun _ => .no)))) (.n (.fn 11 c29 [.tmp 4, .tmp 5]) (.n (.fn 26 c45 [.tmp 4]) (.n (.fn 24 c77 [.tmp 3]) (.n (.fn 25 c141 [.tmp 2]) (.e fun _ => .no) (.e fun _ => .no)) (.e fun _ => .no)) (.n (.fn 8 c109 [.tmp 2]) (.e fun _ => .no) (.e fun _ => .no))) (.n (.fn 73 c61 [.tmp 6]) (.n (.fn 28 c93 [.tmp 4]) (.e fun _ => .no) (.e fun _ => .no)) (.n (.fn 5 c125 [.cell 2 28]) (.e fun _ => .no) (.e fun _ => .no))))))) (.n .no (.n (.fn 167 c4 [.tmp 6]) (.n (.fn 231 c8 [.tmp 6]) (.n (.fn 50 c16 [.tmp 4]) (.n (.fn 27 c32 [.tmp 4, .tmp 5]) (.n (.fn 66 c64 [.cell 8 28, .tmp 9]) (.n (.fn 4 c128 [.cell 2 28]) (.e fun _ => .no) (.e fun _ => .no)) (.e fun _ => .no)) (.n (.fn 10 c96 [.tmp 2]) (.e fun _ => .no) (.e fun _ => .no))) (.n (.fn 12 c48 [.cell 0 24]) (.n (.fn 18 c80 [.tmp 4]) (.n (.fn 7 c144 [.tmp 2]) (.e fun _ => .no) (.e fun _ => .no)) (.e fun _ => .no)) (.n (.fn 26 c112 [.tmp 4, .tmp 5]) (.e fun _ => .no) (.e fun _ => .no)))) (.n (.fn 17 c24 [.tmp 6, .tmp 7]) (.n (.fn 32 c40 [.tmp 4, .tmp 5, .tmp 6]) (.n (.fn 11 c72 []) (.n (.fn 133 c136 [.tmp 6]) (.e fun _ => .no) (.e fun _ => .no)) (.e fun _ => .no)) (.n (.fn 38 c104 [.tmp 6]) (.e fun _ => .no) (.e fun _ => .no))) (.n (.fn 20 c56 [.tmp 4]) (.n (.fn 7 c88 [.tmp 3]) (.e fun _ => .no) (.e fun _ => .no)) (.n (.fn 27 c120 [.tmp 4]) (.e fun _ => .no) (.e fun _ => .no))))) (.n (.fn 24 c12 [.tmp 2]) (.n (.fn 6 c20 [.tmp 2]) (.n (.fn 15 c36 [.cell 2 28, .tmp 3]) (.n (.fn 21 c68 [.tmp 2]) (.n (.fn 56 c132 []) (.e fun _ => .no) (.e fun _ => .no)) (.e fun _ => .no)) (.n (.fn 109 c100 []) (.e fun _ => .no) (.e fun _ => .no))) (.n (.fn 14 c52 [.tmp 4]) (.n (.fn 42 c84 [.tmp 4, .tmp 5]) (.n (.fn 28 c148 [.tmp 8, .tmp 9]) (.e fun _ => .no) (.e fun _ => .no)) (.e fun _ => .no)) (.n (.fn 35 c116 [.tmp 2]) (.e fun _ => .no) (.e fun _ => .no)))) (.n (.fn 42 c28 [.tmp 4]) (.n (.fn 15 c44 [.tmp 2]) (.n (.fn 118 c76 [.cell 4 28, .cell 5 98]) (.n (.fn 19 c140 [.tmp 2]) (.e fun _ => .no) (.e fun _ => .no)) (.e fun _ => .no)) (.n (.fn 134 c108 []) (.e fun _ => .no) (.e fun _ => .no))) (.n (.fn 12 c60 [.tmp 4]) (.n (.fn 19 c92 [.cell 0 120]) (.e fun _ => .no) (.e fun _ => .no)) (.n (.fn 14 c124 [.tmp 4]) (.e fun _ => .no) (.e fun _ => .no)))))) (.n (.fn 128 c6 [.tmp 8]) (.n (.fn 138 c10 [.tmp 4]) (.n (.fn 49 c18 [.cell 4 28]) (.n (.fn 23 c34 [.cell 4 28, .tmp 5]) (.n (.fn 49 c66 [.tmp 4]) (.n (.fn 11 c130 [.tmp 2]) (.e fun _ => .no) (.e fun _ => .no)) (.e fun _ => .no)) (.n (.fn 11 c98 [.tmp 2]) (.e fun _ => .no) (.e fun _ => .no))) (.n (.fn 11 c50 [.cell 6 28]) (.n (.fn 16 c82 [.cell 2 4]) (.n (.fn 15 c146 [.tmp 6]) (.e fun _ => .no) (.e fun _ => .no)) (.e fun _ => .no)) (.n (.fn 17 c114 [.tmp 6]) (.e fun _ => .no) (.e fun _ => .no)))) (.n (.fn 69 c26 [.tmp 4]) (.n (.fn 48 c42 [.tmp 2]) (.n (.fn 19 c74 [.cell 2 28, .tmp 3]) (.n (.fn 84 c138 [.tmp 8]) (.e fun _ => .no) (.e fun _ => .no)) (.e fun _ => .no)) (.n (.fn 18 c106 [.tmp 4]) (.e fun _ => .no) (.e fun _ => .no))) (.n (.fn 37 c58 [.tmp 6]) (.n (.fn 24 c90 [.tmp 4]) (.e fun _ => .no) (.e fun _ => .no)) (.n (.fn 27 c122 [.tmp 4]) (.e fun _ => .no) (.e fun _ => .no))))) (.n (.fn 46 c14 [.cell 6 28, .tmp 7]) (.n (.fn 23 c22 [.tmp 6, .tmp 7]) (.n (.fn 46 c38 [.tmp 2]) (.n (.fn 117 c70 [.tmp 6, .tmp 7]) (.n (.fn 57 c134 [.tmp 6, .tmp 7]) (.e fun _ => .no) (.e fun _ => .no)) (.e fun _ => .no)) (.n (.fn 20 c102 [.tmp 4]) (.e fun _ => .no) (.e fun _ => .no))) (.n (.fn 39 c54 [.cell 4 4]) (.n (.fn 44 c86 [.tmp 4]) (.e fun _ => .no) (.e fun _ => .no)) (.n (.fn 14 c118 [.tmp 4]) (.e fun _ => .no) (.e fun _ => .no)))) (.n (.fn 20 c30 [.tmp 4]) (.n (.fn 55 c46 [.tmp 2]) (.n (.fn 28 c78 [.tmp 2]) (.n (.fn 15 c142 [.tmp 2]) (.e fun _ => .no) (.e fun _ => .no)) (.e fun _ => .no)) (.n (.fn 116 c110 [.cell 4 28]) (.e fun _ => .no) (.e fun _ => .no))) (.n (.fn 27 c62 [.tmp 2]) (.n (.fn 34 c94 [.tmp 6]) (.e fun _ => .no) (.e fun _ => .no)) (.n (.fn 6 c126 []) (.e fun _ => .no) (.e fun _ => .no))))))))
noncomputable def tab : Nat -> FD := tabT.get
theorem tab_ok : ∀ g, (tab g).Ok Tryz.prog g :=
 Tr.all_get (p := fun g d => d.Ok Tryz.prog g) (f := fun g => g) tabT
  ⟨trivial, ⟨trivial, ⟨fn3, ⟨fn7, ⟨fn15, ⟨fn31, ⟨⟨def63, rec99⟩, ⟨fn127, (fun _ => trivial), (fun _ => trivial)⟩, (fun _ => trivial)⟩, ⟨fn95, (fun _ => trivial), (fun _ => trivial)⟩⟩, ⟨fn47, ⟨fn79, ⟨fn143, (fun _ => trivial), (fun _ => trivial)⟩, (fun _ => trivial)⟩, ⟨fn111, (fun _ => trivial), (fun _ => trivial)⟩⟩⟩, ⟨fn23, ⟨fn39, ⟨fn71, ⟨fn135, (fun _ => trivial), (fun _ => trivial)⟩, (fun _ => trivial)⟩, ⟨fn103, (fun _ => trivial), (fun _ => trivial)⟩⟩, ⟨fn55, ⟨fn87, (fun _ => trivial), (fun _ => trivial)⟩, ⟨fn119, (fun _ => trivial), (fun _ => trivial)⟩⟩⟩⟩, ⟨fn11, ⟨fn19, ⟨fn35, ⟨fn67, ⟨fn131, (fun _ => trivial), (fun _ => trivial)⟩, (fun _ => trivial)⟩, (fun _ => trivial)⟩, ⟨fn51, ⟨fn83, ⟨fn147, (fun _ => trivial), (fun _ => trivial)⟩, (fun _ => trivial)⟩, ⟨fn115, (fun _ => trivial), (fun _ => trivial)⟩⟩⟩, ⟨fn27, ⟨fn43, ⟨fn75, ⟨fn139, (fun _ => trivial), (fun _ => trivial)⟩, (fun _ => trivial)⟩, ⟨fn107, (fun _ => trivial), (fun _ => trivial)⟩⟩, ⟨fn59, ⟨fn91, (fun _ => trivial), (fun _ => trivial)⟩, ⟨fn123, (fun _ => trivial), (fun _ => trivial)⟩⟩⟩⟩⟩, ⟨fn5, ⟨fn9, ⟨fn17, ⟨fn33, ⟨fn65, ⟨fn129, (fun _ => trivial), (fun _ => trivial)⟩, (fun _ => trivial)⟩, ⟨fn97, (fun _ => trivial), (fun _ => trivial)⟩⟩, ⟨fn49, ⟨fn81, ⟨fn145, (fun _ => trivial), (fun _ => trivial)⟩, (fun _ => trivial)⟩, ⟨fn113, (fun _ => trivial), (fun _ => trivial)⟩⟩⟩, ⟨fn25, ⟨fn41, ⟨fn73, ⟨fn137, (fun _ => trivial), (fun _ => trivial)⟩, (fun _ => trivial)⟩, ⟨fn105, (fun _ => trivial), (fun _ => trivial)⟩⟩, ⟨fn57, ⟨fn89, (fun _ => trivial), (fun _ => trivial)⟩, ⟨fn121, (fun _ => trivial), (fun _ => trivial)⟩⟩⟩⟩, ⟨fn13, ⟨fn21, ⟨fn37, ⟨fn69, ⟨fn133, (fun _ => trivial), (fun _ => trivial)⟩, (fun _ => trivial)⟩, ⟨fn101, (fun _ => trivial), (fun _ => trivial)⟩⟩, ⟨fn53, ⟨fn85, (fun _ => trivial), (fun _ => trivial)⟩, ⟨fn117, (fun _ => trivial), (fun _ => trivial)⟩⟩⟩, ⟨fn29, ⟨fn45, ⟨fn77, ⟨fn141, (fun _ => trivial), (fun _ => trivial)⟩, (fun _ => trivial)⟩, ⟨fn109, (fun _ => trivial), (fun _ => trivial)⟩⟩, ⟨fn61, ⟨fn93, (fun _ => trivial), (fun _ => trivial)⟩, ⟨fn125, (fun _ => trivial), (fun _ => trivial)⟩⟩⟩⟩⟩⟩, ⟨trivial, ⟨fn4, ⟨fn8, ⟨fn16, ⟨fn32, ⟨fn64, ⟨fn128, (fun _ => trivial), (fun _ => trivial)⟩, (fun _ => trivial)⟩, ⟨fn96, (fun _ => trivial), (fun _ => trivial)⟩⟩, ⟨fn48, ⟨fn80, ⟨fn144, (fun _ => trivial), (fun _ => trivial)⟩, (fun _ => trivial)⟩, ⟨fn112, (fun _ => trivial), (fun _ => trivial)⟩⟩⟩, ⟨fn24, ⟨fn40, ⟨fn72, ⟨fn136, (fun _ => trivial), (fun _ => trivial)⟩, (fun _ => trivial)⟩, ⟨fn104, (fun _ => trivial), (fun _ => trivial)⟩⟩, ⟨fn56, ⟨fn88, (fun _ => trivial), (fun _ => trivial)⟩, ⟨fn120, (fun _ => trivial), (fun _ => trivial)⟩⟩⟩⟩, ⟨fn12, ⟨fn20, ⟨fn36, ⟨fn68, ⟨fn132, (fun _ => trivial), (fun _ => trivial)⟩, (fun _ => trivial)⟩, ⟨fn100, (fun _ => trivial), (fun _ => trivial)⟩⟩, ⟨fn52, ⟨fn84, ⟨fn148, (fun _ => trivial), (fun _ => trivial)⟩, (fun _ => trivial)⟩, ⟨fn116, (fun _ => trivial), (fun _ => trivial)⟩⟩⟩, ⟨fn28, ⟨fn44, ⟨fn76, ⟨fn140, (fun _ => trivial), (fun _ => trivial)⟩, (fun _ => trivial)⟩, ⟨fn108, (fun _ => trivial), (fun _ => trivial)⟩⟩, ⟨fn60, ⟨fn92, (fun _ => trivial), (fun _ => trivial)⟩, ⟨fn124, (fun _ => trivial), (fun _ => trivial)⟩⟩⟩⟩⟩, ⟨fn6, ⟨fn10, ⟨fn18, ⟨fn34, ⟨fn66, ⟨fn130, (fun _ => trivial), (fun _ => trivial)⟩, (fun _ => trivial)⟩, ⟨fn98, (fun _ => trivial), (fun _ => trivial)⟩⟩, ⟨fn50, ⟨fn82, ⟨fn146, (fun _ => trivial), (fun _ => trivial)⟩, (fun _ => trivial)⟩, ⟨fn114, (fun _ => trivial), (fun _ => trivial)⟩⟩⟩, ⟨fn26, ⟨fn42, ⟨fn74, ⟨fn138, (fun _ => trivial), (fun _ => trivial)⟩, (fun _ => trivial)⟩, ⟨fn106, (fun _ => trivial), (fun _ => trivial)⟩⟩, ⟨fn58, ⟨fn90, (fun _ => trivial), (fun _ => trivial)⟩, ⟨fn122, (fun _ => trivial), (fun _ => trivial)⟩⟩⟩⟩, ⟨fn14, ⟨fn22, ⟨fn38, ⟨fn70, ⟨fn134, (fun _ => trivial), (fun _ => trivial)⟩, (fun _ => trivial)⟩, ⟨fn102, (fun _ => trivial), (fun _ => trivial)⟩⟩, ⟨fn54, ⟨fn86, (fun _ => trivial), (fun _ => trivial)⟩, ⟨fn118, (fun _ => trivial), (fun _ => trivial)⟩⟩⟩, ⟨fn30, ⟨fn46, ⟨fn78, ⟨fn142, (fun _ => trivial), (fun _ => trivial)⟩, (fun _ => trivial)⟩, ⟨fn110, (fun _ => trivial), (fun _ => trivial)⟩⟩, ⟨fn62, ⟨fn94, (fun _ => trivial), (fun _ => trivial)⟩, ⟨fn126, (fun _ => trivial), (fun _ => trivial)⟩⟩⟩⟩⟩⟩⟩
end Go.Proofs.YtealblliddhgiaaGreat
namespace Go.Proofs.YtealblliddhgiaaGreat
@[go_sem] theorem cellsOf_3 : Tryz.prog.cellsOf 3 = 1 := by kernel_rfl
@[go_sem] theorem bytesOf_3 : Tryz.prog.bytesOf 3 = 8 := by kernel_rfl
@[go_sem] theorem sliceT_3 : sliceT Tryz.prog 3 = none := by kernel_rfl
@[go_sem] theorem arrT_3 : arrT Tryz.prog 3 = none := by kernel_rfl
@[go_sem] theorem aggT_3 : aggT Tryz.prog 3 = some false := by kernel_rfl
@[go_sem] theorem intT_3 : intT Tryz.prog 3 = some .i64 := by kernel_rfl
@[go_sem] theorem isBoolT_3 : isBoolT Tryz.prog 3 = false := by kernel_rfl
@[go_sem] theorem infoT_3 : (Tryz.prog.info? 3).isSome = true := by kernel_rfl
@[go_sem] theorem plainIface_3 : plainIface Tryz.prog 3 = true := by kernel_rfl
@[go_sem] theorem undT_3 : Tryz.prog.underlying 3 = some (.int .i64) := by kernel_rfl
@[go_sem] theorem eqShape_3 : eqShape Tryz.prog 3 = some .int := by kernel_rfl
@[go_sem] theorem zeroT_3 : zeroT Tryz.prog 3 = some [.d (.int .i64 0)] := by kernel_rfl
@[go_sem] theorem zeroV_3 : zeroV Tryz.prog 3 = some (.d (.int .i64 0)) := by kernel_rfl
@[go_sem] theorem zeroD_3 : zeroD Tryz.prog 3 = some (.int .i64 0) := by kernel_rfl
@[go_sem] theorem cellsOf_4 : Tryz.prog.cellsOf 4 = 1 := by kernel_rfl
@[go_sem] theorem bytesOf_4 : Tryz.prog.bytesOf 4 = 1 := by kernel_rfl
@[go_sem] theorem sliceT_4 : sliceT Tryz.prog 4 = none := by kernel_rfl
@[go_sem] theorem arrT_4 : arrT Tryz.prog 4 = none := by kernel_rfl
@[go_sem] theorem aggT_4 : aggT Tryz.prog 4 = some false := by kernel_rfl
@[go_sem] theorem intT_4 : intT Tryz.prog 4 = none := by kernel_rfl
@[go_sem] theorem isBoolT_4 : isBoolT Tryz.prog 4 = true := by kernel_rfl
@[go_sem] theorem infoT_4 : (Tryz.prog.info? 4).isSome = true := by kernel_rfl
@[go_sem] theorem plainIface_4 : plainIface Tryz.prog 4 = true := by kernel_rfl
@[go_sem] theorem undT_4 : Tryz.prog.underlying 4 = some .bool := by kernel_rfl
@[go_sem] theorem eqShape_4 : eqShape Tryz.prog 4 = some .bool := by kernel_rfl
@[go_sem] theorem zeroT_4 : zeroT Tryz.prog 4 = some [.d (.bool false)] := by kernel_rfl
@[go_sem] theorem zeroV_4 : zeroV Tryz.prog 4 = some (.d (.bool false)) := by kernel_rfl
@[go_sem] theorem zeroD_4 : zeroD Tryz.prog 4 = some (.bool false) := by kernel_rfl
@[go_sem] theorem cellsOf_5 : Tryz.prog.cellsOf 5 = 1 := by kernel_rfl
@[go_sem] theorem bytesOf_5 : Tryz.prog.bytesOf 5 = 1 := by kernel_rfl
@[go_sem] theorem sliceT_5 : sliceT Tryz.prog 5 = none := by kernel_rfl
@[go_sem] theorem arrT_5 : arrT Tryz.prog 5 = none := by kernel_rfl
@[go_sem] theorem aggT_5 : aggT Tryz.prog 5 = some false := by kernel_rfl
@[go_sem] theorem intT_5 : intT Tryz.prog 5 = some .u8 := by kernel_rfl
@[go_sem] theorem isBoolT_5 : isBoolT Tryz.prog 5 = false := by kernel_rfl
@[go_sem] theorem infoT_5 : (Tryz.prog.info? 5).isSome = true := by kernel_rfl
@[go_sem] theorem plainIface_5 : plainIface Tryz.prog 5 = true := by kernel_rfl
@[go_sem] theorem undT_5 : Tryz.prog.underlying 5 = some (.int .u8) := by kernel_rfl
@[go_sem] theorem eqShape_5 : eqShape Tryz.prog 5 = some .int := by kernel_rfl
@[go_sem] theorem zeroT_5 : zeroT Tryz.prog 5 = some [.d (.int .u8 0)] := by kernel_rfl
@[go_sem] theorem zeroV_5 : zeroV Tryz.prog 5 = some (.d (.int .u8 0)) := by kernel_rfl
@[go_sem] theorem zeroD_5 : zeroD Tryz.prog 5 = some (.int .u8 0) := by kernel_rfl
@[go_sem] theorem cellsOf_9 : Tryz.prog.cellsOf 9 = 1 := by kernel_rfl
@[go_sem] theorem bytesOf_9 : Tryz.prog.bytesOf 9 = 16 := by kernel_rfl
@[go_sem] theorem sliceT_9 : sliceT Tryz.prog 9 = none := by kernel_rfl
@[go_sem] theorem arrT_9 : arrT Tryz.prog 9 = none := by kernel_rfl
@[go_sem] theorem aggT_9 : aggT Tryz.prog 9 = some false := by kernel_rfl
@[go_sem] theorem intT_9 : intT Tryz.prog 9 = none := by kernel_rfl
@[go_sem] theorem isBoolT_9 : isBoolT Tryz.prog 9 = false := by kernel_rfl
@[go_sem] theorem infoT_9 : (Tryz.prog.info? 9).isSome = true := by kernel_rfl
@[go_sem] theorem plainIface_9 : plainIface Tryz.prog 9 = true := by kernel_rfl
@[go_sem] theorem undT_9 : Tryz.prog.underlying 9 = some .string := by kernel_rfl
@[go_sem] theorem eqShape_9 : eqShape Tryz.prog 9 = some .str := by kernel_rfl
@[go_sem] theorem zeroT_9 : zeroT Tryz.prog 9 = some [.d (.str [])] := by kernel_rfl
@[go_sem] theorem zeroV_9 : zeroV Tryz.prog 9 = some (.d (.str [])) := by kernel_rfl
@[go_sem] theorem zeroD_9 : zeroD Tryz.prog 9 = some (.str []) := by kernel_rfl
@[go_sem] theorem cellsOf_20 : Tryz.prog.cellsOf 20 = 1 := by kernel_rfl
@[go_sem] theorem bytesOf_20 : Tryz.prog.bytesOf 20 = 16 := by kernel_rfl
@[go_sem] theorem sliceT_20 : sliceT Tryz.prog 20 = none := by kernel_rfl
@[go_sem] theorem arrT_20 : arrT Tryz.prog 20 = none := by kernel_rfl
@[go_sem] theorem aggT_20 : aggT Tryz.prog 20 = some false := by kernel_rfl
@[go_sem] theorem intT_20 : intT Tryz.prog 20 = none := by kernel_rfl
@[go_sem] theorem isBoolT_20 : isBoolT Tryz.prog 20 = false := by kernel_rfl
@[go_sem] theorem infoT_20 : (Tryz.prog.info? 20).isSome = true := by kernel_rfl
@[go_sem] theorem plainIface_20 : plainIface Tryz.prog 20 = false := by kernel_rfl
@[go_sem] theorem zeroT_20 : zeroT Tryz.prog 20 = some [.d .nili] := by kernel_rfl
@[go_sem] theorem zeroV_20 : zeroV Tryz.prog 20 = some (.d .nili) := by kernel_rfl
@[go_sem] theorem zeroD_20 : zeroD Tryz.prog 20 = some .nili := by kernel_rfl
@[go_sem] theorem cellsOf_21 : Tryz.prog.cellsOf 21 = 1 := by kernel_rfl
@[go_sem] theorem bytesOf_21 : Tryz.prog.bytesOf 21 = 4 := by kernel_rfl
@[go_sem] theorem sliceT_21 : sliceT Tryz.prog 21 = none := by kernel_rfl
@[go_sem] theorem arrT_21 : arrT Tryz.prog 21 = none := by kernel_rfl
@[go_sem] theorem aggT_21 : aggT Tryz.prog 21 = some false := by kernel_rfl
@[go_sem] theorem intT_21 : intT Tryz.prog 21 = some .i32 := by kernel_rfl
@[go_sem] theorem isBoolT_21 : isBoolT Tryz.prog 21 = false := by kernel_rfl
@[go_sem] theorem infoT_21 : (Tryz.prog.info? 21).isSome = true := by kernel_rfl
@[go_sem] theorem plainIface_21 : plainIface Tryz.prog 21 = true := by kernel_rfl
@[go_sem] theorem undT_21 : Tryz.prog.underlying 21 = some (.int .i32) := by kernel_rfl
@[go_sem] theorem eqShape_21 : eqShape Tryz.prog 21 = some .int := by kernel_rfl
@[go_sem] theorem zeroT_21 : zeroT Tryz.prog 21 = some [.d (.int .i32 0)] := by kernel_rfl
@[go_sem] theorem zeroV_21 : zeroV Tryz.prog 21 = some (.d (.int .i32 0)) := by kernel_rfl
@[go_sem] theorem zeroD_21 : zeroD Tryz.prog 21 = some (.int .i32 0) := by kernel_rfl
@[go_sem] theorem cellsOf_22 : Tryz.prog.cellsOf 22 = 1 := by kernel_rfl
@[go_sem] theorem bytesOf_22 : Tryz.prog.bytesOf 22 = 24 := by kernel_rfl
@[go_sem] theorem sliceT_22 : sliceT Tryz.prog 22 = some 103 := by kernel_rfl
@[go_sem] theorem arrT_22 : arrT Tryz.prog 22 = none := by kernel_rfl
@[go_sem] theorem aggT_22 : aggT Tryz.prog 22 = some false := by kernel_rfl
@[go_sem] theorem intT_22 : intT Tryz.prog 22 = none := by kernel_rfl
@[go_sem] theorem isBoolT_22 : isBoolT Tryz.prog 22 = false := by kernel_rfl
@[go_sem] theorem infoT_22 : (Tryz.prog.info? 22).isSome = true := by kernel_rfl
@[go_sem] theorem plainIface_22 : plainIface Tryz.prog 22 = true := by kernel_rfl
@[go_sem] theorem undT_22 : Tryz.prog.underlying 22 = some (.slice 103) := by kernel_rfl
@[go_sem] theorem zeroT_22 : zeroT Tryz.prog 22 = some [.nils] := by kernel_rfl
@[go_sem] theorem zeroV_22 : zeroV Tryz.prog 22 = some (.nils) := by kernel_rfl
@[go_sem] theorem zeroD_22 : zeroD Tryz.prog 22 = some (.sl []) := by kernel_rfl
@[go_sem] theorem cellsOf_24 : Tryz.prog.cellsOf 24 = 2 := by kernel_rfl
@[go_sem] theorem bytesOf_24 : Tryz.prog.bytesOf 24 = 48 := by kernel_rfl
@[go_sem] theorem sliceT_24 : sliceT Tryz.prog 24 = none := by kernel_rfl
@[go_sem] theorem arrT_24 : arrT Tryz.prog 24 = none := by kernel_rfl
@[go_sem] theorem aggT_24 : aggT Tryz.prog 24 = some true := by kernel_rfl
@[go_sem] theorem intT_24 : intT Tryz.prog 24 = none := by kernel_rfl
@[go_sem] theorem isBoolT_24 : isBoolT Tryz.prog 24 = false := by kernel_rfl
@[go_sem] theorem infoT_24 : (Tryz.prog.info? 24).isSome = true := by kernel_rfl
@[go_sem] theorem plainIface_24 : plainIface Tryz.prog 24 = true := by kernel_rfl
@[go_sem] theorem zeroT_24 : zeroT Tryz.prog 24 = some [.nils, .nils] := by kernel_rfl
@[go_sem] theorem zeroV_24 : zeroV Tryz.prog 24 = some (mkAgg [.nils, .nils]) := by kernel_rfl
@[go_sem] theorem zeroD_24 : zeroD Tryz.prog 24 = some (.agg [(.sl []), (.sl [])]) := by kernel_rfl
@[go_sem] theorem placesT_24 : placesT Tryz.prog 24 = some [(0, 1), (1, 1)] := by kernel_rfl
@[go_sem] theorem cellsOf_25 : Tryz.prog.cellsOf 25 = 1 := by kernel_rfl
@[go_sem] theorem bytesOf_25 : Tryz.prog.bytesOf 25 = 8 := by kernel_rfl
@[go_sem] theorem sliceT_25 : sliceT Tryz.prog 25 = none := by kernel_rfl
@[go_sem] theorem arrT_25 : arrT Tryz.prog 25 = none := by kernel_rfl
@[go_sem] theorem aggT_25 : aggT Tryz.prog 25 = some false := by kernel_rfl
@[go_sem] theorem intT_25 : intT Tryz.prog 25 = some .i64 := by kernel_rfl
@[go_sem] theorem isBoolT_25 : isBoolT Tryz.prog 25 = false := by kernel_rfl
@[go_sem] theorem infoT_25 : (Tryz.prog.info? 25).isSome = true := by kernel_rfl
@[go_sem] theorem plainIface_25 : plainIface Tryz.prog 25 = true := by kernel_rfl
@[go_sem] theorem undT_25 : Tryz.prog.underlying 25 = some (.int .i64) := by kernel_rfl
@[go_sem] theorem eqShape_25 : eqShape Tryz.prog 25 = some .int := by kernel_rfl
@[go_sem] theorem zeroT_25 : zeroT Tryz.prog 25 = some [.d (.int .i64 0)] := by kernel_rfl
@[go_sem] theorem zeroV_25 : zeroV Tryz.prog 25 = some (.d (.int .i64 0)) := by kernel_rfl
@[go_sem] theorem zeroD_25 : zeroD Tryz.prog 25 = some (.int .i64 0) := by kernel_rfl
@[go_sem] theorem cellsOf_26 : Tryz.prog.cellsOf 26 = 1 := by kernel_rfl
@[go_sem] theorem bytesOf_26 : Tryz.prog.bytesOf 26 = 24 := by kernel_rfl
@[go_sem] theorem sliceT_26 : sliceT Tryz.prog 26 = some 28 := by kernel_rfl
@[go_sem] theorem arrT_26 : arrT Tryz.prog 26 = none := by kernel_rfl
@[go_sem] theorem aggT_26 : aggT Tryz.prog 26 = some false := by kernel_rfl
@[go_sem] theorem intT_26 : intT Tryz.prog 26 = none := by kernel_rfl
@[go_sem] theorem isBoolT_26 : isBoolT Tryz.prog 26 = false := by kernel_rfl
@[go_sem] theorem infoT_26 : (Tryz.prog.info? 26).isSome = true := by kernel_rfl
@[go_sem] theorem plainIface_26 : plainIface Tryz.prog 26 = true := by kernel_rfl
@[go_sem] theorem undT_26 : Tryz.prog.underlying 26 = some (.slice 28) := by kernel_rfl
@[go_sem] theorem zeroT_26 : zeroT Tryz.prog 26 = some [.nils] := by kernel_rfl
@[go_sem] theorem zeroV_26 : zeroV Tryz.prog 26 = some (.nils) := by kernel_rfl
@[go_sem] theorem zeroD_26 : zeroD Tryz.prog 26 = some (.sl []) := by kernel_rfl
@[go_sem] theorem cellsOf_28 : Tryz.prog.cellsOf 28 = 3 := by kernel_rfl
@[go_sem] theorem bytesOf_28 : Tryz.prog.bytesOf 28 = 40 := by kernel_rfl
@[go_sem] theorem sliceT_28 : sliceT Tryz.prog 28 = none := by kernel_rfl
@[go_sem] theorem arrT_28 : arrT Tryz.prog 28 = none := by kernel_rfl
@[go_sem] theorem aggT_28 : aggT Tryz.prog 28 = some true := by kernel_rfl
@[go_sem] theorem intT_28 : intT Tryz.prog 28 = none := by kernel_rfl
@[go_sem] theorem isBoolT_28 : isBoolT Tryz.prog 28 = false := by kernel_rfl
@[go_sem] theorem infoT_28 : (Tryz.prog.info? 28).isSome = true := by kernel_rfl
@[go_sem] theorem plainIface_28 : plainIface Tryz.prog 28 = true := by kernel_rfl
@[go_sem] theorem zeroT_28 : zeroT Tryz.prog 28 = some [.d (.int .i64 0), .d (.int .i64 0), .nils] := by kernel_rfl
@[go_sem] theorem zeroV_28 : zeroV Tryz.prog 28 = some (mkAgg [.d (.int .i64 0), .d (.int .i64 0), .nils]) := by kernel_rfl
@[go_sem] theorem zeroD_28 : zeroD Tryz.prog 28 = some (.agg [(.int .i64 0), (.int .i64 0), (.sl [])]) := by kernel_rfl
@[go_sem] theorem placesT_28 : placesT Tryz.prog 28 = some [(0, 1), (1, 1), (2, 1)] := by kernel_rfl
@[go_sem] theorem cellsOf_29 : Tryz.prog.cellsOf 29 = 1 := by kernel_rfl
@[go_sem] theorem bytesOf_29 : Tryz.prog.bytesOf 29 = 24 := by kernel_rfl
@[go_sem] theorem sliceT_29 : sliceT Tryz.prog 29 = some 52 := by kernel_rfl
@[go_sem] theorem arrT_29 : arrT Tryz.prog 29 = none := by kernel_rfl
@[go_sem] theorem aggT_29 : aggT Tryz.prog 29 = some false := by kernel_rfl
@[go_sem] theorem intT_29 : intT Tryz.prog 29 = none := by kernel_rfl
@[go_sem] theorem isBoolT_29 : isBoolT Tryz.prog 29 = false := by kernel_rfl
@[go_sem] theorem infoT_29 : (Tryz.prog.info? 29).isSome = true := by kernel_rfl
@[go_sem] theorem plainIface_29 : plainIface Tryz.prog 29 = true := by kernel_rfl
@[go_sem] theorem undT_29 : Tryz.prog.underlying 29 = some (.slice 52) := by kernel_rfl
@[go_sem] theorem zeroT_29 : zeroT Tryz.prog 29 = some [.nils] := by kernel_rfl
@[go_sem] theorem zeroV_29 : zeroV Tryz.prog 29 = some (.nils) := by kernel_rfl
@[go_sem] theorem zeroD_29 : zeroD Tryz.prog 29 = some (.sl []) := by kernel_rfl
@[go_sem] theorem cellsOf_33 : Tryz.prog.cellsOf 33 = 1 := by kernel_rfl
@[go_sem] theorem bytesOf_33 : Tryz.prog.bytesOf 33 = 8 := by kernel_rfl
@[go_sem] theorem sliceT_33 : sliceT Tryz.prog 33 = none := by kernel_rfl
@[go_sem] theorem arrT_33 : arrT Tryz.prog 33 = none := by kernel_rfl
@[go_sem] theorem aggT_33 : aggT Tryz.prog 33 = some false := by kernel_rfl
@[go_sem] theorem intT_33 : intT Tryz.prog 33 = some .i64 := by kernel_rfl
@[go_sem] theorem isBoolT_33 : isBoolT Tryz.prog 33 = false := by kernel_rfl
@[go_sem] theorem infoT_33 : (Tryz.prog.info? 33).isSome = true := by kernel_rfl
@[go_sem] theorem plainIface_33 : plainIface Tryz.prog 33 = true := by kernel_rfl
@[go_sem] theorem undT_33 : Tryz.prog.underlying 33 = some (.int .i64) := by kernel_rfl
@[go_sem] theorem eqShape_33 : eqShape Tryz.prog 33 = some .int := by kernel_rfl
@[go_sem] theorem zeroT_33 : zeroT Tryz.prog 33 = some [.d (.int .i64 0)] := by kernel_rfl
@[go_sem] theorem zeroV_33 : zeroV Tryz.prog 33 = some (.d (.int .i64 0)) := by kernel_rfl
@[go_sem] theorem zeroD_33 : zeroD Tryz.prog 33 = some (.int .i64 0) := by kernel_rfl
@[go_sem] theorem cellsOf_37 : Tryz.prog.cellsOf 37 = 1 := by kernel_rfl
@[go_sem] theorem bytesOf_37 : Tryz.prog.bytesOf 37 = 8 := by kernel_rfl
@[go_sem] theorem sliceT_37 : sliceT Tryz.prog 37 = none := by kernel_rfl
@[go_sem] theorem arrT_37 : arrT Tryz.prog 37 = none := by kernel_rfl
@[go_sem] theorem aggT_37 : aggT Tryz.prog 37 = some false := by kernel_rfl
@[go_sem] theorem intT_37 : intT Tryz.prog 37 = none := by kernel_rfl
@[go_sem] theorem isBoolT_37 : isBoolT Tryz.prog 37 = false := by kernel_rfl
@[go_sem] theorem infoT_37 : (Tryz.prog.info? 37).isSome = true := by kernel_rfl
@[go_sem] theorem plainIface_37 : plainIface Tryz.prog 37 = true := by kernel_rfl
@[go_sem] theorem zeroT_37 : zeroT Tryz.prog 37 = some [.d .nilf] := by kernel_rfl
@[go_sem] theorem zeroV_37 : zeroV Tryz.prog 37 = some (.d .nilf) := by kernel_rfl
@[go_sem] theorem zeroD_37 : zeroD Tryz.prog 37 = some .nilf := by kernel_rfl
@[go_sem] theorem cellsOf_40 : Tryz.prog.cellsOf 40 = 1 := by kernel_rfl
@[go_sem] theorem bytesOf_40 : Tryz.prog.bytesOf 40 = 8 := by kernel_rfl
@[go_sem] theorem sliceT_40 : sliceT Tryz.prog 40 = none := by kernel_rfl
@[go_sem] theorem arrT_40 : arrT Tryz.prog 40 = none := by kernel_rfl
@[go_sem] theorem aggT_40 : aggT Tryz.prog 40 = some false := by kernel_rfl
@[go_sem] theorem intT_40 : intT Tryz.prog 40 = none := by kernel_rfl
@[go_sem] theorem isBoolT_40 : isBoolT Tryz.prog 40 = false := by kernel_rfl
@[go_sem] theorem infoT_40 : (Tryz.prog.info? 40).isSome = true := by kernel_rfl
@[go_sem] theorem plainIface_40 : plainIface Tryz.prog 40 = true := by kernel_rfl
@[go_sem] theorem zeroT_40 : zeroT Tryz.prog 40 = some [.d .nilf] := by kernel_rfl
@[go_sem] theorem zeroV_40 : zeroV Tryz.prog 40 = some (.d .nilf) := by kernel_rfl
@[go_sem] theorem zeroD_40 : zeroD Tryz.prog 40 = some .nilf := by kernel_rfl
@[go_sem] theorem cellsOf_52 : Tryz.prog.cellsOf 52 = 4 := by kernel_rfl
@[go_sem] theorem bytesOf_52 : Tryz.prog.bytesOf 52 = 48 := by kernel_rfl
@[go_sem] theorem sliceT_52 : sliceT Tryz.prog 52 = none := by kernel_rfl
@[go_sem] theorem arrT_52 : arrT Tryz.prog 52 = none := by kernel_rfl
@[go_sem] theorem aggT_52 : aggT Tryz.prog 52 = some true := by kernel_rfl
@[go_sem] theorem intT_52 : intT Tryz.prog 52 = none := by kernel_rfl
@[go_sem] theorem isBoolT_52 : isBoolT Tryz.prog 52 = false := by kernel_rfl
@[go_sem] theorem infoT_52 : (Tryz.prog.info? 52).isSome = true := by kernel_rfl
@[go_sem] theorem plainIface_52 : plainIface Tryz.prog 52 = true := by kernel_rfl
@[go_sem] theorem zeroT_52 : zeroT Tryz.prog 52 = some [.d (.int .i64 0), .d (.int .i64 0), .d (.int .i64 0), .nils] := by kernel_rfl
@[go_sem] theorem zeroV_52 : zeroV Tryz.prog 52 = some (mkAgg [.d (.int .i64 0), .d (.int .i64 0), .d (.int .i64 0), .nils]) := by kernel_rfl
@[go_sem] theorem zeroD_52 : zeroD Tryz.prog 52 = some (.agg [(.int .i64 0), (.int .i64 0), (.int .i64 0), (.sl [])]) := by kernel_rfl
@[go_sem] theorem placesT_52 : placesT Tryz.prog 52 = some [(0, 1), (1, 3)] := by kernel_rfl
@[go_sem] theorem cellsOf_53 : Tryz.prog.cellsOf 53 = 1 := by kernel_rfl
@[go_sem] theorem bytesOf_53 : Tryz.prog.bytesOf 53 = 24 := by kernel_rfl
@[go_sem] theorem sliceT_53 : sliceT Tryz.prog 53 = some 3 := by kernel_rfl
@[go_sem] theorem arrT_53 : arrT Tryz.prog 53 = none := by kernel_rfl
@[go_sem] theorem aggT_53 : aggT Tryz.prog 53 = some false := by kernel_rfl
@[go_sem] theorem intT_53 : intT Tryz.prog 53 = none := by kernel_rfl
@[go_sem] theorem isBoolT_53 : isBoolT Tryz.prog 53 = false := by kernel_rfl
@[go_sem] theorem infoT_53 : (Tryz.prog.info? 53).isSome = true := by kernel_rfl
@[go_sem] theorem plainIface_53 : plainIface Tryz.prog 53 = true := by kernel_rfl
@[go_sem] theorem undT_53 : Tryz.prog.underlying 53 = some (.slice 3) := by kernel_rfl
@[go_sem] theorem zeroT_53 : zeroT Tryz.prog 53 = some [.nils] := by kernel_rfl
@[go_sem] theorem zeroV_53 : zeroV Tryz.prog 53 = some (.nils) := by kernel_rfl
@[go_sem] theorem zeroD_53 : zeroD Tryz.prog 53 = some (.sl []) := by kernel_rfl
@[go_sem] theorem cellsOf_64 : Tryz.prog.cellsOf 64 = 1 := by kernel_rfl
@[go_sem] theorem bytesOf_64 : Tryz.prog.bytesOf 64 = 24 := by kernel_rfl
@[go_sem] theorem sliceT_64 : sliceT Tryz.prog 64 = some 4 := by kernel_rfl
@[go_sem] theorem arrT_64 : arrT Tryz.prog 64 = none := by kernel_rfl
@[go_sem] theorem aggT_64 : aggT Tryz.prog 64 = some false := by kernel_rfl
@[go_sem] theorem intT_64 : intT Tryz.prog 64 = none := by kernel_rfl
@[go_sem] theorem isBoolT_64 : isBoolT Tryz.prog 64 = false := by kernel_rfl
@[go_sem] theorem infoT_64 : (Tryz.prog.info? 64).isSome = true := by kernel_rfl
@[go_sem] theorem plainIface_64 : plainIface Tryz.prog 64 = true := by kernel_rfl
@[go_sem] theorem undT_64 : Tryz.prog.underlying 64 = some (.slice 4) := by kernel_rfl
@[go_sem] theorem zeroT_64 : zeroT Tryz.prog 64 = some [.nils] := by kernel_rfl
@[go_sem] theorem zeroV_64 : zeroV Tryz.prog 64 = some (.nils) := by kernel_rfl
@[go_sem] theorem zeroD_64 : zeroD Tryz.prog 64 = some (.sl []) := by kernel_rfl
@[go_sem] theorem cellsOf_78 : Tryz.prog.cellsOf 78 = 1 := by kernel_rfl
@[go_sem] theorem bytesOf_78 : Tryz.prog.bytesOf 78 = 8 := by kernel_rfl
@[go_sem] theorem sliceT_78 : sliceT Tryz.prog 78 = none := by kernel_rfl
@[go_sem] theorem arrT_78 : arrT Tryz.prog 78 = none := by kernel_rfl
@[go_sem] theorem aggT_78 : aggT Tryz.prog 78 = some false := by kernel_rfl
@[go_sem] theorem intT_78 : intT Tryz.prog 78 = none := by kernel_rfl
@[go_sem] theorem isBoolT_78 : isBoolT Tryz.prog 78 = false := by kernel_rfl
@[go_sem] theorem infoT_78 : (Tryz.prog.info? 78).isSome = true := by kernel_rfl
@[go_sem] theorem plainIface_78 : plainIface Tryz.prog 78 = true := by kernel_rfl
@[go_sem] theorem undT_78 : Tryz.prog.underlying 78 = some (.map 3 28) := by kernel_rfl
@[go_sem] theorem mapT_78 : mapT Tryz.prog 78 = some (3, 28) := by kernel_rfl
@[go_sem] theorem zeroT_78 : zeroT Tryz.prog 78 = some [.d .nilm] := by kernel_rfl
@[go_sem] theorem zeroV_78 : zeroV Tryz.prog 78 = some (.d .nilm) := by kernel_rfl
@[go_sem] theorem zeroD_78 : zeroD Tryz.prog 78 = some .nilm := by kernel_rfl
@[go_sem] theorem cellsOf_88 : Tryz.prog.cellsOf 88 = 1 := by kernel_rfl
@[go_sem] theorem bytesOf_88 : Tryz.prog.bytesOf 88 = 8 := by kernel_rfl
@[go_sem] theorem sliceT_88 : sliceT Tryz.prog 88 = none := by kernel_rfl
@[go_sem] theorem arrT_88 : arrT Tryz.prog 88 = none := by kernel_rfl
@[go_sem] theorem aggT_88 : aggT Tryz.prog 88 = some false := by kernel_rfl
@[go_sem] theorem intT_88 : intT Tryz.prog 88 = none := by kernel_rfl
@[go_sem] theorem isBoolT_88 : isBoolT Tryz.prog 88 = false := by kernel_rfl
@[go_sem] theorem infoT_88 : (Tryz.prog.info? 88).isSome = true := by kernel_rfl
@[go_sem] theorem plainIface_88 : plainIface Tryz.prog 88 = true := by kernel_rfl
@[go_sem] theorem zeroT_88 : zeroT Tryz.prog 88 = some [.d .nilp] := by kernel_rfl
@[go_sem] theorem zeroV_88 : zeroV Tryz.prog 88 = some (.d .nilp) := by kernel_rfl
@[go_sem] theorem zeroD_88 : zeroD Tryz.prog 88 = some .nilp := by kernel_rfl
@[go_sem] theorem cellsOf_92 : Tryz.prog.cellsOf 92 = 1 := by kernel_rfl
@[go_sem] theorem bytesOf_92 : Tryz.prog.bytesOf 92 = 8 := by kernel_rfl
@[go_sem] theorem sliceT_92 : sliceT Tryz.prog 92 = none := by kernel_rfl
@[go_sem] theorem arrT_92 : arrT Tryz.prog 92 = none := by kernel_rfl
@[go_sem] theorem aggT_92 : aggT Tryz.prog 92 = some false := by kernel_rfl
@[go_sem] theorem intT_92 : intT Tryz.prog 92 = none := by kernel_rfl
@[go_sem] theorem isBoolT_92 : isBoolT Tryz.prog 92 = false := by kernel_rfl
@[go_sem] theorem infoT_92 : (Tryz.prog.info? 92).isSome = true := by kernel_rfl
@[go_sem] theorem plainIface_92 : plainIface Tryz.prog 92 = true := by kernel_rfl
@[go_sem] theorem undT_92 : Tryz.prog.underlying 92 = some (.map 3 4) := by kernel_rfl
@[go_sem] theorem mapT_92 : mapT Tryz.prog 92 = some (3, 4) := by kernel_rfl
@[go_sem] theorem zeroT_92 : zeroT Tryz.prog 92 = some [.d .nilm] := by kernel_rfl
@[go_sem] theorem zeroV_92 : zeroV Tryz.prog 92 = some (.d .nilm) := by kernel_rfl
@[go_sem] theorem zeroD_92 : zeroD Tryz.prog 92 = some .nilm := by kernel_rfl
@[go_sem] theorem cellsOf_93 : Tryz.prog.cellsOf 93 = 1 := by kernel_rfl
@[go_sem] theorem bytesOf_93 : Tryz.prog.bytesOf 93 = 8 := by kernel_rfl
@[go_sem] theorem sliceT_93 : sliceT Tryz.prog 93 = none := by kernel_rfl
@[go_sem] theorem arrT_93 : arrT Tryz.prog 93 = none := by kernel_rfl
@[go_sem] theorem aggT_93 : aggT Tryz.prog 93 = some false := by kernel_rfl
@[go_sem] theorem intT_93 : intT Tryz.prog 93 = none := by kernel_rfl
@[go_sem] theorem isBoolT_93 : isBoolT Tryz.prog 93 = false := by kernel_rfl
@[go_sem] theorem infoT_93 : (Tryz.prog.info? 93).isSome = true := by kernel_rfl
@[go_sem] theorem plainIface_93 : plainIface Tryz.prog 93 = true := by kernel_rfl
@[go_sem] theorem undT_93 : Tryz.prog.underlying 93 = some (.map 3 4) := by kernel_rfl
@[go_sem] theorem mapT_93 : mapT Tryz.prog 93 = some (3, 4) := by kernel_rfl
@[go_sem] theorem zeroT_93 : zeroT Tryz.prog 93 = some [.d .nilm] := by kernel_rfl
@[go_sem] theorem zeroV_93 : zeroV Tryz.prog 93 = some (.d .nilm) := by kernel_rfl
@[go_sem] theorem zeroD_93 : zeroD Tryz.prog 93 = some .nilm := by kernel_rfl
@[go_sem] theorem cellsOf_96 : Tryz.prog.cellsOf 96 = 1 := by kernel_rfl
@[go_sem] theorem bytesOf_96 : Tryz.prog.bytesOf 96 = 24 := by kernel_rfl
@[go_sem] theorem sliceT_96 : sliceT Tryz.prog 96 = some 153 := by kernel_rfl
@[go_sem] theorem arrT_96 : arrT Tryz.prog 96 = none := by kernel_rfl
@[go_sem] theorem aggT_96 : aggT Tryz.prog 96 = some false := by kernel_rfl
@[go_sem] theorem intT_96 : intT Tryz.prog 96 = none := by kernel_rfl
@[go_sem] theorem isBoolT_96 : isBoolT Tryz.prog 96 = false := by kernel_rfl
@[go_sem] theorem infoT_96 : (Tryz.prog.info? 96).isSome = true := by kernel_rfl
@[go_sem] theorem plainIface_96 : plainIface Tryz.prog 96 = true := by kernel_rfl
@[go_sem] theorem undT_96 : Tryz.prog.underlying 96 = some (.slice 153) := by kernel_rfl
@[go_sem] theorem zeroT_96 : zeroT Tryz.prog 96 = some [.nils] := by kernel_rfl
@[go_sem] theorem zeroV_96 : zeroV Tryz.prog 96 = some (.nils) := by kernel_rfl
@[go_sem] theorem zeroD_96 : zeroD Tryz.prog 96 = some (.sl []) := by kernel_rfl
@[go_sem] theorem cellsOf_98 : Tryz.prog.cellsOf 98 = 3 := by kernel_rfl
@[go_sem] theorem bytesOf_98 : Tryz.prog.bytesOf 98 = 56 := by kernel_rfl
@[go_sem] theorem sliceT_98 : sliceT Tryz.prog 98 = none := by kernel_rfl
@[go_sem] theorem arrT_98 : arrT Tryz.prog 98 = none := by kernel_rfl
@[go_sem] theorem aggT_98 : aggT Tryz.prog 98 = some true := by kernel_rfl
@[go_sem] theorem intT_98 : intT Tryz.prog 98 = none := by kernel_rfl
@[go_sem] theorem isBoolT_98 : isBoolT Tryz.prog 98 = false := by kernel_rfl
@[go_sem] theorem infoT_98 : (Tryz.prog.info? 98).isSome = true := by kernel_rfl
@[go_sem] theorem plainIface_98 : plainIface Tryz.prog 98 = true := by kernel_rfl
@[go_sem] theorem zeroT_98 : zeroT Tryz.prog 98 = some [.nils, .nils, .d (.int .i64 0)] := by kernel_rfl
@[go_sem] theorem zeroV_98 : zeroV Tryz.prog 98 = some (mkAgg [.nils, .nils, .d (.int .i64 0)]) := by kernel_rfl
@[go_sem] theorem zeroD_98 : zeroD Tryz.prog 98 = some (.agg [(.sl []), (.sl []), (.int .i64 0)]) := by kernel_rfl
@[go_sem] theorem placesT_98 : placesT Tryz.prog 98 = some [(0, 1), (1, 1), (2, 1)] := by kernel_rfl
@[go_sem] theorem cellsOf_101 : Tryz.prog.cellsOf 101 = 1 := by kernel_rfl
@[go_sem] theorem bytesOf_101 : Tryz.prog.bytesOf 101 = 8 := by kernel_rfl
@[go_sem] theorem sliceT_101 : sliceT Tryz.prog 101 = none := by kernel_rfl
@[go_sem] theorem arrT_101 : arrT Tryz.prog 101 = none := by kernel_rfl
@[go_sem] theorem aggT_101 : aggT Tryz.prog 101 = some false := by kernel_rfl
@[go_sem] theorem intT_101 : intT Tryz.prog 101 = none := by kernel_rfl
@[go_sem] theorem isBoolT_101 : isBoolT Tryz.prog 101 = false := by kernel_rfl
@[go_sem] theorem infoT_101 : (Tryz.prog.info? 101).isSome = true := by kernel_rfl
@[go_sem] theorem plainIface_101 : plainIface Tryz.prog 101 = true := by kernel_rfl
@[go_sem] theorem undT_101 : Tryz.prog.underlying 101 = some (.map 9 4) := by kernel_rfl
@[go_sem] theorem mapT_101 : mapT Tryz.prog 101 = some (9, 4) := by kernel_rfl
@[go_sem] theorem zeroT_101 : zeroT Tryz.prog 101 = some [.d .nilm] := by kernel_rfl
@[go_sem] theorem zeroV_101 : zeroV Tryz.prog 101 = some (.d .nilm) := by kernel_rfl
@[go_sem] theorem zeroD_101 : zeroD Tryz.prog 101 = some .nilm := by kernel_rfl
@[go_sem] theorem cellsOf_103 : Tryz.prog.cellsOf 103 = 2 := by kernel_rfl
@[go_sem] theorem bytesOf_103 : Tryz.prog.bytesOf 103 = 24 := by kernel_rfl
@[go_sem] theorem sliceT_103 : sliceT Tryz.prog 103 = none := by kernel_rfl
@[go_sem] theorem arrT_103 : arrT Tryz.prog 103 = none := by kernel_rfl
@[go_sem] theorem aggT_103 : aggT Tryz.prog 103 = some true := by kernel_rfl
@[go_sem] theorem intT_103 : intT Tryz.prog 103 = none := by kernel_rfl
@[go_sem] theorem isBoolT_103 : isBoolT Tryz.prog 103 = false := by kernel_rfl
@[go_sem] theorem infoT_103 : (Tryz.prog.info? 103).isSome = true := by kernel_rfl
@[go_sem] theorem plainIface_103 : plainIface Tryz.prog 103 = true := by kernel_rfl
@[go_sem] theorem zeroT_103 : zeroT Tryz.prog 103 = some [.d (.str []), .d (.int .i64 0)] := by kernel_rfl
@[go_sem] theorem zeroV_103 : zeroV Tryz.prog 103 = some (mkAgg [.d (.str []), .d (.int .i64 0)]) := by kernel_rfl
@[go_sem] theorem zeroD_103 : zeroD Tryz.prog 103 = some (.agg [(.str []), (.int .i64 0)]) := by kernel_rfl
@[go_sem] theorem placesT_103 : placesT Tryz.prog 103 = some [(0, 1), (1, 1)] := by kernel_rfl
@[go_sem] theorem cellsOf_105 : Tryz.prog.cellsOf 105 = 1 := by kernel_rfl
@[go_sem] theorem bytesOf_105 : Tryz.prog.bytesOf 105 = 8 := by kernel_rfl
@[go_sem] theorem sliceT_105 : sliceT Tryz.prog 105 = none := by kernel_rfl
@[go_sem] theorem arrT_105 : arrT Tryz.prog 105 = none := by kernel_rfl
@[go_sem] theorem aggT_105 : aggT Tryz.prog 105 = some false := by kernel_rfl
@[go_sem] theorem intT_105 : intT Tryz.prog 105 = none := by kernel_rfl
@[go_sem] theorem isBoolT_105 : isBoolT Tryz.prog 105 = false := by kernel_rfl
@[go_sem] theorem infoT_105 : (Tryz.prog.info? 105).isSome = true := by kernel_rfl
@[go_sem] theorem plainIface_105 : plainIface Tryz.prog 105 = true := by kernel_rfl
@[go_sem] theorem zeroT_105 : zeroT Tryz.prog 105 = some [.d .nilf] := by kernel_rfl
@[go_sem] theorem zeroV_105 : zeroV Tryz.prog 105 = some (.d .nilf) := by kernel_rfl
@[go_sem] theorem zeroD_105 : zeroD Tryz.prog 105 = some .nilf := by kernel_rfl
@[go_sem] theorem cellsOf_110 : Tryz.prog.cellsOf 110 = 1 := by kernel_rfl
@[go_sem] theorem bytesOf_110 : Tryz.prog.bytesOf 110 = 24 := by kernel_rfl
@[go_sem] theorem sliceT_110 : sliceT Tryz.prog 110 = some 9 := by kernel_rfl
@[go_sem] theorem arrT_110 : arrT Tryz.prog 110 = none := by kernel_rfl
@[go_sem] theorem aggT_110 : aggT Tryz.prog 110 = some false := by kernel_rfl
@[go_sem] theorem intT_110 : intT Tryz.prog 110 = none := by kernel_rfl
@[go_sem] theorem isBoolT_110 : isBoolT Tryz.prog 110 = false := by kernel_rfl
@[go_sem] theorem infoT_110 : (Tryz.prog.info? 110).isSome = true := by kernel_rfl
@[go_sem] theorem plainIface_110 : plainIface Tryz.prog 110 = true := by kernel_rfl
@[go_sem] theorem undT_110 : Tryz.prog.underlying 110 = some (.slice 9) := by kernel_rfl
@[go_sem] theorem zeroT_110 : zeroT Tryz.prog 110 = some [.nils] := by kernel_rfl
@[go_sem] theorem zeroV_110 : zeroV Tryz.prog 110 = some (.nils) := by kernel_rfl
@[go_sem] theorem zeroD_110 : zeroD Tryz.prog 110 = some (.sl []) := by kernel_rfl
@[go_sem] theorem cellsOf_118 : Tryz.prog.cellsOf 118 = 1 := by kernel_rfl
@[go_sem] theorem bytesOf_118 : Tryz.prog.bytesOf 118 = 8 := by kernel_rfl
@[go_sem] theorem sliceT_118 : sliceT Tryz.prog 118 = none := by kernel_rfl
@[go_sem] theorem arrT_118 : arrT Tryz.prog 118 = none := by kernel_rfl
@[go_sem] theorem aggT_118 : aggT Tryz.prog 118 = some false := by kernel_rfl
@[go_sem] theorem intT_118 : intT Tryz.prog 118 = none := by kernel_rfl
@[go_sem] theorem isBoolT_118 : isBoolT Tryz.prog 118 = false := by kernel_rfl
@[go_sem] theorem infoT_118 : (Tryz.prog.info? 118).isSome = true := by kernel_rfl
@[go_sem] theorem plainIface_118 : plainIface Tryz.prog 118 = true := by kernel_rfl
@[go_sem] theorem zeroT_118 : zeroT Tryz.prog 118 = some [.d .nilf] := by kernel_rfl
@[go_sem] theorem zeroV_118 : zeroV Tryz.prog 118 = some (.d .nilf) := by kernel_rfl
@[go_sem] theorem zeroD_118 : zeroD Tryz.prog 118 = some .nilf := by kernel_rfl
@[go_sem] theorem cellsOf_119 : Tryz.prog.cellsOf 119 = 1 := by kernel_rfl
@[go_sem] theorem bytesOf_119 : Tryz.prog.bytesOf 119 = 8 := by kernel_rfl
@[go_sem] theorem sliceT_119 : sliceT Tryz.prog 119 = none := by kernel_rfl
@[go_sem] theorem arrT_119 : arrT Tryz.prog 119 = none := by kernel_rfl
@[go_sem] theorem aggT_119 : aggT Tryz.prog 119 = some false := by kernel_rfl
@[go_sem] theorem intT_119 : intT Tryz.prog 119 = none := by kernel_rfl
@[go_sem] theorem isBoolT_119 : isBoolT Tryz.prog 119 = false := by kernel_rfl
@[go_sem] theorem infoT_119 : (Tryz.prog.info? 119).isSome = true := by kernel_rfl
@[go_sem] theorem plainIface_119 : plainIface Tryz.prog 119 = true := by kernel_rfl
@[go_sem] theorem zeroT_119 : zeroT Tryz.prog 119 = some [.d .nilf] := by kernel_rfl
@[go_sem] theorem zeroV_119 : zeroV Tryz.prog 119 = some (.d .nilf) := by kernel_rfl
@[go_sem] theorem zeroD_119 : zeroD Tryz.prog 119 = some .nilf := by kernel_rfl
@[go_sem] theorem cellsOf_120 : Tryz.prog.cellsOf 120 = 16 := by kernel_rfl
@[go_sem] theorem bytesOf_120 : Tryz.prog.bytesOf 120 = 128 := by kernel_rfl
@[go_sem] theorem sliceT_120 : sliceT Tryz.prog 120 = none := by kernel_rfl
@[go_sem] theorem arrT_120 : arrT Tryz.prog 120 = some (16, 119) := by kernel_rfl
@[go_sem] theorem aggT_120 : aggT Tryz.prog 120 = some true := by kernel_rfl
@[go_sem] theorem intT_120 : intT Tryz.prog 120 = none := by kernel_rfl
@[go_sem] theorem isBoolT_120 : isBoolT Tryz.prog 120 = false := by kernel_rfl
@[go_sem] theorem infoT_120 : (Tryz.prog.info? 120).isSome = true := by kernel_rfl
@[go_sem] theorem plainIface_120 : plainIface Tryz.prog 120 = true := by kernel_rfl
@[go_sem] theorem undT_120 : Tryz.prog.underlying 120 = some (.array 16 119) := by kernel_rfl
@[go_sem] theorem zeroT_120 : zeroT Tryz.prog 120 = some [.d .nilf, .d .nilf, .d .nilf, .d .nilf, .d .nilf, .d .nilf, .d .nilf, .d .nilf, .d .nilf, .d .nilf, .d .nilf, .d .nilf, .d .nilf, .d .nilf, .d .nilf, .d .nilf] := by kernel_rfl
@[go_sem] theorem zeroV_120 : zeroV Tryz.prog 120 = some (mkAgg [.d .nilf, .d .nilf, .d .nilf, .d .nilf, .d .nilf, .d .nilf, .d .nilf, .d .nilf, .d .nilf, .d .nilf, .d .nilf, .d .nilf, .d .nilf, .d .nilf, .d .nilf, .d .nilf]) := by kernel_rfl
@[go_sem] theorem zeroD_120 : zeroD Tryz.prog 120 = some (.agg [.nilf, .nilf, .nilf, .nilf, .nilf, .nilf, .nilf, .nilf, .nilf, .nilf, .nilf, .nilf, .nilf, .nilf, .nilf, .nilf]) := by kernel_rfl
@[go_sem] theorem placesT_120 : placesT Tryz.prog 120 = some [(0, 1), (1, 1), (2, 1), (3, 1), (4, 1), (5, 1), (6, 1), (7, 1), (8, 1), (9, 1), (10, 1), (11, 1), (12, 1), (13, 1), (14, 1), (15, 1)] := by kernel_rfl
@[go_sem] theorem cellsOf_123 : Tryz.prog.cellsOf 123 = 2 := by kernel_rfl
@[go_sem] theorem bytesOf_123 : Tryz.prog.bytesOf 123 = 48 := by kernel_rfl
@[go_sem] theorem sliceT_123 : sliceT Tryz.prog 123 = none := by kernel_rfl
@[go_sem] theorem arrT_123 : arrT Tryz.prog 123 = none := by kernel_rfl
@[go_sem] theorem aggT_123 : aggT Tryz.prog 123 = some true := by kernel_rfl
@[go_sem] theorem intT_123 : intT Tryz.prog 123 = none := by kernel_rfl
@[go_sem] theorem isBoolT_123 : isBoolT Tryz.prog 123 = false := by kernel_rfl
@[go_sem] theorem infoT_123 : (Tryz.prog.info? 123).isSome = true := by kernel_rfl
@[go_sem] theorem plainIface_123 : plainIface Tryz.prog 123 = true := by kernel_rfl
@[go_sem] theorem zeroT_123 : zeroT Tryz.prog 123 = some [.nils, .nils] := by kernel_rfl
@[go_sem] theorem zeroV_123 : zeroV Tryz.prog 123 = some (mkAgg [.nils, .nils]) := by kernel_rfl
@[go_sem] theorem zeroD_123 : zeroD Tryz.prog 123 = some (.agg [(.sl []), (.sl [])]) := by kernel_rfl
@[go_sem] theorem placesT_123 : placesT Tryz.prog 123 = some [(0, 2)] := by kernel_rfl
@[go_sem] theorem cellsOf_131 : Tryz.prog.cellsOf 131 = 1 := by kernel_rfl
@[go_sem] theorem bytesOf_131 : Tryz.prog.bytesOf 131 = 8 := by kernel_rfl
@[go_sem] theorem sliceT_131 : sliceT Tryz.prog 131 = none := by kernel_rfl
@[go_sem] theorem arrT_131 : arrT Tryz.prog 131 = none := by kernel_rfl
@[go_sem] theorem aggT_131 : aggT Tryz.prog 131 = some false := by kernel_rfl
@[go_sem] theorem intT_131 : intT Tryz.prog 131 = some .i64 := by kernel_rfl
@[go_sem] theorem isBoolT_131 : isBoolT Tryz.prog 131 = false := by kernel_rfl
@[go_sem] theorem infoT_131 : (Tryz.prog.info? 131).isSome = true := by kernel_rfl
@[go_sem] theorem plainIface_131 : plainIface Tryz.prog 131 = true := by kernel_rfl
@[go_sem] theorem undT_131 : Tryz.prog.underlying 131 = some (.int .i64) := by kernel_rfl
@[go_sem] theorem eqShape_131 : eqShape Tryz.prog 131 = some .int := by kernel_rfl
@[go_sem] theorem zeroT_131 : zeroT Tryz.prog 131 = some [.d (.int .i64 0)] := by kernel_rfl
@[go_sem] theorem zeroV_131 : zeroV Tryz.prog 131 = some (.d (.int .i64 0)) := by kernel_rfl
@[go_sem] theorem zeroD_131 : zeroD Tryz.prog 131 = some (.int .i64 0) := by kernel_rfl
@[go_sem] theorem cellsOf_132 : Tryz.prog.cellsOf 132 = 3 := by kernel_rfl
@[go_sem] theorem bytesOf_132 : Tryz.prog.bytesOf 132 = 40 := by kernel_rfl
@[go_sem] theorem sliceT_132 : sliceT Tryz.prog 132 = none := by kernel_rfl
@[go_sem] theorem arrT_132 : arrT Tryz.prog 132 = none := by kernel_rfl
@[go_sem] theorem aggT_132 : aggT Tryz.prog 132 = some true := by kernel_rfl
@[go_sem] theorem intT_132 : intT Tryz.prog 132 = none := by kernel_rfl
@[go_sem] theorem isBoolT_132 : isBoolT Tryz.prog 132 = false := by kernel_rfl
@[go_sem] theorem infoT_132 : (Tryz.prog.info? 132).isSome = true := by kernel_rfl
@[go_sem] theorem plainIface_132 : plainIface Tryz.prog 132 = true := by kernel_rfl
@[go_sem] theorem zeroT_132 : zeroT Tryz.prog 132 = some [.d (.int .i64 0), .d (.int .i64 0), .nils] := by kernel_rfl
@[go_sem] theorem zeroV_132 : zeroV Tryz.prog 132 = some (mkAgg [.d (.int .i64 0), .d (.int .i64 0), .nils]) := by kernel_rfl
@[go_sem] theorem zeroD_132 : zeroD Tryz.prog 132 = some (.agg [(.int .i64 0), (.int .i64 0), (.sl [])]) := by kernel_rfl
@[go_sem] theorem cellsOf_134 : Tryz.prog.cellsOf 134 = 0 := by kernel_rfl
@[go_sem] theorem bytesOf_134 : Tryz.prog.bytesOf 134 = 0 := by kernel_rfl
@[go_sem] theorem sliceT_134 : sliceT Tryz.prog 134 = none := by kernel_rfl
@[go_sem] theorem arrT_134 : arrT Tryz.prog 134 = none := by kernel_rfl
@[go_sem] theorem aggT_134 : aggT Tryz.prog 134 = some true := by kernel_rfl
@[go_sem] theorem intT_134 : intT Tryz.prog 134 = none := by kernel_rfl
@[go_sem] theorem isBoolT_134 : isBoolT Tryz.prog 134 = false := by kernel_rfl
@[go_sem] theorem infoT_134 : (Tryz.prog.info? 134).isSome = true := by kernel_rfl
@[go_sem] theorem plainIface_134 : plainIface Tryz.prog 134 = true := by kernel_rfl
@[go_sem] theorem zeroT_134 : zeroT Tryz.prog 134 = some [] := by kernel_rfl
@[go_sem] theorem zeroV_134 : zeroV Tryz.prog 134 = some (mkAgg []) := by kernel_rfl
@[go_sem] theorem zeroD_134 : zeroD Tryz.prog 134 = some (.agg []) := by kernel_rfl
@[go_sem] theorem placesT_134 : placesT Tryz.prog 134 = some [] := by kernel_rfl
@[go_sem] theorem cellsOf_143 : Tryz.prog.cellsOf 143 = 1 := by kernel_rfl
@[go_sem] theorem bytesOf_143 : Tryz.prog.bytesOf 143 = 8 := by kernel_rfl
@[go_sem] theorem sliceT_143 : sliceT Tryz.prog 143 = none := by kernel_rfl
@[go_sem] theorem arrT_143 : arrT Tryz.prog 143 = none := by kernel_rfl
@[go_sem] theorem aggT_143 : aggT Tryz.prog 143 = some false := by kernel_rfl
@[go_sem] theorem intT_143 : intT Tryz.prog 143 = some .u64 := by kernel_rfl
@[go_sem] theorem isBoolT_143 : isBoolT Tryz.prog 143 = false := by kernel_rfl
@[go_sem] theorem infoT_143 : (Tryz.prog.info? 143).isSome = true := by kernel_rfl
@[go_sem] theorem plainIface_143 : plainIface Tryz.prog 143 = true := by kernel_rfl
@[go_sem] theorem undT_143 : Tryz.prog.underlying 143 = some (.int .u64) := by kernel_rfl
@[go_sem] theorem eqShape_143 : eqShape Tryz.prog 143 = some .int := by kernel_rfl
@[go_sem] theorem zeroT_143 : zeroT Tryz.prog 143 = some [.d (.int .u64 0)] := by kernel_rfl
@[go_sem] theorem zeroV_143 : zeroV Tryz.prog 143 = some (.d (.int .u64 0)) := by kernel_rfl
@[go_sem] theorem zeroD_143 : zeroD Tryz.prog 143 = some (.int .u64 0) := by kernel_rfl
@[go_sem] theorem cellsOf_144 : Tryz.prog.cellsOf 144 = 1 := by kernel_rfl
@[go_sem] theorem bytesOf_144 : Tryz.prog.bytesOf 144 = 8 := by kernel_rfl
@[go_sem] theorem sliceT_144 : sliceT Tryz.prog 144 = none := by kernel_rfl
@[go_sem] theorem arrT_144 : arrT Tryz.prog 144 = none := by kernel_rfl
@[go_sem] theorem aggT_144 : aggT Tryz.prog 144 = some false := by kernel_rfl
@[go_sem] theorem intT_144 : intT Tryz.prog 144 = none := by kernel_rfl
@[go_sem] theorem isBoolT_144 : isBoolT Tryz.prog 144 = false := by kernel_rfl
@[go_sem] theorem infoT_144 : (Tryz.prog.info? 144).isSome = true := by kernel_rfl
@[go_sem] theorem plainIface_144 : plainIface Tryz.prog 144 = true := by kernel_rfl
@[go_sem] theorem zeroT_144 : zeroT Tryz.prog 144 = some [.d .nilp] := by kernel_rfl
@[go_sem] theorem zeroV_144 : zeroV Tryz.prog 144 = some (.d .nilp) := by kernel_rfl
@[go_sem] theorem zeroD_144 : zeroD Tryz.prog 144 = some .nilp := by kernel_rfl
@[go_sem] theorem cellsOf_145 : Tryz.prog.cellsOf 145 = 1 := by kernel_rfl
@[go_sem] theorem bytesOf_145 : Tryz.prog.bytesOf 145 = 8 := by kernel_rfl
@[go_sem] theorem sliceT_145 : sliceT Tryz.prog 145 = none := by kernel_rfl
@[go_sem] theorem arrT_145 : arrT Tryz.prog 145 = none := by kernel_rfl
@[go_sem] theorem aggT_145 : aggT Tryz.prog 145 = some false := by kernel_rfl
@[go_sem] theorem intT_145 : intT Tryz.prog 145 = none := by kernel_rfl
@[go_sem] theorem isBoolT_145 : isBoolT Tryz.prog 145 = false := by kernel_rfl
@[go_sem] theorem infoT_145 : (Tryz.prog.info? 145).isSome = true := by kernel_rfl
@[go_sem] theorem plainIface_145 : plainIface Tryz.prog 145 = true := by kernel_rfl
@[go_sem] theorem undT_145 : Tryz.prog.underlying 145 = some (.map 3 3) := by kernel_rfl
@[go_sem] theorem mapT_145 : mapT Tryz.prog 145 = some (3, 3) := by kernel_rfl
@[go_sem] theorem zeroT_145 : zeroT Tryz.prog 145 = some [.d .nilm] := by kernel_rfl
@[go_sem] theorem zeroV_145 : zeroV Tryz.prog 145 = some (.d .nilm) := by kernel_rfl
@[go_sem] theorem zeroD_145 : zeroD Tryz.prog 145 = some .nilm := by kernel_rfl
@[go_sem] theorem cellsOf_147 : Tryz.prog.cellsOf 147 = 2 := by kernel_rfl
@[go_sem] theorem bytesOf_147 : Tryz.prog.bytesOf 147 = 16 := by kernel_rfl
@[go_sem] theorem sliceT_147 : sliceT Tryz.prog 147 = none := by kernel_rfl
@[go_sem] theorem arrT_147 : arrT Tryz.prog 147 = none := by kernel_rfl
@[go_sem] theorem aggT_147 : aggT Tryz.prog 147 = some true := by kernel_rfl
@[go_sem] theorem intT_147 : intT Tryz.prog 147 = none := by kernel_rfl
@[go_sem] theorem isBoolT_147 : isBoolT Tryz.prog 147 = false := by kernel_rfl
@[go_sem] theorem infoT_147 : (Tryz.prog.info? 147).isSome = true := by kernel_rfl
@[go_sem] theorem plainIface_147 : plainIface Tryz.prog 147 = true := by kernel_rfl
@[go_sem] theorem zeroT_147 : zeroT Tryz.prog 147 = some [.d (.int .i64 0), .d .nilm] := by kernel_rfl
@[go_sem] theorem zeroV_147 : zeroV Tryz.prog 147 = some (mkAgg [.d (.int .i64 0), .d .nilm]) := by kernel_rfl
@[go_sem] theorem zeroD_147 : zeroD Tryz.prog 147 = some (.agg [(.int .i64 0), .nilm]) := by kernel_rfl
@[go_sem] theorem placesT_147 : placesT Tryz.prog 147 = some [(0, 1), (1, 1)] := by kernel_rfl
@[go_sem] theorem cellsOf_149 : Tryz.prog.cellsOf 149 = 2 := by kernel_rfl
@[go_sem] theorem bytesOf_149 : Tryz.prog.bytesOf 149 = 16 := by kernel_rfl
@[go_sem] theorem sliceT_149 : sliceT Tryz.prog 149 = none := by kernel_rfl
@[go_sem] theorem arrT_149 : arrT Tryz.prog 149 = none := by kernel_rfl
@[go_sem] theorem aggT_149 : aggT Tryz.prog 149 = some true := by kernel_rfl
@[go_sem] theorem intT_149 : intT Tryz.prog 149 = none := by kernel_rfl
@[go_sem] theorem isBoolT_149 : isBoolT Tryz.prog 149 = false := by kernel_rfl
@[go_sem] theorem infoT_149 : (Tryz.prog.info? 149).isSome = true := by kernel_rfl
@[go_sem] theorem plainIface_149 : plainIface Tryz.prog 149 = true := by kernel_rfl
@[go_sem] theorem zeroT_149 : zeroT Tryz.prog 149 = some [.d .nilp, .d .nilm] := by kernel_rfl
@[go_sem] theorem zeroV_149 : zeroV Tryz.prog 149 = some (mkAgg [.d .nilp, .d .nilm]) := by kernel_rfl
@[go_sem] theorem zeroD_149 : zeroD Tryz.prog 149 = some (.agg [.nilp, .nilm]) := by kernel_rfl
@[go_sem] theorem placesT_149 : placesT Tryz.prog 149 = some [(0, 1), (1, 1)] := by kernel_rfl
@[go_sem] theorem cellsOf_153 : Tryz.prog.cellsOf 153 = 2 := by kernel_rfl
@[go_sem] theorem bytesOf_153 : Tryz.prog.bytesOf 153 = 16 := by kernel_rfl
@[go_sem] theorem sliceT_153 : sliceT Tryz.prog 153 = none := by kernel_rfl
@[go_sem] theorem arrT_153 : arrT Tryz.prog 153 = some (2, 3) := by kernel_rfl
@[go_sem] theorem aggT_153 : aggT Tryz.prog 153 = some true := by kernel_rfl
@[go_sem] theorem intT_153 : intT Tryz.prog 153 = none := by kernel_rfl
@[go_sem] theorem isBoolT_153 : isBoolT Tryz.prog 153 = false := by kernel_rfl
@[go_sem] theorem infoT_153 : (Tryz.prog.info? 153).isSome = true := by kernel_rfl
@[go_sem] theorem plainIface_153 : plainIface Tryz.prog 153 = true := by kernel_rfl
@[go_sem] theorem undT_153 : Tryz.prog.underlying 153 = some (.array 2 3) := by kernel_rfl
@[go_sem] theorem zeroT_153 : zeroT Tryz.prog 153 = some [.d (.int .i64 0), .d (.int .i64 0)] := by kernel_rfl
@[go_sem] theorem zeroV_153 : zeroV Tryz.prog 153 = some (mkAgg [.d (.int .i64 0), .d (.int .i64 0)]) := by kernel_rfl
@[go_sem] theorem zeroD_153 : zeroD Tryz.prog 153 = some (.agg [(.int .i64 0), (.int .i64 0)]) := by kernel_rfl
@[go_sem] theorem placesT_153 : placesT Tryz.prog 153 = some [(0, 1), (1, 1)] := by kernel_rfl
@[go_sem] theorem cellsOf_154 : Tryz.prog.cellsOf 154 = 1 := by kernel_rfl
@[go_sem] theorem bytesOf_154 : Tryz.prog.bytesOf 154 = 8 := by kernel_rfl
@[go_sem] theorem sliceT_154 : sliceT Tryz.prog 154 = none := by kernel_rfl
@[go_sem] theorem arrT_154 : arrT Tryz.prog 154 = none := by kernel_rfl
@[go_sem] theorem aggT_154 : aggT Tryz.prog 154 = some false := by kernel_rfl
@[go_sem] theorem intT_154 : intT Tryz.prog 154 = none := by kernel_rfl
@[go_sem] theorem isBoolT_154 : isBoolT Tryz.prog 154 = false := by kernel_rfl
@[go_sem] theorem infoT_154 : (Tryz.prog.info? 154).isSome = true := by kernel_rfl
@[go_sem] theorem plainIface_154 : plainIface Tryz.prog 154 = true := by kernel_rfl
@[go_sem] theorem zeroT_154 : zeroT Tryz.prog 154 = some [.d .nilf] := by kernel_rfl
@[go_sem] theorem zeroV_154 : zeroV Tryz.prog 154 = some (.d .nilf) := by kernel_rfl
@[go_sem] theorem zeroD_154 : zeroD Tryz.prog 154 = some .nilf := by kernel_rfl
@[go_sem] theorem cellsOf_160 : Tryz.prog.cellsOf 160 = 1 := by kernel_rfl
@[go_sem] theorem bytesOf_160 : Tryz.prog.bytesOf 160 = 8 := by kernel_rfl
@[go_sem] theorem sliceT_160 : sliceT Tryz.prog 160 = none := by kernel_rfl
@[go_sem] theorem arrT_160 : arrT Tryz.prog 160 = none := by kernel_rfl
@[go_sem] theorem aggT_160 : aggT Tryz.prog 160 = some false := by kernel_rfl
@[go_sem] theorem intT_160 : intT Tryz.prog 160 = some .i64 := by kernel_rfl
@[go_sem] theorem isBoolT_160 : isBoolT Tryz.prog 160 = false := by kernel_rfl
@[go_sem] theorem infoT_160 : (Tryz.prog.info? 160).isSome = true := by kernel_rfl
@[go_sem] theorem plainIface_160 : plainIface Tryz.prog 160 = true := by kernel_rfl
@[go_sem] theorem undT_160 : Tryz.prog.underlying 160 = some (.int .i64) := by kernel_rfl
@[go_sem] theorem eqShape_160 : eqShape Tryz.prog 160 = some .int := by kernel_rfl
@[go_sem] theorem zeroT_160 : zeroT Tryz.prog 160 = some [.d (.int .i64 0)] := by kernel_rfl
@[go_sem] theorem zeroV_160 : zeroV Tryz.prog 160 = some (.d (.int .i64 0)) := by kernel_rfl
@[go_sem] theorem zeroD_160 : zeroD Tryz.prog 160 = some (.int .i64 0) := by kernel_rfl
@[go_sem] theorem cellsOf_168 : Tryz.prog.cellsOf 168 = 1 := by kernel_rfl
@[go_sem] theorem bytesOf_168 : Tryz.prog.bytesOf 168 = 4 := by kernel_rfl
@[go_sem] theorem sliceT_168 : sliceT Tryz.prog 168 = none := by kernel_rfl
@[go_sem] theorem arrT_168 : arrT Tryz.prog 168 = none := by kernel_rfl
@[go_sem] theorem aggT_168 : aggT Tryz.prog 168 = some false := by kernel_rfl
@[go_sem] theorem intT_168 : intT Tryz.prog 168 = some .u32 := by kernel_rfl
@[go_sem] theorem isBoolT_168 : isBoolT Tryz.prog 168 = false := by kernel_rfl
@[go_sem] theorem infoT_168 : (Tryz.prog.info? 168).isSome = true := by kernel_rfl
@[go_sem] theorem plainIface_168 : plainIface Tryz.prog 168 = true := by kernel_rfl
@[go_sem] theorem undT_168 : Tryz.prog.underlying 168 = some (.int .u32) := by kernel_rfl
@[go_sem] theorem eqShape_168 : eqShape Tryz.prog 168 = some .int := by kernel_rfl
@[go_sem] theorem zeroT_168 : zeroT Tryz.prog 168 = some [.d (.int .u32 0)] := by kernel_rfl
@[go_sem] theorem zeroV_168 : zeroV Tryz.prog 168 = some (.d (.int .u32 0)) := by kernel_rfl
@[go_sem] theorem zeroD_168 : zeroD Tryz.prog 168 = some (.int .u32 0) := by kernel_rfl
@[go_sem] theorem cellsOf_170 : Tryz.prog.cellsOf 170 = 1 := by kernel_rfl
@[go_sem] theorem bytesOf_170 : Tryz.prog.bytesOf 170 = 8 := by kernel_rfl
@[go_sem] theorem sliceT_170 : sliceT Tryz.prog 170 = none := by kernel_rfl
@[go_sem] theorem arrT_170 : arrT Tryz.prog 170 = none := by kernel_rfl
@[go_sem] theorem aggT_170 : aggT Tryz.prog 170 = some false := by kernel_rfl
@[go_sem] theorem intT_170 : intT Tryz.prog 170 = some .u64 := by kernel_rfl
@[go_sem] theorem isBoolT_170 : isBoolT Tryz.prog 170 = false := by kernel_rfl
@[go_sem] theorem infoT_170 : (Tryz.prog.info? 170).isSome = true := by kernel_rfl
@[go_sem] theorem plainIface_170 : plainIface Tryz.prog 170 = true := by kernel_rfl
@[go_sem] theorem undT_170 : Tryz.prog.underlying 170 = some (.int .u64) := by kernel_rfl
@[go_sem] theorem eqShape_170 : eqShape Tryz.prog 170 = some .int := by kernel_rfl
@[go_sem] theorem zeroT_170 : zeroT Tryz.prog 170 = some [.d (.int .u64 0)] := by kernel_rfl
@[go_sem] theorem zeroV_170 : zeroV Tryz.prog 170 = some (.d (.int .u64 0)) := by kernel_rfl
@[go_sem] theorem zeroD_170 : zeroD Tryz.prog 170 = some (.int .u64 0) := by kernel_rfl
@[go_sem] theorem cellsOf_172 : Tryz.prog.cellsOf 172 = 1 := by kernel_rfl
@[go_sem] theorem bytesOf_172 : Tryz.prog.bytesOf 172 = 8 := by kernel_rfl
@[go_sem] theorem sliceT_172 : sliceT Tryz.prog 172 = none := by kernel_rfl
@[go_sem] theorem arrT_172 : arrT Tryz.prog 172 = none := by kernel_rfl
@[go_sem] theorem aggT_172 : aggT Tryz.prog 172 = some false := by kernel_rfl
@[go_sem] theorem intT_172 : intT Tryz.prog 172 = some .u64 := by kernel_rfl
@[go_sem] theorem isBoolT_172 : isBoolT Tryz.prog 172 = false := by kernel_rfl
@[go_sem] theorem infoT_172 : (Tryz.prog.info? 172).isSome = true := by kernel_rfl
@[go_sem] theorem plainIface_172 : plainIface Tryz.prog 172 = true := by kernel_rfl
@[go_sem] theorem undT_172 : Tryz.prog.underlying 172 = some (.int .u64) := by kernel_rfl
@[go_sem] theorem eqShape_172 : eqShape Tryz.prog 172 = some .int := by kernel_rfl
@[go_sem] theorem zeroT_172 : zeroT Tryz.prog 172 = some [.d (.int .u64 0)] := by kernel_rfl
@[go_sem] theorem zeroV_172 : zeroV Tryz.prog 172 = some (.d (.int .u64 0)) := by kernel_rfl
@[go_sem] theorem zeroD_172 : zeroD Tryz.prog 172 = some (.int .u64 0) := by kernel_rfl
@[go_sem] theorem fieldT_24_0 : fieldT Tryz.prog 24 0 = some 0 := by kernel_rfl
@[go_sem] theorem fieldT_24_1 : fieldT Tryz.prog 24 1 = some 1 := by kernel_rfl
@[go_sem] theorem fieldT_28_0 : fieldT Tryz.prog 28 0 = some 0 := by kernel_rfl
@[go_sem] theorem fieldT_28_1 : fieldT Tryz.prog 28 1 = some 1 := by kernel_rfl
@[go_sem] theorem fieldT_28_2 : fieldT Tryz.prog 28 2 = some 2 := by kernel_rfl
@[go_sem] theorem fieldT_52_0 : fieldT Tryz.prog 52 0 = some 0 := by kernel_rfl
@[go_sem] theorem fieldT_52_1 : fieldT Tryz.prog 52 1 = some 1 := by kernel_rfl
@[go_sem] theorem fieldT_98_0 : fieldT Tryz.prog 98 0 = some 0 := by kernel_rfl
@[go_sem] theorem fieldT_98_1 : fieldT Tryz.prog 98 1 = some 1 := by kernel_rfl
@[go_sem] theorem fieldT_98_2 : fieldT Tryz.prog 98 2 = some 2 := by kernel_rfl
@[go_sem] theorem fieldT_103_0 : fieldT Tryz.prog 103 0 = some 0 := by kernel_rfl
@[go_sem] theorem fieldT_103_1 : fieldT Tryz.prog 103 1 = some 1 := by kernel_rfl
@[go_sem] theorem fieldT_123_0 : fieldT Tryz.prog 123 0 = some 0 := by kernel_rfl
@[go_sem] theorem fieldT_132_0 : fieldT Tryz.prog 132 0 = some 0 := by kernel_rfl
@[go_sem] theorem fieldT_132_1 : fieldT Tryz.prog 132 1 = some 1 := by kernel_rfl
@[go_sem] theorem fieldT_132_2 : fieldT Tryz.prog 132 2 = some 2 := by kernel_rfl
@[go_sem] theorem fieldT_147_0 : fieldT Tryz.prog 147 0 = some 0 := by kernel_rfl
@[go_sem] theorem fieldT_147_1 : fieldT Tryz.prog 147 1 = some 1 := by kernel_rfl
@[go_sem] theorem fieldT_149_0 : fieldT Tryz.prog 149 0 = some 0 := by kernel_rfl
@[go_sem] theorem fieldT_149_1 : fieldT Tryz.prog 149 1 = some 1 := by kernel_rfl
end Go.Proofs.YtealblliddhgiaaGreat
namespace Go.Proofs.YtealblliddhgiaaGreat
def Grows (so : Nat -> Obj') (c : Nat) (ty : TypeId) (sz : Nat) (es : List D) (x : V) : Prop :=
 (x = .nils /\ es = [] /\ 0 < sz) \/ ∃ id ep, c <= id /\ x = .osl id ep /\ so id = .arr ep ty sz es
def growE (c : Nat) (x : V) (env : Nat -> V) : List V -> Nat -> Prop
 | [], _ => True
 | v :: l, i => (v = .junk \/ (v = env i /\ ∀ r ∈ v.refs, r < c) \/ (v = .osl c 0 /\ env i = x)) /\ growE c x env l (i + 1)
theorem growE_at {c : Nat} {x : V} {env : Nat -> V} : ∀ (l : List V) (i : Nat), growE c x env l i -> ∀ j, envJ l j = .junk \/ (envJ l j = env (i + j) /\ ∀ r ∈ (envJ l j).refs, r < c) \/ (envJ l j = .osl c 0 /\ env (i + j) = x)
 | [], i, _, j => by rw [envJ_nil]; exact .inl rfl
 | v :: l, i, h, 0 => by rw [envJ_zero]; exact h.1
 | v :: l, i, h, j + 1 => by
   rw [envJ_succ]
   have := growE_at l (i + 1) h.2 j
   rwa [show i + 1 + j = i + (j + 1) by omega] at this
def growPl (φ : Place) (c : Nat) (x : V) : Place := fun id => if id = c then (match x with | .osl id _ => φ id | _ => .slice none 0 0) else φ id
theorem SLe.grow {b : Nat} {e : Nat -> V} {so : Nat -> Obj'} {m : Nat} (l : List V) {o : Nat -> Obj'} {c : Nat} {ty : TypeId} {sz : Nat} {es : List D} (x : V) (hb : b <= c) (hcm : c <= m) (hg : Good o c) (ho : ∀ id, id < c -> so id = o id) (hx : Grows so c ty sz es x) (he : growE c x e l 0) :
 SLe b ⟨e, so, m⟩ ⟨envJ l, upd o c (.arr 0 ty sz es), c + 1⟩ := by
 intro M φ w tm hH hd
 let φ' : Place := growPl φ c x
 let o' : Nat -> Obj' := upd o c (.arr 0 ty sz es)
 let H' : Hp := hp o' (c + 1)
 let H : Hp := ⟨so, fun id => id < m⟩
 have hoc : o' c = .arr 0 ty sz es := upd_same _ _ _
 have hol : ∀ id, id < c -> o' id = o id := fun id hid => upd_ne _ _ _ _ (by omega)
 have hoh : ∀ id, c < id -> o' id = .no := fun id hid => by rw [show o' id = o id from upd_ne _ _ _ _ (by omega)]; exact hg.fresh id (by omega)
 have hφl : ∀ id, id < c -> φ' id = φ id := fun id hid => if_neg (by omega)
 have hφn : x = .nils -> φ' c = .slice none 0 0 := fun h => by simp only [φ', growPl, h, if_pos]
 have hφc : ∀ id ep, x = .osl id ep -> φ' c = φ id := fun id ep h => by simp only [φ', growPl, if_pos, h]
 have hold : ∀ id k, (o' id).live = true -> blk (φ' id) = some k -> ∃ j, (so j).live = true /\ blk (φ j) = some k /\ ((id < c /\ j = id) \/ (id = c /\ c <= j)) := by
  intro id k h1 h2
  rcases Nat.lt_trichotomy id c with hlt | heq | hgt
  ·rw [hol id hlt] at h1; rw [hφl id hlt] at h2
   exact ⟨id, by rw [ho id hlt]; exact h1, h2, .inl ⟨hlt, rfl⟩⟩
  ·subst heq
   rcases hx with ⟨rfl, _, _⟩ | ⟨j, ep, hj, rfl, hso⟩
   ·rw [hφn rfl] at h2; cases h2
   ·rw [hφc j ep rfl] at h2
    exact ⟨j, by rw [hso]; rfl, h2, .inr ⟨rfl, hj⟩⟩
  ·rw [hoh id hgt] at h1; cases h1
 have hlive : ∀ k, liveB φ' H' k -> liveB φ H k := by
  rintro k ⟨id, h1, h2⟩
  obtain ⟨j, g1, g2, _⟩ := hold id k h1 h2
  exact ⟨j, g1, g2⟩
 have hB : ∀ k, ¬ mutB M φ H k -> ¬ mutB M φ' H' k := fun k h h' => h (h'.imp id (hlive k))
 have hin : ∀ id, id < c -> H'.o id = H.o id /\ φ' id = φ id /\ H'.us id := fun id hid => ⟨(hol id hid).trans (ho id hid).symm, hφl id hid, (by show id < c + 1; omega)⟩
 have hval : ∀ (v : V) (val : Value), (∀ r ∈ v.refs, r < c) -> V.den (mutB M φ H) φ H w v val -> V.den (mutB M φ' H') φ' H' w v val := fun v val hr h =>
  V.den_refs (H := H) (H' := H') hB v val (fun id hid => hin id (hr id hid)) h
 have hvals : ∀ (v : List V) (val : List Value), (∀ r ∈ V.refss v, r < c) -> V.dens (mutB M φ H) φ H w v val -> V.dens (mutB M φ' H') φ' H' w v val := fun v val hr h =>
  V.dens_refs (H := H) (H' := H') hB v val (fun id hid => hin id (hr id hid)) h
 refine ⟨φ', ⟨fun id => ?_, fun id hu => hoh id (by have : ¬ id < c + 1 := hu; omega), fun i j k h1 h2 h3 h4 => ?_, fun k hk => hH.ours k (hlive k hk), hH.old⟩, fun i => ?_, hlive, by show b <= c + 1; omega, fun id hid hr => ?_, fun id e' hid he' => ?_⟩
 ·have hall := hH.ok id
  have hrefs := hg.refs id
  show ObjOk M φ' H' w id
  unfold ObjOk at hall ⊢
  rcases Nat.lt_trichotomy id c with hlt | heq | hgt
  ·have e1 : (S.H ⟨e, so, m⟩).o id = o id := ho id hlt
   rw [e1] at hall
   have e2 : H'.o id = o id := hol id hlt
   rw [e2, hφl id hlt]
   cases hx' : o id with
   | no => trivial
   | row cs =>
     simp only [hx'] at hall hrefs ⊢
     obtain ⟨b, carr, ty, k1, k2, k3, k4⟩ := hall
     exact ⟨b, carr, ty, k1, k2, hvals _ _ hrefs k3, k4⟩
   | arr ep ty sz es =>
     simp only [hx'] at hall ⊢
     obtain ⟨k1, xs, k2, evs, k3, k4, k5⟩ := hall
     exact ⟨k1, xs, k2, evs, k3, k4, D.dens_mono (fun b _ hn => ⟨rfl, hB b hn⟩) _ _ k5⟩
   | fro ep es =>
     simp only [hx'] at hall ⊢
     exact D.den_mono (fun b _ hn => ⟨rfl, hB b hn⟩) _ _ hall
   | map kt vt es =>
     simp only [hx'] at hall ⊢
     obtain ⟨b, es', clock, k1, k2, k4, k3⟩ := hall
     exact ⟨b, es', clock, k1, k2, k4, EntsDen.mono (fun b _ hn => ⟨rfl, hB b hn⟩) _ _ k3⟩
   | mfro l =>
     simp only [hx'] at hall ⊢
     exact D.den_mono (fun b _ hn => ⟨rfl, hB b hn⟩) _ _ hall
   | mit l last =>
     simp only [hx'] at hall ⊢
     obtain ⟨b, k1, k2⟩ := hall
     exact ⟨b, k1, k2.mono (fun b _ hn => ⟨rfl, hB b hn⟩) rfl⟩
   | sit s pos =>
     simp only [hx'] at hall ⊢
     exact hall
   | loop nf n env ps a b st pd =>
     simp only [hx'] at hall hrefs ⊢
     obtain ⟨b, r, k1, k2, k3, k4, k5, k6, k7, k8, k9, k10⟩ := hall
     exact ⟨b, r, k1, k2, k3, k4, k5, k6, k7, k8, k9, fun i => hval _ _ (fun r hr => hrefs r (V.refss_get _ _ r hr)) (k10 i)⟩
  ·subst heq
   have e2 : H'.o id = .arr 0 ty sz es := hoc
   rw [e2]
   rcases hx with ⟨rfl, rfl, hsz⟩ | ⟨j, ep, hj, rfl, hso⟩
   ·refine ⟨hsz, [], ?_, [], by simp, by simp, rfl⟩
    rw [hφn rfl]
    exact World.ownsRow_nil _ _ _ _
   ·have := hH.ok j
    unfold ObjOk at this
    simp only [S.H, hso] at this
    obtain ⟨k1, xs, k2, evs, k3, k4, k5⟩ := this
    exact ⟨k1, xs, by rw [hφc j ep rfl]; exact k2, evs, k3, k4, D.dens_mono (fun b _ hn => ⟨rfl, hB b hn⟩) _ _ k5⟩
  ·have e2 : H'.o id = .no := hoh id hgt
   rw [e2]
   trivial
 ·obtain ⟨i', a1, a2, a3⟩ := hold i k h1 h3
  obtain ⟨j', b1, b2, b3⟩ := hold j k h2 h4
  have := hH.apart i' j' k a1 b1 a2 b2
  rcases a3 with ⟨a3, a4⟩ | ⟨a3, a4⟩ <;> rcases b3 with ⟨b3, b4⟩ | ⟨b3, b4⟩ <;> omega
 ·have hi := growE_at l 0 he i
  rw [Nat.zero_add] at hi
  rcases hi with h | ⟨h1, h2⟩ | ⟨h1, h2⟩
  ·show V.den _ _ _ _ (envJ l i) _
   rw [h]; trivial
  ·have := hd i
   simp only at this
   rw [<- h1] at this
   exact hval _ _ h2 this
  ·have := hd i
   simp only at this
   rw [h2] at this
   show V.den _ _ _ _ (envJ l i) _
   rw [h1]
   rcases hx with ⟨rfl, rfl, hsz⟩ | ⟨j, ep, hj, rfl, hso⟩
   ·simp only [V.den] at this
    rw [this]
    refine ⟨rfl, (by show c < c + 1; omega), fun e' he' => ?_⟩
    have he' : (H'.o c).epoch = some e' := he'
    have this : H'.o c = .arr 0 ty sz [] := hoc
    rw [this] at he'
    simp only [Obj'.epoch, Option.some.injEq] at he'
    subst he'
    exact ⟨Nat.le_refl _, fun _ => (hφn rfl).symm⟩
   ·obtain ⟨g1, g2, g3⟩ := this
    refine ⟨g1, (by show c < c + 1; omega), fun e' he' => ?_⟩
    have he' : (H'.o c).epoch = some e' := he'
    have this : H'.o c = .arr 0 ty sz es := hoc
    rw [this] at he'
    simp only [Obj'.epoch, Option.some.injEq] at he'
    subst he'
    have hep : ((S.H ⟨e, so, m⟩).o j).epoch = some ep := by simp only [S.H, hso, Obj'.epoch]
    exact ⟨Nat.le_refl _, fun _ => by rw [hφc j ep rfl]; exact (g3 ep hep).2 rfl⟩
 ·have hlt : id < c := by omega
  exact ⟨by show (so id).isRow = true; rw [ho id hlt, <- hol id hlt]; exact hr, hφl id hlt⟩
 ·have hlt : id < c := by omega
  exact ⟨e', by show (so id).epoch = some e'; rw [ho id hlt, <- hol id hlt]; exact he', Nat.le_refl _, fun _ => hφl id hlt⟩
end Go.Proofs.YtealblliddhgiaaGreat
