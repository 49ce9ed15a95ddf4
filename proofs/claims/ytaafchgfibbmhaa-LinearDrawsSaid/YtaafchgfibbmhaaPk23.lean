/-
  A PART OF THE PROOF (put together by program): several texts, one behind the other. Conditions: none.
-/
import Derived.Test.YtaafchgfibbmhaaPk22
set_option linter.unusedSimpArgs false
set_option linter.unusedVariables false
namespace Go.Proofs.Ytaafchgfibbmhaa
@[go_sem] theorem cellsOf_1 : Try.prog.cellsOf 1 = 1 := by kernel_rfl
@[go_sem] theorem bytesOf_1 : Try.prog.bytesOf 1 = 8 := by kernel_rfl
@[go_sem] theorem sliceT_1 : sliceT Try.prog 1 = none := by kernel_rfl
@[go_sem] theorem arrT_1 : arrT Try.prog 1 = none := by kernel_rfl
@[go_sem] theorem aggT_1 : aggT Try.prog 1 = some false := by kernel_rfl
@[go_sem] theorem intT_1 : intT Try.prog 1 = none := by kernel_rfl
@[go_sem] theorem isBoolT_1 : isBoolT Try.prog 1 = false := by kernel_rfl
@[go_sem] theorem infoT_1 : (Try.prog.info? 1).isSome = true := by kernel_rfl
@[go_sem] theorem plainIface_1 : plainIface Try.prog 1 = true := by kernel_rfl
@[go_sem] theorem cellsOf_3 : Try.prog.cellsOf 3 = 1 := by kernel_rfl
@[go_sem] theorem bytesOf_3 : Try.prog.bytesOf 3 = 8 := by kernel_rfl
@[go_sem] theorem sliceT_3 : sliceT Try.prog 3 = none := by kernel_rfl
@[go_sem] theorem arrT_3 : arrT Try.prog 3 = none := by kernel_rfl
@[go_sem] theorem aggT_3 : aggT Try.prog 3 = some false := by kernel_rfl
@[go_sem] theorem intT_3 : intT Try.prog 3 = some .i64 := by kernel_rfl
@[go_sem] theorem isBoolT_3 : isBoolT Try.prog 3 = false := by kernel_rfl
@[go_sem] theorem infoT_3 : (Try.prog.info? 3).isSome = true := by kernel_rfl
@[go_sem] theorem plainIface_3 : plainIface Try.prog 3 = true := by kernel_rfl
@[go_sem] theorem undT_3 : Try.prog.underlying 3 = some (.int .i64) := by kernel_rfl
@[go_sem] theorem zeroT_3 : zeroT Try.prog 3 = some [.d (.int .i64 0)] := by kernel_rfl
@[go_sem] theorem zeroD_3 : zeroD Try.prog 3 = some (.int .i64 0) := by kernel_rfl
@[go_sem] theorem cellsOf_4 : Try.prog.cellsOf 4 = 1 := by kernel_rfl
@[go_sem] theorem bytesOf_4 : Try.prog.bytesOf 4 = 1 := by kernel_rfl
@[go_sem] theorem sliceT_4 : sliceT Try.prog 4 = none := by kernel_rfl
@[go_sem] theorem arrT_4 : arrT Try.prog 4 = none := by kernel_rfl
@[go_sem] theorem aggT_4 : aggT Try.prog 4 = some false := by kernel_rfl
@[go_sem] theorem intT_4 : intT Try.prog 4 = none := by kernel_rfl
@[go_sem] theorem isBoolT_4 : isBoolT Try.prog 4 = true := by kernel_rfl
@[go_sem] theorem infoT_4 : (Try.prog.info? 4).isSome = true := by kernel_rfl
@[go_sem] theorem plainIface_4 : plainIface Try.prog 4 = true := by kernel_rfl
@[go_sem] theorem undT_4 : Try.prog.underlying 4 = some .bool := by kernel_rfl
@[go_sem] theorem zeroT_4 : zeroT Try.prog 4 = some [.d (.bool false)] := by kernel_rfl
@[go_sem] theorem zeroD_4 : zeroD Try.prog 4 = some (.bool false) := by kernel_rfl
@[go_sem] theorem cellsOf_5 : Try.prog.cellsOf 5 = 1 := by kernel_rfl
@[go_sem] theorem bytesOf_5 : Try.prog.bytesOf 5 = 1 := by kernel_rfl
@[go_sem] theorem sliceT_5 : sliceT Try.prog 5 = none := by kernel_rfl
@[go_sem] theorem arrT_5 : arrT Try.prog 5 = none := by kernel_rfl
@[go_sem] theorem aggT_5 : aggT Try.prog 5 = some false := by kernel_rfl
@[go_sem] theorem intT_5 : intT Try.prog 5 = some .u8 := by kernel_rfl
@[go_sem] theorem isBoolT_5 : isBoolT Try.prog 5 = false := by kernel_rfl
@[go_sem] theorem infoT_5 : (Try.prog.info? 5).isSome = true := by kernel_rfl
@[go_sem] theorem plainIface_5 : plainIface Try.prog 5 = true := by kernel_rfl
@[go_sem] theorem undT_5 : Try.prog.underlying 5 = some (.int .u8) := by kernel_rfl
@[go_sem] theorem zeroT_5 : zeroT Try.prog 5 = some [.d (.int .u8 0)] := by kernel_rfl
@[go_sem] theorem zeroD_5 : zeroD Try.prog 5 = some (.int .u8 0) := by kernel_rfl
@[go_sem] theorem cellsOf_20 : Try.prog.cellsOf 20 = 1 := by kernel_rfl
@[go_sem] theorem bytesOf_20 : Try.prog.bytesOf 20 = 16 := by kernel_rfl
@[go_sem] theorem sliceT_20 : sliceT Try.prog 20 = none := by kernel_rfl
@[go_sem] theorem arrT_20 : arrT Try.prog 20 = none := by kernel_rfl
@[go_sem] theorem aggT_20 : aggT Try.prog 20 = some false := by kernel_rfl
@[go_sem] theorem intT_20 : intT Try.prog 20 = none := by kernel_rfl
@[go_sem] theorem isBoolT_20 : isBoolT Try.prog 20 = false := by kernel_rfl
@[go_sem] theorem infoT_20 : (Try.prog.info? 20).isSome = true := by kernel_rfl
@[go_sem] theorem plainIface_20 : plainIface Try.prog 20 = false := by kernel_rfl
@[go_sem] theorem zeroT_20 : zeroT Try.prog 20 = some [.d .nili] := by kernel_rfl
@[go_sem] theorem zeroD_20 : zeroD Try.prog 20 = some .nili := by kernel_rfl
@[go_sem] theorem cellsOf_22 : Try.prog.cellsOf 22 = 1 := by kernel_rfl
@[go_sem] theorem bytesOf_22 : Try.prog.bytesOf 22 = 24 := by kernel_rfl
@[go_sem] theorem sliceT_22 : sliceT Try.prog 22 = some 45 := by kernel_rfl
@[go_sem] theorem arrT_22 : arrT Try.prog 22 = none := by kernel_rfl
@[go_sem] theorem aggT_22 : aggT Try.prog 22 = some false := by kernel_rfl
@[go_sem] theorem intT_22 : intT Try.prog 22 = none := by kernel_rfl
@[go_sem] theorem isBoolT_22 : isBoolT Try.prog 22 = false := by kernel_rfl
@[go_sem] theorem infoT_22 : (Try.prog.info? 22).isSome = true := by kernel_rfl
@[go_sem] theorem plainIface_22 : plainIface Try.prog 22 = true := by kernel_rfl
@[go_sem] theorem undT_22 : Try.prog.underlying 22 = some (.slice 45) := by kernel_rfl
@[go_sem] theorem zeroT_22 : zeroT Try.prog 22 = some [.nils] := by kernel_rfl
@[go_sem] theorem zeroD_22 : zeroD Try.prog 22 = some (.sl []) := by kernel_rfl
@[go_sem] theorem cellsOf_24 : Try.prog.cellsOf 24 = 2 := by kernel_rfl
@[go_sem] theorem bytesOf_24 : Try.prog.bytesOf 24 = 32 := by kernel_rfl
@[go_sem] theorem sliceT_24 : sliceT Try.prog 24 = none := by kernel_rfl
@[go_sem] theorem arrT_24 : arrT Try.prog 24 = none := by kernel_rfl
@[go_sem] theorem aggT_24 : aggT Try.prog 24 = some true := by kernel_rfl
@[go_sem] theorem intT_24 : intT Try.prog 24 = none := by kernel_rfl
@[go_sem] theorem isBoolT_24 : isBoolT Try.prog 24 = false := by kernel_rfl
@[go_sem] theorem infoT_24 : (Try.prog.info? 24).isSome = true := by kernel_rfl
@[go_sem] theorem plainIface_24 : plainIface Try.prog 24 = true := by kernel_rfl
@[go_sem] theorem zeroT_24 : zeroT Try.prog 24 = some [.d (.int .i64 0), .nils] := by kernel_rfl
@[go_sem] theorem zeroD_24 : zeroD Try.prog 24 = some (.agg [(.int .i64 0), (.sl [])]) := by kernel_rfl
@[go_sem] theorem placesT_24 : placesT Try.prog 24 = some [(0, 1), (1, 1)] := by kernel_rfl
@[go_sem] theorem cellsOf_25 : Try.prog.cellsOf 25 = 1 := by kernel_rfl
@[go_sem] theorem bytesOf_25 : Try.prog.bytesOf 25 = 24 := by kernel_rfl
@[go_sem] theorem sliceT_25 : sliceT Try.prog 25 = some 68 := by kernel_rfl
@[go_sem] theorem arrT_25 : arrT Try.prog 25 = none := by kernel_rfl
@[go_sem] theorem aggT_25 : aggT Try.prog 25 = some false := by kernel_rfl
@[go_sem] theorem intT_25 : intT Try.prog 25 = none := by kernel_rfl
@[go_sem] theorem isBoolT_25 : isBoolT Try.prog 25 = false := by kernel_rfl
@[go_sem] theorem infoT_25 : (Try.prog.info? 25).isSome = true := by kernel_rfl
@[go_sem] theorem plainIface_25 : plainIface Try.prog 25 = true := by kernel_rfl
@[go_sem] theorem undT_25 : Try.prog.underlying 25 = some (.slice 68) := by kernel_rfl
@[go_sem] theorem zeroT_25 : zeroT Try.prog 25 = some [.nils] := by kernel_rfl
@[go_sem] theorem zeroD_25 : zeroD Try.prog 25 = some (.sl []) := by kernel_rfl
@[go_sem] theorem cellsOf_28 : Try.prog.cellsOf 28 = 1 := by kernel_rfl
@[go_sem] theorem bytesOf_28 : Try.prog.bytesOf 28 = 8 := by kernel_rfl
@[go_sem] theorem sliceT_28 : sliceT Try.prog 28 = none := by kernel_rfl
@[go_sem] theorem arrT_28 : arrT Try.prog 28 = none := by kernel_rfl
@[go_sem] theorem aggT_28 : aggT Try.prog 28 = some false := by kernel_rfl
@[go_sem] theorem intT_28 : intT Try.prog 28 = some .i64 := by kernel_rfl
@[go_sem] theorem isBoolT_28 : isBoolT Try.prog 28 = false := by kernel_rfl
@[go_sem] theorem infoT_28 : (Try.prog.info? 28).isSome = true := by kernel_rfl
@[go_sem] theorem plainIface_28 : plainIface Try.prog 28 = true := by kernel_rfl
@[go_sem] theorem undT_28 : Try.prog.underlying 28 = some (.int .i64) := by kernel_rfl
@[go_sem] theorem zeroT_28 : zeroT Try.prog 28 = some [.d (.int .i64 0)] := by kernel_rfl
@[go_sem] theorem zeroD_28 : zeroD Try.prog 28 = some (.int .i64 0) := by kernel_rfl
@[go_sem] theorem cellsOf_34 : Try.prog.cellsOf 34 = 1 := by kernel_rfl
@[go_sem] theorem bytesOf_34 : Try.prog.bytesOf 34 = 24 := by kernel_rfl
@[go_sem] theorem sliceT_34 : sliceT Try.prog 34 = some 47 := by kernel_rfl
@[go_sem] theorem arrT_34 : arrT Try.prog 34 = none := by kernel_rfl
@[go_sem] theorem aggT_34 : aggT Try.prog 34 = some false := by kernel_rfl
@[go_sem] theorem intT_34 : intT Try.prog 34 = none := by kernel_rfl
@[go_sem] theorem isBoolT_34 : isBoolT Try.prog 34 = false := by kernel_rfl
@[go_sem] theorem infoT_34 : (Try.prog.info? 34).isSome = true := by kernel_rfl
@[go_sem] theorem plainIface_34 : plainIface Try.prog 34 = true := by kernel_rfl
@[go_sem] theorem undT_34 : Try.prog.underlying 34 = some (.slice 47) := by kernel_rfl
@[go_sem] theorem zeroT_34 : zeroT Try.prog 34 = some [.nils] := by kernel_rfl
@[go_sem] theorem zeroD_34 : zeroD Try.prog 34 = some (.sl []) := by kernel_rfl
@[go_sem] theorem cellsOf_37 : Try.prog.cellsOf 37 = 1 := by kernel_rfl
@[go_sem] theorem bytesOf_37 : Try.prog.bytesOf 37 = 24 := by kernel_rfl
@[go_sem] theorem sliceT_37 : sliceT Try.prog 37 = some 34 := by kernel_rfl
@[go_sem] theorem arrT_37 : arrT Try.prog 37 = none := by kernel_rfl
@[go_sem] theorem aggT_37 : aggT Try.prog 37 = some false := by kernel_rfl
@[go_sem] theorem intT_37 : intT Try.prog 37 = none := by kernel_rfl
@[go_sem] theorem isBoolT_37 : isBoolT Try.prog 37 = false := by kernel_rfl
@[go_sem] theorem infoT_37 : (Try.prog.info? 37).isSome = true := by kernel_rfl
@[go_sem] theorem plainIface_37 : plainIface Try.prog 37 = true := by kernel_rfl
@[go_sem] theorem undT_37 : Try.prog.underlying 37 = some (.slice 34) := by kernel_rfl
@[go_sem] theorem zeroT_37 : zeroT Try.prog 37 = some [.nils] := by kernel_rfl
@[go_sem] theorem zeroD_37 : zeroD Try.prog 37 = some (.sl []) := by kernel_rfl
@[go_sem] theorem cellsOf_42 : Try.prog.cellsOf 42 = 1 := by kernel_rfl
@[go_sem] theorem bytesOf_42 : Try.prog.bytesOf 42 = 24 := by kernel_rfl
@[go_sem] theorem sliceT_42 : sliceT Try.prog 42 = some 3 := by kernel_rfl
@[go_sem] theorem arrT_42 : arrT Try.prog 42 = none := by kernel_rfl
@[go_sem] theorem aggT_42 : aggT Try.prog 42 = some false := by kernel_rfl
@[go_sem] theorem intT_42 : intT Try.prog 42 = none := by kernel_rfl
@[go_sem] theorem isBoolT_42 : isBoolT Try.prog 42 = false := by kernel_rfl
@[go_sem] theorem infoT_42 : (Try.prog.info? 42).isSome = true := by kernel_rfl
@[go_sem] theorem plainIface_42 : plainIface Try.prog 42 = true := by kernel_rfl
@[go_sem] theorem undT_42 : Try.prog.underlying 42 = some (.slice 3) := by kernel_rfl
@[go_sem] theorem zeroT_42 : zeroT Try.prog 42 = some [.nils] := by kernel_rfl
@[go_sem] theorem zeroD_42 : zeroD Try.prog 42 = some (.sl []) := by kernel_rfl
@[go_sem] theorem cellsOf_43 : Try.prog.cellsOf 43 = 1 := by kernel_rfl
@[go_sem] theorem bytesOf_43 : Try.prog.bytesOf 43 = 8 := by kernel_rfl
@[go_sem] theorem sliceT_43 : sliceT Try.prog 43 = none := by kernel_rfl
@[go_sem] theorem arrT_43 : arrT Try.prog 43 = none := by kernel_rfl
@[go_sem] theorem aggT_43 : aggT Try.prog 43 = some false := by kernel_rfl
@[go_sem] theorem intT_43 : intT Try.prog 43 = some .i64 := by kernel_rfl
@[go_sem] theorem isBoolT_43 : isBoolT Try.prog 43 = false := by kernel_rfl
@[go_sem] theorem infoT_43 : (Try.prog.info? 43).isSome = true := by kernel_rfl
@[go_sem] theorem plainIface_43 : plainIface Try.prog 43 = true := by kernel_rfl
@[go_sem] theorem undT_43 : Try.prog.underlying 43 = some (.int .i64) := by kernel_rfl
@[go_sem] theorem zeroT_43 : zeroT Try.prog 43 = some [.d (.int .i64 0)] := by kernel_rfl
@[go_sem] theorem zeroD_43 : zeroD Try.prog 43 = some (.int .i64 0) := by kernel_rfl
@[go_sem] theorem cellsOf_45 : Try.prog.cellsOf 45 = 3 := by kernel_rfl
@[go_sem] theorem bytesOf_45 : Try.prog.bytesOf 45 = 40 := by kernel_rfl
@[go_sem] theorem sliceT_45 : sliceT Try.prog 45 = none := by kernel_rfl
@[go_sem] theorem arrT_45 : arrT Try.prog 45 = none := by kernel_rfl
@[go_sem] theorem aggT_45 : aggT Try.prog 45 = some true := by kernel_rfl
@[go_sem] theorem intT_45 : intT Try.prog 45 = none := by kernel_rfl
@[go_sem] theorem isBoolT_45 : isBoolT Try.prog 45 = false := by kernel_rfl
@[go_sem] theorem infoT_45 : (Try.prog.info? 45).isSome = true := by kernel_rfl
@[go_sem] theorem plainIface_45 : plainIface Try.prog 45 = true := by kernel_rfl
@[go_sem] theorem zeroT_45 : zeroT Try.prog 45 = some [.nils, .d (.int .i64 0), .d (.int .i64 0)] := by kernel_rfl
@[go_sem] theorem zeroD_45 : zeroD Try.prog 45 = some (.agg [(.sl []), (.int .i64 0), (.int .i64 0)]) := by kernel_rfl
@[go_sem] theorem placesT_45 : placesT Try.prog 45 = some [(0, 1), (1, 1), (2, 1)] := by kernel_rfl
@[go_sem] theorem cellsOf_47 : Try.prog.cellsOf 47 = 4 := by kernel_rfl
@[go_sem] theorem bytesOf_47 : Try.prog.bytesOf 47 = 64 := by kernel_rfl
@[go_sem] theorem sliceT_47 : sliceT Try.prog 47 = none := by kernel_rfl
@[go_sem] theorem arrT_47 : arrT Try.prog 47 = none := by kernel_rfl
@[go_sem] theorem aggT_47 : aggT Try.prog 47 = some true := by kernel_rfl
@[go_sem] theorem intT_47 : intT Try.prog 47 = none := by kernel_rfl
@[go_sem] theorem isBoolT_47 : isBoolT Try.prog 47 = false := by kernel_rfl
@[go_sem] theorem infoT_47 : (Try.prog.info? 47).isSome = true := by kernel_rfl
@[go_sem] theorem plainIface_47 : plainIface Try.prog 47 = true := by kernel_rfl
@[go_sem] theorem zeroT_47 : zeroT Try.prog 47 = some [.nils, .d (.int .i64 0), .d (.int .i64 0), .nils] := by kernel_rfl
@[go_sem] theorem zeroD_47 : zeroD Try.prog 47 = some (.agg [(.sl []), (.int .i64 0), (.int .i64 0), (.sl [])]) := by kernel_rfl
@[go_sem] theorem placesT_47 : placesT Try.prog 47 = some [(0, 3), (3, 1)] := by kernel_rfl
@[go_sem] theorem cellsOf_52 : Try.prog.cellsOf 52 = 1 := by kernel_rfl
@[go_sem] theorem bytesOf_52 : Try.prog.bytesOf 52 = 8 := by kernel_rfl
@[go_sem] theorem sliceT_52 : sliceT Try.prog 52 = none := by kernel_rfl
@[go_sem] theorem arrT_52 : arrT Try.prog 52 = none := by kernel_rfl
@[go_sem] theorem aggT_52 : aggT Try.prog 52 = some false := by kernel_rfl
@[go_sem] theorem intT_52 : intT Try.prog 52 = none := by kernel_rfl
@[go_sem] theorem isBoolT_52 : isBoolT Try.prog 52 = false := by kernel_rfl
@[go_sem] theorem infoT_52 : (Try.prog.info? 52).isSome = true := by kernel_rfl
@[go_sem] theorem plainIface_52 : plainIface Try.prog 52 = true := by kernel_rfl
@[go_sem] theorem cellsOf_59 : Try.prog.cellsOf 59 = 1 := by kernel_rfl
@[go_sem] theorem bytesOf_59 : Try.prog.bytesOf 59 = 24 := by kernel_rfl
@[go_sem] theorem sliceT_59 : sliceT Try.prog 59 = some 102 := by kernel_rfl
@[go_sem] theorem arrT_59 : arrT Try.prog 59 = none := by kernel_rfl
@[go_sem] theorem aggT_59 : aggT Try.prog 59 = some false := by kernel_rfl
@[go_sem] theorem intT_59 : intT Try.prog 59 = none := by kernel_rfl
@[go_sem] theorem isBoolT_59 : isBoolT Try.prog 59 = false := by kernel_rfl
@[go_sem] theorem infoT_59 : (Try.prog.info? 59).isSome = true := by kernel_rfl
@[go_sem] theorem plainIface_59 : plainIface Try.prog 59 = true := by kernel_rfl
@[go_sem] theorem undT_59 : Try.prog.underlying 59 = some (.slice 102) := by kernel_rfl
@[go_sem] theorem zeroT_59 : zeroT Try.prog 59 = some [.nils] := by kernel_rfl
@[go_sem] theorem zeroD_59 : zeroD Try.prog 59 = some (.sl []) := by kernel_rfl
@[go_sem] theorem cellsOf_68 : Try.prog.cellsOf 68 = 2 := by kernel_rfl
@[go_sem] theorem bytesOf_68 : Try.prog.bytesOf 68 = 16 := by kernel_rfl
@[go_sem] theorem sliceT_68 : sliceT Try.prog 68 = none := by kernel_rfl
@[go_sem] theorem arrT_68 : arrT Try.prog 68 = none := by kernel_rfl
@[go_sem] theorem aggT_68 : aggT Try.prog 68 = some true := by kernel_rfl
@[go_sem] theorem intT_68 : intT Try.prog 68 = none := by kernel_rfl
@[go_sem] theorem isBoolT_68 : isBoolT Try.prog 68 = false := by kernel_rfl
@[go_sem] theorem infoT_68 : (Try.prog.info? 68).isSome = true := by kernel_rfl
@[go_sem] theorem plainIface_68 : plainIface Try.prog 68 = true := by kernel_rfl
@[go_sem] theorem zeroT_68 : zeroT Try.prog 68 = some [.d (.int .i64 0), .d (.int .i64 0)] := by kernel_rfl
@[go_sem] theorem zeroD_68 : zeroD Try.prog 68 = some (.agg [(.int .i64 0), (.int .i64 0)]) := by kernel_rfl
@[go_sem] theorem placesT_68 : placesT Try.prog 68 = some [(0, 1), (1, 1)] := by kernel_rfl
@[go_sem] theorem cellsOf_75 : Try.prog.cellsOf 75 = 1 := by kernel_rfl
@[go_sem] theorem bytesOf_75 : Try.prog.bytesOf 75 = 8 := by kernel_rfl
@[go_sem] theorem sliceT_75 : sliceT Try.prog 75 = none := by kernel_rfl
@[go_sem] theorem arrT_75 : arrT Try.prog 75 = none := by kernel_rfl
@[go_sem] theorem aggT_75 : aggT Try.prog 75 = some false := by kernel_rfl
@[go_sem] theorem intT_75 : intT Try.prog 75 = none := by kernel_rfl
@[go_sem] theorem isBoolT_75 : isBoolT Try.prog 75 = false := by kernel_rfl
@[go_sem] theorem infoT_75 : (Try.prog.info? 75).isSome = true := by kernel_rfl
@[go_sem] theorem plainIface_75 : plainIface Try.prog 75 = true := by kernel_rfl
@[go_sem] theorem cellsOf_78 : Try.prog.cellsOf 78 = 1 := by kernel_rfl
@[go_sem] theorem bytesOf_78 : Try.prog.bytesOf 78 = 8 := by kernel_rfl
@[go_sem] theorem sliceT_78 : sliceT Try.prog 78 = none := by kernel_rfl
@[go_sem] theorem arrT_78 : arrT Try.prog 78 = none := by kernel_rfl
@[go_sem] theorem aggT_78 : aggT Try.prog 78 = some false := by kernel_rfl
@[go_sem] theorem intT_78 : intT Try.prog 78 = none := by kernel_rfl
@[go_sem] theorem isBoolT_78 : isBoolT Try.prog 78 = false := by kernel_rfl
@[go_sem] theorem infoT_78 : (Try.prog.info? 78).isSome = true := by kernel_rfl
@[go_sem] theorem plainIface_78 : plainIface Try.prog 78 = true := by kernel_rfl
@[go_sem] theorem cellsOf_89 : Try.prog.cellsOf 89 = 1 := by kernel_rfl
@[go_sem] theorem bytesOf_89 : Try.prog.bytesOf 89 = 24 := by kernel_rfl
@[go_sem] theorem sliceT_89 : sliceT Try.prog 89 = some 90 := by kernel_rfl
@[go_sem] theorem arrT_89 : arrT Try.prog 89 = none := by kernel_rfl
@[go_sem] theorem aggT_89 : aggT Try.prog 89 = some false := by kernel_rfl
@[go_sem] theorem intT_89 : intT Try.prog 89 = none := by kernel_rfl
@[go_sem] theorem isBoolT_89 : isBoolT Try.prog 89 = false := by kernel_rfl
@[go_sem] theorem infoT_89 : (Try.prog.info? 89).isSome = true := by kernel_rfl
@[go_sem] theorem plainIface_89 : plainIface Try.prog 89 = true := by kernel_rfl
@[go_sem] theorem undT_89 : Try.prog.underlying 89 = some (.slice 90) := by kernel_rfl
@[go_sem] theorem zeroT_89 : zeroT Try.prog 89 = some [.nils] := by kernel_rfl
@[go_sem] theorem zeroD_89 : zeroD Try.prog 89 = some (.sl []) := by kernel_rfl
@[go_sem] theorem cellsOf_90 : Try.prog.cellsOf 90 = 2 := by kernel_rfl
@[go_sem] theorem bytesOf_90 : Try.prog.bytesOf 90 = 16 := by kernel_rfl
@[go_sem] theorem sliceT_90 : sliceT Try.prog 90 = none := by kernel_rfl
@[go_sem] theorem arrT_90 : arrT Try.prog 90 = none := by kernel_rfl
@[go_sem] theorem aggT_90 : aggT Try.prog 90 = some true := by kernel_rfl
@[go_sem] theorem intT_90 : intT Try.prog 90 = none := by kernel_rfl
@[go_sem] theorem isBoolT_90 : isBoolT Try.prog 90 = false := by kernel_rfl
@[go_sem] theorem infoT_90 : (Try.prog.info? 90).isSome = true := by kernel_rfl
@[go_sem] theorem plainIface_90 : plainIface Try.prog 90 = true := by kernel_rfl
@[go_sem] theorem zeroT_90 : zeroT Try.prog 90 = some [.d (.int .i64 0), .d (.int .i64 0)] := by kernel_rfl
@[go_sem] theorem zeroD_90 : zeroD Try.prog 90 = some (.agg [(.int .i64 0), (.int .i64 0)]) := by kernel_rfl
@[go_sem] theorem placesT_90 : placesT Try.prog 90 = some [(0, 1), (1, 1)] := by kernel_rfl
@[go_sem] theorem cellsOf_97 : Try.prog.cellsOf 97 = 1 := by kernel_rfl
@[go_sem] theorem bytesOf_97 : Try.prog.bytesOf 97 = 24 := by kernel_rfl
@[go_sem] theorem sliceT_97 : sliceT Try.prog 97 = some 24 := by kernel_rfl
@[go_sem] theorem arrT_97 : arrT Try.prog 97 = none := by kernel_rfl
@[go_sem] theorem aggT_97 : aggT Try.prog 97 = some false := by kernel_rfl
@[go_sem] theorem intT_97 : intT Try.prog 97 = none := by kernel_rfl
@[go_sem] theorem isBoolT_97 : isBoolT Try.prog 97 = false := by kernel_rfl
@[go_sem] theorem infoT_97 : (Try.prog.info? 97).isSome = true := by kernel_rfl
@[go_sem] theorem plainIface_97 : plainIface Try.prog 97 = true := by kernel_rfl
@[go_sem] theorem undT_97 : Try.prog.underlying 97 = some (.slice 24) := by kernel_rfl
@[go_sem] theorem zeroT_97 : zeroT Try.prog 97 = some [.nils] := by kernel_rfl
@[go_sem] theorem zeroD_97 : zeroD Try.prog 97 = some (.sl []) := by kernel_rfl
@[go_sem] theorem cellsOf_101 : Try.prog.cellsOf 101 = 1 := by kernel_rfl
@[go_sem] theorem bytesOf_101 : Try.prog.bytesOf 101 = 1 := by kernel_rfl
@[go_sem] theorem sliceT_101 : sliceT Try.prog 101 = none := by kernel_rfl
@[go_sem] theorem arrT_101 : arrT Try.prog 101 = none := by kernel_rfl
@[go_sem] theorem aggT_101 : aggT Try.prog 101 = some false := by kernel_rfl
@[go_sem] theorem intT_101 : intT Try.prog 101 = some .i8 := by kernel_rfl
@[go_sem] theorem isBoolT_101 : isBoolT Try.prog 101 = false := by kernel_rfl
@[go_sem] theorem infoT_101 : (Try.prog.info? 101).isSome = true := by kernel_rfl
@[go_sem] theorem plainIface_101 : plainIface Try.prog 101 = true := by kernel_rfl
@[go_sem] theorem undT_101 : Try.prog.underlying 101 = some (.int .i8) := by kernel_rfl
@[go_sem] theorem zeroT_101 : zeroT Try.prog 101 = some [.d (.int .i8 0)] := by kernel_rfl
@[go_sem] theorem zeroD_101 : zeroD Try.prog 101 = some (.int .i8 0) := by kernel_rfl
@[go_sem] theorem cellsOf_102 : Try.prog.cellsOf 102 = 2 := by kernel_rfl
@[go_sem] theorem bytesOf_102 : Try.prog.bytesOf 102 = 2 := by kernel_rfl
@[go_sem] theorem sliceT_102 : sliceT Try.prog 102 = none := by kernel_rfl
@[go_sem] theorem arrT_102 : arrT Try.prog 102 = some (2, 101) := by kernel_rfl
@[go_sem] theorem aggT_102 : aggT Try.prog 102 = some true := by kernel_rfl
@[go_sem] theorem intT_102 : intT Try.prog 102 = none := by kernel_rfl
@[go_sem] theorem isBoolT_102 : isBoolT Try.prog 102 = false := by kernel_rfl
@[go_sem] theorem infoT_102 : (Try.prog.info? 102).isSome = true := by kernel_rfl
@[go_sem] theorem plainIface_102 : plainIface Try.prog 102 = true := by kernel_rfl
@[go_sem] theorem undT_102 : Try.prog.underlying 102 = some (.array 2 101) := by kernel_rfl
@[go_sem] theorem zeroT_102 : zeroT Try.prog 102 = some [.d (.int .i8 0), .d (.int .i8 0)] := by kernel_rfl
@[go_sem] theorem zeroD_102 : zeroD Try.prog 102 = some (.agg [(.int .i8 0), (.int .i8 0)]) := by kernel_rfl
@[go_sem] theorem cellsOf_105 : Try.prog.cellsOf 105 = 1 := by kernel_rfl
@[go_sem] theorem bytesOf_105 : Try.prog.bytesOf 105 = 8 := by kernel_rfl
@[go_sem] theorem sliceT_105 : sliceT Try.prog 105 = none := by kernel_rfl
@[go_sem] theorem arrT_105 : arrT Try.prog 105 = none := by kernel_rfl
@[go_sem] theorem aggT_105 : aggT Try.prog 105 = some false := by kernel_rfl
@[go_sem] theorem intT_105 : intT Try.prog 105 = none := by kernel_rfl
@[go_sem] theorem isBoolT_105 : isBoolT Try.prog 105 = false := by kernel_rfl
@[go_sem] theorem infoT_105 : (Try.prog.info? 105).isSome = true := by kernel_rfl
@[go_sem] theorem plainIface_105 : plainIface Try.prog 105 = true := by kernel_rfl
@[go_sem] theorem zeroT_105 : zeroT Try.prog 105 = some [.d .nilp] := by kernel_rfl
@[go_sem] theorem zeroD_105 : zeroD Try.prog 105 = some .nilp := by kernel_rfl
@[go_sem] theorem cellsOf_107 : Try.prog.cellsOf 107 = 3 := by kernel_rfl
@[go_sem] theorem bytesOf_107 : Try.prog.bytesOf 107 = 56 := by kernel_rfl
@[go_sem] theorem sliceT_107 : sliceT Try.prog 107 = none := by kernel_rfl
@[go_sem] theorem arrT_107 : arrT Try.prog 107 = none := by kernel_rfl
@[go_sem] theorem aggT_107 : aggT Try.prog 107 = some true := by kernel_rfl
@[go_sem] theorem intT_107 : intT Try.prog 107 = none := by kernel_rfl
@[go_sem] theorem isBoolT_107 : isBoolT Try.prog 107 = false := by kernel_rfl
@[go_sem] theorem infoT_107 : (Try.prog.info? 107).isSome = true := by kernel_rfl
@[go_sem] theorem plainIface_107 : plainIface Try.prog 107 = true := by kernel_rfl
@[go_sem] theorem zeroT_107 : zeroT Try.prog 107 = some [.d (.int .i64 0), .nils, .nils] := by kernel_rfl
@[go_sem] theorem zeroD_107 : zeroD Try.prog 107 = some (.agg [(.int .i64 0), (.sl []), (.sl [])]) := by kernel_rfl
@[go_sem] theorem placesT_107 : placesT Try.prog 107 = some [(0, 2), (2, 1)] := by kernel_rfl
@[go_sem] theorem cellsOf_110 : Try.prog.cellsOf 110 = 5 := by kernel_rfl
@[go_sem] theorem bytesOf_110 : Try.prog.bytesOf 110 = 40 := by kernel_rfl
@[go_sem] theorem sliceT_110 : sliceT Try.prog 110 = none := by kernel_rfl
@[go_sem] theorem arrT_110 : arrT Try.prog 110 = some (5, 3) := by kernel_rfl
@[go_sem] theorem aggT_110 : aggT Try.prog 110 = some true := by kernel_rfl
@[go_sem] theorem intT_110 : intT Try.prog 110 = none := by kernel_rfl
@[go_sem] theorem isBoolT_110 : isBoolT Try.prog 110 = false := by kernel_rfl
@[go_sem] theorem infoT_110 : (Try.prog.info? 110).isSome = true := by kernel_rfl
@[go_sem] theorem plainIface_110 : plainIface Try.prog 110 = true := by kernel_rfl
@[go_sem] theorem undT_110 : Try.prog.underlying 110 = some (.array 5 3) := by kernel_rfl
@[go_sem] theorem zeroT_110 : zeroT Try.prog 110 = some [.d (.int .i64 0), .d (.int .i64 0), .d (.int .i64 0), .d (.int .i64 0), .d (.int .i64 0)] := by kernel_rfl
@[go_sem] theorem zeroD_110 : zeroD Try.prog 110 = some (.agg [(.int .i64 0), (.int .i64 0), (.int .i64 0), (.int .i64 0), (.int .i64 0)]) := by kernel_rfl
@[go_sem] theorem placesT_110 : placesT Try.prog 110 = some [(0, 1), (1, 1), (2, 1), (3, 1), (4, 1)] := by kernel_rfl
@[go_sem] theorem cellsOf_112 : Try.prog.cellsOf 112 = 7 := by kernel_rfl
@[go_sem] theorem bytesOf_112 : Try.prog.bytesOf 112 = 56 := by kernel_rfl
@[go_sem] theorem sliceT_112 : sliceT Try.prog 112 = none := by kernel_rfl
@[go_sem] theorem arrT_112 : arrT Try.prog 112 = none := by kernel_rfl
@[go_sem] theorem aggT_112 : aggT Try.prog 112 = some true := by kernel_rfl
@[go_sem] theorem intT_112 : intT Try.prog 112 = none := by kernel_rfl
@[go_sem] theorem isBoolT_112 : isBoolT Try.prog 112 = false := by kernel_rfl
@[go_sem] theorem infoT_112 : (Try.prog.info? 112).isSome = true := by kernel_rfl
@[go_sem] theorem plainIface_112 : plainIface Try.prog 112 = true := by kernel_rfl
@[go_sem] theorem zeroT_112 : zeroT Try.prog 112 = some [.d (.int .i64 0), .d (.int .i64 0), .d (.int .i64 0), .d (.int .i64 0), .d (.int .i64 0), .d (.int .i64 0), .d (.int .i64 0)] := by kernel_rfl
@[go_sem] theorem zeroD_112 : zeroD Try.prog 112 = some (.agg [(.int .i64 0), (.int .i64 0), (.int .i64 0), (.int .i64 0), (.int .i64 0), (.int .i64 0), (.int .i64 0)]) := by kernel_rfl
@[go_sem] theorem placesT_112 : placesT Try.prog 112 = some [(0, 5), (5, 1), (6, 1)] := by kernel_rfl
@[go_sem] theorem cellsOf_117 : Try.prog.cellsOf 117 = 1 := by kernel_rfl
@[go_sem] theorem bytesOf_117 : Try.prog.bytesOf 117 = 8 := by kernel_rfl
@[go_sem] theorem sliceT_117 : sliceT Try.prog 117 = none := by kernel_rfl
@[go_sem] theorem arrT_117 : arrT Try.prog 117 = none := by kernel_rfl
@[go_sem] theorem aggT_117 : aggT Try.prog 117 = some false := by kernel_rfl
@[go_sem] theorem intT_117 : intT Try.prog 117 = none := by kernel_rfl
@[go_sem] theorem isBoolT_117 : isBoolT Try.prog 117 = false := by kernel_rfl
@[go_sem] theorem infoT_117 : (Try.prog.info? 117).isSome = true := by kernel_rfl
@[go_sem] theorem plainIface_117 : plainIface Try.prog 117 = true := by kernel_rfl
@[go_sem] theorem cellsOf_119 : Try.prog.cellsOf 119 = 0 := by kernel_rfl
@[go_sem] theorem bytesOf_119 : Try.prog.bytesOf 119 = 0 := by kernel_rfl
@[go_sem] theorem sliceT_119 : sliceT Try.prog 119 = none := by kernel_rfl
@[go_sem] theorem arrT_119 : arrT Try.prog 119 = none := by kernel_rfl
@[go_sem] theorem aggT_119 : aggT Try.prog 119 = some true := by kernel_rfl
@[go_sem] theorem intT_119 : intT Try.prog 119 = none := by kernel_rfl
@[go_sem] theorem isBoolT_119 : isBoolT Try.prog 119 = false := by kernel_rfl
@[go_sem] theorem infoT_119 : (Try.prog.info? 119).isSome = true := by kernel_rfl
@[go_sem] theorem plainIface_119 : plainIface Try.prog 119 = true := by kernel_rfl
@[go_sem] theorem zeroT_119 : zeroT Try.prog 119 = some [] := by kernel_rfl
@[go_sem] theorem zeroD_119 : zeroD Try.prog 119 = some (.agg []) := by kernel_rfl
@[go_sem] theorem placesT_119 : placesT Try.prog 119 = some [] := by kernel_rfl
@[go_sem] theorem cellsOf_127 : Try.prog.cellsOf 127 = 3 := by kernel_rfl
@[go_sem] theorem bytesOf_127 : Try.prog.bytesOf 127 = 24 := by kernel_rfl
@[go_sem] theorem sliceT_127 : sliceT Try.prog 127 = none := by kernel_rfl
@[go_sem] theorem arrT_127 : arrT Try.prog 127 = none := by kernel_rfl
@[go_sem] theorem aggT_127 : aggT Try.prog 127 = some true := by kernel_rfl
@[go_sem] theorem intT_127 : intT Try.prog 127 = none := by kernel_rfl
@[go_sem] theorem isBoolT_127 : isBoolT Try.prog 127 = false := by kernel_rfl
@[go_sem] theorem infoT_127 : (Try.prog.info? 127).isSome = true := by kernel_rfl
@[go_sem] theorem plainIface_127 : plainIface Try.prog 127 = true := by kernel_rfl
@[go_sem] theorem zeroT_127 : zeroT Try.prog 127 = some [.d (.int .i64 0), .d (.int .i64 0), .d (.bool false)] := by kernel_rfl
@[go_sem] theorem zeroD_127 : zeroD Try.prog 127 = some (.agg [(.int .i64 0), (.int .i64 0), (.bool false)]) := by kernel_rfl
@[go_sem] theorem placesT_127 : placesT Try.prog 127 = some [(0, 2), (2, 1)] := by kernel_rfl
@[go_sem] theorem cellsOf_129 : Try.prog.cellsOf 129 = 4 := by kernel_rfl
@[go_sem] theorem bytesOf_129 : Try.prog.bytesOf 129 = 32 := by kernel_rfl
@[go_sem] theorem sliceT_129 : sliceT Try.prog 129 = none := by kernel_rfl
@[go_sem] theorem arrT_129 : arrT Try.prog 129 = none := by kernel_rfl
@[go_sem] theorem aggT_129 : aggT Try.prog 129 = some true := by kernel_rfl
@[go_sem] theorem intT_129 : intT Try.prog 129 = none := by kernel_rfl
@[go_sem] theorem isBoolT_129 : isBoolT Try.prog 129 = false := by kernel_rfl
@[go_sem] theorem infoT_129 : (Try.prog.info? 129).isSome = true := by kernel_rfl
@[go_sem] theorem plainIface_129 : plainIface Try.prog 129 = true := by kernel_rfl
@[go_sem] theorem zeroT_129 : zeroT Try.prog 129 = some [.d (.int .i64 0), .d (.int .i64 0), .d (.bool false), .d (.bool false)] := by kernel_rfl
@[go_sem] theorem zeroD_129 : zeroD Try.prog 129 = some (.agg [(.int .i64 0), (.int .i64 0), (.bool false), (.bool false)]) := by kernel_rfl
@[go_sem] theorem cellsOf_132 : Try.prog.cellsOf 132 = 1 := by kernel_rfl
@[go_sem] theorem bytesOf_132 : Try.prog.bytesOf 132 = 8 := by kernel_rfl
@[go_sem] theorem sliceT_132 : sliceT Try.prog 132 = none := by kernel_rfl
@[go_sem] theorem arrT_132 : arrT Try.prog 132 = none := by kernel_rfl
@[go_sem] theorem aggT_132 : aggT Try.prog 132 = some false := by kernel_rfl
@[go_sem] theorem intT_132 : intT Try.prog 132 = none := by kernel_rfl
@[go_sem] theorem isBoolT_132 : isBoolT Try.prog 132 = false := by kernel_rfl
@[go_sem] theorem infoT_132 : (Try.prog.info? 132).isSome = true := by kernel_rfl
@[go_sem] theorem plainIface_132 : plainIface Try.prog 132 = true := by kernel_rfl
@[go_sem] theorem cellsOf_136 : Try.prog.cellsOf 136 = 4 := by kernel_rfl
@[go_sem] theorem bytesOf_136 : Try.prog.bytesOf 136 = 32 := by kernel_rfl
@[go_sem] theorem sliceT_136 : sliceT Try.prog 136 = none := by kernel_rfl
@[go_sem] theorem arrT_136 : arrT Try.prog 136 = none := by kernel_rfl
@[go_sem] theorem aggT_136 : aggT Try.prog 136 = some true := by kernel_rfl
@[go_sem] theorem intT_136 : intT Try.prog 136 = none := by kernel_rfl
@[go_sem] theorem isBoolT_136 : isBoolT Try.prog 136 = false := by kernel_rfl
@[go_sem] theorem infoT_136 : (Try.prog.info? 136).isSome = true := by kernel_rfl
@[go_sem] theorem plainIface_136 : plainIface Try.prog 136 = true := by kernel_rfl
@[go_sem] theorem zeroT_136 : zeroT Try.prog 136 = some [.d (.bool false), .d (.int .i64 0), .d (.int .i64 0), .d (.bool false)] := by kernel_rfl
@[go_sem] theorem zeroD_136 : zeroD Try.prog 136 = some (.agg [(.bool false), (.int .i64 0), (.int .i64 0), (.bool false)]) := by kernel_rfl
@[go_sem] theorem placesT_136 : placesT Try.prog 136 = some [(0, 1), (1, 2), (3, 1)] := by kernel_rfl
@[go_sem] theorem cellsOf_147 : Try.prog.cellsOf 147 = 1 := by kernel_rfl
@[go_sem] theorem bytesOf_147 : Try.prog.bytesOf 147 = 8 := by kernel_rfl
@[go_sem] theorem sliceT_147 : sliceT Try.prog 147 = none := by kernel_rfl
@[go_sem] theorem arrT_147 : arrT Try.prog 147 = none := by kernel_rfl
@[go_sem] theorem aggT_147 : aggT Try.prog 147 = some false := by kernel_rfl
@[go_sem] theorem intT_147 : intT Try.prog 147 = none := by kernel_rfl
@[go_sem] theorem isBoolT_147 : isBoolT Try.prog 147 = false := by kernel_rfl
@[go_sem] theorem infoT_147 : (Try.prog.info? 147).isSome = true := by kernel_rfl
@[go_sem] theorem plainIface_147 : plainIface Try.prog 147 = true := by kernel_rfl
@[go_sem] theorem fieldT_24_0 : fieldT Try.prog 24 0 = some 0 := by kernel_rfl
@[go_sem] theorem fieldT_24_1 : fieldT Try.prog 24 1 = some 1 := by kernel_rfl
@[go_sem] theorem fieldT_45_0 : fieldT Try.prog 45 0 = some 0 := by kernel_rfl
@[go_sem] theorem fieldT_45_1 : fieldT Try.prog 45 1 = some 1 := by kernel_rfl
@[go_sem] theorem fieldT_45_2 : fieldT Try.prog 45 2 = some 2 := by kernel_rfl
@[go_sem] theorem fieldT_47_0 : fieldT Try.prog 47 0 = some 0 := by kernel_rfl
@[go_sem] theorem fieldT_47_1 : fieldT Try.prog 47 1 = some 3 := by kernel_rfl
@[go_sem] theorem fieldT_68_0 : fieldT Try.prog 68 0 = some 0 := by kernel_rfl
@[go_sem] theorem fieldT_68_1 : fieldT Try.prog 68 1 = some 1 := by kernel_rfl
@[go_sem] theorem fieldT_90_0 : fieldT Try.prog 90 0 = some 0 := by kernel_rfl
@[go_sem] theorem fieldT_90_1 : fieldT Try.prog 90 1 = some 1 := by kernel_rfl
@[go_sem] theorem fieldT_107_0 : fieldT Try.prog 107 0 = some 0 := by kernel_rfl
@[go_sem] theorem fieldT_107_1 : fieldT Try.prog 107 1 = some 2 := by kernel_rfl
@[go_sem] theorem fieldT_112_0 : fieldT Try.prog 112 0 = some 0 := by kernel_rfl
@[go_sem] theorem fieldT_112_1 : fieldT Try.prog 112 1 = some 5 := by kernel_rfl
@[go_sem] theorem fieldT_112_2 : fieldT Try.prog 112 2 = some 6 := by kernel_rfl
@[go_sem] theorem fieldT_127_0 : fieldT Try.prog 127 0 = some 0 := by kernel_rfl
@[go_sem] theorem fieldT_127_1 : fieldT Try.prog 127 1 = some 2 := by kernel_rfl
@[go_sem] theorem fieldT_129_0 : fieldT Try.prog 129 0 = some 0 := by kernel_rfl
@[go_sem] theorem fieldT_129_1 : fieldT Try.prog 129 1 = some 3 := by kernel_rfl
@[go_sem] theorem fieldT_136_0 : fieldT Try.prog 136 0 = some 0 := by kernel_rfl
@[go_sem] theorem fieldT_136_1 : fieldT Try.prog 136 1 = some 1 := by kernel_rfl
@[go_sem] theorem fieldT_136_2 : fieldT Try.prog 136 2 = some 3 := by kernel_rfl
end Go.Proofs.Ytaafchgfibbmhaa
namespace Go.Proofs.Ytaafchgfibbmhaa
attribute [go_sem_proc] Int.reduceBEq Int.reduceBNe Int.reduceLT Int.reduceLE Int.reduceEq Int.reduceNe Nat.reducePow Nat.reduceEqDiff Nat.reduceAdd Nat.reduceSub Nat.reduceMul Nat.reduceLeDiff Nat.reduceBEq Nat.reduceLT reduceIte reduceCtorEq
attribute [go_sem] List.range_zero Option.isSome_some and_self List.cons.injEq
abbrev D.i (n : Int) : D := .int .i64 n
theorem in_c (n low high : Int) : PCt Try.prog 56 [.i n, .i low, .i high] (.ret [.bool (decide (low ≤ n) && decide (n ≤ high))]) := by
  refine PCt.of_ev mix fn56 (by simp) ?_
  rw [c56]
  simp +contextual only [go_sem]
theorem within_c (n low high : Int) : PCt Try.prog 49 [.i n, .i low, .i high] (.ret [.bool (decide (low ≤ n) && decide (n ≤ high))]) := by
  refine PCt.of_ev mix fn49 (by simp) ?_
  rw [c49]
  simp +contextual only [go_sem]
def allF (cs : List Int) (most : Int) : Bool := cs.all fun c => decide (-most ≤ c) && decide (c ≤ most)
theorem all_c (cs : List Int) (most : Int) (hl : cs.length ≤ 9223372036854775807) (hm : -1000000000000 ≤ most ∧ most ≤ 1000000000000) : PCt Try.prog 73 [.sl (cs.map .i), .i most] (.ret [.bool (allF cs most)]) := by
  have hw : IntKind.i64.wrap (-most) = -most := wrap64 (by omega) (by omega)
  refine PCt.of_ev mix fn73 (by simp) ?_
  rw [c73]
  simp +contextual only [go_sem]
  refine loop_fam (fun k : Nat => ⟨envJ [.d (.sl (cs.map .i)), .d (.i most), .junk, .junk, .d (.bool false), .d (.i k)], put (fun _ => .no) [], 0⟩)
    (fun k => k ≤ cs.length ∧ allF (cs.take k) most = true) (fun k => cs.length - k) 0 ⟨Nat.zero_le _, rfl⟩
    (SLe.to _ [] 0 [] rfl rfl rfl rfl trivial trivial ?_) (fun k hk => ?_)
  · simp +contextual only [go_sem]
    simp
  · simp +contextual only [go_sem]
    refine cond_intro (fun h => ?_) (fun h => ?_)
    · simp at h
      obtain ⟨c, hc⟩ : ∃ c, cs[k]? = some c := ⟨cs[k], by simp [h]⟩
      simp +contextual only [go_sem, hc, hw]
      refine call_keep (in_c _ _ _) rfl ?_
      simp +contextual only [go_sem]
      refine cond_intro (fun h2 => ?_) (fun h2 => ?_)
      · simp +contextual only [go_sem]
        have : allF cs most = false := by
          rw [Bool.eq_false_iff]
          intro ha
          have := List.all_eq_true.1 ha c (List.mem_of_getElem? hc)
          simp [this] at h2
        rw [this]
      · simp +contextual only [go_sem]
        refine nextS_intro (k + 1) ⟨h, ?_⟩ (by omega) (SLe.to _ [] 0 [] rfl rfl rfl rfl trivial trivial ?_)
        · unfold allF at *
          rw [List.take_add_one, hc]
          simp at h2 hk ⊢
          exact ⟨hk.2, h2⟩
        · simp +contextual only [go_sem]
          simp
          rw [wrap64 (by omega) (by omega)]
    · simp +contextual only [go_sem]
      simp at h
      have := hk.2
      rw [List.take_of_length_le (by omega)] at this
      rw [this]
theorem rel_c (n : Int) : PCt Try.prog 72 [.i n] (.ret [.bool (decide (1 ≤ n) && decide (n ≤ 3))]) := by
  refine PCt.of_ev mix fn72 (by simp) ?_
  rw [c72]
  simp +contextual only [go_sem]
end Go.Proofs.Ytaafchgfibbmhaa
