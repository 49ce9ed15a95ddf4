/-
  THE SEAT'S TYPES, as facts for the symbolic evaluation, and each function's rule; written by program (wip/tools/gen3.py). Conditions: none.
-/
import Derived.Test.YtaafchgfibbmhaaCoreU
import Derived.Test.YtaafchgfibbmhaaTab
namespace Go.Proofs.Ytaafchgfibbmhaa
@[go_sem] theorem cellsOf_1 : Try.prog.cellsOf 1 = 1 := by kernel_rfl
@[go_sem] theorem bytesOf_1 : Try.prog.bytesOf 1 = 8 := by kernel_rfl
@[go_sem] theorem sliceT_1 : sliceT Try.prog 1 = none := by kernel_rfl
@[go_sem] theorem arrT_1 : arrT Try.prog 1 = none := by kernel_rfl
@[go_sem] theorem aggT_1 : aggT Try.prog 1 = some false := by kernel_rfl
@[go_sem] theorem intT_1 : intT Try.prog 1 = none := by kernel_rfl
@[go_sem] theorem isBoolT_1 : isBoolT Try.prog 1 = false := by kernel_rfl
@[go_sem] theorem infoT_1 : (Try.prog.info? 1).isSome = true := by kernel_rfl
@[go_sem] theorem plainIface_1 : plainIface Try.prog 1 = true := by kernel_rfl
@[go_sem] theorem cellsOf_3 : Try.prog.cellsOf 3 = 1 := by kernel_rfl
@[go_sem] theorem bytesOf_3 : Try.prog.bytesOf 3 = 8 := by kernel_rfl
@[go_sem] theorem sliceT_3 : sliceT Try.prog 3 = none := by kernel_rfl
@[go_sem] theorem arrT_3 : arrT Try.prog 3 = none := by kernel_rfl
@[go_sem] theorem aggT_3 : aggT Try.prog 3 = some false := by kernel_rfl
@[go_sem] theorem intT_3 : intT Try.prog 3 = some .i64 := by kernel_rfl
@[go_sem] theorem isBoolT_3 : isBoolT Try.prog 3 = false := by kernel_rfl
@[go_sem] theorem infoT_3 : (Try.prog.info? 3).isSome = true := by kernel_rfl
@[go_sem] theorem plainIface_3 : plainIface Try.prog 3 = true := by kernel_rfl
@[go_sem] theorem undT_3 : Try.prog.underlying 3 = some (.int .i64) := by kernel_rfl
@[go_sem] theorem zeroT_3 : zeroT Try.prog 3 = some [.d (.int .i64 0)] := by kernel_rfl
@[go_sem] theorem zeroD_3 : zeroD Try.prog 3 = some (.int .i64 0) := by kernel_rfl
@[go_sem] theorem cellsOf_4 : Try.prog.cellsOf 4 = 1 := by kernel_rfl
@[go_sem] theorem bytesOf_4 : Try.prog.bytesOf 4 = 1 := by kernel_rfl
@[go_sem] theorem sliceT_4 : sliceT Try.prog 4 = none := by kernel_rfl
@[go_sem] theorem arrT_4 : arrT Try.prog 4 = none := by kernel_rfl
@[go_sem] theorem aggT_4 : aggT Try.prog 4 = some false := by kernel_rfl
@[go_sem] theorem intT_4 : intT Try.prog 4 = none := by kernel_rfl
@[go_sem] theorem isBoolT_4 : isBoolT Try.prog 4 = true := by kernel_rfl
@[go_sem] theorem infoT_4 : (Try.prog.info? 4).isSome = true := by kernel_rfl
@[go_sem] theorem plainIface_4 : plainIface Try.prog 4 = true := by kernel_rfl
@[go_sem] theorem undT_4 : Try.prog.underlying 4 = some .bool := by kernel_rfl
@[go_sem] theorem zeroT_4 : zeroT Try.prog 4 = some [.d (.bool false)] := by kernel_rfl
@[go_sem] theorem zeroD_4 : zeroD Try.prog 4 = some (.bool false) := by kernel_rfl
@[go_sem] theorem cellsOf_5 : Try.prog.cellsOf 5 = 1 := by kernel_rfl
@[go_sem] theorem bytesOf_5 : Try.prog.bytesOf 5 = 1 := by kernel_rfl
@[go_sem] theorem sliceT_5 : sliceT Try.prog 5 = none := by kernel_rfl
@[go_sem] theorem arrT_5 : arrT Try.prog 5 = none := by kernel_rfl
@[go_sem] theorem aggT_5 : aggT Try.prog 5 = some false := by kernel_rfl
@[go_sem] theorem intT_5 : intT Try.prog 5 = some .u8 := by kernel_rfl
@[go_sem] theorem isBoolT_5 : isBoolT Try.prog 5 = false := by kernel_rfl
@[go_sem] theorem infoT_5 : (Try.prog.info? 5).isSome = true := by kernel_rfl
@[go_sem] theorem plainIface_5 : plainIface Try.prog 5 = true := by kernel_rfl
@[go_sem] theorem undT_5 : Try.prog.underlying 5 = some (.int .u8) := by kernel_rfl
@[go_sem] theorem zeroT_5 : zeroT Try.prog 5 = some [.d (.int .u8 0)] := by kernel_rfl
@[go_sem] theorem zeroD_5 : zeroD Try.prog 5 = some (.int .u8 0) := by kernel_rfl
@[go_sem] theorem cellsOf_20 : Try.prog.cellsOf 20 = 1 := by kernel_rfl
@[go_sem] theorem bytesOf_20 : Try.prog.bytesOf 20 = 16 := by kernel_rfl
@[go_sem] theorem sliceT_20 : sliceT Try.prog 20 = none := by kernel_rfl
@[go_sem] theorem arrT_20 : arrT Try.prog 20 = none := by kernel_rfl
@[go_sem] theorem aggT_20 : aggT Try.prog 20 = some false := by kernel_rfl
@[go_sem] theorem intT_20 : intT Try.prog 20 = none := by kernel_rfl
@[go_sem] theorem isBoolT_20 : isBoolT Try.prog 20 = false := by kernel_rfl
@[go_sem] theorem infoT_20 : (Try.prog.info? 20).isSome = true := by kernel_rfl
@[go_sem] theorem plainIface_20 : plainIface Try.prog 20 = false := by kernel_rfl
@[go_sem] theorem zeroT_20 : zeroT Try.prog 20 = some [.d .nili] := by kernel_rfl
@[go_sem] theorem zeroD_20 : zeroD Try.prog 20 = some .nili := by kernel_rfl
@[go_sem] theorem cellsOf_22 : Try.prog.cellsOf 22 = 1 := by kernel_rfl
@[go_sem] theorem bytesOf_22 : Try.prog.bytesOf 22 = 24 := by kernel_rfl
@[go_sem] theorem sliceT_22 : sliceT Try.prog 22 = some 45 := by kernel_rfl
@[go_sem] theorem arrT_22 : arrT Try.prog 22 = none := by kernel_rfl
@[go_sem] theorem aggT_22 : aggT Try.prog 22 = some false := by kernel_rfl
@[go_sem] theorem intT_22 : intT Try.prog 22 = none := by kernel_rfl
@[go_sem] theorem isBoolT_22 : isBoolT Try.prog 22 = false := by kernel_rfl
@[go_sem] theorem infoT_22 : (Try.prog.info? 22).isSome = true := by kernel_rfl
@[go_sem] theorem plainIface_22 : plainIface Try.prog 22 = true := by kernel_rfl
@[go_sem] theorem undT_22 : Try.prog.underlying 22 = some (.slice 45) := by kernel_rfl
@[go_sem] theorem zeroT_22 : zeroT Try.prog 22 = some [.nils] := by kernel_rfl
@[go_sem] theorem zeroD_22 : zeroD Try.prog 22 = some (.sl []) := by kernel_rfl
@[go_sem] theorem cellsOf_24 : Try.prog.cellsOf 24 = 2 := by kernel_rfl
@[go_sem] theorem bytesOf_24 : Try.prog.bytesOf 24 = 32 := by kernel_rfl
@[go_sem] theorem sliceT_24 : sliceT Try.prog 24 = none := by kernel_rfl
@[go_sem] theorem arrT_24 : arrT Try.prog 24 = none := by kernel_rfl
@[go_sem] theorem aggT_24 : aggT Try.prog 24 = some true := by kernel_rfl
@[go_sem] theorem intT_24 : intT Try.prog 24 = none := by kernel_rfl
@[go_sem] theorem isBoolT_24 : isBoolT Try.prog 24 = false := by kernel_rfl
@[go_sem] theorem infoT_24 : (Try.prog.info? 24).isSome = true := by kernel_rfl
@[go_sem] theorem plainIface_24 : plainIface Try.prog 24 = true := by kernel_rfl
@[go_sem] theorem zeroT_24 : zeroT Try.prog 24 = some [.d (.int .i64 0), .nils] := by kernel_rfl
@[go_sem] theorem zeroD_24 : zeroD Try.prog 24 = some (.agg [(.int .i64 0), (.sl [])]) := by kernel_rfl
@[go_sem] theorem placesT_24 : placesT Try.prog 24 = some [(0, 1), (1, 1)] := by kernel_rfl
@[go_sem] theorem cellsOf_25 : Try.prog.cellsOf 25 = 1 := by kernel_rfl
@[go_sem] theorem bytesOf_25 : Try.prog.bytesOf 25 = 24 := by kernel_rfl
@[go_sem] theorem sliceT_25 : sliceT Try.prog 25 = some 68 := by kernel_rfl
@[go_sem] theorem arrT_25 : arrT Try.prog 25 = none := by kernel_rfl
@[go_sem] theorem aggT_25 : aggT Try.prog 25 = some false := by kernel_rfl
@[go_sem] theorem intT_25 : intT Try.prog 25 = none := by kernel_rfl
@[go_sem] theorem isBoolT_25 : isBoolT Try.prog 25 = false := by kernel_rfl
@[go_sem] theorem infoT_25 : (Try.prog.info? 25).isSome = true := by kernel_rfl
@[go_sem] theorem plainIface_25 : plainIface Try.prog 25 = true := by kernel_rfl
@[go_sem] theorem undT_25 : Try.prog.underlying 25 = some (.slice 68) := by kernel_rfl
@[go_sem] theorem zeroT_25 : zeroT Try.prog 25 = some [.nils] := by kernel_rfl
@[go_sem] theorem zeroD_25 : zeroD Try.prog 25 = some (.sl []) := by kernel_rfl
@[go_sem] theorem cellsOf_28 : Try.prog.cellsOf 28 = 1 := by kernel_rfl
@[go_sem] theorem bytesOf_28 : Try.prog.bytesOf 28 = 8 := by kernel_rfl
@[go_sem] theorem sliceT_28 : sliceT Try.prog 28 = none := by kernel_rfl
@[go_sem] theorem arrT_28 : arrT Try.prog 28 = none := by kernel_rfl
@[go_sem] theorem aggT_28 : aggT Try.prog 28 = some false := by kernel_rfl
@[go_sem] theorem intT_28 : intT Try.prog 28 = some .i64 := by kernel_rfl
@[go_sem] theorem isBoolT_28 : isBoolT Try.prog 28 = false := by kernel_rfl
@[go_sem] theorem infoT_28 : (Try.prog.info? 28).isSome = true := by kernel_rfl
@[go_sem] theorem plainIface_28 : plainIface Try.prog 28 = true := by kernel_rfl
@[go_sem] theorem undT_28 : Try.prog.underlying 28 = some (.int .i64) := by kernel_rfl
@[go_sem] theorem zeroT_28 : zeroT Try.prog 28 = some [.d (.int .i64 0)] := by kernel_rfl
@[go_sem] theorem zeroD_28 : zeroD Try.prog 28 = some (.int .i64 0) := by kernel_rfl
@[go_sem] theorem cellsOf_34 : Try.prog.cellsOf 34 = 1 := by kernel_rfl
@[go_sem] theorem bytesOf_34 : Try.prog.bytesOf 34 = 24 := by kernel_rfl
@[go_sem] theorem sliceT_34 : sliceT Try.prog 34 = some 47 := by kernel_rfl
@[go_sem] theorem arrT_34 : arrT Try.prog 34 = none := by kernel_rfl
@[go_sem] theorem aggT_34 : aggT Try.prog 34 = some false := by kernel_rfl
@[go_sem] theorem intT_34 : intT Try.prog 34 = none := by kernel_rfl
@[go_sem] theorem isBoolT_34 : isBoolT Try.prog 34 = false := by kernel_rfl
@[go_sem] theorem infoT_34 : (Try.prog.info? 34).isSome = true := by kernel_rfl
@[go_sem] theorem plainIface_34 : plainIface Try.prog 34 = true := by kernel_rfl
@[go_sem] theorem undT_34 : Try.prog.underlying 34 = some (.slice 47) := by kernel_rfl
@[go_sem] theorem zeroT_34 : zeroT Try.prog 34 = some [.nils] := by kernel_rfl
@[go_sem] theorem zeroD_34 : zeroD Try.prog 34 = some (.sl []) := by kernel_rfl
@[go_sem] theorem cellsOf_37 : Try.prog.cellsOf 37 = 1 := by kernel_rfl
@[go_sem] theorem bytesOf_37 : Try.prog.bytesOf 37 = 24 := by kernel_rfl
@[go_sem] theorem sliceT_37 : sliceT Try.prog 37 = some 34 := by kernel_rfl
@[go_sem] theorem arrT_37 : arrT Try.prog 37 = none := by kernel_rfl
@[go_sem] theorem aggT_37 : aggT Try.prog 37 = some false := by kernel_rfl
@[go_sem] theorem intT_37 : intT Try.prog 37 = none := by kernel_rfl
@[go_sem] theorem isBoolT_37 : isBoolT Try.prog 37 = false := by kernel_rfl
@[go_sem] theorem infoT_37 : (Try.prog.info? 37).isSome = true := by kernel_rfl
@[go_sem] theorem plainIface_37 : plainIface Try.prog 37 = true := by kernel_rfl
@[go_sem] theorem undT_37 : Try.prog.underlying 37 = some (.slice 34) := by kernel_rfl
@[go_sem] theorem zeroT_37 : zeroT Try.prog 37 = some [.nils] := by kernel_rfl
@[go_sem] theorem zeroD_37 : zeroD Try.prog 37 = some (.sl []) := by kernel_rfl
@[go_sem] theorem cellsOf_42 : Try.prog.cellsOf 42 = 1 := by kernel_rfl
@[go_sem] theorem bytesOf_42 : Try.prog.bytesOf 42 = 24 := by kernel_rfl
@[go_sem] theorem sliceT_42 : sliceT Try.prog 42 = some 3 := by kernel_rfl
@[go_sem] theorem arrT_42 : arrT Try.prog 42 = none := by kernel_rfl
@[go_sem] theorem aggT_42 : aggT Try.prog 42 = some false := by kernel_rfl
@[go_sem] theorem intT_42 : intT Try.prog 42 = none := by kernel_rfl
@[go_sem] theorem isBoolT_42 : isBoolT Try.prog 42 = false := by kernel_rfl
@[go_sem] theorem infoT_42 : (Try.prog.info? 42).isSome = true := by kernel_rfl
@[go_sem] theorem plainIface_42 : plainIface Try.prog 42 = true := by kernel_rfl
@[go_sem] theorem undT_42 : Try.prog.underlying 42 = some (.slice 3) := by kernel_rfl
@[go_sem] theorem zeroT_42 : zeroT Try.prog 42 = some [.nils] := by kernel_rfl
@[go_sem] theorem zeroD_42 : zeroD Try.prog 42 = some (.sl []) := by kernel_rfl
@[go_sem] theorem cellsOf_43 : Try.prog.cellsOf 43 = 1 := by kernel_rfl
@[go_sem] theorem bytesOf_43 : Try.prog.bytesOf 43 = 8 := by kernel_rfl
@[go_sem] theorem sliceT_43 : sliceT Try.prog 43 = none := by kernel_rfl
@[go_sem] theorem arrT_43 : arrT Try.prog 43 = none := by kernel_rfl
@[go_sem] theorem aggT_43 : aggT Try.prog 43 = some false := by kernel_rfl
@[go_sem] theorem intT_43 : intT Try.prog 43 = some .i64 := by kernel_rfl
@[go_sem] theorem isBoolT_43 : isBoolT Try.prog 43 = false := by kernel_rfl
@[go_sem] theorem infoT_43 : (Try.prog.info? 43).isSome = true := by kernel_rfl
@[go_sem] theorem plainIface_43 : plainIface Try.prog 43 = true := by kernel_rfl
@[go_sem] theorem undT_43 : Try.prog.underlying 43 = some (.int .i64) := by kernel_rfl
@[go_sem] theorem zeroT_43 : zeroT Try.prog 43 = some [.d (.int .i64 0)] := by kernel_rfl
@[go_sem] theorem zeroD_43 : zeroD Try.prog 43 = some (.int .i64 0) := by kernel_rfl
@[go_sem] theorem cellsOf_45 : Try.prog.cellsOf 45 = 3 := by kernel_rfl
@[go_sem] theorem bytesOf_45 : Try.prog.bytesOf 45 = 40 := by kernel_rfl
@[go_sem] theorem sliceT_45 : sliceT Try.prog 45 = none := by kernel_rfl
@[go_sem] theorem arrT_45 : arrT Try.prog 45 = none := by kernel_rfl
@[go_sem] theorem aggT_45 : aggT Try.prog 45 = some true := by kernel_rfl
@[go_sem] theorem intT_45 : intT Try.prog 45 = none := by kernel_rfl
@[go_sem] theorem isBoolT_45 : isBoolT Try.prog 45 = false := by kernel_rfl
@[go_sem] theorem infoT_45 : (Try.prog.info? 45).isSome = true := by kernel_rfl
@[go_sem] theorem plainIface_45 : plainIface Try.prog 45 = true := by kernel_rfl
@[go_sem] theorem zeroT_45 : zeroT Try.prog 45 = some [.nils, .d (.int .i64 0), .d (.int .i64 0)] := by kernel_rfl
@[go_sem] theorem zeroD_45 : zeroD Try.prog 45 = some (.agg [(.sl []), (.int .i64 0), (.int .i64 0)]) := by kernel_rfl
@[go_sem] theorem placesT_45 : placesT Try.prog 45 = some [(0, 1), (1, 1), (2, 1)] := by kernel_rfl
@[go_sem] theorem cellsOf_47 : Try.prog.cellsOf 47 = 4 := by kernel_rfl
@[go_sem] theorem bytesOf_47 : Try.prog.bytesOf 47 = 64 := by kernel_rfl
@[go_sem] theorem sliceT_47 : sliceT Try.prog 47 = none := by kernel_rfl
@[go_sem] theorem arrT_47 : arrT Try.prog 47 = none := by kernel_rfl
@[go_sem] theorem aggT_47 : aggT Try.prog 47 = some true := by kernel_rfl
@[go_sem] theorem intT_47 : intT Try.prog 47 = none := by kernel_rfl
@[go_sem] theorem isBoolT_47 : isBoolT Try.prog 47 = false := by kernel_rfl
@[go_sem] theorem infoT_47 : (Try.prog.info? 47).isSome = true := by kernel_rfl
@[go_sem] theorem plainIface_47 : plainIface Try.prog 47 = true := by kernel_rfl
@[go_sem] theorem zeroT_47 : zeroT Try.prog 47 = some [.nils, .d (.int .i64 0), .d (.int .i64 0), .nils] := by kernel_rfl
@[go_sem] theorem zeroD_47 : zeroD Try.prog 47 = some (.agg [(.sl []), (.int .i64 0), (.int .i64 0), (.sl [])]) := by kernel_rfl
@[go_sem] theorem placesT_47 : placesT Try.prog 47 = some [(0, 3), (3, 1)] := by kernel_rfl
@[go_sem] theorem cellsOf_52 : Try.prog.cellsOf 52 = 1 := by kernel_rfl
@[go_sem] theorem bytesOf_52 : Try.prog.bytesOf 52 = 8 := by kernel_rfl
@[go_sem] theorem sliceT_52 : sliceT Try.prog 52 = none := by kernel_rfl
@[go_sem] theorem arrT_52 : arrT Try.prog 52 = none := by kernel_rfl
@[go_sem] theorem aggT_52 : aggT Try.prog 52 = some false := by kernel_rfl
@[go_sem] theorem intT_52 : intT Try.prog 52 = none := by kernel_rfl
@[go_sem] theorem isBoolT_52 : isBoolT Try.prog 52 = false := by kernel_rfl
@[go_sem] theorem infoT_52 : (Try.prog.info? 52).isSome = true := by kernel_rfl
@[go_sem] theorem plainIface_52 : plainIface Try.prog 52 = true := by kernel_rfl
@[go_sem] theorem cellsOf_59 : Try.prog.cellsOf 59 = 1 := by kernel_rfl
@[go_sem] theorem bytesOf_59 : Try.prog.bytesOf 59 = 24 := by kernel_rfl
@[go_sem] theorem sliceT_59 : sliceT Try.prog 59 = some 102 := by kernel_rfl
@[go_sem] theorem arrT_59 : arrT Try.prog 59 = none := by kernel_rfl
@[go_sem] theorem aggT_59 : aggT Try.prog 59 = some false := by kernel_rfl
@[go_sem] theorem intT_59 : intT Try.prog 59 = none := by kernel_rfl
@[go_sem] theorem isBoolT_59 : isBoolT Try.prog 59 = false := by kernel_rfl
@[go_sem] theorem infoT_59 : (Try.prog.info? 59).isSome = true := by kernel_rfl
@[go_sem] theorem plainIface_59 : plainIface Try.prog 59 = true := by kernel_rfl
@[go_sem] theorem undT_59 : Try.prog.underlying 59 = some (.slice 102) := by kernel_rfl
@[go_sem] theorem zeroT_59 : zeroT Try.prog 59 = some [.nils] := by kernel_rfl
@[go_sem] theorem zeroD_59 : zeroD Try.prog 59 = some (.sl []) := by kernel_rfl
@[go_sem] theorem cellsOf_68 : Try.prog.cellsOf 68 = 2 := by kernel_rfl
@[go_sem] theorem bytesOf_68 : Try.prog.bytesOf 68 = 16 := by kernel_rfl
@[go_sem] theorem sliceT_68 : sliceT Try.prog 68 = none := by kernel_rfl
@[go_sem] theorem arrT_68 : arrT Try.prog 68 = none := by kernel_rfl
@[go_sem] theorem aggT_68 : aggT Try.prog 68 = some true := by kernel_rfl
@[go_sem] theorem intT_68 : intT Try.prog 68 = none := by kernel_rfl
@[go_sem] theorem isBoolT_68 : isBoolT Try.prog 68 = false := by kernel_rfl
@[go_sem] theorem infoT_68 : (Try.prog.info? 68).isSome = true := by kernel_rfl
@[go_sem] theorem plainIface_68 : plainIface Try.prog 68 = true := by kernel_rfl
@[go_sem] theorem zeroT_68 : zeroT Try.prog 68 = some [.d (.int .i64 0), .d (.int .i64 0)] := by kernel_rfl
@[go_sem] theorem zeroD_68 : zeroD Try.prog 68 = some (.agg [(.int .i64 0), (.int .i64 0)]) := by kernel_rfl
@[go_sem] theorem placesT_68 : placesT Try.prog 68 = some [(0, 1), (1, 1)] := by kernel_rfl
@[go_sem] theorem cellsOf_75 : Try.prog.cellsOf 75 = 1 := by kernel_rfl
@[go_sem] theorem bytesOf_75 : Try.prog.bytesOf 75 = 8 := by kernel_rfl
@[go_sem] theorem sliceT_75 : sliceT Try.prog 75 = none := by kernel_rfl
@[go_sem] theorem arrT_75 : arrT Try.prog 75 = none := by kernel_rfl
@[go_sem] theorem aggT_75 : aggT Try.prog 75 = some false := by kernel_rfl
@[go_sem] theorem intT_75 : intT Try.prog 75 = none := by kernel_rfl
@[go_sem] theorem isBoolT_75 : isBoolT Try.prog 75 = false := by kernel_rfl
@[go_sem] theorem infoT_75 : (Try.prog.info? 75).isSome = true := by kernel_rfl
@[go_sem] theorem plainIface_75 : plainIface Try.prog 75 = true := by kernel_rfl
@[go_sem] theorem cellsOf_78 : Try.prog.cellsOf 78 = 1 := by kernel_rfl
@[go_sem] theorem bytesOf_78 : Try.prog.bytesOf 78 = 8 := by kernel_rfl
@[go_sem] theorem sliceT_78 : sliceT Try.prog 78 = none := by kernel_rfl
@[go_sem] theorem arrT_78 : arrT Try.prog 78 = none := by kernel_rfl
@[go_sem] theorem aggT_78 : aggT Try.prog 78 = some false := by kernel_rfl
@[go_sem] theorem intT_78 : intT Try.prog 78 = none := by kernel_rfl
@[go_sem] theorem isBoolT_78 : isBoolT Try.prog 78 = false := by kernel_rfl
@[go_sem] theorem infoT_78 : (Try.prog.info? 78).isSome = true := by kernel_rfl
@[go_sem] theorem plainIface_78 : plainIface Try.prog 78 = true := by kernel_rfl
@[go_sem] theorem cellsOf_89 : Try.prog.cellsOf 89 = 1 := by kernel_rfl
@[go_sem] theorem bytesOf_89 : Try.prog.bytesOf 89 = 24 := by kernel_rfl
@[go_sem] theorem sliceT_89 : sliceT Try.prog 89 = some 90 := by kernel_rfl
@[go_sem] theorem arrT_89 : arrT Try.prog 89 = none := by kernel_rfl
@[go_sem] theorem aggT_89 : aggT Try.prog 89 = some false := by kernel_rfl
@[go_sem] theorem intT_89 : intT Try.prog 89 = none := by kernel_rfl
@[go_sem] theorem isBoolT_89 : isBoolT Try.prog 89 = false := by kernel_rfl
@[go_sem] theorem infoT_89 : (Try.prog.info? 89).isSome = true := by kernel_rfl
@[go_sem] theorem plainIface_89 : plainIface Try.prog 89 = true := by kernel_rfl
@[go_sem] theorem undT_89 : Try.prog.underlying 89 = some (.slice 90) := by kernel_rfl
@[go_sem] theorem zeroT_89 : zeroT Try.prog 89 = some [.nils] := by kernel_rfl
@[go_sem] theorem zeroD_89 : zeroD Try.prog 89 = some (.sl []) := by kernel_rfl
@[go_sem] theorem cellsOf_90 : Try.prog.cellsOf 90 = 2 := by kernel_rfl
@[go_sem] theorem bytesOf_90 : Try.prog.bytesOf 90 = 16 := by kernel_rfl
@[go_sem] theorem sliceT_90 : sliceT Try.prog 90 = none := by kernel_rfl
@[go_sem] theorem arrT_90 : arrT Try.prog 90 = none := by kernel_rfl
@[go_sem] theorem aggT_90 : aggT Try.prog 90 = some true := by kernel_rfl
@[go_sem] theorem intT_90 : intT Try.prog 90 = none := by kernel_rfl
@[go_sem] theorem isBoolT_90 : isBoolT Try.prog 90 = false := by kernel_rfl
@[go_sem] theorem infoT_90 : (Try.prog.info? 90).isSome = true := by kernel_rfl
@[go_sem] theorem plainIface_90 : plainIface Try.prog 90 = true := by kernel_rfl
@[go_sem] theorem zeroT_90 : zeroT Try.prog 90 = some [.d (.int .i64 0), .d (.int .i64 0)] := by kernel_rfl
@[go_sem] theorem zeroD_90 : zeroD Try.prog 90 = some (.agg [(.int .i64 0), (.int .i64 0)]) := by kernel_rfl
@[go_sem] theorem placesT_90 : placesT Try.prog 90 = some [(0, 1), (1, 1)] := by kernel_rfl
@[go_sem] theorem cellsOf_97 : Try.prog.cellsOf 97 = 1 := by kernel_rfl
@[go_sem] theorem bytesOf_97 : Try.prog.bytesOf 97 = 24 := by kernel_rfl
@[go_sem] theorem sliceT_97 : sliceT Try.prog 97 = some 24 := by kernel_rfl
@[go_sem] theorem arrT_97 : arrT Try.prog 97 = none := by kernel_rfl
@[go_sem] theorem aggT_97 : aggT Try.prog 97 = some false := by kernel_rfl
@[go_sem] theorem intT_97 : intT Try.prog 97 = none := by kernel_rfl
@[go_sem] theorem isBoolT_97 : isBoolT Try.prog 97 = false := by kernel_rfl
@[go_sem] theorem infoT_97 : (Try.prog.info? 97).isSome = true := by kernel_rfl
@[go_sem] theorem plainIface_97 : plainIface Try.prog 97 = true := by kernel_rfl
@[go_sem] theorem undT_97 : Try.prog.underlying 97 = some (.slice 24) := by kernel_rfl
@[go_sem] theorem zeroT_97 : zeroT Try.prog 97 = some [.nils] := by kernel_rfl
@[go_sem] theorem zeroD_97 : zeroD Try.prog 97 = some (.sl []) := by kernel_rfl
@[go_sem] theorem cellsOf_101 : Try.prog.cellsOf 101 = 1 := by kernel_rfl
@[go_sem] theorem bytesOf_101 : Try.prog.bytesOf 101 = 1 := by kernel_rfl
@[go_sem] theorem sliceT_101 : sliceT Try.prog 101 = none := by kernel_rfl
@[go_sem] theorem arrT_101 : arrT Try.prog 101 = none := by kernel_rfl
@[go_sem] theorem aggT_101 : aggT Try.prog 101 = some false := by kernel_rfl
@[go_sem] theorem intT_101 : intT Try.prog 101 = some .i8 := by kernel_rfl
@[go_sem] theorem isBoolT_101 : isBoolT Try.prog 101 = false := by kernel_rfl
@[go_sem] theorem infoT_101 : (Try.prog.info? 101).isSome = true := by kernel_rfl
@[go_sem] theorem plainIface_101 : plainIface Try.prog 101 = true := by kernel_rfl
@[go_sem] theorem undT_101 : Try.prog.underlying 101 = some (.int .i8) := by kernel_rfl
@[go_sem] theorem zeroT_101 : zeroT Try.prog 101 = some [.d (.int .i8 0)] := by kernel_rfl
@[go_sem] theorem zeroD_101 : zeroD Try.prog 101 = some (.int .i8 0) := by kernel_rfl
@[go_sem] theorem cellsOf_102 : Try.prog.cellsOf 102 = 2 := by kernel_rfl
@[go_sem] theorem bytesOf_102 : Try.prog.bytesOf 102 = 2 := by kernel_rfl
@[go_sem] theorem sliceT_102 : sliceT Try.prog 102 = none := by kernel_rfl
@[go_sem] theorem arrT_102 : arrT Try.prog 102 = some (2, 101) := by kernel_rfl
@[go_sem] theorem aggT_102 : aggT Try.prog 102 = some true := by kernel_rfl
@[go_sem] theorem intT_102 : intT Try.prog 102 = none := by kernel_rfl
@[go_sem] theorem isBoolT_102 : isBoolT Try.prog 102 = false := by kernel_rfl
@[go_sem] theorem infoT_102 : (Try.prog.info? 102).isSome = true := by kernel_rfl
@[go_sem] theorem plainIface_102 : plainIface Try.prog 102 = true := by kernel_rfl
@[go_sem] theorem undT_102 : Try.prog.underlying 102 = some (.array 2 101) := by kernel_rfl
@[go_sem] theorem zeroT_102 : zeroT Try.prog 102 = some [.d (.int .i8 0), .d (.int .i8 0)] := by kernel_rfl
@[go_sem] theorem zeroD_102 : zeroD Try.prog 102 = some (.agg [(.int .i8 0), (.int .i8 0)]) := by kernel_rfl
@[go_sem] theorem cellsOf_105 : Try.prog.cellsOf 105 = 1 := by kernel_rfl
@[go_sem] theorem bytesOf_105 : Try.prog.bytesOf 105 = 8 := by kernel_rfl
@[go_sem] theorem sliceT_105 : sliceT Try.prog 105 = none := by kernel_rfl
@[go_sem] theorem arrT_105 : arrT Try.prog 105 = none := by kernel_rfl
@[go_sem] theorem aggT_105 : aggT Try.prog 105 = some false := by kernel_rfl
@[go_sem] theorem intT_105 : intT Try.prog 105 = none := by kernel_rfl
@[go_sem] theorem isBoolT_105 : isBoolT Try.prog 105 = false := by kernel_rfl
@[go_sem] theorem infoT_105 : (Try.prog.info? 105).isSome = true := by kernel_rfl
@[go_sem] theorem plainIface_105 : plainIface Try.prog 105 = true := by kernel_rfl
@[go_sem] theorem zeroT_105 : zeroT Try.prog 105 = some [.d .nilp] := by kernel_rfl
@[go_sem] theorem zeroD_105 : zeroD Try.prog 105 = some .nilp := by kernel_rfl
@[go_sem] theorem cellsOf_107 : Try.prog.cellsOf 107 = 3 := by kernel_rfl
@[go_sem] theorem bytesOf_107 : Try.prog.bytesOf 107 = 56 := by kernel_rfl
@[go_sem] theorem sliceT_107 : sliceT Try.prog 107 = none := by kernel_rfl
@[go_sem] theorem arrT_107 : arrT Try.prog 107 = none := by kernel_rfl
@[go_sem] theorem aggT_107 : aggT Try.prog 107 = some true := by kernel_rfl
@[go_sem] theorem intT_107 : intT Try.prog 107 = none := by kernel_rfl
@[go_sem] theorem isBoolT_107 : isBoolT Try.prog 107 = false := by kernel_rfl
@[go_sem] theorem infoT_107 : (Try.prog.info? 107).isSome = true := by kernel_rfl
@[go_sem] theorem plainIface_107 : plainIface Try.prog 107 = true := by kernel_rfl
@[go_sem] theorem zeroT_107 : zeroT Try.prog 107 = some [.d (.int .i64 0), .nils, .nils] := by kernel_rfl
@[go_sem] theorem zeroD_107 : zeroD Try.prog 107 = some (.agg [(.int .i64 0), (.sl []), (.sl [])]) := by kernel_rfl
@[go_sem] theorem placesT_107 : placesT Try.prog 107 = some [(0, 2), (2, 1)] := by kernel_rfl
@[go_sem] theorem cellsOf_110 : Try.prog.cellsOf 110 = 5 := by kernel_rfl
@[go_sem] theorem bytesOf_110 : Try.prog.bytesOf 110 = 40 := by kernel_rfl
@[go_sem] theorem sliceT_110 : sliceT Try.prog 110 = none := by kernel_rfl
@[go_sem] theorem arrT_110 : arrT Try.prog 110 = some (5, 3) := by kernel_rfl
@[go_sem] theorem aggT_110 : aggT Try.prog 110 = some true := by kernel_rfl
@[go_sem] theorem intT_110 : intT Try.prog 110 = none := by kernel_rfl
@[go_sem] theorem isBoolT_110 : isBoolT Try.prog 110 = false := by kernel_rfl
@[go_sem] theorem infoT_110 : (Try.prog.info? 110).isSome = true := by kernel_rfl
@[go_sem] theorem plainIface_110 : plainIface Try.prog 110 = true := by kernel_rfl
@[go_sem] theorem undT_110 : Try.prog.underlying 110 = some (.array 5 3) := by kernel_rfl
@[go_sem] theorem zeroT_110 : zeroT Try.prog 110 = some [.d (.int .i64 0), .d (.int .i64 0), .d (.int .i64 0), .d (.int .i64 0), .d (.int .i64 0)] := by kernel_rfl
@[go_sem] theorem zeroD_110 : zeroD Try.prog 110 = some (.agg [(.int .i64 0), (.int .i64 0), (.int .i64 0), (.int .i64 0), (.int .i64 0)]) := by kernel_rfl
@[go_sem] theorem placesT_110 : placesT Try.prog 110 = some [(0, 1), (1, 1), (2, 1), (3, 1), (4, 1)] := by kernel_rfl
@[go_sem] theorem cellsOf_112 : Try.prog.cellsOf 112 = 7 := by kernel_rfl
@[go_sem] theorem bytesOf_112 : Try.prog.bytesOf 112 = 56 := by kernel_rfl
@[go_sem] theorem sliceT_112 : sliceT Try.prog 112 = none := by kernel_rfl
@[go_sem] theorem arrT_112 : arrT Try.prog 112 = none := by kernel_rfl
@[go_sem] theorem aggT_112 : aggT Try.prog 112 = some true := by kernel_rfl
@[go_sem] theorem intT_112 : intT Try.prog 112 = none := by kernel_rfl
@[go_sem] theorem isBoolT_112 : isBoolT Try.prog 112 = false := by kernel_rfl
@[go_sem] theorem infoT_112 : (Try.prog.info? 112).isSome = true := by kernel_rfl
@[go_sem] theorem plainIface_112 : plainIface Try.prog 112 = true := by kernel_rfl
@[go_sem] theorem zeroT_112 : zeroT Try.prog 112 = some [.d (.int .i64 0), .d (.int .i64 0), .d (.int .i64 0), .d (.int .i64 0), .d (.int .i64 0), .d (.int .i64 0), .d (.int .i64 0)] := by kernel_rfl
@[go_sem] theorem zeroD_112 : zeroD Try.prog 112 = some (.agg [(.int .i64 0), (.int .i64 0), (.int .i64 0), (.int .i64 0), (.int .i64 0), (.int .i64 0), (.int .i64 0)]) := by kernel_rfl
@[go_sem] theorem placesT_112 : placesT Try.prog 112 = some [(0, 5), (5, 1), (6, 1)] := by kernel_rfl
@[go_sem] theorem cellsOf_117 : Try.prog.cellsOf 117 = 1 := by kernel_rfl
@[go_sem] theorem bytesOf_117 : Try.prog.bytesOf 117 = 8 := by kernel_rfl
@[go_sem] theorem sliceT_117 : sliceT Try.prog 117 = none := by kernel_rfl
@[go_sem] theorem arrT_117 : arrT Try.prog 117 = none := by kernel_rfl
@[go_sem] theorem aggT_117 : aggT Try.prog 117 = some false := by kernel_rfl
@[go_sem] theorem intT_117 : intT Try.prog 117 = none := by kernel_rfl
@[go_sem] theorem isBoolT_117 : isBoolT Try.prog 117 = false := by kernel_rfl
@[go_sem] theorem infoT_117 : (Try.prog.info? 117).isSome = true := by kernel_rfl
@[go_sem] theorem plainIface_117 : plainIface Try.prog 117 = true := by kernel_rfl
@[go_sem] theorem cellsOf_119 : Try.prog.cellsOf 119 = 0 := by kernel_rfl
@[go_sem] theorem bytesOf_119 : Try.prog.bytesOf 119 = 0 := by kernel_rfl
@[go_sem] theorem sliceT_119 : sliceT Try.prog 119 = none := by kernel_rfl
@[go_sem] theorem arrT_119 : arrT Try.prog 119 = none := by kernel_rfl
@[go_sem] theorem aggT_119 : aggT Try.prog 119 = some true := by kernel_rfl
@[go_sem] theorem intT_119 : intT Try.prog 119 = none := by kernel_rfl
@[go_sem] theorem isBoolT_119 : isBoolT Try.prog 119 = false := by kernel_rfl
@[go_sem] theorem infoT_119 : (Try.prog.info? 119).isSome = true := by kernel_rfl
@[go_sem] theorem plainIface_119 : plainIface Try.prog 119 = true := by kernel_rfl
@[go_sem] theorem zeroT_119 : zeroT Try.prog 119 = some [] := by kernel_rfl
@[go_sem] theorem zeroD_119 : zeroD Try.prog 119 = some (.agg []) := by kernel_rfl
@[go_sem] theorem placesT_119 : placesT Try.prog 119 = some [] := by kernel_rfl
@[go_sem] theorem cellsOf_127 : Try.prog.cellsOf 127 = 3 := by kernel_rfl
@[go_sem] theorem bytesOf_127 : Try.prog.bytesOf 127 = 24 := by kernel_rfl
@[go_sem] theorem sliceT_127 : sliceT Try.prog 127 = none := by kernel_rfl
@[go_sem] theorem arrT_127 : arrT Try.prog 127 = none := by kernel_rfl
@[go_sem] theorem aggT_127 : aggT Try.prog 127 = some true := by kernel_rfl
@[go_sem] theorem intT_127 : intT Try.prog 127 = none := by kernel_rfl
@[go_sem] theorem isBoolT_127 : isBoolT Try.prog 127 = false := by kernel_rfl
@[go_sem] theorem infoT_127 : (Try.prog.info? 127).isSome = true := by kernel_rfl
@[go_sem] theorem plainIface_127 : plainIface Try.prog 127 = true := by kernel_rfl
@[go_sem] theorem zeroT_127 : zeroT Try.prog 127 = some [.d (.int .i64 0), .d (.int .i64 0), .d (.bool false)] := by kernel_rfl
@[go_sem] theorem zeroD_127 : zeroD Try.prog 127 = some (.agg [(.int .i64 0), (.int .i64 0), (.bool false)]) := by kernel_rfl
@[go_sem] theorem placesT_127 : placesT Try.prog 127 = some [(0, 2), (2, 1)] := by kernel_rfl
@[go_sem] theorem cellsOf_129 : Try.prog.cellsOf 129 = 4 := by kernel_rfl
@[go_sem] theorem bytesOf_129 : Try.prog.bytesOf 129 = 32 := by kernel_rfl
@[go_sem] theorem sliceT_129 : sliceT Try.prog 129 = none := by kernel_rfl
@[go_sem] theorem arrT_129 : arrT Try.prog 129 = none := by kernel_rfl
@[go_sem] theorem aggT_129 : aggT Try.prog 129 = some true := by kernel_rfl
@[go_sem] theorem intT_129 : intT Try.prog 129 = none := by kernel_rfl
@[go_sem] theorem isBoolT_129 : isBoolT Try.prog 129 = false := by kernel_rfl
@[go_sem] theorem infoT_129 : (Try.prog.info? 129).isSome = true := by kernel_rfl
@[go_sem] theorem plainIface_129 : plainIface Try.prog 129 = true := by kernel_rfl
@[go_sem] theorem zeroT_129 : zeroT Try.prog 129 = some [.d (.int .i64 0), .d (.int .i64 0), .d (.bool false), .d (.bool false)] := by kernel_rfl
@[go_sem] theorem zeroD_129 : zeroD Try.prog 129 = some (.agg [(.int .i64 0), (.int .i64 0), (.bool false), (.bool false)]) := by kernel_rfl
@[go_sem] theorem cellsOf_132 : Try.prog.cellsOf 132 = 1 := by kernel_rfl
@[go_sem] theorem bytesOf_132 : Try.prog.bytesOf 132 = 8 := by kernel_rfl
@[go_sem] theorem sliceT_132 : sliceT Try.prog 132 = none := by kernel_rfl
@[go_sem] theorem arrT_132 : arrT Try.prog 132 = none := by kernel_rfl
@[go_sem] theorem aggT_132 : aggT Try.prog 132 = some false := by kernel_rfl
@[go_sem] theorem intT_132 : intT Try.prog 132 = none := by kernel_rfl
@[go_sem] theorem isBoolT_132 : isBoolT Try.prog 132 = false := by kernel_rfl
@[go_sem] theorem infoT_132 : (Try.prog.info? 132).isSome = true := by kernel_rfl
@[go_sem] theorem plainIface_132 : plainIface Try.prog 132 = true := by kernel_rfl
@[go_sem] theorem cellsOf_136 : Try.prog.cellsOf 136 = 4 := by kernel_rfl
@[go_sem] theorem bytesOf_136 : Try.prog.bytesOf 136 = 32 := by kernel_rfl
@[go_sem] theorem sliceT_136 : sliceT Try.prog 136 = none := by kernel_rfl
@[go_sem] theorem arrT_136 : arrT Try.prog 136 = none := by kernel_rfl
@[go_sem] theorem aggT_136 : aggT Try.prog 136 = some true := by kernel_rfl
@[go_sem] theorem intT_136 : intT Try.prog 136 = none := by kernel_rfl
@[go_sem] theorem isBoolT_136 : isBoolT Try.prog 136 = false := by kernel_rfl
@[go_sem] theorem infoT_136 : (Try.prog.info? 136).isSome = true := by kernel_rfl
@[go_sem] theorem plainIface_136 : plainIface Try.prog 136 = true := by kernel_rfl
@[go_sem] theorem zeroT_136 : zeroT Try.prog 136 = some [.d (.bool false), .d (.int .i64 0), .d (.int .i64 0), .d (.bool false)] := by kernel_rfl
@[go_sem] theorem zeroD_136 : zeroD Try.prog 136 = some (.agg [(.bool false), (.int .i64 0), (.int .i64 0), (.bool false)]) := by kernel_rfl
@[go_sem] theorem placesT_136 : placesT Try.prog 136 = some [(0, 1), (1, 2), (3, 1)] := by kernel_rfl
@[go_sem] theorem cellsOf_147 : Try.prog.cellsOf 147 = 1 := by kernel_rfl
@[go_sem] theorem bytesOf_147 : Try.prog.bytesOf 147 = 8 := by kernel_rfl
@[go_sem] theorem sliceT_147 : sliceT Try.prog 147 = none := by kernel_rfl
@[go_sem] theorem arrT_147 : arrT Try.prog 147 = none := by kernel_rfl
@[go_sem] theorem aggT_147 : aggT Try.prog 147 = some false := by kernel_rfl
@[go_sem] theorem intT_147 : intT Try.prog 147 = none := by kernel_rfl
@[go_sem] theorem isBoolT_147 : isBoolT Try.prog 147 = false := by kernel_rfl
@[go_sem] theorem infoT_147 : (Try.prog.info? 147).isSome = true := by kernel_rfl
@[go_sem] theorem plainIface_147 : plainIface Try.prog 147 = true := by kernel_rfl
@[go_sem] theorem fieldT_24_0 : fieldT Try.prog 24 0 = some 0 := by kernel_rfl
@[go_sem] theorem fieldT_24_1 : fieldT Try.prog 24 1 = some 1 := by kernel_rfl
@[go_sem] theorem fieldT_45_0 : fieldT Try.prog 45 0 = some 0 := by kernel_rfl
@[go_sem] theorem fieldT_45_1 : fieldT Try.prog 45 1 = some 1 := by kernel_rfl
@[go_sem] theorem fieldT_45_2 : fieldT Try.prog 45 2 = some 2 := by kernel_rfl
@[go_sem] theorem fieldT_47_0 : fieldT Try.prog 47 0 = some 0 := by kernel_rfl
@[go_sem] theorem fieldT_47_1 : fieldT Try.prog 47 1 = some 3 := by kernel_rfl
@[go_sem] theorem fieldT_68_0 : fieldT Try.prog 68 0 = some 0 := by kernel_rfl
@[go_sem] theorem fieldT_68_1 : fieldT Try.prog 68 1 = some 1 := by kernel_rfl
@[go_sem] theorem fieldT_90_0 : fieldT Try.prog 90 0 = some 0 := by kernel_rfl
@[go_sem] theorem fieldT_90_1 : fieldT Try.prog 90 1 = some 1 := by kernel_rfl
@[go_sem] theorem fieldT_107_0 : fieldT Try.prog 107 0 = some 0 := by kernel_rfl
@[go_sem] theorem fieldT_107_1 : fieldT Try.prog 107 1 = some 2 := by kernel_rfl
@[go_sem] theorem fieldT_112_0 : fieldT Try.prog 112 0 = some 0 := by kernel_rfl
@[go_sem] theorem fieldT_112_1 : fieldT Try.prog 112 1 = some 5 := by kernel_rfl
@[go_sem] theorem fieldT_112_2 : fieldT Try.prog 112 2 = some 6 := by kernel_rfl
@[go_sem] theorem fieldT_127_0 : fieldT Try.prog 127 0 = some 0 := by kernel_rfl
@[go_sem] theorem fieldT_127_1 : fieldT Try.prog 127 1 = some 2 := by kernel_rfl
@[go_sem] theorem fieldT_129_0 : fieldT Try.prog 129 0 = some 0 := by kernel_rfl
@[go_sem] theorem fieldT_129_1 : fieldT Try.prog 129 1 = some 3 := by kernel_rfl
@[go_sem] theorem fieldT_136_0 : fieldT Try.prog 136 0 = some 0 := by kernel_rfl
@[go_sem] theorem fieldT_136_1 : fieldT Try.prog 136 1 = some 1 := by kernel_rfl
@[go_sem] theorem fieldT_136_2 : fieldT Try.prog 136 2 = some 3 := by kernel_rfl
theorem p3 {ds : List D} {out : R} (h : evW Try.prog 68 0 false c3 (endW Try.prog [.tmp 4] out) ⟨argsEnv (ds.map .d), fun _ => .no, 0⟩) (hl : ds.length ≤ 68 := by simp) : PCt Try.prog 3 ds out := PCt.of_ev mix fn3 hl h
theorem q3 {args : List V} {o : Nat → Obj'} {nx : Nat} {K X : V → (Nat → Obj') → Nat → Prop} (h : evW Try.prog 68 nx false c3 (endG Try.prog [.tmp 4] K X) ⟨argsEnv args, o, nx⟩) (hl : args.length ≤ 68 := by simp) : CtK Try.prog 3 args o nx K X := CtK.of_ev mix fn3 hl h
theorem p4 {ds : List D} {out : R} (h : evW Try.prog 73 0 false c4 (endW Try.prog [.tmp 4] out) ⟨argsEnv (ds.map .d), fun _ => .no, 0⟩) (hl : ds.length ≤ 73 := by simp) : PCt Try.prog 4 ds out := PCt.of_ev mix fn4 hl h
theorem q4 {args : List V} {o : Nat → Obj'} {nx : Nat} {K X : V → (Nat → Obj') → Nat → Prop} (h : evW Try.prog 73 nx false c4 (endG Try.prog [.tmp 4] K X) ⟨argsEnv args, o, nx⟩) (hl : args.length ≤ 73 := by simp) : CtK Try.prog 4 args o nx K X := CtK.of_ev mix fn4 hl h
theorem p5 {ds : List D} {out : R} (h : evW Try.prog 77 0 false c5 (endW Try.prog [.tmp 2] out) ⟨argsEnv (ds.map .d), fun _ => .no, 0⟩) (hl : ds.length ≤ 77 := by simp) : PCt Try.prog 5 ds out := PCt.of_ev mix fn5 hl h
theorem q5 {args : List V} {o : Nat → Obj'} {nx : Nat} {K X : V → (Nat → Obj') → Nat → Prop} (h : evW Try.prog 77 nx false c5 (endG Try.prog [.tmp 2] K X) ⟨argsEnv args, o, nx⟩) (hl : args.length ≤ 77 := by simp) : CtK Try.prog 5 args o nx K X := CtK.of_ev mix fn5 hl h
theorem p6 {ds : List D} {out : R} (h : evW Try.prog 67 0 false c6 (endW Try.prog [.tmp 4] out) ⟨argsEnv (ds.map .d), fun _ => .no, 0⟩) (hl : ds.length ≤ 67 := by simp) : PCt Try.prog 6 ds out := PCt.of_ev mix fn6 hl h
theorem q6 {args : List V} {o : Nat → Obj'} {nx : Nat} {K X : V → (Nat → Obj') → Nat → Prop} (h : evW Try.prog 67 nx false c6 (endG Try.prog [.tmp 4] K X) ⟨argsEnv args, o, nx⟩) (hl : args.length ≤ 67 := by simp) : CtK Try.prog 6 args o nx K X := CtK.of_ev mix fn6 hl h
theorem p7 {ds : List D} {out : R} (h : evW Try.prog 166 0 false c7 (endW Try.prog [.tmp 10] out) ⟨argsEnv (ds.map .d), fun _ => .no, 0⟩) (hl : ds.length ≤ 166 := by simp) : PCt Try.prog 7 ds out := PCt.of_ev mix fn7 hl h
theorem q7 {args : List V} {o : Nat → Obj'} {nx : Nat} {K X : V → (Nat → Obj') → Nat → Prop} (h : evW Try.prog 166 nx false c7 (endG Try.prog [.tmp 10] K X) ⟨argsEnv args, o, nx⟩) (hl : args.length ≤ 166 := by simp) : CtK Try.prog 7 args o nx K X := CtK.of_ev mix fn7 hl h
theorem p8 {ds : List D} {out : R} (h : evW Try.prog 169 0 false c8 (endW Try.prog [.tmp 0] out) ⟨argsEnv (ds.map .d), fun _ => .no, 0⟩) (hl : ds.length ≤ 169 := by simp) : PCt Try.prog 8 ds out := PCt.of_ev mix fn8 hl h
theorem q8 {args : List V} {o : Nat → Obj'} {nx : Nat} {K X : V → (Nat → Obj') → Nat → Prop} (h : evW Try.prog 169 nx false c8 (endG Try.prog [.tmp 0] K X) ⟨argsEnv args, o, nx⟩) (hl : args.length ≤ 169 := by simp) : CtK Try.prog 8 args o nx K X := CtK.of_ev mix fn8 hl h
theorem p9 {ds : List D} {out : R} (h : evW Try.prog 60 0 false c9 (endW Try.prog [.tmp 4] out) ⟨argsEnv (ds.map .d), fun _ => .no, 0⟩) (hl : ds.length ≤ 60 := by simp) : PCt Try.prog 9 ds out := PCt.of_ev mix fn9 hl h
theorem q9 {args : List V} {o : Nat → Obj'} {nx : Nat} {K X : V → (Nat → Obj') → Nat → Prop} (h : evW Try.prog 60 nx false c9 (endG Try.prog [.tmp 4] K X) ⟨argsEnv args, o, nx⟩) (hl : args.length ≤ 60 := by simp) : CtK Try.prog 9 args o nx K X := CtK.of_ev mix fn9 hl h
theorem p10 {ds : List D} {out : R} (h : evW Try.prog 132 0 false c10 (endW Try.prog [.tmp 6] out) ⟨argsEnv (ds.map .d), fun _ => .no, 0⟩) (hl : ds.length ≤ 132 := by simp) : PCt Try.prog 10 ds out := PCt.of_ev mix fn10 hl h
theorem q10 {args : List V} {o : Nat → Obj'} {nx : Nat} {K X : V → (Nat → Obj') → Nat → Prop} (h : evW Try.prog 132 nx false c10 (endG Try.prog [.tmp 6] K X) ⟨argsEnv args, o, nx⟩) (hl : args.length ≤ 132 := by simp) : CtK Try.prog 10 args o nx K X := CtK.of_ev mix fn10 hl h
theorem p11 {ds : List D} {out : R} (h : evW Try.prog 154 0 false c11 (endW Try.prog [.tmp 6] out) ⟨argsEnv (ds.map .d), fun _ => .no, 0⟩) (hl : ds.length ≤ 154 := by simp) : PCt Try.prog 11 ds out := PCt.of_ev mix fn11 hl h
theorem q11 {args : List V} {o : Nat → Obj'} {nx : Nat} {K X : V → (Nat → Obj') → Nat → Prop} (h : evW Try.prog 154 nx false c11 (endG Try.prog [.tmp 6] K X) ⟨argsEnv args, o, nx⟩) (hl : args.length ≤ 154 := by simp) : CtK Try.prog 11 args o nx K X := CtK.of_ev mix fn11 hl h
theorem p12 {ds : List D} {out : R} (h : evW Try.prog 23 0 false c12 (endW Try.prog [.tmp 2] out) ⟨argsEnv (ds.map .d), fun _ => .no, 0⟩) (hl : ds.length ≤ 23 := by simp) : PCt Try.prog 12 ds out := PCt.of_ev mix fn12 hl h
theorem q12 {args : List V} {o : Nat → Obj'} {nx : Nat} {K X : V → (Nat → Obj') → Nat → Prop} (h : evW Try.prog 23 nx false c12 (endG Try.prog [.tmp 2] K X) ⟨argsEnv args, o, nx⟩) (hl : args.length ≤ 23 := by simp) : CtK Try.prog 12 args o nx K X := CtK.of_ev mix fn12 hl h
theorem p13 {ds : List D} {out : R} (h : evW Try.prog 94 0 false c13 (endW Try.prog [.tmp 0] out) ⟨argsEnv (ds.map .d), fun _ => .no, 0⟩) (hl : ds.length ≤ 94 := by simp) : PCt Try.prog 13 ds out := PCt.of_ev mix fn13 hl h
theorem q13 {args : List V} {o : Nat → Obj'} {nx : Nat} {K X : V → (Nat → Obj') → Nat → Prop} (h : evW Try.prog 94 nx false c13 (endG Try.prog [.tmp 0] K X) ⟨argsEnv args, o, nx⟩) (hl : args.length ≤ 94 := by simp) : CtK Try.prog 13 args o nx K X := CtK.of_ev mix fn13 hl h
theorem p14 {ds : List D} {out : R} (h : evW Try.prog 19 0 false c14 (endW Try.prog [.tmp 2] out) ⟨argsEnv (ds.map .d), fun _ => .no, 0⟩) (hl : ds.length ≤ 19 := by simp) : PCt Try.prog 14 ds out := PCt.of_ev mix fn14 hl h
theorem q14 {args : List V} {o : Nat → Obj'} {nx : Nat} {K X : V → (Nat → Obj') → Nat → Prop} (h : evW Try.prog 19 nx false c14 (endG Try.prog [.tmp 2] K X) ⟨argsEnv args, o, nx⟩) (hl : args.length ≤ 19 := by simp) : CtK Try.prog 14 args o nx K X := CtK.of_ev mix fn14 hl h
theorem p15 {ds : List D} {out : R} (h : evW Try.prog 85 0 false c15 (endW Try.prog [.tmp 4, .tmp 5] out) ⟨argsEnv (ds.map .d), fun _ => .no, 0⟩) (hl : ds.length ≤ 85 := by simp) : PCt Try.prog 15 ds out := PCt.of_ev mix fn15 hl h
theorem q15 {args : List V} {o : Nat → Obj'} {nx : Nat} {K X : V → (Nat → Obj') → Nat → Prop} (h : evW Try.prog 85 nx false c15 (endG Try.prog [.tmp 4, .tmp 5] K X) ⟨argsEnv args, o, nx⟩) (hl : args.length ≤ 85 := by simp) : CtK Try.prog 15 args o nx K X := CtK.of_ev mix fn15 hl h
theorem p16 {ds : List D} {out : R} (h : evW Try.prog 30 0 false c16 (endW Try.prog [.tmp 2] out) ⟨argsEnv (ds.map .d), fun _ => .no, 0⟩) (hl : ds.length ≤ 30 := by simp) : PCt Try.prog 16 ds out := PCt.of_ev mix fn16 hl h
theorem q16 {args : List V} {o : Nat → Obj'} {nx : Nat} {K X : V → (Nat → Obj') → Nat → Prop} (h : evW Try.prog 30 nx false c16 (endG Try.prog [.tmp 2] K X) ⟨argsEnv args, o, nx⟩) (hl : args.length ≤ 30 := by simp) : CtK Try.prog 16 args o nx K X := CtK.of_ev mix fn16 hl h
theorem p17 {ds : List D} {out : R} (h : evW Try.prog 23 0 false c17 (endW Try.prog [.tmp 4] out) ⟨argsEnv (ds.map .d), fun _ => .no, 0⟩) (hl : ds.length ≤ 23 := by simp) : PCt Try.prog 17 ds out := PCt.of_ev mix fn17 hl h
theorem q17 {args : List V} {o : Nat → Obj'} {nx : Nat} {K X : V → (Nat → Obj') → Nat → Prop} (h : evW Try.prog 23 nx false c17 (endG Try.prog [.tmp 4] K X) ⟨argsEnv args, o, nx⟩) (hl : args.length ≤ 23 := by simp) : CtK Try.prog 17 args o nx K X := CtK.of_ev mix fn17 hl h
theorem p18 {ds : List D} {out : R} (h : evW Try.prog 23 0 false c18 (endW Try.prog [.tmp 4] out) ⟨argsEnv (ds.map .d), fun _ => .no, 0⟩) (hl : ds.length ≤ 23 := by simp) : PCt Try.prog 18 ds out := PCt.of_ev mix fn18 hl h
theorem q18 {args : List V} {o : Nat → Obj'} {nx : Nat} {K X : V → (Nat → Obj') → Nat → Prop} (h : evW Try.prog 23 nx false c18 (endG Try.prog [.tmp 4] K X) ⟨argsEnv args, o, nx⟩) (hl : args.length ≤ 23 := by simp) : CtK Try.prog 18 args o nx K X := CtK.of_ev mix fn18 hl h
theorem p19 {ds : List D} {out : R} (h : evW Try.prog 24 0 false c19 (endW Try.prog [.tmp 4, .tmp 5] out) ⟨argsEnv (ds.map .d), fun _ => .no, 0⟩) (hl : ds.length ≤ 24 := by simp) : PCt Try.prog 19 ds out := PCt.of_ev mix fn19 hl h
theorem q19 {args : List V} {o : Nat → Obj'} {nx : Nat} {K X : V → (Nat → Obj') → Nat → Prop} (h : evW Try.prog 24 nx false c19 (endG Try.prog [.tmp 4, .tmp 5] K X) ⟨argsEnv args, o, nx⟩) (hl : args.length ≤ 24 := by simp) : CtK Try.prog 19 args o nx K X := CtK.of_ev mix fn19 hl h
theorem p20 {ds : List D} {out : R} (h : evW Try.prog 35 0 false c20 (endW Try.prog [.tmp 4, .tmp 5] out) ⟨argsEnv (ds.map .d), fun _ => .no, 0⟩) (hl : ds.length ≤ 35 := by simp) : PCt Try.prog 20 ds out := PCt.of_ev mix fn20 hl h
theorem q20 {args : List V} {o : Nat → Obj'} {nx : Nat} {K X : V → (Nat → Obj') → Nat → Prop} (h : evW Try.prog 35 nx false c20 (endG Try.prog [.tmp 4, .tmp 5] K X) ⟨argsEnv args, o, nx⟩) (hl : args.length ≤ 35 := by simp) : CtK Try.prog 20 args o nx K X := CtK.of_ev mix fn20 hl h
theorem p21 {ds : List D} {out : R} (h : evW Try.prog 27 0 false c21 (endW Try.prog [.tmp 4] out) ⟨argsEnv (ds.map .d), fun _ => .no, 0⟩) (hl : ds.length ≤ 27 := by simp) : PCt Try.prog 21 ds out := PCt.of_ev mix fn21 hl h
theorem q21 {args : List V} {o : Nat → Obj'} {nx : Nat} {K X : V → (Nat → Obj') → Nat → Prop} (h : evW Try.prog 27 nx false c21 (endG Try.prog [.tmp 4] K X) ⟨argsEnv args, o, nx⟩) (hl : args.length ≤ 27 := by simp) : CtK Try.prog 21 args o nx K X := CtK.of_ev mix fn21 hl h
theorem p22 {ds : List D} {out : R} (h : evW Try.prog 12 0 false c22 (endW Try.prog [.cell 2 47, .tmp 3] out) ⟨argsEnv (ds.map .d), fun _ => .no, 0⟩) (hl : ds.length ≤ 12 := by simp) : PCt Try.prog 22 ds out := PCt.of_ev mix fn22 hl h
theorem q22 {args : List V} {o : Nat → Obj'} {nx : Nat} {K X : V → (Nat → Obj') → Nat → Prop} (h : evW Try.prog 12 nx false c22 (endG Try.prog [.cell 2 47, .tmp 3] K X) ⟨argsEnv args, o, nx⟩) (hl : args.length ≤ 12 := by simp) : CtK Try.prog 22 args o nx K X := CtK.of_ev mix fn22 hl h
theorem p23 {ds : List D} {out : R} (h : evW Try.prog 19 0 false c23 (endW Try.prog [.tmp 2, .tmp 3] out) ⟨argsEnv (ds.map .d), fun _ => .no, 0⟩) (hl : ds.length ≤ 19 := by simp) : PCt Try.prog 23 ds out := PCt.of_ev mix fn23 hl h
theorem q23 {args : List V} {o : Nat → Obj'} {nx : Nat} {K X : V → (Nat → Obj') → Nat → Prop} (h : evW Try.prog 19 nx false c23 (endG Try.prog [.tmp 2, .tmp 3] K X) ⟨argsEnv args, o, nx⟩) (hl : args.length ≤ 19 := by simp) : CtK Try.prog 23 args o nx K X := CtK.of_ev mix fn23 hl h
theorem p24 {ds : List D} {out : R} (h : evW Try.prog 6 0 false c24 (endW Try.prog [.tmp 2] out) ⟨argsEnv (ds.map .d), fun _ => .no, 0⟩) (hl : ds.length ≤ 6 := by simp) : PCt Try.prog 24 ds out := PCt.of_ev mix fn24 hl h
theorem q24 {args : List V} {o : Nat → Obj'} {nx : Nat} {K X : V → (Nat → Obj') → Nat → Prop} (h : evW Try.prog 6 nx false c24 (endG Try.prog [.tmp 2] K X) ⟨argsEnv args, o, nx⟩) (hl : args.length ≤ 6 := by simp) : CtK Try.prog 24 args o nx K X := CtK.of_ev mix fn24 hl h
theorem p25 {ds : List D} {out : R} (h : evW Try.prog 31 0 false c25 (endW Try.prog [.cell 2 47, .tmp 3] out) ⟨argsEnv (ds.map .d), fun _ => .no, 0⟩) (hl : ds.length ≤ 31 := by simp) : PCt Try.prog 25 ds out := PCt.of_ev mix fn25 hl h
theorem q25 {args : List V} {o : Nat → Obj'} {nx : Nat} {K X : V → (Nat → Obj') → Nat → Prop} (h : evW Try.prog 31 nx false c25 (endG Try.prog [.cell 2 47, .tmp 3] K X) ⟨argsEnv args, o, nx⟩) (hl : args.length ≤ 31 := by simp) : CtK Try.prog 25 args o nx K X := CtK.of_ev mix fn25 hl h
theorem p26 {ds : List D} {out : R} (h : evW Try.prog 53 0 false c26 (endW Try.prog [.tmp 2, .tmp 3] out) ⟨argsEnv (ds.map .d), fun _ => .no, 0⟩) (hl : ds.length ≤ 53 := by simp) : PCt Try.prog 26 ds out := PCt.of_ev mix fn26 hl h
theorem q26 {args : List V} {o : Nat → Obj'} {nx : Nat} {K X : V → (Nat → Obj') → Nat → Prop} (h : evW Try.prog 53 nx false c26 (endG Try.prog [.tmp 2, .tmp 3] K X) ⟨argsEnv args, o, nx⟩) (hl : args.length ≤ 53 := by simp) : CtK Try.prog 26 args o nx K X := CtK.of_ev mix fn26 hl h
theorem p27 {ds : List D} {out : R} (h : evW Try.prog 17 0 false c27 (endW Try.prog [.tmp 4] out) ⟨argsEnv (ds.map .d), fun _ => .no, 0⟩) (hl : ds.length ≤ 17 := by simp) : PCt Try.prog 27 ds out := PCt.of_ev mix fn27 hl h
theorem q27 {args : List V} {o : Nat → Obj'} {nx : Nat} {K X : V → (Nat → Obj') → Nat → Prop} (h : evW Try.prog 17 nx false c27 (endG Try.prog [.tmp 4] K X) ⟨argsEnv args, o, nx⟩) (hl : args.length ≤ 17 := by simp) : CtK Try.prog 27 args o nx K X := CtK.of_ev mix fn27 hl h
theorem p28 {ds : List D} {out : R} (h : evW Try.prog 26 0 false c28 (endW Try.prog [.tmp 4] out) ⟨argsEnv (ds.map .d), fun _ => .no, 0⟩) (hl : ds.length ≤ 26 := by simp) : PCt Try.prog 28 ds out := PCt.of_ev mix fn28 hl h
theorem q28 {args : List V} {o : Nat → Obj'} {nx : Nat} {K X : V → (Nat → Obj') → Nat → Prop} (h : evW Try.prog 26 nx false c28 (endG Try.prog [.tmp 4] K X) ⟨argsEnv args, o, nx⟩) (hl : args.length ≤ 26 := by simp) : CtK Try.prog 28 args o nx K X := CtK.of_ev mix fn28 hl h
theorem p29 {ds : List D} {out : R} (h : evW Try.prog 69 0 false c29 (endW Try.prog [.tmp 4, .tmp 5] out) ⟨argsEnv (ds.map .d), fun _ => .no, 0⟩) (hl : ds.length ≤ 69 := by simp) : PCt Try.prog 29 ds out := PCt.of_ev mix fn29 hl h
theorem q29 {args : List V} {o : Nat → Obj'} {nx : Nat} {K X : V → (Nat → Obj') → Nat → Prop} (h : evW Try.prog 69 nx false c29 (endG Try.prog [.tmp 4, .tmp 5] K X) ⟨argsEnv args, o, nx⟩) (hl : args.length ≤ 69 := by simp) : CtK Try.prog 29 args o nx K X := CtK.of_ev mix fn29 hl h
theorem p30 {ds : List D} {out : R} (h : evW Try.prog 31 0 false c30 (endW Try.prog [.tmp 6] out) ⟨argsEnv (ds.map .d), fun _ => .no, 0⟩) (hl : ds.length ≤ 31 := by simp) : PCt Try.prog 30 ds out := PCt.of_ev mix fn30 hl h
theorem q30 {args : List V} {o : Nat → Obj'} {nx : Nat} {K X : V → (Nat → Obj') → Nat → Prop} (h : evW Try.prog 31 nx false c30 (endG Try.prog [.tmp 6] K X) ⟨argsEnv args, o, nx⟩) (hl : args.length ≤ 31 := by simp) : CtK Try.prog 30 args o nx K X := CtK.of_ev mix fn30 hl h
theorem p31 {ds : List D} {out : R} (h : evW Try.prog 43 0 false c31 (endW Try.prog [.tmp 4, .tmp 5] out) ⟨argsEnv (ds.map .d), fun _ => .no, 0⟩) (hl : ds.length ≤ 43 := by simp) : PCt Try.prog 31 ds out := PCt.of_ev mix fn31 hl h
theorem q31 {args : List V} {o : Nat → Obj'} {nx : Nat} {K X : V → (Nat → Obj') → Nat → Prop} (h : evW Try.prog 43 nx false c31 (endG Try.prog [.tmp 4, .tmp 5] K X) ⟨argsEnv args, o, nx⟩) (hl : args.length ≤ 43 := by simp) : CtK Try.prog 31 args o nx K X := CtK.of_ev mix fn31 hl h
theorem p32 {ds : List D} {out : R} (h : evW Try.prog 9 0 false c32 (endW Try.prog [.tmp 2] out) ⟨argsEnv (ds.map .d), fun _ => .no, 0⟩) (hl : ds.length ≤ 9 := by simp) : PCt Try.prog 32 ds out := PCt.of_ev mix fn32 hl h
theorem q32 {args : List V} {o : Nat → Obj'} {nx : Nat} {K X : V → (Nat → Obj') → Nat → Prop} (h : evW Try.prog 9 nx false c32 (endG Try.prog [.tmp 2] K X) ⟨argsEnv args, o, nx⟩) (hl : args.length ≤ 9 := by simp) : CtK Try.prog 32 args o nx K X := CtK.of_ev mix fn32 hl h
theorem p33 {ds : List D} {out : R} (h : evW Try.prog 57 0 false c33 (endW Try.prog [.tmp 4] out) ⟨argsEnv (ds.map .d), fun _ => .no, 0⟩) (hl : ds.length ≤ 57 := by simp) : PCt Try.prog 33 ds out := PCt.of_ev mix fn33 hl h
theorem q33 {args : List V} {o : Nat → Obj'} {nx : Nat} {K X : V → (Nat → Obj') → Nat → Prop} (h : evW Try.prog 57 nx false c33 (endG Try.prog [.tmp 4] K X) ⟨argsEnv args, o, nx⟩) (hl : args.length ≤ 57 := by simp) : CtK Try.prog 33 args o nx K X := CtK.of_ev mix fn33 hl h
theorem p34 {ds : List D} {out : R} (h : evW Try.prog 72 0 false c34 (endW Try.prog [.cell 6 24] out) ⟨argsEnv (ds.map .d), fun _ => .no, 0⟩) (hl : ds.length ≤ 72 := by simp) : PCt Try.prog 34 ds out := PCt.of_ev mix fn34 hl h
theorem q34 {args : List V} {o : Nat → Obj'} {nx : Nat} {K X : V → (Nat → Obj') → Nat → Prop} (h : evW Try.prog 72 nx false c34 (endG Try.prog [.cell 6 24] K X) ⟨argsEnv args, o, nx⟩) (hl : args.length ≤ 72 := by simp) : CtK Try.prog 34 args o nx K X := CtK.of_ev mix fn34 hl h
theorem p35 {ds : List D} {out : R} (h : evW Try.prog 82 0 false c35 (endW Try.prog [.tmp 4, .tmp 5] out) ⟨argsEnv (ds.map .d), fun _ => .no, 0⟩) (hl : ds.length ≤ 82 := by simp) : PCt Try.prog 35 ds out := PCt.of_ev mix fn35 hl h
theorem q35 {args : List V} {o : Nat → Obj'} {nx : Nat} {K X : V → (Nat → Obj') → Nat → Prop} (h : evW Try.prog 82 nx false c35 (endG Try.prog [.tmp 4, .tmp 5] K X) ⟨argsEnv args, o, nx⟩) (hl : args.length ≤ 82 := by simp) : CtK Try.prog 35 args o nx K X := CtK.of_ev mix fn35 hl h
theorem p36 {ds : List D} {out : R} (h : evW Try.prog 22 0 false c36 (endW Try.prog [.tmp 4] out) ⟨argsEnv (ds.map .d), fun _ => .no, 0⟩) (hl : ds.length ≤ 22 := by simp) : PCt Try.prog 36 ds out := PCt.of_ev mix fn36 hl h
theorem q36 {args : List V} {o : Nat → Obj'} {nx : Nat} {K X : V → (Nat → Obj') → Nat → Prop} (h : evW Try.prog 22 nx false c36 (endG Try.prog [.tmp 4] K X) ⟨argsEnv args, o, nx⟩) (hl : args.length ≤ 22 := by simp) : CtK Try.prog 36 args o nx K X := CtK.of_ev mix fn36 hl h
theorem p37 {ds : List D} {out : R} (h : evW Try.prog 9 0 false c37 (endW Try.prog [.cell 0 24] out) ⟨argsEnv (ds.map .d), fun _ => .no, 0⟩) (hl : ds.length ≤ 9 := by simp) : PCt Try.prog 37 ds out := PCt.of_ev mix fn37 hl h
theorem q37 {args : List V} {o : Nat → Obj'} {nx : Nat} {K X : V → (Nat → Obj') → Nat → Prop} (h : evW Try.prog 9 nx false c37 (endG Try.prog [.cell 0 24] K X) ⟨argsEnv args, o, nx⟩) (hl : args.length ≤ 9 := by simp) : CtK Try.prog 37 args o nx K X := CtK.of_ev mix fn37 hl h
theorem p38 {ds : List D} {out : R} (h : evW Try.prog 8 0 false c38 (endW Try.prog [.tmp 4] out) ⟨argsEnv (ds.map .d), fun _ => .no, 0⟩) (hl : ds.length ≤ 8 := by simp) : PCt Try.prog 38 ds out := PCt.of_ev mix fn38 hl h
theorem q38 {args : List V} {o : Nat → Obj'} {nx : Nat} {K X : V → (Nat → Obj') → Nat → Prop} (h : evW Try.prog 8 nx false c38 (endG Try.prog [.tmp 4] K X) ⟨argsEnv args, o, nx⟩) (hl : args.length ≤ 8 := by simp) : CtK Try.prog 38 args o nx K X := CtK.of_ev mix fn38 hl h
theorem p39 {ds : List D} {out : R} (h : evW Try.prog 8 0 false c39 (endW Try.prog [.cell 4 68] out) ⟨argsEnv (ds.map .d), fun _ => .no, 0⟩) (hl : ds.length ≤ 8 := by simp) : PCt Try.prog 39 ds out := PCt.of_ev mix fn39 hl h
theorem q39 {args : List V} {o : Nat → Obj'} {nx : Nat} {K X : V → (Nat → Obj') → Nat → Prop} (h : evW Try.prog 8 nx false c39 (endG Try.prog [.cell 4 68] K X) ⟨argsEnv args, o, nx⟩) (hl : args.length ≤ 8 := by simp) : CtK Try.prog 39 args o nx K X := CtK.of_ev mix fn39 hl h
theorem p40 {ds : List D} {out : R} (h : evW Try.prog 8 0 false c40 (endW Try.prog [.cell 0 24] out) ⟨argsEnv (ds.map .d), fun _ => .no, 0⟩) (hl : ds.length ≤ 8 := by simp) : PCt Try.prog 40 ds out := PCt.of_ev mix fn40 hl h
theorem q40 {args : List V} {o : Nat → Obj'} {nx : Nat} {K X : V → (Nat → Obj') → Nat → Prop} (h : evW Try.prog 8 nx false c40 (endG Try.prog [.cell 0 24] K X) ⟨argsEnv args, o, nx⟩) (hl : args.length ≤ 8 := by simp) : CtK Try.prog 40 args o nx K X := CtK.of_ev mix fn40 hl h
theorem p41 {ds : List D} {out : R} (h : evW Try.prog 7 0 false c41 (endW Try.prog [.cell 0 24] out) ⟨argsEnv (ds.map .d), fun _ => .no, 0⟩) (hl : ds.length ≤ 7 := by simp) : PCt Try.prog 41 ds out := PCt.of_ev mix fn41 hl h
theorem q41 {args : List V} {o : Nat → Obj'} {nx : Nat} {K X : V → (Nat → Obj') → Nat → Prop} (h : evW Try.prog 7 nx false c41 (endG Try.prog [.cell 0 24] K X) ⟨argsEnv args, o, nx⟩) (hl : args.length ≤ 7 := by simp) : CtK Try.prog 41 args o nx K X := CtK.of_ev mix fn41 hl h
theorem p42 {ds : List D} {out : R} (h : evW Try.prog 11 0 false c42 (endW Try.prog [.cell 6 45] out) ⟨argsEnv (ds.map .d), fun _ => .no, 0⟩) (hl : ds.length ≤ 11 := by simp) : PCt Try.prog 42 ds out := PCt.of_ev mix fn42 hl h
theorem q42 {args : List V} {o : Nat → Obj'} {nx : Nat} {K X : V → (Nat → Obj') → Nat → Prop} (h : evW Try.prog 11 nx false c42 (endG Try.prog [.cell 6 45] K X) ⟨argsEnv args, o, nx⟩) (hl : args.length ≤ 11 := by simp) : CtK Try.prog 42 args o nx K X := CtK.of_ev mix fn42 hl h
theorem p43 {ds : List D} {out : R} (h : evW Try.prog 90 0 false c43 (endW Try.prog [.tmp 4, .tmp 5] out) ⟨argsEnv (ds.map .d), fun _ => .no, 0⟩) (hl : ds.length ≤ 90 := by simp) : PCt Try.prog 43 ds out := PCt.of_ev mix fn43 hl h
theorem q43 {args : List V} {o : Nat → Obj'} {nx : Nat} {K X : V → (Nat → Obj') → Nat → Prop} (h : evW Try.prog 90 nx false c43 (endG Try.prog [.tmp 4, .tmp 5] K X) ⟨argsEnv args, o, nx⟩) (hl : args.length ≤ 90 := by simp) : CtK Try.prog 43 args o nx K X := CtK.of_ev mix fn43 hl h
theorem p44 {ds : List D} {out : R} (h : evW Try.prog 24 0 false c44 (endW Try.prog [.tmp 4] out) ⟨argsEnv (ds.map .d), fun _ => .no, 0⟩) (hl : ds.length ≤ 24 := by simp) : PCt Try.prog 44 ds out := PCt.of_ev mix fn44 hl h
theorem q44 {args : List V} {o : Nat → Obj'} {nx : Nat} {K X : V → (Nat → Obj') → Nat → Prop} (h : evW Try.prog 24 nx false c44 (endG Try.prog [.tmp 4] K X) ⟨argsEnv args, o, nx⟩) (hl : args.length ≤ 24 := by simp) : CtK Try.prog 44 args o nx K X := CtK.of_ev mix fn44 hl h
theorem p45 {ds : List D} {out : R} (h : evW Try.prog 89 0 false c45 (endW Try.prog [.tmp 4] out) ⟨argsEnv (ds.map .d), fun _ => .no, 0⟩) (hl : ds.length ≤ 89 := by simp) : PCt Try.prog 45 ds out := PCt.of_ev mix fn45 hl h
theorem q45 {args : List V} {o : Nat → Obj'} {nx : Nat} {K X : V → (Nat → Obj') → Nat → Prop} (h : evW Try.prog 89 nx false c45 (endG Try.prog [.tmp 4] K X) ⟨argsEnv args, o, nx⟩) (hl : args.length ≤ 89 := by simp) : CtK Try.prog 45 args o nx K X := CtK.of_ev mix fn45 hl h
theorem p46 {ds : List D} {out : R} (h : evW Try.prog 9 0 false c46 (endW Try.prog [.tmp 4] out) ⟨argsEnv (ds.map .d), fun _ => .no, 0⟩) (hl : ds.length ≤ 9 := by simp) : PCt Try.prog 46 ds out := PCt.of_ev mix fn46 hl h
theorem q46 {args : List V} {o : Nat → Obj'} {nx : Nat} {K X : V → (Nat → Obj') → Nat → Prop} (h : evW Try.prog 9 nx false c46 (endG Try.prog [.tmp 4] K X) ⟨argsEnv args, o, nx⟩) (hl : args.length ≤ 9 := by simp) : CtK Try.prog 46 args o nx K X := CtK.of_ev mix fn46 hl h
theorem p47 {ds : List D} {out : R} (h : evW Try.prog 6 0 false c47 (endW Try.prog [.tmp 2] out) ⟨argsEnv (ds.map .d), fun _ => .no, 0⟩) (hl : ds.length ≤ 6 := by simp) : PCt Try.prog 47 ds out := PCt.of_ev mix fn47 hl h
theorem q47 {args : List V} {o : Nat → Obj'} {nx : Nat} {K X : V → (Nat → Obj') → Nat → Prop} (h : evW Try.prog 6 nx false c47 (endG Try.prog [.tmp 2] K X) ⟨argsEnv args, o, nx⟩) (hl : args.length ≤ 6 := by simp) : CtK Try.prog 47 args o nx K X := CtK.of_ev mix fn47 hl h
theorem p48 {ds : List D} {out : R} (h : evW Try.prog 29 0 false c48 (endW Try.prog [.tmp 2] out) ⟨argsEnv (ds.map .d), fun _ => .no, 0⟩) (hl : ds.length ≤ 29 := by simp) : PCt Try.prog 48 ds out := PCt.of_ev mix fn48 hl h
theorem q48 {args : List V} {o : Nat → Obj'} {nx : Nat} {K X : V → (Nat → Obj') → Nat → Prop} (h : evW Try.prog 29 nx false c48 (endG Try.prog [.tmp 2] K X) ⟨argsEnv args, o, nx⟩) (hl : args.length ≤ 29 := by simp) : CtK Try.prog 48 args o nx K X := CtK.of_ev mix fn48 hl h
theorem p49 {ds : List D} {out : R} (h : evW Try.prog 15 0 false c49 (endW Try.prog [.tmp 6] out) ⟨argsEnv (ds.map .d), fun _ => .no, 0⟩) (hl : ds.length ≤ 15 := by simp) : PCt Try.prog 49 ds out := PCt.of_ev mix fn49 hl h
theorem q49 {args : List V} {o : Nat → Obj'} {nx : Nat} {K X : V → (Nat → Obj') → Nat → Prop} (h : evW Try.prog 15 nx false c49 (endG Try.prog [.tmp 6] K X) ⟨argsEnv args, o, nx⟩) (hl : args.length ≤ 15 := by simp) : CtK Try.prog 49 args o nx K X := CtK.of_ev mix fn49 hl h
theorem p50 {ds : List D} {out : R} (h : evW Try.prog 9 0 false c50 (endW Try.prog [.tmp 4] out) ⟨argsEnv (ds.map .d), fun _ => .no, 0⟩) (hl : ds.length ≤ 9 := by simp) : PCt Try.prog 50 ds out := PCt.of_ev mix fn50 hl h
theorem q50 {args : List V} {o : Nat → Obj'} {nx : Nat} {K X : V → (Nat → Obj') → Nat → Prop} (h : evW Try.prog 9 nx false c50 (endG Try.prog [.tmp 4] K X) ⟨argsEnv args, o, nx⟩) (hl : args.length ≤ 9 := by simp) : CtK Try.prog 50 args o nx K X := CtK.of_ev mix fn50 hl h
theorem p51 {ds : List D} {out : R} (h : evW Try.prog 9 0 false c51 (endW Try.prog [.tmp 3] out) ⟨argsEnv (ds.map .d), fun _ => .no, 0⟩) (hl : ds.length ≤ 9 := by simp) : PCt Try.prog 51 ds out := PCt.of_ev mix fn51 hl h
theorem q51 {args : List V} {o : Nat → Obj'} {nx : Nat} {K X : V → (Nat → Obj') → Nat → Prop} (h : evW Try.prog 9 nx false c51 (endG Try.prog [.tmp 3] K X) ⟨argsEnv args, o, nx⟩) (hl : args.length ≤ 9 := by simp) : CtK Try.prog 51 args o nx K X := CtK.of_ev mix fn51 hl h
theorem p52 {ds : List D} {out : R} (h : evW Try.prog 31 0 false c52 (endW Try.prog [.tmp 6] out) ⟨argsEnv (ds.map .d), fun _ => .no, 0⟩) (hl : ds.length ≤ 31 := by simp) : PCt Try.prog 52 ds out := PCt.of_ev mix fn52 hl h
theorem q52 {args : List V} {o : Nat → Obj'} {nx : Nat} {K X : V → (Nat → Obj') → Nat → Prop} (h : evW Try.prog 31 nx false c52 (endG Try.prog [.tmp 6] K X) ⟨argsEnv args, o, nx⟩) (hl : args.length ≤ 31 := by simp) : CtK Try.prog 52 args o nx K X := CtK.of_ev mix fn52 hl h
theorem p53 {ds : List D} {out : R} (h : evW Try.prog 15 0 false c53 (endW Try.prog [.tmp 4] out) ⟨argsEnv (ds.map .d), fun _ => .no, 0⟩) (hl : ds.length ≤ 15 := by simp) : PCt Try.prog 53 ds out := PCt.of_ev mix fn53 hl h
theorem q53 {args : List V} {o : Nat → Obj'} {nx : Nat} {K X : V → (Nat → Obj') → Nat → Prop} (h : evW Try.prog 15 nx false c53 (endG Try.prog [.tmp 4] K X) ⟨argsEnv args, o, nx⟩) (hl : args.length ≤ 15 := by simp) : CtK Try.prog 53 args o nx K X := CtK.of_ev mix fn53 hl h
theorem p54 {ds : List D} {out : R} (h : evW Try.prog 24 0 false c54 (endW Try.prog [.tmp 2] out) ⟨argsEnv (ds.map .d), fun _ => .no, 0⟩) (hl : ds.length ≤ 24 := by simp) : PCt Try.prog 54 ds out := PCt.of_ev mix fn54 hl h
theorem q54 {args : List V} {o : Nat → Obj'} {nx : Nat} {K X : V → (Nat → Obj') → Nat → Prop} (h : evW Try.prog 24 nx false c54 (endG Try.prog [.tmp 2] K X) ⟨argsEnv args, o, nx⟩) (hl : args.length ≤ 24 := by simp) : CtK Try.prog 54 args o nx K X := CtK.of_ev mix fn54 hl h
theorem p55 {ds : List D} {out : R} (h : evW Try.prog 21 0 false c55 (endW Try.prog [.tmp 6] out) ⟨argsEnv (ds.map .d), fun _ => .no, 0⟩) (hl : ds.length ≤ 21 := by simp) : PCt Try.prog 55 ds out := PCt.of_ev mix fn55 hl h
theorem q55 {args : List V} {o : Nat → Obj'} {nx : Nat} {K X : V → (Nat → Obj') → Nat → Prop} (h : evW Try.prog 21 nx false c55 (endG Try.prog [.tmp 6] K X) ⟨argsEnv args, o, nx⟩) (hl : args.length ≤ 21 := by simp) : CtK Try.prog 55 args o nx K X := CtK.of_ev mix fn55 hl h
theorem p56 {ds : List D} {out : R} (h : evW Try.prog 15 0 false c56 (endW Try.prog [.tmp 6] out) ⟨argsEnv (ds.map .d), fun _ => .no, 0⟩) (hl : ds.length ≤ 15 := by simp) : PCt Try.prog 56 ds out := PCt.of_ev mix fn56 hl h
theorem q56 {args : List V} {o : Nat → Obj'} {nx : Nat} {K X : V → (Nat → Obj') → Nat → Prop} (h : evW Try.prog 15 nx false c56 (endG Try.prog [.tmp 6] K X) ⟨argsEnv args, o, nx⟩) (hl : args.length ≤ 15 := by simp) : CtK Try.prog 56 args o nx K X := CtK.of_ev mix fn56 hl h
theorem p57 {ds : List D} {out : R} (h : evW Try.prog 25 0 false c57 (endW Try.prog [.tmp 4] out) ⟨argsEnv (ds.map .d), fun _ => .no, 0⟩) (hl : ds.length ≤ 25 := by simp) : PCt Try.prog 57 ds out := PCt.of_ev mix fn57 hl h
theorem q57 {args : List V} {o : Nat → Obj'} {nx : Nat} {K X : V → (Nat → Obj') → Nat → Prop} (h : evW Try.prog 25 nx false c57 (endG Try.prog [.tmp 4] K X) ⟨argsEnv args, o, nx⟩) (hl : args.length ≤ 25 := by simp) : CtK Try.prog 57 args o nx K X := CtK.of_ev mix fn57 hl h
theorem p58 {ds : List D} {out : R} (h : evW Try.prog 65 0 false c58 (endW Try.prog [.tmp 4] out) ⟨argsEnv (ds.map .d), fun _ => .no, 0⟩) (hl : ds.length ≤ 65 := by simp) : PCt Try.prog 58 ds out := PCt.of_ev mix fn58 hl h
theorem q58 {args : List V} {o : Nat → Obj'} {nx : Nat} {K X : V → (Nat → Obj') → Nat → Prop} (h : evW Try.prog 65 nx false c58 (endG Try.prog [.tmp 4] K X) ⟨argsEnv args, o, nx⟩) (hl : args.length ≤ 65 := by simp) : CtK Try.prog 58 args o nx K X := CtK.of_ev mix fn58 hl h
theorem p60 {ds : List D} {out : R} (h : evW Try.prog 10 0 false c60 (endW Try.prog [] out) ⟨argsEnv (ds.map .d), fun _ => .no, 0⟩) (hl : ds.length ≤ 10 := by simp) : PCt Try.prog 60 ds out := PCt.of_ev mix fn60 hl h
theorem q60 {args : List V} {o : Nat → Obj'} {nx : Nat} {K X : V → (Nat → Obj') → Nat → Prop} (h : evW Try.prog 10 nx false c60 (endG Try.prog [] K X) ⟨argsEnv args, o, nx⟩) (hl : args.length ≤ 10 := by simp) : CtK Try.prog 60 args o nx K X := CtK.of_ev mix fn60 hl h
theorem p61 {ds : List D} {out : R} (h : evW Try.prog 28 0 false c61 (endW Try.prog [.tmp 2] out) ⟨argsEnv (ds.map .d), fun _ => .no, 0⟩) (hl : ds.length ≤ 28 := by simp) : PCt Try.prog 61 ds out := PCt.of_ev mix fn61 hl h
theorem q61 {args : List V} {o : Nat → Obj'} {nx : Nat} {K X : V → (Nat → Obj') → Nat → Prop} (h : evW Try.prog 28 nx false c61 (endG Try.prog [.tmp 2] K X) ⟨argsEnv args, o, nx⟩) (hl : args.length ≤ 28 := by simp) : CtK Try.prog 61 args o nx K X := CtK.of_ev mix fn61 hl h
theorem p62 {ds : List D} {out : R} (h : evW Try.prog 34 0 false c62 (endW Try.prog [.tmp 4] out) ⟨argsEnv (ds.map .d), fun _ => .no, 0⟩) (hl : ds.length ≤ 34 := by simp) : PCt Try.prog 62 ds out := PCt.of_ev mix fn62 hl h
theorem q62 {args : List V} {o : Nat → Obj'} {nx : Nat} {K X : V → (Nat → Obj') → Nat → Prop} (h : evW Try.prog 34 nx false c62 (endG Try.prog [.tmp 4] K X) ⟨argsEnv args, o, nx⟩) (hl : args.length ≤ 34 := by simp) : CtK Try.prog 62 args o nx K X := CtK.of_ev mix fn62 hl h
theorem p63 {ds : List D} {out : R} (h : evW Try.prog 43 0 false c63 (endW Try.prog [.tmp 2] out) ⟨argsEnv (ds.map .d), fun _ => .no, 0⟩) (hl : ds.length ≤ 43 := by simp) : PCt Try.prog 63 ds out := PCt.of_ev mix fn63 hl h
theorem q63 {args : List V} {o : Nat → Obj'} {nx : Nat} {K X : V → (Nat → Obj') → Nat → Prop} (h : evW Try.prog 43 nx false c63 (endG Try.prog [.tmp 2] K X) ⟨argsEnv args, o, nx⟩) (hl : args.length ≤ 43 := by simp) : CtK Try.prog 63 args o nx K X := CtK.of_ev mix fn63 hl h
theorem p64 {ds : List D} {out : R} (h : evW Try.prog 89 0 false c64 (endW Try.prog [.tmp 6, .tmp 7] out) ⟨argsEnv (ds.map .d), fun _ => .no, 0⟩) (hl : ds.length ≤ 89 := by simp) : PCt Try.prog 64 ds out := PCt.of_ev mix fn64 hl h
theorem q64 {args : List V} {o : Nat → Obj'} {nx : Nat} {K X : V → (Nat → Obj') → Nat → Prop} (h : evW Try.prog 89 nx false c64 (endG Try.prog [.tmp 6, .tmp 7] K X) ⟨argsEnv args, o, nx⟩) (hl : args.length ≤ 89 := by simp) : CtK Try.prog 64 args o nx K X := CtK.of_ev mix fn64 hl h
theorem p65 {ds : List D} {out : R} (h : evW Try.prog 21 0 false c65 (endW Try.prog [.cell 2 47, .tmp 3] out) ⟨argsEnv (ds.map .d), fun _ => .no, 0⟩) (hl : ds.length ≤ 21 := by simp) : PCt Try.prog 65 ds out := PCt.of_ev mix fn65 hl h
theorem q65 {args : List V} {o : Nat → Obj'} {nx : Nat} {K X : V → (Nat → Obj') → Nat → Prop} (h : evW Try.prog 21 nx false c65 (endG Try.prog [.cell 2 47, .tmp 3] K X) ⟨argsEnv args, o, nx⟩) (hl : args.length ≤ 21 := by simp) : CtK Try.prog 65 args o nx K X := CtK.of_ev mix fn65 hl h
theorem p66 {ds : List D} {out : R} (h : evW Try.prog 54 0 false c66 (endW Try.prog [] out) ⟨argsEnv (ds.map .d), fun _ => .no, 0⟩) (hl : ds.length ≤ 54 := by simp) : PCt Try.prog 66 ds out := PCt.of_ev mix fn66 hl h
theorem q66 {args : List V} {o : Nat → Obj'} {nx : Nat} {K X : V → (Nat → Obj') → Nat → Prop} (h : evW Try.prog 54 nx false c66 (endG Try.prog [] K X) ⟨argsEnv args, o, nx⟩) (hl : args.length ≤ 54 := by simp) : CtK Try.prog 66 args o nx K X := CtK.of_ev mix fn66 hl h
theorem p67 {ds : List D} {out : R} (h : evW Try.prog 78 0 false c67 (endW Try.prog [.cell 6 90] out) ⟨argsEnv (ds.map .d), fun _ => .no, 0⟩) (hl : ds.length ≤ 78 := by simp) : PCt Try.prog 67 ds out := PCt.of_ev mix fn67 hl h
theorem q67 {args : List V} {o : Nat → Obj'} {nx : Nat} {K X : V → (Nat → Obj') → Nat → Prop} (h : evW Try.prog 78 nx false c67 (endG Try.prog [.cell 6 90] K X) ⟨argsEnv args, o, nx⟩) (hl : args.length ≤ 78 := by simp) : CtK Try.prog 67 args o nx K X := CtK.of_ev mix fn67 hl h
theorem p68 {ds : List D} {out : R} (h : evW Try.prog 108 0 false c68 (endW Try.prog [.cell 6 68, .tmp 7] out) ⟨argsEnv (ds.map .d), fun _ => .no, 0⟩) (hl : ds.length ≤ 108 := by simp) : PCt Try.prog 68 ds out := PCt.of_ev mix fn68 hl h
theorem q68 {args : List V} {o : Nat → Obj'} {nx : Nat} {K X : V → (Nat → Obj') → Nat → Prop} (h : evW Try.prog 108 nx false c68 (endG Try.prog [.cell 6 68, .tmp 7] K X) ⟨argsEnv args, o, nx⟩) (hl : args.length ≤ 108 := by simp) : CtK Try.prog 68 args o nx K X := CtK.of_ev mix fn68 hl h
theorem p69 {ds : List D} {out : R} (h : evW Try.prog 24 0 false c69 (endW Try.prog [.tmp 4] out) ⟨argsEnv (ds.map .d), fun _ => .no, 0⟩) (hl : ds.length ≤ 24 := by simp) : PCt Try.prog 69 ds out := PCt.of_ev mix fn69 hl h
theorem q69 {args : List V} {o : Nat → Obj'} {nx : Nat} {K X : V → (Nat → Obj') → Nat → Prop} (h : evW Try.prog 24 nx false c69 (endG Try.prog [.tmp 4] K X) ⟨argsEnv args, o, nx⟩) (hl : args.length ≤ 24 := by simp) : CtK Try.prog 69 args o nx K X := CtK.of_ev mix fn69 hl h
theorem p70 {ds : List D} {out : R} (h : evW Try.prog 26 0 false c70 (endW Try.prog [.tmp 4] out) ⟨argsEnv (ds.map .d), fun _ => .no, 0⟩) (hl : ds.length ≤ 26 := by simp) : PCt Try.prog 70 ds out := PCt.of_ev mix fn70 hl h
theorem q70 {args : List V} {o : Nat → Obj'} {nx : Nat} {K X : V → (Nat → Obj') → Nat → Prop} (h : evW Try.prog 26 nx false c70 (endG Try.prog [.tmp 4] K X) ⟨argsEnv args, o, nx⟩) (hl : args.length ≤ 26 := by simp) : CtK Try.prog 70 args o nx K X := CtK.of_ev mix fn70 hl h
theorem p71 {ds : List D} {out : R} (h : evW Try.prog 30 0 false c71 (endW Try.prog [.cell 8 24] out) ⟨argsEnv (ds.map .d), fun _ => .no, 0⟩) (hl : ds.length ≤ 30 := by simp) : PCt Try.prog 71 ds out := PCt.of_ev mix fn71 hl h
theorem q71 {args : List V} {o : Nat → Obj'} {nx : Nat} {K X : V → (Nat → Obj') → Nat → Prop} (h : evW Try.prog 30 nx false c71 (endG Try.prog [.cell 8 24] K X) ⟨argsEnv args, o, nx⟩) (hl : args.length ≤ 30 := by simp) : CtK Try.prog 71 args o nx K X := CtK.of_ev mix fn71 hl h
theorem p72 {ds : List D} {out : R} (h : evW Try.prog 9 0 false c72 (endW Try.prog [.tmp 2] out) ⟨argsEnv (ds.map .d), fun _ => .no, 0⟩) (hl : ds.length ≤ 9 := by simp) : PCt Try.prog 72 ds out := PCt.of_ev mix fn72 hl h
theorem q72 {args : List V} {o : Nat → Obj'} {nx : Nat} {K X : V → (Nat → Obj') → Nat → Prop} (h : evW Try.prog 9 nx false c72 (endG Try.prog [.tmp 2] K X) ⟨argsEnv args, o, nx⟩) (hl : args.length ≤ 9 := by simp) : CtK Try.prog 72 args o nx K X := CtK.of_ev mix fn72 hl h
theorem p73 {ds : List D} {out : R} (h : evW Try.prog 21 0 false c73 (endW Try.prog [.tmp 4] out) ⟨argsEnv (ds.map .d), fun _ => .no, 0⟩) (hl : ds.length ≤ 21 := by simp) : PCt Try.prog 73 ds out := PCt.of_ev mix fn73 hl h
theorem q73 {args : List V} {o : Nat → Obj'} {nx : Nat} {K X : V → (Nat → Obj') → Nat → Prop} (h : evW Try.prog 21 nx false c73 (endG Try.prog [.tmp 4] K X) ⟨argsEnv args, o, nx⟩) (hl : args.length ≤ 21 := by simp) : CtK Try.prog 73 args o nx K X := CtK.of_ev mix fn73 hl h
theorem p74 {ds : List D} {out : R} (h : evW Try.prog 51 0 false c74 (endW Try.prog [.cell 8 24] out) ⟨argsEnv (ds.map .d), fun _ => .no, 0⟩) (hl : ds.length ≤ 51 := by simp) : PCt Try.prog 74 ds out := PCt.of_ev mix fn74 hl h
theorem q74 {args : List V} {o : Nat → Obj'} {nx : Nat} {K X : V → (Nat → Obj') → Nat → Prop} (h : evW Try.prog 51 nx false c74 (endG Try.prog [.cell 8 24] K X) ⟨argsEnv args, o, nx⟩) (hl : args.length ≤ 51 := by simp) : CtK Try.prog 74 args o nx K X := CtK.of_ev mix fn74 hl h
theorem p75 {ds : List D} {out : R} (h : evW Try.prog 15 0 false c75 (endW Try.prog [.tmp 4] out) ⟨argsEnv (ds.map .d), fun _ => .no, 0⟩) (hl : ds.length ≤ 15 := by simp) : PCt Try.prog 75 ds out := PCt.of_ev mix fn75 hl h
theorem q75 {args : List V} {o : Nat → Obj'} {nx : Nat} {K X : V → (Nat → Obj') → Nat → Prop} (h : evW Try.prog 15 nx false c75 (endG Try.prog [.tmp 4] K X) ⟨argsEnv args, o, nx⟩) (hl : args.length ≤ 15 := by simp) : CtK Try.prog 75 args o nx K X := CtK.of_ev mix fn75 hl h
theorem p76 {ds : List D} {out : R} (h : evW Try.prog 8 0 false c76 (endW Try.prog [.tmp 2] out) ⟨argsEnv (ds.map .d), fun _ => .no, 0⟩) (hl : ds.length ≤ 8 := by simp) : PCt Try.prog 76 ds out := PCt.of_ev mix fn76 hl h
theorem q76 {args : List V} {o : Nat → Obj'} {nx : Nat} {K X : V → (Nat → Obj') → Nat → Prop} (h : evW Try.prog 8 nx false c76 (endG Try.prog [.tmp 2] K X) ⟨argsEnv args, o, nx⟩) (hl : args.length ≤ 8 := by simp) : CtK Try.prog 76 args o nx K X := CtK.of_ev mix fn76 hl h
theorem p77 {ds : List D} {out : R} (h : evW Try.prog 9 0 false c77 (endW Try.prog [.tmp 4] out) ⟨argsEnv (ds.map .d), fun _ => .no, 0⟩) (hl : ds.length ≤ 9 := by simp) : PCt Try.prog 77 ds out := PCt.of_ev mix fn77 hl h
theorem q77 {args : List V} {o : Nat → Obj'} {nx : Nat} {K X : V → (Nat → Obj') → Nat → Prop} (h : evW Try.prog 9 nx false c77 (endG Try.prog [.tmp 4] K X) ⟨argsEnv args, o, nx⟩) (hl : args.length ≤ 9 := by simp) : CtK Try.prog 77 args o nx K X := CtK.of_ev mix fn77 hl h
theorem p78 {ds : List D} {out : R} (h : evW Try.prog 44 0 false c78 (endW Try.prog [.tmp 4] out) ⟨argsEnv (ds.map .d), fun _ => .no, 0⟩) (hl : ds.length ≤ 44 := by simp) : PCt Try.prog 78 ds out := PCt.of_ev mix fn78 hl h
theorem q78 {args : List V} {o : Nat → Obj'} {nx : Nat} {K X : V → (Nat → Obj') → Nat → Prop} (h : evW Try.prog 44 nx false c78 (endG Try.prog [.tmp 4] K X) ⟨argsEnv args, o, nx⟩) (hl : args.length ≤ 44 := by simp) : CtK Try.prog 78 args o nx K X := CtK.of_ev mix fn78 hl h
theorem p79 {ds : List D} {out : R} (h : evW Try.prog 37 0 false c79 (endW Try.prog [.tmp 8] out) ⟨argsEnv (ds.map .d), fun _ => .no, 0⟩) (hl : ds.length ≤ 37 := by simp) : PCt Try.prog 79 ds out := PCt.of_ev mix fn79 hl h
theorem q79 {args : List V} {o : Nat → Obj'} {nx : Nat} {K X : V → (Nat → Obj') → Nat → Prop} (h : evW Try.prog 37 nx false c79 (endG Try.prog [.tmp 8] K X) ⟨argsEnv args, o, nx⟩) (hl : args.length ≤ 37 := by simp) : CtK Try.prog 79 args o nx K X := CtK.of_ev mix fn79 hl h
theorem p80 {ds : List D} {out : R} (h : evW Try.prog 15 0 false c80 (endW Try.prog [.cell 2 112] out) ⟨argsEnv (ds.map .d), fun _ => .no, 0⟩) (hl : ds.length ≤ 15 := by simp) : PCt Try.prog 80 ds out := PCt.of_ev mix fn80 hl h
theorem q80 {args : List V} {o : Nat → Obj'} {nx : Nat} {K X : V → (Nat → Obj') → Nat → Prop} (h : evW Try.prog 15 nx false c80 (endG Try.prog [.cell 2 112] K X) ⟨argsEnv args, o, nx⟩) (hl : args.length ≤ 15 := by simp) : CtK Try.prog 80 args o nx K X := CtK.of_ev mix fn80 hl h
theorem p81 {ds : List D} {out : R} (h : evW Try.prog 35 0 false c81 (endW Try.prog [.tmp 4] out) ⟨argsEnv (ds.map .d), fun _ => .no, 0⟩) (hl : ds.length ≤ 35 := by simp) : PCt Try.prog 81 ds out := PCt.of_ev mix fn81 hl h
theorem q81 {args : List V} {o : Nat → Obj'} {nx : Nat} {K X : V → (Nat → Obj') → Nat → Prop} (h : evW Try.prog 35 nx false c81 (endG Try.prog [.tmp 4] K X) ⟨argsEnv args, o, nx⟩) (hl : args.length ≤ 35 := by simp) : CtK Try.prog 81 args o nx K X := CtK.of_ev mix fn81 hl h
theorem p82 {ds : List D} {out : R} (h : evW Try.prog 19 0 false c82 (endW Try.prog [.tmp 4] out) ⟨argsEnv (ds.map .d), fun _ => .no, 0⟩) (hl : ds.length ≤ 19 := by simp) : PCt Try.prog 82 ds out := PCt.of_ev mix fn82 hl h
theorem q82 {args : List V} {o : Nat → Obj'} {nx : Nat} {K X : V → (Nat → Obj') → Nat → Prop} (h : evW Try.prog 19 nx false c82 (endG Try.prog [.tmp 4] K X) ⟨argsEnv args, o, nx⟩) (hl : args.length ≤ 19 := by simp) : CtK Try.prog 82 args o nx K X := CtK.of_ev mix fn82 hl h
theorem p83 {ds : List D} {out : R} (h : evW Try.prog 19 0 false c83 (endW Try.prog [.tmp 4] out) ⟨argsEnv (ds.map .d), fun _ => .no, 0⟩) (hl : ds.length ≤ 19 := by simp) : PCt Try.prog 83 ds out := PCt.of_ev mix fn83 hl h
theorem q83 {args : List V} {o : Nat → Obj'} {nx : Nat} {K X : V → (Nat → Obj') → Nat → Prop} (h : evW Try.prog 19 nx false c83 (endG Try.prog [.tmp 4] K X) ⟨argsEnv args, o, nx⟩) (hl : args.length ≤ 19 := by simp) : CtK Try.prog 83 args o nx K X := CtK.of_ev mix fn83 hl h
theorem p84 {ds : List D} {out : R} (h : evW Try.prog 6 0 false c84 (endW Try.prog [.tmp 2] out) ⟨argsEnv (ds.map .d), fun _ => .no, 0⟩) (hl : ds.length ≤ 6 := by simp) : PCt Try.prog 84 ds out := PCt.of_ev mix fn84 hl h
theorem q84 {args : List V} {o : Nat → Obj'} {nx : Nat} {K X : V → (Nat → Obj') → Nat → Prop} (h : evW Try.prog 6 nx false c84 (endG Try.prog [.tmp 2] K X) ⟨argsEnv args, o, nx⟩) (hl : args.length ≤ 6 := by simp) : CtK Try.prog 84 args o nx K X := CtK.of_ev mix fn84 hl h
theorem p85 {ds : List D} {out : R} (h : evW Try.prog 26 0 false c85 (endW Try.prog [.tmp 4] out) ⟨argsEnv (ds.map .d), fun _ => .no, 0⟩) (hl : ds.length ≤ 26 := by simp) : PCt Try.prog 85 ds out := PCt.of_ev mix fn85 hl h
theorem q85 {args : List V} {o : Nat → Obj'} {nx : Nat} {K X : V → (Nat → Obj') → Nat → Prop} (h : evW Try.prog 26 nx false c85 (endG Try.prog [.tmp 4] K X) ⟨argsEnv args, o, nx⟩) (hl : args.length ≤ 26 := by simp) : CtK Try.prog 85 args o nx K X := CtK.of_ev mix fn85 hl h
theorem p86 {ds : List D} {out : R} (h : evW Try.prog 16 0 false c86 (endW Try.prog [.tmp 4] out) ⟨argsEnv (ds.map .d), fun _ => .no, 0⟩) (hl : ds.length ≤ 16 := by simp) : PCt Try.prog 86 ds out := PCt.of_ev mix fn86 hl h
theorem q86 {args : List V} {o : Nat → Obj'} {nx : Nat} {K X : V → (Nat → Obj') → Nat → Prop} (h : evW Try.prog 16 nx false c86 (endG Try.prog [.tmp 4] K X) ⟨argsEnv args, o, nx⟩) (hl : args.length ≤ 16 := by simp) : CtK Try.prog 86 args o nx K X := CtK.of_ev mix fn86 hl h
theorem p87 {ds : List D} {out : R} (h : evW Try.prog 21 0 false c87 (endW Try.prog [.tmp 6] out) ⟨argsEnv (ds.map .d), fun _ => .no, 0⟩) (hl : ds.length ≤ 21 := by simp) : PCt Try.prog 87 ds out := PCt.of_ev mix fn87 hl h
theorem q87 {args : List V} {o : Nat → Obj'} {nx : Nat} {K X : V → (Nat → Obj') → Nat → Prop} (h : evW Try.prog 21 nx false c87 (endG Try.prog [.tmp 6] K X) ⟨argsEnv args, o, nx⟩) (hl : args.length ≤ 21 := by simp) : CtK Try.prog 87 args o nx K X := CtK.of_ev mix fn87 hl h
theorem p89 {ds : List D} {out : R} (h : evW Try.prog 8 0 false c89 (endW Try.prog [.tmp 2] out) ⟨argsEnv (ds.map .d), fun _ => .no, 0⟩) (hl : ds.length ≤ 8 := by simp) : PCt Try.prog 89 ds out := PCt.of_ev mix fn89 hl h
theorem q89 {args : List V} {o : Nat → Obj'} {nx : Nat} {K X : V → (Nat → Obj') → Nat → Prop} (h : evW Try.prog 8 nx false c89 (endG Try.prog [.tmp 2] K X) ⟨argsEnv args, o, nx⟩) (hl : args.length ≤ 8 := by simp) : CtK Try.prog 89 args o nx K X := CtK.of_ev mix fn89 hl h
theorem p90 {ds : List D} {out : R} (h : evW Try.prog 51 0 false c90 (endW Try.prog [] out) ⟨argsEnv (ds.map .d), fun _ => .no, 0⟩) (hl : ds.length ≤ 51 := by simp) : PCt Try.prog 90 ds out := PCt.of_ev mix fn90 hl h
theorem q90 {args : List V} {o : Nat → Obj'} {nx : Nat} {K X : V → (Nat → Obj') → Nat → Prop} (h : evW Try.prog 51 nx false c90 (endG Try.prog [] K X) ⟨argsEnv args, o, nx⟩) (hl : args.length ≤ 51 := by simp) : CtK Try.prog 90 args o nx K X := CtK.of_ev mix fn90 hl h
theorem p91 {ds : List D} {out : R} (h : evW Try.prog 112 0 false c91 (endW Try.prog [] out) ⟨argsEnv (ds.map .d), fun _ => .no, 0⟩) (hl : ds.length ≤ 112 := by simp) : PCt Try.prog 91 ds out := PCt.of_ev mix fn91 hl h
theorem q91 {args : List V} {o : Nat → Obj'} {nx : Nat} {K X : V → (Nat → Obj') → Nat → Prop} (h : evW Try.prog 112 nx false c91 (endG Try.prog [] K X) ⟨argsEnv args, o, nx⟩) (hl : args.length ≤ 112 := by simp) : CtK Try.prog 91 args o nx K X := CtK.of_ev mix fn91 hl h
theorem p92 {ds : List D} {out : R} (h : evW Try.prog 17 0 false c92 (endW Try.prog [.tmp 2] out) ⟨argsEnv (ds.map .d), fun _ => .no, 0⟩) (hl : ds.length ≤ 17 := by simp) : PCt Try.prog 92 ds out := PCt.of_ev mix fn92 hl h
theorem q92 {args : List V} {o : Nat → Obj'} {nx : Nat} {K X : V → (Nat → Obj') → Nat → Prop} (h : evW Try.prog 17 nx false c92 (endG Try.prog [.tmp 2] K X) ⟨argsEnv args, o, nx⟩) (hl : args.length ≤ 17 := by simp) : CtK Try.prog 92 args o nx K X := CtK.of_ev mix fn92 hl h
theorem p93 {ds : List D} {out : R} (h : evW Try.prog 8 0 false c93 (endW Try.prog [.tmp 2] out) ⟨argsEnv (ds.map .d), fun _ => .no, 0⟩) (hl : ds.length ≤ 8 := by simp) : PCt Try.prog 93 ds out := PCt.of_ev mix fn93 hl h
theorem q93 {args : List V} {o : Nat → Obj'} {nx : Nat} {K X : V → (Nat → Obj') → Nat → Prop} (h : evW Try.prog 8 nx false c93 (endG Try.prog [.tmp 2] K X) ⟨argsEnv args, o, nx⟩) (hl : args.length ≤ 8 := by simp) : CtK Try.prog 93 args o nx K X := CtK.of_ev mix fn93 hl h
theorem p94 {ds : List D} {out : R} (h : evW Try.prog 99 0 false c94 (endW Try.prog [.cell 2 47] out) ⟨argsEnv (ds.map .d), fun _ => .no, 0⟩) (hl : ds.length ≤ 99 := by simp) : PCt Try.prog 94 ds out := PCt.of_ev mix fn94 hl h
theorem q94 {args : List V} {o : Nat → Obj'} {nx : Nat} {K X : V → (Nat → Obj') → Nat → Prop} (h : evW Try.prog 99 nx false c94 (endG Try.prog [.cell 2 47] K X) ⟨argsEnv args, o, nx⟩) (hl : args.length ≤ 99 := by simp) : CtK Try.prog 94 args o nx K X := CtK.of_ev mix fn94 hl h
theorem p95 {ds : List D} {out : R} (h : evW Try.prog 80 0 false c95 (endW Try.prog [.tmp 8] out) ⟨argsEnv (ds.map .d), fun _ => .no, 0⟩) (hl : ds.length ≤ 80 := by simp) : PCt Try.prog 95 ds out := PCt.of_ev mix fn95 hl h
theorem q95 {args : List V} {o : Nat → Obj'} {nx : Nat} {K X : V → (Nat → Obj') → Nat → Prop} (h : evW Try.prog 80 nx false c95 (endG Try.prog [.tmp 8] K X) ⟨argsEnv args, o, nx⟩) (hl : args.length ≤ 80 := by simp) : CtK Try.prog 95 args o nx K X := CtK.of_ev mix fn95 hl h
theorem p96 {ds : List D} {out : R} (h : evW Try.prog 89 0 false c96 (endW Try.prog [.tmp 6] out) ⟨argsEnv (ds.map .d), fun _ => .no, 0⟩) (hl : ds.length ≤ 89 := by simp) : PCt Try.prog 96 ds out := PCt.of_ev mix fn96 hl h
theorem q96 {args : List V} {o : Nat → Obj'} {nx : Nat} {K X : V → (Nat → Obj') → Nat → Prop} (h : evW Try.prog 89 nx false c96 (endG Try.prog [.tmp 6] K X) ⟨argsEnv args, o, nx⟩) (hl : args.length ≤ 89 := by simp) : CtK Try.prog 96 args o nx K X := CtK.of_ev mix fn96 hl h
theorem p97 {ds : List D} {out : R} (h : evW Try.prog 58 0 false c97 (endW Try.prog [.tmp 2] out) ⟨argsEnv (ds.map .d), fun _ => .no, 0⟩) (hl : ds.length ≤ 58 := by simp) : PCt Try.prog 97 ds out := PCt.of_ev mix fn97 hl h
theorem q97 {args : List V} {o : Nat → Obj'} {nx : Nat} {K X : V → (Nat → Obj') → Nat → Prop} (h : evW Try.prog 58 nx false c97 (endG Try.prog [.tmp 2] K X) ⟨argsEnv args, o, nx⟩) (hl : args.length ≤ 58 := by simp) : CtK Try.prog 97 args o nx K X := CtK.of_ev mix fn97 hl h
theorem p98 {ds : List D} {out : R} (h : evW Try.prog 10 0 false c98 (endW Try.prog [] out) ⟨argsEnv (ds.map .d), fun _ => .no, 0⟩) (hl : ds.length ≤ 10 := by simp) : PCt Try.prog 98 ds out := PCt.of_ev mix fn98 hl h
theorem q98 {args : List V} {o : Nat → Obj'} {nx : Nat} {K X : V → (Nat → Obj') → Nat → Prop} (h : evW Try.prog 10 nx false c98 (endG Try.prog [] K X) ⟨argsEnv args, o, nx⟩) (hl : args.length ≤ 10 := by simp) : CtK Try.prog 98 args o nx K X := CtK.of_ev mix fn98 hl h
theorem p99 {ds : List D} {out : R} (h : evW Try.prog 44 0 false c99 (endW Try.prog [.cell 6 90] out) ⟨argsEnv (ds.map .d), fun _ => .no, 0⟩) (hl : ds.length ≤ 44 := by simp) : PCt Try.prog 99 ds out := PCt.of_ev mix fn99 hl h
theorem q99 {args : List V} {o : Nat → Obj'} {nx : Nat} {K X : V → (Nat → Obj') → Nat → Prop} (h : evW Try.prog 44 nx false c99 (endG Try.prog [.cell 6 90] K X) ⟨argsEnv args, o, nx⟩) (hl : args.length ≤ 44 := by simp) : CtK Try.prog 99 args o nx K X := CtK.of_ev mix fn99 hl h
theorem p100 {ds : List D} {out : R} (h : evW Try.prog 50 0 false c100 (endW Try.prog [] out) ⟨argsEnv (ds.map .d), fun _ => .no, 0⟩) (hl : ds.length ≤ 50 := by simp) : PCt Try.prog 100 ds out := PCt.of_ev mix fn100 hl h
theorem q100 {args : List V} {o : Nat → Obj'} {nx : Nat} {K X : V → (Nat → Obj') → Nat → Prop} (h : evW Try.prog 50 nx false c100 (endG Try.prog [] K X) ⟨argsEnv args, o, nx⟩) (hl : args.length ≤ 50 := by simp) : CtK Try.prog 100 args o nx K X := CtK.of_ev mix fn100 hl h
theorem p101 {ds : List D} {out : R} (h : evW Try.prog 16 0 false c101 (endW Try.prog [.tmp 4] out) ⟨argsEnv (ds.map .d), fun _ => .no, 0⟩) (hl : ds.length ≤ 16 := by simp) : PCt Try.prog 101 ds out := PCt.of_ev mix fn101 hl h
theorem q101 {args : List V} {o : Nat → Obj'} {nx : Nat} {K X : V → (Nat → Obj') → Nat → Prop} (h : evW Try.prog 16 nx false c101 (endG Try.prog [.tmp 4] K X) ⟨argsEnv args, o, nx⟩) (hl : args.length ≤ 16 := by simp) : CtK Try.prog 101 args o nx K X := CtK.of_ev mix fn101 hl h
theorem p102 {ds : List D} {out : R} (h : evW Try.prog 8 0 false c102 (endW Try.prog [.tmp 3] out) ⟨argsEnv (ds.map .d), fun _ => .no, 0⟩) (hl : ds.length ≤ 8 := by simp) : PCt Try.prog 102 ds out := PCt.of_ev mix fn102 hl h
theorem q102 {args : List V} {o : Nat → Obj'} {nx : Nat} {K X : V → (Nat → Obj') → Nat → Prop} (h : evW Try.prog 8 nx false c102 (endG Try.prog [.tmp 3] K X) ⟨argsEnv args, o, nx⟩) (hl : args.length ≤ 8 := by simp) : CtK Try.prog 102 args o nx K X := CtK.of_ev mix fn102 hl h
theorem p103 {ds : List D} {out : R} (h : evW Try.prog 92 0 false c103 (endW Try.prog [.cell 4 90] out) ⟨argsEnv (ds.map .d), fun _ => .no, 0⟩) (hl : ds.length ≤ 92 := by simp) : PCt Try.prog 103 ds out := PCt.of_ev mix fn103 hl h
theorem q103 {args : List V} {o : Nat → Obj'} {nx : Nat} {K X : V → (Nat → Obj') → Nat → Prop} (h : evW Try.prog 92 nx false c103 (endG Try.prog [.cell 4 90] K X) ⟨argsEnv args, o, nx⟩) (hl : args.length ≤ 92 := by simp) : CtK Try.prog 103 args o nx K X := CtK.of_ev mix fn103 hl h
theorem p104 {ds : List D} {out : R} (h : evW Try.prog 58 0 false c104 (endW Try.prog [.cell 6 68, .tmp 7] out) ⟨argsEnv (ds.map .d), fun _ => .no, 0⟩) (hl : ds.length ≤ 58 := by simp) : PCt Try.prog 104 ds out := PCt.of_ev mix fn104 hl h
theorem q104 {args : List V} {o : Nat → Obj'} {nx : Nat} {K X : V → (Nat → Obj') → Nat → Prop} (h : evW Try.prog 58 nx false c104 (endG Try.prog [.cell 6 68, .tmp 7] K X) ⟨argsEnv args, o, nx⟩) (hl : args.length ≤ 58 := by simp) : CtK Try.prog 104 args o nx K X := CtK.of_ev mix fn104 hl h
theorem p105 {ds : List D} {out : R} (h : evW Try.prog 44 0 false c105 (endW Try.prog [.cell 6 136] out) ⟨argsEnv (ds.map .d), fun _ => .no, 0⟩) (hl : ds.length ≤ 44 := by simp) : PCt Try.prog 105 ds out := PCt.of_ev mix fn105 hl h
theorem q105 {args : List V} {o : Nat → Obj'} {nx : Nat} {K X : V → (Nat → Obj') → Nat → Prop} (h : evW Try.prog 44 nx false c105 (endG Try.prog [.cell 6 136] K X) ⟨argsEnv args, o, nx⟩) (hl : args.length ≤ 44 := by simp) : CtK Try.prog 105 args o nx K X := CtK.of_ev mix fn105 hl h
theorem p106 {ds : List D} {out : R} (h : evW Try.prog 89 0 false c106 (endW Try.prog [.cell 4 68, .tmp 5] out) ⟨argsEnv (ds.map .d), fun _ => .no, 0⟩) (hl : ds.length ≤ 89 := by simp) : PCt Try.prog 106 ds out := PCt.of_ev mix fn106 hl h
theorem q106 {args : List V} {o : Nat → Obj'} {nx : Nat} {K X : V → (Nat → Obj') → Nat → Prop} (h : evW Try.prog 89 nx false c106 (endG Try.prog [.cell 4 68, .tmp 5] K X) ⟨argsEnv args, o, nx⟩) (hl : args.length ≤ 89 := by simp) : CtK Try.prog 106 args o nx K X := CtK.of_ev mix fn106 hl h
theorem p107 {ds : List D} {out : R} (h : evW Try.prog 9 0 false c107 (endW Try.prog [.tmp 2] out) ⟨argsEnv (ds.map .d), fun _ => .no, 0⟩) (hl : ds.length ≤ 9 := by simp) : PCt Try.prog 107 ds out := PCt.of_ev mix fn107 hl h
theorem q107 {args : List V} {o : Nat → Obj'} {nx : Nat} {K X : V → (Nat → Obj') → Nat → Prop} (h : evW Try.prog 9 nx false c107 (endG Try.prog [.tmp 2] K X) ⟨argsEnv args, o, nx⟩) (hl : args.length ≤ 9 := by simp) : CtK Try.prog 107 args o nx K X := CtK.of_ev mix fn107 hl h
theorem p108 {ds : List D} {out : R} (h : evW Try.prog 9 0 false c108 (endW Try.prog [.tmp 4] out) ⟨argsEnv (ds.map .d), fun _ => .no, 0⟩) (hl : ds.length ≤ 9 := by simp) : PCt Try.prog 108 ds out := PCt.of_ev mix fn108 hl h
theorem q108 {args : List V} {o : Nat → Obj'} {nx : Nat} {K X : V → (Nat → Obj') → Nat → Prop} (h : evW Try.prog 9 nx false c108 (endG Try.prog [.tmp 4] K X) ⟨argsEnv args, o, nx⟩) (hl : args.length ≤ 9 := by simp) : CtK Try.prog 108 args o nx K X := CtK.of_ev mix fn108 hl h
theorem p109 {ds : List D} {out : R} (h : evW Try.prog 10 0 false c109 (endW Try.prog [.tmp 3] out) ⟨argsEnv (ds.map .d), fun _ => .no, 0⟩) (hl : ds.length ≤ 10 := by simp) : PCt Try.prog 109 ds out := PCt.of_ev mix fn109 hl h
theorem q109 {args : List V} {o : Nat → Obj'} {nx : Nat} {K X : V → (Nat → Obj') → Nat → Prop} (h : evW Try.prog 10 nx false c109 (endG Try.prog [.tmp 3] K X) ⟨argsEnv args, o, nx⟩) (hl : args.length ≤ 10 := by simp) : CtK Try.prog 109 args o nx K X := CtK.of_ev mix fn109 hl h
theorem p110 {ds : List D} {out : R} (h : evW Try.prog 7 0 false c110 (endW Try.prog [.tmp 2] out) ⟨argsEnv (ds.map .d), fun _ => .no, 0⟩) (hl : ds.length ≤ 7 := by simp) : PCt Try.prog 110 ds out := PCt.of_ev mix fn110 hl h
theorem q110 {args : List V} {o : Nat → Obj'} {nx : Nat} {K X : V → (Nat → Obj') → Nat → Prop} (h : evW Try.prog 7 nx false c110 (endG Try.prog [.tmp 2] K X) ⟨argsEnv args, o, nx⟩) (hl : args.length ≤ 7 := by simp) : CtK Try.prog 110 args o nx K X := CtK.of_ev mix fn110 hl h
theorem p111 {ds : List D} {out : R} (h : evW Try.prog 12 0 false c111 (endW Try.prog [.tmp 2] out) ⟨argsEnv (ds.map .d), fun _ => .no, 0⟩) (hl : ds.length ≤ 12 := by simp) : PCt Try.prog 111 ds out := PCt.of_ev mix fn111 hl h
theorem q111 {args : List V} {o : Nat → Obj'} {nx : Nat} {K X : V → (Nat → Obj') → Nat → Prop} (h : evW Try.prog 12 nx false c111 (endG Try.prog [.tmp 2] K X) ⟨argsEnv args, o, nx⟩) (hl : args.length ≤ 12 := by simp) : CtK Try.prog 111 args o nx K X := CtK.of_ev mix fn111 hl h
theorem p112 {ds : List D} {out : R} (h : evW Try.prog 60 0 false c112 (endW Try.prog [.cell 2 47] out) ⟨argsEnv (ds.map .d), fun _ => .no, 0⟩) (hl : ds.length ≤ 60 := by simp) : PCt Try.prog 112 ds out := PCt.of_ev mix fn112 hl h
theorem q112 {args : List V} {o : Nat → Obj'} {nx : Nat} {K X : V → (Nat → Obj') → Nat → Prop} (h : evW Try.prog 60 nx false c112 (endG Try.prog [.cell 2 47] K X) ⟨argsEnv args, o, nx⟩) (hl : args.length ≤ 60 := by simp) : CtK Try.prog 112 args o nx K X := CtK.of_ev mix fn112 hl h
theorem p113 {ds : List D} {out : R} (h : evW Try.prog 19 0 false c113 (endW Try.prog [.tmp 4] out) ⟨argsEnv (ds.map .d), fun _ => .no, 0⟩) (hl : ds.length ≤ 19 := by simp) : PCt Try.prog 113 ds out := PCt.of_ev mix fn113 hl h
theorem q113 {args : List V} {o : Nat → Obj'} {nx : Nat} {K X : V → (Nat → Obj') → Nat → Prop} (h : evW Try.prog 19 nx false c113 (endG Try.prog [.tmp 4] K X) ⟨argsEnv args, o, nx⟩) (hl : args.length ≤ 19 := by simp) : CtK Try.prog 113 args o nx K X := CtK.of_ev mix fn113 hl h
theorem p114 {ds : List D} {out : R} (h : evW Try.prog 17 0 false c114 (endW Try.prog [.tmp 3] out) ⟨argsEnv (ds.map .d), fun _ => .no, 0⟩) (hl : ds.length ≤ 17 := by simp) : PCt Try.prog 114 ds out := PCt.of_ev mix fn114 hl h
theorem q114 {args : List V} {o : Nat → Obj'} {nx : Nat} {K X : V → (Nat → Obj') → Nat → Prop} (h : evW Try.prog 17 nx false c114 (endG Try.prog [.tmp 3] K X) ⟨argsEnv args, o, nx⟩) (hl : args.length ≤ 17 := by simp) : CtK Try.prog 114 args o nx K X := CtK.of_ev mix fn114 hl h
theorem p115 {ds : List D} {out : R} (h : evW Try.prog 78 0 false c115 (endW Try.prog [.tmp 6] out) ⟨argsEnv (ds.map .d), fun _ => .no, 0⟩) (hl : ds.length ≤ 78 := by simp) : PCt Try.prog 115 ds out := PCt.of_ev mix fn115 hl h
theorem q115 {args : List V} {o : Nat → Obj'} {nx : Nat} {K X : V → (Nat → Obj') → Nat → Prop} (h : evW Try.prog 78 nx false c115 (endG Try.prog [.tmp 6] K X) ⟨argsEnv args, o, nx⟩) (hl : args.length ≤ 78 := by simp) : CtK Try.prog 115 args o nx K X := CtK.of_ev mix fn115 hl h
theorem p116 {ds : List D} {out : R} (h : evW Try.prog 6 0 false c116 (endW Try.prog [.tmp 4] out) ⟨argsEnv (ds.map .d), fun _ => .no, 0⟩) (hl : ds.length ≤ 6 := by simp) : PCt Try.prog 116 ds out := PCt.of_ev mix fn116 hl h
theorem q116 {args : List V} {o : Nat → Obj'} {nx : Nat} {K X : V → (Nat → Obj') → Nat → Prop} (h : evW Try.prog 6 nx false c116 (endG Try.prog [.tmp 4] K X) ⟨argsEnv args, o, nx⟩) (hl : args.length ≤ 6 := by simp) : CtK Try.prog 116 args o nx K X := CtK.of_ev mix fn116 hl h
theorem p117 {ds : List D} {out : R} (h : evW Try.prog 48 0 false c117 (endW Try.prog [.cell 10 47] out) ⟨argsEnv (ds.map .d), fun _ => .no, 0⟩) (hl : ds.length ≤ 48 := by simp) : PCt Try.prog 117 ds out := PCt.of_ev mix fn117 hl h
theorem q117 {args : List V} {o : Nat → Obj'} {nx : Nat} {K X : V → (Nat → Obj') → Nat → Prop} (h : evW Try.prog 48 nx false c117 (endG Try.prog [.cell 10 47] K X) ⟨argsEnv args, o, nx⟩) (hl : args.length ≤ 48 := by simp) : CtK Try.prog 117 args o nx K X := CtK.of_ev mix fn117 hl h
theorem p118 {ds : List D} {out : R} (h : evW Try.prog 92 0 false c118 (endW Try.prog [.cell 10 47] out) ⟨argsEnv (ds.map .d), fun _ => .no, 0⟩) (hl : ds.length ≤ 92 := by simp) : PCt Try.prog 118 ds out := PCt.of_ev mix fn118 hl h
theorem q118 {args : List V} {o : Nat → Obj'} {nx : Nat} {K X : V → (Nat → Obj') → Nat → Prop} (h : evW Try.prog 92 nx false c118 (endG Try.prog [.cell 10 47] K X) ⟨argsEnv args, o, nx⟩) (hl : args.length ≤ 92 := by simp) : CtK Try.prog 118 args o nx K X := CtK.of_ev mix fn118 hl h
theorem p119 {ds : List D} {out : R} (h : evW Try.prog 30 0 false c119 (endW Try.prog [.cell 4 90] out) ⟨argsEnv (ds.map .d), fun _ => .no, 0⟩) (hl : ds.length ≤ 30 := by simp) : PCt Try.prog 119 ds out := PCt.of_ev mix fn119 hl h
theorem q119 {args : List V} {o : Nat → Obj'} {nx : Nat} {K X : V → (Nat → Obj') → Nat → Prop} (h : evW Try.prog 30 nx false c119 (endG Try.prog [.cell 4 90] K X) ⟨argsEnv args, o, nx⟩) (hl : args.length ≤ 30 := by simp) : CtK Try.prog 119 args o nx K X := CtK.of_ev mix fn119 hl h
theorem p120 {ds : List D} {out : R} (h : evW Try.prog 22 0 false c120 (endW Try.prog [.cell 4 90] out) ⟨argsEnv (ds.map .d), fun _ => .no, 0⟩) (hl : ds.length ≤ 22 := by simp) : PCt Try.prog 120 ds out := PCt.of_ev mix fn120 hl h
theorem q120 {args : List V} {o : Nat → Obj'} {nx : Nat} {K X : V → (Nat → Obj') → Nat → Prop} (h : evW Try.prog 22 nx false c120 (endG Try.prog [.cell 4 90] K X) ⟨argsEnv args, o, nx⟩) (hl : args.length ≤ 22 := by simp) : CtK Try.prog 120 args o nx K X := CtK.of_ev mix fn120 hl h
theorem p121 {ds : List D} {out : R} (h : evW Try.prog 12 0 false c121 (endW Try.prog [.cell 4 90] out) ⟨argsEnv (ds.map .d), fun _ => .no, 0⟩) (hl : ds.length ≤ 12 := by simp) : PCt Try.prog 121 ds out := PCt.of_ev mix fn121 hl h
theorem q121 {args : List V} {o : Nat → Obj'} {nx : Nat} {K X : V → (Nat → Obj') → Nat → Prop} (h : evW Try.prog 12 nx false c121 (endG Try.prog [.cell 4 90] K X) ⟨argsEnv args, o, nx⟩) (hl : args.length ≤ 12 := by simp) : CtK Try.prog 121 args o nx K X := CtK.of_ev mix fn121 hl h
theorem p122 {ds : List D} {out : R} (h : evW Try.prog 12 0 false c122 (endW Try.prog [.cell 4 68] out) ⟨argsEnv (ds.map .d), fun _ => .no, 0⟩) (hl : ds.length ≤ 12 := by simp) : PCt Try.prog 122 ds out := PCt.of_ev mix fn122 hl h
theorem q122 {args : List V} {o : Nat → Obj'} {nx : Nat} {K X : V → (Nat → Obj') → Nat → Prop} (h : evW Try.prog 12 nx false c122 (endG Try.prog [.cell 4 68] K X) ⟨argsEnv args, o, nx⟩) (hl : args.length ≤ 12 := by simp) : CtK Try.prog 122 args o nx K X := CtK.of_ev mix fn122 hl h
theorem p123 {ds : List D} {out : R} (h : evW Try.prog 22 0 false c123 (endW Try.prog [.cell 4 68] out) ⟨argsEnv (ds.map .d), fun _ => .no, 0⟩) (hl : ds.length ≤ 22 := by simp) : PCt Try.prog 123 ds out := PCt.of_ev mix fn123 hl h
theorem q123 {args : List V} {o : Nat → Obj'} {nx : Nat} {K X : V → (Nat → Obj') → Nat → Prop} (h : evW Try.prog 22 nx false c123 (endG Try.prog [.cell 4 68] K X) ⟨argsEnv args, o, nx⟩) (hl : args.length ≤ 22 := by simp) : CtK Try.prog 123 args o nx K X := CtK.of_ev mix fn123 hl h
theorem p124 {ds : List D} {out : R} (h : evW Try.prog 22 0 false c124 (endW Try.prog [.cell 4 68] out) ⟨argsEnv (ds.map .d), fun _ => .no, 0⟩) (hl : ds.length ≤ 22 := by simp) : PCt Try.prog 124 ds out := PCt.of_ev mix fn124 hl h
theorem q124 {args : List V} {o : Nat → Obj'} {nx : Nat} {K X : V → (Nat → Obj') → Nat → Prop} (h : evW Try.prog 22 nx false c124 (endG Try.prog [.cell 4 68] K X) ⟨argsEnv args, o, nx⟩) (hl : args.length ≤ 22 := by simp) : CtK Try.prog 124 args o nx K X := CtK.of_ev mix fn124 hl h
theorem p125 {ds : List D} {out : R} (h : evW Try.prog 16 0 false c125 (endW Try.prog [.tmp 4] out) ⟨argsEnv (ds.map .d), fun _ => .no, 0⟩) (hl : ds.length ≤ 16 := by simp) : PCt Try.prog 125 ds out := PCt.of_ev mix fn125 hl h
theorem q125 {args : List V} {o : Nat → Obj'} {nx : Nat} {K X : V → (Nat → Obj') → Nat → Prop} (h : evW Try.prog 16 nx false c125 (endG Try.prog [.tmp 4] K X) ⟨argsEnv args, o, nx⟩) (hl : args.length ≤ 16 := by simp) : CtK Try.prog 125 args o nx K X := CtK.of_ev mix fn125 hl h
theorem p126 {ds : List D} {out : R} (h : evW Try.prog 19 0 false c126 (endW Try.prog [.tmp 4] out) ⟨argsEnv (ds.map .d), fun _ => .no, 0⟩) (hl : ds.length ≤ 19 := by simp) : PCt Try.prog 126 ds out := PCt.of_ev mix fn126 hl h
theorem q126 {args : List V} {o : Nat → Obj'} {nx : Nat} {K X : V → (Nat → Obj') → Nat → Prop} (h : evW Try.prog 19 nx false c126 (endG Try.prog [.tmp 4] K X) ⟨argsEnv args, o, nx⟩) (hl : args.length ≤ 19 := by simp) : CtK Try.prog 126 args o nx K X := CtK.of_ev mix fn126 hl h
theorem p127 {ds : List D} {out : R} (h : evW Try.prog 7 0 false c127 (endW Try.prog [.tmp 2] out) ⟨argsEnv (ds.map .d), fun _ => .no, 0⟩) (hl : ds.length ≤ 7 := by simp) : PCt Try.prog 127 ds out := PCt.of_ev mix fn127 hl h
theorem q127 {args : List V} {o : Nat → Obj'} {nx : Nat} {K X : V → (Nat → Obj') → Nat → Prop} (h : evW Try.prog 7 nx false c127 (endG Try.prog [.tmp 2] K X) ⟨argsEnv args, o, nx⟩) (hl : args.length ≤ 7 := by simp) : CtK Try.prog 127 args o nx K X := CtK.of_ev mix fn127 hl h
theorem p128 {ds : List D} {out : R} (h : evW Try.prog 21 0 false c128 (endW Try.prog [.tmp 3] out) ⟨argsEnv (ds.map .d), fun _ => .no, 0⟩) (hl : ds.length ≤ 21 := by simp) : PCt Try.prog 128 ds out := PCt.of_ev mix fn128 hl h
theorem q128 {args : List V} {o : Nat → Obj'} {nx : Nat} {K X : V → (Nat → Obj') → Nat → Prop} (h : evW Try.prog 21 nx false c128 (endG Try.prog [.tmp 3] K X) ⟨argsEnv args, o, nx⟩) (hl : args.length ≤ 21 := by simp) : CtK Try.prog 128 args o nx K X := CtK.of_ev mix fn128 hl h
theorem p129 {ds : List D} {out : R} (h : evW Try.prog 51 0 false c129 (endW Try.prog [] out) ⟨argsEnv (ds.map .d), fun _ => .no, 0⟩) (hl : ds.length ≤ 51 := by simp) : PCt Try.prog 129 ds out := PCt.of_ev mix fn129 hl h
theorem q129 {args : List V} {o : Nat → Obj'} {nx : Nat} {K X : V → (Nat → Obj') → Nat → Prop} (h : evW Try.prog 51 nx false c129 (endG Try.prog [] K X) ⟨argsEnv args, o, nx⟩) (hl : args.length ≤ 51 := by simp) : CtK Try.prog 129 args o nx K X := CtK.of_ev mix fn129 hl h
end Go.Proofs.Ytaafchgfibbmhaa
