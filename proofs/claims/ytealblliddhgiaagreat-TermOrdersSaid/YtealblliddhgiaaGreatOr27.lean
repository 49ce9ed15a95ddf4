/-
  A PART OF THE PROOF (put together by program): several texts, one behind the other. Conditions: none.
-/
import Derived.Test.YtealblliddhgiaaGreatOr26
set_option linter.unusedSimpArgs false
set_option linter.unusedVariables false
namespace Go.Proofs.YtealblliddhgiaaGreat
@[go_sem] theorem cellsOf_3 : Tryz.prog.cellsOf 3 = 1 := by kernel_rfl
@[go_sem] theorem bytesOf_3 : Tryz.prog.bytesOf 3 = 8 := by kernel_rfl
@[go_sem] theorem sliceT_3 : sliceT Tryz.prog 3 = none := by kernel_rfl
@[go_sem] theorem arrT_3 : arrT Tryz.prog 3 = none := by kernel_rfl
@[go_sem] theorem aggT_3 : aggT Tryz.prog 3 = some false := by kernel_rfl
@[go_sem] theorem intT_3 : intT Tryz.prog 3 = some .i64 := by kernel_rfl
@[go_sem] theorem isBoolT_3 : isBoolT Tryz.prog 3 = false := by kernel_rfl
@[go_sem] theorem infoT_3 : (Tryz.prog.info? 3).isSome = true := by kernel_rfl
@[go_sem] theorem plainIface_3 : plainIface Tryz.prog 3 = true := by kernel_rfl
@[go_sem] theorem undT_3 : Tryz.prog.underlying 3 = some (.int .i64) := by kernel_rfl
@[go_sem] theorem eqShape_3 : eqShape Tryz.prog 3 = some .int := by kernel_rfl
@[go_sem] theorem zeroT_3 : zeroT Tryz.prog 3 = some [.d (.int .i64 0)] := by kernel_rfl
@[go_sem] theorem zeroV_3 : zeroV Tryz.prog 3 = some (.d (.int .i64 0)) := by kernel_rfl
@[go_sem] theorem zeroD_3 : zeroD Tryz.prog 3 = some (.int .i64 0) := by kernel_rfl
@[go_sem] theorem cellsOf_4 : Tryz.prog.cellsOf 4 = 1 := by kernel_rfl
@[go_sem] theorem bytesOf_4 : Tryz.prog.bytesOf 4 = 1 := by kernel_rfl
@[go_sem] theorem sliceT_4 : sliceT Tryz.prog 4 = none := by kernel_rfl
@[go_sem] theorem arrT_4 : arrT Tryz.prog 4 = none := by kernel_rfl
@[go_sem] theorem aggT_4 : aggT Tryz.prog 4 = some false := by kernel_rfl
@[go_sem] theorem intT_4 : intT Tryz.prog 4 = none := by kernel_rfl
@[go_sem] theorem isBoolT_4 : isBoolT Tryz.prog 4 = true := by kernel_rfl
@[go_sem] theorem infoT_4 : (Tryz.prog.info? 4).isSome = true := by kernel_rfl
@[go_sem] theorem plainIface_4 : plainIface Tryz.prog 4 = true := by kernel_rfl
@[go_sem] theorem undT_4 : Tryz.prog.underlying 4 = some .bool := by kernel_rfl
@[go_sem] theorem eqShape_4 : eqShape Tryz.prog 4 = some .bool := by kernel_rfl
@[go_sem] theorem zeroT_4 : zeroT Tryz.prog 4 = some [.d (.bool false)] := by kernel_rfl
@[go_sem] theorem zeroV_4 : zeroV Tryz.prog 4 = some (.d (.bool false)) := by kernel_rfl
@[go_sem] theorem zeroD_4 : zeroD Tryz.prog 4 = some (.bool false) := by kernel_rfl
@[go_sem] theorem cellsOf_5 : Tryz.prog.cellsOf 5 = 1 := by kernel_rfl
@[go_sem] theorem bytesOf_5 : Tryz.prog.bytesOf 5 = 1 := by kernel_rfl
@[go_sem] theorem sliceT_5 : sliceT Tryz.prog 5 = none := by kernel_rfl
@[go_sem] theorem arrT_5 : arrT Tryz.prog 5 = none := by kernel_rfl
@[go_sem] theorem aggT_5 : aggT Tryz.prog 5 = some false := by kernel_rfl
@[go_sem] theorem intT_5 : intT Tryz.prog 5 = some .u8 := by kernel_rfl
@[go_sem] theorem isBoolT_5 : isBoolT Tryz.prog 5 = false := by kernel_rfl
@[go_sem] theorem infoT_5 : (Tryz.prog.info? 5).isSome = true := by kernel_rfl
@[go_sem] theorem plainIface_5 : plainIface Tryz.prog 5 = true := by kernel_rfl
@[go_sem] theorem undT_5 : Tryz.prog.underlying 5 = some (.int .u8) := by kernel_rfl
@[go_sem] theorem eqShape_5 : eqShape Tryz.prog 5 = some .int := by kernel_rfl
@[go_sem] theorem zeroT_5 : zeroT Tryz.prog 5 = some [.d (.int .u8 0)] := by kernel_rfl
@[go_sem] theorem zeroV_5 : zeroV Tryz.prog 5 = some (.d (.int .u8 0)) := by kernel_rfl
@[go_sem] theorem zeroD_5 : zeroD Tryz.prog 5 = some (.int .u8 0) := by kernel_rfl
@[go_sem] theorem cellsOf_9 : Tryz.prog.cellsOf 9 = 1 := by kernel_rfl
@[go_sem] theorem bytesOf_9 : Tryz.prog.bytesOf 9 = 16 := by kernel_rfl
@[go_sem] theorem sliceT_9 : sliceT Tryz.prog 9 = none := by kernel_rfl
@[go_sem] theorem arrT_9 : arrT Tryz.prog 9 = none := by kernel_rfl
@[go_sem] theorem aggT_9 : aggT Tryz.prog 9 = some false := by kernel_rfl
@[go_sem] theorem intT_9 : intT Tryz.prog 9 = none := by kernel_rfl
@[go_sem] theorem isBoolT_9 : isBoolT Tryz.prog 9 = false := by kernel_rfl
@[go_sem] theorem infoT_9 : (Tryz.prog.info? 9).isSome = true := by kernel_rfl
@[go_sem] theorem plainIface_9 : plainIface Tryz.prog 9 = true := by kernel_rfl
@[go_sem] theorem undT_9 : Tryz.prog.underlying 9 = some .string := by kernel_rfl
@[go_sem] theorem eqShape_9 : eqShape Tryz.prog 9 = some .str := by kernel_rfl
@[go_sem] theorem zeroT_9 : zeroT Tryz.prog 9 = some [.d (.str [])] := by kernel_rfl
@[go_sem] theorem zeroV_9 : zeroV Tryz.prog 9 = some (.d (.str [])) := by kernel_rfl
@[go_sem] theorem zeroD_9 : zeroD Tryz.prog 9 = some (.str []) := by kernel_rfl
@[go_sem] theorem cellsOf_20 : Tryz.prog.cellsOf 20 = 1 := by kernel_rfl
@[go_sem] theorem bytesOf_20 : Tryz.prog.bytesOf 20 = 16 := by kernel_rfl
@[go_sem] theorem sliceT_20 : sliceT Tryz.prog 20 = none := by kernel_rfl
@[go_sem] theorem arrT_20 : arrT Tryz.prog 20 = none := by kernel_rfl
@[go_sem] theorem aggT_20 : aggT Tryz.prog 20 = some false := by kernel_rfl
@[go_sem] theorem intT_20 : intT Tryz.prog 20 = none := by kernel_rfl
@[go_sem] theorem isBoolT_20 : isBoolT Tryz.prog 20 = false := by kernel_rfl
@[go_sem] theorem infoT_20 : (Tryz.prog.info? 20).isSome = true := by kernel_rfl
@[go_sem] theorem plainIface_20 : plainIface Tryz.prog 20 = false := by kernel_rfl
@[go_sem] theorem zeroT_20 : zeroT Tryz.prog 20 = some [.d .nili] := by kernel_rfl
@[go_sem] theorem zeroV_20 : zeroV Tryz.prog 20 = some (.d .nili) := by kernel_rfl
@[go_sem] theorem zeroD_20 : zeroD Tryz.prog 20 = some .nili := by kernel_rfl
@[go_sem] theorem cellsOf_21 : Tryz.prog.cellsOf 21 = 1 := by kernel_rfl
@[go_sem] theorem bytesOf_21 : Tryz.prog.bytesOf 21 = 4 := by kernel_rfl
@[go_sem] theorem sliceT_21 : sliceT Tryz.prog 21 = none := by kernel_rfl
@[go_sem] theorem arrT_21 : arrT Tryz.prog 21 = none := by kernel_rfl
@[go_sem] theorem aggT_21 : aggT Tryz.prog 21 = some false := by kernel_rfl
@[go_sem] theorem intT_21 : intT Tryz.prog 21 = some .i32 := by kernel_rfl
@[go_sem] theorem isBoolT_21 : isBoolT Tryz.prog 21 = false := by kernel_rfl
@[go_sem] theorem infoT_21 : (Tryz.prog.info? 21).isSome = true := by kernel_rfl
@[go_sem] theorem plainIface_21 : plainIface Tryz.prog 21 = true := by kernel_rfl
@[go_sem] theorem undT_21 : Tryz.prog.underlying 21 = some (.int .i32) := by kernel_rfl
@[go_sem] theorem eqShape_21 : eqShape Tryz.prog 21 = some .int := by kernel_rfl
@[go_sem] theorem zeroT_21 : zeroT Tryz.prog 21 = some [.d (.int .i32 0)] := by kernel_rfl
@[go_sem] theorem zeroV_21 : zeroV Tryz.prog 21 = some (.d (.int .i32 0)) := by kernel_rfl
@[go_sem] theorem zeroD_21 : zeroD Tryz.prog 21 = some (.int .i32 0) := by kernel_rfl
@[go_sem] theorem cellsOf_22 : Tryz.prog.cellsOf 22 = 1 := by kernel_rfl
@[go_sem] theorem bytesOf_22 : Tryz.prog.bytesOf 22 = 24 := by kernel_rfl
@[go_sem] theorem sliceT_22 : sliceT Tryz.prog 22 = some 103 := by kernel_rfl
@[go_sem] theorem arrT_22 : arrT Tryz.prog 22 = none := by kernel_rfl
@[go_sem] theorem aggT_22 : aggT Tryz.prog 22 = some false := by kernel_rfl
@[go_sem] theorem intT_22 : intT Tryz.prog 22 = none := by kernel_rfl
@[go_sem] theorem isBoolT_22 : isBoolT Tryz.prog 22 = false := by kernel_rfl
@[go_sem] theorem infoT_22 : (Tryz.prog.info? 22).isSome = true := by kernel_rfl
@[go_sem] theorem plainIface_22 : plainIface Tryz.prog 22 = true := by kernel_rfl
@[go_sem] theorem undT_22 : Tryz.prog.underlying 22 = some (.slice 103) := by kernel_rfl
@[go_sem] theorem zeroT_22 : zeroT Tryz.prog 22 = some [.nils] := by kernel_rfl
@[go_sem] theorem zeroV_22 : zeroV Tryz.prog 22 = some (.nils) := by kernel_rfl
@[go_sem] theorem zeroD_22 : zeroD Tryz.prog 22 = some (.sl []) := by kernel_rfl
@[go_sem] theorem cellsOf_24 : Tryz.prog.cellsOf 24 = 2 := by kernel_rfl
@[go_sem] theorem bytesOf_24 : Tryz.prog.bytesOf 24 = 48 := by kernel_rfl
@[go_sem] theorem sliceT_24 : sliceT Tryz.prog 24 = none := by kernel_rfl
@[go_sem] theorem arrT_24 : arrT Tryz.prog 24 = none := by kernel_rfl
@[go_sem] theorem aggT_24 : aggT Tryz.prog 24 = some true := by kernel_rfl
@[go_sem] theorem intT_24 : intT Tryz.prog 24 = none := by kernel_rfl
@[go_sem] theorem isBoolT_24 : isBoolT Tryz.prog 24 = false := by kernel_rfl
@[go_sem] theorem infoT_24 : (Tryz.prog.info? 24).isSome = true := by kernel_rfl
@[go_sem] theorem plainIface_24 : plainIface Tryz.prog 24 = true := by kernel_rfl
@[go_sem] theorem zeroT_24 : zeroT Tryz.prog 24 = some [.nils, .nils] := by kernel_rfl
@[go_sem] theorem zeroV_24 : zeroV Tryz.prog 24 = some (mkAgg [.nils, .nils]) := by kernel_rfl
@[go_sem] theorem zeroD_24 : zeroD Tryz.prog 24 = some (.agg [(.sl []), (.sl [])]) := by kernel_rfl
@[go_sem] theorem placesT_24 : placesT Tryz.prog 24 = some [(0, 1), (1, 1)] := by kernel_rfl
@[go_sem] theorem cellsOf_25 : Tryz.prog.cellsOf 25 = 1 := by kernel_rfl
@[go_sem] theorem bytesOf_25 : Tryz.prog.bytesOf 25 = 8 := by kernel_rfl
@[go_sem] theorem sliceT_25 : sliceT Tryz.prog 25 = none := by kernel_rfl
@[go_sem] theorem arrT_25 : arrT Tryz.prog 25 = none := by kernel_rfl
@[go_sem] theorem aggT_25 : aggT Tryz.prog 25 = some false := by kernel_rfl
@[go_sem] theorem intT_25 : intT Tryz.prog 25 = some .i64 := by kernel_rfl
@[go_sem] theorem isBoolT_25 : isBoolT Tryz.prog 25 = false := by kernel_rfl
@[go_sem] theorem infoT_25 : (Tryz.prog.info? 25).isSome = true := by kernel_rfl
@[go_sem] theorem plainIface_25 : plainIface Tryz.prog 25 = true := by kernel_rfl
@[go_sem] theorem undT_25 : Tryz.prog.underlying 25 = some (.int .i64) := by kernel_rfl
@[go_sem] theorem eqShape_25 : eqShape Tryz.prog 25 = some .int := by kernel_rfl
@[go_sem] theorem zeroT_25 : zeroT Tryz.prog 25 = some [.d (.int .i64 0)] := by kernel_rfl
@[go_sem] theorem zeroV_25 : zeroV Tryz.prog 25 = some (.d (.int .i64 0)) := by kernel_rfl
@[go_sem] theorem zeroD_25 : zeroD Tryz.prog 25 = some (.int .i64 0) := by kernel_rfl
@[go_sem] theorem cellsOf_26 : Tryz.prog.cellsOf 26 = 1 := by kernel_rfl
@[go_sem] theorem bytesOf_26 : Tryz.prog.bytesOf 26 = 24 := by kernel_rfl
@[go_sem] theorem sliceT_26 : sliceT Tryz.prog 26 = some 28 := by kernel_rfl
@[go_sem] theorem arrT_26 : arrT Tryz.prog 26 = none := by kernel_rfl
@[go_sem] theorem aggT_26 : aggT Tryz.prog 26 = some false := by kernel_rfl
@[go_sem] theorem intT_26 : intT Tryz.prog 26 = none := by kernel_rfl
@[go_sem] theorem isBoolT_26 : isBoolT Tryz.prog 26 = false := by kernel_rfl
@[go_sem] theorem infoT_26 : (Tryz.prog.info? 26).isSome = true := by kernel_rfl
@[go_sem] theorem plainIface_26 : plainIface Tryz.prog 26 = true := by kernel_rfl
@[go_sem] theorem undT_26 : Tryz.prog.underlying 26 = some (.slice 28) := by kernel_rfl
@[go_sem] theorem zeroT_26 : zeroT Tryz.prog 26 = some [.nils] := by kernel_rfl
@[go_sem] theorem zeroV_26 : zeroV Tryz.prog 26 = some (.nils) := by kernel_rfl
@[go_sem] theorem zeroD_26 : zeroD Tryz.prog 26 = some (.sl []) := by kernel_rfl
@[go_sem] theorem cellsOf_28 : Tryz.prog.cellsOf 28 = 3 := by kernel_rfl
@[go_sem] theorem bytesOf_28 : Tryz.prog.bytesOf 28 = 40 := by kernel_rfl
@[go_sem] theorem sliceT_28 : sliceT Tryz.prog 28 = none := by kernel_rfl
@[go_sem] theorem arrT_28 : arrT Tryz.prog 28 = none := by kernel_rfl
@[go_sem] theorem aggT_28 : aggT Tryz.prog 28 = some true := by kernel_rfl
@[go_sem] theorem intT_28 : intT Tryz.prog 28 = none := by kernel_rfl
@[go_sem] theorem isBoolT_28 : isBoolT Tryz.prog 28 = false := by kernel_rfl
@[go_sem] theorem infoT_28 : (Tryz.prog.info? 28).isSome = true := by kernel_rfl
@[go_sem] theorem plainIface_28 : plainIface Tryz.prog 28 = true := by kernel_rfl
@[go_sem] theorem zeroT_28 : zeroT Tryz.prog 28 = some [.d (.int .i64 0), .d (.int .i64 0), .nils] := by kernel_rfl
@[go_sem] theorem zeroV_28 : zeroV Tryz.prog 28 = some (mkAgg [.d (.int .i64 0), .d (.int .i64 0), .nils]) := by kernel_rfl
@[go_sem] theorem zeroD_28 : zeroD Tryz.prog 28 = some (.agg [(.int .i64 0), (.int .i64 0), (.sl [])]) := by kernel_rfl
@[go_sem] theorem placesT_28 : placesT Tryz.prog 28 = some [(0, 1), (1, 1), (2, 1)] := by kernel_rfl
@[go_sem] theorem cellsOf_29 : Tryz.prog.cellsOf 29 = 1 := by kernel_rfl
@[go_sem] theorem bytesOf_29 : Tryz.prog.bytesOf 29 = 24 := by kernel_rfl
@[go_sem] theorem sliceT_29 : sliceT Tryz.prog 29 = some 52 := by kernel_rfl
@[go_sem] theorem arrT_29 : arrT Tryz.prog 29 = none := by kernel_rfl
@[go_sem] theorem aggT_29 : aggT Tryz.prog 29 = some false := by kernel_rfl
@[go_sem] theorem intT_29 : intT Tryz.prog 29 = none := by kernel_rfl
@[go_sem] theorem isBoolT_29 : isBoolT Tryz.prog 29 = false := by kernel_rfl
@[go_sem] theorem infoT_29 : (Tryz.prog.info? 29).isSome = true := by kernel_rfl
@[go_sem] theorem plainIface_29 : plainIface Tryz.prog 29 = true := by kernel_rfl
@[go_sem] theorem undT_29 : Tryz.prog.underlying 29 = some (.slice 52) := by kernel_rfl
@[go_sem] theorem zeroT_29 : zeroT Tryz.prog 29 = some [.nils] := by kernel_rfl
@[go_sem] theorem zeroV_29 : zeroV Tryz.prog 29 = some (.nils) := by kernel_rfl
@[go_sem] theorem zeroD_29 : zeroD Tryz.prog 29 = some (.sl []) := by kernel_rfl
@[go_sem] theorem cellsOf_33 : Tryz.prog.cellsOf 33 = 1 := by kernel_rfl
@[go_sem] theorem bytesOf_33 : Tryz.prog.bytesOf 33 = 8 := by kernel_rfl
@[go_sem] theorem sliceT_33 : sliceT Tryz.prog 33 = none := by kernel_rfl
@[go_sem] theorem arrT_33 : arrT Tryz.prog 33 = none := by kernel_rfl
@[go_sem] theorem aggT_33 : aggT Tryz.prog 33 = some false := by kernel_rfl
@[go_sem] theorem intT_33 : intT Tryz.prog 33 = some .i64 := by kernel_rfl
@[go_sem] theorem isBoolT_33 : isBoolT Tryz.prog 33 = false := by kernel_rfl
@[go_sem] theorem infoT_33 : (Tryz.prog.info? 33).isSome = true := by kernel_rfl
@[go_sem] theorem plainIface_33 : plainIface Tryz.prog 33 = true := by kernel_rfl
@[go_sem] theorem undT_33 : Tryz.prog.underlying 33 = some (.int .i64) := by kernel_rfl
@[go_sem] theorem eqShape_33 : eqShape Tryz.prog 33 = some .int := by kernel_rfl
@[go_sem] theorem zeroT_33 : zeroT Tryz.prog 33 = some [.d (.int .i64 0)] := by kernel_rfl
@[go_sem] theorem zeroV_33 : zeroV Tryz.prog 33 = some (.d (.int .i64 0)) := by kernel_rfl
@[go_sem] theorem zeroD_33 : zeroD Tryz.prog 33 = some (.int .i64 0) := by kernel_rfl
@[go_sem] theorem cellsOf_37 : Tryz.prog.cellsOf 37 = 1 := by kernel_rfl
@[go_sem] theorem bytesOf_37 : Tryz.prog.bytesOf 37 = 8 := by kernel_rfl
@[go_sem] theorem sliceT_37 : sliceT Tryz.prog 37 = none := by kernel_rfl
@[go_sem] theorem arrT_37 : arrT Tryz.prog 37 = none := by kernel_rfl
@[go_sem] theorem aggT_37 : aggT Tryz.prog 37 = some false := by kernel_rfl
@[go_sem] theorem intT_37 : intT Tryz.prog 37 = none := by kernel_rfl
@[go_sem] theorem isBoolT_37 : isBoolT Tryz.prog 37 = false := by kernel_rfl
@[go_sem] theorem infoT_37 : (Tryz.prog.info? 37).isSome = true := by kernel_rfl
@[go_sem] theorem plainIface_37 : plainIface Tryz.prog 37 = true := by kernel_rfl
@[go_sem] theorem zeroT_37 : zeroT Tryz.prog 37 = some [.d .nilf] := by kernel_rfl
@[go_sem] theorem zeroV_37 : zeroV Tryz.prog 37 = some (.d .nilf) := by kernel_rfl
@[go_sem] theorem zeroD_37 : zeroD Tryz.prog 37 = some .nilf := by kernel_rfl
@[go_sem] theorem cellsOf_40 : Tryz.prog.cellsOf 40 = 1 := by kernel_rfl
@[go_sem] theorem bytesOf_40 : Tryz.prog.bytesOf 40 = 8 := by kernel_rfl
@[go_sem] theorem sliceT_40 : sliceT Tryz.prog 40 = none := by kernel_rfl
@[go_sem] theorem arrT_40 : arrT Tryz.prog 40 = none := by kernel_rfl
@[go_sem] theorem aggT_40 : aggT Tryz.prog 40 = some false := by kernel_rfl
@[go_sem] theorem intT_40 : intT Tryz.prog 40 = none := by kernel_rfl
@[go_sem] theorem isBoolT_40 : isBoolT Tryz.prog 40 = false := by kernel_rfl
@[go_sem] theorem infoT_40 : (Tryz.prog.info? 40).isSome = true := by kernel_rfl
@[go_sem] theorem plainIface_40 : plainIface Tryz.prog 40 = true := by kernel_rfl
@[go_sem] theorem zeroT_40 : zeroT Tryz.prog 40 = some [.d .nilf] := by kernel_rfl
@[go_sem] theorem zeroV_40 : zeroV Tryz.prog 40 = some (.d .nilf) := by kernel_rfl
@[go_sem] theorem zeroD_40 : zeroD Tryz.prog 40 = some .nilf := by kernel_rfl
@[go_sem] theorem cellsOf_52 : Tryz.prog.cellsOf 52 = 4 := by kernel_rfl
@[go_sem] theorem bytesOf_52 : Tryz.prog.bytesOf 52 = 48 := by kernel_rfl
@[go_sem] theorem sliceT_52 : sliceT Tryz.prog 52 = none := by kernel_rfl
@[go_sem] theorem arrT_52 : arrT Tryz.prog 52 = none := by kernel_rfl
@[go_sem] theorem aggT_52 : aggT Tryz.prog 52 = some true := by kernel_rfl
@[go_sem] theorem intT_52 : intT Tryz.prog 52 = none := by kernel_rfl
@[go_sem] theorem isBoolT_52 : isBoolT Tryz.prog 52 = false := by kernel_rfl
@[go_sem] theorem infoT_52 : (Tryz.prog.info? 52).isSome = true := by kernel_rfl
@[go_sem] theorem plainIface_52 : plainIface Tryz.prog 52 = true := by kernel_rfl
@[go_sem] theorem zeroT_52 : zeroT Tryz.prog 52 = some [.d (.int .i64 0), .d (.int .i64 0), .d (.int .i64 0), .nils] := by kernel_rfl
@[go_sem] theorem zeroV_52 : zeroV Tryz.prog 52 = some (mkAgg [.d (.int .i64 0), .d (.int .i64 0), .d (.int .i64 0), .nils]) := by kernel_rfl
@[go_sem] theorem zeroD_52 : zeroD Tryz.prog 52 = some (.agg [(.int .i64 0), (.int .i64 0), (.int .i64 0), (.sl [])]) := by kernel_rfl
@[go_sem] theorem placesT_52 : placesT Tryz.prog 52 = some [(0, 1), (1, 3)] := by kernel_rfl
@[go_sem] theorem cellsOf_53 : Tryz.prog.cellsOf 53 = 1 := by kernel_rfl
@[go_sem] theorem bytesOf_53 : Tryz.prog.bytesOf 53 = 24 := by kernel_rfl
@[go_sem] theorem sliceT_53 : sliceT Tryz.prog 53 = some 3 := by kernel_rfl
@[go_sem] theorem arrT_53 : arrT Tryz.prog 53 = none := by kernel_rfl
@[go_sem] theorem aggT_53 : aggT Tryz.prog 53 = some false := by kernel_rfl
@[go_sem] theorem intT_53 : intT Tryz.prog 53 = none := by kernel_rfl
@[go_sem] theorem isBoolT_53 : isBoolT Tryz.prog 53 = false := by kernel_rfl
@[go_sem] theorem infoT_53 : (Tryz.prog.info? 53).isSome = true := by kernel_rfl
@[go_sem] theorem plainIface_53 : plainIface Tryz.prog 53 = true := by kernel_rfl
@[go_sem] theorem undT_53 : Tryz.prog.underlying 53 = some (.slice 3) := by kernel_rfl
@[go_sem] theorem zeroT_53 : zeroT Tryz.prog 53 = some [.nils] := by kernel_rfl
@[go_sem] theorem zeroV_53 : zeroV Tryz.prog 53 = some (.nils) := by kernel_rfl
@[go_sem] theorem zeroD_53 : zeroD Tryz.prog 53 = some (.sl []) := by kernel_rfl
@[go_sem] theorem cellsOf_64 : Tryz.prog.cellsOf 64 = 1 := by kernel_rfl
@[go_sem] theorem bytesOf_64 : Tryz.prog.bytesOf 64 = 24 := by kernel_rfl
@[go_sem] theorem sliceT_64 : sliceT Tryz.prog 64 = some 4 := by kernel_rfl
@[go_sem] theorem arrT_64 : arrT Tryz.prog 64 = none := by kernel_rfl
@[go_sem] theorem aggT_64 : aggT Tryz.prog 64 = some false := by kernel_rfl
@[go_sem] theorem intT_64 : intT Tryz.prog 64 = none := by kernel_rfl
@[go_sem] theorem isBoolT_64 : isBoolT Tryz.prog 64 = false := by kernel_rfl
@[go_sem] theorem infoT_64 : (Tryz.prog.info? 64).isSome = true := by kernel_rfl
@[go_sem] theorem plainIface_64 : plainIface Tryz.prog 64 = true := by kernel_rfl
@[go_sem] theorem undT_64 : Tryz.prog.underlying 64 = some (.slice 4) := by kernel_rfl
@[go_sem] theorem zeroT_64 : zeroT Tryz.prog 64 = some [.nils] := by kernel_rfl
@[go_sem] theorem zeroV_64 : zeroV Tryz.prog 64 = some (.nils) := by kernel_rfl
@[go_sem] theorem zeroD_64 : zeroD Tryz.prog 64 = some (.sl []) := by kernel_rfl
@[go_sem] theorem cellsOf_78 : Tryz.prog.cellsOf 78 = 1 := by kernel_rfl
@[go_sem] theorem bytesOf_78 : Tryz.prog.bytesOf 78 = 8 := by kernel_rfl
@[go_sem] theorem sliceT_78 : sliceT Tryz.prog 78 = none := by kernel_rfl
@[go_sem] theorem arrT_78 : arrT Tryz.prog 78 = none := by kernel_rfl
@[go_sem] theorem aggT_78 : aggT Tryz.prog 78 = some false := by kernel_rfl
@[go_sem] theorem intT_78 : intT Tryz.prog 78 = none := by kernel_rfl
@[go_sem] theorem isBoolT_78 : isBoolT Tryz.prog 78 = false := by kernel_rfl
@[go_sem] theorem infoT_78 : (Tryz.prog.info? 78).isSome = true := by kernel_rfl
@[go_sem] theorem plainIface_78 : plainIface Tryz.prog 78 = true := by kernel_rfl
@[go_sem] theorem undT_78 : Tryz.prog.underlying 78 = some (.map 3 28) := by kernel_rfl
@[go_sem] theorem mapT_78 : mapT Tryz.prog 78 = some (3, 28) := by kernel_rfl
@[go_sem] theorem zeroT_78 : zeroT Tryz.prog 78 = some [.d .nilm] := by kernel_rfl
@[go_sem] theorem zeroV_78 : zeroV Tryz.prog 78 = some (.d .nilm) := by kernel_rfl
@[go_sem] theorem zeroD_78 : zeroD Tryz.prog 78 = some .nilm := by kernel_rfl
@[go_sem] theorem cellsOf_88 : Tryz.prog.cellsOf 88 = 1 := by kernel_rfl
@[go_sem] theorem bytesOf_88 : Tryz.prog.bytesOf 88 = 8 := by kernel_rfl
@[go_sem] theorem sliceT_88 : sliceT Tryz.prog 88 = none := by kernel_rfl
@[go_sem] theorem arrT_88 : arrT Tryz.prog 88 = none := by kernel_rfl
@[go_sem] theorem aggT_88 : aggT Tryz.prog 88 = some false := by kernel_rfl
@[go_sem] theorem intT_88 : intT Tryz.prog 88 = none := by kernel_rfl
@[go_sem] theorem isBoolT_88 : isBoolT Tryz.prog 88 = false := by kernel_rfl
@[go_sem] theorem infoT_88 : (Tryz.prog.info? 88).isSome = true := by kernel_rfl
@[go_sem] theorem plainIface_88 : plainIface Tryz.prog 88 = true := by kernel_rfl
@[go_sem] theorem zeroT_88 : zeroT Tryz.prog 88 = some [.d .nilp] := by kernel_rfl
@[go_sem] theorem zeroV_88 : zeroV Tryz.prog 88 = some (.d .nilp) := by kernel_rfl
@[go_sem] theorem zeroD_88 : zeroD Tryz.prog 88 = some .nilp := by kernel_rfl
@[go_sem] theorem cellsOf_92 : Tryz.prog.cellsOf 92 = 1 := by kernel_rfl
@[go_sem] theorem bytesOf_92 : Tryz.prog.bytesOf 92 = 8 := by kernel_rfl
@[go_sem] theorem sliceT_92 : sliceT Tryz.prog 92 = none := by kernel_rfl
@[go_sem] theorem arrT_92 : arrT Tryz.prog 92 = none := by kernel_rfl
@[go_sem] theorem aggT_92 : aggT Tryz.prog 92 = some false := by kernel_rfl
@[go_sem] theorem intT_92 : intT Tryz.prog 92 = none := by kernel_rfl
@[go_sem] theorem isBoolT_92 : isBoolT Tryz.prog 92 = false := by kernel_rfl
@[go_sem] theorem infoT_92 : (Tryz.prog.info? 92).isSome = true := by kernel_rfl
@[go_sem] theorem plainIface_92 : plainIface Tryz.prog 92 = true := by kernel_rfl
@[go_sem] theorem undT_92 : Tryz.prog.underlying 92 = some (.map 3 4) := by kernel_rfl
@[go_sem] theorem mapT_92 : mapT Tryz.prog 92 = some (3, 4) := by kernel_rfl
@[go_sem] theorem zeroT_92 : zeroT Tryz.prog 92 = some [.d .nilm] := by kernel_rfl
@[go_sem] theorem zeroV_92 : zeroV Tryz.prog 92 = some (.d .nilm) := by kernel_rfl
@[go_sem] theorem zeroD_92 : zeroD Tryz.prog 92 = some .nilm := by kernel_rfl
@[go_sem] theorem cellsOf_93 : Tryz.prog.cellsOf 93 = 1 := by kernel_rfl
@[go_sem] theorem bytesOf_93 : Tryz.prog.bytesOf 93 = 8 := by kernel_rfl
@[go_sem] theorem sliceT_93 : sliceT Tryz.prog 93 = none := by kernel_rfl
@[go_sem] theorem arrT_93 : arrT Tryz.prog 93 = none := by kernel_rfl
@[go_sem] theorem aggT_93 : aggT Tryz.prog 93 = some false := by kernel_rfl
@[go_sem] theorem intT_93 : intT Tryz.prog 93 = none := by kernel_rfl
@[go_sem] theorem isBoolT_93 : isBoolT Tryz.prog 93 = false := by kernel_rfl
@[go_sem] theorem infoT_93 : (Tryz.prog.info? 93).isSome = true := by kernel_rfl
@[go_sem] theorem plainIface_93 : plainIface Tryz.prog 93 = true := by kernel_rfl
@[go_sem] theorem undT_93 : Tryz.prog.underlying 93 = some (.map 3 4) := by kernel_rfl
@[go_sem] theorem mapT_93 : mapT Tryz.prog 93 = some (3, 4) := by kernel_rfl
@[go_sem] theorem zeroT_93 : zeroT Tryz.prog 93 = some [.d .nilm] := by kernel_rfl
@[go_sem] theorem zeroV_93 : zeroV Tryz.prog 93 = some (.d .nilm) := by kernel_rfl
@[go_sem] theorem zeroD_93 : zeroD Tryz.prog 93 = some .nilm := by kernel_rfl
@[go_sem] theorem cellsOf_96 : Tryz.prog.cellsOf 96 = 1 := by kernel_rfl
@[go_sem] theorem bytesOf_96 : Tryz.prog.bytesOf 96 = 24 := by kernel_rfl
@[go_sem] theorem sliceT_96 : sliceT Tryz.prog 96 = some 153 := by kernel_rfl
@[go_sem] theorem arrT_96 : arrT Tryz.prog 96 = none := by kernel_rfl
@[go_sem] theorem aggT_96 : aggT Tryz.prog 96 = some false := by kernel_rfl
@[go_sem] theorem intT_96 : intT Tryz.prog 96 = none := by kernel_rfl
@[go_sem] theorem isBoolT_96 : isBoolT Tryz.prog 96 = false := by kernel_rfl
@[go_sem] theorem infoT_96 : (Tryz.prog.info? 96).isSome = true := by kernel_rfl
@[go_sem] theorem plainIface_96 : plainIface Tryz.prog 96 = true := by kernel_rfl
@[go_sem] theorem undT_96 : Tryz.prog.underlying 96 = some (.slice 153) := by kernel_rfl
@[go_sem] theorem zeroT_96 : zeroT Tryz.prog 96 = some [.nils] := by kernel_rfl
@[go_sem] theorem zeroV_96 : zeroV Tryz.prog 96 = some (.nils) := by kernel_rfl
@[go_sem] theorem zeroD_96 : zeroD Tryz.prog 96 = some (.sl []) := by kernel_rfl
@[go_sem] theorem cellsOf_98 : Tryz.prog.cellsOf 98 = 3 := by kernel_rfl
@[go_sem] theorem bytesOf_98 : Tryz.prog.bytesOf 98 = 56 := by kernel_rfl
@[go_sem] theorem sliceT_98 : sliceT Tryz.prog 98 = none := by kernel_rfl
@[go_sem] theorem arrT_98 : arrT Tryz.prog 98 = none := by kernel_rfl
@[go_sem] theorem aggT_98 : aggT Tryz.prog 98 = some true := by kernel_rfl
@[go_sem] theorem intT_98 : intT Tryz.prog 98 = none := by kernel_rfl
@[go_sem] theorem isBoolT_98 : isBoolT Tryz.prog 98 = false := by kernel_rfl
@[go_sem] theorem infoT_98 : (Tryz.prog.info? 98).isSome = true := by kernel_rfl
@[go_sem] theorem plainIface_98 : plainIface Tryz.prog 98 = true := by kernel_rfl
@[go_sem] theorem zeroT_98 : zeroT Tryz.prog 98 = some [.nils, .nils, .d (.int .i64 0)] := by kernel_rfl
@[go_sem] theorem zeroV_98 : zeroV Tryz.prog 98 = some (mkAgg [.nils, .nils, .d (.int .i64 0)]) := by kernel_rfl
@[go_sem] theorem zeroD_98 : zeroD Tryz.prog 98 = some (.agg [(.sl []), (.sl []), (.int .i64 0)]) := by kernel_rfl
@[go_sem] theorem placesT_98 : placesT Tryz.prog 98 = some [(0, 1), (1, 1), (2, 1)] := by kernel_rfl
@[go_sem] theorem cellsOf_101 : Tryz.prog.cellsOf 101 = 1 := by kernel_rfl
@[go_sem] theorem bytesOf_101 : Tryz.prog.bytesOf 101 = 8 := by kernel_rfl
@[go_sem] theorem sliceT_101 : sliceT Tryz.prog 101 = none := by kernel_rfl
@[go_sem] theorem arrT_101 : arrT Tryz.prog 101 = none := by kernel_rfl
@[go_sem] theorem aggT_101 : aggT Tryz.prog 101 = some false := by kernel_rfl
@[go_sem] theorem intT_101 : intT Tryz.prog 101 = none := by kernel_rfl
@[go_sem] theorem isBoolT_101 : isBoolT Tryz.prog 101 = false := by kernel_rfl
@[go_sem] theorem infoT_101 : (Tryz.prog.info? 101).isSome = true := by kernel_rfl
@[go_sem] theorem plainIface_101 : plainIface Tryz.prog 101 = true := by kernel_rfl
@[go_sem] theorem undT_101 : Tryz.prog.underlying 101 = some (.map 9 4) := by kernel_rfl
@[go_sem] theorem mapT_101 : mapT Tryz.prog 101 = some (9, 4) := by kernel_rfl
@[go_sem] theorem zeroT_101 : zeroT Tryz.prog 101 = some [.d .nilm] := by kernel_rfl
@[go_sem] theorem zeroV_101 : zeroV Tryz.prog 101 = some (.d .nilm) := by kernel_rfl
@[go_sem] theorem zeroD_101 : zeroD Tryz.prog 101 = some .nilm := by kernel_rfl
@[go_sem] theorem cellsOf_103 : Tryz.prog.cellsOf 103 = 2 := by kernel_rfl
@[go_sem] theorem bytesOf_103 : Tryz.prog.bytesOf 103 = 24 := by kernel_rfl
@[go_sem] theorem sliceT_103 : sliceT Tryz.prog 103 = none := by kernel_rfl
@[go_sem] theorem arrT_103 : arrT Tryz.prog 103 = none := by kernel_rfl
@[go_sem] theorem aggT_103 : aggT Tryz.prog 103 = some true := by kernel_rfl
@[go_sem] theorem intT_103 : intT Tryz.prog 103 = none := by kernel_rfl
@[go_sem] theorem isBoolT_103 : isBoolT Tryz.prog 103 = false := by kernel_rfl
@[go_sem] theorem infoT_103 : (Tryz.prog.info? 103).isSome = true := by kernel_rfl
@[go_sem] theorem plainIface_103 : plainIface Tryz.prog 103 = true := by kernel_rfl
@[go_sem] theorem zeroT_103 : zeroT Tryz.prog 103 = some [.d (.str []), .d (.int .i64 0)] := by kernel_rfl
@[go_sem] theorem zeroV_103 : zeroV Tryz.prog 103 = some (mkAgg [.d (.str []), .d (.int .i64 0)]) := by kernel_rfl
@[go_sem] theorem zeroD_103 : zeroD Tryz.prog 103 = some (.agg [(.str []), (.int .i64 0)]) := by kernel_rfl
@[go_sem] theorem placesT_103 : placesT Tryz.prog 103 = some [(0, 1), (1, 1)] := by kernel_rfl
@[go_sem] theorem cellsOf_105 : Tryz.prog.cellsOf 105 = 1 := by kernel_rfl
@[go_sem] theorem bytesOf_105 : Tryz.prog.bytesOf 105 = 8 := by kernel_rfl
@[go_sem] theorem sliceT_105 : sliceT Tryz.prog 105 = none := by kernel_rfl
@[go_sem] theorem arrT_105 : arrT Tryz.prog 105 = none := by kernel_rfl
@[go_sem] theorem aggT_105 : aggT Tryz.prog 105 = some false := by kernel_rfl
@[go_sem] theorem intT_105 : intT Tryz.prog 105 = none := by kernel_rfl
@[go_sem] theorem isBoolT_105 : isBoolT Tryz.prog 105 = false := by kernel_rfl
@[go_sem] theorem infoT_105 : (Tryz.prog.info? 105).isSome = true := by kernel_rfl
@[go_sem] theorem plainIface_105 : plainIface Tryz.prog 105 = true := by kernel_rfl
@[go_sem] theorem zeroT_105 : zeroT Tryz.prog 105 = some [.d .nilf] := by kernel_rfl
@[go_sem] theorem zeroV_105 : zeroV Tryz.prog 105 = some (.d .nilf) := by kernel_rfl
@[go_sem] theorem zeroD_105 : zeroD Tryz.prog 105 = some .nilf := by kernel_rfl
@[go_sem] theorem cellsOf_110 : Tryz.prog.cellsOf 110 = 1 := by kernel_rfl
@[go_sem] theorem bytesOf_110 : Tryz.prog.bytesOf 110 = 24 := by kernel_rfl
@[go_sem] theorem sliceT_110 : sliceT Tryz.prog 110 = some 9 := by kernel_rfl
@[go_sem] theorem arrT_110 : arrT Tryz.prog 110 = none := by kernel_rfl
@[go_sem] theorem aggT_110 : aggT Tryz.prog 110 = some false := by kernel_rfl
@[go_sem] theorem intT_110 : intT Tryz.prog 110 = none := by kernel_rfl
@[go_sem] theorem isBoolT_110 : isBoolT Tryz.prog 110 = false := by kernel_rfl
@[go_sem] theorem infoT_110 : (Tryz.prog.info? 110).isSome = true := by kernel_rfl
@[go_sem] theorem plainIface_110 : plainIface Tryz.prog 110 = true := by kernel_rfl
@[go_sem] theorem undT_110 : Tryz.prog.underlying 110 = some (.slice 9) := by kernel_rfl
@[go_sem] theorem zeroT_110 : zeroT Tryz.prog 110 = some [.nils] := by kernel_rfl
@[go_sem] theorem zeroV_110 : zeroV Tryz.prog 110 = some (.nils) := by kernel_rfl
@[go_sem] theorem zeroD_110 : zeroD Tryz.prog 110 = some (.sl []) := by kernel_rfl
@[go_sem] theorem cellsOf_118 : Tryz.prog.cellsOf 118 = 1 := by kernel_rfl
@[go_sem] theorem bytesOf_118 : Tryz.prog.bytesOf 118 = 8 := by kernel_rfl
@[go_sem] theorem sliceT_118 : sliceT Tryz.prog 118 = none := by kernel_rfl
@[go_sem] theorem arrT_118 : arrT Tryz.prog 118 = none := by kernel_rfl
@[go_sem] theorem aggT_118 : aggT Tryz.prog 118 = some false := by kernel_rfl
@[go_sem] theorem intT_118 : intT Tryz.prog 118 = none := by kernel_rfl
@[go_sem] theorem isBoolT_118 : isBoolT Tryz.prog 118 = false := by kernel_rfl
@[go_sem] theorem infoT_118 : (Tryz.prog.info? 118).isSome = true := by kernel_rfl
@[go_sem] theorem plainIface_118 : plainIface Tryz.prog 118 = true := by kernel_rfl
@[go_sem] theorem zeroT_118 : zeroT Tryz.prog 118 = some [.d .nilf] := by kernel_rfl
@[go_sem] theorem zeroV_118 : zeroV Tryz.prog 118 = some (.d .nilf) := by kernel_rfl
@[go_sem] theorem zeroD_118 : zeroD Tryz.prog 118 = some .nilf := by kernel_rfl
@[go_sem] theorem cellsOf_119 : Tryz.prog.cellsOf 119 = 1 := by kernel_rfl
@[go_sem] theorem bytesOf_119 : Tryz.prog.bytesOf 119 = 8 := by kernel_rfl
@[go_sem] theorem sliceT_119 : sliceT Tryz.prog 119 = none := by kernel_rfl
@[go_sem] theorem arrT_119 : arrT Tryz.prog 119 = none := by kernel_rfl
@[go_sem] theorem aggT_119 : aggT Tryz.prog 119 = some false := by kernel_rfl
@[go_sem] theorem intT_119 : intT Tryz.prog 119 = none := by kernel_rfl
@[go_sem] theorem isBoolT_119 : isBoolT Tryz.prog 119 = false := by kernel_rfl
@[go_sem] theorem infoT_119 : (Tryz.prog.info? 119).isSome = true := by kernel_rfl
@[go_sem] theorem plainIface_119 : plainIface Tryz.prog 119 = true := by kernel_rfl
@[go_sem] theorem zeroT_119 : zeroT Tryz.prog 119 = some [.d .nilf] := by kernel_rfl
@[go_sem] theorem zeroV_119 : zeroV Tryz.prog 119 = some (.d .nilf) := by kernel_rfl
@[go_sem] theorem zeroD_119 : zeroD Tryz.prog 119 = some .nilf := by kernel_rfl
@[go_sem] theorem cellsOf_120 : Tryz.prog.cellsOf 120 = 16 := by kernel_rfl
@[go_sem] theorem bytesOf_120 : Tryz.prog.bytesOf 120 = 128 := by kernel_rfl
@[go_sem] theorem sliceT_120 : sliceT Tryz.prog 120 = none := by kernel_rfl
@[go_sem] theorem arrT_120 : arrT Tryz.prog 120 = some (16, 119) := by kernel_rfl
@[go_sem] theorem aggT_120 : aggT Tryz.prog 120 = some true := by kernel_rfl
@[go_sem] theorem intT_120 : intT Tryz.prog 120 = none := by kernel_rfl
@[go_sem] theorem isBoolT_120 : isBoolT Tryz.prog 120 = false := by kernel_rfl
@[go_sem] theorem infoT_120 : (Tryz.prog.info? 120).isSome = true := by kernel_rfl
@[go_sem] theorem plainIface_120 : plainIface Tryz.prog 120 = true := by kernel_rfl
@[go_sem] theorem undT_120 : Tryz.prog.underlying 120 = some (.array 16 119) := by kernel_rfl
@[go_sem] theorem zeroT_120 : zeroT Tryz.prog 120 = some [.d .nilf, .d .nilf, .d .nilf, .d .nilf, .d .nilf, .d .nilf, .d .nilf, .d .nilf, .d .nilf, .d .nilf, .d .nilf, .d .nilf, .d .nilf, .d .nilf, .d .nilf, .d .nilf] := by kernel_rfl
@[go_sem] theorem zeroV_120 : zeroV Tryz.prog 120 = some (mkAgg [.d .nilf, .d .nilf, .d .nilf, .d .nilf, .d .nilf, .d .nilf, .d .nilf, .d .nilf, .d .nilf, .d .nilf, .d .nilf, .d .nilf, .d .nilf, .d .nilf, .d .nilf, .d .nilf]) := by kernel_rfl
@[go_sem] theorem zeroD_120 : zeroD Tryz.prog 120 = some (.agg [.nilf, .nilf, .nilf, .nilf, .nilf, .nilf, .nilf, .nilf, .nilf, .nilf, .nilf, .nilf, .nilf, .nilf, .nilf, .nilf]) := by kernel_rfl
@[go_sem] theorem placesT_120 : placesT Tryz.prog 120 = some [(0, 1), (1, 1), (2, 1), (3, 1), (4, 1), (5, 1), (6, 1), (7, 1), (8, 1), (9, 1), (10, 1), (11, 1), (12, 1), (13, 1), (14, 1), (15, 1)] := by kernel_rfl
@[go_sem] theorem cellsOf_123 : Tryz.prog.cellsOf 123 = 2 := by kernel_rfl
@[go_sem] theorem bytesOf_123 : Tryz.prog.bytesOf 123 = 48 := by kernel_rfl
@[go_sem] theorem sliceT_123 : sliceT Tryz.prog 123 = none := by kernel_rfl
@[go_sem] theorem arrT_123 : arrT Tryz.prog 123 = none := by kernel_rfl
@[go_sem] theorem aggT_123 : aggT Tryz.prog 123 = some true := by kernel_rfl
@[go_sem] theorem intT_123 : intT Tryz.prog 123 = none := by kernel_rfl
@[go_sem] theorem isBoolT_123 : isBoolT Tryz.prog 123 = false := by kernel_rfl
@[go_sem] theorem infoT_123 : (Tryz.prog.info? 123).isSome = true := by kernel_rfl
@[go_sem] theorem plainIface_123 : plainIface Tryz.prog 123 = true := by kernel_rfl
@[go_sem] theorem zeroT_123 : zeroT Tryz.prog 123 = some [.nils, .nils] := by kernel_rfl
@[go_sem] theorem zeroV_123 : zeroV Tryz.prog 123 = some (mkAgg [.nils, .nils]) := by kernel_rfl
@[go_sem] theorem zeroD_123 : zeroD Tryz.prog 123 = some (.agg [(.sl []), (.sl [])]) := by kernel_rfl
@[go_sem] theorem placesT_123 : placesT Tryz.prog 123 = some [(0, 2)] := by kernel_rfl
@[go_sem] theorem cellsOf_131 : Tryz.prog.cellsOf 131 = 1 := by kernel_rfl
@[go_sem] theorem bytesOf_131 : Tryz.prog.bytesOf 131 = 8 := by kernel_rfl
@[go_sem] theorem sliceT_131 : sliceT Tryz.prog 131 = none := by kernel_rfl
@[go_sem] theorem arrT_131 : arrT Tryz.prog 131 = none := by kernel_rfl
@[go_sem] theorem aggT_131 : aggT Tryz.prog 131 = some false := by kernel_rfl
@[go_sem] theorem intT_131 : intT Tryz.prog 131 = some .i64 := by kernel_rfl
@[go_sem] theorem isBoolT_131 : isBoolT Tryz.prog 131 = false := by kernel_rfl
@[go_sem] theorem infoT_131 : (Tryz.prog.info? 131).isSome = true := by kernel_rfl
@[go_sem] theorem plainIface_131 : plainIface Tryz.prog 131 = true := by kernel_rfl
@[go_sem] theorem undT_131 : Tryz.prog.underlying 131 = some (.int .i64) := by kernel_rfl
@[go_sem] theorem eqShape_131 : eqShape Tryz.prog 131 = some .int := by kernel_rfl
@[go_sem] theorem zeroT_131 : zeroT Tryz.prog 131 = some [.d (.int .i64 0)] := by kernel_rfl
@[go_sem] theorem zeroV_131 : zeroV Tryz.prog 131 = some (.d (.int .i64 0)) := by kernel_rfl
@[go_sem] theorem zeroD_131 : zeroD Tryz.prog 131 = some (.int .i64 0) := by kernel_rfl
@[go_sem] theorem cellsOf_132 : Tryz.prog.cellsOf 132 = 3 := by kernel_rfl
@[go_sem] theorem bytesOf_132 : Tryz.prog.bytesOf 132 = 40 := by kernel_rfl
@[go_sem] theorem sliceT_132 : sliceT Tryz.prog 132 = none := by kernel_rfl
@[go_sem] theorem arrT_132 : arrT Tryz.prog 132 = none := by kernel_rfl
@[go_sem] theorem aggT_132 : aggT Tryz.prog 132 = some true := by kernel_rfl
@[go_sem] theorem intT_132 : intT Tryz.prog 132 = none := by kernel_rfl
@[go_sem] theorem isBoolT_132 : isBoolT Tryz.prog 132 = false := by kernel_rfl
@[go_sem] theorem infoT_132 : (Tryz.prog.info? 132).isSome = true := by kernel_rfl
@[go_sem] theorem plainIface_132 : plainIface Tryz.prog 132 = true := by kernel_rfl
@[go_sem] theorem zeroT_132 : zeroT Tryz.prog 132 = some [.d (.int .i64 0), .d (.int .i64 0), .nils] := by kernel_rfl
@[go_sem] theorem zeroV_132 : zeroV Tryz.prog 132 = some (mkAgg [.d (.int .i64 0), .d (.int .i64 0), .nils]) := by kernel_rfl
@[go_sem] theorem zeroD_132 : zeroD Tryz.prog 132 = some (.agg [(.int .i64 0), (.int .i64 0), (.sl [])]) := by kernel_rfl
@[go_sem] theorem cellsOf_134 : Tryz.prog.cellsOf 134 = 0 := by kernel_rfl
@[go_sem] theorem bytesOf_134 : Tryz.prog.bytesOf 134 = 0 := by kernel_rfl
@[go_sem] theorem sliceT_134 : sliceT Tryz.prog 134 = none := by kernel_rfl
@[go_sem] theorem arrT_134 : arrT Tryz.prog 134 = none := by kernel_rfl
@[go_sem] theorem aggT_134 : aggT Tryz.prog 134 = some true := by kernel_rfl
@[go_sem] theorem intT_134 : intT Tryz.prog 134 = none := by kernel_rfl
@[go_sem] theorem isBoolT_134 : isBoolT Tryz.prog 134 = false := by kernel_rfl
@[go_sem] theorem infoT_134 : (Tryz.prog.info? 134).isSome = true := by kernel_rfl
@[go_sem] theorem plainIface_134 : plainIface Tryz.prog 134 = true := by kernel_rfl
@[go_sem] theorem zeroT_134 : zeroT Tryz.prog 134 = some [] := by kernel_rfl
@[go_sem] theorem zeroV_134 : zeroV Tryz.prog 134 = some (mkAgg []) := by kernel_rfl
@[go_sem] theorem zeroD_134 : zeroD Tryz.prog 134 = some (.agg []) := by kernel_rfl
@[go_sem] theorem placesT_134 : placesT Tryz.prog 134 = some [] := by kernel_rfl
@[go_sem] theorem cellsOf_143 : Tryz.prog.cellsOf 143 = 1 := by kernel_rfl
@[go_sem] theorem bytesOf_143 : Tryz.prog.bytesOf 143 = 8 := by kernel_rfl
@[go_sem] theorem sliceT_143 : sliceT Tryz.prog 143 = none := by kernel_rfl
@[go_sem] theorem arrT_143 : arrT Tryz.prog 143 = none := by kernel_rfl
@[go_sem] theorem aggT_143 : aggT Tryz.prog 143 = some false := by kernel_rfl
@[go_sem] theorem intT_143 : intT Tryz.prog 143 = some .u64 := by kernel_rfl
@[go_sem] theorem isBoolT_143 : isBoolT Tryz.prog 143 = false := by kernel_rfl
@[go_sem] theorem infoT_143 : (Tryz.prog.info? 143).isSome = true := by kernel_rfl
@[go_sem] theorem plainIface_143 : plainIface Tryz.prog 143 = true := by kernel_rfl
@[go_sem] theorem undT_143 : Tryz.prog.underlying 143 = some (.int .u64) := by kernel_rfl
@[go_sem] theorem eqShape_143 : eqShape Tryz.prog 143 = some .int := by kernel_rfl
@[go_sem] theorem zeroT_143 : zeroT Tryz.prog 143 = some [.d (.int .u64 0)] := by kernel_rfl
@[go_sem] theorem zeroV_143 : zeroV Tryz.prog 143 = some (.d (.int .u64 0)) := by kernel_rfl
@[go_sem] theorem zeroD_143 : zeroD Tryz.prog 143 = some (.int .u64 0) := by kernel_rfl
@[go_sem] theorem cellsOf_144 : Tryz.prog.cellsOf 144 = 1 := by kernel_rfl
@[go_sem] theorem bytesOf_144 : Tryz.prog.bytesOf 144 = 8 := by kernel_rfl
@[go_sem] theorem sliceT_144 : sliceT Tryz.prog 144 = none := by kernel_rfl
@[go_sem] theorem arrT_144 : arrT Tryz.prog 144 = none := by kernel_rfl
@[go_sem] theorem aggT_144 : aggT Tryz.prog 144 = some false := by kernel_rfl
@[go_sem] theorem intT_144 : intT Tryz.prog 144 = none := by kernel_rfl
@[go_sem] theorem isBoolT_144 : isBoolT Tryz.prog 144 = false := by kernel_rfl
@[go_sem] theorem infoT_144 : (Tryz.prog.info? 144).isSome = true := by kernel_rfl
@[go_sem] theorem plainIface_144 : plainIface Tryz.prog 144 = true := by kernel_rfl
@[go_sem] theorem zeroT_144 : zeroT Tryz.prog 144 = some [.d .nilp] := by kernel_rfl
@[go_sem] theorem zeroV_144 : zeroV Tryz.prog 144 = some (.d .nilp) := by kernel_rfl
@[go_sem] theorem zeroD_144 : zeroD Tryz.prog 144 = some .nilp := by kernel_rfl
@[go_sem] theorem cellsOf_145 : Tryz.prog.cellsOf 145 = 1 := by kernel_rfl
@[go_sem] theorem bytesOf_145 : Tryz.prog.bytesOf 145 = 8 := by kernel_rfl
@[go_sem] theorem sliceT_145 : sliceT Tryz.prog 145 = none := by kernel_rfl
@[go_sem] theorem arrT_145 : arrT Tryz.prog 145 = none := by kernel_rfl
@[go_sem] theorem aggT_145 : aggT Tryz.prog 145 = some false := by kernel_rfl
@[go_sem] theorem intT_145 : intT Tryz.prog 145 = none := by kernel_rfl
@[go_sem] theorem isBoolT_145 : isBoolT Tryz.prog 145 = false := by kernel_rfl
@[go_sem] theorem infoT_145 : (Tryz.prog.info? 145).isSome = true := by kernel_rfl
@[go_sem] theorem plainIface_145 : plainIface Tryz.prog 145 = true := by kernel_rfl
@[go_sem] theorem undT_145 : Tryz.prog.underlying 145 = some (.map 3 3) := by kernel_rfl
@[go_sem] theorem mapT_145 : mapT Tryz.prog 145 = some (3, 3) := by kernel_rfl
@[go_sem] theorem zeroT_145 : zeroT Tryz.prog 145 = some [.d .nilm] := by kernel_rfl
@[go_sem] theorem zeroV_145 : zeroV Tryz.prog 145 = some (.d .nilm) := by kernel_rfl
@[go_sem] theorem zeroD_145 : zeroD Tryz.prog 145 = some .nilm := by kernel_rfl
@[go_sem] theorem cellsOf_147 : Tryz.prog.cellsOf 147 = 2 := by kernel_rfl
@[go_sem] theorem bytesOf_147 : Tryz.prog.bytesOf 147 = 16 := by kernel_rfl
@[go_sem] theorem sliceT_147 : sliceT Tryz.prog 147 = none := by kernel_rfl
@[go_sem] theorem arrT_147 : arrT Tryz.prog 147 = none := by kernel_rfl
@[go_sem] theorem aggT_147 : aggT Tryz.prog 147 = some true := by kernel_rfl
@[go_sem] theorem intT_147 : intT Tryz.prog 147 = none := by kernel_rfl
@[go_sem] theorem isBoolT_147 : isBoolT Tryz.prog 147 = false := by kernel_rfl
@[go_sem] theorem infoT_147 : (Tryz.prog.info? 147).isSome = true := by kernel_rfl
@[go_sem] theorem plainIface_147 : plainIface Tryz.prog 147 = true := by kernel_rfl
@[go_sem] theorem zeroT_147 : zeroT Tryz.prog 147 = some [.d (.int .i64 0), .d .nilm] := by kernel_rfl
@[go_sem] theorem zeroV_147 : zeroV Tryz.prog 147 = some (mkAgg [.d (.int .i64 0), .d .nilm]) := by kernel_rfl
@[go_sem] theorem zeroD_147 : zeroD Tryz.prog 147 = some (.agg [(.int .i64 0), .nilm]) := by kernel_rfl
@[go_sem] theorem placesT_147 : placesT Tryz.prog 147 = some [(0, 1), (1, 1)] := by kernel_rfl
@[go_sem] theorem cellsOf_149 : Tryz.prog.cellsOf 149 = 2 := by kernel_rfl
@[go_sem] theorem bytesOf_149 : Tryz.prog.bytesOf 149 = 16 := by kernel_rfl
@[go_sem] theorem sliceT_149 : sliceT Tryz.prog 149 = none := by kernel_rfl
@[go_sem] theorem arrT_149 : arrT Tryz.prog 149 = none := by kernel_rfl
@[go_sem] theorem aggT_149 : aggT Tryz.prog 149 = some true := by kernel_rfl
@[go_sem] theorem intT_149 : intT Tryz.prog 149 = none := by kernel_rfl
@[go_sem] theorem isBoolT_149 : isBoolT Tryz.prog 149 = false := by kernel_rfl
@[go_sem] theorem infoT_149 : (Tryz.prog.info? 149).isSome = true := by kernel_rfl
@[go_sem] theorem plainIface_149 : plainIface Tryz.prog 149 = true := by kernel_rfl
@[go_sem] theorem zeroT_149 : zeroT Tryz.prog 149 = some [.d .nilp, .d .nilm] := by kernel_rfl
@[go_sem] theorem zeroV_149 : zeroV Tryz.prog 149 = some (mkAgg [.d .nilp, .d .nilm]) := by kernel_rfl
@[go_sem] theorem zeroD_149 : zeroD Tryz.prog 149 = some (.agg [.nilp, .nilm]) := by kernel_rfl
@[go_sem] theorem placesT_149 : placesT Tryz.prog 149 = some [(0, 1), (1, 1)] := by kernel_rfl
@[go_sem] theorem cellsOf_153 : Tryz.prog.cellsOf 153 = 2 := by kernel_rfl
@[go_sem] theorem bytesOf_153 : Tryz.prog.bytesOf 153 = 16 := by kernel_rfl
@[go_sem] theorem sliceT_153 : sliceT Tryz.prog 153 = none := by kernel_rfl
@[go_sem] theorem arrT_153 : arrT Tryz.prog 153 = some (2, 3) := by kernel_rfl
@[go_sem] theorem aggT_153 : aggT Tryz.prog 153 = some true := by kernel_rfl
@[go_sem] theorem intT_153 : intT Tryz.prog 153 = none := by kernel_rfl
@[go_sem] theorem isBoolT_153 : isBoolT Tryz.prog 153 = false := by kernel_rfl
@[go_sem] theorem infoT_153 : (Tryz.prog.info? 153).isSome = true := by kernel_rfl
@[go_sem] theorem plainIface_153 : plainIface Tryz.prog 153 = true := by kernel_rfl
@[go_sem] theorem undT_153 : Tryz.prog.underlying 153 = some (.array 2 3) := by kernel_rfl
@[go_sem] theorem zeroT_153 : zeroT Tryz.prog 153 = some [.d (.int .i64 0), .d (.int .i64 0)] := by kernel_rfl
@[go_sem] theorem zeroV_153 : zeroV Tryz.prog 153 = some (mkAgg [.d (.int .i64 0), .d (.int .i64 0)]) := by kernel_rfl
@[go_sem] theorem zeroD_153 : zeroD Tryz.prog 153 = some (.agg [(.int .i64 0), (.int .i64 0)]) := by kernel_rfl
@[go_sem] theorem placesT_153 : placesT Tryz.prog 153 = some [(0, 1), (1, 1)] := by kernel_rfl
@[go_sem] theorem cellsOf_154 : Tryz.prog.cellsOf 154 = 1 := by kernel_rfl
@[go_sem] theorem bytesOf_154 : Tryz.prog.bytesOf 154 = 8 := by kernel_rfl
@[go_sem] theorem sliceT_154 : sliceT Tryz.prog 154 = none := by kernel_rfl
@[go_sem] theorem arrT_154 : arrT Tryz.prog 154 = none := by kernel_rfl
@[go_sem] theorem aggT_154 : aggT Tryz.prog 154 = some false := by kernel_rfl
@[go_sem] theorem intT_154 : intT Tryz.prog 154 = none := by kernel_rfl
@[go_sem] theorem isBoolT_154 : isBoolT Tryz.prog 154 = false := by kernel_rfl
@[go_sem] theorem infoT_154 : (Tryz.prog.info? 154).isSome = true := by kernel_rfl
@[go_sem] theorem plainIface_154 : plainIface Tryz.prog 154 = true := by kernel_rfl
@[go_sem] theorem zeroT_154 : zeroT Tryz.prog 154 = some [.d .nilf] := by kernel_rfl
@[go_sem] theorem zeroV_154 : zeroV Tryz.prog 154 = some (.d .nilf) := by kernel_rfl
@[go_sem] theorem zeroD_154 : zeroD Tryz.prog 154 = some .nilf := by kernel_rfl
@[go_sem] theorem cellsOf_160 : Tryz.prog.cellsOf 160 = 1 := by kernel_rfl
@[go_sem] theorem bytesOf_160 : Tryz.prog.bytesOf 160 = 8 := by kernel_rfl
@[go_sem] theorem sliceT_160 : sliceT Tryz.prog 160 = none := by kernel_rfl
@[go_sem] theorem arrT_160 : arrT Tryz.prog 160 = none := by kernel_rfl
@[go_sem] theorem aggT_160 : aggT Tryz.prog 160 = some false := by kernel_rfl
@[go_sem] theorem intT_160 : intT Tryz.prog 160 = some .i64 := by kernel_rfl
@[go_sem] theorem isBoolT_160 : isBoolT Tryz.prog 160 = false := by kernel_rfl
@[go_sem] theorem infoT_160 : (Tryz.prog.info? 160).isSome = true := by kernel_rfl
@[go_sem] theorem plainIface_160 : plainIface Tryz.prog 160 = true := by kernel_rfl
@[go_sem] theorem undT_160 : Tryz.prog.underlying 160 = some (.int .i64) := by kernel_rfl
@[go_sem] theorem eqShape_160 : eqShape Tryz.prog 160 = some .int := by kernel_rfl
@[go_sem] theorem zeroT_160 : zeroT Tryz.prog 160 = some [.d (.int .i64 0)] := by kernel_rfl
@[go_sem] theorem zeroV_160 : zeroV Tryz.prog 160 = some (.d (.int .i64 0)) := by kernel_rfl
@[go_sem] theorem zeroD_160 : zeroD Tryz.prog 160 = some (.int .i64 0) := by kernel_rfl
@[go_sem] theorem cellsOf_168 : Tryz.prog.cellsOf 168 = 1 := by kernel_rfl
@[go_sem] theorem bytesOf_168 : Tryz.prog.bytesOf 168 = 4 := by kernel_rfl
@[go_sem] theorem sliceT_168 : sliceT Tryz.prog 168 = none := by kernel_rfl
@[go_sem] theorem arrT_168 : arrT Tryz.prog 168 = none := by kernel_rfl
@[go_sem] theorem aggT_168 : aggT Tryz.prog 168 = some false := by kernel_rfl
@[go_sem] theorem intT_168 : intT Tryz.prog 168 = some .u32 := by kernel_rfl
@[go_sem] theorem isBoolT_168 : isBoolT Tryz.prog 168 = false := by kernel_rfl
@[go_sem] theorem infoT_168 : (Tryz.prog.info? 168).isSome = true := by kernel_rfl
@[go_sem] theorem plainIface_168 : plainIface Tryz.prog 168 = true := by kernel_rfl
@[go_sem] theorem undT_168 : Tryz.prog.underlying 168 = some (.int .u32) := by kernel_rfl
@[go_sem] theorem eqShape_168 : eqShape Tryz.prog 168 = some .int := by kernel_rfl
@[go_sem] theorem zeroT_168 : zeroT Tryz.prog 168 = some [.d (.int .u32 0)] := by kernel_rfl
@[go_sem] theorem zeroV_168 : zeroV Tryz.prog 168 = some (.d (.int .u32 0)) := by kernel_rfl
@[go_sem] theorem zeroD_168 : zeroD Tryz.prog 168 = some (.int .u32 0) := by kernel_rfl
@[go_sem] theorem cellsOf_170 : Tryz.prog.cellsOf 170 = 1 := by kernel_rfl
@[go_sem] theorem bytesOf_170 : Tryz.prog.bytesOf 170 = 8 := by kernel_rfl
@[go_sem] theorem sliceT_170 : sliceT Tryz.prog 170 = none := by kernel_rfl
@[go_sem] theorem arrT_170 : arrT Tryz.prog 170 = none := by kernel_rfl
@[go_sem] theorem aggT_170 : aggT Tryz.prog 170 = some false := by kernel_rfl
@[go_sem] theorem intT_170 : intT Tryz.prog 170 = some .u64 := by kernel_rfl
@[go_sem] theorem isBoolT_170 : isBoolT Tryz.prog 170 = false := by kernel_rfl
@[go_sem] theorem infoT_170 : (Tryz.prog.info? 170).isSome = true := by kernel_rfl
@[go_sem] theorem plainIface_170 : plainIface Tryz.prog 170 = true := by kernel_rfl
@[go_sem] theorem undT_170 : Tryz.prog.underlying 170 = some (.int .u64) := by kernel_rfl
@[go_sem] theorem eqShape_170 : eqShape Tryz.prog 170 = some .int := by kernel_rfl
@[go_sem] theorem zeroT_170 : zeroT Tryz.prog 170 = some [.d (.int .u64 0)] := by kernel_rfl
@[go_sem] theorem zeroV_170 : zeroV Tryz.prog 170 = some (.d (.int .u64 0)) := by kernel_rfl
@[go_sem] theorem zeroD_170 : zeroD Tryz.prog 170 = some (.int .u64 0) := by kernel_rfl
@[go_sem] theorem cellsOf_172 : Tryz.prog.cellsOf 172 = 1 := by kernel_rfl
@[go_sem] theorem bytesOf_172 : Tryz.prog.bytesOf 172 = 8 := by kernel_rfl
@[go_sem] theorem sliceT_172 : sliceT Tryz.prog 172 = none := by kernel_rfl
@[go_sem] theorem arrT_172 : arrT Tryz.prog 172 = none := by kernel_rfl
@[go_sem] theorem aggT_172 : aggT Tryz.prog 172 = some false := by kernel_rfl
@[go_sem] theorem intT_172 : intT Tryz.prog 172 = some .u64 := by kernel_rfl
@[go_sem] theorem isBoolT_172 : isBoolT Tryz.prog 172 = false := by kernel_rfl
@[go_sem] theorem infoT_172 : (Tryz.prog.info? 172).isSome = true := by kernel_rfl
@[go_sem] theorem plainIface_172 : plainIface Tryz.prog 172 = true := by kernel_rfl
@[go_sem] theorem undT_172 : Tryz.prog.underlying 172 = some (.int .u64) := by kernel_rfl
@[go_sem] theorem eqShape_172 : eqShape Tryz.prog 172 = some .int := by kernel_rfl
@[go_sem] theorem zeroT_172 : zeroT Tryz.prog 172 = some [.d (.int .u64 0)] := by kernel_rfl
@[go_sem] theorem zeroV_172 : zeroV Tryz.prog 172 = some (.d (.int .u64 0)) := by kernel_rfl
@[go_sem] theorem zeroD_172 : zeroD Tryz.prog 172 = some (.int .u64 0) := by kernel_rfl
@[go_sem] theorem fieldT_24_0 : fieldT Tryz.prog 24 0 = some 0 := by kernel_rfl
@[go_sem] theorem fieldT_24_1 : fieldT Tryz.prog 24 1 = some 1 := by kernel_rfl
@[go_sem] theorem fieldT_28_0 : fieldT Tryz.prog 28 0 = some 0 := by kernel_rfl
@[go_sem] theorem fieldT_28_1 : fieldT Tryz.prog 28 1 = some 1 := by kernel_rfl
@[go_sem] theorem fieldT_28_2 : fieldT Tryz.prog 28 2 = some 2 := by kernel_rfl
@[go_sem] theorem fieldT_52_0 : fieldT Tryz.prog 52 0 = some 0 := by kernel_rfl
@[go_sem] theorem fieldT_52_1 : fieldT Tryz.prog 52 1 = some 1 := by kernel_rfl
@[go_sem] theorem fieldT_98_0 : fieldT Tryz.prog 98 0 = some 0 := by kernel_rfl
@[go_sem] theorem fieldT_98_1 : fieldT Tryz.prog 98 1 = some 1 := by kernel_rfl
@[go_sem] theorem fieldT_98_2 : fieldT Tryz.prog 98 2 = some 2 := by kernel_rfl
@[go_sem] theorem fieldT_103_0 : fieldT Tryz.prog 103 0 = some 0 := by kernel_rfl
@[go_sem] theorem fieldT_103_1 : fieldT Tryz.prog 103 1 = some 1 := by kernel_rfl
@[go_sem] theorem fieldT_123_0 : fieldT Tryz.prog 123 0 = some 0 := by kernel_rfl
@[go_sem] theorem fieldT_132_0 : fieldT Tryz.prog 132 0 = some 0 := by kernel_rfl
@[go_sem] theorem fieldT_132_1 : fieldT Tryz.prog 132 1 = some 1 := by kernel_rfl
@[go_sem] theorem fieldT_132_2 : fieldT Tryz.prog 132 2 = some 2 := by kernel_rfl
@[go_sem] theorem fieldT_147_0 : fieldT Tryz.prog 147 0 = some 0 := by kernel_rfl
@[go_sem] theorem fieldT_147_1 : fieldT Tryz.prog 147 1 = some 1 := by kernel_rfl
@[go_sem] theorem fieldT_149_0 : fieldT Tryz.prog 149 0 = some 0 := by kernel_rfl
@[go_sem] theorem fieldT_149_1 : fieldT Tryz.prog 149 1 = some 1 := by kernel_rfl
end Go.Proofs.YtealblliddhgiaaGreat
