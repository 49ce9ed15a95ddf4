/-
  'works()' OF LAYER 15 ANSWERS true, by carrying it out. Conditions: none.
-/
import Derived.Test.YtaafchgfibbmhaaTab
namespace Go.Proofs.Ytaafchgfibbmhaa
open Go
/-- The functions that are called as data to data: all but those whose answers their callers append to. -/
def dat : Nat → Bool := fun g => !([37, 40, 41, 107] : List Nat).contains g
def cfg0 : Cfg Try.prog := Cfg.of dat [] (fun _ h => by cases h)
theorem works_run : runD Try.prog tab cfg0 5000 13 [] = some (.ret [.bool true]) := by kernel_rfl
theorem works : PCt Try.prog 13 [] (.ret [.bool true]) := PCt.of_run mix tab_ok works_run
end Go.Proofs.Ytaafchgfibbmhaa
