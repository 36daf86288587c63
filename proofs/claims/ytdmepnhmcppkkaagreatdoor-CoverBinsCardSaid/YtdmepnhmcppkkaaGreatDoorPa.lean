/-
Closed facts of the seat's program that its rows ask for.
-/
import Derived.Test.YtdmepnhmcppkkaaGreatDoorRows
import Derived.JoinedOf
import Derived.KernelRfl
/-
The closed facts of the seat, those of the program alone.
-/
namespace Go.Proofs.YtdmepnhmcppkkaaGreatDoor
open Go
theorem jfp1 : laidOutB Tryz.prog = true := by kernel_rfl
theorem jfp2 : mapsRowed Tryz.prog = true := by kernel_rfl
theorem jfp6 : (Tryz.prog.stops == []) = true := by kernel_rfl
theorem jfp8 : (Tryz.prog.stopKnobs == []) = true := by kernel_rfl
theorem jfp22 : (Rows.coverBinsRow.plainKeys == Tryz.prog.plainKeys) = true := by kernel_rfl
theorem jfp24 : Tryz.prog.stopsHeard = true := by kernel_rfl
theorem jfp25 : Tryz.prog.mayEnter = true := by kernel_rfl
theorem jfp26 : (Rows.coverBinsRow.lifted == Tryz.prog.liftsFinal) = true := by kernel_rfl
theorem jfp27 : (Tryz.prog.make == some Rows.coverBinsRow.make) = true := by kernel_rfl
theorem and2 {a b : Bool} (ha : a = true) (hb : b = true) : (a && b) = true := by rw [ha, hb]; rfl
end Go.Proofs.YtdmepnhmcppkkaaGreatDoor
