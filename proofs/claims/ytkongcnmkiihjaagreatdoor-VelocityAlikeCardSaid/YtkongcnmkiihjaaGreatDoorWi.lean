/-
One piece of the run of awake, reckoned by the kernel between two printed states (no condition).
-/
import Derived.Test.YtkongcnmkiihjaaGreatDoorKa
namespace Go.Proofs.YtkongcnmkiihjaaGreatDoor
open Go Go.Ab Go.Proofs
theorem pc24:cutOk ((ev Tryz.prog orc 100000).code none (cAt (bodyOf Tryz.f15) 24) st24) .normal st25=true:=by kernel_rfl
theorem pc25:cutOk ((ev Tryz.prog orc 100000).code none (cAt (bodyOf Tryz.f15) 25) st25) .normal st26=true:=by kernel_rfl
theorem pc26:cutOk ((ev Tryz.prog orc 100000).code none (cAt (bodyOf Tryz.f15) 26) st26) .ret st27=true:=by kernel_rfl
end Go.Proofs.YtkongcnmkiihjaaGreatDoor
