/-
One piece of the run of awake, reckoned by the kernel between two printed states (no condition).
-/
import Derived.Test.YtkongcnmkiihjaaGreatDoorKa
namespace Go.Proofs.YtkongcnmkiihjaaGreatDoor
open Go Go.Ab Go.Proofs
theorem pc6:cutOk ((ev Tryz.prog orc 100000).code none (cAt (bodyOf Tryz.f15) 6) st6) .normal st7=true:=by kernel_rfl
theorem pc7:cutOk ((ev Tryz.prog orc 100000).code none (cAt (bodyOf Tryz.f15) 7) st7) .normal st8=true:=by kernel_rfl
theorem pc8:cutOk ((ev Tryz.prog orc 100000).code none (cAt (bodyOf Tryz.f15) 8) st8) .normal st9=true:=by kernel_rfl
end Go.Proofs.YtkongcnmkiihjaaGreatDoor
