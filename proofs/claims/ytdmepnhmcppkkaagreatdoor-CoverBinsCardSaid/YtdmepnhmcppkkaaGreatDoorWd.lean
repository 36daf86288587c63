/-
One piece of the run of awake, reckoned by the kernel between two printed states (no condition).
-/
import Derived.Test.YtdmepnhmcppkkaaGreatDoorKa
namespace Go.Proofs.YtdmepnhmcppkkaaGreatDoor
open Go Go.Ab Go.Proofs
theorem pc9 : cutOk ((ev Tryz.prog orc 100000).code none (cAt (bodyOf Tryz.f18) 9) st9) .normal st10 = true := by kernel_rfl
theorem pc10 : cutOk ((ev Tryz.prog orc 100000).code none (cAt (bodyOf Tryz.f18) 10) st10) .normal st11 = true := by kernel_rfl
theorem pc11 : cutOk ((ev Tryz.prog orc 100000).code none (cAt (bodyOf Tryz.f18) 11) st11) .normal st12 = true := by kernel_rfl
end Go.Proofs.YtdmepnhmcppkkaaGreatDoor
