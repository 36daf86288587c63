/-
One piece of the run of awake, reckoned by the kernel between two printed states (no condition).
-/
import Derived.Test.YtdmepnhmcppkkaaGreatDoorKa
namespace Go.Proofs.YtdmepnhmcppkkaaGreatDoor
open Go Go.Ab Go.Proofs
theorem pc18 : cutOk ((ev Tryz.prog orc 100000).code none (cAt (bodyOf Tryz.f18) 18) st18) .normal st19 = true := by kernel_rfl
theorem pc19 : cutOk ((ev Tryz.prog orc 100000).code none (cAt (bodyOf Tryz.f18) 19) st19) .normal st20 = true := by kernel_rfl
theorem pc20 : cutOk ((ev Tryz.prog orc 100000).code none (cAt (bodyOf Tryz.f18) 20) st20) .normal st21 = true := by kernel_rfl
end Go.Proofs.YtdmepnhmcppkkaaGreatDoor
