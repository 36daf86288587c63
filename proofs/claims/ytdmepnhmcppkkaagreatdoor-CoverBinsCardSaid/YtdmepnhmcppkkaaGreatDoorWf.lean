/-
One piece of the run of awake, reckoned by the kernel between two printed states (no condition).
-/
import Derived.Test.YtdmepnhmcppkkaaGreatDoorKa
namespace Go.Proofs.YtdmepnhmcppkkaaGreatDoor
open Go Go.Ab Go.Proofs
theorem pc15 : cutOk ((ev Tryz.prog orc 100000).code none (cAt (bodyOf Tryz.f18) 15) st15) .normal st16 = true := by kernel_rfl
theorem pc16 : cutOk ((ev Tryz.prog orc 100000).code none (cAt (bodyOf Tryz.f18) 16) st16) .normal st17 = true := by kernel_rfl
theorem pc17 : cutOk ((ev Tryz.prog orc 100000).code none (cAt (bodyOf Tryz.f18) 17) st17) .normal st18 = true := by kernel_rfl
end Go.Proofs.YtdmepnhmcppkkaaGreatDoor
