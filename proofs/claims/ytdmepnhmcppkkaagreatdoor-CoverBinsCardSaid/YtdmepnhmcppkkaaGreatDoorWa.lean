/-
One piece of the run of awake, reckoned by the kernel between two printed states (no condition).
-/
import Derived.Test.YtdmepnhmcppkkaaGreatDoorKa
namespace Go.Proofs.YtdmepnhmcppkkaaGreatDoor
open Go Go.Ab Go.Proofs
theorem pc0 : cutOk ((ev Tryz.prog orc 100000).code none (cAt (bodyOf Tryz.f18) 0) st0) .normal st1 = true := by kernel_rfl
theorem pc1 : cutOk ((ev Tryz.prog orc 100000).code none (cAt (bodyOf Tryz.f18) 1) st1) .normal st2 = true := by kernel_rfl
theorem pc2 : cutOk ((ev Tryz.prog orc 100000).code none (cAt (bodyOf Tryz.f18) 2) st2) .normal st3 = true := by kernel_rfl
end Go.Proofs.YtdmepnhmcppkkaaGreatDoor
