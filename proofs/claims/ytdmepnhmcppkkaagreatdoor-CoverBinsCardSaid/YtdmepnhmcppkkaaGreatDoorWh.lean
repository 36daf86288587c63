/-
One piece of the run of awake, reckoned by the kernel between two printed states (no condition).
-/
import Derived.Test.YtdmepnhmcppkkaaGreatDoorKa
namespace Go.Proofs.YtdmepnhmcppkkaaGreatDoor
open Go Go.Ab Go.Proofs
theorem pc21 : cutOk ((ev Tryz.prog orc 100000).code none (cAt (bodyOf Tryz.f18) 21) st21) .normal st22 = true := by kernel_rfl
theorem pc22 : cutOk ((ev Tryz.prog orc 100000).code none (cAt (bodyOf Tryz.f18) 22) st22) .normal st23 = true := by kernel_rfl
theorem pc23 : cutOk ((ev Tryz.prog orc 100000).code none (cAt (bodyOf Tryz.f18) 23) st23) .ret st24 = true := by kernel_rfl
end Go.Proofs.YtdmepnhmcppkkaaGreatDoor
