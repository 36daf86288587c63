/-
One piece of the run of awake, reckoned by the kernel between two printed states (no condition).
-/
import Derived.Test.YtdmepnhmcppkkaaGreatDoorKa
namespace Go.Proofs.YtdmepnhmcppkkaaGreatDoor
open Go Go.Ab Go.Proofs
theorem pc12 : cutOk ((ev Tryz.prog orc 100000).code none (cAt (bodyOf Tryz.f18) 12) st12) .normal st13 = true := by kernel_rfl
theorem pc13 : cutOk ((ev Tryz.prog orc 100000).code none (cAt (bodyOf Tryz.f18) 13) st13) .normal st14 = true := by kernel_rfl
theorem pc14 : cutOk ((ev Tryz.prog orc 100000).code none (cAt (bodyOf Tryz.f18) 14) st14) .normal st15 = true := by kernel_rfl
end Go.Proofs.YtdmepnhmcppkkaaGreatDoor
