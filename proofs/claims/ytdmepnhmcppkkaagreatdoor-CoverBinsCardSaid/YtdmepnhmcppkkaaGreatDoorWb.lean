/-
One piece of the run of awake, reckoned by the kernel between two printed states (no condition).
-/
import Derived.Test.YtdmepnhmcppkkaaGreatDoorKa
namespace Go.Proofs.YtdmepnhmcppkkaaGreatDoor
open Go Go.Ab Go.Proofs
theorem pc3 : cutOk ((ev Tryz.prog orc 100000).code none (cAt (bodyOf Tryz.f18) 3) st3) .normal st4 = true := by kernel_rfl
theorem pc4 : cutOk ((ev Tryz.prog orc 100000).code none (cAt (bodyOf Tryz.f18) 4) st4) .normal st5 = true := by kernel_rfl
theorem pc5 : cutOk ((ev Tryz.prog orc 100000).code none (cAt (bodyOf Tryz.f18) 5) st5) .normal st6 = true := by kernel_rfl
end Go.Proofs.YtdmepnhmcppkkaaGreatDoor
