/-
One piece of the run of awake, reckoned by the kernel between two printed states (no condition).
-/
import Derived.Test.YtdmepnhmcppkkaaGreatDoorKa
namespace Go.Proofs.YtdmepnhmcppkkaaGreatDoor
open Go Go.Ab Go.Proofs
theorem pc6 : cutOk ((ev Tryz.prog orc 100000).code none (cAt (bodyOf Tryz.f18) 6) st6) .normal st7 = true := by kernel_rfl
theorem pc7 : cutOk ((ev Tryz.prog orc 100000).code none (cAt (bodyOf Tryz.f18) 7) st7) .normal st8 = true := by kernel_rfl
theorem pc8 : cutOk ((ev Tryz.prog orc 100000).code none (cAt (bodyOf Tryz.f18) 8) st8) .normal st9 = true := by kernel_rfl
end Go.Proofs.YtdmepnhmcppkkaaGreatDoor
