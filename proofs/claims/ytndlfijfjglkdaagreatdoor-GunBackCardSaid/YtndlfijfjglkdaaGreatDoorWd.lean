/-
One piece of the run of awake, reckoned by the kernel between two printed states (no condition).
-/
import Derived.Test.YtndlfijfjglkdaaGreatDoorKa
namespace Go.Proofs.YtndlfijfjglkdaaGreatDoor
open Go Go.Ab Go.Proofs
theorem pc6 : cutOk ((ev Tryz.prog orc 100000).code none (cAt (bodyOf Tryz.f18) 6) st6) .normal st7 = true := by kernel_rfl
end Go.Proofs.YtndlfijfjglkdaaGreatDoor

namespace Go.Proofs.YtndlfijfjglkdaaGreatDoor
open Go Go.Ab Go.Proofs
theorem pc7 : cutOk ((ev Tryz.prog orc 100000).code none (cAt (bodyOf Tryz.f18) 7) st7) .normal st8 = true := by kernel_rfl
end Go.Proofs.YtndlfijfjglkdaaGreatDoor
