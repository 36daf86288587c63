/-
One piece of the run of awake, reckoned by the kernel between two printed states (no condition).
-/
import Derived.Test.YtndlfijfjglkdaaGreatDoorKa
namespace Go.Proofs.YtndlfijfjglkdaaGreatDoor
open Go Go.Ab Go.Proofs
theorem pc20 : cutOk ((ev Tryz.prog orc 100000).code none (cAt (bodyOf Tryz.f18) 20) st20) .normal st21 = true := by kernel_rfl
end Go.Proofs.YtndlfijfjglkdaaGreatDoor

namespace Go.Proofs.YtndlfijfjglkdaaGreatDoor
open Go Go.Ab Go.Proofs
theorem pc21 : cutOk ((ev Tryz.prog orc 100000).code none (cAt (bodyOf Tryz.f18) 21) st21) .normal st22 = true := by kernel_rfl
end Go.Proofs.YtndlfijfjglkdaaGreatDoor
