/-
One piece of the run of awake, reckoned by the kernel between two printed states (no condition).
-/
import Derived.Test.YtndlfijfjglkdaaGreatDoorKa
namespace Go.Proofs.YtndlfijfjglkdaaGreatDoor
open Go Go.Ab Go.Proofs
theorem pc8 : cutOk ((ev Tryz.prog orc 100000).code none (cAt (bodyOf Tryz.f18) 8) st8) .normal st9 = true := by kernel_rfl
end Go.Proofs.YtndlfijfjglkdaaGreatDoor

namespace Go.Proofs.YtndlfijfjglkdaaGreatDoor
open Go Go.Ab Go.Proofs
theorem pc9 : cutOk ((ev Tryz.prog orc 100000).code none (cAt (bodyOf Tryz.f18) 9) st9) .normal st10 = true := by kernel_rfl
end Go.Proofs.YtndlfijfjglkdaaGreatDoor
