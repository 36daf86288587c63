/-
One piece of the run of awake, reckoned by the kernel between two printed states (no condition).
-/
import Derived.Test.YtndlfijfjglkdaaGreatDoorKa
namespace Go.Proofs.YtndlfijfjglkdaaGreatDoor
open Go Go.Ab Go.Proofs
theorem pc14 : cutOk ((ev Tryz.prog orc 100000).code none (cAt (bodyOf Tryz.f18) 14) st14) .normal st15 = true := by kernel_rfl
end Go.Proofs.YtndlfijfjglkdaaGreatDoor

namespace Go.Proofs.YtndlfijfjglkdaaGreatDoor
open Go Go.Ab Go.Proofs
theorem pc15 : cutOk ((ev Tryz.prog orc 100000).code none (cAt (bodyOf Tryz.f18) 15) st15) .normal st16 = true := by kernel_rfl
end Go.Proofs.YtndlfijfjglkdaaGreatDoor
