/-
One piece of the run of awake, reckoned by the kernel between two printed states (no condition).
-/
import Derived.Test.YtndlfijfjglkdaaGreatDoorKa
namespace Go.Proofs.YtndlfijfjglkdaaGreatDoor
open Go Go.Ab Go.Proofs
theorem pc2 : cutOk ((ev Tryz.prog orc 100000).code none (cAt (bodyOf Tryz.f18) 2) st2) .normal st3 = true := by kernel_rfl
end Go.Proofs.YtndlfijfjglkdaaGreatDoor

namespace Go.Proofs.YtndlfijfjglkdaaGreatDoor
open Go Go.Ab Go.Proofs
theorem pc3 : cutOk ((ev Tryz.prog orc 100000).code none (cAt (bodyOf Tryz.f18) 3) st3) .normal st4 = true := by kernel_rfl
end Go.Proofs.YtndlfijfjglkdaaGreatDoor
