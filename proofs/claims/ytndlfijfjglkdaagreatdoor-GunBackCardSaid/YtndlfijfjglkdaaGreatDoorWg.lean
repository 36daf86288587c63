/-
One piece of the run of awake, reckoned by the kernel between two printed states (no condition).
-/
import Derived.Test.YtndlfijfjglkdaaGreatDoorKa
namespace Go.Proofs.YtndlfijfjglkdaaGreatDoor
open Go Go.Ab Go.Proofs
theorem pc12 : cutOk ((ev Tryz.prog orc 100000).code none (cAt (bodyOf Tryz.f18) 12) st12) .normal st13 = true := by kernel_rfl
end Go.Proofs.YtndlfijfjglkdaaGreatDoor

namespace Go.Proofs.YtndlfijfjglkdaaGreatDoor
open Go Go.Ab Go.Proofs
theorem pc13 : cutOk ((ev Tryz.prog orc 100000).code none (cAt (bodyOf Tryz.f18) 13) st13) .normal st14 = true := by kernel_rfl
end Go.Proofs.YtndlfijfjglkdaaGreatDoor
