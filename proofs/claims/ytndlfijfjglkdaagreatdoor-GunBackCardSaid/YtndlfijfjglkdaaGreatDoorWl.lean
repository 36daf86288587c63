/-
One piece of the run of awake, reckoned by the kernel between two printed states (no condition).
-/
import Derived.Test.YtndlfijfjglkdaaGreatDoorKa
namespace Go.Proofs.YtndlfijfjglkdaaGreatDoor
open Go Go.Ab Go.Proofs
theorem pc22 : cutOk ((ev Tryz.prog orc 100000).code none (cAt (bodyOf Tryz.f18) 22) st22) .ret st23 = true := by kernel_rfl
end Go.Proofs.YtndlfijfjglkdaaGreatDoor
