/-
The plain reckoning behind the law GunMoves: what a string that is moved, mirrored, later or flat sounds like, and its centre (each under the conditions in its statement).
-/
import Derived.Test.YtndlfijfjglkdaaGreatDoorGp
namespace Go.Proofs.YtndlfijfjglkdaaGreatDoor
open Go Go.Ab Go.Proofs
end Go.Proofs.YtndlfijfjglkdaaGreatDoor

namespace Go.Proofs.YtndlfijfjglkdaaGreatDoor
open Go Go.Ab Go.Proofs
end Go.Proofs.YtndlfijfjglkdaaGreatDoor
