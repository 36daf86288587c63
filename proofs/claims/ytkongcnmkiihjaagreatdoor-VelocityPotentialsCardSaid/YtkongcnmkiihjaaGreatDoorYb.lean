/-
The contract of awake as an entry of a table (where the two laid tables lie).
-/
import Derived.Test.YtkongcnmkiihjaaGreatDoorYa
import Derived.Test.YtkongcnmkiihjaaGreatDoorFa
namespace Go.Proofs.YtkongcnmkiihjaaGreatDoor
open Go Go.Ab Go.Proofs
open Classical in
noncomputable def g15 (args : List Value) (H : Heap) (n : Nat) : R := if args = [] ∧ hget H 1 = some (.inp 0 rangesV) ∧ hget H 0 = some (.inp 0 freeV) then some (.bool true, H, n) else none
theorem ok15 : EntOk Tryz.prog (15, g15) := by
  intro args H n v H' n' h
  simp only [g15] at h
  split at h
  · rename_i hc
    obtain ⟨rfl, h1, h0⟩ := hc
    injection h with h; injection h with e1 e2; injection e2 with e2 e3; subst e1 e2 e3
    refine AC.liftP rfl (Part.plain rfl G0 ?_ gsz ⟨_, _, st0H ▸ awakeAC⟩)
    intro x hx
    rw [gsz]
    simp at hx
    rcases hx with rfl | rfl
    · exact ⟨by simp, h1, rfl, scL_af _ _ af_rangesV⟩
    · exact ⟨by simp, h0, rfl, scL_af _ _ af_freeV⟩
  · cases h
end Go.Proofs.YtkongcnmkiihjaaGreatDoor
