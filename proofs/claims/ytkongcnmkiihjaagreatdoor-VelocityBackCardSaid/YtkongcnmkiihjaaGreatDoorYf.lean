/-
The walks of the least moments, by the program and by the reference; and the plain law that moments raised until nothing is too small are the least ones (each under the conditions in its statement).
-/
import Derived.Test.YtkongcnmkiihjaaGreatDoorYe
namespace Go.Proofs.YtkongcnmkiihjaaGreatDoor
open Go Go.Ab Go.Proofs
/-- a list of integers, as it lies -/
def ic (l : List Int) : List Value := l.map iv
@[simp] theorem ic_length (l : List Int) : (ic l).length = l.length := by simp [ic]
@[simp] theorem ic_get {l : List Int} {i : Nat} (h : i < (ic l).length) : (ic l)[i] = iv (l[i]'(by simpa using h)) := by simp [ic]
@[simp] theorem renL_ic (ρ : Nat → Nat) (l : List Int) : renL ρ (ic l) = ic l := by
  rw [renL_eq, ic, List.map_map]; rfl
@[simp] theorem scL_ic (p : Nat → Prop) (l : List Int) : scL p (ic l) := scL_af p _ (afL_iv l)
def mtrm (l : List Pk) (lo hi : Int) (j k : Nat) : Int := if k ≤ j then (pkA l k).low + lo * ((pkA l (j + 1)).t - (pkA l k).t) else (pkA l k).low - hi * ((pkA l k).t - (pkA l (j + 1)).t)
def mfold (l : List Pk) (lo hi : Int) (j : Nat) : Nat → Int
  | 0 => (pkA l (j + 1)).low
  | k + 1 => max (mfold l lo hi j k) (mtrm l lo hi j k)
def momV (l : List Pk) (lo hi : Int) (j : Nat) : Int := mfold l lo hi j (l.length + 1)
def momL (l : List Pk) (lo hi : Int) : List Int := (List.range l.length).map (momV l lo hi)
end Go.Proofs.YtkongcnmkiihjaaGreatDoor

namespace Go.Proofs.YtkongcnmkiihjaaGreatDoor
open Go Go.Ab Go.Proofs
@[simp] theorem momL_length (l : List Pk) (lo hi : Int) : (momL l lo hi).length = l.length := by simp [momL]
end Go.Proofs.YtkongcnmkiihjaaGreatDoor

namespace Go.Proofs.YtkongcnmkiihjaaGreatDoor
open Go Go.Ab Go.Proofs
theorem le_mfold_base (l : List Pk) (lo hi : Int) (j : Nat) : ∀ m, (pkA l (j + 1)).low ≤ mfold l lo hi j m
  | 0 => Int.le_refl _
  | m + 1 => by
    have := le_mfold_base l lo hi j m
    simp only [mfold]
    omega
theorem low_le_mom (l : List Pk) (lo hi : Int) (j : Nat) : (pkA l (j + 1)).low ≤ momV l lo hi j := le_mfold_base ..
/-- what moments are so far; ahead of the first one the start -/
def aA (os : List Int) : Nat → Int
  | 0 => 0
  | j + 1 => os.getD j 0
theorem aA_get {os : List Int} {j : Nat} (h : j < os.length) : aA os (j + 1) = os[j] := by simp [aA, List.getD_eq_getElem?_getD, List.getElem?_eq_getElem h]
structure Inv (l : List Pk) (lo hi : Int) (os : List Int) : Prop where
  len : os.length = l.length
  low : ∀ i, i < l.length → (pkA l (i + 1)).low ≤ aA os (i + 1)
  top : ∀ i, i < l.length → aA os (i + 1) ≤ momV l lo hi i
theorem aA_set {os : List Int} {i : Nat} (h : i < os.length) (v : Int) (k : Nat) : aA (os.set i v) (k + 1) = if k = i then v else aA os (k + 1) := by
  simp only [aA, List.getD_eq_getElem?_getD]
  by_cases hk : k = i
  · subst hk; simp [h]
  · rw [List.getElem?_set_ne (by omega), if_neg hk]
theorem Inv.set {l : List Pk} {lo hi : Int} {os : List Int} (h : Inv l lo hi os) {i : Nat} (hi1 : i < l.length) {v : Int} (h1 : aA os (i + 1) ≤ v) (h2 : v ≤ momV l lo hi i) : Inv l lo hi (os.set i v) := by
  have hl := h.len
  refine ⟨by simpa using hl, fun k hk => ?_, fun k hk => ?_⟩
  · rw [aA_set (by omega)]
    split
    · rename_i e; subst e; exact Int.le_trans (h.low k hk) h1
    · exact h.low k hk
  · rw [aA_set (by omega)]
    split
    · rename_i e; subst e; exact h2
    · exact h.top k hk
def lowL (l : List Pk) : List Int := l.map Pk.low
theorem Inv.init (l : List Pk) (lo hi : Int) : Inv l lo hi (lowL l) := by
  have key : ∀ i, i < l.length → aA (lowL l) (i + 1) = (pkA l (i + 1)).low := fun i hi => by
    rw [aA_get (by simpa [lowL] using hi), pkA_succ hi]
    simp [lowL]
  exact ⟨by simp [lowL], fun i hi => by rw [key i hi]; exact Int.le_refl _, fun i hi => by rw [key i hi]; exact low_le_mom ..⟩
end Go.Proofs.YtkongcnmkiihjaaGreatDoor

namespace Go.Proofs.YtkongcnmkiihjaaGreatDoor
open Go Go.Ab Go.Proofs
end Go.Proofs.YtkongcnmkiihjaaGreatDoor

namespace Go.Proofs.YtkongcnmkiihjaaGreatDoor
open Go Go.Ab Go.Proofs
end Go.Proofs.YtkongcnmkiihjaaGreatDoor
