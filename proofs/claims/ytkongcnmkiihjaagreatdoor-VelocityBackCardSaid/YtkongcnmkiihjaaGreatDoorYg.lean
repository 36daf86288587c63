/-
The walks of moments that are given and of layers, by the program and by the reference: both return the same (each a contract: no condition but those in its statement).
-/
import Derived.Test.YtkongcnmkiihjaaGreatDoorYf
import Derived.Test.YtkongcnmkiihjaaGreatDoorAi
namespace Go.Proofs.YtkongcnmkiihjaaGreatDoor
open Go Go.Ab Go.Proofs
end Go.Proofs.YtkongcnmkiihjaaGreatDoor

namespace Go.Proofs.YtkongcnmkiihjaaGreatDoor
open Go Go.Ab Go.Proofs
end Go.Proofs.YtkongcnmkiihjaaGreatDoor

namespace Go.Ab
open Go
/-- what is left behind a piece, known by less; else as it was -/
def cutK (P : Program) (n0 : Nat) (S0 : St) (K : Ex → St → Prop) : Ex → St → Prop
  | .normal, st => Leads P n0 st S0
  | e, st => K e st
theorem E.cut {P : Program} {n0 : Nat} {ro : Option Nat} {st : St} {K : Ex → St → Prop} {a b : Code} (S0 : St) (ha : E P n0 ro a st (cutK P n0 S0 K)) (hb : E P n0 ro b S0 K) : E P n0 ro (.seq a b) st K :=
  E.seq (ha.mono fun e st' h => by
    cases e with
    | normal => exact E.lead S0 h hb
    | _ => exact h)
end Go.Ab
namespace Go.Proofs.YtkongcnmkiihjaaGreatDoor
open Go Go.Ab Go.Proofs
instance (l : List Pk) : Decidable (PksOk l) := by unfold PksOk; infer_instance
end Go.Proofs.YtkongcnmkiihjaaGreatDoor

namespace Go.Proofs.YtkongcnmkiihjaaGreatDoor
open Go Go.Ab Go.Proofs
def gcdI (a b : Int) : Int := (Nat.gcd a.natAbs b.natAbs : Nat)
def ratB (a b : Int) : Prop := (-4611686018427387904 ≤ a ∧ a ≤ 4611686018427387904) ∧ (1 ≤ b ∧ b ≤ 4611686018427387904)
instance (a b : Int) : Decidable (ratB a b) := by unfold ratB; infer_instance
end Go.Proofs.YtkongcnmkiihjaaGreatDoor

namespace Go.Proofs.YtkongcnmkiihjaaGreatDoor
open Go Go.Ab Go.Proofs
attribute [simp] run_vcall_tmp vcallF target
end Go.Proofs.YtkongcnmkiihjaaGreatDoor

namespace Go.Proofs.YtkongcnmkiihjaaGreatDoor
open Go Go.Ab Go.Proofs
/-- ratios, as they lie -/
def rcs (l : List (Int × Int)) : List Value := l.flatMap fun p => [iv p.1, iv p.2]
@[simp] theorem rcs_length (l : List (Int × Int)) : (rcs l).length = l.length * 2 := by
  induction l with
  | nil => rfl
  | cons a l ih => simp [rcs] at ih ⊢; omega
theorem afL_rcs (l : List (Int × Int)) : afL (rcs l) = true := by
  induction l with
  | nil => rfl
  | cons a l ih => simp [rcs, afL] at ih ⊢; exact ih
@[simp] theorem renL_rcs (ρ : Nat → Nat) (l : List (Int × Int)) : renL ρ (rcs l) = rcs l := by
  rw [renL_eq]
  induction l with
  | nil => rfl
  | cons a l ih =>
    show ([iv a.1, iv a.2] ++ rcs l).map (ren ρ) = [iv a.1, iv a.2] ++ rcs l
    rw [List.map_append, ih]; rfl
@[simp] theorem scL_rcs (p : Nat → Prop) (l : List (Int × Int)) : scL p (rcs l) := scL_af p _ (afL_rcs l)
def ratP (a b : Int) : Int × Int := (a.tdiv (gcdI a b), b.tdiv (gcdI a b))
def layP (l : List Pk) (ms : List Int) (i : Nat) : Int × Int := ratP (aA ms (i + 1) - aA ms i) ((pkA l (i + 1)).t - (pkA l i).t)
def layL (l : List Pk) (ms : List Int) : List (Int × Int) := (List.range l.length).map (layP l ms)
@[simp] theorem layL_length (l : List Pk) (ms : List Int) : (layL l ms).length = l.length := by simp [layL]
def layT (l : List Pk) (ms : List Int) (i : Nat) : List (Int × Int) := (List.range i).map (layP l ms)
@[simp] theorem layT_length (l : List Pk) (ms : List Int) (i : Nat) : (layT l ms i).length = i := by simp [layT]
end Go.Proofs.YtkongcnmkiihjaaGreatDoor

namespace Go.Proofs.YtkongcnmkiihjaaGreatDoor
open Go Go.Ab Go.Proofs
end Go.Proofs.YtkongcnmkiihjaaGreatDoor

namespace Go.Proofs.YtkongcnmkiihjaaGreatDoor
open Go Go.Ab Go.Proofs
end Go.Proofs.YtkongcnmkiihjaaGreatDoor

namespace Go.Proofs.YtkongcnmkiihjaaGreatDoor
open Go Go.Ab Go.Proofs
end Go.Proofs.YtkongcnmkiihjaaGreatDoor

namespace Go.Proofs.YtkongcnmkiihjaaGreatDoor
open Go Go.Ab Go.Proofs
def shortK (k : Nat) : Bool := decide (k ≤ 8) || decide (k = 65)
theorem w44 (k o c : Nat) : AC Tryz.prog 44 [.slice (some ⟨9, o, none⟩) k c] [(9, .inp o [])] 10 (.bool (shortK k)) [(9, .inp o [])] 10 := by
  have hr := recT_ok (P := Tryz.prog) (l := []) (by simp)
  refine AC.pure Tryz.func44 rfl (by kernel_rfl) rfl [] rfl ?_
  refine E.seq ?_
  refine E.reg hr (by simp; rfl) ?_
  refine E.seq ?_
  by_cases h : k ≤ 8
  · have h' : (k : Int) ≤ 8 := by omega
    refine E.reg hr (by simp [yieldedA, h']; rfl) ?_
    refine E.ret ?_
    exact pureK.ret rfl rfl (by simp [shortK, h]) (by repeat first | exact sub_refl _ | refine sub_cons rfl ?_)
  · have h' : ¬ (k : Int) ≤ 8 := by omega
    refine E.reg hr (by simp [yieldedA, h']; rfl) ?_
    refine E.ret ?_
    refine pureK.ret rfl rfl ?_ (by repeat first | exact sub_refl _ | refine sub_cons rfl ?_)
    have : ((k : Int) = 65) = (k = 65) := by rw [eq_iff_iff]; omega
    simp [shortK, h, this]
theorem w44n : AC Tryz.prog 44 [.slice none 0 0] [] 9 (.bool true) [] 9 := by
  have hr := recT_ok (P := Tryz.prog) (l := []) (by simp)
  refine AC.pure Tryz.func44 rfl (by kernel_rfl) rfl [] rfl ?_
  refine E.seq ?_
  refine E.reg hr (by simp; rfl) ?_
  refine E.seq ?_
  refine E.reg hr (by simp [yieldedA]; rfl) ?_
  refine E.ret ?_
  exact pureK.ret rfl rfl (by simp) (by repeat first | exact sub_refl _ | refine sub_cons rfl ?_)
def g44 (args : List Value) (H : Heap) (n : Nat) : R := match args with
  | [.slice none 0 0] => some (.bool true, H, n)
  | [.slice (some a) len _] => match flat a, cellsA H a.block a.off 0 with
    | true, some [] => some (.bool (shortK len), H, n)
    | _, _ => none
  | _ => none
theorem ok44 : EntOk Tryz.prog (44, g44) := by
  intro args H n v H' n' h
  simp only [g44] at h
  split at h
  · injection h with h; injection h with e1 e2; injection e2 with e2 e3; subst e1 e2 e3
    exact AC.liftP rfl (Part.plain (by simp) [] (by simp [Seen]) gsz ⟨_, _, w44n⟩)
  · split at h
    · rename_i hf hc
      injection h with h; injection h with e1 e2; injection e2 with e2 e3; subst e1 e2 e3
      exact AC.liftP rfl (Part.one (fun s => [s]) (by intro φ φ0 s s0 h; simp [denL, h]) (by intro p s h; exact ⟨h, trivial⟩) hf hc rfl [] (by simp [Seen]) gsz fun c => ⟨_, _, w44 _ _ c⟩)
    · cases h
  · cases h
end Go.Proofs.YtkongcnmkiihjaaGreatDoor

namespace Go.Proofs.YtkongcnmkiihjaaGreatDoor
open Go Go.Ab Go.Proofs
section
variable {P : Program}
theorem runP_bind {α β : Type} {P : Program} (a : Sem α) (g : α → Sem β) : runP P (Sem.bind a g) = (runP P a).bind fun x => runP P (g x) := by
  induction a with
  | program k ih => exact ih P
  | mark m k ih => exact ih
  | _ => rfl
theorem runP_bind' {α β : Type} (a : Sem α) (g : α → Sem β) : runP P (a >>= g) = (runP P a).bind fun x => runP P (g x) := runP_bind a g
theorem runP_pure {α : Type} (a : α) : runP P (pure a : Sem α) = some a := rfl
theorem runP_program : runP P program = some P := rfl
theorem runP_und' {t : TypeId} {d : TypeDesc} (h : P.underlying t = some d) : runP P (underlying t) = some d := by
  show runP P (match P.underlying t with | some d => _ | none => _) = _
  rw [h]
  rfl
theorem runP_ite {α : Type} {c : Prop} [Decidable c] (a b : Sem α) : runP P (if c then a else b) = if c then runP P a else runP P b := by
  split <;> rfl
theorem runP_eqStruct (d : Nat) {t : TypeId} {fs : Array Field} (xs ys : Array Value) (ht : P.underlying t = some (.struct fs)) (hp : P.stoodInHeld t = false)
    (h : ∀ f ∈ fs.toList, ∃ a b, runP P (part f.type xs f.offset) = some a ∧ runP P (part f.type ys f.offset) = some b ∧ runP P (Op.equalIn d f.type a b) = some true) : runP P (Op.equalIn (d + 1) t (.agg xs) (.agg ys)) = some true := by
  simp only [Op.equalIn, runP_bind', runP_und' ht, Option.bind_some, runP_program, hp, Bool.false_eq_true, if_false]
  rw [← Array.forIn_toList]
  generalize fs.toList = fl at h
  induction fl with
  | nil => rfl
  | cons f fl ih =>
    obtain ⟨a, b, h1, h2, h3⟩ := h f (List.mem_cons_self ..)
    have ih := ih fun f hf => h f (List.mem_cons_of_mem _ hf)
    simp only [List.forIn_cons, runP_bind', runP_ite]
    split
    · simp only [h1, h2, h3, Option.bind_some, Bool.not_true, Bool.false_eq_true, if_false, runP_pure]
      exact ih
    · simp only [runP_pure, Option.bind_some]
      exact ih
theorem runP_eqInt (d : Nat) {t : TypeId} {k k' : IntKind} (n : Int) (h : P.underlying t = some (.int k')) : runP P (Op.equalIn (d + 1) t (.int k n) (.int k n)) = some true := by
  simp only [Op.equalIn, runP_bind', runP_und' h, Option.bind_some, if_true, runP_pure, beq_self_eq_true]
end
end Go.Proofs.YtkongcnmkiihjaaGreatDoor
