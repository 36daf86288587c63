/-
The walks of the references of Misfires and Retimed, of the checks of timings, and of the comparisons (each a contract: no condition but those in its statement).
-/
import Derived.Test.YtndlfijfjglkdaaGreatDoorGe
namespace Go.Proofs.YtndlfijfjglkdaaGreatDoor
open Go Go.Ab Go.Proofs
end Go.Proofs.YtndlfijfjglkdaaGreatDoor

namespace Go.Proofs.YtndlfijfjglkdaaGreatDoor
open Go Go.Ab Go.Proofs
end Go.Proofs.YtndlfijfjglkdaaGreatDoor

namespace Go.Proofs.YtndlfijfjglkdaaGreatDoor
open Go Go.Ab Go.Proofs
theorem max33' (a b : Int) (c : Array Bool) : runP Tryz.prog (builtin .max #[3, 3] 3 c #[iv a, iv b]) = some (.value (iv (max a b))) := by
  have h : runP Tryz.prog (builtin .max #[3, 3] 3 c #[iv a, iv b]) = some (.value (.int .i64 (if b > a then b else a))) := rfl
  rw [h]
  congr 3
  split <;> omega
end Go.Proofs.YtndlfijfjglkdaaGreatDoor

namespace Go.Proofs.YtndlfijfjglkdaaGreatDoor
open Go Go.Ab Go.Proofs
end Go.Proofs.YtndlfijfjglkdaaGreatDoor

namespace Go.Proofs.YtndlfijfjglkdaaGreatDoor
open Go Go.Ab Go.Proofs
section
variable {P : Program}
theorem runP_bind' {α β : Type} (a : Sem α) (g : α → Sem β) : runP P (a >>= g) = (runP P a).bind fun x => runP P (g x) := runP_bind a g
theorem runP_pure {α : Type} (a : α) : runP P (pure a : Sem α) = some a := rfl
theorem runP_program : runP P program = some P := rfl
theorem runP_und' {t : TypeId} {d : TypeDesc} (h : P.underlying t = some d) : runP P (underlying t) = some d := by
  show runP P (match P.underlying t with | some d => _ | none => _) = _
  rw [h]
  rfl
theorem runP_ite {α : Type} {c : Prop} [Decidable c] (a b : Sem α) : runP P (if c then a else b) = if c then runP P a else runP P b := by
  split <;> rfl
theorem runP_eqStruct (d : Nat) {t : TypeId} {fs : Array Field} (xs ys : Array Value) (ht : P.underlying t = some (.struct fs)) (hp : P.stoodInHeld t = false)
    (h : ∀ f ∈ fs.toList, ∃ a b, runP P (part f.type xs f.offset) = some a ∧ runP P (part f.type ys f.offset) = some b ∧ runP P (Op.equalIn d f.type a b) = some true) : runP P (Op.equalIn (d + 1) t (.agg xs) (.agg ys)) = some true := by
  simp only [Op.equalIn, runP_bind', runP_und' ht, Option.bind_some, runP_program, hp, Bool.false_eq_true, if_false]
  rw [← Array.forIn_toList]
  generalize fs.toList = fl at h
  induction fl with
  | nil => rfl
  | cons f fl ih =>
    obtain ⟨a, b, h1, h2, h3⟩ := h f (List.mem_cons_self ..)
    have ih := ih fun f hf => h f (List.mem_cons_of_mem _ hf)
    simp only [List.forIn_cons, runP_bind', runP_ite]
    split
    · simp only [h1, h2, h3, Option.bind_some, Bool.not_true, Bool.false_eq_true, if_false, runP_pure]
      exact ih
    · simp only [runP_pure, Option.bind_some]
      exact ih
theorem runP_eqInt (d : Nat) {t : TypeId} {k k' : IntKind} (n : Int) (h : P.underlying t = some (.int k')) : runP P (Op.equalIn (d + 1) t (.int k n) (.int k n)) = some true := by
  simp only [Op.equalIn, runP_bind', runP_und' h, Option.bind_some, if_true, runP_pure, beq_self_eq_true]
end
theorem eq_pair {t : TypeId} {f1 f2 : Field} (ht : Tryz.prog.underlying t = some (.struct #[f1, f2])) (hp : Tryz.prog.stoodInHeld t = false) (h1 : f1.type = 3 ∧ f1.offset = 0) (h2 : f2.type = 3 ∧ f2.offset = 1) (a b : Int) (d : Nat) : runP Tryz.prog (Op.equalIn (d + 2) t (.agg #[iv a, iv b]) (.agg #[iv a, iv b])) = some true := by
  refine runP_eqStruct (d + 1) _ _ ht hp fun f hf => ?_
  simp at hf
  rcases hf with rfl | rfl
  · rw [h1.1, h1.2]
    exact ⟨iv a, iv a, by kernel_rfl, by kernel_rfl, runP_eqInt d a Tryz.underlying3⟩
  · rw [h2.1, h2.2]
    exact ⟨iv b, iv b, by kernel_rfl, by kernel_rfl, runP_eqInt d b Tryz.underlying3⟩
end Go.Proofs.YtndlfijfjglkdaaGreatDoor
