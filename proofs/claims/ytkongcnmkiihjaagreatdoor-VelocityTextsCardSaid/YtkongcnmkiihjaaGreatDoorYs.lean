/-
The law VelocityTexts, walked where it asks nothing, and all the ways together.
-/
import Derived.Test.YtkongcnmkiihjaaGreatDoorYr
namespace Go.Proofs.YtkongcnmkiihjaaGreatDoor
open Go Go.Ab Go.Proofs Go.RowKit
theorem parV_cases (s : List UInt8) : (∃ a e, parV s = ⟨[], a, e⟩) ∨ ∃ Q, Q ≠ [] ∧ Q.length ≤ 64 ∧ parV s = ⟨Q, 0, 0⟩ := by
  unfold parV
  split
  · exact .inl ⟨_, _, rfl⟩
  split
  · exact .inl ⟨_, _, rfl⟩
  split
  · exact .inl ⟨_, _, rfl⟩
  split
  · exact .inl ⟨_, _, rfl⟩
  · rename_i he
    have he : pksE (pksD (spD 10 s)) = 0 := by simpa using he
    by_cases hQ : pksD (spD 10 s) = []
    · exact .inl ⟨0, 0, by rw [hQ]⟩
    · exact .inr ⟨_, hQ, (pksE_ok he).2, rfl⟩
theorem w13skn (s : List UInt8) (hs : okS s = false) : AC Tryz.prog 13 [.slice none 0 0, sL s] GL 9 (.bool true) GL 9 := by
  have hr := ok13
  have h1 : ¬ s.length ≤ 200 := by simp only [okS, Bool.or_eq_false_iff, decide_eq_false_iff_not] at hs; omega
  have h1I : (200 : Int) < (s.length : Int) := by omega
  have h2I : ¬ (s.length : Int) = 4097 := by simp only [okS, Bool.or_eq_false_iff, decide_eq_false_iff_not] at hs; omega
  refine AC.pure Tryz.func13 rfl (by kernel_rfl) rfl [] rfl ?_
  refine E.seq ?_
  refine E.reg hr (by simp; rfl) ?_
  refine E.seq ?_
  refine E.seq ?_
  refine E.reg hr (by simp [g15, g44, yieldedA, h1I, h2I]; rfl) ?_
  refine E.cond (t := true) (by rfl) (fun _ => ?_) (fun h => by cases h)
  refine E.seq ?_
  refine E.reg hr (by simp [g15]; rfl) ?_
  refine E.ret ?_
  exact pureK.ret rfl rfl (by simp) (by repeat first | exact sub_refl _ | refine sub_cons rfl ?_)
theorem w13ski (l : List Pk) (o c : Nat) (s : List UInt8) (hs : shortK l.length = false ∨ okS s = false) : AC Tryz.prog 13 [inpP 9 o l.length c, sL s] ((9, .inp o (pcs l)) :: GL) 10 (.bool true) ((9, .inp o (pcs l)) :: GL) 10 := by
  have hr := ok13
  refine AC.pure Tryz.func13 rfl (by kernel_rfl) rfl [] rfl ?_
  refine E.seq ?_
  refine E.reg hr (by simp; rfl) ?_
  refine E.seq ?_
  refine E.seq ?_
  refine E.regL hr { fr := [(31, .bool true)], sz := 81, H := ((9, .inp o (pcs l)) :: GL), n := 10, marks := [], vs := [] } ?_ ?_
  · cases hk : shortK l.length with
    | false =>
      refine ⟨_, by simp [g15, g44, yieldedA, flat, hk]; rfl, ?_⟩
      exact .less rfl rfl rfl (by simp) (by simp)
    | true =>
      have hs : okS s = false := by
        rcases hs with h | h
        · rw [hk] at h; cases h
        · exact h
      have h1 : ¬ s.length ≤ 200 := by simp only [okS, Bool.or_eq_false_iff, decide_eq_false_iff_not] at hs; omega
      have h1I : (200 : Int) < (s.length : Int) := by omega
      have h2I : ¬ (s.length : Int) = 4097 := by simp only [okS, Bool.or_eq_false_iff, decide_eq_false_iff_not] at hs; omega
      refine ⟨_, by simp [g15, g44, yieldedA, flat, hk, h1I, h2I]; rfl, ?_⟩
      exact .less rfl rfl rfl (by simp) (by simp)
  refine E.cond (t := true) (by rfl) (fun _ => ?_) (fun h => by cases h)
  refine E.seq ?_
  refine E.reg hr (by simp [g15]; rfl) ?_
  refine E.ret ?_
  exact pureK.ret rfl rfl (by simp) (by repeat first | exact sub_refl _ | refine sub_cons rfl ?_)
theorem w13_n (s : List UInt8) : AC Tryz.prog 13 [.slice none 0 0, sL s] GL 9 (.bool true) GL 9 := by
  cases hs : okS s with
  | false => exact w13skn s hs
  | true =>
    rcases parV_cases s with ⟨a, e, hp⟩ | ⟨Q, h1, h2, hp⟩
    · exact w13ngn s hs a e hp
    · exact w13ngx s hs Q h1 h2 hp
theorem w13_i (l : List Pk) (o c : Nat) (s : List UInt8) : AC Tryz.prog 13 [inpP 9 o l.length c, sL s] ((9, .inp o (pcs l)) :: GL) 10 (.bool true) ((9, .inp o (pcs l)) :: GL) 10 := by
  cases hk : shortK l.length with
  | false => exact w13ski l o c s (.inl hk)
  | true =>
    cases hs : okS s with
    | false => exact w13ski l o c s (.inr hs)
    | true =>
      by_cases hl : l = []
      · subst hl
        rcases parV_cases s with ⟨a, e, hp⟩ | ⟨Q, h1, h2, hp⟩
        · exact w13egn o c s hs a e hp
        · exact w13egx o c s hs Q h1 h2 hp
      · by_cases he : pksE l = 0
        · rcases parV_cases s with ⟨a, e, hp⟩ | ⟨Q, h1, h2, hp⟩
          · exact w13pgn l o c hl hk he s hs a e hp
          · exact w13pgx l o c hl hk he s hs Q h1 h2 hp
        · rcases parV_cases s with ⟨a, e, hp⟩ | ⟨Q, h1, h2, hp⟩
          · exact w13pbn l o c hl hk he s hs a e hp
          · exact w13pbx l o c hl hk he s hs Q h1 h2 hp
end Go.Proofs.YtkongcnmkiihjaaGreatDoor
