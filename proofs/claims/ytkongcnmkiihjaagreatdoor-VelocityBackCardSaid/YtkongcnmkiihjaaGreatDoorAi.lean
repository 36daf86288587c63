/-
What a callee sees of several blocks, with room and without (each under the conditions in its statement).
-/
import Derived.Test.YtkongcnmkiihjaaGreatDoorAh
namespace Go.Ab
open Go
/-- a block that is read: the caller's name, and what is known of it -/
structure V2 where
  blk : Nat
  b : Blk
def V2.ok (H : Heap) (v : V2) : Prop := match v.b with
  | .inp o cs => (∃ m, cellsA H v.blk o m = some cs) ∧ afL cs = true
  | .row cs sz => rowOf H v.blk = some (cs, sz) ∧ afL cs = true
  | _ => False
def v2H (N : Nat) : List V2 → Heap → Heap
  | [], G => G
  | v :: vs, G => v2H (N + 1) vs ((N, v.b) :: G)
theorem hget_v2H {N : Nat} : ∀ (vs : List V2) (G : Heap) (k : Nat) (b : Blk), (∀ x ∈ G, x.1 < N) → hget (v2H N vs G) k = some b → (k < N ∧ hget G k = some b) ∨ ∃ v, vs[k - N]? = some v ∧ N ≤ k ∧ b = v.b
  | [], G, k, b, hG, h => .inl ⟨hG _ (hget_mem _ _ _ h), h⟩
  | v :: vs, G, k, b, hG, h => by
    have := hget_v2H (N := N + 1) vs ((N, v.b) :: G) k b (fun x hx => by
      rcases List.mem_cons.1 hx with rfl | hx
      · exact Nat.lt_succ_self _
      · exact Nat.lt_succ_of_lt (hG x hx)) h
    rcases this with ⟨h1, h2⟩ | ⟨u, h1, h2, h3⟩
    · rw [hget_cons] at h2
      by_cases hk : N = k
      · rw [if_pos hk] at h2; injection h2 with h2; subst hk
        exact .inr ⟨v, by simp, Nat.le_refl _, h2.symm⟩
      · rw [if_neg hk] at h2
        exact .inl ⟨by omega, h2⟩
    · refine .inr ⟨u, ?_, by omega, h3⟩
      rw [show k - N = (k - (N + 1)) + 1 by omega]
      simpa using h1
end Go.Ab

namespace Go.Ab
open Go
/-- blocks that are seen, read only, some with their room; and globals -/
theorem Part.genG {P : Program} {args : List Value} {H : Heap} {n : Nat} {R : List Value → Heap → Nat → Prop} (vs : List V2) (G : Heap) (hG : Seen P H G) {N : Nat} (hN : P.globals.size = N) (hv : ∀ v ∈ vs, V2.ok H v)
    (h : ∀ φ : Vl, ∃ args0, (∀ φ0 : Vl, (∀ i v, vs[i]? = some v → φ0.loc (N + i) = φ.loc v.blk ∧ φ0.cap (N + i) = φ.cap v.blk) → denL φ0 args0 = denL φ args) ∧ scL (· < N + vs.length) args0 ∧ R args0 (v2H N vs G) (N + vs.length)) : Part P args H n R := by
  intro p φ w hB hsc
  obtain ⟨args0, hden, hsc0, hR⟩ := h φ
  let φ0 : Vl := ⟨fun k => if k < N then φ.loc k else match vs[k - N]? with | some v => φ.loc v.blk | none => 0, fun k => if k < N then φ.cap k else match vs[k - N]? with | some v => φ.cap v.blk | none => 0⟩
  have hl : ∀ i v, vs[i]? = some v → φ0.loc (N + i) = φ.loc v.blk ∧ φ0.cap (N + i) = φ.cap v.blk := fun i v hi => by
    simp only [φ0]; rw [if_neg (by omega), if_neg (by omega), Nat.add_sub_cancel_left, hi]; exact ⟨rfl, rfl⟩
  have hlow : ∀ k, k < N → φ0.loc k = φ.loc k := fun k hk => by simp only [φ0]; rw [if_pos hk]
  have hcap : ∀ k, k < N → φ0.cap k = φ.cap k := fun k hk => by simp only [φ0]; rw [if_pos hk]
  have hH0 : ∀ k b, hget (v2H N vs G) k = some b → (k < N ∧ (k, b) ∈ G) ∨ ∃ v, vs[k - N]? = some v ∧ N ≤ k ∧ b = v.b := fun k b hk => by
    rcases hget_v2H vs G k b (fun x hx => hN ▸ (hG x hx).1) hk with ⟨h1, h2⟩ | h1
    · exact .inl ⟨h1, hget_mem _ _ _ h2⟩
    · exact .inr h1
  have hown : ∀ k b, hget (v2H N vs G) k = some b → b.own = false := fun k b hk => by
    rcases hH0 k b hk with ⟨_, h2⟩ | ⟨v, h1, _, rfl⟩
    · exact (hG _ h2).2.2.1
    · have := hv v (List.mem_of_getElem? h1)
      unfold V2.ok at this
      split at this
      · rename_i e; rw [e]; rfl
      · rename_i e; rw [e]; rfl
      · exact this.elim
  refine ⟨args0, v2H N vs G, N + vs.length, φ0, (· < N + vs.length), ⟨⟨fun k b hk => ?_, fun k b k' b' h1 _ _ ho => (by rw [hown k b h1] at ho; cases ho), fun g hg => ?_⟩, fun _ h => h, fun g hg => ?_, (by omega), fun k b hk => ?_, fun t v hv => by simp [lk] at hv, fun t v hv => by simp [lk] at hv⟩, hsc0, hden φ0 hl, hown, hR⟩
  · rcases hH0 k b hk with ⟨h1, h2⟩ | ⟨v, h1, h2, rfl⟩
    · rw [hlow k h1]
      have hg := hG _ h2
      exact (hB.rel.blk k b hg.2.1).congr (p := fun k => k < N) (k := k) (fun j hj => ⟨hlow j hj, hcap j hj⟩) h1 (scB_mono (fun _ h => h.elim) _ hg.2.2.2)
    · have hok := hv v (List.mem_of_getElem? h1)
      have hlk := hl _ _ h1
      rw [show N + (k - N) = k by omega] at hlk
      rw [hlk.1]
      unfold V2.ok at hok
      split at hok
      · rename_i o cs e
        rw [e]
        obtain ⟨⟨m, hc⟩, haf⟩ := hok
        exact cellsA_block hB.rel hc haf φ0 k
      · rename_i cs sz e
        rw [e]
        obtain ⟨c, t, fz, e1, e2, e3, e4⟩ := rowOf_rel hB hok.1
        refine ⟨c, t, fz, e1, ?_, ?_, e4⟩
        · rw [e2, denL_af _ _ hok.2, denL_af _ _ hok.2]
        · rw [e3, hlk.2]
      · exact hok.elim
  · rw [hlow g (hN ▸ hg)]; exact hB.rel.glob g hg
  · rw [← hN]; omega
  · rcases hH0 k b hk with ⟨h1, h2⟩ | ⟨v, h1, h2, rfl⟩
    · exact ⟨by omega, scB_mono (fun _ h => h.elim) _ (hG _ h2).2.2.2⟩
    · have := (List.getElem?_eq_some_iff.1 h1).1
      have hok := hv v (List.mem_of_getElem? h1)
      refine ⟨by omega, ?_⟩
      unfold V2.ok at hok
      split at hok
      · rename_i e; rw [e]; exact scL_af _ _ hok.2
      · rename_i e; rw [e]; exact scL_af _ _ hok.2
      · exact hok.elim
end Go.Ab

namespace Go.Ab
open Go
end Go.Ab
