/-
Plain laws of moments that meet picks and bounds: none where picks contradict each other, the least ones where none do, layers within the bounds, wider picks no less met, exact picks met by their totals (each under the conditions in its statement).
-/
import Derived.Test.YtkongcnmkiihjaaGreatDoorYg
namespace Go.Proofs.YtkongcnmkiihjaaGreatDoor
open Go Go.Ab Go.Proofs
/-! ### moments that meet picks and bounds -/
/-- what CheckMoments asks, said plainly -/
structure Meets (l : List Pk) (lo hi : Int) (ms : List Int) : Prop where
  len : ms.length = l.length
  low : ∀ i, i < l.length → (pkA l (i + 1)).low ≤ aA ms (i + 1)
  high : ∀ i, i < l.length → aA ms (i + 1) ≤ (pkA l (i + 1)).high
  up : ∀ i, i < l.length → lo * ((pkA l (i + 1)).t - (pkA l i).t) ≤ aA ms (i + 1) - aA ms i
  dn : ∀ i, i < l.length → aA ms (i + 1) - aA ms i ≤ hi * ((pkA l (i + 1)).t - (pkA l i).t)
theorem cmS_zero {l : List Pk} {lo hi : Int} {ms : List Int} {i : Nat} : cmS l lo hi ms i = 0 ↔ (pkA l (i + 1)).low ≤ aA ms (i + 1) ∧ aA ms (i + 1) ≤ (pkA l (i + 1)).high ∧ lo * ((pkA l (i + 1)).t - (pkA l i).t) ≤ aA ms (i + 1) - aA ms i ∧ aA ms (i + 1) - aA ms i ≤ hi * ((pkA l (i + 1)).t - (pkA l i).t) := by
  unfold cmS
  split
  · constructor
    · intro h; cases h
    · intro h; omega
  · split
    · constructor
      · intro h; cases h
      · intro h; omega
    · constructor
      · intro _; omega
      · intro _; rfl
theorem cmG_zero {l : List Pk} {lo hi : Int} {ms : List Int} : ∀ (k i : Nat), cmG l lo hi ms k i = 0 ↔ ∀ j, i ≤ j → j < i + k → cmS l lo hi ms j = 0
  | 0, i => by simp only [cmG, true_iff]; intro j h1 h2; omega
  | k + 1, i => by
    rw [cmG]
    by_cases h : cmS l lo hi ms i = 0
    · rw [if_pos h, cmG_zero k (i + 1)]
      constructor
      · intro hh j h1 h2
        by_cases hj : j = i
        · subst hj; exact h
        · exact hh j (by omega) (by omega)
      · intro hh j h1 h2; exact hh j (by omega) (by omega)
    · rw [if_neg h]
      constructor
      · intro e; exact absurd e h
      · intro hh; exact absurd (hh i (Nat.le_refl _) (by omega)) h
theorem cmE_meets {l : List Pk} {lo hi : Int} {ms : List Int} (hre : refE l lo hi = 0) : cmE l lo hi ms = 0 ↔ Meets l lo hi ms := by
  rw [← cmE_good hre]
  constructor
  · intro h
    by_cases hl : ms.length = l.length
    · rw [if_pos hl, cmG_zero] at h
      have key := fun i (hi1 : i < l.length) => cmS_zero.1 (h i (Nat.zero_le _) (by omega))
      exact ⟨hl, fun i hi => (key i hi).1, fun i hi => (key i hi).2.1, fun i hi => (key i hi).2.2.1, fun i hi => (key i hi).2.2.2⟩
    · rw [if_neg hl] at h; cases h
  · intro h
    rw [if_pos h.len, cmG_zero]
    intro j _ hj
    exact cmS_zero.2 ⟨h.low j (by omega), h.high j (by omega), h.up j (by omega), h.dn j (by omega)⟩
theorem Meets.lowA {l : List Pk} {lo hi : Int} {ms : List Int} (h : Meets l lo hi ms) {k : Nat} (hk : k ≤ l.length) : (pkA l k).low ≤ aA ms k := by
  cases k with
  | zero => simp [pkA, Pk.low, aA]
  | succ k => exact h.low k (by omega)
theorem Meets.highA {l : List Pk} {lo hi : Int} {ms : List Int} (h : Meets l lo hi ms) {k : Nat} (hk : k ≤ l.length) : aA ms k ≤ (pkA l k).high := by
  cases k with
  | zero => simp [pkA, Pk.high, aA]
  | succ k => exact h.high k (by omega)
theorem Meets.upA {l : List Pk} {lo hi : Int} {ms : List Int} (h : Meets l lo hi ms) (k : Nat) : ∀ d, k + d ≤ l.length → lo * ((pkA l (k + d)).t - (pkA l k).t) ≤ aA ms (k + d) - aA ms k
  | 0, _ => by simp
  | d + 1, hd => by
    have ih := h.upA k d (by omega)
    have h1 := h.up (k + d) (by omega)
    rw [show k + (d + 1) = k + d + 1 by omega]
    simp only [Int.mul_sub] at *
    omega
theorem Meets.dnA {l : List Pk} {lo hi : Int} {ms : List Int} (h : Meets l lo hi ms) (k : Nat) : ∀ d, k + d ≤ l.length → aA ms (k + d) - aA ms k ≤ hi * ((pkA l (k + d)).t - (pkA l k).t)
  | 0, _ => by simp
  | d + 1, hd => by
    have ih := h.dnA k d (by omega)
    have h1 := h.dn (k + d) (by omega)
    rw [show k + (d + 1) = k + d + 1 by omega]
    simp only [Int.mul_sub] at *
    omega
/-! ### no contradiction -/
theorem srJ_none {l : List Pk} {lo hi : Int} {k : Nat} : ∀ (n j : Nat), srJ l lo hi k n j = none ↔ ∀ d, d < n → conP (pkA l k) (pkA l (j + d + 1)) lo hi = false
  | 0, j => by simp [srJ]
  | n + 1, j => by
    rw [srJ]
    by_cases h : conP (pkA l k) (pkA l (j + 1)) lo hi = true
    · rw [if_pos h]
      constructor
      · intro e; cases e
      · intro hh; have := hh 0 (by omega); rw [Nat.add_zero, h] at this; cases this
    · rw [if_neg h, srJ_none n (j + 1)]
      constructor
      · intro hh d hd
        cases d with
        | zero => simpa using h
        | succ d => have := hh d (by omega); rwa [show j + 1 + d + 1 = j + (d + 1) + 1 by omega] at this
      · intro hh d hd
        have := hh (d + 1) (by omega)
        rwa [show j + (d + 1) + 1 = j + 1 + d + 1 by omega] at this
theorem srK_none {l : List Pk} {lo hi : Int} : ∀ (n k : Nat), srK l lo hi n k = none ↔ ∀ d, d < n → srJ l lo hi (k + d) (l.length - (k + d)) (k + d) = none
  | 0, k => by simp [srK]
  | n + 1, k => by
    rw [srK]
    cases h : srJ l lo hi k (l.length - k) k with
    | some j =>
      dsimp only
      constructor
      · intro e; cases e
      · intro hh; have := hh 0 (by omega); rw [Nat.add_zero, h] at this; cases this
    | none =>
      dsimp only
      rw [srK_none n (k + 1)]
      constructor
      · intro hh d hd
        cases d with
        | zero => exact h
        | succ d => have := hh d (by omega); rwa [show k + 1 + d = k + (d + 1) by omega] at this
      · intro hh d hd
        have := hh (d + 1) (by omega)
        rwa [show k + (d + 1) = k + 1 + d by omega] at this
theorem seek_none {l : List Pk} {lo hi : Int} : seek l lo hi = none ↔ ∀ k j, k ≤ j → j < l.length → conP (pkA l k) (pkA l (j + 1)) lo hi = false := by
  unfold seek
  rw [srK_none]
  constructor
  · intro h k j hkj hj
    have := (srJ_none _ _).1 (h k (by omega)) (j - k) (by omega)
    rw [Nat.zero_add] at this
    rwa [show k + (j - k) + 1 = j + 1 by omega] at this
  · intro h d hd
    rw [Nat.zero_add, srJ_none]
    intro e he
    exact h d (d + e) (by omega) (by omega)
theorem conP_false {x y : Pk} {lo hi : Int} : conP x y lo hi = false ↔ y.low ≤ x.high + hi * (y.t - x.t) ∧ x.low + lo * (y.t - x.t) ≤ y.high := by
  unfold conP
  rw [Bool.or_eq_false_iff, decide_eq_false_iff_not, decide_eq_false_iff_not]
  omega
/-- (P1) moments that are met leave no contradiction -/
theorem Meets.seek {l : List Pk} {lo hi : Int} {ms : List Int} (h : Meets l lo hi ms) : seek l lo hi = none := by
  rw [seek_none]
  intro k j hkj hj
  rw [conP_false]
  have h1 := h.lowA (k := k) (by omega)
  have h2 := h.highA (k := k) (by omega)
  have h3 := h.lowA (k := j + 1) (by omega)
  have h4 := h.highA (k := j + 1) (by omega)
  have h5 := h.upA k (j + 1 - k) (by omega)
  have h6 := h.dnA k (j + 1 - k) (by omega)
  rw [show k + (j + 1 - k) = j + 1 by omega] at h5 h6
  omega
theorem momL_at {l : List Pk} {lo hi : Int} {i : Nat} (h : i < l.length) : aA (momL l lo hi) (i + 1) = momV l lo hi i := by
  rw [aA_get (by simpa using h)]
  simp [momL]
theorem Pk.Ok.low_le_high {p : Pk} (h : p.Ok) : p.low ≤ p.high := by
  obtain ⟨h1, h2, h3, h4, h5, h6⟩ := h
  exact Int.mul_le_mul_of_nonneg_left (by omega) (by omega)
/-- (P2) where nothing contradicts, the least moments are met -/
theorem mom_meets {l : List Pk} {lo hi : Int} (hre : refE l lo hi = 0) (hs : seek l lo hi = none) : Meets l lo hi (momL l lo hi) := by
  obtain ⟨hok, h64, hb⟩ := refE_ok hre
  have hpe := refE_pks hre
  have hr := pksE_rise hpe
  have hlh := hb.2.2.2.2
  have hc := fun k j h1 h2 => conP_false.1 (seek_none.1 hs k j h1 h2)
  have hmono : ∀ a b, a ≤ b → b ≤ l.length → (pkA l a).t ≤ (pkA l b).t := fun a b h1 h2 => by
    have := rise_le hr (b - a) a (by omega)
    rwa [show a + (b - a) = b by omega] at this
  refine ⟨by simp, fun i hi => ?_, fun i hi => ?_, fun i hi => ?_, fun i hi => ?_⟩
  · rw [momL_at hi]; exact low_le_mom ..
  · rw [momL_at hi]
    have hlh1 : (pkA l (i + 1)).low ≤ (pkA l (i + 1)).high := by rw [pkA_succ hi]; exact (hok.get hi).low_le_high
    refine mom_le hlh1 fun k hk => ?_
    unfold mtrm
    split
    · rename_i hki
      exact (hc k i hki hi).2
    · rename_i hki
      by_cases he : k = i + 1
      · subst he; simp; exact hlh1
      · have := (hc (i + 1) (k - 1) (by omega) (by omega)).1
        rw [show k - 1 + 1 = k by omega] at this
        omega
  · rw [momL_at hi]
    cases i with
    | zero =>
      have := trm_le_mom (l := l) (lo := lo) (hi := ‹Int›) (j := 0) (k := 0) (by omega)
      rw [mtrm, if_pos (Nat.le_refl _)] at this
      have h0 : (pkA l 0).low = 0 := by simp [pkA, Pk.low]
      simp only [aA]
      omega
    | succ i =>
      rw [momL_at (by omega)]
      have := mom_up hr hlh hi
      omega
  · rw [momL_at hi]
    cases i with
    | zero =>
      have h0 : (pkA l 0).low = 0 := by simp [pkA, Pk.low]
      have h00 : (pkA l 0).high = 0 := by simp [pkA, Pk.high]
      have ht : (pkA l 0).t = 0 := by simp [pkA]
      simp only [aA, Int.sub_zero]
      have key : ∀ k, 1 ≤ k → k ≤ l.length → (pkA l k).low ≤ ‹Int› * ((pkA l k).t - (pkA l 0).t) := fun k h1 h2 => by
        have := (hc 0 (k - 1) (by omega) (by omega)).1
        rw [show k - 1 + 1 = k by omega, h00] at this
        omega
      refine mom_le (key 1 (by omega) (by omega)) fun k hk => ?_
      unfold mtrm
      split
      · have hk0 : k = 0 := by omega
        subst hk0
        rw [h0]
        have hm := hmono 0 1 (by omega) (by omega)
        have := Int.mul_le_mul_of_nonneg_right hlh (show 0 ≤ (pkA l (0 + 1)).t - (pkA l 0).t by rw [Nat.zero_add]; omega)
        omega
      · have := key k (by omega) hk
        simp only [Int.mul_sub] at *
        rw [Nat.zero_add]
        omega
    | succ i =>
      rw [momL_at (by omega)]
      have := mom_down hr hlh hi
      omega
/-- (P3) no moments that are met lie below the least ones -/
theorem Meets.least {l : List Pk} {lo hi : Int} {ms : List Int} (h : Meets l lo hi ms) {j : Nat} (hj : j < l.length) : momV l lo hi j ≤ aA ms (j + 1) := by
  refine mom_le (h.low j hj) fun k hk => ?_
  have h1 := h.lowA hk
  unfold mtrm
  split
  · rename_i hkj
    have := h.upA k (j + 1 - k) (by omega)
    rw [show k + (j + 1 - k) = j + 1 by omega] at this
    omega
  · rename_i hkj
    have := h.dnA (j + 1) (k - (j + 1)) (by omega)
    rw [show j + 1 + (k - (j + 1)) = k by omega] at this
    omega
end Go.Proofs.YtkongcnmkiihjaaGreatDoor

namespace Go.Proofs.YtkongcnmkiihjaaGreatDoor
open Go Go.Ab Go.Proofs
/-! ### the least moments in range; layers within the bounds -/
theorem Pk.Ok.lowB {p : Pk} (h : p.Ok) : -1024000000000 ≤ p.low ∧ p.low ≤ 1000000000 * p.t := by
  obtain ⟨h1, h2, h3, h4, h5, h6⟩ := h
  unfold Pk.low
  have a : p.t * (p.q - p.e) ≤ p.t * 1000000000 := Int.mul_le_mul_of_nonneg_left (by omega) (by omega)
  have b : p.t * (-1000000000) ≤ p.t * (p.q - p.e) := Int.mul_le_mul_of_nonneg_left (by omega) (by omega)
  omega
theorem mom_range {l : List Pk} {lo hi : Int} (hre : refE l lo hi = 0) {i : Nat} (hi1 : i < l.length) : -1099511627776 ≤ momV l lo hi i ∧ momV l lo hi i ≤ 1099511627776 := by
  obtain ⟨hok, h64, hb⟩ := refE_ok hre
  have hr := pksE_rise (refE_pks hre)
  have hlow : ∀ k, k ≤ l.length → (pkA l k).low ≤ 1000000000 * (pkA l k).t := fun k hk => by
    cases k with
    | zero => simp [pkA, Pk.low]
    | succ k => rw [pkA_succ (by omega)]; exact (hok.get (by omega)).lowB.2
  have hmono : ∀ a b, a ≤ b → b ≤ l.length → (pkA l a).t ≤ (pkA l b).t := fun a b h1 h2 => by
    have := rise_le hr (b - a) a (by omega)
    rwa [show a + (b - a) = b by omega] at this
  obtain ⟨y1, y2, _, _⟩ := hok.pkA (show i + 1 ≤ l.length by omega)
  constructor
  · have h1 := low_le_mom l lo hi i
    rw [pkA_succ hi1] at h1
    have := (hok.get hi1).lowB.1
    omega
  · have hX : ∀ k, k ≤ l.length → (pkA l k).low ≤ 1024000000000 := fun k hk => by
      have h1 := hlow k hk
      obtain ⟨x1, x2, _, _⟩ := hok.pkA hk
      omega
    refine Int.le_trans (mom_le (X := 1024000000000) (hX _ (by omega)) fun k hk => ?_) (by omega)
    have h1 := hlow k hk
    have h2 := hX k hk
    obtain ⟨b1, b2, b3, b4, b5⟩ := hb
    unfold mtrm
    split
    · have := Int.mul_le_mul_of_nonneg_right b2 (show 0 ≤ (pkA l (i + 1)).t - (pkA l k).t by have := hmono k (i + 1) (by omega) (by omega); omega)
      omega
    · have hm := hmono (i + 1) k (by omega) hk
      have := Int.mul_nonneg (show 0 ≤ hi by omega) (show 0 ≤ (pkA l k).t - (pkA l (i + 1)).t by omega)
      omega
theorem mom_layE {l : List Pk} {lo hi : Int} (hre : refE l lo hi = 0) : layE l (momL l lo hi) = 0 := by
  rw [layE_of (refE_pks hre), if_pos (by simp)]
  have key : ∀ ms : List Int, (∀ x ∈ ms, -1099511627776 ≤ x ∧ x ≤ 1099511627776) → firstV (ms.map winM) = 0 := by
    intro ms
    induction ms with
    | nil => intro _; rfl
    | cons x ms ih =>
      intro h
      have h1 := h x (List.mem_cons_self ..)
      have h2 : winM x = 0 := by unfold winM withinV; rw [if_neg (by omega)]
      rw [List.map_cons, firstV, if_pos h2]
      exact ih fun y hy => h y (List.mem_cons_of_mem _ hy)
  refine key _ fun x hx => ?_
  unfold momL at hx
  obtain ⟨i, hi, rfl⟩ := List.mem_map.1 hx
  exact mom_range hre (List.mem_range.1 hi)
/-- (P4) a layer in lowest terms lies within the bounds -/
theorem rat_bounds {X D lo hi : Int} (hD : 1 ≤ D) (hD2 : D ≤ 1024) (h1 : lo * D ≤ X) (h2 : X ≤ hi * D) :
    1 ≤ (ratP X D).2 ∧ (ratP X D).2 ≤ 1024 ∧ lo * (ratP X D).2 ≤ (ratP X D).1 ∧ (ratP X D).1 ≤ hi * (ratP X D).2 := by
  have hg : 1 ≤ gcdI X D := gcd_pos hD
  obtain ⟨p, hp⟩ : gcdI X D ∣ X := Int.gcd_dvd_left X D
  obtain ⟨q, hq⟩ : gcdI X D ∣ D := Int.gcd_dvd_right X D
  show 1 ≤ D.tdiv (gcdI X D) ∧ D.tdiv (gcdI X D) ≤ 1024 ∧ lo * D.tdiv (gcdI X D) ≤ X.tdiv (gcdI X D) ∧ X.tdiv (gcdI X D) ≤ hi * D.tdiv (gcdI X D)
  generalize gcdI X D = g at *
  have e1 : X.tdiv g = p := by rw [hp]; exact Int.mul_tdiv_cancel_left _ (by omega)
  have e2 : D.tdiv g = q := by rw [hq]; exact Int.mul_tdiv_cancel_left _ (by omega)
  rw [e1, e2]
  have hq1 : 1 ≤ q := by
    rcases (show q ≤ 0 ∨ 1 ≤ q by omega) with h | h
    · have := Int.mul_nonpos_of_nonneg_of_nonpos (show 0 ≤ g by omega) h
      omega
    · exact h
  have hq2 : q ≤ 1024 := by
    have := Int.mul_le_mul_of_nonneg_right hg (show 0 ≤ q by omega)
    omega
  refine ⟨hq1, hq2, ?_, ?_⟩
  · apply Int.le_of_mul_le_mul_left (a := g) _ (by omega)
    rw [← hp, Int.mul_left_comm, ← hq]; exact h1
  · apply Int.le_of_mul_le_mul_left (a := g) _ (by omega)
    rw [← hp, Int.mul_left_comm, ← hq]; exact h2
/-! ### wider picks and bounds -/
def Pk.wide (p : Pk) : Pk := ⟨p.t, p.q, min 1000000000 (p.e + 1)⟩
def wideL (l : List Pk) : List Pk := l.map Pk.wide
@[simp] theorem wideL_length (l : List Pk) : (wideL l).length = l.length := by simp [wideL]
theorem pkA_wide {l : List Pk} {k : Nat} (hk : k < l.length) : pkA (wideL l) (k + 1) = (pkA l (k + 1)).wide := by
  rw [pkA_succ (by simpa using hk), pkA_succ hk]
  simp [wideL]
theorem pkA_wide_t {l : List Pk} {k : Nat} (hk : k ≤ l.length) : (pkA (wideL l) k).t = (pkA l k).t := by
  cases k with
  | zero => rfl
  | succ k => rw [pkA_wide (by omega)]; rfl
theorem Pk.err_of {p : Pk} (h : p.Ok) : p.err = 0 := by
  obtain ⟨h1, h2, h3, h4, h5, h6⟩ := h
  have w1 : withinV p.t 1 1024 = 0 := by unfold withinV; rw [if_neg (by omega)]
  have w2 : withinV p.q 1 1000000000 = 0 := by unfold withinV; rw [if_neg (by omega)]
  have w3 : withinV p.e 0 1000000000 = 0 := by unfold withinV; rw [if_neg (by omega)]
  simp [Pk.err, firstV, velV, w1, w2, w3]
theorem Pk.Ok.wide {p : Pk} (h : p.Ok) : p.wide.Ok := by
  obtain ⟨h1, h2, h3, h4, h5, h6⟩ := h
  exact ⟨h1, h2, h3, h4, by simp only [Pk.wide]; omega, by simp only [Pk.wide]; omega⟩
theorem pfE_wide : ∀ (l : List Pk) (last : Int), pfE last l = 0 → pfE last (wideL l) = 0
  | [], _, _ => rfl
  | p :: l, last, h => by
    have hok := pfE_ok _ _ h p (List.mem_cons_self ..)
    rw [pfE] at h
    by_cases h1 : pstE last p = 0
    · rw [if_pos h1] at h
      have ih := pfE_wide l p.t h
      have h2 : pstE last p.wide = 0 := by
        simp only [pstE, firstV, Pk.err_of hok, Pk.err_of hok.wide] at h1 ⊢
        exact h1
      show (if pstE last p.wide = 0 then pfE p.wide.t (wideL l) else pstE last p.wide) = 0
      rw [if_pos h2]
      exact ih
    · rw [if_neg h1] at h; exact absurd h h1
theorem bndE_of {lo hi : Int} (h : BndIn lo hi) : bndE lo hi = 0 := by
  obtain ⟨b1, b2, b3, b4, b5⟩ := h
  have w1 : withinV lo 1 1000000000 = 0 := by unfold withinV; rw [if_neg (by omega)]
  have w2 : withinV hi 1 1000000000 = 0 := by unfold withinV; rw [if_neg (by omega)]
  have w3 : ¬ hi < lo := by omega
  simp [bndE, firstV, velV, w1, w2, whenV, w3]
theorem refE_of {l : List Pk} {lo hi : Int} (h1 : pksE l = 0) (h2 : BndIn lo hi) : refE l lo hi = 0 := by simp [refE, firstV, h1, bndE_of h2]
theorem pksE_wide {l : List Pk} (h : pksE l = 0) : pksE (wideL l) = 0 := by
  unfold pksE at h ⊢
  rw [wideL_length]
  split at h
  · cases h
  · rename_i hl
    rw [if_neg hl]
    exact pfE_wide l 0 h
def wLo (lo : Int) : Int := max 1 (lo - 1)
def wHi (hi : Int) : Int := min 1000000000 (hi + 1)
theorem BndIn.wide {lo hi : Int} (h : BndIn lo hi) : BndIn (wLo lo) (wHi hi) := by
  obtain ⟨b1, b2, b3, b4, b5⟩ := h
  unfold BndIn wLo wHi
  omega
/-- (P5) wider picks and bounds are no less met -/
theorem Meets.wide {l : List Pk} {lo hi : Int} {ms : List Int} (h : Meets l lo hi ms) (hok : PksOk l) (hb : BndIn lo hi) (hr : Rising l) : Meets (wideL l) (wLo lo) (wHi hi) ms := by
  obtain ⟨b1, b2, b3, b4, b5⟩ := hb
  refine ⟨by simpa using h.len, fun i hi => ?_, fun i hi => ?_, fun i hi => ?_, fun i hi => ?_⟩
  · rw [wideL_length] at hi
    rw [pkA_wide hi]
    have h1 := h.low i hi
    rw [pkA_succ hi] at h1 ⊢
    obtain ⟨o1, o2, o3, o4, o5, o6⟩ := hok.get hi
    have : l[i].t * (l[i].q - min 1000000000 (l[i].e + 1)) ≤ l[i].t * (l[i].q - l[i].e) := Int.mul_le_mul_of_nonneg_left (by omega) (by omega)
    exact Int.le_trans this h1
  · rw [wideL_length] at hi
    rw [pkA_wide hi]
    have h1 := h.high i hi
    rw [pkA_succ hi] at h1 ⊢
    obtain ⟨o1, o2, o3, o4, o5, o6⟩ := hok.get hi
    have : l[i].t * (l[i].q + l[i].e) ≤ l[i].t * (l[i].q + min 1000000000 (l[i].e + 1)) := Int.mul_le_mul_of_nonneg_left (by omega) (by omega)
    exact Int.le_trans h1 this
  · rw [wideL_length] at hi
    rw [pkA_wide_t (by omega), pkA_wide_t (by omega)]
    have h1 := h.up i hi
    have h2 := hr i hi
    have : wLo lo * ((pkA l (i + 1)).t - (pkA l i).t) ≤ lo * ((pkA l (i + 1)).t - (pkA l i).t) := Int.mul_le_mul_of_nonneg_right (by unfold wLo; omega) (by omega)
    omega
  · rw [wideL_length] at hi
    rw [pkA_wide_t (by omega), pkA_wide_t (by omega)]
    have h1 := h.dn i hi
    have h2 := hr i hi
    have := Int.mul_le_mul_of_nonneg_right (show ‹Int› ≤ wHi ‹Int› by unfold wHi; omega) (show 0 ≤ (pkA l (i + 1)).t - (pkA l i).t by omega)
    omega
theorem wide_free {l : List Pk} {lo hi : Int} (hre : refE l lo hi = 0) (hs : seek l lo hi = none) : refE (wideL l) (wLo lo) (wHi hi) = 0 ∧ seek (wideL l) (wLo lo) (wHi hi) = none := by
  obtain ⟨hok, h64, hb⟩ := refE_ok hre
  exact ⟨refE_of (pksE_wide (refE_pks hre)) hb.wide, ((mom_meets hre hs).wide hok hb (pksE_rise (refE_pks hre))).seek⟩
end Go.Proofs.YtkongcnmkiihjaaGreatDoor

namespace Go.Proofs.YtkongcnmkiihjaaGreatDoor
open Go Go.Ab Go.Proofs
/-! ### exact picks are met by their totals -/
def stp (lo hi m : Int) : Int := lo + (IntKind.u64.wrap m).tmod (hi - lo + 1)
def tot (lo hi : Int) : List Int → Nat → Int
  | _, 0 => 0
  | ms, i + 1 => tot lo hi ms i + stp lo hi (ms.getD i 0)
def totL (lo hi : Int) (ms : List Int) : List Int := (List.range ms.length).map fun i => tot lo hi ms (i + 1)
def exP (lo hi : Int) (ms : List Int) (i : Nat) : Pk := ⟨(i : Int) + 1, max 1 ((tot lo hi ms (i + 1)).tdiv ((i : Int) + 1)), 1⟩
def exL (lo hi : Int) (ms : List Int) : List Pk := (List.range ms.length).map (exP lo hi ms)
@[simp] theorem totL_length (lo hi : Int) (ms : List Int) : (totL lo hi ms).length = ms.length := by simp [totL]
@[simp] theorem exL_length (lo hi : Int) (ms : List Int) : (exL lo hi ms).length = ms.length := by simp [exL]
theorem u64_nonneg (m : Int) : 0 ≤ IntKind.u64.wrap m := by
  unfold IntKind.wrap
  simp [IntKind.signed, IntKind.bits]
  omega
theorem stp_in {lo hi : Int} (hb : lo ≤ hi) (m : Int) : lo ≤ stp lo hi m ∧ stp lo hi m ≤ hi := by
  unfold stp
  have h0 := u64_nonneg m
  rw [Int.tmod_eq_emod_of_nonneg h0]
  have h1 := Int.emod_nonneg (IntKind.u64.wrap m) (show hi - lo + 1 ≠ 0 by omega)
  have h2 := Int.emod_lt_of_pos (IntKind.u64.wrap m) (show 0 < hi - lo + 1 by omega)
  omega
theorem tot_in {lo hi : Int} (hb : lo ≤ hi) (ms : List Int) : ∀ i : Nat, lo * i ≤ tot lo hi ms i ∧ tot lo hi ms i ≤ hi * i
  | 0 => by simp [tot]
  | i + 1 => by
    have ih := tot_in hb ms i
    have := stp_in hb (ms.getD i 0)
    rw [tot]
    rw [show ((i + 1 : Nat) : Int) = (i : Int) + 1 by omega, Int.mul_add, Int.mul_add, Int.mul_one, Int.mul_one]
    omega
theorem tot_at {lo hi : Int} {ms : List Int} {k : Nat} (hk : k ≤ ms.length) : aA (totL lo hi ms) k = tot lo hi ms k := by
  cases k with
  | zero => rfl
  | succ k => rw [aA_get (by simp; omega)]; simp [totL]
theorem ex_at {lo hi : Int} {ms : List Int} {k : Nat} (hk : k < ms.length) : pkA (exL lo hi ms) (k + 1) = exP lo hi ms k := by
  rw [pkA_succ (by simpa using hk)]
  simp [exL]
theorem ex_t {lo hi : Int} {ms : List Int} {k : Nat} (hk : k ≤ ms.length) : (pkA (exL lo hi ms) k).t = k := by
  cases k with
  | zero => rfl
  | succ k => rw [ex_at hk]; simp [exP]
theorem ex_q {lo hi : Int} (hb : BndIn lo hi) (ms : List Int) (i : Nat) : ((i : Int) + 1) * ((exP lo hi ms i).q - 1) ≤ tot lo hi ms (i + 1) ∧ tot lo hi ms (i + 1) ≤ ((i : Int) + 1) * ((exP lo hi ms i).q + 1) := by
  obtain ⟨b1, b2, b3, b4, b5⟩ := hb
  have h := (tot_in b5 ms (i + 1)).1
  have h1 : ((i + 1 : Nat) : Int) ≤ lo * ((i + 1 : Nat) : Int) := by
    have := Int.mul_le_mul_of_nonneg_right b1 (show 0 ≤ ((i + 1 : Nat) : Int) by omega)
    omega
  have h2 : ((i : Int) + 1) ≤ tot lo hi ms (i + 1) := by omega
  show ((i : Int) + 1) * (max 1 ((tot lo hi ms (i + 1)).tdiv ((i : Int) + 1)) - 1) ≤ _ ∧ _ ≤ ((i : Int) + 1) * (max 1 ((tot lo hi ms (i + 1)).tdiv ((i : Int) + 1)) + 1)
  generalize tot lo hi ms (i + 1) = T at *
  generalize hc : (i : Int) + 1 = c at *
  have hc1 : 1 ≤ c := by omega
  rw [Int.tdiv_eq_ediv_of_nonneg (by omega)]
  have e1 : 1 ≤ T / c := by
    rw [Int.le_ediv_iff_mul_le (by omega)]
    omega
  rw [Int.max_eq_right e1]
  have e2 := Int.mul_ediv_add_emod T c
  have e3 := Int.emod_nonneg T (show c ≠ 0 by omega)
  have e4 := Int.emod_lt_of_pos T (show 0 < c by omega)
  rw [Int.mul_sub, Int.mul_add, Int.mul_one]
  omega
/-- (P6) -/
theorem ex_meets {lo hi : Int} (hb : BndIn lo hi) (ms : List Int) : Meets (exL lo hi ms) lo hi (totL lo hi ms) := by
  have b5 := hb.2.2.2.2
  refine ⟨by simp, fun i hi => ?_, fun i hi => ?_, fun i hi => ?_, fun i hi => ?_⟩
  all_goals rw [exL_length] at hi
  · rw [ex_at hi, tot_at (by omega)]
    exact (ex_q hb ms i).1
  · rw [ex_at hi, tot_at (by omega)]
    exact (ex_q hb ms i).2
  · rw [ex_t (by omega), ex_t (by omega), tot_at (by omega), tot_at (by omega)]
    have := stp_in b5 (ms.getD i 0)
    rw [tot, show ((i + 1 : Nat) : Int) - (i : Int) = 1 by omega]
    omega
  · rw [ex_t (by omega), ex_t (by omega), tot_at (by omega), tot_at (by omega)]
    have := stp_in b5 (ms.getD i 0)
    rw [tot, show ((i + 1 : Nat) : Int) - (i : Int) = 1 by omega]
    omega
theorem ex_cmE {lo hi : Int} (hb : BndIn lo hi) {ms : List Int} (h : pksE (exL lo hi ms) = 0) : cmE (exL lo hi ms) lo hi (totL lo hi ms) = 0 := (cmE_meets (refE_of h hb)).2 (ex_meets hb ms)
end Go.Proofs.YtkongcnmkiihjaaGreatDoor

namespace Go.Proofs.YtkongcnmkiihjaaGreatDoor
open Go Go.Ab Go.Proofs
/-! ### unsigned numbers, the lesser of two; no moments of no picks -/
@[simp] theorem cv3_71 (n : Int) : runP Tryz.prog (convert 3 71 (.int .i64 n)) = some (.int .u64 (IntKind.u64.wrap n)) := by kernel_rfl
@[simp] theorem cv71_3 (n : Int) : runP Tryz.prog (convert 71 3 (.int .u64 n)) = some (.int .i64 (IntKind.i64.wrap n)) := by kernel_rfl
theorem rem_u64 {P : Program} {t : TypeId} {x y : Operand} {a b : Int} {H : Heap} {n : Nat} (hb : b ≠ 0) : binV P .rem t x y (.int .u64 a) (.int .u64 b) H n = some (.int .u64 (a.tmod b), H, n) := by
  have : runP P (do eqGuard .rem t x y (.int .u64 a) (.int .u64 b); binOp .rem t (.int .u64 a) (.int .u64 b)) = some (.int .u64 (a.tmod b)) := by
    show runP P (if b = 0 then _ else _) = _
    rw [if_neg hb]; rfl
  simp [binV, this]
theorem min33 (a b : Int) (c : Array Bool) : runP Tryz.prog (builtin .min #[3, 3] 3 c #[iv a, iv b]) = some (.value (iv (min a b))) := by
  have h : runP Tryz.prog (builtin .min #[3, 3] 3 c #[iv a, iv b]) = some (.value (.int .i64 (if b < a then b else a))) := rfl
  rw [h]
  congr 3
  split <;> omega
theorem u64_small {x : Int} (h0 : 0 ≤ x) (h1 : x ≤ 9223372036854775807) : IntKind.u64.wrap x = x := by
  unfold IntKind.wrap
  simp [IntKind.signed, IntKind.bits]
  omega
theorem build74w {fr : Fr} {H : Heap} {n : Nat} {x y : Operand} {a b : Int} (hx : evO Tryz.prog fr x = some (iv a)) (hy : evO Tryz.prog fr y = some (iv b)) : opBuild Tryz.prog 74 #[(0, x), (1, y)] fr H n = some (.agg #[iv a, iv b], H, n) := build74 hx hy
theorem build100 {fr : Fr} {H : Heap} {n : Nat} {x y z : Operand} {a b c : Int} (hx : evO Tryz.prog fr x = some (iv a)) (hy : evO Tryz.prog fr y = some (iv b)) (hz : evO Tryz.prog fr z = some (iv c)) : opBuild Tryz.prog 100 #[(0, x), (1, y), (2, z)] fr H n = some (.agg #[iv a, iv b, iv c], H, n) := by
  unfold opBuild
  simp only [evPs_cons, evPs_nil, hx, hy, hz]
  kernel_rfl
@[simp] theorem inf100 : Tryz.prog.info? 100 = some Tryz.t100 := by kernel_rfl
attribute [simp] Tryz.t100
theorem w48zz (lo hi : Int) (h : cm0 [] lo hi [] = 0) : AC Tryz.prog 48 [.slice none 0 0, ivl lo hi, .slice none 0 0] [] 9 (iv 0) [] 9 := by
  have hr := recT_ok (P := Tryz.prog) (l := [(56, g56), (119, gBnd), (96, g96), (90, g90), (122, g122)]) (by simp [ok56, ok119, ok96, ok90, ok122])
  have hE : firstV [pksE [], bndE lo hi, whenV false 2] = cm0 [] lo hi [] := by simp [cm0, whenV]
  refine AC.pure Tryz.func48 rfl (by kernel_rfl) rfl [2, 4, 8, 9, 29, 30, 31] rfl ?_
  refine E.seq ?_
  refine E.reg hr (by simp; rfl) ?_ -- region 0
  refine E.seq ?_
  refine E.seq ?_
  refine E.drawC mixed hr [3, 9, 10, 11] [1, 3, 9, 10, 11] [1, 3, 9, 10, 11] (by kernel_rfl) (by simp [g56, pksP, gBnd, g96, g90, intsAt, intsOf, hE, h]; rfl) ?_ -- region 1
  refine E.seq ?_
  refine E.reg hr (by simp; rfl) ?_ -- region 2
  refine E.cond (t := false) (by simp) (fun h => by cases h) (fun _ => ?_)
  refine E.skip ?_
  refine E.seq ?_
  refine E.reg hr (by simp; rfl) ?_ -- region 4
  refine E.seq ?_
  refine E.seq ?_
  refine E.reg hr (by simp; rfl) ?_ -- region 5
  refine E.block ?_ -- 0
  refine E.loop ?_
  refine EL.step ?_
  refine E.seq ?_
  refine E.reg hr (by simp; rfl) ?_ -- region 6
  refine E.seq ?_
  refine E.cond (t := false) (by simp) (fun h => by cases h) (fun _ => ?_)
  refine E.exit ?_ -- 0
  refine E.seq ?_
  refine E.reg hr (by simp; rfl) ?_ -- region 16
  refine E.ret ?_
  exact pureK.ret rfl rfl (by simp) (by repeat first | exact sub_refl _ | refine sub_cons rfl ?_)
def g48b (args : List Value) (H : Heap) (n : Nat) : R := match args with
  | [.slice none 0 0, .agg ⟨[.int .i64 lo, .int .i64 hi]⟩, .slice none 0 0] => if cm0 [] lo hi [] = 0 then some (iv 0, H, n) else none
  | a => g48 a H n
theorem ok48b : EntOk Tryz.prog (48, g48b) := by
  intro args H n v H' n' h
  simp only [g48b] at h
  split at h
  · split at h
    · rename_i hc
      injection h with h; injection h with e1 e2; injection e2 with e2 e3; subst e1 e2 e3
      exact AC.liftP rfl (Part.plain (by simp) [] (by simp [Seen]) gsz ⟨_, _, w48zz _ _ hc⟩)
    · cases h
  · exact ok48 _ _ _ _ _ _ h
/-! ### picks that are widened one by one -/
def mixL (l : List Pk) (i : Nat) : List Pk := (l.take i).map Pk.wide ++ l.drop i
@[simp] theorem mixL_length (l : List Pk) (i : Nat) : (mixL l i).length = l.length := by simp [mixL]; omega
theorem mixL_zero (l : List Pk) : mixL l 0 = l := by simp [mixL]
theorem mixL_all (l : List Pk) : mixL l l.length = wideL l := by simp [mixL, wideL]
theorem pcs_append (a b : List Pk) : pcs (a ++ b) = pcs a ++ pcs b := by simp [pcs]
theorem mix_step {l : List Pk} {i : Nat} (h : i < l.length) : List.take (i * 3 + 2) (pcs (mixL l i)) ++ iv (min 1000000000 (l[i].e + 1)) :: List.drop (i * 3 + 3) (pcs (mixL l i)) = pcs (mixL l (i + 1)) := by
  have e1 : pcs (mixL l i) = pcs ((l.take i).map Pk.wide) ++ (l[i].cells ++ pcs (l.drop (i + 1))) := by
    unfold mixL
    rw [pcs_append, List.drop_eq_getElem_cons h]
    rfl
  have e2 : pcs (mixL l (i + 1)) = pcs ((l.take i).map Pk.wide) ++ (l[i].wide.cells ++ pcs (l.drop (i + 1))) := by
    unfold mixL
    rw [pcs_append, List.take_succ_eq_append_getElem h, List.map_append, pcs_append, List.append_assoc]
    rfl
  have hl : (pcs ((l.take i).map Pk.wide)).length = i * 3 := by simp; omega
  rw [e1, e2]
  rw [show i * 3 + 2 = (pcs ((l.take i).map Pk.wide)).length + 2 by omega, show i * 3 + 3 = (pcs ((l.take i).map Pk.wide)).length + 3 by omega, List.take_length_add_append, List.drop_length_add_append]
  simp [Pk.cells, Pk.wide]
end Go.Proofs.YtkongcnmkiihjaaGreatDoor
