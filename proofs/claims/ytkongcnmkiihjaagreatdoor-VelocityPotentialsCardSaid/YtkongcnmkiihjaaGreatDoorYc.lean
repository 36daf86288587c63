/-
The law VelocityHyperbolas, walked: it returns true for every time, squared offset and squared velocity.
-/
import Derived.Test.YtkongcnmkiihjaaGreatDoorYb
namespace Go.Proofs.YtkongcnmkiihjaaGreatDoor
open Go Go.Ab Go.Proofs
theorem cv55 (n : Int) : runP Tryz.prog (convert 55 3 (.int .u16 n)) = some (.int .i64 (IntKind.i64.wrap n)) := by kernel_rfl
theorem cv56 (n : Int) : runP Tryz.prog (convert 56 3 (.int .u32 n)) = some (.int .i64 (IntKind.i64.wrap n)) := by kernel_rfl
/-- a moved time in whole numbers -/
def mvN (t x v : Nat) : Nat := isq (t * t + x / v)
theorem movN (t x v : Nat) : movV t x v = (mvN t x v : Nat) := by
  unfold movV mvN
  rw [← Int.natCast_mul, ← Int.natCast_ediv, ← Int.natCast_add, Int.toNat_natCast]
theorem mvN_lt {t x v : Nat} (ht : t ≤ 1024) (hx : x ≤ 80000000000) : t * t + x / v < 2 ^ 40 := by
  have h1 : t * t ≤ 1024 * 1024 := Nat.mul_le_mul ht ht
  have h2 : x / v ≤ x := Nat.div_le_self _ _
  omega
theorem mvN_spec {t x v : Nat} (ht : t ≤ 1024) (hx : x ≤ 80000000000) : IsR (t * t + x / v) (mvN t x v) := isq_spec (mvN_lt ht hx)
theorem mvN_mono {t x v t' x' v' : Nat} (ht : t' ≤ 1024) (hx : x' ≤ 80000000000) (h1 : t ≤ t') (h2 : x / v ≤ x' / v') : mvN t x v ≤ mvN t' x' v' :=
  isq_mono (mvN_lt ht hx) (Nat.add_le_add (Nat.mul_le_mul h1 h1) h2)
theorem mvN_zero {t v : Nat} (ht : t ≤ 1024) : mvN t 0 v = t := by
  unfold mvN
  rw [Nat.zero_div, Nat.add_zero]
  have : t * t ≤ 1024 * 1024 := Nat.mul_le_mul ht ht
  exact isq_sq (by omega)
theorem mvN_small {t x v : Nat} (ht : t ≤ 1024) (hx : x ≤ 5000000000) : mvN t x v ≤ 100000 := by
  have h := (mvN_spec (v := v) ht (by omega : x ≤ 80000000000)).1
  have h1 : t * t ≤ 1024 * 1024 := Nat.mul_le_mul ht ht
  have h2 : x / v ≤ x := Nat.div_le_self _ _
  by_cases hc : mvN t x v ≤ 100000
  · exact hc
  · have : 100001 * 100001 ≤ mvN t x v * mvN t x v := Nat.mul_le_mul (by omega) (by omega)
    omega
theorem inN {t x v : Nat} (ht : t ≤ 1024) (hx : x ≤ 80000000000) (h1 : 1 ≤ v) (h2 : v ≤ 1000000000) : mvE (t : Int) (x : Int) (v : Int) = 0 ∧ mvR (t : Int) (x : Int) (v : Int) = (mvN t x v : Nat) := by
  have h : mvE (t : Int) (x : Int) (v : Int) = 0 := mvE_of ⟨by omega, by omega, by omega, by omega, by omega, by omega⟩
  exact ⟨h, by rw [mvR, if_pos h, movN]⟩
set_option maxRecDepth 20000 in
theorem w5 (t x v : Nat) (ht : t < 65536) (hx : x < 4294967296) (hv : v < 65536) : AC Tryz.prog 5 [.int .u16 t, .int .u32 x, .int .u16 v] G0 9 (.bool true) G0 9 := by
  have hr := recT_ok (P := Tryz.prog) (l := [(15, g15), (17, g17)]) (by simp [ok15, ok17])
  refine AC.pure Tryz.func5 rfl (by kernel_rfl) rfl [] rfl ?_
  refine E.seq ?_
  refine E.reg hr (by simp [argsFr, Tryz.f5]; rfl) ?_ -- region 0
  refine E.seq ?_
  refine E.seq ?_
  refine E.reg hr (by simp [g15]; rfl) ?_ -- region 1
  refine E.cond (by rfl) (fun h => ?_) (fun h => ?_)
  · simp at h
  refine E.skip ?_
  refine E.seq ?_
  have hwt : IntKind.i64.wrap (t : Int) = t := W_in (by omega) (by omega)
  have hwx : IntKind.i64.wrap (x : Int) = x := W_in (by omega) (by omega)
  have hwv : IntKind.i64.wrap (v : Int) = v := W_in (by omega) (by omega)
  obtain ⟨m, hm⟩ : ∃ m, t % 1024 = m := ⟨_, rfl⟩
  obtain ⟨s, hs⟩ : ∃ s, v + 1 = s := ⟨_, rfl⟩
  have htm : (t : Int).tmod 1024 = (m : Int) := by rw [Int.tmod_eq_emod_of_nonneg (by omega)]; omega
  have hw1 : IntKind.i64.wrap (1 + (v : Int)) = (s : Int) := by rw [W_in (by omega) (by omega)]; omega
  refine E.reg hr (by simp [opConvert, cv55, hwt, hwv, bin_rem, htm, hw1]; rfl) ?_ -- region 3
  have hm1 : m ≤ 1023 := by omega
  have hs1 : 1 ≤ s := by omega
  have hs2 : s ≤ 65536 := by omega
  obtain ⟨m1, hm1e⟩ : ∃ m1, m + 1 = m1 := ⟨_, rfl⟩
  obtain ⟨x1, hx1e⟩ : ∃ x1, x + 1000 = x1 := ⟨_, rfl⟩
  obtain ⟨s1, hs1e⟩ : ∃ s1, s + 1 = s1 := ⟨_, rfl⟩
  have hwm : IntKind.i64.wrap ((m : Int) + 1) = (m1 : Int) := by rw [W_in (by omega) (by omega)]; omega
  have hwx2 : IntKind.i64.wrap ((x : Int) + 1000) = (x1 : Int) := by rw [W_in (by omega) (by omega)]; omega
  have hws : IntKind.i64.wrap ((s : Int) + 1) = (s1 : Int) := by rw [W_in (by omega) (by omega)]; omega
  obtain ⟨e1, r1⟩ := inN (t := m) (x := x) (v := s) (by omega) (by omega) hs1 (by omega)
  obtain ⟨e2, r2⟩ := inN (t := m1) (x := x) (v := s) (by omega) (by omega) hs1 (by omega)
  obtain ⟨e3, r3⟩ := inN (t := m) (x := x1) (v := s) (by omega) (by omega) hs1 (by omega)
  obtain ⟨e4, r4⟩ := inN (t := m) (x := x) (v := s1) (by omega) (by omega) (by omega) (by omega)
  obtain ⟨e5', r5'⟩ := inN (t := m) (x := 0) (v := s) (by omega) (by omega) hs1 (by omega)
  have e5 : mvE (m : Int) 0 (s : Int) = 0 := e5'
  have r5 : mvR (m : Int) 0 (s : Int) = (m : Int) := by rw [mvN_zero (by omega)] at r5'; exact r5'
  clear e5' r5'
  have hsp := mvN_spec (t := m) (x := x) (v := s) (by omega) (by omega)
  have hsm := mvN_small (t := m) (x := x) (v := s) (by omega) (by omega)
  have hl := mvN_mono (t := m) (x := x) (v := s) (t' := m1) (x' := x) (v' := s) (by omega) (by omega) (by omega) (Nat.le_refl _)
  have hf := mvN_mono (t := m) (x := x) (v := s) (t' := m) (x' := x1) (v' := s) (by omega) (by omega) (by omega) (Nat.div_le_div_right (by omega))
  have hsl := mvN_mono (t := m) (x := x) (v := s1) (t' := m) (x' := x) (v' := s) (by omega) (by omega) (by omega) (Nat.div_le_div_left (by omega) (by omega))
  have hxs : x / s ≤ x := Nat.div_le_self _ _
  have hmm : m * m ≤ 1024 * 1024 := Nat.mul_le_mul (by omega) (by omega)
  obtain ⟨mm, hmme⟩ : ∃ mm, m * m = mm := ⟨_, rfl⟩
  obtain ⟨q, hqe⟩ : ∃ q, x / s = q := ⟨_, rfl⟩
  rw [hmme, hqe] at hsp
  rw [hmme] at hmm
  rw [hqe] at hxs
  have hwmm : IntKind.i64.wrap ((m : Int) * m) = (mm : Int) := by rw [← Int.natCast_mul, hmme, W_in (by omega) (by omega)]
  have hq : (x : Int).tdiv s = (q : Int) := by rw [Int.tdiv_eq_ediv_of_nonneg (by omega), ← Int.natCast_ediv, hqe]
  have hs0 : (s : Int) ≠ 0 := by omega
  have hs0' : s ≠ 0 := by omega
  have hwq : IntKind.i64.wrap (q : Int) = (q : Int) := W_in (by omega) (by omega)
  obtain ⟨n, hne⟩ : ∃ n, mm + q = n := ⟨_, rfl⟩
  rw [hne] at hsp
  have hwsum : IntKind.i64.wrap ((mm : Int) + (q : Int)) = (n : Int) := by rw [W_in (by omega) (by omega)]; omega
  have hw0 : IntKind.i64.wrap 0 = 0 := W_in (by omega) (by omega)
  refine E.seq ?_
  refine E.reg hr (by simp [opConvert, cv56, hwx, g17, e1, r1]; rfl) ?_ -- region 4
  refine E.seq ?_
  refine E.reg hr (by simp [opConvert, cv56, hwx, hwm, g17, e2, r2]; rfl) ?_ -- region 5
  refine E.seq ?_
  refine E.reg hr (by simp [opConvert, cv56, hwx, hwx2, g17, e3, r3]; rfl) ?_ -- region 6
  refine E.seq ?_
  refine E.reg hr (by simp [opConvert, cv56, hwx, hws, g17, e4, r4]; rfl) ?_ -- region 7
  refine E.seq ?_
  refine E.reg hr (by simp [g17, e5, r5]; rfl) ?_ -- region 8
  refine E.seq ?_
  refine E.reg hr (by simp [opConvert, cv56, hwx, bin_quo, hs0', hwmm, hq, hwq, hwsum]; rfl) ?_ -- region 9
  refine E.seq ?_
  generalize mvN m x s = a at *
  generalize mvN m1 x s = b at *
  generalize mvN m x1 s = c at *
  generalize mvN m x s1 = d at *
  obtain ⟨h1, h2⟩ := hsp
  have hbb : (a + 1) * (a + 1) ≤ 100001 * 100001 := Nat.mul_le_mul (by omega) (by omega)
  have hab : a * a ≤ 100001 * 100001 := Nat.mul_le_mul (by omega) (by omega)
  obtain ⟨a1, ha1e⟩ : ∃ a1, a + 1 = a1 := ⟨_, rfl⟩
  rw [ha1e] at h2 hbb
  obtain ⟨aa, haae⟩ : ∃ aa, a * a = aa := ⟨_, rfl⟩
  obtain ⟨bb, hbbe⟩ : ∃ bb, a1 * a1 = bb := ⟨_, rfl⟩
  rw [haae] at h1 hab
  rw [hbbe] at h2 hbb
  have haa : IntKind.i64.wrap ((a : Int) * a) = (aa : Int) := by rw [← Int.natCast_mul, haae, W_in (by omega) (by omega)]
  have ha1 : IntKind.i64.wrap ((a : Int) + 1) = (a1 : Int) := by rw [W_in (by omega) (by omega)]; omega
  have haa1 : IntKind.i64.wrap ((a1 : Int) * (a1 : Int)) = (bb : Int) := by rw [← Int.natCast_mul, hbbe, W_in (by omega) (by omega)]
  have c1 : (a : Int) ≤ 100000 := by omega
  refine E.reg hr (by simp [oneF_guard, yieldedA, hw0, haa, ha1, haa1, c1, h1, h2, hl, hf, hsl]; rfl) ?_ -- region 10
  refine E.ret ?_
  exact pureK.ret rfl rfl (by simp) (by repeat first | exact sub_refl _ | refine sub_cons rfl ?_)
end Go.Proofs.YtkongcnmkiihjaaGreatDoor
