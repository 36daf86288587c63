/-
The walks behind the law VelocityMoved: the checks of settings, by the program and by the reference, return the same first error; so does a moved time (each a contract: no condition but those in its statement).
-/
import Derived.Test.YtkongcnmkiihjaaGreatDoorYc
import Derived.Test.YtkongcnmkiihjaaGreatDoorAh
namespace Go.Proofs.YtkongcnmkiihjaaGreatDoor
open Go Go.Ab Go.Proofs
theorem w99 (b : Bool) (e : Int) : AC Tryz.prog 99 [.bool b, .int .i64 e] [] 9 (.int .i64 (whenV b e)) [] 9 := by
  have hr := recT_ok (P := Tryz.prog) (l := []) (by simp)
  refine AC.pure Tryz.func99 rfl (by kernel_rfl) rfl [] rfl ?_
  refine E.seq ?_
  refine E.reg hr (by simp [argsFr, Tryz.f99]; rfl) ?_ -- region 0
  refine E.seq ?_
  refine E.seq ?_
  refine E.reg hr (by simp; rfl) ?_ -- region 1
  refine E.cond (by rfl) (fun h => ?_) (fun h => ?_)
  · try simp at h
    refine E.seq ?_
    refine E.reg hr (by simp; rfl) ?_ -- region 2
    refine E.ret ?_
    exact pureK.ret rfl rfl (by simp [one, whenV, h]) (sub_refl _)
  · try simp at h
    refine E.skip ?_
    refine E.seq ?_
    refine E.reg hr (by simp; rfl) ?_ -- region 3
    refine E.ret ?_
    exact pureK.ret rfl rfl (by simp [one, whenV, h]) (sub_refl _)
def g99 (args : List Value) (H : Heap) (n : Nat) : R := match args with
  | [.bool b, .int .i64 e] => some (.int .i64 (whenV b e), H, n)
  | _ => none
theorem ok99 : EntOk Tryz.prog (99, g99) := by
  intro args H n v H' n' h
  simp only [g99] at h
  split at h
  · rename_i b e
    injection h with h; injection h with e1 e2; injection e2 with e2 e3; subst e1 e2 e3
    exact AC.liftP rfl (Part.plain (by simp) [] (by simp [Seen]) gsz ⟨_, _, w99 b e⟩)
  · cases h
theorem w37 (a lo hi : Int) : AC Tryz.prog 37 [.int .i64 a, .int .i64 lo, .int .i64 hi] [] 9 (.int .i64 (withinV a lo hi)) [] 9 := by
  have hr := recT_ok (P := Tryz.prog) (l := [(99, g99)]) (by simp [ok99])
  refine AC.pure Tryz.func37 rfl (by kernel_rfl) rfl [] rfl ?_
  refine E.seq ?_
  refine E.reg hr (by simp [argsFr, Tryz.f37]; rfl) ?_ -- region 0
  refine E.seq ?_
  by_cases h1 : a < lo
  · refine E.reg hr (by simp [h1, oneF_guard, yieldedA, g99]; rfl) ?_ -- region 1
    refine E.ret ?_
    exact pureK.ret rfl rfl (by simp [one, withinV, whenV, h1]) (sub_refl _)
  · refine E.reg hr (by simp [h1, oneF_guard, yieldedA, g99]; rfl) ?_ -- region 1
    refine E.ret ?_
    exact pureK.ret rfl rfl (by simp [one, withinV, whenV, h1]) (sub_refl _)
def g37 (args : List Value) (H : Heap) (n : Nat) : R := match args with
  | [.int .i64 a, .int .i64 b, .int .i64 c] => some (.int .i64 (withinV a b c), H, n)
  | _ => none
theorem ok37 : EntOk Tryz.prog (37, g37) := by
  intro args H n v H' n' h
  simp only [g37] at h
  split at h
  · injection h with h; injection h with e1 e2; injection e2 with e2 e3; subst e1 e2 e3
    exact AC.liftP rfl (Part.plain (by simp) [] (by simp [Seen]) gsz ⟨_, _, w37 _ _ _⟩)
  · cases h
theorem w64 (v : Int) : AC Tryz.prog 64 [iv v] [] 9 (iv (velV v)) [] 9 := by
  have hr := recT_ok (P := Tryz.prog) (l := [(37, g37)]) (by simp [ok37])
  refine AC.pure Tryz.func64 rfl (by kernel_rfl) rfl [] rfl ?_
  refine E.seq ?_
  refine E.reg hr (by simp [argsFr, Tryz.f64]; rfl) ?_ -- region 0
  refine E.seq ?_
  refine E.reg hr (by simp [g37]; rfl) ?_ -- region 1
  refine E.ret ?_
  exact pureK.ret rfl rfl (by simp [one, velV]) (sub_refl _)
def g64 (args : List Value) (H : Heap) (n : Nat) : R := match args with
  | [.int .i64 a] => some (.int .i64 (velV a), H, n)
  | _ => none
theorem ok64 : EntOk Tryz.prog (64, g64) := by
  intro args H n v H' n' h
  simp only [g64] at h
  split at h
  · injection h with h; injection h with e1 e2; injection e2 with e2 e3; subst e1 e2 e3
    exact AC.liftP rfl (Part.plain (by simp) [] (by simp [Seen]) gsz ⟨_, _, w64 _⟩)
  · cases h
theorem w65 (v : Int) : AC Tryz.prog 65 [iv v] [] 9 (iv (withinV v 0 1024)) [] 9 := by
  have hr := recT_ok (P := Tryz.prog) (l := [(37, g37)]) (by simp [ok37])
  refine AC.pure Tryz.func65 rfl (by kernel_rfl) rfl [] rfl ?_
  refine E.seq ?_
  refine E.reg hr (by simp [argsFr, Tryz.f65]; rfl) ?_ -- region 0
  refine E.seq ?_
  refine E.reg hr (by simp [g37]; rfl) ?_ -- region 1
  refine E.ret ?_
  exact pureK.ret rfl rfl (by simp [one]) (sub_refl _)
def g65 (args : List Value) (H : Heap) (n : Nat) : R := match args with
  | [.int .i64 a] => some (.int .i64 (withinV a 0 1024), H, n)
  | _ => none
theorem ok65 : EntOk Tryz.prog (65, g65) := by
  intro args H n v H' n' h
  simp only [g65] at h
  split at h
  · injection h with h; injection h with e1 e2; injection e2 with e2 e3; subst e1 e2 e3
    exact AC.liftP rfl (Part.plain (by simp) [] (by simp [Seen]) gsz ⟨_, _, w65 _⟩)
  · cases h
theorem w66 (v : Int) : AC Tryz.prog 66 [iv v] [] 9 (iv (withinV v 0 16)) [] 9 := by
  have hr := recT_ok (P := Tryz.prog) (l := [(37, g37)]) (by simp [ok37])
  refine AC.pure Tryz.func66 rfl (by kernel_rfl) rfl [] rfl ?_
  refine E.seq ?_
  refine E.reg hr (by simp [argsFr, Tryz.f66]; rfl) ?_ -- region 0
  refine E.seq ?_
  refine E.reg hr (by simp [g37]; rfl) ?_ -- region 1
  refine E.ret ?_
  exact pureK.ret rfl rfl (by simp [one]) (sub_refl _)
def g66 (args : List Value) (H : Heap) (n : Nat) : R := match args with
  | [.int .i64 a] => some (.int .i64 (withinV a 0 16), H, n)
  | _ => none
theorem ok66 : EntOk Tryz.prog (66, g66) := by
  intro args H n v H' n' h
  simp only [g66] at h
  split at h
  · injection h with h; injection h with e1 e2; injection e2 with e2 e3; subst e1 e2 e3
    exact AC.liftP rfl (Part.plain (by simp) [] (by simp [Seen]) gsz ⟨_, _, w66 _⟩)
  · cases h
theorem w97 (v : Int) : AC Tryz.prog 97 [iv v] [] 9 (iv (withinV v 0 16)) [] 9 := by
  have hr := recT_ok (P := Tryz.prog) (l := [(91, g91)]) (by simp [ok91])
  refine AC.pure Tryz.func97 rfl (by kernel_rfl) rfl [] rfl ?_
  refine E.seq ?_
  refine E.reg hr (by simp [argsFr, Tryz.f97]; rfl) ?_ -- region 0
  refine E.seq ?_
  refine E.reg hr (by simp [g91]; rfl) ?_ -- region 1
  refine E.ret ?_
  exact pureK.ret rfl rfl (by simp [one]) (sub_refl _)
def g97 (args : List Value) (H : Heap) (n : Nat) : R := match args with
  | [.int .i64 a] => some (.int .i64 (withinV a 0 16), H, n)
  | _ => none
theorem ok97 : EntOk Tryz.prog (97, g97) := by
  intro args H n v H' n' h
  simp only [g97] at h
  split at h
  · injection h with h; injection h with e1 e2; injection e2 with e2 e3; subst e1 e2 e3
    exact AC.liftP rfl (Part.plain (by simp) [] (by simp [Seen]) gsz ⟨_, _, w97 _⟩)
  · cases h
theorem w98 (v : Int) : AC Tryz.prog 98 [iv v] [] 9 (iv (withinV v 0 1024)) [] 9 := by
  have hr := recT_ok (P := Tryz.prog) (l := [(91, g91)]) (by simp [ok91])
  refine AC.pure Tryz.func98 rfl (by kernel_rfl) rfl [] rfl ?_
  refine E.seq ?_
  refine E.reg hr (by simp [argsFr, Tryz.f98]; rfl) ?_ -- region 0
  refine E.seq ?_
  refine E.reg hr (by simp [g91]; rfl) ?_ -- region 1
  refine E.ret ?_
  exact pureK.ret rfl rfl (by simp [one]) (sub_refl _)
def g98 (args : List Value) (H : Heap) (n : Nat) : R := match args with
  | [.int .i64 a] => some (.int .i64 (withinV a 0 1024), H, n)
  | _ => none
theorem ok98 : EntOk Tryz.prog (98, g98) := by
  intro args H n v H' n' h
  simp only [g98] at h
  split at h
  · injection h with h; injection h with e1 e2; injection e2 with e2 e3; subst e1 e2 e3
    exact AC.liftP rfl (Part.plain (by simp) [] (by simp [Seen]) gsz ⟨_, _, w98 _⟩)
  · cases h
theorem w95 (n : Nat) (hn : n < 2 ^ 40) : AC Tryz.prog 95 [iv n] [] 9 (iv (isq n)) [] 9 := by
  have hr := recT_ok (P := Tryz.prog) (l := []) (by simp)
  refine AC.pure Tryz.func95 rfl (by kernel_rfl) rfl [0, 3, 4] rfl ?_
  refine E.seq ?_
  refine E.reg hr (by simp [argsFr, Tryz.f95]; rfl) ?_ -- region 0
  refine E.seq ?_
  refine E.reg hr (by simp; rfl) ?_ -- region 1
  refine E.seq ?_
  refine E.block ?_ -- 0
  refine E.loop ?_
  refine EL.ind (fun x : Nat × Nat => { fr := [(0, iv n), (3, iv x.1), (4, iv x.2)], sz := 23, H := [], n := 9, marks := [], vs := [0, 3, 4] }) (fun x => x.2 - x.1) (fun x => x.1 ≤ x.2 ∧ x.2 ≤ 1048576 ∧ x.1 * x.1 ≤ n ∧ n < (x.2 + 1) * (x.2 + 1)) (0, 1048576) (.less rfl rfl rfl (by simp) (by simp)) ⟨by omega, by omega, by omega, by omega⟩ (fun _ => rfl) ?_
  rintro ⟨lo, hi⟩ ⟨h1, h2, h3, h4⟩
  dsimp only at h1 h2 h3 h4
  refine E.seq ?_
  refine E.seq ?_
  refine E.reg hr (by simp; rfl) ?_ -- region 2
  refine E.cond (by rfl) (fun h => ?_) (fun h => ?_)
  · simp at h
    refine E.skip ?_
    refine E.block ?_ -- 1
    refine E.seq ?_
    have hw1 : IntKind.i64.wrap ((lo : Int) + hi) = (lo : Int) + hi := W_in (by omega) (by omega)
    have hw2 : IntKind.i64.wrap ((lo : Int) + hi + 1) = (lo : Int) + hi + 1 := W_in (by omega) (by omega)
    obtain ⟨mid, hmid⟩ : ∃ mid, (lo + hi + 1) / 2 = mid := ⟨_, rfl⟩
    have hq : ((lo : Int) + hi + 1).tdiv 2 = (mid : Int) := by rw [Int.tdiv_eq_ediv_of_nonneg (by omega)]; omega
    have hw3 : IntKind.i64.wrap (mid : Int) = mid := W_in (by omega) (by omega)
    refine E.reg hr (by simp [bin_quo, hw1, hw2, hq, hw3]; rfl) ?_ -- region 3
    have hm1 : lo < mid := by omega
    have hm2 : mid ≤ hi := by omega
    have hmm : mid * mid ≤ 2147483647 * 2147483647 := Nat.mul_le_mul (by omega) (by omega)
    obtain ⟨mm, hmm2⟩ : ∃ mm, mid * mid = mm := ⟨_, rfl⟩
    have hw4 : IntKind.i64.wrap ((mid : Int) * mid) = (mm : Int) := by rw [← hmm2, ← Int.natCast_mul, W_in (by omega) (by omega)]
    refine E.seq ?_
    refine E.reg hr (by simp [hw4]; rfl) ?_ -- region 4
    refine E.cond (by rfl) (fun h => ?_) (fun h => ?_)
    · simp at h
      refine E.reg hr (by simp; rfl) ?_ -- region 5
      exact ⟨(mid, hi), .less rfl rfl rfl (by simp) (by simp), ⟨hm2, h2, by dsimp only; omega, h4⟩, by dsimp only; omega⟩
    · simp at h
      have hw5 : IntKind.i64.wrap ((mid : Int) - 1) = ((mid - 1 : Nat) : Int) := by rw [W_in (by omega) (by omega)]; omega
      refine E.reg hr (by simp [hw5]; rfl) ?_ -- region 6
      exact ⟨(lo, mid - 1), .less rfl rfl rfl (by simp) (by simp), ⟨by dsimp only; omega, by dsimp only; omega, h3, by dsimp only; rw [show mid - 1 + 1 = mid by omega]; omega⟩, by dsimp only; omega⟩
  · simp at h
    refine E.exit ?_ -- 0
    refine E.seq ?_
    refine E.reg hr (by simp; rfl) ?_ -- region 7
    refine E.ret ?_
    have hlh : lo = hi := by omega
    subst hlh
    exact pureK.ret rfl rfl (by simp [one, isq_eq hn ⟨h3, h4⟩]) (sub_refl _)
def g95 (args : List Value) (H : Heap) (n : Nat) : R := match args with
  | [.int .i64 a] => if 0 ≤ a ∧ a < 1099511627776 then some (.int .i64 (isq a.toNat), H, n) else none
  | _ => none
theorem ok95 : EntOk Tryz.prog (95, g95) := by
  intro args H n v H' n' h
  simp only [g95] at h
  split at h
  · split at h
    · rename_i a hc
      injection h with h; injection h with e1 e2; injection e2 with e2 e3; subst e1 e2 e3
      have := w95 a.toNat (by omega)
      rw [show ((a.toNat : Nat) : Int) = a by omega] at this
      exact AC.liftP rfl (Part.plain (by simp) [] (by simp [Seen]) gsz ⟨_, _, this⟩)
    · cases h
  · cases h
theorem w19 (t q v : Int) (h : MvIn t q v) : AC Tryz.prog 19 [iv t, iv q, iv v] [] 9 (iv (movV t q v)) [] 9 := by
  have hr := recT_ok (P := Tryz.prog) (l := [(95, g95)]) (by simp [ok95])
  refine AC.pure Tryz.func19 rfl (by kernel_rfl) rfl [] rfl ?_
  refine E.seq ?_
  refine E.reg hr (by simp [argsFr, Tryz.f19]; rfl) ?_ -- region 0
  refine E.seq ?_
  obtain ⟨h1, h2, h3, h4⟩ := mv_in h
  have hv : v ≠ 0 := by have := h.2.2.2.2.1; omega
  have hw1 : IntKind.i64.wrap (t * t) = t * t := W_in (by omega) (by omega)
  have hq : q.tdiv v = q / v := Int.tdiv_eq_ediv_of_nonneg h.2.2.1
  have hw2 : IntKind.i64.wrap (q / v) = q / v := W_in (by omega) (by omega)
  have hw3 : IntKind.i64.wrap (t * t + q / v) = t * t + q / v := W_in (by omega) (by omega)
  have hc : 0 ≤ t * t + q / v ∧ t * t + q / v < 1099511627776 := ⟨by omega, by omega⟩
  refine E.reg hr (by simp [bin_quo, hv, hw1, hq, hw2, hw3, g95, hc]; rfl) ?_ -- region 1
  refine E.ret ?_
  exact pureK.ret rfl rfl (by simp [one, movV]) (sub_refl _)
def g19 (args : List Value) (H : Heap) (n : Nat) : R := match args with
  | [.int .i64 a, .int .i64 b, .int .i64 c] => if MvIn a b c then some (.int .i64 (movV a b c), H, n) else none
  | _ => none
theorem ok19 : EntOk Tryz.prog (19, g19) := by
  intro args H n v H' n' h
  simp only [g19] at h
  split at h
  · split at h
    · rename_i hc
      injection h with h; injection h with e1 e2; injection e2 with e2 e3; subst e1 e2 e3
      exact AC.liftP rfl (Part.plain (by simp) [] (by simp [Seen]) gsz ⟨_, _, w19 _ _ _ hc⟩)
    · cases h
  · cases h
theorem w94 (l : List Int) (o c : Nat) (hl : l.length < 2 ^ 31) : AC Tryz.prog 94 [.slice (some ⟨9, o, none⟩) l.length c] [(9, .inp o (l.map iv))] 10 (iv (firstV l)) [(9, .inp o (l.map iv))] 10 := by
  have hr := recT_ok (P := Tryz.prog) (l := []) (by simp)
  refine AC.pure Tryz.func94 rfl (by kernel_rfl) rfl [0, 3] rfl ?_
  refine E.seq ?_
  refine E.reg hr (by simp; rfl) ?_ -- region 0
  refine E.seq ?_
  refine E.seq ?_
  refine E.reg hr (by simp; rfl) ?_ -- region 1
  refine E.block ?_ -- 0
  refine E.loop ?_
  refine EL.ind (fun i : Nat => { fr := [(0, .slice (some ⟨9, o, none⟩) l.length c), (3, iv i)], sz := 19, H := [(9, .inp o (l.map iv))], n := 10, marks := [], vs := [0, 3] }) (fun i => l.length - i) (fun i => i ≤ l.length ∧ firstV (l.drop i) = firstV l) 0 (.less rfl rfl rfl (by simp) (by simp)) ⟨Nat.zero_le _, rfl⟩ (fun _ => rfl) ?_
  intro i ⟨hi, hg⟩
  have hw : IntKind.i64.wrap ((i : Int) + 1) = (i : Int) + 1 := W_in (by omega) (by omega)
  refine E.seq ?_
  refine E.seq ?_
  refine E.reg hr (by simp [opBuiltin, builtinA]; rfl) ?_ -- region 2
  refine E.cond (by rfl) (fun h => ?_) (fun h => ?_)
  · simp at h
    refine E.skip ?_
    refine E.seq ?_
    refine E.block ?_ -- 1
    refine E.seq ?_
    refine E.reg hr (by simp [opIndexaddr, Tryz.underlying24, flat, h, loadA, cellA]; rfl) ?_ -- region 4
    refine E.cond (by rfl) (fun h2 => ?_) (fun h2 => ?_)
    · simp at h2
      refine E.seq ?_
      refine E.reg hr (by simp [opIndexaddr, Tryz.underlying24, flat, h, loadA, cellA]; rfl) ?_ -- region 5
      refine E.ret ?_
      refine pureK.ret rfl rfl ?_ (sub_refl _)
      rw [List.drop_eq_getElem_cons h] at hg
      simp [one, ← hg, firstV, h2]
    · simp at h2
      refine E.skip ?_
      refine E.reg hr (by simp [hw]; rfl) ?_ -- region 3
      rw [List.drop_eq_getElem_cons h] at hg
      exact ⟨i + 1, .less rfl rfl rfl (by simp) (by simp), ⟨h, by rw [← hg]; simp [firstV, h2]⟩, by dsimp only; omega⟩
  · simp at h
    refine E.exit ?_ -- 0
    refine E.seq ?_
    refine E.reg hr (by simp; rfl) ?_ -- region 6
    refine E.ret ?_
    have : l.drop i = [] := by simp; omega
    refine pureK.ret rfl rfl ?_ (sub_refl _)
    simp [one, ← hg, this, firstV]
def g94 (args : List Value) (H : Heap) (n : Nat) : R := match args with
  | [.slice (some a) len _] => (intsAt H a len).map fun l => (iv (firstV l), H, n)
  | _ => none
theorem ok94 : EntOk Tryz.prog (94, g94) := by
  intro args H n v H' n' h
  simp only [g94] at h
  split at h
  · rename_i a len c
    rw [Option.map_eq_some_iff] at h
    obtain ⟨l, h1, h⟩ := h
    injection h with e1 e2; injection e2 with e2 e3; subst e1 e2 e3
    obtain ⟨hf, hc, hlen, hlt⟩ := intsAt_ok h1
    subst hlen
    exact AC.liftP rfl (Part.one (fun s => [s]) (by intro φ φ0 s s0 h; simp [denL, h]) (by intro p s h; exact ⟨h, trivial⟩) hf hc (afL_iv l) [] (by simp [Seen]) gsz fun c => ⟨_, _, w94 l _ c hlt⟩)
  · cases h
theorem w18 (t q v : Int) : AC Tryz.prog 18 [iv t, iv q, iv v] [] 9 (iv (mvE t q v)) [] 9 := by
  have hr := recT_ok (P := Tryz.prog) (l := [(37, g37), (64, g64), (94, g94)]) (by simp [ok37, ok64, ok94])
  refine AC.pure Tryz.func18 rfl (by kernel_rfl) rfl [] rfl ?_
  refine E.seq ?_
  refine E.reg hr (by simp; rfl) ?_ -- region 0
  refine E.seq ?_
  have he : firstV [withinV t 0 1024, withinV q 0 80000000000, velV v] = mvE t q v := rfl
  refine E.reg hr (by simp [g37, g64, g94, intsAt, flat, cellsA, intsOf, Nat.blt, he]; rfl) ?_ -- region 1
  refine E.ret ?_
  exact pureK.ret rfl rfl (by simp) (by repeat first | exact sub_refl _ | refine sub_cons rfl ?_)
def g18 (args : List Value) (H : Heap) (n : Nat) : R := match args with
  | [.int .i64 a, .int .i64 b, .int .i64 c] => some (.int .i64 (mvE a b c), H, n)
  | _ => none
theorem ok18 : EntOk Tryz.prog (18, g18) := by
  intro args H n v H' n' h
  simp only [g18] at h
  split at h
  · injection h with h; injection h with e1 e2; injection e2 with e2 e3; subst e1 e2 e3
    exact AC.liftP rfl (Part.plain (by simp) [] (by simp [Seen]) gsz ⟨_, _, w18 _ _ _⟩)
  · cases h
/-- a slice of integers, the absent one too -/
def intsW (H : Heap) : Value → Option (List Int)
  | .slice none 0 0 => some []
  | .slice (some a) len _ => intsAt H a len
  | _ => none
def fanK (k : Nat) : Bool := decide (k ≤ 5) || decide (k = 17)
theorem w16 (k o c : Nat) : AC Tryz.prog 16 [.slice (some ⟨9, o, none⟩) k c] [(9, .inp o [])] 10 (.bool (fanK k)) [(9, .inp o [])] 10 := by
  have hr := recT_ok (P := Tryz.prog) (l := []) (by simp)
  refine AC.pure Tryz.func16 rfl (by kernel_rfl) rfl [] rfl ?_
  refine E.seq ?_
  refine E.reg hr (by simp; rfl) ?_ -- region 0
  refine E.seq ?_
  by_cases h : k ≤ 5
  · have h' : (k : Int) ≤ 5 := by omega
    refine E.reg hr (by simp [opBuiltin, builtinA, oneF_guard, yieldedA, h']; rfl) ?_ -- region 1
    refine E.ret ?_
    exact pureK.ret rfl rfl (by simp [fanK, h]) (by repeat first | exact sub_refl _ | refine sub_cons rfl ?_)
  · have h' : ¬ (k : Int) ≤ 5 := by omega
    refine E.reg hr (by simp [opBuiltin, builtinA, oneF_guard, yieldedA, h']; rfl) ?_ -- region 1
    refine E.ret ?_
    refine pureK.ret rfl rfl ?_ (by repeat first | exact sub_refl _ | refine sub_cons rfl ?_)
    have : ((k : Int) = 17) = (k = 17) := by rw [eq_iff_iff]; omega
    simp [fanK, h, this]
theorem w16n : AC Tryz.prog 16 [.slice none 0 0] [] 9 (.bool true) [] 9 := by
  have hr := recT_ok (P := Tryz.prog) (l := []) (by simp)
  refine AC.pure Tryz.func16 rfl (by kernel_rfl) rfl [] rfl ?_
  refine E.seq ?_
  refine E.reg hr (by simp; rfl) ?_ -- region 0
  refine E.seq ?_
  refine E.reg hr (by simp [opBuiltin, builtinA, oneF_guard, yieldedA]; rfl) ?_ -- region 1
  refine E.ret ?_
  exact pureK.ret rfl rfl (by simp) (by repeat first | exact sub_refl _ | refine sub_cons rfl ?_)
def g16 (args : List Value) (H : Heap) (n : Nat) : R := match args with
  | [.slice none 0 0] => some (.bool true, H, n)
  | [.slice (some a) len _] => match flat a, cellsA H a.block a.off 0 with
    | true, some [] => some (.bool (fanK len), H, n)
    | _, _ => none
  | _ => none
theorem ok16 : EntOk Tryz.prog (16, g16) := by
  intro args H n v H' n' h
  simp only [g16] at h
  split at h
  · injection h with h; injection h with e1 e2; injection e2 with e2 e3; subst e1 e2 e3
    exact AC.liftP rfl (Part.plain (by simp) [] (by simp [Seen]) gsz ⟨_, _, w16n⟩)
  · split at h
    · rename_i hf hc
      injection h with h; injection h with e1 e2; injection e2 with e2 e3; subst e1 e2 e3
      exact AC.liftP rfl (Part.one (fun s => [s]) (by intro φ φ0 s s0 h; simp [denL, h]) (by intro p s h; exact ⟨h, trivial⟩) hf hc rfl [] (by simp [Seen]) gsz fun c => ⟨_, _, w16 _ _ c⟩)
    · cases h
  · cases h
end Go.Proofs.YtkongcnmkiihjaaGreatDoor

namespace Go.Proofs.YtkongcnmkiihjaaGreatDoor
open Go Go.Ab Go.Proofs
theorem names_sx (l c : Nat) : Names1 fun m => .slice (some ⟨m, 0, some 0⟩) l c := ⟨fun φ ψ m n h1 h2 => by simp [den, h1, h2], fun p n h => by simp [sc, h]⟩
theorem names_fl (l c : Nat) : Names1 fun m => .slice (some ⟨m, 0, none⟩) l c := ⟨fun φ ψ m n h1 h2 => by simp [den, h1], fun p n h => by simp [sc, h]⟩
def intQ (k : Nat) (l : List Int) (u : Value) (H : Heap) : Prop := ∃ m, u = .slice (some ⟨m, 0, some 0⟩) l.length 0 ∧ hget H m = some (.ext (l.map iv) 3 1) ∧ k ≤ m
/-! ### a copy of integers -/
@[simp] theorem oneL_iv (l : List Int) : oneL (l.map iv) = true := by
  induction l with
  | nil => rfl
  | cons a l ih => simp [oneL, ih]
theorem w34 (sh : List Int) (o c : Nat) (hne : sh ≠ []) (hl : sh.length ≤ 4096) : ∃ u H1 n1 H2, AC Tryz.prog 34 [.slice (some ⟨9, o, none⟩) sh.length c] [(9, .inp o (sh.map iv))] 10 u H1 n1 ∧ intQ 10 sh u H2 ∧ (af u = false → H1 = H2) := by
  have hr := recT_ok (P := Tryz.prog) (l := []) (by simp)
  have hpos : 0 < sh.length := List.length_pos_iff.2 hne
  have ht : List.take sh.length (sh.map iv) = sh.map iv := List.take_of_length_le (by simp)
  have hsm : sh.length * 8 ≤ 1099511627776 ∧ sh.length ≤ 1099511627776 := by omega
  have hn0 : ¬ sh.length = 0 := by omega
  refine AC.out Tryz.func34 rfl (by kernel_rfl) rfl [] ?_
  refine E.seq ?_
  refine E.reg hr (by simp; rfl) ?_ -- region 0
  refine E.seq ?_
  refine E.reg hr (by simp [ht, hsm, hne]; rfl) ?_ -- region 1
  refine E.ret ?_
  refine outK.ret rfl rfl ?_
  exact ⟨11, by simp, by simp, by omega⟩
def emQ (k : Nat) (u : Value) (H : Heap) : Prop := ∃ m, u = .slice (some ⟨m, 0, none⟩) 0 0 ∧ hget H m = some (.cells [] 3) ∧ k ≤ m
theorem w34e (o c : Nat) : ∃ u H1 n1 H2, AC Tryz.prog 34 [.slice (some ⟨9, o, none⟩) 0 c] [(9, .inp o [])] 10 u H1 n1 ∧ emQ 10 u H2 ∧ (af u = false → H1 = H2) := by
  have hr := recT_ok (P := Tryz.prog) (l := []) (by simp)
  refine AC.out Tryz.func34 rfl (by kernel_rfl) rfl [] ?_
  refine E.seq ?_
  refine E.reg hr (by simp; rfl) ?_ -- region 0
  refine E.seq ?_
  refine E.reg hr (by simp; rfl) ?_ -- region 1
  refine E.ret ?_
  refine outK.ret rfl rfl ?_
  exact ⟨10, by simp, by simp, by omega⟩
theorem w34n : ∃ u H1 n1 H2, AC Tryz.prog 34 [.slice none 0 0] [] 9 u H1 n1 ∧ emQ 9 u H2 ∧ (af u = false → H1 = H2) := by
  have hr := recT_ok (P := Tryz.prog) (l := []) (by simp)
  refine AC.out Tryz.func34 rfl (by kernel_rfl) rfl [] ?_
  refine E.seq ?_
  refine E.reg hr (by simp; rfl) ?_ -- region 0
  refine E.seq ?_
  refine E.reg hr (by simp; rfl) ?_ -- region 1
  refine E.ret ?_
  refine outK.ret rfl rfl ?_
  exact ⟨9, by simp, by simp, by omega⟩
def g34 (args : List Value) (H : Heap) (n : Nat) : R := match args with
  | [t] => match intsW H t with
    | some sh => if sh = [] then some (.slice (some ⟨n, 0, none⟩) 0 0, (n, .cells [] 3) :: H, n + 1) else if sh.length ≤ 4096 then some (.slice (some ⟨n, 0, some 0⟩) sh.length 0, (n, .ext (sh.map iv) 3 1) :: H, n + 1) else none
    | none => none
  | _ => none
theorem ok34 : EntOk Tryz.prog (34, g34) := by
  intro args H n v H' n' h'
  simp only [g34] at h'
  split at h'
  · split at h'
    · rename_i sh ht
      split at h'
      · rename_i he
        subst he
        injection h' with h'; injection h' with e1 e2; injection e2 with e2 e3; subst e1 e2 e3
        unfold intsW at ht
        split at ht
        · refine AC.liftF (names_fl 0 0) (.inl ⟨_, _, rfl, rfl⟩) (Part.plain (by simp) [] (by simp [Seen]) gsz ?_)
          obtain ⟨u, H1, n1, H2, hAC, ⟨m, hu, hm, hle⟩, hh⟩ := w34n
          subst hu
          have := hh (by simp)
          subst this
          exact ⟨m, _, _, hle, hm, hAC⟩
        · obtain ⟨hf, hc, hlen, _⟩ := intsAt_ok ht
          subst hlen
          refine AC.liftF (names_fl 0 0) (.inl ⟨_, _, rfl, rfl⟩) (Part.one (fun x => [x]) (by intro φ φ0 s s0 h; simp [denL, h]) (by intro p s h; exact ⟨h, trivial⟩) hf hc (afL_iv []) [] (by simp [Seen]) gsz fun c => ?_)
          obtain ⟨u, H1, n1, H2, hAC, ⟨m, hu, hm, hle⟩, hh⟩ := w34e _ c
          subst hu
          have := hh (by simp)
          subst this
          exact ⟨m, _, _, hle, hm, hAC⟩
        · cases ht
      · rename_i hne
        split at h'
        · rename_i hl
          injection h' with h'; injection h' with e1 e2; injection e2 with e2 e3; subst e1 e2 e3
          unfold intsW at ht
          split at ht
          · injection ht with ht; exact absurd ht.symm hne
          · obtain ⟨hf, hc, hlen, _⟩ := intsAt_ok ht
            subst hlen
            refine AC.liftF (names_sx _ _) (.inr ⟨_, _, _, rfl, afL_iv _⟩) (Part.one (fun x => [x]) (by intro φ φ0 s s0 h; simp [denL, h]) (by intro p s h; exact ⟨h, trivial⟩) hf hc (afL_iv sh) [] (by simp [Seen]) gsz fun c => ?_)
            obtain ⟨u, H1, n1, H2, hAC, ⟨m, hu, hm, hle⟩, hh⟩ := w34 sh _ c hne hl
            subst hu
            have := hh (by simp)
            subst this
            exact ⟨m, _, _, hle, hm, hAC⟩
          · cases ht
        · cases h'
    · cases h'
  · cases h'
/-! ### a setting with a list of its own -/
abbrev setA (sl : Value) (w s e : Int) : Value := .agg ⟨[sl, iv w, iv s, iv e]⟩
theorem names_set (l c : Nat) (w s e : Int) (sp : Option Nat) : Names1 fun m => setA (.slice (some ⟨m, 0, sp⟩) l c) w s e := ⟨fun φ ψ m n h1 h2 => by cases sp <;> simp [den, denL, h1, h2], fun p n h => by simp [sc, scL, h]⟩
def setQ (k : Nat) (l : List Int) (w s e : Int) (u : Value) (H : Heap) : Prop := ∃ m, u = setA (.slice (some ⟨m, 0, some 0⟩) l.length 0) w s e ∧ hget H m = some (.ext (l.map iv) 3 1) ∧ k ≤ m
def setE0 (k : Nat) (w s e : Int) (u : Value) (H : Heap) : Prop := ∃ m, u = setA (.slice (some ⟨m, 0, none⟩) 0 0) w s e ∧ hget H m = some (.cells [] 3) ∧ k ≤ m
theorem build34 {fr : Fr} {H : Heap} {n : Nat} {x y z u : Operand} {a : Option Addr} {k c : Nat} {w s e : Int} (hx : evO Tryz.prog fr x = some (.slice a k c)) (hy : evO Tryz.prog fr y = some (iv w)) (hz : evO Tryz.prog fr z = some (iv s)) (hu : evO Tryz.prog fr u = some (iv e)) :
    opBuild Tryz.prog 34 #[(0, x), (1, y), (2, z), (3, u)] fr H n = some (setA (.slice a k c) w s e, H, n) := by
  unfold opBuild
  simp only [evPs_cons, evPs_nil, hx, hy, hz, hu]
  kernel_rfl
theorem intsOf_iv : ∀ l : List Int, intsOf (l.map iv) = some l
  | [] => rfl
  | a :: l => by simp [intsOf, intsOf_iv l]
set_option maxRecDepth 10000 in
theorem w21 (l : List Int) (o c : Nat) (w s e : Int) (hne : l ≠ []) (hl : l.length ≤ 4096) : ∃ u H1 n1 H2, AC Tryz.prog 21 [setA (.slice (some ⟨9, o, none⟩) l.length c) w s e] [(9, .inp o (l.map iv))] 10 u H1 n1 ∧ setQ 10 l w s e u H2 ∧ (af u = false → H1 = H2) := by
  have hr := recT_ok (P := Tryz.prog) (l := [(34, g34)]) (by simp [ok34])
  refine AC.out Tryz.func21 rfl (by kernel_rfl) rfl [] ?_
  have ht : List.take l.length (l.map iv) = l.map iv := List.take_of_length_le (by simp)
  refine E.seq ?_
  refine E.reg hr (by simp; rfl) ?_ -- region 0
  refine E.seq ?_
  refine E.drawC mixed hr [10] [2, 10] [1, 2, 10] (by kernel_rfl) (by simp [build34 (a := some ⟨12, 0, some 0⟩) (k := l.length) (c := 0) (w := w) (s := s) (e := e), g34, intsW, intsAt, ht, intsOf_iv, hne, hl, show l.length < 2147483648 by omega]; rfl) ?_ -- region 1
  refine E.ret ?_
  refine ⟨.inr rfl, rfl, [setA (.slice (some ⟨12, 0, some 0⟩) l.length 0) w s e], ?_, 12, rfl, by simp, by omega⟩
  simp [resultsA, resultA, Tryz.f21, loadA]
set_option maxRecDepth 10000 in
theorem w21e (o c : Nat) (w s e : Int) : ∃ u H1 n1 H2, AC Tryz.prog 21 [setA (.slice (some ⟨9, o, none⟩) 0 c) w s e] [(9, .inp o [])] 10 u H1 n1 ∧ setE0 10 w s e u H2 ∧ (af u = false → H1 = H2) := by
  have hr := recT_ok (P := Tryz.prog) (l := [(34, g34)]) (by simp [ok34])
  refine AC.out Tryz.func21 rfl (by kernel_rfl) rfl [] ?_
  refine E.seq ?_
  refine E.reg hr (by simp; rfl) ?_ -- region 0
  refine E.seq ?_
  refine E.drawC mixed hr [10] [2, 10] [1, 2, 10] (by kernel_rfl) (by simp [build34 (a := some ⟨12, 0, none⟩) (k := 0) (c := 0) (w := w) (s := s) (e := e), g34, intsW, intsAt, intsOf]; rfl) ?_ -- region 1
  refine E.ret ?_
  refine ⟨.inr rfl, rfl, [setA (.slice (some ⟨12, 0, none⟩) 0 0) w s e], ?_, 12, rfl, by simp, by omega⟩
  simp [resultsA, resultA, Tryz.f21, loadA]
set_option maxRecDepth 10000 in
theorem w21n (w s e : Int) : ∃ u H1 n1 H2, AC Tryz.prog 21 [setA (.slice none 0 0) w s e] [] 9 u H1 n1 ∧ setE0 9 w s e u H2 ∧ (af u = false → H1 = H2) := by
  have hr := recT_ok (P := Tryz.prog) (l := [(34, g34)]) (by simp [ok34])
  refine AC.out Tryz.func21 rfl (by kernel_rfl) rfl [] ?_
  refine E.seq ?_
  refine E.reg hr (by simp; rfl) ?_ -- region 0
  refine E.seq ?_
  refine E.drawC mixed hr [10] [2, 10] [1, 2, 10] (by kernel_rfl) (by simp [build34 (a := some ⟨11, 0, none⟩) (k := 0) (c := 0) (w := w) (s := s) (e := e), g34, intsW]; rfl) ?_ -- region 1
  refine E.ret ?_
  refine ⟨.inr rfl, rfl, [setA (.slice (some ⟨11, 0, none⟩) 0 0) w s e], ?_, 11, rfl, by simp, by omega⟩
  simp [resultsA, resultA, Tryz.f21, loadA]
def g21 (args : List Value) (H : Heap) (n : Nat) : R := match args with
  | [.agg ⟨[t, .int .i64 w, .int .i64 s, .int .i64 e]⟩] => match intsW H t with
    | some l => if l = [] then some (setA (.slice (some ⟨n, 0, none⟩) 0 0) w s e, (n, .cells [] 3) :: H, n + 1) else if l.length ≤ 4096 then some (setA (.slice (some ⟨n, 0, some 0⟩) l.length 0) w s e, (n, .ext (l.map iv) 3 1) :: H, n + 1) else none
    | none => none
  | _ => none
theorem set_den {w s e : Int} : ∀ (φ φ0 : Vl) (a a0 : Value), den φ0 a0 = den φ a → denL φ0 [setA a0 w s e] = denL φ [setA a w s e] := fun φ φ0 a a0 h => by simp [denL, den, h]
theorem set_sc {w s e : Int} : ∀ (p : Nat → Prop) (a : Value), sc p a → scL p [setA a w s e] := fun _ _ h => ⟨⟨h, trivial, trivial, trivial, trivial⟩, trivial⟩
theorem ok21 : EntOk Tryz.prog (21, g21) := by
  intro args H n v H' n' h'
  simp only [g21] at h'
  split at h'
  · rename_i t w s e
    split at h'
    · rename_i sh ht
      split at h'
      · rename_i he
        subst he
        injection h' with h'; injection h' with e1 e2; injection e2 with e2 e3; subst e1 e2 e3
        unfold intsW at ht
        split at ht
        · refine AC.liftF (names_set 0 0 w s e none) (.inl ⟨_, _, rfl, rfl⟩) (Part.plain (by simp) [] (by simp [Seen]) gsz ?_)
          obtain ⟨u, H1, n1, H2, hAC, ⟨m, hu, hm, hle⟩, hh⟩ := w21n w s e
          subst hu
          have := hh (by simp)
          subst this
          exact ⟨m, _, _, hle, hm, hAC⟩
        · obtain ⟨hf, hc, hlen, _⟩ := intsAt_ok ht
          subst hlen
          refine AC.liftF (names_set 0 0 w s e none) (.inl ⟨_, _, rfl, rfl⟩) (Part.one (fun x => [setA x w s e]) set_den set_sc hf hc (afL_iv []) [] (by simp [Seen]) gsz fun c => ?_)
          obtain ⟨u, H1, n1, H2, hAC, ⟨m, hu, hm, hle⟩, hh⟩ := w21e _ c w s e
          subst hu
          have := hh (by simp)
          subst this
          exact ⟨m, _, _, hle, hm, hAC⟩
        · cases ht
      · rename_i hne
        split at h'
        · rename_i hl
          injection h' with h'; injection h' with e1 e2; injection e2 with e2 e3; subst e1 e2 e3
          unfold intsW at ht
          split at ht
          · injection ht with ht; exact absurd ht.symm hne
          · obtain ⟨hf, hc, hlen, _⟩ := intsAt_ok ht
            subst hlen
            refine AC.liftF (names_set _ _ w s e (some 0)) (.inr ⟨_, _, _, rfl, afL_iv _⟩) (Part.one (fun x => [setA x w s e]) set_den set_sc hf hc (afL_iv sh) [] (by simp [Seen]) gsz fun c => ?_)
            obtain ⟨u, H1, n1, H2, hAC, ⟨m, hu, hm, hle⟩, hh⟩ := w21 sh _ c w s e hne hl
            subst hu
            have := hh (by simp)
            subst this
            exact ⟨m, _, _, hle, hm, hAC⟩
          · cases ht
        · cases h'
    · cases h'
  · cases h'
end Go.Proofs.YtkongcnmkiihjaaGreatDoor

namespace Go.Proofs.YtkongcnmkiihjaaGreatDoor
open Go Go.Ab Go.Proofs
/-! ### the errors of a setting -/
def headE (n : Nat) : Int := firstV [whenV (decide (n = 0)) 12, whenV (decide (16 < n)) 5]
def stepE (last v : Int) : Int := firstV [velV v, whenV (decide (v ≤ last)) 11]
def fanE : Int → List Int → Int
  | _, [] => 0
  | last, v :: l => if stepE last v = 0 then fanE v l else stepE last v
def tailE (w s e : Int) : Int := firstV [withinV w 0 16, withinV s 0 1024, withinV e 1 1024]
def setE (l : List Int) (w s e : Int) : Int := if headE l.length = 0 then (if fanE 0 l = 0 then tailE w s e else fanE 0 l) else headE l.length
theorem headE_int (k : Nat) : firstV [whenV (decide (k = 0)) 12, whenV (decide ((16 : Int) < (k : Int))) 5] = headE k := by
  have : decide ((16 : Int) < (k : Int)) = decide (16 < k) := by rw [decide_eq_decide]; omega
  rw [this]; rfl
theorem w20e (o c : Nat) (w s e : Int) : AC Tryz.prog 20 [setA (.slice (some ⟨9, o, none⟩) 0 c) w s e] [(9, .inp o [])] 10 (iv 12) [(9, .inp o [])] 10 := by
  have hr := recT_ok (P := Tryz.prog) (l := [(96, g96), (90, g90)]) (by simp [ok96, ok90])
  refine AC.pure Tryz.func20 rfl (by kernel_rfl) rfl [1, 4, 24, 25, 26] rfl ?_
  refine E.seq ?_
  refine E.reg hr (by simp; rfl) ?_ -- region 0
  refine E.seq ?_
  refine E.seq ?_
  refine E.drawC mixed hr [9, 10, 11] [4, 9, 10, 11] [1, 4, 9, 10, 11] (by kernel_rfl) (by simp [g96, g90, intsAt, intsOf, whenV, firstV]; rfl) ?_ -- region 1
  refine E.seq ?_
  refine E.reg hr (by simp; rfl) ?_ -- region 2
  refine E.cond (by rfl) (fun h => ?_) (fun h => ?_)
  · refine E.seq ?_
    refine E.reg hr (by simp; rfl) ?_ -- region 3
    refine E.ret ?_
    exact pureK.ret rfl rfl (by simp) (by repeat first | exact sub_refl _ | refine sub_cons rfl ?_)
  · simp at h
theorem w20 (l : List Int) (k : Nat) (hk : l.length = k) (w s e : Int) (hl : k < 2 ^ 31) : AC Tryz.prog 20 [setA (.slice (some ⟨9, 0, some 0⟩) k 0) w s e] [(9, .row (l.map iv) 1)] 10 (iv (setE l w s e)) [(9, .row (l.map iv) 1)] 10 := by
  have hr := recT_ok (P := Tryz.prog) (l := [(96, g96), (90, g90), (92, g92), (91, g91), (97, g97), (98, g98)]) (by simp [ok96, ok90, ok92, ok91, ok97, ok98])
  refine AC.pure Tryz.func20 rfl (by kernel_rfl) rfl [1, 4, 24, 25, 26] rfl ?_
  refine E.seq ?_
  refine E.reg hr (by simp; rfl) ?_ -- region 0
  refine E.seq ?_
  refine E.seq ?_
  have hE := headE_int k
  refine E.drawC mixed hr [9, 10, 11] [4, 9, 10, 11] [1, 4, 9, 10, 11] (by kernel_rfl) (by simp [g96, g90, intsAt, intsOf, hE]; rfl) ?_ -- region 1
  refine E.seq ?_
  refine E.reg hr (by simp; rfl) ?_ -- region 2
  refine E.cond (by rfl) (fun h => ?_) (fun h => ?_)
  · simp at h
    refine E.seq ?_
    refine E.reg hr (by simp; rfl) ?_ -- region 3
    refine E.ret ?_
    exact pureK.ret rfl rfl (by simp [setE, hk, h]) (by repeat first | exact sub_refl _ | refine sub_cons rfl ?_)
  · simp at h
    have h0 := h
    refine E.skip ?_
    refine E.seq ?_
    refine E.reg hr (by simp; rfl) ?_ -- region 4
    refine E.seq ?_
    refine E.seq ?_
    refine E.reg hr (by simp; rfl) ?_ -- region 5
    refine E.block ?_ -- 0
    refine E.loop ?_
    refine EL.ind (fun a : Nat × Int => { fr := [(1, .pointer (some ⟨10, 0, none⟩)), (4, iv a.2), (24, .slice (some ⟨9, 0, some 0⟩) k 0), (25, iv k), (26, iv a.1)], sz := 54, H := [(10, .cells [.slice (some ⟨9, 0, some 0⟩) k 0, iv w, iv s, iv e] 34), (9, .row (l.map iv) 1)], n := 11, marks := [], vs := [1, 4, 24, 25, 26] }) (fun a => k - a.1) (fun a => a.1 ≤ k ∧ fanE a.2 (l.drop a.1) = fanE 0 l) (0, 0) (Leads.ren [10] rfl rfl rfl ⟨rfl, rfl⟩ (by simp) (by simp)) ⟨Nat.zero_le _, rfl⟩ (fun _ => rfl) ?_
    rintro ⟨i, last⟩ ⟨hi, hg⟩
    dsimp only at hi hg
    have hw : IntKind.i64.wrap ((i : Int) + 1) = (i : Int) + 1 := W_in (by omega) (by omega)
    refine E.seq ?_
    refine E.reg hr (by simp; rfl) ?_ -- region 6
    refine E.seq ?_
    refine E.cond (by rfl) (fun h => ?_) (fun h => ?_)
    · simp at h
      have hil : i < l.length := by omega
      rw [List.drop_eq_getElem_cons hil, fanE] at hg
      refine E.skip ?_
      refine E.seq ?_
      refine E.block ?_ -- 1
      refine E.seq ?_
      refine E.reg hr (by simp [h, hil]; rfl) ?_ -- region 7
      refine E.seq ?_
      refine E.seq ?_
      have hS : firstV [velV l[i], whenV (decide (l[i] ≤ last)) 11] = stepE last l[i] := rfl
      refine E.reg hr (by simp [g92, g96, g90, intsAt, intsOf, hS]; rfl) ?_ -- region 8
      refine E.seq ?_
      refine E.reg hr (by simp; rfl) ?_ -- region 9
      refine E.cond (by rfl) (fun h1 => ?_) (fun h1 => ?_)
      · simp at h1
        refine E.seq ?_
        refine E.reg hr (by simp; rfl) ?_ -- region 10
        refine E.ret ?_
        rw [if_neg h1] at hg
        exact pureK.ret rfl rfl (by simp [setE, hk, h0, ← hg, h1]) (by repeat first | exact sub_refl _ | refine sub_cons rfl ?_)
      · simp at h1
        refine E.skip ?_
        refine E.reg hr (by simp; rfl) ?_ -- region 11
        refine E.reg hr (by simp [hw]; rfl) ?_ -- region 12
        rw [if_pos h1] at hg
        exact ⟨(i + 1, l[i]), Leads.ren [10] rfl rfl rfl ⟨rfl, rfl⟩ (by simp) (by simp), ⟨h, hg⟩, by dsimp only; omega⟩
    · simp at h
      refine E.exit ?_ -- 0
      refine E.seq ?_
      have hT : firstV [withinV w 0 16, withinV s 0 1024, withinV e 1 1024] = tailE w s e := rfl
      refine E.drawC mixed hr [8, 9, 10] [2, 5, 8, 9, 10] [1, 2, 5, 8, 9, 10] (by kernel_rfl) (by simp [g97, g98, g91, g90, intsAt, intsOf, hT]; rfl) ?_ -- region 13
      refine E.ret ?_
      rw [List.drop_eq_nil_of_le (by omega), fanE] at hg
      exact pureK.ret rfl rfl (by simp [setE, hk, h0, ← hg]) (by repeat first | exact sub_refl _ | refine sub_cons rfl ?_)
/-- a slice of integers with room of its own -/
def rowInts (H : Heap) (b len : Nat) : Option (List Int) := match rowOf H b with
  | some (cs, 1) => match intsOf cs with
    | some l => if len = l.length ∧ len < 2 ^ 31 then some l else none
    | none => none
  | _ => none
theorem rowInts_ok {H : Heap} {b len : Nat} {l : List Int} (h : rowInts H b len = some l) : rowOf H b = some (l.map iv, 1) ∧ len = l.length ∧ l.length < 2 ^ 31 := by
  unfold rowInts at h
  split at h
  · rename_i cs hb
    split at h
    · rename_i l' hl
      split at h
      · rename_i hc
        injection h with h; subst h
        have := intsOf_ok _ _ hl
        subst this
        exact ⟨hb, hc.1, hc.1 ▸ hc.2⟩
      · cases h
    · cases h
  · cases h
def g20 (args : List Value) (H : Heap) (n : Nat) : R := match args with
  | [.agg ⟨[.slice (some ⟨b, 0, some 0⟩) len 0, .int .i64 w, .int .i64 s, .int .i64 e]⟩] => (rowInts H b len).map fun l => (iv (setE l w s e), H, n)
  | [.agg ⟨[.slice (some ⟨b, o, none⟩) 0 _, .int .i64 _, .int .i64 _, .int .i64 _]⟩] => match cellsA H b o 0 with
    | some [] => some (iv 12, H, n)
    | _ => none
  | _ => none
theorem ok20 : EntOk Tryz.prog (20, g20) := by
  intro args H n v H' n' h
  simp only [g20] at h
  split at h
  · rw [Option.map_eq_some_iff] at h
    obtain ⟨l, h1, h⟩ := h
    injection h with e1 e2; injection e2 with e2 e3; subst e1 e2 e3
    obtain ⟨hb, rfl, hlt⟩ := rowInts_ok h1
    exact AC.liftP rfl (Part.row (fun x => [setA x _ _ _]) set_den set_sc hb (afL_iv l) gsz ⟨_, _, w20 l _ rfl _ _ _ hlt⟩)
  · split at h
    · rename_i hc
      injection h with h; injection h with e1 e2; injection e2 with e2 e3; subst e1 e2 e3
      exact AC.liftP rfl (Part.one (a := ⟨_, _, none⟩) (fun x => [setA x _ _ _]) set_den set_sc rfl hc rfl [] (by simp [Seen]) gsz fun c => ⟨_, _, w20e _ c _ _ _⟩)
    · cases h
  · cases h
end Go.Proofs.YtkongcnmkiihjaaGreatDoor

namespace Go.Proofs.YtkongcnmkiihjaaGreatDoor
open Go Go.Ab Go.Proofs
theorem max33 (a b : Int) (c : Array Bool) : runP Tryz.prog (builtin .max #[3, 3] 3 c #[iv a, iv b]) = some (.value (iv (max a b))) := by
  have h : runP Tryz.prog (builtin .max #[3, 3] 3 c #[iv a, iv b]) = some (.value (.int .i64 (if b > a then b else a))) := rfl
  rw [h]
  congr 3
  split <;> omega
theorem stepE_zero (v : Int) : firstV [velV v, whenV false 11] = stepE 0 v := by
  unfold stepE
  by_cases h : v ≤ 0
  · have : velV v = 3 := by unfold velV withinV; rw [if_pos (by omega)]
    simp [firstV, this]
  · simp [h]
def lastV (l : List Int) : Nat → Int
  | 0 => 0
  | j + 1 => l.getD j 0
theorem w22n (w s e : Int) : AC Tryz.prog 22 [setA (.slice none 0 0) w s e] [] 9 (iv 12) [] 9 := by
  have hr := recT_ok (P := Tryz.prog) (l := [(99, g99), (94, g94)]) (by simp [ok99, ok94])
  refine AC.pure Tryz.func22 rfl (by kernel_rfl) rfl [1, 4] rfl ?_
  refine E.seq ?_
  refine E.reg hr (by simp; rfl) ?_ -- region 0
  refine E.seq ?_
  refine E.seq ?_
  refine E.drawC mixed hr [9, 10, 11] [4, 9, 10, 11] [1, 4, 9, 10, 11] (by kernel_rfl) (by simp [g99, g94, intsAt, intsOf, whenV, firstV]; rfl) ?_ -- region 1
  refine E.seq ?_
  refine E.reg hr (by simp; rfl) ?_ -- region 2
  refine E.cond (by rfl) (fun h => ?_) (fun h => ?_)
  · refine E.seq ?_
    refine E.reg hr (by simp; rfl) ?_ -- region 3
    refine E.ret ?_
    exact pureK.ret rfl rfl (by simp) (by repeat first | exact sub_refl _ | refine sub_cons rfl ?_)
  · simp at h
theorem w22 (l : List Int) (k : Nat) (hk : l.length = k) (o c : Nat) (w s e : Int) (hl : k < 2 ^ 31) : AC Tryz.prog 22 [setA (.slice (some ⟨9, o, none⟩) k c) w s e] [(9, .inp o (l.map iv))] 10 (iv (setE l w s e)) [(9, .inp o (l.map iv))] 10 := by
  have hr := recT_ok (P := Tryz.prog) (l := [(99, g99), (94, g94), (64, g64), (37, g37), (65, g65), (66, g66)]) (by simp [ok99, ok94, ok64, ok37, ok65, ok66])
  refine AC.pure Tryz.func22 rfl (by kernel_rfl) rfl [1, 4] rfl ?_
  refine E.seq ?_
  refine E.reg hr (by simp; rfl) ?_ -- region 0
  refine E.seq ?_
  refine E.seq ?_
  have hE := headE_int k
  refine E.drawC mixed hr [9, 10, 11] [4, 9, 10, 11] [1, 4, 9, 10, 11] (by kernel_rfl) (by simp [g99, g94, intsAt, intsOf, hE]; rfl) ?_ -- region 1
  refine E.seq ?_
  refine E.reg hr (by simp; rfl) ?_ -- region 2
  refine E.cond (by rfl) (fun h => ?_) (fun h => ?_)
  · simp at h
    refine E.seq ?_
    refine E.reg hr (by simp; rfl) ?_ -- region 3
    refine E.ret ?_
    exact pureK.ret rfl rfl (by simp [setE, hk, h]) (by repeat first | exact sub_refl _ | refine sub_cons rfl ?_)
  · simp at h
    have h0 := h
    refine E.skip ?_
    refine E.seq ?_
    refine E.seq ?_
    refine E.reg hr (by simp; rfl) ?_ -- region 4
    refine E.block ?_ -- 0
    refine E.loop ?_
    refine EL.ind (fun i : Nat => { fr := [(1, .pointer (some ⟨10, 0, none⟩)), (4, iv i)], sz := 68, H := [(10, .cells [.slice (some ⟨9, o, none⟩) k c, iv w, iv s, iv e] 26), (9, .inp o (l.map iv))], n := 11, marks := [], vs := [1, 4] }) (fun i => k - i) (fun i => i ≤ k ∧ fanE (lastV l i) (l.drop i) = fanE 0 l) 0 (Leads.ren [10] rfl rfl rfl ⟨rfl, rfl⟩ (by simp) (by simp)) ⟨Nat.zero_le _, rfl⟩ (fun _ => rfl) ?_
    intro i ⟨hi, hg⟩
    have hw : IntKind.i64.wrap ((i : Int) + 1) = (i : Int) + 1 := W_in (by omega) (by omega)
    refine E.seq ?_
    refine E.seq ?_
    refine E.reg hr (by simp; rfl) ?_ -- region 5
    refine E.cond (by rfl) (fun h => ?_) (fun h => ?_)
    · simp at h
      have hil : i < l.length := by omega
      rw [List.drop_eq_getElem_cons hil, fanE] at hg
      have hnext : fanE l[i] (l.drop (i + 1)) = fanE (lastV l (i + 1)) (l.drop (i + 1)) := by
        simp [lastV, List.getD_eq_getElem?_getD, List.getElem?_eq_getElem hil]
      refine E.skip ?_
      refine E.seq ?_
      refine E.block ?_ -- 1
      refine E.seq ?_
      cases i with
      | zero =>
        have hS : firstV [velV l[0], whenV false 11] = stepE (lastV l 0) l[0] := stepE_zero _
        refine E.drawC mixed hr [5, 23, 24, 25] [5, 23, 24, 25] [1, 4, 5, 10, 15, 17, 20, 23, 24, 25] (by kernel_rfl) (by simp [g64, g99, g94, intsAt, intsOf, h, hil, yieldedA, hS]; rfl) ?_ -- region 7
        refine E.seq ?_
        refine E.reg hr (by simp; rfl) ?_ -- region 8
        refine E.cond (by rfl) (fun h1 => ?_) (fun h1 => ?_)
        · simp at h1
          refine E.seq ?_
          refine E.reg hr (by simp; rfl) ?_ -- region 9
          refine E.ret ?_
          rw [if_neg h1] at hg
          exact pureK.ret rfl rfl (by simp [setE, hk, h0, ← hg, h1]) (by repeat first | exact sub_refl _ | refine sub_cons rfl ?_)
        · simp at h1
          refine E.skip ?_
          refine E.reg hr (by simp [show IntKind.i64.wrap 1 = 1 from W_in (by omega) (by omega)]; rfl) ?_ -- region 6
          rw [if_pos h1] at hg
          exact ⟨1, Leads.ren [10] rfl rfl rfl ⟨rfl, rfl⟩ (by simp) (by simp), ⟨h, hnext ▸ hg⟩, by dsimp only; omega⟩
      | succ j =>
        have hj : j < k := by omega
        have hjl : j < l.length := by omega
        have hwj : IntKind.i64.wrap (j : Int) = (j : Int) := W_in (by omega) (by omega)
        have hm : max (0 : Int) (j : Int) = (j : Int) := by omega
        have hlast : lastV l (j + 1) = l[j] := by simp [lastV, List.getD_eq_getElem?_getD, List.getElem?_eq_getElem hjl]
        have hS : firstV [velV l[j + 1], whenV (decide (l[j + 1] ≤ l[j])) 11] = stepE (lastV l (j + 1)) l[j + 1] := by rw [hlast]; rfl
        have hp : (0 : Int) < (j : Int) + 1 := by omega
        have hjk : (j : Int) + 1 < (k : Int) := by omega
        have hw2 : IntKind.i64.wrap ((j : Int) + 1 + 1) = (j : Int) + 1 + 1 := W_in (by omega) (by omega)
        refine E.drawC mixed hr [5, 23, 24, 25] [5, 23, 24, 25] [1, 4, 5, 10, 15, 17, 20, 23, 24, 25] (by kernel_rfl) (by simp [g64, g99, g94, intsAt, intsOf, h, hjk, hil, hj, hjl, hwj, max33, hm, hp, yieldedA, hS]; rfl) ?_ -- region 7
        refine E.seq ?_
        refine E.reg hr (by simp; rfl) ?_ -- region 8
        refine E.cond (by rfl) (fun h1 => ?_) (fun h1 => ?_)
        · simp at h1
          refine E.seq ?_
          refine E.reg hr (by simp; rfl) ?_ -- region 9
          refine E.ret ?_
          rw [if_neg h1] at hg
          exact pureK.ret rfl rfl (by simp [setE, hk, h0, ← hg, h1]) (by repeat first | exact sub_refl _ | refine sub_cons rfl ?_)
        · simp at h1
          refine E.skip ?_
          refine E.reg hr (by simp [hw2]; rfl) ?_ -- region 6
          rw [if_pos h1] at hg
          exact ⟨j + 1 + 1, Leads.ren [10] rfl rfl rfl ⟨rfl, rfl⟩ (by simp) (by simp), ⟨h, hnext ▸ hg⟩, by dsimp only; omega⟩
    · simp at h
      refine E.exit ?_ -- 0
      refine E.seq ?_
      have hT : firstV [withinV w 0 16, withinV s 0 1024, withinV e 1 1024] = tailE w s e := rfl
      refine E.drawC mixed hr [8, 9, 10] [2, 5, 8, 9, 10] [1, 2, 5, 8, 9, 10] (by kernel_rfl) (by simp [g66, g65, g37, g94, intsAt, intsOf, hT]; rfl) ?_ -- region 10
      refine E.ret ?_
      rw [List.drop_eq_nil_of_le (by omega), fanE] at hg
      exact pureK.ret rfl rfl (by simp [setE, hk, h0, ← hg]) (by repeat first | exact sub_refl _ | refine sub_cons rfl ?_)
def g22 (args : List Value) (H : Heap) (n : Nat) : R := match args with
  | [.agg ⟨[t, .int .i64 w, .int .i64 s, .int .i64 e]⟩] => (intsW H t).map fun l => (iv (setE l w s e), H, n)
  | _ => none
theorem ok22 : EntOk Tryz.prog (22, g22) := by
  intro args H n v H' n' h
  simp only [g22] at h
  split at h
  · rw [Option.map_eq_some_iff] at h
    obtain ⟨l, h1, h⟩ := h
    injection h with e1 e2; injection e2 with e2 e3; subst e1 e2 e3
    unfold intsW at h1
    split at h1
    · injection h1 with h1; subst h1
      exact AC.liftP rfl (Part.plain (by simp) [] (by simp [Seen]) gsz ⟨_, _, w22n _ _ _⟩)
    · obtain ⟨hf, hc, hlen, hlt⟩ := intsAt_ok h1
      exact AC.liftP rfl (Part.one (fun x => [setA x _ _ _]) set_den set_sc hf hc (afL_iv l) [] (by simp [Seen]) gsz fun c => ⟨_, _, w22 l _ hlen _ c _ _ _ (hlen ▸ hlt)⟩)
    · cases h1
  · cases h
end Go.Proofs.YtkongcnmkiihjaaGreatDoor

namespace Go.Proofs.YtkongcnmkiihjaaGreatDoor
open Go Go.Ab Go.Proofs
theorem setE_nil (w s e : Int) : setE [] w s e = 12 := by simp [setE, headE, whenV, firstV]
set_option maxRecDepth 20000 in
theorem w3n (t q v w s e : Int) : AC Tryz.prog 3 [.agg ⟨[iv t, iv q, iv v]⟩, setA (.slice none 0 0) w s e] G0 9 (.bool true) G0 9 := by
  have hr := recT_ok (P := Tryz.prog) (l := [(15, g15), (16, g16), (17, g17), (18, g18), (19, g19), (21, g21), (20, g20), (22, g22)]) (by simp [ok15, ok16, ok17, ok18, ok19, ok21, ok20, ok22])
  refine AC.pure Tryz.func3 rfl (by kernel_rfl) rfl [] rfl ?_
  have hfan : fanK 0 = true := rfl
  refine E.seq ?_
  refine E.reg hr (by simp; rfl) ?_ -- region 0
  refine E.seq ?_
  refine E.seq ?_
  refine E.reg hr (by simp [g15, g16, oneF_guard, yieldedA]; rfl) ?_ -- region 1
  refine E.cond (t := false) (by simp) (fun h => by cases h) (fun _ => ?_)
  refine E.skip ?_
  refine E.seq ?_
  refine E.reg hr (by simp [g17]; rfl) ?_ -- region 3
  refine E.seq ?_
  refine E.reg hr (by simp [g18]; rfl) ?_ -- region 4
  refine E.seq ?_
  refine E.seq ?_
  refine E.reg hr (by simp; rfl) ?_ -- region 5
  by_cases hm : mvE t q v = 0
  · have hin := mvE_in hm
    have hmr : mvR t q v = movV t q v := by rw [mvR, if_pos hm]
    refine E.cond (t := true) (by simp [hm]) (fun _ => ?_) (fun h => by cases h)
    refine E.reg hr (by simp [g19, hin]; rfl) ?_ -- region 6
    refine E.seq ?_
    refine E.drawC mixed hr [13] [10, 11, 13] [9, 10, 11, 13] (by kernel_rfl) (by simp [hm, hmr, yieldedA, g21, g20, g22, intsW, cellsA, setE_nil]; rfl) ?_ -- region 7
    refine E.ret ?_
    exact pureK.ret rfl rfl (by simp) (by repeat first | exact sub_refl _ | refine sub_cons rfl ?_)
  · have hmr : mvR t q v = 0 := by rw [mvR, if_neg hm]
    refine E.cond (t := false) (by simp [hm]) (fun h => by cases h) (fun _ => ?_)
    refine E.skip ?_
    refine E.seq ?_
    refine E.drawC mixed hr [13] [10, 11, 13] [9, 10, 11, 13] (by kernel_rfl) (by simp [hmr, yieldedA, g21, g20, g22, intsW, cellsA, setE_nil]; rfl) ?_ -- region 7
    refine E.ret ?_
    exact pureK.ret rfl rfl (by simp) (by repeat first | exact sub_refl _ | refine sub_cons rfl ?_)
set_option maxRecDepth 20000 in
theorem w3e (o c : Nat) (t q v w s e : Int) : AC Tryz.prog 3 [.agg ⟨[iv t, iv q, iv v]⟩, setA (.slice (some ⟨9, o, none⟩) 0 c) w s e] ((9, .inp o []) :: G0) 10 (.bool true) ((9, .inp o []) :: G0) 10 := by
  have hr := recT_ok (P := Tryz.prog) (l := [(15, g15), (16, g16), (17, g17), (18, g18), (19, g19), (21, g21), (20, g20), (22, g22)]) (by simp [ok15, ok16, ok17, ok18, ok19, ok21, ok20, ok22])
  refine AC.pure Tryz.func3 rfl (by kernel_rfl) rfl [] rfl ?_
  have hfan : fanK 0 = true := rfl
  refine E.seq ?_
  refine E.reg hr (by simp; rfl) ?_ -- region 0
  refine E.seq ?_
  refine E.seq ?_
  refine E.reg hr (by simp [g15, g16, oneF_guard, yieldedA, hfan]; rfl) ?_ -- region 1
  refine E.cond (t := false) (by simp) (fun h => by cases h) (fun _ => ?_)
  refine E.skip ?_
  refine E.seq ?_
  refine E.reg hr (by simp [g17]; rfl) ?_ -- region 3
  refine E.seq ?_
  refine E.reg hr (by simp [g18]; rfl) ?_ -- region 4
  refine E.seq ?_
  refine E.seq ?_
  refine E.reg hr (by simp; rfl) ?_ -- region 5
  by_cases hm : mvE t q v = 0
  · have hin := mvE_in hm
    have hmr : mvR t q v = movV t q v := by rw [mvR, if_pos hm]
    refine E.cond (t := true) (by simp [hm]) (fun _ => ?_) (fun h => by cases h)
    refine E.reg hr (by simp [g19, hin]; rfl) ?_ -- region 6
    refine E.seq ?_
    refine E.drawC mixed hr [13] [10, 11, 13] [9, 10, 11, 13] (by kernel_rfl) (by simp [hm, hmr, yieldedA, g21, g20, g22, intsW, cellsA, setE_nil, intsAt, intsOf]; rfl) ?_ -- region 7
    refine E.ret ?_
    exact pureK.ret rfl rfl (by simp) (by repeat first | exact sub_refl _ | refine sub_cons rfl ?_)
  · have hmr : mvR t q v = 0 := by rw [mvR, if_neg hm]
    refine E.cond (t := false) (by simp [hm]) (fun h => by cases h) (fun _ => ?_)
    refine E.skip ?_
    refine E.seq ?_
    refine E.drawC mixed hr [13] [10, 11, 13] [9, 10, 11, 13] (by kernel_rfl) (by simp [hmr, yieldedA, g21, g20, g22, intsW, cellsA, setE_nil, intsAt, intsOf]; rfl) ?_ -- region 7
    refine E.ret ?_
    exact pureK.ret rfl rfl (by simp) (by repeat first | exact sub_refl _ | refine sub_cons rfl ?_)
set_option maxRecDepth 20000 in
theorem w3 (l : List Int) (o c : Nat) (hne : l ≠ []) (t q v w s e : Int) : AC Tryz.prog 3 [.agg ⟨[iv t, iv q, iv v]⟩, setA (.slice (some ⟨9, o, none⟩) l.length c) w s e] ((9, .inp o (l.map iv)) :: G0) 10 (.bool true) ((9, .inp o (l.map iv)) :: G0) 10 := by
  have hr := recT_ok (P := Tryz.prog) (l := [(15, g15), (16, g16), (17, g17), (18, g18), (19, g19), (21, g21), (20, g20), (22, g22)]) (by simp [ok15, ok16, ok17, ok18, ok19, ok21, ok20, ok22])
  refine AC.pure Tryz.func3 rfl (by kernel_rfl) rfl [] rfl ?_
  have ht : List.take l.length (l.map iv) = l.map iv := List.take_of_length_le (by simp)
  refine E.seq ?_
  refine E.reg hr (by simp; rfl) ?_ -- region 0
  refine E.seq ?_
  refine E.seq ?_
  by_cases hfan : fanK l.length = true
  · refine E.reg hr (by simp [g15, g16, oneF_guard, yieldedA, hfan]; rfl) ?_ -- region 1
    refine E.cond (t := false) (by simp) (fun h => by cases h) (fun _ => ?_)
    refine E.skip ?_
    have hk : l.length ≤ 4096 := by
      simp [fanK] at hfan
      omega
    have hl : l.length < 2147483648 := by omega
    refine E.seq ?_
    refine E.reg hr (by simp [g17]; rfl) ?_ -- region 3
    refine E.seq ?_
    refine E.reg hr (by simp [g18]; rfl) ?_ -- region 4
    refine E.seq ?_
    refine E.seq ?_
    refine E.reg hr (by simp; rfl) ?_ -- region 5
    by_cases hm : mvE t q v = 0
    · have hin := mvE_in hm
      have hmr : mvR t q v = movV t q v := by rw [mvR, if_pos hm]
      refine E.cond (t := true) (by simp [hm]) (fun _ => ?_) (fun h => by cases h)
      refine E.reg hr (by simp [g19, hin]; rfl) ?_ -- region 6
      refine E.seq ?_
      refine E.drawC mixed hr [13] [10, 11, 13] [9, 10, 11, 13] (by kernel_rfl) (by simp [hm, hmr, yieldedA, g21, g20, g22, intsW, intsAt, ht, intsOf_iv, hne, hl, rowInts, rowOf, hk]; rfl) ?_ -- region 7
      refine E.ret ?_
      exact pureK.ret rfl rfl (by simp) (by repeat first | exact sub_refl _ | refine sub_cons rfl ?_)
    · have hmr : mvR t q v = 0 := by rw [mvR, if_neg hm]
      refine E.cond (t := false) (by simp [hm]) (fun h => by cases h) (fun _ => ?_)
      refine E.skip ?_
      refine E.seq ?_
      refine E.drawC mixed hr [13] [10, 11, 13] [9, 10, 11, 13] (by kernel_rfl) (by simp [hmr, yieldedA, g21, g20, g22, intsW, intsAt, ht, intsOf_iv, hne, hl, rowInts, rowOf, hk]; rfl) ?_ -- region 7
      refine E.ret ?_
      exact pureK.ret rfl rfl (by simp) (by repeat first | exact sub_refl _ | refine sub_cons rfl ?_)
  · simp only [Bool.not_eq_true] at hfan
    refine E.reg hr (by simp [g15, g16, oneF_guard, yieldedA, hfan]; rfl) ?_ -- region 1
    refine E.cond (t := true) (by simp) (fun _ => ?_) (fun h => by cases h)
    refine E.seq ?_
    refine E.reg hr (by simp [g15]; rfl) ?_ -- region 2
    refine E.ret ?_
    exact pureK.ret rfl rfl (by simp) (by repeat first | exact sub_refl _ | refine sub_cons rfl ?_)
end Go.Proofs.YtkongcnmkiihjaaGreatDoor
