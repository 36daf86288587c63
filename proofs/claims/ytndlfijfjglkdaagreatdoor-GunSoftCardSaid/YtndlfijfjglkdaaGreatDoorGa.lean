/-
The walks and the plain reckoning behind the law GunLines: both the program and the reference return the same ticks or the same error.
-/
import Derived.Test.YtndlfijfjglkdaaGreatDoorTa
import Derived.Test.YtndlfijfjglkdaaGreatDoorFa
namespace Go.Proofs.YtndlfijfjglkdaaGreatDoor
open Go Go.Ab Go.Proofs
def whenV (b : Bool) (e : Int) : Int := if b then e else 0
theorem w114 (b : Bool) (e : Int) : AC Tryz.prog 114 [.bool b, .int .i64 e] [] 10 (.int .i64 (whenV b e)) [] 10 := by
  have hr := recT_ok (P := Tryz.prog) (l := []) (by simp)
  refine AC.pure Tryz.func114 rfl (by kernel_rfl) rfl [] rfl ?_
  refine E.seq ?_
  refine E.reg hr (by simp [argsFr, Tryz.f114]; rfl) ?_
  refine E.seq ?_
  refine E.seq ?_
  refine E.reg hr (by simp; rfl) ?_
  refine E.cond (by rfl) (fun h => ?_) (fun h => ?_)
  · try simp at h
    refine E.seq ?_
    refine E.reg hr (by simp; rfl) ?_
    refine E.ret ?_
    exact pureK.ret rfl rfl (by simp [one, whenV, h]) (sub_refl _)
  · try simp at h
    refine E.skip ?_
    refine E.seq ?_
    refine E.reg hr (by simp; rfl) ?_
    refine E.ret ?_
    exact pureK.ret rfl rfl (by simp [one, whenV, h]) (sub_refl _)
def g114 (args : List Value) (H : Heap) (n : Nat) : R := match args with
  | [.bool b, .int .i64 e] => some (.int .i64 (whenV b e), H, n)
  | _ => none
theorem ok114 : EntOk Tryz.prog (114, g114) := by
  intro args H n v H' n' h
  simp only [g114] at h
  split at h
  · rename_i b e
    injection h with h; injection h with e1 e2; injection e2 with e2 e3; subst e1 e2 e3
    exact AC.liftP rfl (Part.plain (by simp) [] (by simp [Seen]) gsz ⟨_, _, w114 b e⟩)
  · cases h
def withinV (a lo hi : Int) : Int := if a < lo ∨ hi < a then 3 else 0
theorem w138 (a lo hi : Int) : AC Tryz.prog 138 [.int .i64 a, .int .i64 lo, .int .i64 hi] [] 10 (.int .i64 (withinV a lo hi)) [] 10 := by
  have hr := recT_ok (P := Tryz.prog) (l := [(114, g114)]) (by simp [ok114])
  refine AC.pure Tryz.func138 rfl (by kernel_rfl) rfl [] rfl ?_
  refine E.seq ?_
  refine E.reg hr (by simp [argsFr, Tryz.f138]; rfl) ?_
  refine E.seq ?_
  by_cases h1 : a < lo
  · refine E.reg hr (by simp [h1, oneF_guard, yieldedA, g114]; rfl) ?_
    refine E.ret ?_
    exact pureK.ret rfl rfl (by simp [one, withinV, whenV, h1]) (sub_refl _)
  · refine E.reg hr (by simp [h1, oneF_guard, yieldedA, g114]; rfl) ?_
    refine E.ret ?_
    exact pureK.ret rfl rfl (by simp [one, withinV, whenV, h1]) (sub_refl _)
end Go.Proofs.YtndlfijfjglkdaaGreatDoor

namespace Go.Proofs.YtndlfijfjglkdaaGreatDoor
open Go Go.Ab Go.Proofs
def firstV : List Int → Int
  | [] => 0
  | e :: l => if e = 0 then firstV l else e
theorem w113 (l : List Int) (o c : Nat) (hl : l.length < 2 ^ 31) : AC Tryz.prog 113 [.slice (some ⟨10, o, none⟩) l.length c] [(10, .inp o (l.map iv))] 11 (iv (firstV l)) [(10, .inp o (l.map iv))] 11 := by
  have hr := recT_ok (P := Tryz.prog) (l := []) (by simp)
  refine AC.pure Tryz.func113 rfl (by kernel_rfl) rfl [5, 6, 7] rfl ?_
  refine E.seq ?_
  refine E.reg hr (by simp [argsFr, Tryz.f113]; rfl) ?_
  refine E.seq ?_
  refine E.seq ?_
  refine E.reg hr (by simp [opBuiltin, builtinA]; rfl) ?_
  refine E.block ?_
  refine E.loop ?_
  refine EL.ind (fun i : Nat => { fr := [(5, .slice (some ⟨10, o, none⟩) l.length c), (6, iv l.length), (7, iv i)], sz := 15, H := [(10, .inp o (l.map iv))], n := 11, marks := [], vs := [5, 6, 7] }) (fun i => l.length - i) (fun i => i ≤ l.length ∧ firstV (l.drop i) = firstV l) 0 (.less rfl rfl rfl (by simp) (by simp)) ⟨Nat.zero_le _, rfl⟩ (fun _ => rfl) ?_
  intro i ⟨hi, hg⟩
  refine E.seq ?_
  refine E.reg hr (by simp; rfl) ?_
  refine E.seq ?_
  refine E.cond (by rfl) (fun h => ?_) (fun h => ?_)
  · simp at h
    refine E.skip ?_
    refine E.seq ?_
    refine E.block ?_
    refine E.seq ?_
    refine E.reg hr (by simp [opIndexaddr, Tryz.underlying206, flat, h, loadA, cellA]; rfl) ?_
    refine E.seq ?_
    refine E.reg hr (by simp; rfl) ?_
    refine E.cond (by rfl) (fun h2 => ?_) (fun h2 => ?_)
    · simp at h2
      refine E.seq ?_
      refine E.reg hr (by simp; rfl) ?_
      refine E.ret ?_
      refine pureK.ret rfl rfl ?_ (sub_refl _)
      rw [List.drop_eq_getElem_cons h] at hg
      simp [one, ← hg, firstV, h2]
    · simp at h2
      refine E.skip ?_
      have hw : IntKind.i64.wrap ((i : Int) + 1) = (i : Int) + 1 := W_in (by omega) (by omega)
      refine E.reg hr (by simp [hw]; rfl) ?_
      rw [List.drop_eq_getElem_cons h] at hg
      exact ⟨i + 1, .less rfl rfl rfl (by simp) (by simp), ⟨h, by rw [← hg]; simp [firstV, h2]⟩, by dsimp only; omega⟩
  · simp at h
    refine E.exit ?_
    refine E.seq ?_
    refine E.reg hr (by simp; rfl) ?_
    refine E.ret ?_
    have : l.drop i = [] := by simp; omega
    refine pureK.ret rfl rfl ?_ (sub_refl _)
    simp [one, ← hg, this, firstV]
end Go.Proofs.YtndlfijfjglkdaaGreatDoor

namespace Go.Proofs.YtndlfijfjglkdaaGreatDoor
open Go Go.Ab Go.Proofs
def g138 (args : List Value) (H : Heap) (n : Nat) : R := match args with
  | [.int .i64 a, .int .i64 b, .int .i64 c] => some (.int .i64 (withinV a b c), H, n)
  | _ => none
theorem ok138 : EntOk Tryz.prog (138, g138) := by
  intro args H n v H' n' h
  simp only [g138] at h
  split at h
  · injection h with h; injection h with e1 e2; injection e2 with e2 e3; subst e1 e2 e3
    exact AC.liftP rfl (Part.plain (by simp) [] (by simp [Seen]) gsz ⟨_, _, w138 _ _ _⟩)
  · cases h
def intsOf : List Value → Option (List Int)
  | [] => some []
  | .int .i64 n :: vs => (intsOf vs).map (n :: ·)
  | _ => none
theorem intsOf_ok : ∀ (cs : List Value) (l : List Int), intsOf cs = some l → cs = l.map iv
  | [], l, h => by simp [intsOf] at h; subst h; rfl
  | c :: cs, l, h => by
    unfold intsOf at h
    split at h
    · rename_i h1; cases h1
    · rename_i n vs h1
      injection h1 with h1 h2; subst h1 h2
      rw [Option.map_eq_some_iff] at h
      obtain ⟨l', h2, h3⟩ := h
      subst h3
      rw [intsOf_ok _ _ h2]; rfl
    · cases h
/-- a slice of integers with a block -/
def intsAt (H : Heap) (a : Addr) (len : Nat) : Option (List Int) := if flat a && Nat.blt len 2147483648 then (cellsA H a.block a.off len).bind intsOf else none
theorem intsAt_ok {H : Heap} {a : Addr} {len : Nat} {l : List Int} (h : intsAt H a len = some l) : flat a = true ∧ cellsA H a.block a.off len = some (l.map iv) ∧ l.length = len ∧ l.length < 2 ^ 31 := by
  unfold intsAt at h
  split at h
  · rename_i hf
    rw [Bool.and_eq_true] at hf
    rw [Option.bind_eq_some_iff] at h
    obtain ⟨cs, h1, h2⟩ := h
    have h3 := intsOf_ok _ _ h2
    subst h3
    have h4 := (cellsA_at h1).1
    rw [List.length_map] at h4
    exact ⟨hf.1, h1, h4, by have := (blt_iff _ _).1 hf.2; omega⟩
  · cases h
def g113 (args : List Value) (H : Heap) (n : Nat) : R := match args with
  | [.slice (some a) len _] => (intsAt H a len).map fun l => (iv (firstV l), H, n)
  | _ => none
theorem ok113 : EntOk Tryz.prog (113, g113) := by
  intro args H n v H' n' h
  simp only [g113] at h
  split at h
  · rename_i a len c
    rw [Option.map_eq_some_iff] at h
    obtain ⟨l, h1, h⟩ := h
    injection h with e1 e2; injection e2 with e2 e3; subst e1 e2 e3
    obtain ⟨hf, hc, hlen, hlt⟩ := intsAt_ok h1
    subst hlen
    exact AC.liftP rfl (Part.one (fun s => [s]) (by intro φ φ0 s s0 h; simp [denL, h]) (by intro p s h; exact ⟨h, trivial⟩) hf hc (afL_iv l) [] (by simp [Seen]) gsz fun c => ⟨_, _, w113 l _ c hlt⟩)
  · cases h
def lineV (s f d p u e : Int) : Int := firstV [withinV s 0 100000, withinV f 0 100000, withinV d 1 100000, withinV p 1 256, withinV u 1 1000, withinV e 1 1000]
theorem w136 (s f d p u e : Int) : AC Tryz.prog 136 [.agg #[iv s, iv f, iv d, iv p, iv u, iv e]] [] 10 (iv (lineV s f d p u e)) [] 10 := by
  have hr := recT_ok (P := Tryz.prog) (l := [(138, g138), (113, g113)]) (by simp [ok138, ok113])
  refine AC.pure Tryz.func136 rfl (by kernel_rfl) rfl [] rfl ?_
  refine E.seq ?_
  refine E.reg hr (by simp [argsFr, Tryz.f136, Value.cells]; rfl) ?_
  refine E.seq ?_
  refine E.drawK mixed hr (by simp [opFieldaddr, Tryz.underlying76, loadA, cellA, g138, g113, intsAt, flat, cellsA, Tryz.underlying206, partsOk, Value.cells, Nat.blt, intsOf]; rfl) (by kernel_rfl) (by kernel_rfl) ?_
  refine E.ret ?_
  refine pureK.ret rfl rfl ?_ (by repeat first | exact sub_refl _ | refine sub_cons rfl ?_)
  simp [one, lineV]
end Go.Proofs.YtndlfijfjglkdaaGreatDoor

namespace Go.Proofs.YtndlfijfjglkdaaGreatDoor
open Go Go.Ab Go.Proofs
theorem ok136 : EntOk Tryz.prog (136, fun args H n => match args with
  | [.agg ⟨[.int .i64 s, .int .i64 f, .int .i64 d, .int .i64 p, .int .i64 u, .int .i64 e]⟩] => some (iv (lineV s f d p u e), H, n)
  | _ => none) := by
  intro args H n v H' n' h
  simp only at h
  split at h
  · injection h with h; injection h with e1 e2; injection e2 with e2 e3; subst e1 e2 e3
    exact AC.liftP rfl (Part.plain (by simp) [] (by simp [Seen]) gsz ⟨_, _, w136 _ _ _ _ _ _⟩)
  · cases h
/-- the tick of a point, as the program reckons it -/
def tickP (s f d u e i : Int) : Int := IntKind.i64.wrap (s + IntKind.i64.wrap ((IntKind.i64.wrap (IntKind.i64.wrap (IntKind.i64.wrap (IntKind.i64.wrap (f + IntKind.i64.wrap (i * d)) * e) + u) - 1)).tdiv u))
def shortV : List Int → Bool
  | a :: b :: l => decide (IntKind.i64.wrap (b - a) < 8) || shortV (b :: l)
  | _ => false
end Go.Proofs.YtndlfijfjglkdaaGreatDoor

namespace Go.Proofs.YtndlfijfjglkdaaGreatDoor
open Go Go.Ab Go.Proofs
theorem firstV_zero : ∀ l : List Int, firstV l = 0 ↔ ∀ e ∈ l, e = 0
  | [] => by simp [firstV]
  | x :: l => by
    simp only [firstV, List.mem_cons, forall_eq_or_imp]
    split
    · rename_i h; simp [h, firstV_zero l]
    · rename_i h; simp [h]
theorem withinV_zero (a lo hi : Int) : withinV a lo hi = 0 ↔ lo ≤ a ∧ a ≤ hi := by
  unfold withinV; split <;> omega
theorem lineV_zero {s f d p u e : Int} (h : lineV s f d p u e = 0) : (0 ≤ s ∧ s ≤ 100000) ∧ (0 ≤ f ∧ f ≤ 100000) ∧ (1 ≤ d ∧ d ≤ 100000) ∧ (1 ≤ p ∧ p ≤ 256) ∧ (1 ≤ u ∧ u ≤ 1000) ∧ 1 ≤ e ∧ e ≤ 1000 := by
  have := (firstV_zero _).1 h
  simpa [withinV_zero] using this
def ticksN (s f d u e : Int) (n : Nat) : List Int := (List.range n).map fun i : Nat => tickP s f d u e i
@[simp] theorem ticksN_length (s f d u e : Int) (n : Nat) : (ticksN s f d u e n).length = n := by simp [ticksN]
theorem ticksN_succ (s f d u e : Int) (n : Nat) : ticksN s f d u e (n + 1) = ticksN s f d u e n ++ [tickP s f d u e n] := by simp [ticksN, List.range_succ]
theorem ticksN_get {s f d u e : Int} {n i : Nat} (h : i < n) : (ticksN s f d u e n)[i]? = some (tickP s f d u e i) := by simp [ticksN, h]
@[simp] theorem ticksN_getElem {s f d u e : Int} {n i : Nat} (h : i < (ticksN s f d u e n).length) : (ticksN s f d u e n)[i] = tickP s f d u e i := by simp [ticksN]
def ticksV (s f d p u e : Int) : Option (List Int) × Int :=
  if lineV s f d p u e ≠ 0 then (none, lineV s f d p u e)
  else if 100000 < tickP s f d u e (p.toNat - 1 : Nat) then (none, 4)
  else if shortV (ticksN s f d u e p.toNat) then (none, 21)
  else (some (ticksN s f d u e p.toNat), 0)
def ticksQ (r : Option (List Int) × Int) (v : Value) (H : Heap) : Prop := match r with
  | (none, e) => v = .tuple #[.slice none 0 0, iv e]
  | (some l, e) => ∃ m, v = .tuple #[.slice (some ⟨m, 0, some 0⟩) l.length 0, iv e] ∧ hget H m = some (.ext (l.map iv) 3 1) ∧ 10 ≤ m
def g136 (args : List Value) (H : Heap) (n : Nat) : R := match args with
  | [.agg ⟨[.int .i64 s, .int .i64 f, .int .i64 d, .int .i64 p, .int .i64 u, .int .i64 e]⟩] => some (iv (lineV s f d p u e), H, n)
  | _ => none
abbrev lin (s f d p u e : Int) : List Value := [iv s, iv f, iv d, iv p, iv u, iv e]
def S48 (s f d p u e : Int) : Nat → St
  | 0 => { fr := [(1, .pointer (some ⟨10, 0, none⟩)), (5, .slice none 0 0), (15, iv p), (16, iv 0)], sz := 70, H := [(10, .cells (lin s f d p u e) 76)], n := 11, marks := [], vs := [1, 5, 15, 16, 53, 54] }
  | i + 1 => { fr := [(1, .pointer (some ⟨10, 0, none⟩)), (5, .slice (some ⟨11, 0, some 0⟩) (i + 1) 0), (15, iv p), (16, iv (i + 1 : Nat))], sz := 70, H := [(11, .ext ((ticksN s f d u e (i + 1)).map iv) 3 1), (10, .cells (lin s f d p u e) 76)], n := 12, marks := [], vs := [1, 5, 15, 16, 53, 54] }
set_option maxRecDepth 20000 in
theorem w48 (s f d p u e : Int) : ∃ v H1 n1 H2, AC Tryz.prog 48 [.agg ⟨lin s f d p u e⟩] [] 10 v H1 n1 ∧ ticksQ (ticksV s f d p u e) v H2 ∧ (af v = false → H1 = H2) := by
  have hr := recT_ok (P := Tryz.prog) (l := [(136, g136)]) (by simp; exact ok136)
  refine AC.out Tryz.func48 rfl (by kernel_rfl) rfl [1, 5, 15, 16, 53, 54] ?_
  refine E.seq ?_
  refine E.reg hr (by simp; rfl) ?_
  refine E.seq ?_
  refine E.seq ?_
  refine E.reg hr (by simp [g136]; rfl) ?_
  refine E.seq ?_
  refine E.reg hr (by simp; rfl) ?_
  refine E.cond (by rfl) (fun h => ?_) (fun h => ?_)
  · simp at h
    refine E.seq ?_
    refine E.reg hr (by simp; rfl) ?_
    refine E.ret ?_
    exact outK.ret rfl rfl (by simp [ticksV, h, ticksQ])
  simp at h
  obtain ⟨hs, hf, hd, hp, hu, he⟩ := lineV_zero h
  have hu0 : u ≠ 0 := by omega
  refine E.skip ?_
  refine E.seq ?_
  refine E.reg hr (by simp; rfl) ?_
  refine E.seq ?_
  refine E.seq ?_
  refine E.reg hr (by simp; rfl) ?_
  refine E.block ?_
  refine E.loop ?_
  refine EL.ind (S48 s f d p u e) (fun i => p.toNat - i) (fun i => i ≤ p.toNat) 0 (.less rfl rfl rfl (by simp [S48]) (by simp [S48])) (Nat.zero_le _) (fun i => by cases i <;> rfl) ?_
  intro i hi
  rcases i with _ | i
  · refine E.seq ?_
    refine E.reg hr (by simp [S48]; rfl) ?_
    refine E.seq ?_
    refine E.cond (by rfl) (fun h2 => ?_) (fun h2 => ?_)
    · refine E.skip ?_
      refine E.seq ?_
      refine E.block ?_
      refine E.seq ?_
      refine E.reg hr (by simp; rfl) ?_
      refine E.seq ?_
      refine E.reg hr (by simp; rfl) ?_
      refine E.drawS mixed hr [12, 13] (by kernel_rfl) (by simp [bin_quo, hu0]; rfl) ?_
      have hw : IntKind.i64.wrap 1 = 1 := W_in (by omega) (by omega)
      refine E.reg hr (by simp [hw]; rfl) ?_
      refine ⟨1, Leads.ren [10, 12] rfl rfl rfl ⟨rfl, rfl⟩ (by simp [S48]) (by simp [S48, ticksN, tickP]), by omega, by dsimp only; omega⟩
    · simp at h2; omega
  · have hw : IntKind.i64.wrap ((i : Int) + 1 + 1) = (i : Int) + 1 + 1 := W_in (by omega) (by omega)
    refine E.seq ?_
    refine E.reg hr (by simp [S48]; rfl) ?_
    refine E.seq ?_
    refine E.cond (by rfl) (fun h2 => ?_) (fun h2 => ?_)
    · simp at h2
      have ht : List.take (i + 1) ((ticksN s f d u e (i + 1)).map iv) = (ticksN s f d u e (i + 1)).map iv := List.take_of_length_le (by simp)
      have hts : (ticksN s f d u e (i + 1 + 1)).map iv = (ticksN s f d u e (i + 1)).map iv ++ [iv (tickP s f d u e (i + 1 : Nat))] := by rw [ticksN_succ, List.map_append]; rfl
      have hsm : (i + 1 + 1) * 8 ≤ 1099511627776 ∧ i + 1 + 1 ≤ 1099511627776 := by omega
      refine E.skip ?_
      refine E.seq ?_
      refine E.block ?_
      refine E.seq ?_
      refine E.reg hr (by simp; rfl) ?_
      refine E.seq ?_
      refine E.reg hr (by simp; rfl) ?_
      refine E.drawS mixed hr [12, 13] (by kernel_rfl) (by simp [bin_quo, hu0, hsm, ht]; rfl) ?_
      refine E.reg hr (by simp [hw]; rfl) ?_
      refine ⟨i + 2, Leads.ren [10, 13] rfl rfl rfl ⟨rfl, rfl⟩ (by simp [S48]) (by simp [S48, hts, tickP]), by omega, by dsimp only; omega⟩
    · simp at h2
      have hpi : p.toNat = i + 1 := by omega
      have hpi2 : p.toNat - 1 = i := by omega
      have hw1 : IntKind.i64.wrap (i : Int) = i := W_in (by omega) (by omega)
      have hlast := ticksN_get (s := s) (f := f) (d := d) (u := u) (e := e) (show i < i + 1 by omega)
      refine E.exit ?_
      refine E.seq ?_
      refine E.seq ?_
      refine E.reg hr (by simp [hw1]; rfl) ?_
      refine E.cond (by rfl) (fun h3 => ?_) (fun h3 => ?_)
      · simp at h3
        refine E.seq ?_
        refine E.reg hr (by simp; rfl) ?_
        refine E.ret ?_
        exact outK.ret rfl rfl (by simp [ticksV, h, ticksQ, hpi2, h3])
      simp at h3
      refine E.skip ?_
      refine E.seq ?_
      refine E.seq ?_
      refine E.reg hr (by simp [hw1]; rfl) ?_
      refine E.block ?_
      refine E.loop ?_
      refine EL.ind (fun j : Nat => { fr := [(1, .pointer (some ⟨10, 0, none⟩)), (5, .slice (some ⟨11, 0, some 0⟩) (i + 1) 0), (53, iv i), (54, iv j)], sz := 70, H := [(11, .ext ((ticksN s f d u e (i + 1)).map iv) 3 1), (10, .cells (lin s f d p u e) 76)], n := 12, marks := [], vs := [1, 5, 15, 16, 53, 54] })
        (fun j => i - j) (fun j => j ≤ i ∧ shortV ((ticksN s f d u e (i + 1)).drop j) = shortV (ticksN s f d u e (i + 1))) 0 (.less rfl rfl rfl (by simp) (by simp)) ⟨Nat.zero_le _, rfl⟩ (fun _ => rfl) ?_
      intro j ⟨hj, hg⟩
      have hw2 : IntKind.i64.wrap ((j : Int) + 1) = (j : Int) + 1 := W_in (by omega) (by omega)
      refine E.seq ?_
      refine E.reg hr (by simp; rfl) ?_
      refine E.seq ?_
      refine E.cond (by rfl) (fun h4 => ?_) (fun h4 => ?_)
      · simp at h4
        have hc : ((j : Int) + 1 < (i : Int) + 1) := by omega
        have hc2 : ((j : Int) < (i : Int) + 1) := by omega
        have hc0 : (0 : Int) ≤ (j : Int) + 1 := by omega
        have hn : ((j : Int) + 1).toNat = j + 1 := by omega
        have e1 := ticksN_get (s := s) (f := f) (d := d) (u := u) (e := e) (show j < i + 1 by omega)
        have e2 := ticksN_get (s := s) (f := f) (d := d) (u := u) (e := e) (show j + 1 < i + 1 by omega)
        have hdrop : (ticksN s f d u e (i + 1)).drop j = tickP s f d u e j :: tickP s f d u e (j + 1 : Nat) :: (ticksN s f d u e (i + 1)).drop (j + 2) := by
          rw [List.drop_eq_getElem_cons (show j < (ticksN s f d u e (i + 1)).length by simp; omega), List.drop_eq_getElem_cons (show j + 1 < (ticksN s f d u e (i + 1)).length by simp; omega)]
          rw [List.getElem?_eq_getElem (by simp; omega)] at e1 e2
          injection e1 with e1; injection e2 with e2
          rw [e1, e2]
        refine E.skip ?_
        refine E.seq ?_
        refine E.block ?_
        refine E.seq ?_
        refine E.reg hr (by simp; rfl) ?_
        refine E.seq ?_
        refine E.drawS mixed hr [] (by kernel_rfl) (by simp [hw2, hc, hc2, hc0, hn, e1, e2]; rfl) ?_
        refine E.cond (by rfl) (fun h5 => ?_) (fun h5 => ?_)
        · simp at h5
          refine E.seq ?_
          refine E.reg hr (by simp; rfl) ?_
          refine E.ret ?_
          have hsh : shortV (ticksN s f d u e p.toNat) = true := by rw [hpi, ← hg, hdrop]; simp [shortV, h5]
          have h3n : ¬ (100000 < tickP s f d u e i) := by omega
          exact outK.ret rfl rfl (by simp [ticksV, h, ticksQ, hpi2, hsh, h3n])
        · simp at h5
          refine E.skip ?_
          refine E.reg hr (by simp [hw2]; rfl) ?_
          refine ⟨j + 1, .less rfl rfl rfl (by simp) (by simp), ⟨by omega, ?_⟩, by dsimp only; omega⟩
          rw [← hg, hdrop, shortV]
          rw [List.drop_eq_getElem_cons (show j + 1 < (ticksN s f d u e (i + 1)).length by simp; omega)]
          rw [List.getElem?_eq_getElem (by simp; omega)] at e2
          injection e2 with e2
          rw [e2]
          have h6 : ¬ (IntKind.i64.wrap (tickP s f d u e ((j : Int) + 1) - tickP s f d u e j) < 8) := by omega
          simp [h6]
      · simp at h4
        have hji : j = i := by omega
        subst hji
        refine E.exit ?_
        refine E.seq ?_
        refine E.reg hr (by simp; rfl) ?_
        refine E.ret ?_
        have hsh : shortV (ticksN s f d u e p.toNat) = false := by
          rw [hpi, ← hg, List.drop_eq_getElem_cons (show j < (ticksN s f d u e (j + 1)).length by simp), List.drop_eq_nil_of_le (by simp)]
          rfl
        have h3n : ¬ (100000 < tickP s f d u e j) := by omega
        refine outK.ret rfl rfl ?_
        rw [hpi] at hsh
        simp [ticksV, h, ticksQ, hsh, h3n, hpi]
end Go.Proofs.YtndlfijfjglkdaaGreatDoor

namespace Go.Proofs.YtndlfijfjglkdaaGreatDoor
open Go Go.Ab Go.Proofs
theorem w28 (b : Bool) (e : Int) : AC Tryz.prog 28 [.bool b, .int .i64 e] [] 10 (.int .i64 (whenV b e)) [] 10 := by
  have hr := recT_ok (P := Tryz.prog) (l := []) (by simp)
  refine AC.pure Tryz.func28 rfl (by kernel_rfl) rfl [] rfl ?_
  refine E.seq ?_
  refine E.reg hr (by simp; rfl) ?_
  refine E.seq ?_
  refine E.seq ?_
  refine E.reg hr (by simp; rfl) ?_
  refine E.cond (by rfl) (fun h => ?_) (fun h => ?_)
  · refine E.seq ?_
    refine E.reg hr (by simp; rfl) ?_
    refine E.ret ?_
    exact pureK.ret rfl rfl (by simp [whenV, h]) (sub_refl _)
  · refine E.skip ?_
    refine E.seq ?_
    refine E.reg hr (by simp; rfl) ?_
    refine E.ret ?_
    exact pureK.ret rfl rfl (by simp [whenV, h]) (sub_refl _)
theorem ok28 : EntOk Tryz.prog (28, g114) := by
  intro args H n v H' n' h
  simp only [g114] at h
  split at h
  · rename_i b e
    injection h with h; injection h with e1 e2; injection e2 with e2 e3; subst e1 e2 e3
    exact AC.liftP rfl (Part.plain (by simp) [] (by simp [Seen]) gsz ⟨_, _, w28 b e⟩)
  · cases h
theorem w62 (a lo hi : Int) : AC Tryz.prog 62 [.int .i64 a, .int .i64 lo, .int .i64 hi] [] 10 (.int .i64 (withinV a lo hi)) [] 10 := by
  have hr := recT_ok (P := Tryz.prog) (l := [(28, g114)]) (by simp [ok28])
  refine AC.pure Tryz.func62 rfl (by kernel_rfl) rfl [] rfl ?_
  refine E.seq ?_
  refine E.reg hr (by simp; rfl) ?_
  refine E.seq ?_
  by_cases h1 : a < lo
  · refine E.reg hr (by simp [h1, g114]; rfl) ?_
    refine E.ret ?_
    exact pureK.ret rfl rfl (by simp [withinV, whenV, h1]) (sub_refl _)
  · refine E.reg hr (by simp [h1, g114]; rfl) ?_
    refine E.ret ?_
    exact pureK.ret rfl rfl (by simp [withinV, whenV, h1]) (sub_refl _)
theorem ok62 : EntOk Tryz.prog (62, g138) := by
  intro args H n v H' n' h
  simp only [g138] at h
  split at h
  · injection h with h; injection h with e1 e2; injection e2 with e2 e3; subst e1 e2 e3
    exact AC.liftP rfl (Part.plain (by simp) [] (by simp [Seen]) gsz ⟨_, _, w62 _ _ _⟩)
  · cases h
theorem w27 (l : List Int) (o c : Nat) (hl : l.length < 2 ^ 31) : AC Tryz.prog 27 [.slice (some ⟨10, o, none⟩) l.length c] [(10, .inp o (l.map iv))] 11 (iv (firstV l)) [(10, .inp o (l.map iv))] 11 := by
  have hr := recT_ok (P := Tryz.prog) (l := []) (by simp)
  refine AC.pure Tryz.func27 rfl (by kernel_rfl) rfl [0, 3] rfl ?_
  refine E.seq ?_
  refine E.reg hr (by simp; rfl) ?_
  refine E.seq ?_
  refine E.seq ?_
  refine E.reg hr (by simp; rfl) ?_
  refine E.block ?_
  refine E.loop ?_
  refine EL.ind (fun i : Nat => { fr := [(0, .slice (some ⟨10, o, none⟩) l.length c), (3, iv i)], sz := 19, H := [(10, .inp o (l.map iv))], n := 11, marks := [], vs := [0, 3] }) (fun i => l.length - i) (fun i => i ≤ l.length ∧ firstV (l.drop i) = firstV l) 0 (.less rfl rfl rfl (by simp) (by simp)) ⟨Nat.zero_le _, rfl⟩ (fun _ => rfl) ?_
  intro i ⟨hi, hg⟩
  refine E.seq ?_
  refine E.seq ?_
  refine E.reg hr (by simp; rfl) ?_
  refine E.cond (by rfl) (fun h => ?_) (fun h => ?_)
  · simp at h
    refine E.skip ?_
    refine E.seq ?_
    refine E.block ?_
    refine E.seq ?_
    refine E.reg hr (by simp [h]; rfl) ?_
    refine E.cond (by rfl) (fun h2 => ?_) (fun h2 => ?_)
    · simp at h2
      refine E.seq ?_
      refine E.reg hr (by simp [h]; rfl) ?_
      refine E.ret ?_
      refine pureK.ret rfl rfl ?_ (sub_refl _)
      rw [List.drop_eq_getElem_cons h] at hg
      simp [← hg, firstV, h2]
    · simp at h2
      refine E.skip ?_
      have hw : IntKind.i64.wrap ((i : Int) + 1) = (i : Int) + 1 := W_in (by omega) (by omega)
      refine E.reg hr (by simp [hw]; rfl) ?_
      rw [List.drop_eq_getElem_cons h] at hg
      exact ⟨i + 1, .less rfl rfl rfl (by simp) (by simp), ⟨h, by rw [← hg]; simp [firstV, h2]⟩, by dsimp only; omega⟩
  · simp at h
    refine E.exit ?_
    refine E.seq ?_
    refine E.reg hr (by simp; rfl) ?_
    refine E.ret ?_
    have : l.drop i = [] := by simp; omega
    refine pureK.ret rfl rfl ?_ (sub_refl _)
    simp [← hg, this, firstV]
theorem ok27 : EntOk Tryz.prog (27, g113) := by
  intro args H n v H' n' h
  simp only [g113] at h
  split at h
  · rename_i a len c
    rw [Option.map_eq_some_iff] at h
    obtain ⟨l, h1, h⟩ := h
    injection h with e1 e2; injection e2 with e2 e3; subst e1 e2 e3
    obtain ⟨hf, hc, hlen, hlt⟩ := intsAt_ok h1
    subst hlen
    exact AC.liftP rfl (Part.one (fun s => [s]) (by intro φ φ0 s s0 h; simp [denL, h]) (by intro p s h; exact ⟨h, trivial⟩) hf hc (afL_iv l) [] (by simp [Seen]) gsz fun c => ⟨_, _, w27 l _ c hlt⟩)
  · cases h
theorem w49 (s f d p u e : Int) : AC Tryz.prog 49 [.agg #[iv s, iv f, iv d, iv p, iv u, iv e]] [] 10 (iv (lineV s f d p u e)) [] 10 := by
  have hr := recT_ok (P := Tryz.prog) (l := [(62, g138), (27, g113)]) (by simp [ok62, ok27])
  refine AC.pure Tryz.func49 rfl (by kernel_rfl) rfl [] rfl ?_
  refine E.seq ?_
  refine E.reg hr (by simp; rfl) ?_
  refine E.seq ?_
  refine E.drawK mixed hr (by simp [g138, g113, intsAt, intsOf]; rfl) (by kernel_rfl) (by kernel_rfl) ?_
  refine E.ret ?_
  refine pureK.ret rfl rfl ?_ (by repeat first | exact sub_refl _ | refine sub_cons rfl ?_)
  simp [lineV]
theorem ok49 : EntOk Tryz.prog (49, g136) := by
  intro args H n v H' n' h
  simp only [g136] at h
  split at h
  · injection h with h; injection h with e1 e2; injection e2 with e2 e3; subst e1 e2 e3
    exact AC.liftP rfl (Part.plain (by simp) [] (by simp [Seen]) gsz ⟨_, _, w49 _ _ _ _ _ _⟩)
  · cases h
end Go.Proofs.YtndlfijfjglkdaaGreatDoor

namespace Go.Proofs.YtndlfijfjglkdaaGreatDoor
open Go Go.Ab Go.Proofs
/-- the tick of a point, as the reference reckons it -/
def wayV (f d e i : Int) : Int := IntKind.i64.wrap (IntKind.i64.wrap (f + IntKind.i64.wrap (i * d)) * e)
def tickR (s f d u e i : Int) : Int :=
  if 0 < (wayV f d e i).tmod u then IntKind.i64.wrap (IntKind.i64.wrap (s + IntKind.i64.wrap ((wayV f d e i).tdiv u)) + 1) else IntKind.i64.wrap (s + IntKind.i64.wrap ((wayV f d e i).tdiv u))
def ticksM (s f d u e : Int) (n : Nat) : List Int := (List.range n).map fun i : Nat => tickR s f d u e i
@[simp] theorem ticksM_length (s f d u e : Int) (n : Nat) : (ticksM s f d u e n).length = n := by simp [ticksM]
theorem ticksM_succ (s f d u e : Int) (n : Nat) : ticksM s f d u e (n + 1) = ticksM s f d u e n ++ [tickR s f d u e n] := by simp [ticksM, List.range_succ]
@[simp] theorem ticksM_getElem {s f d u e : Int} {n i : Nat} (h : i < (ticksM s f d u e n).length) : (ticksM s f d u e n)[i] = tickR s f d u e i := by simp [ticksM]
def bigV : List Int → Bool
  | [] => false
  | x :: l => decide (100000 < x) || bigV l
theorem bigV_append : ∀ a b : List Int, bigV (a ++ b) = (bigV a || bigV b)
  | [], b => by simp [bigV]
  | x :: a, b => by simp [bigV, bigV_append a b, Bool.or_assoc]
def ticksU (s f d p u e : Int) : Option (List Int) × Int :=
  if bigV (ticksM s f d u e p.toNat) then (none, 4)
  else if shortV (ticksM s f d u e p.toNat) then (none, 21)
  else (some (ticksM s f d u e p.toNat), 0)
def S50 (s f d p u e : Int) : Nat → St
  | 0 => { fr := [(1, .pointer (some ⟨10, 0, none⟩)), (4, .slice none 0 0), (5, iv 0)], sz := 63, H := [(10, .cells (lin s f d p u e) 73)], n := 11, marks := [], vs := [1, 4, 5, 8] }
  | i + 1 => { fr := [(1, .pointer (some ⟨10, 0, none⟩)), (4, .slice (some ⟨11, 0, some 0⟩) (i + 1) 0), (5, iv (i + 1 : Nat))], sz := 63, H := [(11, .ext ((ticksM s f d u e (i + 1)).map iv) 3 1), (10, .cells (lin s f d p u e) 73)], n := 12, marks := [], vs := [1, 4, 5, 8] }
theorem bigV_mono {s f d u e : Int} : ∀ {n m : Nat}, n ≤ m → bigV (ticksM s f d u e n) = true → bigV (ticksM s f d u e m) = true := by
  intro n m h hb
  induction m with
  | zero => rw [Nat.le_zero.1 h] at hb; exact hb
  | succ m ih =>
    by_cases hm : n = m + 1
    · rw [← hm]; exact hb
    · rw [ticksM_succ, bigV_append, ih (by omega)]; rfl
set_option maxRecDepth 20000 in
theorem w50 (s f d p u e : Int) (h : lineV s f d p u e = 0) : ∃ v H1 n1 H2, AC Tryz.prog 50 [.agg ⟨lin s f d p u e⟩] [] 10 v H1 n1 ∧ ticksQ (ticksU s f d p u e) v H2 ∧ (af v = false → H1 = H2) := by
  obtain ⟨hs, hf, hd, hp, hu, he⟩ := lineV_zero h
  have hu0 : u ≠ 0 := by omega
  have hr := recT_ok (P := Tryz.prog) (l := []) (by simp)
  refine AC.out Tryz.func50 rfl (by kernel_rfl) rfl [1, 4, 5, 8] ?_
  refine E.seq ?_
  refine E.reg hr (by simp; rfl) ?_
  refine E.seq ?_
  refine E.reg hr (by simp; rfl) ?_
  refine E.seq ?_
  refine E.seq ?_
  refine E.reg hr (by simp; rfl) ?_
  refine E.block ?_
  refine E.loop ?_
  refine EL.ind (S50 s f d p u e) (fun i => p.toNat - i) (fun i => i ≤ p.toNat ∧ bigV (ticksM s f d u e i) = false) 0 (.less rfl rfl rfl (by simp [S50]) (by simp [S50])) ⟨Nat.zero_le _, rfl⟩ (fun i => by cases i <;> rfl) ?_
  intro i ⟨hi, hbig⟩
  rcases i with _ | i
  · have hw : IntKind.i64.wrap 1 = 1 := W_in (by omega) (by omega)
    refine E.seq ?_
    refine E.seq ?_
    refine E.reg hr (by simp [S50]; rfl) ?_
    refine E.cond (by rfl) (fun h2 => ?_) (fun h2 => ?_)
    · simp at h2
      refine E.skip ?_
      refine E.seq ?_
      refine E.block ?_
      refine E.seq ?_
      refine E.reg hr (by simp; rfl) ?_
      refine E.seq ?_
      refine E.drawS mixed hr [] (by kernel_rfl) (by simp [bin_quo, hu0]; rfl) ?_
      refine E.seq ?_
      refine E.seq ?_
      refine E.reg hr (by simp [bin_rem, hu0]; rfl) ?_
      refine E.cond (by rfl) (fun h3 => ?_) (fun h3 => ?_)
      · simp at h3
        have ht : tickR s f d u e 0 = IntKind.i64.wrap (IntKind.i64.wrap (s + IntKind.i64.wrap ((IntKind.i64.wrap (IntKind.i64.wrap (f + IntKind.i64.wrap 0) * e)).tdiv u)) + 1) := by simp [tickR, wayV, h3]
        refine E.reg hr (by simp; rfl) ?_
        refine E.seq ?_
        refine E.seq ?_
        refine E.reg hr (by simp; rfl) ?_
        refine E.cond (by rfl) (fun h4 => ?_) (fun h4 => ?_)
        · simp at h4
          refine E.seq ?_
          refine E.reg hr (by simp; rfl) ?_
          refine E.ret ?_
          have hb : bigV (ticksM s f d u e p.toNat) = true := bigV_mono (n := 1) (by omega) (by simp [ticksM, bigV, ht, h4])
          exact outK.ret rfl rfl (by simp [ticksU, hb, ticksQ])
        · simp at h4
          refine E.skip ?_
          refine E.reg hr (by simp; rfl) ?_
          refine E.reg hr (by simp [hw]; rfl) ?_
          exact ⟨1, Leads.ren [10, 12] rfl rfl rfl ⟨rfl, rfl⟩ (by simp [S50]) (by simp [S50, ticksM, ht]), ⟨by omega, by simp [ticksM, bigV, ht]; omega⟩, by dsimp only; omega⟩
      · simp at h3
        have ht : tickR s f d u e 0 = IntKind.i64.wrap (s + IntKind.i64.wrap ((IntKind.i64.wrap (IntKind.i64.wrap (f + IntKind.i64.wrap 0) * e)).tdiv u)) := by simp [tickR, wayV]; omega
        refine E.skip ?_
        refine E.seq ?_
        refine E.seq ?_
        refine E.reg hr (by simp; rfl) ?_
        refine E.cond (by rfl) (fun h4 => ?_) (fun h4 => ?_)
        · simp at h4
          refine E.seq ?_
          refine E.reg hr (by simp; rfl) ?_
          refine E.ret ?_
          have hb : bigV (ticksM s f d u e p.toNat) = true := bigV_mono (n := 1) (by omega) (by simp [ticksM, bigV, ht, h4])
          exact outK.ret rfl rfl (by simp [ticksU, hb, ticksQ])
        · simp at h4
          refine E.skip ?_
          refine E.reg hr (by simp; rfl) ?_
          refine E.reg hr (by simp [hw]; rfl) ?_
          exact ⟨1, Leads.ren [10, 12] rfl rfl rfl ⟨rfl, rfl⟩ (by simp [S50]) (by simp [S50, ticksM, ht]), ⟨by omega, by simp [ticksM, bigV, ht]; omega⟩, by dsimp only; omega⟩
    · simp at h2; omega
  · have hw : IntKind.i64.wrap ((i : Int) + 1 + 1) = (i : Int) + 1 + 1 := W_in (by omega) (by omega)
    have ht : List.take (i + 1) ((ticksM s f d u e (i + 1)).map iv) = (ticksM s f d u e (i + 1)).map iv := List.take_of_length_le (by simp)
    have hts : (ticksM s f d u e (i + 1 + 1)).map iv = (ticksM s f d u e (i + 1)).map iv ++ [iv (tickR s f d u e (i + 1 : Nat))] := by rw [ticksM_succ, List.map_append]; rfl
    refine E.seq ?_
    refine E.seq ?_
    refine E.reg hr (by simp [S50]; rfl) ?_
    refine E.cond (by rfl) (fun h2 => ?_) (fun h2 => ?_)
    · simp at h2
      have hsm : (i + 1 + 1) * 8 ≤ 1099511627776 ∧ i + 1 + 1 ≤ 1099511627776 := by omega
      refine E.skip ?_
      refine E.seq ?_
      refine E.block ?_
      refine E.seq ?_
      refine E.reg hr (by simp; rfl) ?_
      refine E.seq ?_
      refine E.drawS mixed hr [] (by kernel_rfl) (by simp [bin_quo, hu0]; rfl) ?_
      refine E.seq ?_
      refine E.seq ?_
      refine E.reg hr (by simp [bin_rem, hu0]; rfl) ?_
      refine E.cond (by rfl) (fun h3 => ?_) (fun h3 => ?_)
      · simp at h3
        have hk : tickR s f d u e ((i : Int) + 1) = IntKind.i64.wrap (IntKind.i64.wrap (s + IntKind.i64.wrap ((IntKind.i64.wrap (IntKind.i64.wrap (f + IntKind.i64.wrap (((i : Int) + 1) * d)) * e)).tdiv u)) + 1) := by simp [tickR, wayV, h3]
        refine E.reg hr (by simp; rfl) ?_
        refine E.seq ?_
        refine E.seq ?_
        refine E.reg hr (by simp; rfl) ?_
        refine E.cond (by rfl) (fun h4 => ?_) (fun h4 => ?_)
        · simp at h4
          refine E.seq ?_
          refine E.reg hr (by simp; rfl) ?_
          refine E.ret ?_
          have hb : bigV (ticksM s f d u e p.toNat) = true := bigV_mono (n := i + 1 + 1) (by omega) (by rw [ticksM_succ, bigV_append]; simp [bigV, hk, h4])
          exact outK.ret rfl rfl (by simp [ticksU, hb, ticksQ])
        · simp at h4
          refine E.skip ?_
          refine E.reg hr (by simp [hsm, ht]; rfl) ?_
          refine E.reg hr (by simp [hw]; rfl) ?_
          exact ⟨i + 2, Leads.ren [10, 13] rfl rfl rfl ⟨rfl, rfl⟩ (by simp [S50]) (by simp [S50, hts, hk]), ⟨by omega, by rw [ticksM_succ, bigV_append, hbig]; simp [bigV, hk]; omega⟩, by dsimp only; omega⟩
      · simp at h3
        have hk : tickR s f d u e ((i : Int) + 1) = IntKind.i64.wrap (s + IntKind.i64.wrap ((IntKind.i64.wrap (IntKind.i64.wrap (f + IntKind.i64.wrap (((i : Int) + 1) * d)) * e)).tdiv u)) := by simp [tickR, wayV]; omega
        refine E.skip ?_
        refine E.seq ?_
        refine E.seq ?_
        refine E.reg hr (by simp; rfl) ?_
        refine E.cond (by rfl) (fun h4 => ?_) (fun h4 => ?_)
        · simp at h4
          refine E.seq ?_
          refine E.reg hr (by simp; rfl) ?_
          refine E.ret ?_
          have hb : bigV (ticksM s f d u e p.toNat) = true := bigV_mono (n := i + 1 + 1) (by omega) (by rw [ticksM_succ, bigV_append]; simp [bigV, hk, h4])
          exact outK.ret rfl rfl (by simp [ticksU, hb, ticksQ])
        · simp at h4
          refine E.skip ?_
          refine E.reg hr (by simp [hsm, ht]; rfl) ?_
          refine E.reg hr (by simp [hw]; rfl) ?_
          exact ⟨i + 2, Leads.ren [10, 13] rfl rfl rfl ⟨rfl, rfl⟩ (by simp [S50]) (by simp [S50, hts, hk]), ⟨by omega, by rw [ticksM_succ, bigV_append, hbig]; simp [bigV, hk]; omega⟩, by dsimp only; omega⟩
    · simp at h2
      have hpi : p.toNat = i + 1 := by omega
      refine E.exit ?_
      refine E.seq ?_
      refine E.seq ?_
      refine E.reg hr (by simp; rfl) ?_
      refine E.block ?_
      refine E.loop ?_
      refine EL.ind (fun j : Nat => { fr := [(1, .pointer (some ⟨10, 0, none⟩)), (4, .slice (some ⟨11, 0, some 0⟩) (i + 1) 0), (8, iv (j + 1 : Nat))], sz := 63, H := [(11, .ext ((ticksM s f d u e (i + 1)).map iv) 3 1), (10, .cells (lin s f d p u e) 73)], n := 12, marks := [], vs := [1, 4, 5, 8] })
        (fun j => i - j) (fun j => j ≤ i ∧ shortV ((ticksM s f d u e (i + 1)).drop j) = shortV (ticksM s f d u e (i + 1))) 0 (.less rfl rfl rfl (by simp) (by simp)) ⟨Nat.zero_le _, rfl⟩ (fun _ => rfl) ?_
      intro j ⟨hj, hg⟩
      have hw2 : IntKind.i64.wrap ((j : Int) + 1 + 1) = (j : Int) + 1 + 1 := W_in (by omega) (by omega)
      have hw3 : IntKind.i64.wrap (j : Int) = j := W_in (by omega) (by omega)
      refine E.seq ?_
      refine E.seq ?_
      refine E.reg hr (by simp; rfl) ?_
      refine E.cond (by rfl) (fun h4 => ?_) (fun h4 => ?_)
      · simp at h4
        have hc2 : ((j : Int) < (i : Int) + 1) := by omega
        have hlt : j < i + 1 := by omega
        have hdrop : (ticksM s f d u e (i + 1)).drop j = tickR s f d u e j :: tickR s f d u e (j + 1 : Nat) :: (ticksM s f d u e (i + 1)).drop (j + 2) := by
          rw [List.drop_eq_getElem_cons (show j < (ticksM s f d u e (i + 1)).length by simp; omega), List.drop_eq_getElem_cons (show j + 1 < (ticksM s f d u e (i + 1)).length by simp; omega)]
          simp
        refine E.skip ?_
        refine E.seq ?_
        refine E.block ?_
        refine E.seq ?_
        refine E.drawS mixed hr [] (by kernel_rfl) (by simp [hw3, hc2, hlt, h4]; rfl) ?_
        refine E.cond (by rfl) (fun h5 => ?_) (fun h5 => ?_)
        · simp at h5
          refine E.seq ?_
          refine E.reg hr (by simp; rfl) ?_
          refine E.ret ?_
          have hsh : shortV (ticksM s f d u e p.toNat) = true := by rw [hpi, ← hg, hdrop]; simp [shortV, h5]
          rw [hpi] at hsh
          exact outK.ret rfl rfl (by simp [ticksU, hpi, hbig, hsh, ticksQ])
        · simp at h5
          refine E.skip ?_
          refine E.reg hr (by simp [hw2]; rfl) ?_
          refine ⟨j + 1, .less rfl rfl rfl (by simp) (by simp), ⟨by omega, ?_⟩, by dsimp only; omega⟩
          rw [← hg, hdrop, shortV]
          rw [List.drop_eq_getElem_cons (show j + 1 < (ticksM s f d u e (i + 1)).length by simp; omega)]
          have h6 : ¬ (IntKind.i64.wrap (tickR s f d u e ((j : Int) + 1) - tickR s f d u e j) < 8) := by omega
          simp [h6]
      · simp at h4
        have hji : j = i := by omega
        subst hji
        refine E.exit ?_
        refine E.seq ?_
        refine E.reg hr (by simp; rfl) ?_
        refine E.ret ?_
        have hsh : shortV (ticksM s f d u e (j + 1)) = false := by
          rw [← hg, List.drop_eq_getElem_cons (show j < (ticksM s f d u e (j + 1)).length by simp), List.drop_eq_nil_of_le (by simp)]
          rfl
        exact outK.ret rfl rfl (by simp [ticksU, hpi, hbig, hsh, ticksQ])
end Go.Proofs.YtndlfijfjglkdaaGreatDoor

namespace Go.Proofs.YtndlfijfjglkdaaGreatDoor
open Go Go.Ab Go.Proofs
theorem w109 (l k : List Int) (o o2 c c2 : Nat) (hl : l.length < 2 ^ 31) (hk : k.length < 2 ^ 31) : AC Tryz.prog 109 [.slice (some ⟨10, o, none⟩) l.length c, .slice (some ⟨11, o2, none⟩) k.length c2] [(11, .inp o2 (k.map iv)), (10, .inp o (l.map iv))] 12 (.bool (decide (l = k))) [(11, .inp o2 (k.map iv)), (10, .inp o (l.map iv))] 12 := by
  have hr := recT_ok (P := Tryz.prog) (l := []) (by simp)
  refine AC.pure Tryz.func109 rfl (by kernel_rfl) rfl [0, 1, 5] rfl ?_
  refine E.seq ?_
  refine E.reg hr (by simp; rfl) ?_
  refine E.seq ?_
  refine E.seq ?_
  refine E.reg hr (by simp; rfl) ?_
  refine E.cond (by rfl) (fun h => ?_) (fun h => ?_)
  · simp at h
    refine E.seq ?_
    refine E.reg hr (by simp; rfl) ?_
    refine E.ret ?_
    have hne : l ≠ k := fun e => by subst e; simp at h
    exact pureK.ret rfl rfl (by simp [hne]) (sub_refl _)
  · simp at h
    have hlen : l.length = k.length := by omega
    refine E.skip ?_
    refine E.seq ?_
    refine E.seq ?_
    refine E.reg hr (by simp; rfl) ?_
    refine E.block ?_
    refine E.loop ?_
    refine EL.ind (fun i : Nat => { fr := [(0, .slice (some ⟨10, o, none⟩) l.length c), (1, .slice (some ⟨11, o2, none⟩) k.length c2), (5, iv i)], sz := 26, H := [(11, .inp o2 (k.map iv)), (10, .inp o (l.map iv))], n := 12, marks := [], vs := [0, 1, 5] })
      (fun i => l.length - i) (fun i => i ≤ l.length ∧ l.take i = k.take i) 0 (.less rfl rfl rfl (by simp) (by simp)) ⟨Nat.zero_le _, rfl⟩ (fun _ => rfl) ?_
    intro i ⟨hi, hg⟩
    have hw : IntKind.i64.wrap ((i : Int) + 1) = (i : Int) + 1 := W_in (by omega) (by omega)
    refine E.seq ?_
    refine E.seq ?_
    refine E.reg hr (by simp; rfl) ?_
    refine E.cond (by rfl) (fun h2 => ?_) (fun h2 => ?_)
    · simp at h2
      have h2k : i < k.length := by omega
      refine E.skip ?_
      refine E.seq ?_
      refine E.block ?_
      refine E.seq ?_
      refine E.drawS mixed hr [] (by kernel_rfl) (by simp [h2, h2k]; rfl) ?_
      refine E.cond (by rfl) (fun h3 => ?_) (fun h3 => ?_)
      · simp at h3
        refine E.seq ?_
        refine E.reg hr (by simp; rfl) ?_
        refine E.ret ?_
        have hne : l ≠ k := fun e => by subst e; exact h3 rfl
        exact pureK.ret rfl rfl (by simp [hne]) (sub_refl _)
      · simp at h3
        refine E.skip ?_
        refine E.reg hr (by simp [hw]; rfl) ?_
        exact ⟨i + 1, .less rfl rfl rfl (by simp) (by simp), ⟨h2, by rw [List.take_succ_eq_append_getElem h2, List.take_succ_eq_append_getElem h2k, hg, h3]⟩, by dsimp only; omega⟩
    · simp at h2
      refine E.exit ?_
      refine E.seq ?_
      refine E.reg hr (by simp; rfl) ?_
      refine E.ret ?_
      have heq : l = k := by
        rw [List.take_of_length_le (by omega), List.take_of_length_le (by omega)] at hg
        exact hg
      exact pureK.ret rfl rfl (by simp [heq]) (sub_refl _)
def g109 (args : List Value) (H : Heap) (n : Nat) : R := match args with
  | [.slice (some a) len _, .slice (some b) len2 _] => match intsAt H a len, intsAt H b len2 with
    | some l, some k => some (.bool (decide (l = k)), H, n)
    | _, _ => none
  | _ => none
theorem ok109 : EntOk Tryz.prog (109, g109) := by
  intro args H n v H' n' h
  simp only [g109] at h
  split at h
  · rename_i a len c b len2 c2
    split at h
    · rename_i l k h1 h2
      injection h with h; injection h with e1 e2; injection e2 with e2 e3; subst e1 e2 e3
      obtain ⟨hf, hc, hlen, hlt⟩ := intsAt_ok h1
      obtain ⟨hf2, hc2, hlen2, hlt2⟩ := intsAt_ok h2
      subst hlen hlen2
      exact AC.liftP rfl (Part.two (fun s u => [s, u]) (by intro φ φ0 s s0 u u0 h h'; simp [denL, h, h']) (by intro p s u h h'; exact ⟨h, h', trivial⟩) hf hc (afL_iv l) hf2 hc2 (afL_iv k) [] (by simp [Seen]) gsz fun c c2 => ⟨_, _, w109 l k _ _ c c2 hlt hlt2⟩)
    · cases h
  · cases h
theorem w51a (e : Int) (he : e ≠ 0) : AC Tryz.prog 51 [.slice none 0 0, iv e, iv e, .slice none 0 0] [] 10 (.bool true) [] 10 := by
  have hr := recT_ok (P := Tryz.prog) (l := []) (by simp)
  refine AC.pure Tryz.func51 rfl (by kernel_rfl) rfl [] rfl ?_
  refine E.seq ?_
  refine E.reg hr (by simp; rfl) ?_
  refine E.seq ?_
  refine E.reg hr (by simp [he]; rfl) ?_
  refine E.ret ?_
  exact pureK.ret rfl rfl (by simp) (sub_refl _)
theorem intsOf_iv : ∀ l : List Int, intsOf (l.map iv) = some l
  | [] => rfl
  | x :: l => by simp [intsOf, intsOf_iv l]
theorem intsAt_iv {H : Heap} {a : Addr} {len : Nat} {l : List Int} (hf : flat a = true) (h : cellsA H a.block a.off len = some (l.map iv)) (hlt : len < 2147483648) : intsAt H a len = some l := by
  unfold intsAt
  rw [hf, h]
  simp [hlt, intsOf_iv]
theorem w51b (l k : List Int) (o o2 c c2 : Nat) (hl : l.length < 2 ^ 31) (hk : k.length < 2 ^ 31) : AC Tryz.prog 51 [.slice (some ⟨10, o, none⟩) l.length c, iv 0, iv 0, .slice (some ⟨11, o2, none⟩) k.length c2] [(11, .inp o2 (k.map iv)), (10, .inp o (l.map iv))] 12 (.bool (decide (l = k))) [(11, .inp o2 (k.map iv)), (10, .inp o (l.map iv))] 12 := by
  have hr := recT_ok (P := Tryz.prog) (l := [(109, g109)]) (by simp [ok109])
  have e1 : intsAt [(11, .inp o2 (k.map iv)), (10, .inp o (l.map iv))] ⟨10, o, none⟩ l.length = some l := intsAt_iv rfl (by simp; exact List.take_of_length_le (by simp)) (by omega)
  have e2 : intsAt [(11, .inp o2 (k.map iv)), (10, .inp o (l.map iv))] ⟨11, o2, none⟩ k.length = some k := intsAt_iv rfl (by simp; exact List.take_of_length_le (by simp)) (by omega)
  refine AC.pure Tryz.func51 rfl (by kernel_rfl) rfl [] rfl ?_
  refine E.seq ?_
  refine E.reg hr (by simp; rfl) ?_
  refine E.seq ?_
  refine E.reg hr (by simp [g109, e1, e2]; rfl) ?_
  refine E.ret ?_
  exact pureK.ret rfl rfl (by simp) (sub_refl _)
end Go.Proofs.YtndlfijfjglkdaaGreatDoor

namespace Go.Proofs.YtndlfijfjglkdaaGreatDoor
open Go Go.Ab Go.Proofs
theorem ceil_eq (n u : Int) (hu : 1 ≤ u) : (n + u - 1) / u = n / u + if 0 < n % u then 1 else 0 := by
  have h1 := Int.mul_ediv_add_emod n u
  have h2 := Int.emod_nonneg n (show u ≠ 0 by omega)
  have h3 := Int.emod_lt_of_pos n (show 0 < u by omega)
  generalize n / u = q at *
  generalize n % u = r at *
  have e : n + u - 1 = (r + u - 1) + u * q := by omega
  rw [e, Int.add_mul_ediv_left _ _ (by omega)]
  split
  · rw [show r + u - 1 = (r - 1) + u * 1 by omega, Int.add_mul_ediv_left _ _ (by omega), Int.ediv_eq_zero_of_lt (by omega) (by omega)]; omega
  · rw [Int.ediv_eq_zero_of_lt (by omega) (by omega)]; omega
theorem far_bounds {f d e i : Int} (hf : 0 ≤ f ∧ f ≤ 100000) (hd : 1 ≤ d ∧ d ≤ 100000) (he : 1 ≤ e ∧ e ≤ 1000) (hi : 0 ≤ i ∧ i ≤ 255) : (0 ≤ i * d ∧ i * d ≤ 25500000) ∧ 0 ≤ (f + i * d) * e ∧ (f + i * d) * e ≤ 25600000000 := by
  have h1 : 0 ≤ i * d := Int.mul_nonneg hi.1 (by omega)
  have h2 : i * d ≤ 255 * 100000 := Int.mul_le_mul hi.2 hd.2 (by omega) (by omega)
  have h3 : 0 ≤ (f + i * d) * e := Int.mul_nonneg (by omega) (by omega)
  have h4 : (f + i * d) * e ≤ 25600000 * 1000 := Int.mul_le_mul (by omega) he.2 (by omega) (by omega)
  exact ⟨⟨h1, by omega⟩, h3, by omega⟩
def tickS (s f d u e i : Int) : Int := s + ((f + i * d) * e + u - 1) / u
theorem tickS_bounds {s f d u e i : Int} (hs : 0 ≤ s ∧ s ≤ 100000) (hf : 0 ≤ f ∧ f ≤ 100000) (hd : 1 ≤ d ∧ d ≤ 100000) (hu : 1 ≤ u ∧ u ≤ 1000) (he : 1 ≤ e ∧ e ≤ 1000) (hi : 0 ≤ i ∧ i ≤ 255) :
    tickP s f d u e i = tickS s f d u e i ∧ tickR s f d u e i = tickS s f d u e i := by
  obtain ⟨⟨a1, a2⟩, b1, b2⟩ := far_bounds hf hd he hi
  have hw : wayV f d e i = (f + i * d) * e := by
    unfold wayV
    rw [W_in (x := i * d) (by omega) (by omega), W_in (x := f + i * d) (by omega) (by omega), W_in (by omega) (by omega)]
  constructor
  · unfold tickP tickS
    rw [W_in (x := i * d) (by omega) (by omega), W_in (x := f + i * d) (by omega) (by omega), W_in (x := (f + i * d) * e) (by omega) (by omega)]
    generalize (f + i * d) * e = n at *
    rw [W_in (x := n + u) (by omega) (by omega), W_in (x := n + u - 1) (by omega) (by omega), Int.tdiv_eq_ediv_of_nonneg (by omega)]
    have c1 : 0 ≤ (n + u - 1) / u := Int.ediv_nonneg (by omega) (by omega)
    have c2 : (n + u - 1) / u ≤ n + u - 1 := Int.ediv_le_self _ (by omega)
    generalize (n + u - 1) / u = q at *
    rw [W_in (x := q) (by omega) (by omega), W_in (by omega) (by omega)]
  · unfold tickR tickS
    rw [hw]
    generalize (f + i * d) * e = n at *
    rw [Int.tdiv_eq_ediv_of_nonneg (by omega), Int.tmod_eq_emod_of_nonneg (by omega), ceil_eq n u hu.1]
    have c1 : 0 ≤ n / u := Int.ediv_nonneg (by omega) (by omega)
    have c2 : n / u ≤ n := Int.ediv_le_self _ (by omega)
    generalize n / u = q at *
    rw [W_in (x := q) (by omega) (by omega), W_in (x := s + q) (by omega) (by omega)]
    split
    · rw [W_in (by omega) (by omega)]; omega
    · omega
theorem tickS_mono {s f d u e i : Int} (hd : 1 ≤ d) (hu : 1 ≤ u) (he : 1 ≤ e) : tickS s f d u e i ≤ tickS s f d u e (i + 1) := by
  unfold tickS
  have h1 : (f + i * d) * e ≤ (f + (i + 1) * d) * e := Int.mul_le_mul_of_nonneg_right (by rw [Int.add_mul]; omega) (by omega)
  have := Int.ediv_le_ediv (show 0 < u by omega) (show (f + i * d) * e + u - 1 ≤ (f + (i + 1) * d) * e + u - 1 by omega)
  omega
theorem ticks_eq {s f d p u e : Int} (h : lineV s f d p u e = 0) : ticksV s f d p u e = ticksU s f d p u e := by
  obtain ⟨hs, hf, hd, hp, hu, he⟩ := lineV_zero h
  have hb : ∀ i : Nat, i < p.toNat → tickP s f d u e i = tickS s f d u e i ∧ tickR s f d u e i = tickS s f d u e i := fun i hi => tickS_bounds hs hf hd hu he (by omega)
  have hl : ∀ n, n ≤ p.toNat → ticksN s f d u e n = ticksM s f d u e n := by
    intro n hn
    unfold ticksN ticksM
    refine List.map_congr_left fun i hi => ?_
    have := hb i (by have := List.mem_range.1 hi; omega)
    rw [this.1, this.2]
  have hbig : ∀ n, n + 1 ≤ p.toNat → bigV (ticksM s f d u e (n + 1)) = decide (100000 < tickS s f d u e n) := by
    intro n
    induction n with
    | zero => intro hn; simp only [ticksM_succ, bigV_append]; simp [ticksM, bigV]; rw [show (0 : Int) = ((0 : Nat) : Int) from rfl, (hb 0 (by omega)).2]
    | succ n ih =>
      intro hn
      rw [ticksM_succ, bigV_append, ih (by omega)]
      have := tickS_mono (s := s) (f := f) (i := (n : Int)) hd.1 hu.1 he.1
      have e1 := (hb (n + 1) (by omega)).2
      simp only [bigV, Bool.or_false, e1]
      push_cast
      by_cases h1 : 100000 < tickS s f d u e n
      · have : 100000 < tickS s f d u e ((n : Int) + 1) := by omega
        simp [h1, this]
      · simp [h1]
  have hp1 : p.toNat = (p.toNat - 1) + 1 := by omega
  unfold ticksV ticksU
  rw [if_neg (by simp [h]), hl _ (Nat.le_refl _), (hb (p.toNat - 1) (by omega)).1]
  have := hbig (p.toNat - 1) (by omega)
  rw [← hp1] at this
  rw [this]
  simp
end Go.Proofs.YtndlfijfjglkdaaGreatDoor

namespace Go.Proofs.YtndlfijfjglkdaaGreatDoor
open Go Go.Ab Go.Proofs
def gTicks (r : Option (List Int) × Int) (H : Heap) (n : Nat) : R := match r with
  | (none, e) => some (.tuple #[.slice none 0 0, iv e], H, n)
  | (some l, e) => some (.tuple #[.slice (some ⟨n, 0, some 0⟩) l.length 0, iv e], (n, .ext (l.map iv) 3 1) :: H, n + 1)
theorem okTicks {f : FuncId} {args : List Value} {r : Option (List Int) × Int} (haf : afL args = true) (hw : ∃ v H1 n1 H2, AC Tryz.prog f args [] 10 v H1 n1 ∧ ticksQ r v H2 ∧ (af v = false → H1 = H2)) {H : Heap} {n : Nat} {v : Value} {H' : Heap} {n' : Nat} (h : gTicks r H n = some (v, H', n')) : AC Tryz.prog f args H n v H' n' := by
  obtain ⟨v0, H1, n1, H2, hAC, hq, haf2⟩ := hw
  unfold gTicks at h
  unfold ticksQ at hq
  split at h
  · rename_i e
    injection h with h; injection h with e1 e2; injection e2 with e2 e3; subst e1 e2 e3
    subst hq
    exact AC.liftP (by simp) (Part.plain haf [] (by simp [Seen]) gsz ⟨_, _, hAC⟩)
  · rename_i l e
    injection h with h; injection h with e1 e2; injection e2 with e2 e3; subst e1 e2 e3
    obtain ⟨m, hv, hm, hle⟩ := hq
    subst hv
    have := haf2 (by simp)
    subst this
    exact AC.liftF (vf := fun m => .tuple #[.slice (some ⟨m, 0, some 0⟩) l.length 0, iv e]) ⟨fun φ ψ m n h1 h2 => by simp [den, denL, h1, h2], fun p n h => by simp [sc, scL, h]⟩ (.inr ⟨_, _, _, rfl, afL_iv l⟩) (Part.plain haf [] (by simp [Seen]) gsz ⟨m, _, _, hle, hm, hAC⟩)
def g48 (args : List Value) (H : Heap) (n : Nat) : R := match args with
  | [.agg ⟨[.int .i64 s, .int .i64 f, .int .i64 d, .int .i64 p, .int .i64 u, .int .i64 e]⟩] => gTicks (ticksV s f d p u e) H n
  | _ => none
theorem ok48 : EntOk Tryz.prog (48, g48) := by
  intro args H n v H' n' h
  simp only [g48] at h
  split at h
  · exact okTicks (by simp) (w48 _ _ _ _ _ _) h
  · cases h
def g50 (args : List Value) (H : Heap) (n : Nat) : R := match args with
  | [.agg ⟨[.int .i64 s, .int .i64 f, .int .i64 d, .int .i64 p, .int .i64 u, .int .i64 e]⟩] => if lineV s f d p u e = 0 then gTicks (ticksU s f d p u e) H n else none
  | _ => none
theorem ok50 : EntOk Tryz.prog (50, g50) := by
  intro args H n v H' n' h
  simp only [g50] at h
  split at h
  · split at h
    · rename_i hl; exact okTicks (by simp) (w50 _ _ _ _ _ _ hl) h
    · cases h
  · cases h
def g51 (args : List Value) (H : Heap) (n : Nat) : R := match args with
  | [.slice none 0 0, .int .i64 e, .int .i64 b, .slice none 0 0] => if e = b ∧ e ≠ 0 then some (.bool true, H, n) else none
  | [.slice (some a) len _, .int .i64 e, .int .i64 b, .slice (some a2) len2 _] => if e = 0 ∧ b = 0 then (match intsAt H a len, intsAt H a2 len2 with
    | some l, some k => some (.bool (decide (l = k)), H, n)
    | _, _ => none) else none
  | _ => none
theorem ok51 : EntOk Tryz.prog (51, g51) := by
  intro args H n v H' n' h
  simp only [g51] at h
  split at h
  · split at h
    · rename_i hc
      obtain ⟨rfl, hc⟩ := hc
      injection h with h; injection h with e1 e2; injection e2 with e2 e3; subst e1 e2 e3
      exact AC.liftP rfl (Part.plain (by simp) [] (by simp [Seen]) gsz ⟨_, _, w51a _ hc⟩)
    · cases h
  · split at h
    · rename_i hc
      obtain ⟨rfl, rfl⟩ := hc
      split at h
      · rename_i l k h1 h2
        injection h with h; injection h with e1 e2; injection e2 with e2 e3; subst e1 e2 e3
        obtain ⟨hf, hc, hlen, hlt⟩ := intsAt_ok h1
        obtain ⟨hf2, hc2, hlen2, hlt2⟩ := intsAt_ok h2
        subst hlen hlen2
        exact AC.liftP rfl (Part.two (fun s u => [s, iv 0, iv 0, u]) (by intro φ φ0 s s0 u u0 h h'; simp [denL, den, h, h']) (by intro p s u h h'; exact ⟨h, trivial, trivial, h', trivial⟩) hf hc (afL_iv l) hf2 hc2 (afL_iv k) [] (by simp [Seen]) gsz fun c c2 => ⟨_, _, w51b l k _ _ c c2 hlt hlt2⟩)
      · cases h
    · cases h
  · cases h
open Classical in
noncomputable def g18 (args : List Value) (H : Heap) (n : Nat) : R := if args = [] ∧ hget H 3 = some (.inp 0 tab3) ∧ hget H 0 = some (.inp 0 names0) then some (.bool true, H, n) else none
theorem ok18 : EntOk Tryz.prog (18, g18) := by
  intro args H n v H' n' h
  simp only [g18] at h
  split at h
  · rename_i hc
    obtain ⟨rfl, h3, h0⟩ := hc
    injection h with h; injection h with e1 e2; injection e2 with e2 e3; subst e1 e2 e3
    refine AC.liftP rfl (Part.plain rfl G0 ?_ gsz ⟨_, _, st0H ▸ awakeAC⟩)
    intro x hx
    rw [gsz]
    simp at hx
    rcases hx with rfl | rfl
    · exact ⟨by simp, h3, rfl, scL_af _ _ af_tab3⟩
    · exact ⟨by simp, h0, rfl, scL_af _ _ af_names0⟩
  · cases h
theorem w6 (s f d p u e : Int) : AC Tryz.prog 6 [.agg ⟨lin s f d p u e⟩] G0 10 (.bool true) G0 10 := by
  have hr := recT_ok (P := Tryz.prog) (l := [(18, g18), (48, g48), (49, g136), (50, g50), (51, g51)]) (by simp [ok18, ok48, ok49, ok50, ok51])
  refine AC.pure Tryz.func6 rfl (by kernel_rfl) rfl [] rfl ?_
  refine E.seq ?_
  refine E.reg hr (by simp; rfl) ?_
  refine E.seq ?_
  refine E.seq ?_
  refine E.reg hr (by simp [g18]; rfl) ?_
  refine E.cond (by rfl) (fun h => ?_) (fun h => ?_)
  · simp at h
  refine E.skip ?_
  refine E.seq ?_
  by_cases hl : lineV s f d p u e = 0
  · have hv := ticks_eq hl
    rcases hu : ticksU s f d p u e with ⟨_ | l, e'⟩
    · have he' : e' ≠ 0 := by
        unfold ticksU at hu
        split at hu
        · injection hu with _ h; omega
        · split at hu
          · injection hu with _ h; omega
          · injection hu with h _; cases h
      rw [hu] at hv
      refine E.reg hr (by simp [g48, hv, gTicks]; rfl) ?_
      refine E.seq ?_
      refine E.reg hr (by simp [g136, hl]; rfl) ?_
      refine E.seq ?_
      refine E.reg hr (by simp; rfl) ?_
      refine E.seq ?_
      refine E.seq ?_
      refine E.reg hr (by simp; rfl) ?_
      refine E.cond (by rfl) (fun h => ?_) (fun h => ?_)
      · refine E.reg hr (by simp [g50, hl, hu, gTicks]; rfl) ?_
        refine E.seq ?_
        refine E.reg hr (by simp [g51, he']; rfl) ?_
        refine E.ret ?_
        exact pureK.ret rfl rfl (by simp) (by repeat first | exact sub_refl _ | refine sub_cons rfl ?_)
      · simp at h
    · obtain ⟨hle, he'⟩ : l.length ≤ 256 ∧ e' = 0 := by
        obtain ⟨hs, hf, hd, hp, hu', he⟩ := lineV_zero hl
        unfold ticksU at hu
        split at hu
        · injection hu with h _; cases h
        · split at hu
          · injection hu with h _; cases h
          · injection hu with h1 h2
            injection h1 with h1
            rw [← h1]
            simp
            omega
      subst he'
      rw [hu] at hv
      refine E.reg hr (by simp [g48, hv, gTicks]; rfl) ?_
      refine E.seq ?_
      refine E.reg hr (by simp [g136, hl]; rfl) ?_
      refine E.seq ?_
      refine E.reg hr (by simp; rfl) ?_
      refine E.seq ?_
      refine E.seq ?_
      refine E.reg hr (by simp; rfl) ?_
      refine E.cond (by rfl) (fun h => ?_) (fun h => ?_)
      · refine E.reg hr (by simp [g50, hl, hu, gTicks]; rfl) ?_
        refine E.seq ?_
        have hlt : l.length < 2147483648 := by omega
        have ht : List.take l.length (l.map iv) = l.map iv := List.take_of_length_le (by simp)
        refine E.reg hr (by simp [g51, intsAt, ht, hlt, intsOf_iv]; rfl) ?_
        refine E.ret ?_
        exact pureK.ret rfl rfl (by simp) (by repeat first | exact sub_refl _ | refine sub_cons rfl ?_)
      · simp at h
  · have hv : ticksV s f d p u e = (none, lineV s f d p u e) := by simp [ticksV, hl]
    refine E.reg hr (by simp [g48, hv, gTicks]; rfl) ?_
    refine E.seq ?_
    refine E.reg hr (by simp [g136]; rfl) ?_
    refine E.seq ?_
    refine E.reg hr (by simp; rfl) ?_
    refine E.seq ?_
    refine E.seq ?_
    refine E.reg hr (by simp; rfl) ?_
    refine E.cond (by rfl) (fun h => ?_) (fun h => ?_)
    · simp at h; exact absurd h hl
    refine E.skip ?_
    refine E.seq ?_
    refine E.reg hr (by simp [g51, hl]; rfl) ?_
    refine E.ret ?_
    exact pureK.ret rfl rfl (by simp) (by repeat first | exact sub_refl _ | refine sub_cons rfl ?_)
end Go.Proofs.YtndlfijfjglkdaaGreatDoor
