/-
The walk through what TopSpraySilent reaches, and the plain law behind it (no condition).
-/
import Derived.Test.YtljglocehbccnaaTa
import Derived.Test.YtljglocehbccnaaAg
import Derived.Test.YtljglocehbccnaaAh
namespace Go.Proofs.Ytljglocehbccnaa
open Go Go.Ab Go.Proofs
def whenV (b : Bool) (e : Int) : Int := if b then e else 0
def withinV (a lo hi : Int) : Int := if a < lo ∨ hi < a then 3 else 0
def firstV : List Int → Int
  | [] => 0
  | e :: l => if e = 0 then firstV l else e
def intsOf : List Value → Option (List Int)
  | [] => some []
  | .int .i64 n :: vs => (intsOf vs).map (n :: ·)
  | _ => none
theorem intsOf_ok : ∀ (cs : List Value) (l : List Int), intsOf cs = some l → cs = l.map iv
  | [], l, h => by simp [intsOf] at h; subst h; rfl
  | c :: cs, l, h => by
    unfold intsOf at h
    split at h
    · rename_i h1; cases h1
    · rename_i n vs h1
      injection h1 with h1 h2; subst h1 h2
      rw [Option.map_eq_some_iff] at h
      obtain ⟨l', h2, h3⟩ := h
      subst h3
      rw [intsOf_ok _ _ h2]; rfl
    · cases h
/-- a slice of integers with a block -/
def intsAt (H : Heap) (a : Addr) (len : Nat) : Option (List Int) := if flat a && Nat.blt len 2147483648 then (cellsA H a.block a.off len).bind intsOf else none
theorem intsAt_ok {H : Heap} {a : Addr} {len : Nat} {l : List Int} (h : intsAt H a len = some l) : flat a = true ∧ cellsA H a.block a.off len = some (l.map iv) ∧ l.length = len ∧ l.length < 2 ^ 31 := by
  unfold intsAt at h
  split at h
  · rename_i hf
    rw [Bool.and_eq_true] at hf
    rw [Option.bind_eq_some_iff] at h
    obtain ⟨cs, h1, h2⟩ := h
    have h3 := intsOf_ok _ _ h2
    subst h3
    have h4 := (cellsA_at h1).1
    rw [List.length_map] at h4
    exact ⟨hf.1, h1, h4, by have := (blt_iff _ _).1 hf.2; omega⟩
  · cases h
theorem w35 (b : Bool) (e : Int) : AC Try.prog 35 [.bool b, .int .i64 e] [] 0 (.int .i64 (whenV b e)) [] 0 := by
  have hr := recT_ok (P := Try.prog) (l := []) (by simp)
  refine AC.pure Try.func35 rfl (by kernel_rfl) rfl [] rfl ?_
  refine E.seq ?_
  refine E.reg hr (by simp; rfl) ?_ -- region 0
  refine E.seq ?_
  refine E.seq ?_
  refine E.reg hr (by simp; rfl) ?_ -- region 1
  refine E.cond (by rfl) (fun h => ?_) (fun h => ?_)
  · try simp at h
    refine E.seq ?_
    refine E.reg hr (by simp; rfl) ?_ -- region 2
    refine E.ret ?_
    exact pureK.ret rfl rfl (by simp [one, whenV, h]) (sub_refl _)
  · try simp at h
    refine E.skip ?_
    refine E.seq ?_
    refine E.reg hr (by simp; rfl) ?_ -- region 3
    refine E.ret ?_
    exact pureK.ret rfl rfl (by simp [one, whenV, h]) (sub_refl _)
def g35 (args : List Value) (H : Heap) (n : Nat) : R := match args with
  | [.bool b, .int .i64 e] => some (.int .i64 (whenV b e), H, n)
  | _ => none
theorem ok35 : EntOk Try.prog (35, g35) := by
  intro args H n v H' n' h
  simp only [g35] at h
  split at h
  · injection h with h; injection h with e1 e2; injection e2 with e2 e3; subst e1 e2 e3
    exact AC.liftP rfl (Part.plain (by simp) [] (by simp [Seen]) gsz ⟨_, _, w35 _ _⟩)
  · cases h
theorem w64 (b : Bool) (e : Int) : AC Try.prog 64 [.bool b, .int .i64 e] [] 0 (.int .i64 (whenV b e)) [] 0 := by
  have hr := recT_ok (P := Try.prog) (l := []) (by simp)
  refine AC.pure Try.func64 rfl (by kernel_rfl) rfl [] rfl ?_
  refine E.seq ?_
  refine E.reg hr (by simp; rfl) ?_ -- region 0
  refine E.seq ?_
  refine E.seq ?_
  refine E.reg hr (by simp; rfl) ?_ -- region 1
  refine E.cond (by rfl) (fun h => ?_) (fun h => ?_)
  · try simp at h
    refine E.seq ?_
    refine E.reg hr (by simp; rfl) ?_ -- region 2
    refine E.ret ?_
    exact pureK.ret rfl rfl (by simp [one, whenV, h]) (sub_refl _)
  · try simp at h
    refine E.skip ?_
    refine E.seq ?_
    refine E.reg hr (by simp; rfl) ?_ -- region 3
    refine E.ret ?_
    exact pureK.ret rfl rfl (by simp [one, whenV, h]) (sub_refl _)
def g64 (args : List Value) (H : Heap) (n : Nat) : R := match args with
  | [.bool b, .int .i64 e] => some (.int .i64 (whenV b e), H, n)
  | _ => none
theorem ok64 : EntOk Try.prog (64, g64) := by
  intro args H n v H' n' h
  simp only [g64] at h
  split at h
  · injection h with h; injection h with e1 e2; injection e2 with e2 e3; subst e1 e2 e3
    exact AC.liftP rfl (Part.plain (by simp) [] (by simp [Seen]) gsz ⟨_, _, w64 _ _⟩)
  · cases h
theorem w66 (b : Bool) (e : Int) : AC Try.prog 66 [.bool b, .int .i64 e] [] 0 (.int .i64 (whenV b e)) [] 0 := by
  have hr := recT_ok (P := Try.prog) (l := []) (by simp)
  refine AC.pure Try.func66 rfl (by kernel_rfl) rfl [] rfl ?_
  refine E.seq ?_
  refine E.reg hr (by simp; rfl) ?_ -- region 0
  refine E.seq ?_
  refine E.seq ?_
  refine E.reg hr (by simp; rfl) ?_ -- region 1
  refine E.cond (by rfl) (fun h => ?_) (fun h => ?_)
  · try simp at h
    refine E.seq ?_
    refine E.reg hr (by simp; rfl) ?_ -- region 2
    refine E.ret ?_
    exact pureK.ret rfl rfl (by simp [one, whenV, h]) (sub_refl _)
  · try simp at h
    refine E.skip ?_
    refine E.seq ?_
    refine E.reg hr (by simp; rfl) ?_ -- region 3
    refine E.ret ?_
    exact pureK.ret rfl rfl (by simp [one, whenV, h]) (sub_refl _)
def g66 (args : List Value) (H : Heap) (n : Nat) : R := match args with
  | [.bool b, .int .i64 e] => some (.int .i64 (whenV b e), H, n)
  | _ => none
theorem ok66 : EntOk Try.prog (66, g66) := by
  intro args H n v H' n' h
  simp only [g66] at h
  split at h
  · injection h with h; injection h with e1 e2; injection e2 with e2 e3; subst e1 e2 e3
    exact AC.liftP rfl (Part.plain (by simp) [] (by simp [Seen]) gsz ⟨_, _, w66 _ _⟩)
  · cases h
theorem w32 (a lo hi : Int) : AC Try.prog 32 [.int .i64 a, .int .i64 lo, .int .i64 hi] [] 0 (.int .i64 (withinV a lo hi)) [] 0 := by
  have hr := recT_ok (P := Try.prog) (l := [(35, g35)]) (by simp [ok35])
  refine AC.pure Try.func32 rfl (by kernel_rfl) rfl [] rfl ?_
  refine E.seq ?_
  refine E.reg hr (by simp; rfl) ?_ -- region 0
  refine E.seq ?_
  by_cases h1 : a < lo
  · refine E.reg hr (by simp [h1, oneF_guard, yieldedA, g35]; rfl) ?_ -- region 1
    refine E.ret ?_
    exact pureK.ret rfl rfl (by simp [one, withinV, whenV, h1]) (sub_refl _)
  · refine E.reg hr (by simp [h1, oneF_guard, yieldedA, g35]; rfl) ?_ -- region 1
    refine E.ret ?_
    exact pureK.ret rfl rfl (by simp [one, withinV, whenV, h1]) (sub_refl _)
def g32 (args : List Value) (H : Heap) (n : Nat) : R := match args with
  | [.int .i64 a, .int .i64 b, .int .i64 c] => some (.int .i64 (withinV a b c), H, n)
  | _ => none
theorem ok32 : EntOk Try.prog (32, g32) := by
  intro args H n v H' n' h
  simp only [g32] at h
  split at h
  · injection h with h; injection h with e1 e2; injection e2 with e2 e3; subst e1 e2 e3
    exact AC.liftP rfl (Part.plain (by simp) [] (by simp [Seen]) gsz ⟨_, _, w32 _ _ _⟩)
  · cases h
theorem w39 (a lo hi : Int) : AC Try.prog 39 [.int .i64 a, .int .i64 lo, .int .i64 hi] [] 0 (.int .i64 (withinV a lo hi)) [] 0 := by
  have hr := recT_ok (P := Try.prog) (l := [(64, g64)]) (by simp [ok64])
  refine AC.pure Try.func39 rfl (by kernel_rfl) rfl [] rfl ?_
  refine E.seq ?_
  refine E.reg hr (by simp; rfl) ?_ -- region 0
  refine E.seq ?_
  by_cases h1 : a < lo
  · refine E.reg hr (by simp [h1, oneF_guard, yieldedA, g64]; rfl) ?_ -- region 1
    refine E.ret ?_
    exact pureK.ret rfl rfl (by simp [one, withinV, whenV, h1]) (sub_refl _)
  · refine E.reg hr (by simp [h1, oneF_guard, yieldedA, g64]; rfl) ?_ -- region 1
    refine E.ret ?_
    exact pureK.ret rfl rfl (by simp [one, withinV, whenV, h1]) (sub_refl _)
def g39 (args : List Value) (H : Heap) (n : Nat) : R := match args with
  | [.int .i64 a, .int .i64 b, .int .i64 c] => some (.int .i64 (withinV a b c), H, n)
  | _ => none
theorem ok39 : EntOk Try.prog (39, g39) := by
  intro args H n v H' n' h
  simp only [g39] at h
  split at h
  · injection h with h; injection h with e1 e2; injection e2 with e2 e3; subst e1 e2 e3
    exact AC.liftP rfl (Part.plain (by simp) [] (by simp [Seen]) gsz ⟨_, _, w39 _ _ _⟩)
  · cases h
theorem w56 (a lo hi : Int) : AC Try.prog 56 [.int .i64 a, .int .i64 lo, .int .i64 hi] [] 0 (.int .i64 (withinV a lo hi)) [] 0 := by
  have hr := recT_ok (P := Try.prog) (l := [(66, g66)]) (by simp [ok66])
  refine AC.pure Try.func56 rfl (by kernel_rfl) rfl [] rfl ?_
  refine E.seq ?_
  refine E.reg hr (by simp; rfl) ?_ -- region 0
  refine E.seq ?_
  by_cases h1 : a < lo
  · refine E.reg hr (by simp [h1, oneF_guard, yieldedA, g66]; rfl) ?_ -- region 1
    refine E.ret ?_
    exact pureK.ret rfl rfl (by simp [one, withinV, whenV, h1]) (sub_refl _)
  · refine E.reg hr (by simp [h1, oneF_guard, yieldedA, g66]; rfl) ?_ -- region 1
    refine E.ret ?_
    exact pureK.ret rfl rfl (by simp [one, withinV, whenV, h1]) (sub_refl _)
def g56 (args : List Value) (H : Heap) (n : Nat) : R := match args with
  | [.int .i64 a, .int .i64 b, .int .i64 c] => some (.int .i64 (withinV a b c), H, n)
  | _ => none
theorem ok56 : EntOk Try.prog (56, g56) := by
  intro args H n v H' n' h
  simp only [g56] at h
  split at h
  · injection h with h; injection h with e1 e2; injection e2 with e2 e3; subst e1 e2 e3
    exact AC.liftP rfl (Part.plain (by simp) [] (by simp [Seen]) gsz ⟨_, _, w56 _ _ _⟩)
  · cases h
theorem w29 (l : List Int) (o c : Nat) (hl : l.length < 2 ^ 31) : AC Try.prog 29 [.slice (some ⟨0, o, none⟩) l.length c] [(0, .inp o (l.map iv))] 1 (iv (firstV l)) [(0, .inp o (l.map iv))] 1 := by
  have hr := recT_ok (P := Try.prog) (l := []) (by simp)
  refine AC.pure Try.func29 rfl (by kernel_rfl) rfl [5, 6, 7] rfl ?_
  refine E.seq ?_
  refine E.reg hr (by simp; rfl) ?_ -- region 0
  refine E.seq ?_
  refine E.seq ?_
  refine E.reg hr (by simp [opBuiltin, builtinA]; rfl) ?_ -- region 1
  refine E.block ?_ -- 0
  refine E.loop ?_
  refine EL.ind (fun i : Nat => { fr := [(5, .slice (some ⟨0, o, none⟩) l.length c), (6, iv l.length), (7, iv i)], sz := 15, H := [(0, .inp o (l.map iv))], n := 1, marks := [], vs := [5, 6, 7] }) (fun i => l.length - i) (fun i => i ≤ l.length ∧ firstV (l.drop i) = firstV l) 0 (.less rfl rfl rfl (by simp) (by simp)) ⟨Nat.zero_le _, rfl⟩ (fun _ => rfl) ?_
  intro i ⟨hi, hg⟩
  refine E.seq ?_
  refine E.reg hr (by simp; rfl) ?_
  refine E.seq ?_
  refine E.cond (by rfl) (fun h => ?_) (fun h => ?_)
  · simp at h
    refine E.skip ?_
    refine E.seq ?_
    refine E.block ?_
    refine E.seq ?_
    refine E.reg hr (by simp [opIndexaddr, flat, h, loadA, cellA]; rfl) ?_
    refine E.seq ?_
    refine E.reg hr (by simp; rfl) ?_
    refine E.cond (by rfl) (fun h2 => ?_) (fun h2 => ?_)
    · simp at h2
      refine E.seq ?_
      refine E.reg hr (by simp; rfl) ?_
      refine E.ret ?_
      refine pureK.ret rfl rfl ?_ (sub_refl _)
      rw [List.drop_eq_getElem_cons h] at hg
      simp [one, ← hg, firstV, h2]
    · simp at h2
      refine E.skip ?_
      have hw : IntKind.i64.wrap ((i : Int) + 1) = (i : Int) + 1 := W_in (by omega) (by omega)
      refine E.reg hr (by simp [hw]; rfl) ?_
      rw [List.drop_eq_getElem_cons h] at hg
      exact ⟨i + 1, .less rfl rfl rfl (by simp) (by simp), ⟨h, by rw [← hg]; simp [firstV, h2]⟩, by dsimp only; omega⟩
  · simp at h
    refine E.exit ?_
    refine E.seq ?_
    refine E.reg hr (by simp; rfl) ?_ -- region 7
    refine E.ret ?_
    have : l.drop i = [] := by simp; omega
    refine pureK.ret rfl rfl ?_ (sub_refl _)
    simp [one, ← hg, this, firstV]
def g29 (args : List Value) (H : Heap) (n : Nat) : R := match args with
  | [.slice (some a) len _] => (intsAt H a len).map fun l => (iv (firstV l), H, n)
  | _ => none
theorem ok29 : EntOk Try.prog (29, g29) := by
  intro args H n v H' n' h
  simp only [g29] at h
  split at h
  · rename_i a len c
    rw [Option.map_eq_some_iff] at h
    obtain ⟨l, h1, h⟩ := h
    injection h with e1 e2; injection e2 with e2 e3; subst e1 e2 e3
    obtain ⟨hf, hc, hlen, hlt⟩ := intsAt_ok h1
    subst hlen
    exact AC.liftP rfl (Part.one (fun s => [s]) (by intro φ φ0 s s0 h; simp [denL, h]) (by intro p s h; exact ⟨h, trivial⟩) hf hc (afL_iv l) [] (by simp [Seen]) gsz fun c => ⟨_, _, w29 l _ c hlt⟩)
  · cases h
theorem w55 (l : List Int) (o c : Nat) (hl : l.length < 2 ^ 31) : AC Try.prog 55 [.slice (some ⟨0, o, none⟩) l.length c] [(0, .inp o (l.map iv))] 1 (iv (firstV l)) [(0, .inp o (l.map iv))] 1 := by
  have hr := recT_ok (P := Try.prog) (l := []) (by simp)
  refine AC.pure Try.func55 rfl (by kernel_rfl) rfl [5, 6, 7] rfl ?_
  refine E.seq ?_
  refine E.reg hr (by simp; rfl) ?_ -- region 0
  refine E.seq ?_
  refine E.seq ?_
  refine E.reg hr (by simp [opBuiltin, builtinA]; rfl) ?_ -- region 1
  refine E.block ?_ -- 0
  refine E.loop ?_
  refine EL.ind (fun i : Nat => { fr := [(5, .slice (some ⟨0, o, none⟩) l.length c), (6, iv l.length), (7, iv i)], sz := 15, H := [(0, .inp o (l.map iv))], n := 1, marks := [], vs := [5, 6, 7] }) (fun i => l.length - i) (fun i => i ≤ l.length ∧ firstV (l.drop i) = firstV l) 0 (.less rfl rfl rfl (by simp) (by simp)) ⟨Nat.zero_le _, rfl⟩ (fun _ => rfl) ?_
  intro i ⟨hi, hg⟩
  refine E.seq ?_
  refine E.reg hr (by simp; rfl) ?_
  refine E.seq ?_
  refine E.cond (by rfl) (fun h => ?_) (fun h => ?_)
  · simp at h
    refine E.skip ?_
    refine E.seq ?_
    refine E.block ?_
    refine E.seq ?_
    refine E.reg hr (by simp [opIndexaddr, flat, h, loadA, cellA]; rfl) ?_
    refine E.seq ?_
    refine E.reg hr (by simp; rfl) ?_
    refine E.cond (by rfl) (fun h2 => ?_) (fun h2 => ?_)
    · simp at h2
      refine E.seq ?_
      refine E.reg hr (by simp; rfl) ?_
      refine E.ret ?_
      refine pureK.ret rfl rfl ?_ (sub_refl _)
      rw [List.drop_eq_getElem_cons h] at hg
      simp [one, ← hg, firstV, h2]
    · simp at h2
      refine E.skip ?_
      have hw : IntKind.i64.wrap ((i : Int) + 1) = (i : Int) + 1 := W_in (by omega) (by omega)
      refine E.reg hr (by simp [hw]; rfl) ?_
      rw [List.drop_eq_getElem_cons h] at hg
      exact ⟨i + 1, .less rfl rfl rfl (by simp) (by simp), ⟨h, by rw [← hg]; simp [firstV, h2]⟩, by dsimp only; omega⟩
  · simp at h
    refine E.exit ?_
    refine E.seq ?_
    refine E.reg hr (by simp; rfl) ?_ -- region 7
    refine E.ret ?_
    have : l.drop i = [] := by simp; omega
    refine pureK.ret rfl rfl ?_ (sub_refl _)
    simp [one, ← hg, this, firstV]
def g55 (args : List Value) (H : Heap) (n : Nat) : R := match args with
  | [.slice (some a) len _] => (intsAt H a len).map fun l => (iv (firstV l), H, n)
  | _ => none
theorem ok55 : EntOk Try.prog (55, g55) := by
  intro args H n v H' n' h
  simp only [g55] at h
  split at h
  · rename_i a len c
    rw [Option.map_eq_some_iff] at h
    obtain ⟨l, h1, h⟩ := h
    injection h with e1 e2; injection e2 with e2 e3; subst e1 e2 e3
    obtain ⟨hf, hc, hlen, hlt⟩ := intsAt_ok h1
    subst hlen
    exact AC.liftP rfl (Part.one (fun s => [s]) (by intro φ φ0 s s0 h; simp [denL, h]) (by intro p s h; exact ⟨h, trivial⟩) hf hc (afL_iv l) [] (by simp [Seen]) gsz fun c => ⟨_, _, w55 l _ c hlt⟩)
  · cases h
theorem w38 (l : List Int) (o c : Nat) (hl : l.length < 2 ^ 31) : AC Try.prog 38 [.slice (some ⟨0, o, none⟩) l.length c] [(0, .inp o (l.map iv))] 1 (iv (firstV l)) [(0, .inp o (l.map iv))] 1 := by
  have hr := recT_ok (P := Try.prog) (l := []) (by simp)
  refine AC.pure Try.func38 rfl (by kernel_rfl) rfl [0, 3] rfl ?_
  refine E.seq ?_
  refine E.reg hr (by simp; rfl) ?_ -- region 0
  refine E.seq ?_
  refine E.seq ?_
  refine E.reg hr (by simp; rfl) ?_ -- region 1
  refine E.block ?_ -- 0
  refine E.loop ?_
  refine EL.ind (fun i : Nat => { fr := [(0, .slice (some ⟨0, o, none⟩) l.length c), (3, iv i)], sz := 19, H := [(0, .inp o (l.map iv))], n := 1, marks := [], vs := [0, 3] }) (fun i => l.length - i) (fun i => i ≤ l.length ∧ firstV (l.drop i) = firstV l) 0 (.less rfl rfl rfl (by simp) (by simp)) ⟨Nat.zero_le _, rfl⟩ (fun _ => rfl) ?_
  intro i ⟨hi, hg⟩
  refine E.seq ?_
  refine E.seq ?_
  refine E.reg hr (by simp; rfl) ?_
  refine E.cond (by rfl) (fun h => ?_) (fun h => ?_)
  · simp at h
    refine E.skip ?_
    refine E.seq ?_
    refine E.block ?_
    refine E.seq ?_
    refine E.reg hr (by simp [opIndexaddr, flat, h, loadA, cellA]; rfl) ?_
    refine E.cond (by rfl) (fun h2 => ?_) (fun h2 => ?_)
    · simp at h2
      refine E.seq ?_
      refine E.reg hr (by simp [opIndexaddr, flat, h, loadA, cellA]; rfl) ?_
      refine E.ret ?_
      refine pureK.ret rfl rfl ?_ (sub_refl _)
      rw [List.drop_eq_getElem_cons h] at hg
      simp [one, ← hg, firstV, h2]
    · simp at h2
      refine E.skip ?_
      have hw : IntKind.i64.wrap ((i : Int) + 1) = (i : Int) + 1 := W_in (by omega) (by omega)
      refine E.reg hr (by simp [hw]; rfl) ?_
      rw [List.drop_eq_getElem_cons h] at hg
      exact ⟨i + 1, .less rfl rfl rfl (by simp) (by simp), ⟨h, by rw [← hg]; simp [firstV, h2]⟩, by dsimp only; omega⟩
  · simp at h
    refine E.exit ?_
    refine E.seq ?_
    refine E.reg hr (by simp; rfl) ?_ -- region 7
    refine E.ret ?_
    have : l.drop i = [] := by simp; omega
    refine pureK.ret rfl rfl ?_ (sub_refl _)
    simp [one, ← hg, this, firstV]
def g38 (args : List Value) (H : Heap) (n : Nat) : R := match args with
  | [.slice (some a) len _] => (intsAt H a len).map fun l => (iv (firstV l), H, n)
  | _ => none
theorem ok38 : EntOk Try.prog (38, g38) := by
  intro args H n v H' n' h
  simp only [g38] at h
  split at h
  · rename_i a len c
    rw [Option.map_eq_some_iff] at h
    obtain ⟨l, h1, h⟩ := h
    injection h with e1 e2; injection e2 with e2 e3; subst e1 e2 e3
    obtain ⟨hf, hc, hlen, hlt⟩ := intsAt_ok h1
    subst hlen
    exact AC.liftP rfl (Part.one (fun s => [s]) (by intro φ φ0 s s0 h; simp [denL, h]) (by intro p s h; exact ⟨h, trivial⟩) hf hc (afL_iv l) [] (by simp [Seen]) gsz fun c => ⟨_, _, w38 l _ c hlt⟩)
  · cases h
end Go.Proofs.Ytljglocehbccnaa

namespace Go.Proofs.Ytljglocehbccnaa
open Go Go.Ab Go.Proofs
def ptV (x y m : Int) : Int := firstV [withinV x (IntKind.i64.wrap (0 - m)) m, withinV y (IntKind.i64.wrap (0 - m)) m]
def vesV (x y dx dy t : Int) : Int := firstV [ptV x y 100000, ptV dx dy 1000, withinV t 1 4096]
def watV (r s l c f : Int) : Int := firstV [withinV r 0 10000, withinV s 0 1000, withinV l 0 1000, withinV c 0 1000, withinV f 0 1000]
def lineV (s f d p u e : Int) : Int := firstV [withinV s 0 100000, withinV f 0 100000, withinV d 1 100000, withinV p 1 256, withinV u 1 1000, withinV e 1 1000]
theorem w75 (x y m : Int) : AC Try.prog 75 [.agg ⟨[iv x, iv y]⟩, iv m] [] 0 (iv (ptV x y m)) [] 0 := by
  have hr := recT_ok (P := Try.prog) (l := [(32, g32), (29, g29)]) (by simp [ok32, ok29])
  refine AC.pure Try.func75 rfl (by kernel_rfl) rfl [] rfl ?_
  refine E.seq ?_
  refine E.reg hr (by simp [Value.cells]; rfl) ?_ -- region 0
  refine E.seq ?_
  refine E.drawK mixed hr (by simp [-Int.zero_sub, g32, g29, intsAt, flat, partsOk, Value.cells, Nat.blt, intsOf]; rfl) (by kernel_rfl) (by kernel_rfl) ?_ -- region 1
  refine E.ret ?_
  refine pureK.ret rfl rfl ?_ (by repeat first | exact sub_refl _ | refine sub_cons rfl ?_)
  simp [-Int.zero_sub, one, ptV]
def g75 (args : List Value) (H : Heap) (n : Nat) : R := match args with
  | [.agg ⟨[.int .i64 x, .int .i64 y]⟩, .int .i64 m] => some (iv (ptV x y m), H, n)
  | _ => none
theorem ok75 : EntOk Try.prog (75, g75) := by
  intro args H n v H' n' h
  simp only [g75] at h
  split at h
  · injection h with h; injection h with e1 e2; injection e2 with e2 e3; subst e1 e2 e3
    exact AC.liftP rfl (Part.plain (by simp) [] (by simp [Seen]) gsz ⟨_, _, w75 _ _ _⟩)
  · cases h
theorem w74 (x y m : Int) : AC Try.prog 74 [.agg ⟨[iv x, iv y]⟩, iv m] [] 0 (iv (ptV x y m)) [] 0 := by
  have hr := recT_ok (P := Try.prog) (l := [(39, g39), (38, g38)]) (by simp [ok39, ok38])
  refine AC.pure Try.func74 rfl (by kernel_rfl) rfl [] rfl ?_
  refine E.seq ?_
  refine E.reg hr (by simp [Value.cells]; rfl) ?_ -- region 0
  refine E.seq ?_
  refine E.drawK mixed hr (by simp [-Int.zero_sub, g39, g38, intsAt, flat, partsOk, Value.cells, Nat.blt, intsOf]; rfl) (by kernel_rfl) (by kernel_rfl) ?_ -- region 1
  refine E.ret ?_
  refine pureK.ret rfl rfl ?_ (by repeat first | exact sub_refl _ | refine sub_cons rfl ?_)
  simp [-Int.zero_sub, one, ptV]
def g74 (args : List Value) (H : Heap) (n : Nat) : R := match args with
  | [.agg ⟨[.int .i64 x, .int .i64 y]⟩, .int .i64 m] => some (iv (ptV x y m), H, n)
  | _ => none
theorem ok74 : EntOk Try.prog (74, g74) := by
  intro args H n v H' n' h
  simp only [g74] at h
  split at h
  · injection h with h; injection h with e1 e2; injection e2 with e2 e3; subst e1 e2 e3
    exact AC.liftP rfl (Part.plain (by simp) [] (by simp [Seen]) gsz ⟨_, _, w74 _ _ _⟩)
  · cases h
theorem w57 (x y dx dy t : Int) : AC Try.prog 57 [.agg ⟨[iv x, iv y, iv dx, iv dy, iv t]⟩] [] 0 (iv (vesV x y dx dy t)) [] 0 := by
  have hr := recT_ok (P := Try.prog) (l := [(75, g75), (32, g32), (29, g29)]) (by simp [ok75, ok32, ok29])
  refine AC.pure Try.func57 rfl (by kernel_rfl) rfl [] rfl ?_
  refine E.seq ?_
  refine E.reg hr (by simp [Value.cells]; rfl) ?_ -- region 0
  refine E.seq ?_
  refine E.drawK mixed hr (by simp [-Int.zero_sub, g75, g32, g29, intsAt, flat, partsOk, Value.cells, Nat.blt, intsOf]; rfl) (by kernel_rfl) (by kernel_rfl) ?_ -- region 1
  refine E.ret ?_
  refine pureK.ret rfl rfl ?_ (by repeat first | exact sub_refl _ | refine sub_cons rfl ?_)
  simp [-Int.zero_sub, one, vesV]
def g57 (args : List Value) (H : Heap) (n : Nat) : R := match args with
  | [.agg ⟨[.int .i64 x, .int .i64 y, .int .i64 dx, .int .i64 dy, .int .i64 t]⟩] => some (iv (vesV x y dx dy t), H, n)
  | _ => none
theorem ok57 : EntOk Try.prog (57, g57) := by
  intro args H n v H' n' h
  simp only [g57] at h
  split at h
  · injection h with h; injection h with e1 e2; injection e2 with e2 e3; subst e1 e2 e3
    exact AC.liftP rfl (Part.plain (by simp) [] (by simp [Seen]) gsz ⟨_, _, w57 _ _ _ _ _⟩)
  · cases h
theorem w52 (x y dx dy t : Int) : AC Try.prog 52 [.agg ⟨[iv x, iv y, iv dx, iv dy, iv t]⟩] [] 0 (iv (vesV x y dx dy t)) [] 0 := by
  have hr := recT_ok (P := Try.prog) (l := [(74, g74), (39, g39), (38, g38)]) (by simp [ok74, ok39, ok38])
  refine AC.pure Try.func52 rfl (by kernel_rfl) rfl [] rfl ?_
  refine E.seq ?_
  refine E.reg hr (by simp [Value.cells]; rfl) ?_ -- region 0
  refine E.seq ?_
  refine E.drawK mixed hr (by simp [-Int.zero_sub, g74, g39, g38, intsAt, flat, partsOk, Value.cells, Nat.blt, intsOf]; rfl) (by kernel_rfl) (by kernel_rfl) ?_ -- region 1
  refine E.ret ?_
  refine pureK.ret rfl rfl ?_ (by repeat first | exact sub_refl _ | refine sub_cons rfl ?_)
  simp [-Int.zero_sub, one, vesV]
def g52 (args : List Value) (H : Heap) (n : Nat) : R := match args with
  | [.agg ⟨[.int .i64 x, .int .i64 y, .int .i64 dx, .int .i64 dy, .int .i64 t]⟩] => some (iv (vesV x y dx dy t), H, n)
  | _ => none
theorem ok52 : EntOk Try.prog (52, g52) := by
  intro args H n v H' n' h
  simp only [g52] at h
  split at h
  · injection h with h; injection h with e1 e2; injection e2 with e2 e3; subst e1 e2 e3
    exact AC.liftP rfl (Part.plain (by simp) [] (by simp [Seen]) gsz ⟨_, _, w52 _ _ _ _ _⟩)
  · cases h
theorem w58 (r s l c f : Int) : AC Try.prog 58 [.agg ⟨[iv r, iv s, iv l, iv c, iv f]⟩] [] 0 (iv (watV r s l c f)) [] 0 := by
  have hr := recT_ok (P := Try.prog) (l := [(32, g32), (29, g29)]) (by simp [ok32, ok29])
  refine AC.pure Try.func58 rfl (by kernel_rfl) rfl [] rfl ?_
  refine E.seq ?_
  refine E.reg hr (by simp [Value.cells]; rfl) ?_ -- region 0
  refine E.seq ?_
  refine E.drawK mixed hr (by simp [-Int.zero_sub, g32, g29, intsAt, flat, partsOk, Value.cells, Nat.blt, intsOf]; rfl) (by kernel_rfl) (by kernel_rfl) ?_ -- region 1
  refine E.ret ?_
  refine pureK.ret rfl rfl ?_ (by repeat first | exact sub_refl _ | refine sub_cons rfl ?_)
  simp [-Int.zero_sub, one, watV]
def g58 (args : List Value) (H : Heap) (n : Nat) : R := match args with
  | [.agg ⟨[.int .i64 r, .int .i64 s, .int .i64 l, .int .i64 c, .int .i64 f]⟩] => some (iv (watV r s l c f), H, n)
  | _ => none
theorem ok58 : EntOk Try.prog (58, g58) := by
  intro args H n v H' n' h
  simp only [g58] at h
  split at h
  · injection h with h; injection h with e1 e2; injection e2 with e2 e3; subst e1 e2 e3
    exact AC.liftP rfl (Part.plain (by simp) [] (by simp [Seen]) gsz ⟨_, _, w58 _ _ _ _ _⟩)
  · cases h
theorem w53 (r s l c f : Int) : AC Try.prog 53 [.agg ⟨[iv r, iv s, iv l, iv c, iv f]⟩] [] 0 (iv (watV r s l c f)) [] 0 := by
  have hr := recT_ok (P := Try.prog) (l := [(39, g39), (38, g38)]) (by simp [ok39, ok38])
  refine AC.pure Try.func53 rfl (by kernel_rfl) rfl [] rfl ?_
  refine E.seq ?_
  refine E.reg hr (by simp [Value.cells]; rfl) ?_ -- region 0
  refine E.seq ?_
  refine E.drawK mixed hr (by simp [-Int.zero_sub, g39, g38, intsAt, flat, partsOk, Value.cells, Nat.blt, intsOf]; rfl) (by kernel_rfl) (by kernel_rfl) ?_ -- region 1
  refine E.ret ?_
  refine pureK.ret rfl rfl ?_ (by repeat first | exact sub_refl _ | refine sub_cons rfl ?_)
  simp [-Int.zero_sub, one, watV]
def g53 (args : List Value) (H : Heap) (n : Nat) : R := match args with
  | [.agg ⟨[.int .i64 r, .int .i64 s, .int .i64 l, .int .i64 c, .int .i64 f]⟩] => some (iv (watV r s l c f), H, n)
  | _ => none
theorem ok53 : EntOk Try.prog (53, g53) := by
  intro args H n v H' n' h
  simp only [g53] at h
  split at h
  · injection h with h; injection h with e1 e2; injection e2 with e2 e3; subst e1 e2 e3
    exact AC.liftP rfl (Part.plain (by simp) [] (by simp [Seen]) gsz ⟨_, _, w53 _ _ _ _ _⟩)
  · cases h
theorem w23 (s f d p u e : Int) : AC Try.prog 23 [.agg ⟨[iv s, iv f, iv d, iv p, iv u, iv e]⟩] [] 0 (iv (lineV s f d p u e)) [] 0 := by
  have hr := recT_ok (P := Try.prog) (l := [(56, g56), (55, g55)]) (by simp [ok56, ok55])
  refine AC.pure Try.func23 rfl (by kernel_rfl) rfl [] rfl ?_
  refine E.seq ?_
  refine E.reg hr (by simp [Value.cells]; rfl) ?_ -- region 0
  refine E.seq ?_
  refine E.drawK mixed hr (by simp [-Int.zero_sub, g56, g55, intsAt, flat, partsOk, Value.cells, Nat.blt, intsOf]; rfl) (by kernel_rfl) (by kernel_rfl) ?_ -- region 1
  refine E.ret ?_
  refine pureK.ret rfl rfl ?_ (by repeat first | exact sub_refl _ | refine sub_cons rfl ?_)
  simp [-Int.zero_sub, one, lineV]
def g23 (args : List Value) (H : Heap) (n : Nat) : R := match args with
  | [.agg ⟨[.int .i64 s, .int .i64 f, .int .i64 d, .int .i64 p, .int .i64 u, .int .i64 e]⟩] => some (iv (lineV s f d p u e), H, n)
  | _ => none
theorem ok23 : EntOk Try.prog (23, g23) := by
  intro args H n v H' n' h
  simp only [g23] at h
  split at h
  · injection h with h; injection h with e1 e2; injection e2 with e2 e3; subst e1 e2 e3
    exact AC.liftP rfl (Part.plain (by simp) [] (by simp [Seen]) gsz ⟨_, _, w23 _ _ _ _ _ _⟩)
  · cases h
end Go.Proofs.Ytljglocehbccnaa

namespace Go.Proofs.Ytljglocehbccnaa
open Go Go.Ab Go.Proofs
set_option maxRecDepth 20000
/-! ### an animal near -/
/-- a watch and a vessel, without the sightings -/
structure Brg where
  r : Int
  s : Int
  l : Int
  c : Int
  f : Int
  x : Int
  y : Int
  dx : Int
  dy : Int
  t : Int
structure Sg where
  tk : Int
  x : Int
  y : Int
  deriving DecidableEq
abbrev W (x : Int) : Int := IntKind.i64.wrap x
def Brg.val (b : Brg) (v : Value) : Value := .agg ⟨[iv b.r, iv b.s, iv b.l, iv b.c, iv b.f, iv b.x, iv b.y, iv b.dx, iv b.dy, iv b.t, v]⟩
def plX (b : Brg) (t : Int) : Int := IntKind.i64.wrap (b.x + IntKind.i64.wrap (t * b.dx))
def plY (b : Brg) (t : Int) : Int := IntKind.i64.wrap (b.y + IntKind.i64.wrap (t * b.dy))
def insR (x y r : Int) : Bool := decide (IntKind.i64.wrap (IntKind.i64.wrap (x * x) + IntKind.i64.wrap (y * y)) ≤ IntKind.i64.wrap (r * r))
def nearV (b : Brg) (q : Sg) (t : Int) : Bool :=
  if IntKind.i64.wrap (t - q.tk) < 0 ∨ b.l < IntKind.i64.wrap (t - q.tk) then false
  else if plX b t = q.x ∧ plY b t = q.y then true
  else insR (IntKind.i64.wrap (plX b t - q.x)) (IntKind.i64.wrap (plY b t - q.y)) (IntKind.i64.wrap (b.r + IntKind.i64.wrap (b.s * IntKind.i64.wrap (t - q.tk))))
/-! ### structs that are built -/
section
variable {fr : Fr} {H : Heap} {n : Nat}
theorem build23 {x y : Operand} {a b : Int} (hx : evO Try.prog fr x = some (iv a)) (hy : evO Try.prog fr y = some (iv b)) : opBuild Try.prog 23 #[(0, x), (1, y)] fr H n = some (.agg #[iv a, iv b], H, n) := by
  unfold opBuild
  simp only [evPs_cons, evPs_nil, hx, hy]
  kernel_rfl
theorem build52 {x y : Operand} {a b : Int} (hx : evO Try.prog fr x = some (iv a)) (hy : evO Try.prog fr y = some (iv b)) : opBuild Try.prog 52 #[(0, x), (1, y)] fr H n = some (.agg #[iv a, iv b], H, n) := by
  unfold opBuild
  simp only [evPs_cons, evPs_nil, hx, hy]
  kernel_rfl
theorem build54 {x y : Operand} {a b : Int} (hx : evO Try.prog fr x = some (iv a)) (hy : evO Try.prog fr y = some (iv b)) : opBuild Try.prog 54 #[(0, x), (1, y)] fr H n = some (.agg #[iv a, iv b], H, n) := by
  unfold opBuild
  simp only [evPs_cons, evPs_nil, hx, hy]
  kernel_rfl
theorem build34 {x1 x2 x3 x4 x5 : Operand} {a1 a2 a3 a4 a5 : Int} (h1 : evO Try.prog fr x1 = some (iv a1)) (h2 : evO Try.prog fr x2 = some (iv a2)) (h3 : evO Try.prog fr x3 = some (iv a3)) (h4 : evO Try.prog fr x4 = some (iv a4)) (h5 : evO Try.prog fr x5 = some (iv a5)) : opBuild Try.prog 34 #[(1, x1), (2, x2), (3, x3), (4, x4), (5, x5)] fr H n = some (.agg #[iv 0, iv a1, iv a2, iv a3, iv a4, iv a5], H, n) := by
  unfold opBuild
  simp only [evPs_cons, evPs_nil, h1, h2, h3, h4, h5]
  kernel_rfl
theorem build84 {x y z : Operand} {r s l c f vx vy dx dy t : Int} {oa : Option Addr} {L k : Nat} (hx : evO Try.prog fr x = some (.agg #[iv r, iv s, iv l, iv c, iv f])) (hy : evO Try.prog fr y = some (.agg #[iv vx, iv vy, iv dx, iv dy, iv t])) (hz : evO Try.prog fr z = some (.slice oa L k)) : opBuild Try.prog 84 #[(0, x), (1, y), (2, z)] fr H n = some (.agg #[iv r, iv s, iv l, iv c, iv f, iv vx, iv vy, iv dx, iv dy, iv t, .slice oa L k], H, n) := by
  unfold opBuild
  simp only [evPs_cons, evPs_nil, hx, hy, hz]
  kernel_rfl
end
theorem w79 {H : Heap} {n : Nat} (b : Brg) (t : Int) (oa : Option Addr) (L c : Nat) : AC Try.prog 79 [b.val (.slice oa L c), iv t] H n (.agg ⟨[iv (plX b t), iv (plY b t)]⟩) H n := by
  refine AC.given fun hold _ _ => AC.tidied (B := []) (by simp) ?_
  have hr := recT_ok (P := Try.prog) (l := []) (by simp)
  unfold Brg.val
  refine AC.pure Try.func79 rfl (by kernel_rfl) rfl [4, 1, 5, 2, 0] rfl ?_
  refine E.seq ?_
  refine E.reg hr (by simp [Value.cells]; rfl) ?_ -- region 0
  refine E.seq ?_
  refine E.reg hr (by simp [Value.cells]; rfl) ?_ -- region 1
  refine E.seq ?_
  refine E.reg hr (by simp [Value.cells, build23]; rfl) ?_ -- region 2
  refine E.ret ?_
  exact pureK.ret rfl (vs := [.agg #[iv (plX b t), iv (plY b t)]]) (by simp [resultsA, resultA, Try.f79, plX, plY]) rfl (by repeat first | exact Sub.refl _ | refine Sub.cons (by simp) ?_)
theorem w63 (r s l c f : Int) : AC Try.prog 63 [.agg ⟨[iv r, iv s, iv l, iv c, iv f]⟩] [] 0 (iv (IntKind.i64.wrap (f + 1))) [] 0 := by
  have hr := recT_ok (P := Try.prog) (l := []) (by simp)
  refine AC.pure Try.func63 rfl (by kernel_rfl) rfl [] rfl ?_
  refine E.seq ?_
  refine E.reg hr (by simp [Value.cells]; rfl) ?_ -- region 0
  refine E.seq ?_
  refine E.reg hr (by simp; rfl) ?_ -- region 1
  refine E.ret ?_
  exact pureK.ret rfl rfl (by simp) (by repeat first | exact sub_refl _ | refine sub_cons rfl ?_)
def g63 (args : List Value) (H : Heap) (n : Nat) : R := match args with
  | [.agg ⟨[.int .i64 _, .int .i64 _, .int .i64 _, .int .i64 _, .int .i64 f]⟩] => some (iv (IntKind.i64.wrap (f + 1)), H, n)
  | _ => none
theorem ok63 : EntOk Try.prog (63, g63) := by
  intro args H n v H' n' h
  simp only [g63] at h
  split at h
  · injection h with h; injection h with e1 e2; injection e2 with e2 e3; subst e1 e2 e3
    exact AC.liftP rfl (Part.plain (by simp) [] (by simp [Seen]) gsz ⟨_, _, w63 _ _ _ _ _⟩)
  · cases h
def g79 (args : List Value) (H : Heap) (n : Nat) : R := match args with
  | [.agg ⟨[.int .i64 r, .int .i64 s, .int .i64 l, .int .i64 c, .int .i64 f, .int .i64 x, .int .i64 y, .int .i64 dx, .int .i64 dy, .int .i64 t, .slice _ _ _]⟩, .int .i64 k] => some (.agg ⟨[iv (plX ⟨r, s, l, c, f, x, y, dx, dy, t⟩ k), iv (plY ⟨r, s, l, c, f, x, y, dx, dy, t⟩ k)]⟩, H, n)
  | _ => none
theorem ok79 : EntOk Try.prog (79, g79) := by
  intro args H n v H' n' h
  simp only [g79] at h
  split at h
  · injection h with h; injection h with e1 e2; injection e2 with e2 e3; subst e1 e2 e3
    exact w79 ⟨_, _, _, _, _, _, _, _, _, _⟩ _ _ _ _
  · cases h
end Go.Proofs.Ytljglocehbccnaa

namespace Go.Proofs.Ytljglocehbccnaa
open Go Go.Ab Go.Proofs
set_option maxRecDepth 20000
theorem eqp23 (a b c d : Int) : runP Try.prog (Op.equalIn 10000 23 (.agg #[iv a, iv b]) (.agg #[iv c, iv d])) = some (decide (a = c) && decide (b = d)) := by
  have h := runS_eq (P := Try.prog) 9999 (t := 23) #[iv a, iv b] #[iv c, iv d] (fun f => if f.offset = 0 then a == c else b == d) Try.underlying23 (by kernel_rfl) fun f hf => ?_
  · rw [h]
    simp
    rfl
  · simp at hf
    rcases hf with rfl | rfl
    · exact ⟨by decide, iv a, iv c, by kernel_rfl, by kernel_rfl, runS_int 9998 a c Try.underlying3⟩
    · exact ⟨by decide, iv b, iv d, by kernel_rfl, by kernel_rfl, runS_int 9998 b d Try.underlying3⟩
theorem eq23 {x y : Operand} {H : Heap} {n : Nat} {a b c d : Int} : binV Try.prog .eql 23 x y (.agg #[iv a, iv b]) (.agg #[iv c, iv d]) H n = some (.bool (decide (a = c) && decide (b = d)), H, n) := by
  have h : runP Try.prog (do eqGuard .eql 23 x y (.agg #[iv a, iv b]) (.agg #[iv c, iv d]); binOp .eql 23 (.agg #[iv a, iv b]) (.agg #[iv c, iv d])) = some (.bool (decide (a = c) && decide (b = d))) := by
    rw [runS_bind]
    have h1 : runP Try.prog (eqGuard .eql 23 x y (.agg #[iv a, iv b]) (.agg #[iv c, iv d])) = some () := by kernel_rfl
    rw [h1, Option.bind_some]
    show runP Try.prog (Op.equalIn 10000 23 (.agg #[iv a, iv b]) (.agg #[iv c, iv d]) >>= fun b => pure (Value.bool b)) = _
    rw [runS_bind, eqp23]
    rfl
  have ha : ∀ a b : Int, afq (.agg #[iv a, iv b]) = true := fun _ _ => rfl
  unfold binV
  rw [ha, ha, h]
  rfl
theorem w62 {H : Heap} {n : Nat} (b : Brg) (q : Sg) (t : Int) (oa : Option Addr) (L c : Nat) : AC Try.prog 62 [b.val (.slice oa L c), .agg ⟨[iv q.tk, iv q.x, iv q.y]⟩, iv t] H n (.bool (nearV b q t)) H n := by
  refine AC.given fun hold _ _ => AC.tidied (B := []) (by simp) ?_
  have hr := recT_ok (P := Try.prog) (l := [(79, g79)]) (by simp [ok79])
  unfold nearV Brg.val
  obtain ⟨X, hX⟩ : ∃ X, plX b t = X := ⟨_, rfl⟩
  obtain ⟨Y, hY⟩ : ∃ Y, plY b t = Y := ⟨_, rfl⟩
  rw [hX, hY]
  obtain ⟨A, hA⟩ : ∃ A, IntKind.i64.wrap (t - q.tk) = A := ⟨_, rfl⟩
  rw [hA]
  have hg : ∀ (H : Heap) (n : Nat), g79 [.agg ⟨[iv b.r, iv b.s, iv b.l, iv b.c, iv b.f, iv b.x, iv b.y, iv b.dx, iv b.dy, iv b.t, .slice oa L c]⟩, iv t] H n = some (.agg ⟨[iv X, iv Y]⟩, H, n) := fun H n => by subst hX; subst hY; rfl
  refine AC.pure Try.func62 rfl (by kernel_rfl) rfl [6, 11, 10, 9, 31, 8, 24, 3, 7, 4, 2, 1, 0] rfl ?_
  refine E.seq ?_
  refine E.reg hr (by simp [Value.cells]; rfl) ?_ -- region 0
  refine E.seq ?_
  refine E.reg hr (by simp [hA]; rfl) ?_ -- region 1
  refine E.seq ?_
  refine E.seq ?_
  by_cases h1 : A < 0 ∨ b.l < A
  · have hc : (decide (A < 0) || decide (b.l < A)) = true := by simpa using h1
    rw [if_pos h1]
    by_cases h2 : A < 0
    · refine E.reg hr (by simp [h2, yieldedA, undefV]; rfl) ?_ -- region 2
      refine E.cond (t := true) (by simp) (fun _ => ?_) (fun h => by cases h)
      refine E.seq ?_
      refine E.reg hr (by simp; rfl) ?_ -- region 3
      refine E.ret ?_
      exact pureK.ret rfl rfl (by simp) (by repeat first | exact Sub.refl _ | refine Sub.cons (by simp) ?_)
    · have h3 : b.l < A := by omega
      refine E.reg hr (by simp [h2, h3, yieldedA]; rfl) ?_ -- region 2
      refine E.cond (t := true) (by simp) (fun _ => ?_) (fun h => by cases h)
      refine E.seq ?_
      refine E.reg hr (by simp; rfl) ?_ -- region 3
      refine E.ret ?_
      exact pureK.ret rfl rfl (by simp) (by repeat first | exact Sub.refl _ | refine Sub.cons (by simp) ?_)
  · have h2 : ¬ A < 0 := by omega
    have h3 : ¬ b.l < A := by omega
    rw [if_neg h1]
    refine E.reg hr (by simp [h2, h3, yieldedA]; rfl) ?_ -- region 2
    refine E.cond (t := false) (by simp) (fun h => by cases h) (fun _ => ?_)
    refine E.skip ?_
    refine E.seq ?_
    refine E.reg hr (by simp [Value.cells, hg]; rfl) ?_ -- region 4
    refine E.seq ?_
    refine E.seq ?_
    by_cases h4 : X = q.x ∧ Y = q.y
    · rw [if_pos h4]
      refine E.reg hr (by simp [eq23, h4.1, h4.2]; rfl) ?_ -- region 5
      refine E.cond (t := true) (by simp) (fun _ => ?_) (fun h => by cases h)
      refine E.seq ?_
      refine E.reg hr (by simp; rfl) ?_ -- region 6
      refine E.ret ?_
      exact pureK.ret rfl rfl (by simp) (by repeat first | exact Sub.refl _ | refine Sub.cons (by simp) ?_)
    · rw [if_neg h4]
      have h5 : (decide (X = q.x) && decide (Y = q.y)) = false := by simpa using h4
      refine E.reg hr (by simp [-Bool.and_eq_false_imp, eq23, h5]; rfl) ?_ -- region 5
      refine E.cond (t := false) (by simp) (fun h => by cases h) (fun _ => ?_)
      refine E.skip ?_
      refine E.seq ?_
      have n1 : ¬ n = n + 1 + 1 := by omega
      have n2 : ¬ n + 1 = n + 1 + 1 := by omega
      have n3 : ¬ n = n + 1 := by omega
      have n4 : ¬ n + 1 + 1 = n := by omega
      have n5 : ¬ n + 1 + 1 = n + 1 := by omega
      have n6 : ¬ n + 1 = n := by omega
      refine E.drawU mixed hr [] [] [1, 4, 7, 10, 14, 17] (by kernel_rfl) (by simp [n1, n4]; rfl) ?_ -- region 7
      refine E.seq ?_
      refine E.reg hr (by simp; rfl) ?_ -- region 8
      refine E.ret ?_
      exact pureK.ret rfl rfl (by simp [insR]) (by repeat first | exact Sub.refl _ | refine Sub.cons (by simp) ?_)
end Go.Proofs.Ytljglocehbccnaa

namespace Go.Proofs.Ytljglocehbccnaa
open Go Go.Ab Go.Proofs
set_option maxRecDepth 20000
/-! ### handed sightings -/
def decG : Dec Sg := fun _ cs => match cs with
  | [.int .i64 t, .int .i64 x, .int .i64 y] => some ⟨t, x, y⟩
  | _ => none
theorem decG_mono : DecMono decG := fun _ _ _ _ _ h => h
theorem decG_frz : DecFrz decG := fun _ _ => rfl
theorem decG_tidy : DecTidy decG := fun _ _ _ _ _ h => h
abbrev sigV (H : Heap) (v : Value) : Option (List Sg) := listV 3 decG H v
theorem decG_form {H : Heap} {r : List Value} {q : Sg} (h : decG H r = some q) : r = [iv q.tk, iv q.x, iv q.y] := by
  unfold decG at h
  split at h
  · injection h with h; subst h; rfl
  · cases h
theorem sigV_form {H : Heap} {v : Value} {l : List Sg} (h : sigV H v = some l) :
    ∃ oa c, v = .slice oa l.length c ∧ l.length < 2147483648 ∧ ∀ i (hi : i < l.length), ∃ a, oa = some a ∧ flat a = true ∧ cellsA H a.block (a.off + i * 3) 3 = some [iv l[i].tk, iv l[i].x, iv l[i].y] := by
  obtain ⟨oa, c, e1, e2, _, e3⟩ := listV_form h
  refine ⟨oa, c, e1, e2, fun i hi => ?_⟩
  obtain ⟨a, r, f1, f2, f3, f4⟩ := e3 i hi
  rw [decG_form f4] at f3
  exact ⟨a, f1, f2, f3⟩
theorem load90 {H : Heap} {m o : Nat} {s : Option Nat} {x y z : Value} (h : cellsA H m o 3 = some [x, y, z]) : loadA Try.prog 90 H (.pointer (some ⟨m, o, s⟩)) = some (.agg #[x, y, z]) := by
  simp only [loadA, ag90, sz90, h, Option.map_some]
theorem load89 {H : Heap} {m o : Nat} {s : Option Nat} {x y z : Value} (h : cellsA H m o 3 = some [x, y, z]) : loadA Try.prog 89 H (.pointer (some ⟨m, o, s⟩)) = some (.agg #[x, y, z]) := by
  simp only [loadA, ag89, sz89, h, Option.map_some]
/-! ### the boxes of closures -/
def brgAt (H : Heap) (k : Nat) : Option Brg := match hget H k with
  | some (.cells [.int .i64 r, .int .i64 s, .int .i64 l, .int .i64 c, .int .i64 f, .int .i64 x, .int .i64 y, .int .i64 dx, .int .i64 dy, .int .i64 t, .slice _ _ _] 84) => some ⟨r, s, l, c, f, x, y, dx, dy, t⟩
  | _ => none
theorem brgAt_form {H : Heap} {k : Nat} {b : Brg} (h : brgAt H k = some b) : ∃ oa L c, hget H k = some (.cells [iv b.r, iv b.s, iv b.l, iv b.c, iv b.f, iv b.x, iv b.y, iv b.dx, iv b.dy, iv b.t, .slice oa L c] 84) := by
  unfold brgAt at h
  split at h
  · rename_i hh
    injection h with h; subst h
    exact ⟨_, _, _, hh⟩
  · cases h
def intAt (H : Heap) (k : Nat) : Option Int := match hget H k with
  | some (.cells [.int .i64 t] 3) => some t
  | _ => none
theorem intAt_form {H : Heap} {k : Nat} {t : Int} (h : intAt H k = some t) : hget H k = some (.cells [iv t] 3) := by
  unfold intAt at h
  split at h
  · rename_i hh
    injection h with h; subst h
    exact hh
  · cases h
theorem brgAt_tidy {H : Heap} {n k : Nat} {b : Brg} (hl : ∀ k b, hget H k = some b → k < n) (h : brgAt H k = some b) : brgAt (tidy n H) k = some b := by
  obtain ⟨oa, L, c, hh⟩ := brgAt_form h
  have : hget (tidy n H) k = some (.cells [iv b.r, iv b.s, iv b.l, iv b.c, iv b.f, iv b.x, iv b.y, iv b.dx, iv b.dy, iv b.t, .slice oa L c] 84) := hget_tidy.2 ⟨hh, hl _ _ hh, rfl⟩
  unfold brgAt
  rw [this]
  rfl
theorem intAt_tidy {H : Heap} {n k : Nat} {t : Int} (hl : ∀ k b, hget H k = some b → k < n) (h : intAt H k = some t) : intAt (tidy n H) k = some t := by
  have hh := intAt_form h
  have : hget (tidy n H) k = some (.cells [iv t] 3) := hget_tidy.2 ⟨hh, hl _ _ hh, rfl⟩
  unfold intAt
  rw [this]
  rfl
/-! ### the closure -/
def g62 (args : List Value) (H : Heap) (n : Nat) : R := match args with
  | [.agg ⟨[.int .i64 r, .int .i64 s, .int .i64 l, .int .i64 c, .int .i64 f, .int .i64 x, .int .i64 y, .int .i64 dx, .int .i64 dy, .int .i64 t, .slice _ _ _]⟩, .agg ⟨[.int .i64 k, .int .i64 u, .int .i64 w]⟩, .int .i64 j] => some (.bool (nearV ⟨r, s, l, c, f, x, y, dx, dy, t⟩ ⟨k, u, w⟩ j), H, n)
  | _ => none
theorem ok62 : EntOk Try.prog (62, g62) := by
  intro args H n v H' n' h
  simp only [g62] at h
  split at h
  · injection h with h; injection h with e1 e2; injection e2 with e2 e3; subst e1 e2 e3
    exact w62 ⟨_, _, _, _, _, _, _, _, _, _⟩ ⟨_, _, _⟩ _ _ _ _
  · cases h
theorem w61 {H : Heap} {n k2 k3 : Nat} {b : Brg} {t : Int} (q : Sg) (h2 : brgAt H k2 = some b) (h3 : intAt H k3 = some t) : AC Try.prog 61 [.agg ⟨[iv q.tk, iv q.x, iv q.y]⟩, .pointer (some ⟨k2, 0, none⟩), .pointer (some ⟨k3, 0, none⟩)] H n (.bool (nearV b q t)) H n := by
  refine AC.given fun hold _ _ => AC.tidied (B := []) (by simp) ?_
  replace h2 := brgAt_tidy (fun k b h => (hold k b h).1) h2
  replace h3 := intAt_tidy (fun k b h => (hold k b h).1) h3
  obtain ⟨oa, L, c, h2⟩ := brgAt_form h2
  replace h3 := intAt_form h3
  have hk2 : k2 < n := tidy_lt _ _ h2
  have hk3 : k3 < n := tidy_lt _ _ h3
  have hr := recT_ok (P := Try.prog) (l := [(62, g62)]) (by simp [ok62])
  have hg : ∀ (H : Heap) (m : Nat), g62 [.agg ⟨[iv b.r, iv b.s, iv b.l, iv b.c, iv b.f, iv b.x, iv b.y, iv b.dx, iv b.dy, iv b.t, .slice oa L c]⟩, .agg ⟨[iv q.tk, iv q.x, iv q.y]⟩, iv t] H m = some (.bool (nearV b q t), H, m) := fun H m => rfl
  obtain ⟨B, hB⟩ : ∃ B, nearV b q t = B := ⟨_, rfl⟩
  simp only [hB] at hg ⊢
  have e2 : ¬ n = k2 := by omega
  have e3 : ¬ n = k3 := by omega
  refine AC.pure Try.func61 rfl (by kernel_rfl) rfl [0, 1, 2, 3] rfl ?_
  refine E.seq ?_
  refine E.reg hr (by simp; rfl) ?_ -- region 0
  refine E.seq ?_
  refine E.reg hr (by simp [h2, h3, e2, e3, hg]; rfl) ?_ -- region 1
  refine E.ret ?_
  exact pureK.ret rfl rfl (by simp) (by repeat first | exact Sub.refl _ | refine Sub.cons (by simp) ?_)
def g61 (args : List Value) (H : Heap) (n : Nat) : R := match args with
  | [.agg ⟨[.int .i64 k, .int .i64 u, .int .i64 w]⟩, .pointer (some ⟨k2, 0, none⟩), .pointer (some ⟨k3, 0, none⟩)] => (brgAt H k2).bind fun b => (intAt H k3).map fun t => (.bool (nearV b ⟨k, u, w⟩ t), H, n)
  | _ => none
theorem ok61 : EntOk Try.prog (61, g61) := by
  intro args H n v H' n' h
  simp only [g61] at h
  split at h
  · rw [Option.bind_eq_some_iff] at h
    obtain ⟨b, h2, h⟩ := h
    rw [Option.map_eq_some_iff] at h
    obtain ⟨t, h3, h⟩ := h
    injection h with e1 e2; injection e2 with e2 e3; subst e1 e2 e3
    exact w61 ⟨_, _, _⟩ h2 h3
  · cases h
/-! ### any of the sightings -/
abbrev nearF (k2 k3 : Nat) : Value := .func (.func 61) #[] #[.pointer (some ⟨k2, 0, none⟩), .pointer (some ⟨k3, 0, none⟩)]
def idxP (p : Sg → Bool) (l : List Sg) : Int := match l.findIdx? p with
  | some i => i
  | none => -1
theorem idxP_hit {p : Sg → Bool} {l : List Sg} {i : Nat} (hi : i < l.length) (h : p l[i] = true) (hj : ∀ j (h : j < l.length), j < i → p l[j] = false) : idxP p l = i := by
  have : l.findIdx? p = some i := by
    rw [List.findIdx?_eq_some_iff_getElem]
    exact ⟨hi, h, fun j hji => by rw [hj j (by omega) hji]; simp⟩
  unfold idxP
  rw [this]
theorem idxP_miss {p : Sg → Bool} {l : List Sg} (hj : ∀ j (h : j < l.length), p l[j] = false) : idxP p l = -1 := by
  have : l.findIdx? p = none := by
    rw [List.findIdx?_eq_none_iff]
    intro x hx
    obtain ⟨j, h, rfl⟩ := List.getElem_of_mem hx
    exact hj j h
  unfold idxP
  rw [this]
theorem idxP_any (p : Sg → Bool) (l : List Sg) : decide (0 ≤ idxP p l) = l.any p := by
  unfold idxP
  cases h : l.findIdx? p with
  | none =>
    rw [List.findIdx?_eq_none_iff] at h
    rw [List.any_eq_false.2 fun x hx => by simp [h x hx]]
    rfl
  | some i =>
    rw [List.findIdx?_eq_some_iff_getElem] at h
    obtain ⟨hi, h, _⟩ := h
    rw [List.any_eq_true.2 ⟨_, List.getElem_mem hi, h⟩]
    simp
theorem w78 {H : Heap} {n k2 k3 : Nat} {v : Value} {b : Brg} {t : Int} {l : List Sg} (h2 : brgAt H k2 = some b) (h3 : intAt H k3 = some t) (hS : sigV H v = some l) : AC Try.prog 78 [v, nearF k2 k3] H n (iv (idxP (nearV b · t) l)) H n := by
  refine AC.given fun hold _ _ => AC.tidied (B := []) (by simp) ?_
  replace h2 := brgAt_tidy (fun k b h => (hold k b h).1) h2
  replace h3 := intAt_tidy (fun k b h => (hold k b h).1) h3
  replace hS : sigV (tidy n H) v = some l := listV_tidy decG_tidy (fun k b h => (hold k b h).1) hS
  have hr := recT_ok (P := Try.prog) (l := [(61, g61)]) (by simp [ok61])
  obtain ⟨oa, c, rfl, hlt, hrow⟩ := sigV_form hS
  have hg : ∀ (q : Sg) (m : Nat), g61 [.agg ⟨[iv q.tk, iv q.x, iv q.y]⟩, .pointer (some ⟨k2, 0, none⟩), .pointer (some ⟨k3, 0, none⟩)] (tidy n H) m = some (.bool (nearV b q t), tidy n H, m) := fun q m => by simp only [g61, h2, h3]; rfl
  obtain ⟨p, hp⟩ : ∃ p : Sg → Bool, (nearV b · t) = p := ⟨_, rfl⟩
  have hp' : ∀ q, nearV b q t = p q := fun q => by rw [← hp]
  simp only [hp'] at hg
  rw [hp]
  refine AC.pure Try.func78 rfl (by kernel_rfl) rfl [0, 1, 7, 8] rfl ?_
  refine E.seq ?_
  refine E.reg hr (by simp; rfl) ?_ -- region 0
  refine E.seq ?_
  refine E.seq ?_
  refine E.reg hr (by simp; rfl) ?_ -- region 1
  refine E.block ?_ -- 0
  refine E.loop ?_
  refine EL.ind (fun i : Nat => { fr := [(0, .slice oa l.length c), (1, nearF k2 k3), (7, iv l.length), (8, iv i)], sz := 19, H := tidy n H, n := n, marks := [], vs := [0, 1, 7, 8] }) (fun i => l.length - i) (fun i => i ≤ l.length ∧ ∀ j (h : j < l.length), j < i → p l[j] = false) 0 (.keep rfl rfl rfl (by simp) (Sub.refl _)) ⟨Nat.zero_le _, fun j _ hj => by omega⟩ (fun _ => rfl) ?_
  rintro i ⟨hi, hg2⟩
  have hw : IntKind.i64.wrap ((i : Int) + 1) = (i : Int) + 1 := W_in (by omega) (by omega)
  refine E.seq ?_
  refine E.reg hr (by simp; rfl) ?_ -- region 2
  refine E.seq ?_
  by_cases hil : i < l.length
  · obtain ⟨a, rfl, hf, hc⟩ := hrow i hil
    have hld := load90 (s := none) hc
    refine E.cond (t := true) (by simp [hil]) (fun _ => ?_) (fun h => by cases h)
    refine E.skip ?_
    refine E.seq ?_
    refine E.block ?_ -- 1
    refine E.seq ?_
    refine E.reg hr (by simp; rfl) ?_ -- region 3
    refine E.seq ?_
    obtain ⟨q, hq⟩ : ∃ q, l[i] = q := ⟨_, rfl⟩
    rw [hq] at hld
    refine E.reg hr (by simp [-loadA, -flat, hil, hf, hld, run_vcall_tmp, vcallF, target, hg]; rfl) ?_ -- region 4
    cases h4 : p q with
    | true =>
      refine E.cond (t := true) (by simp) (fun _ => ?_) (fun h => by cases h)
      refine E.seq ?_
      refine E.reg hr (by simp; rfl) ?_ -- region 5
      refine E.ret ?_
      exact pureK.ret rfl rfl (by simp [idxP_hit hil (by rw [hq]; exact h4) hg2]) (Sub.refl _)
    | false =>
      refine E.cond (t := false) (by simp) (fun h => by cases h) (fun _ => ?_)
      refine E.skip ?_
      refine E.reg hr (by simp [hw]; rfl) ?_ -- region 6
      exact ⟨i + 1, .keep rfl rfl rfl (by simp) (Sub.refl _), ⟨hil, fun j h hj => if e : j = i then by subst e; rw [hq]; exact h4 else hg2 j h (by omega)⟩, by dsimp only; omega⟩
  · refine E.cond (t := false) (by simp [hil]) (fun h => by cases h) (fun _ => ?_)
    refine E.exit ?_ -- 0
    refine E.seq ?_
    refine E.reg hr (by simp; rfl) ?_ -- region 7
    refine E.ret ?_
    exact pureK.ret rfl rfl (by simp [idxP_miss (p := p) (l := l) fun j h => hg2 j h (by omega)]) (Sub.refl _)
def g78 (args : List Value) (H : Heap) (n : Nat) : R := match args with
  | [v, .func (.func 61) ⟨[]⟩ ⟨[.pointer (some ⟨k2, 0, none⟩), .pointer (some ⟨k3, 0, none⟩)]⟩] => (brgAt H k2).bind fun b => (intAt H k3).bind fun t => (sigV H v).map fun l => (iv (idxP (nearV b · t) l), H, n)
  | _ => none
theorem ok78 : EntOk Try.prog (78, g78) := by
  intro args H n v H' n' h
  simp only [g78] at h
  split at h
  · rw [Option.bind_eq_some_iff] at h
    obtain ⟨b, h2, h⟩ := h
    rw [Option.bind_eq_some_iff] at h
    obtain ⟨t, h3, h⟩ := h
    rw [Option.map_eq_some_iff] at h
    obtain ⟨l, h4, h⟩ := h
    injection h with e1 e2; injection e2 with e2 e3; subst e1 e2 e3
    exact w78 h2 h3 h4
  · cases h
def insideV (b : Brg) (l : List Sg) (t : Int) : Bool := l.any (nearV b · t)
theorem w60 {H : Heap} {n k2 k3 : Nat} {v : Value} {b : Brg} {t : Int} {l : List Sg} (h2 : brgAt H k2 = some b) (h3 : intAt H k3 = some t) (hS : sigV H v = some l) : AC Try.prog 60 [v, nearF k2 k3] H n (.bool (insideV b l t)) H n := by
  refine AC.given fun hold _ _ => AC.tidied (B := []) (by simp) ?_
  replace h2 := brgAt_tidy (fun k b h => (hold k b h).1) h2
  replace h3 := intAt_tidy (fun k b h => (hold k b h).1) h3
  replace hS : sigV (tidy n H) v = some l := listV_tidy decG_tidy (fun k b h => (hold k b h).1) hS
  have hr := recT_ok (P := Try.prog) (l := [(78, g78)]) (by simp [ok78])
  have hg : ∀ (m : Nat), g78 [v, nearF k2 k3] (tidy n H) m = some (iv (idxP (nearV b · t) l), tidy n H, m) := fun m => by simp only [g78, h2, h3, hS]; rfl
  unfold insideV
  rw [← idxP_any]
  obtain ⟨j, hj⟩ : ∃ j, idxP (nearV b · t) l = j := ⟨_, rfl⟩
  rw [hj] at hg ⊢
  refine AC.pure Try.func60 rfl (by kernel_rfl) rfl [] rfl ?_
  refine E.seq ?_
  refine E.reg hr (by simp; rfl) ?_ -- region 0
  refine E.seq ?_
  refine E.reg hr (by simp [hg]; rfl) ?_ -- region 1
  refine E.ret ?_
  exact pureK.ret rfl rfl (by simp) (Sub.refl _)
def g60 (args : List Value) (H : Heap) (n : Nat) : R := match args with
  | [v, .func (.func 61) ⟨[]⟩ ⟨[.pointer (some ⟨k2, 0, none⟩), .pointer (some ⟨k3, 0, none⟩)]⟩] => (brgAt H k2).bind fun b => (intAt H k3).bind fun t => (sigV H v).map fun l => (.bool (insideV b l t), H, n)
  | _ => none
theorem ok60 : EntOk Try.prog (60, g60) := by
  intro args H n v H' n' h
  simp only [g60] at h
  split at h
  · rw [Option.bind_eq_some_iff] at h
    obtain ⟨b, h2, h⟩ := h
    rw [Option.bind_eq_some_iff] at h
    obtain ⟨t, h3, h⟩ := h
    rw [Option.map_eq_some_iff] at h
    obtain ⟨l, h4, h⟩ := h
    injection h with e1 e2; injection e2 with e2 e3; subst e1 e2 e3
    exact w60 h2 h3 h4
  · cases h
theorem w25 {H : Heap} {n : Nat} {v : Value} {b : Brg} {t : Int} {l : List Sg} (hS : sigV H v = some l) : AC Try.prog 25 [b.val v, iv t] H n (.bool (insideV b l t)) H n := by
  refine AC.given fun hold _ _ => AC.tidied (B := []) (by simp) ?_
  replace hS : sigV (tidy n H) v = some l := listV_tidy decG_tidy (fun k b h => (hold k b h).1) hS
  have hr := recT_ok (P := Try.prog) (l := [(60, g60)]) (by simp [ok60])
  obtain ⟨oa, c, rfl, hlt, _⟩ := sigV_form hS
  have hS2 : sigV ((n + 1, .cells [iv t] 3) :: (n, .cells [iv b.r, iv b.s, iv b.l, iv b.c, iv b.f, iv b.x, iv b.y, iv b.dx, iv b.dy, iv b.t, .slice oa l.length c] 84) :: tidy n H) (.slice oa l.length c) = some l := listV_mono decG_mono (Sub.cons (by simp) (Sub.cons (by simp) (Sub.refl _))) hS
  have hg : ∀ m, g60 [.slice oa l.length c, nearF n (n + 1)] ((n + 1, .cells [iv t] 3) :: (n, .cells [iv b.r, iv b.s, iv b.l, iv b.c, iv b.f, iv b.x, iv b.y, iv b.dx, iv b.dy, iv b.t, .slice oa l.length c] 84) :: tidy n H) m = some (.bool (insideV b l t), (n + 1, .cells [iv t] 3) :: (n, .cells [iv b.r, iv b.s, iv b.l, iv b.c, iv b.f, iv b.x, iv b.y, iv b.dx, iv b.dy, iv b.t, .slice oa l.length c] 84) :: tidy n H, m) := fun m => by
    simp only [g60, hS2]
    have e1 : brgAt ((n + 1, .cells [iv t] 3) :: (n, .cells [iv b.r, iv b.s, iv b.l, iv b.c, iv b.f, iv b.x, iv b.y, iv b.dx, iv b.dy, iv b.t, .slice oa l.length c] 84) :: tidy n H) n = some b := by simp [brgAt]
    have e2 : intAt ((n + 1, .cells [iv t] 3) :: (n, .cells [iv b.r, iv b.s, iv b.l, iv b.c, iv b.f, iv b.x, iv b.y, iv b.dx, iv b.dy, iv b.t, .slice oa l.length c] 84) :: tidy n H) (n + 1) = some t := by simp [intAt]
    rw [e1, e2]
    rfl
  obtain ⟨B, hB⟩ : ∃ B, insideV b l t = B := ⟨_, rfl⟩
  rw [hB] at hg ⊢
  unfold Brg.val
  refine AC.pure Try.func25 rfl (by kernel_rfl) rfl [0, 1, 2, 3] rfl ?_
  refine E.seq ?_
  refine E.reg hr (by simp; rfl) ?_ -- region 0
  refine E.seq ?_
  refine E.reg hr (by simp [opMakefunc, hg]; rfl) ?_ -- region 1
  refine E.ret ?_
  exact pureK.ret rfl rfl (by simp) (by repeat first | exact Sub.refl _ | refine Sub.cons (by simp) ?_)
def g25 (args : List Value) (H : Heap) (n : Nat) : R := match args with
  | [.agg ⟨[.int .i64 r, .int .i64 s, .int .i64 l, .int .i64 c, .int .i64 f, .int .i64 x, .int .i64 y, .int .i64 dx, .int .i64 dy, .int .i64 t, v]⟩, .int .i64 j] => (sigV H v).map fun q => (.bool (insideV ⟨r, s, l, c, f, x, y, dx, dy, t⟩ q j), H, n)
  | _ => none
theorem ok25 : EntOk Try.prog (25, g25) := by
  intro args H n v H' n' h
  simp only [g25] at h
  split at h
  · rw [Option.map_eq_some_iff] at h
    obtain ⟨l, h4, h⟩ := h
    injection h with e1 e2; injection e2 with e2 e3; subst e1 e2 e3
    exact w25 (b := ⟨_, _, _, _, _, _, _, _, _, _⟩) h4
  · cases h
end Go.Proofs.Ytljglocehbccnaa

namespace Go.Proofs.Ytljglocehbccnaa
open Go Go.Ab Go.Proofs
set_option maxRecDepth 20000
theorem cellA_read {L : List Nat} {H : Heap} {a o : Nat} : cellA (readA L H) a o = if memN L a = true then cellA H a o else none := by
  rw [cellA_eq, cellA_eq, hget_readA]
  split <;> rfl
theorem cellsA_read {L : List Nat} {H : Heap} {a o k : Nat} : cellsA (readA L H) a o k = if memN L a = true then cellsA H a o k else none := by
  rw [cellsA_eq, cellsA_eq, hget_readA]
  split <;> rfl
theorem cell0 {H : Heap} {k o : Nat} {x y z : Value} (h : cellsA H k o 3 = some [x, y, z]) : cellA H k o = some x := by
  have := (cellsA_cell h (i := 0) (by omega)).1
  simpa using this
theorem max33 (a b : Int) (c : Array Bool) : runP Try.prog (builtin .max #[3, 3] 3 c #[iv a, iv b]) = some (.value (iv (max a b))) := by
  have h : runP Try.prog (builtin .max #[3, 3] 3 c #[iv a, iv b]) = some (.value (.int .i64 (if b > a then b else a))) := rfl
  rw [h]
  congr 3
  split <;> omega
theorem min33 (a b : Int) (c : Array Bool) : runP Try.prog (builtin .min #[3, 3] 3 c #[iv a, iv b]) = some (.value (iv (min a b))) := by
  have h : runP Try.prog (builtin .min #[3, 3] 3 c #[iv a, iv b]) = some (.value (.int .i64 (if b < a then b else a))) := rfl
  rw [h]
  congr 3
  split <;> omega
/-! ### sightings, checked -/
def sgP (l : List Sg) (i : Nat) (q : Sg) : Bool := decide (0 < i) && decide (q.tk < (l.getD (i - 1) ⟨0, 0, 0⟩).tk)
def sgE (l : List Sg) (i : Nat) (q : Sg) : Int := firstV [withinV q.tk 0 100000, ptV q.x q.y 100000, whenV (sgP l i q) 11]
theorem w77 {H : Heap} {n k : Nat} {v : Value} {l : List Sg} {i : Nat} (q : Sg) (hk : hget H k = some (.cells [v] 44)) (hS : sigV H v = some l) (hi : i < l.length) : AC Try.prog 77 [iv i, .agg ⟨[iv q.tk, iv q.x, iv q.y]⟩, .pointer (some ⟨k, 0, none⟩)] H n (iv (sgE l i q)) H n := by
  refine AC.given fun hold _ _ => AC.tidied (B := []) (by simp) ?_
  replace hk : hget (tidy n H) k = some (.cells [v] 44) := hget_tidy.2 ⟨hk, (hold _ _ hk).1, rfl⟩
  replace hS : sigV (tidy n H) v = some l := listV_tidy decG_tidy (fun k b h => (hold k b h).1) hS
  have hkn : k < n := tidy_lt _ _ hk
  have hr := recT_ok (P := Try.prog) (l := [(32, g32), (35, g35), (75, g75), (29, g29)]) (by simp [ok32, ok35, ok75, ok29])
  obtain ⟨oa, c, rfl, hlt, hrow⟩ := sigV_form hS
  have hkc : cellA (tidy n H) k 0 = some (.slice oa l.length c) := by rw [cellA_eq, hk]; rfl
  have n1 : ¬ n = k := by omega
  have n2 : ¬ n + 1 = k := by omega
  have n3 : ¬ n + 1 = n := by omega
  refine AC.pure Try.func77 rfl (by kernel_rfl) rfl [0, 1, 2, 4, 5] rfl ?_
  refine E.seq ?_
  refine E.reg hr (by simp; rfl) ?_ -- region 0
  refine E.seq ?_
  match i, hi with
  | 0, hi =>
    refine E.drawU mixed hr [5, 20, 21, 22] [2, 5, 20, 21, 22] [1, 2, 5, 10, 11, 17, 20, 21, 22] (by kernel_rfl) (by simp [yieldedA, undefV, g32, g35, g75, g29, intsAt, intsOf]; rfl) ?_ -- region 1
    refine E.ret ?_
    exact pureK.ret rfl rfl (by simp [sgE, sgP]) (by repeat first | exact Sub.refl _ | refine Sub.cons (by simp) ?_)
  | j + 1, hi =>
    obtain ⟨a, rfl, hf, hc⟩ := hrow j (by omega)
    have hc0 := cell0 hc
    have ha := cellA_lt tidy_lt hc0
    have m1 : k < n + 1 := by omega
    have m2 : a.block < n + 1 := by omega
    have m3 : k < n + 1 + 1 := by omega
    have m4 : a.block < n + 1 + 1 := by omega
    have n4 : ¬ n = a.block := by omega
    have n5 : ¬ n + 1 = a.block := by omega
    have hgd : (l.getD (j + 1 - 1) ⟨0, 0, 0⟩) = l[j] := by
      rw [Nat.add_sub_cancel, List.getD_eq_getElem?_getD, List.getElem?_eq_getElem (by omega)]; rfl
    have hjl : j < l.length := by omega
    have hw : IntKind.i64.wrap (j : Int) = (j : Int) := W_in (by omega) (by omega)
    have hmx : max 0 (j : Int) = j := by omega
    have hsg : sgP l (j + 1) q = decide (q.tk < l[j].tk) := by unfold sgP; rw [hgd]; simp
    obtain ⟨z, hz⟩ : ∃ z, l[j].tk = z := ⟨_, rfl⟩
    rw [hz] at hc0 hsg
    unfold sgE
    rw [hsg]
    refine E.drawU mixed hr [5, 20, 21, 22] [2, 5, 20, 21, 22] [1, 2, 5, 10, 11, 17, 20, 21, 22] (by kernel_rfl) (by simp [-cellA, -cellsA, -flat, -readA, cellA_cons, cellsA_cons, cellA_read, cellsA_read, flat_n, yieldedA, g32, g35, g75, g29, intsAt, intsOf, n1, n4, m1, m2, hkc, hf, hjl, hw, max33, hmx, hc0]; rfl) ?_ -- region 1
    refine E.ret ?_
    exact pureK.ret rfl rfl (by simp) (by repeat first | exact Sub.refl _ | refine Sub.cons (by simp) ?_)
end Go.Proofs.Ytljglocehbccnaa
