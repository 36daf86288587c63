/-
Walks through the guns and their soft start, and the plain law behind them (no condition).
-/
import Derived.Laws.Strings
import Derived.Test.YtljglocehbccnaaTa
import Derived.Test.YtljglocehbccnaaAh
namespace Go.Proofs.Ytljglocehbccnaa.Gn
open Go Go.Ab Go.Proofs
theorem gszN : Try.prog.globals.size ≤ 10 := by rw [gsz]; omega
def whenV (b : Bool) (e : Int) : Int := if b then e else 0
theorem w66 (b : Bool) (e : Int) : AC Try.prog 66 [.bool b, .int .i64 e] [] 10 (.int .i64 (whenV b e)) [] 10 := by
  have hr := recT_ok (P := Try.prog) (l := []) (by simp)
  refine AC.pure Try.func66 rfl (by kernel_rfl) rfl [] rfl ?_
  refine E.seq ?_
  refine E.reg hr (by simp [argsFr, Try.f66]; rfl) ?_
  refine E.seq ?_
  refine E.seq ?_
  refine E.reg hr (by simp; rfl) ?_
  refine E.cond (by rfl) (fun h => ?_) (fun h => ?_)
  · try simp at h
    refine E.seq ?_
    refine E.reg hr (by simp; rfl) ?_
    refine E.ret ?_
    exact pureK.ret rfl rfl (by simp [one, whenV, h]) (sub_refl _)
  · try simp at h
    refine E.skip ?_
    refine E.seq ?_
    refine E.reg hr (by simp; rfl) ?_
    refine E.ret ?_
    exact pureK.ret rfl rfl (by simp [one, whenV, h]) (sub_refl _)
def g66 (args : List Value) (H : Heap) (n : Nat) : R := match args with
  | [.bool b, .int .i64 e] => some (.int .i64 (whenV b e), H, n)
  | _ => none
theorem ok66 : EntOk Try.prog (66, g66) := by
  intro args H n v H' n' h
  simp only [g66] at h
  split at h
  · rename_i b e
    injection h with h; injection h with e1 e2; injection e2 with e2 e3; subst e1 e2 e3
    exact AC.liftP rfl (Part.plainN (by simp) [] (by simp [Seen]) gszN ⟨_, _, w66 b e⟩)
  · cases h
def withinV (a lo hi : Int) : Int := if a < lo ∨ hi < a then 3 else 0
theorem w56 (a lo hi : Int) : AC Try.prog 56 [.int .i64 a, .int .i64 lo, .int .i64 hi] [] 10 (.int .i64 (withinV a lo hi)) [] 10 := by
  have hr := recT_ok (P := Try.prog) (l := [(66, g66)]) (by simp [ok66])
  refine AC.pure Try.func56 rfl (by kernel_rfl) rfl [] rfl ?_
  refine E.seq ?_
  refine E.reg hr (by simp [argsFr, Try.f56]; rfl) ?_
  refine E.seq ?_
  by_cases h1 : a < lo
  · refine E.reg hr (by simp [h1, oneF_guard, yieldedA, g66]; rfl) ?_
    refine E.ret ?_
    exact pureK.ret rfl rfl (by simp [one, withinV, whenV, h1]) (sub_refl _)
  · refine E.reg hr (by simp [h1, oneF_guard, yieldedA, g66]; rfl) ?_
    refine E.ret ?_
    exact pureK.ret rfl rfl (by simp [one, withinV, whenV, h1]) (sub_refl _)
end Go.Proofs.Ytljglocehbccnaa.Gn
namespace Go.Proofs.Ytljglocehbccnaa.Gn
open Go Go.Ab Go.Proofs
def firstV : List Int → Int
  | [] => 0
  | e :: l => if e = 0 then firstV l else e
theorem w55 (l : List Int) (o c : Nat) (hl : l.length < 2 ^ 31) : AC Try.prog 55 [.slice (some ⟨10, o, none⟩) l.length c] [(10, .inp o (l.map iv))] 11 (iv (firstV l)) [(10, .inp o (l.map iv))] 11 := by
  have hr := recT_ok (P := Try.prog) (l := []) (by simp)
  refine AC.pure Try.func55 rfl (by kernel_rfl) rfl [5, 6, 7] rfl ?_
  refine E.seq ?_
  refine E.reg hr (by simp [argsFr, Try.f55]; rfl) ?_
  refine E.seq ?_
  refine E.seq ?_
  refine E.reg hr (by simp [opBuiltin, builtinA]; rfl) ?_
  refine E.block ?_
  refine E.loop ?_
  refine EL.ind (fun i : Nat => { fr := [(5, .slice (some ⟨10, o, none⟩) l.length c), (6, iv l.length), (7, iv i)], sz := 15, H := [(10, .inp o (l.map iv))], n := 11, marks := [], vs := [5, 6, 7] }) (fun i => l.length - i) (fun i => i ≤ l.length ∧ firstV (l.drop i) = firstV l) 0 (.less rfl rfl rfl (by simp) (by simp)) ⟨Nat.zero_le _, rfl⟩ (fun _ => rfl) ?_
  intro i ⟨hi, hg⟩
  refine E.seq ?_
  refine E.reg hr (by simp; rfl) ?_
  refine E.seq ?_
  refine E.cond (by rfl) (fun h => ?_) (fun h => ?_)
  · simp at h
    refine E.skip ?_
    refine E.seq ?_
    refine E.block ?_
    refine E.seq ?_
    refine E.reg hr (by simp [opIndexaddr, Try.underlying97, flat, h, loadA, cellA]; rfl) ?_
    refine E.seq ?_
    refine E.reg hr (by simp; rfl) ?_
    refine E.cond (by rfl) (fun h2 => ?_) (fun h2 => ?_)
    · simp at h2
      refine E.seq ?_
      refine E.reg hr (by simp; rfl) ?_
      refine E.ret ?_
      refine pureK.ret rfl rfl ?_ (sub_refl _)
      rw [List.drop_eq_getElem_cons h] at hg
      simp [one, ← hg, firstV, h2]
    · simp at h2
      refine E.skip ?_
      have hw : IntKind.i64.wrap ((i : Int) + 1) = (i : Int) + 1 := W_in (by omega) (by omega)
      refine E.reg hr (by simp [hw]; rfl) ?_
      rw [List.drop_eq_getElem_cons h] at hg
      exact ⟨i + 1, .less rfl rfl rfl (by simp) (by simp), ⟨h, by rw [← hg]; simp [firstV, h2]⟩, by dsimp only; omega⟩
  · simp at h
    refine E.exit ?_
    refine E.seq ?_
    refine E.reg hr (by simp; rfl) ?_
    refine E.ret ?_
    have : l.drop i = [] := by simp; omega
    refine pureK.ret rfl rfl ?_ (sub_refl _)
    simp [one, ← hg, this, firstV]
end Go.Proofs.Ytljglocehbccnaa.Gn
namespace Go.Proofs.Ytljglocehbccnaa.Gn
open Go Go.Ab Go.Proofs
def g56 (args : List Value) (H : Heap) (n : Nat) : R := match args with
  | [.int .i64 a, .int .i64 b, .int .i64 c] => some (.int .i64 (withinV a b c), H, n)
  | _ => none
theorem ok56 : EntOk Try.prog (56, g56) := by
  intro args H n v H' n' h
  simp only [g56] at h
  split at h
  · injection h with h; injection h with e1 e2; injection e2 with e2 e3; subst e1 e2 e3
    exact AC.liftP rfl (Part.plainN (by simp) [] (by simp [Seen]) gszN ⟨_, _, w56 _ _ _⟩)
  · cases h
def intsOf : List Value → Option (List Int)
  | [] => some []
  | .int .i64 n :: vs => (intsOf vs).map (n :: ·)
  | _ => none
theorem intsOf_ok : ∀ (cs : List Value) (l : List Int), intsOf cs = some l → cs = l.map iv
  | [], l, h => by simp [intsOf] at h; subst h; rfl
  | c :: cs, l, h => by
    unfold intsOf at h
    split at h
    · rename_i h1; cases h1
    · rename_i n vs h1
      injection h1 with h1 h2; subst h1 h2
      rw [Option.map_eq_some_iff] at h
      obtain ⟨l', h2, h3⟩ := h
      subst h3
      rw [intsOf_ok _ _ h2]; rfl
    · cases h
/-- a slice of integers with a block -/
def intsAt (H : Heap) (a : Addr) (len : Nat) : Option (List Int) := if flat a && Nat.blt len 2147483648 then (cellsA H a.block a.off len).bind intsOf else none
theorem intsAt_ok {H : Heap} {a : Addr} {len : Nat} {l : List Int} (h : intsAt H a len = some l) : flat a = true ∧ cellsA H a.block a.off len = some (l.map iv) ∧ l.length = len ∧ l.length < 2 ^ 31 := by
  unfold intsAt at h
  split at h
  · rename_i hf
    rw [Bool.and_eq_true] at hf
    rw [Option.bind_eq_some_iff] at h
    obtain ⟨cs, h1, h2⟩ := h
    have h3 := intsOf_ok _ _ h2
    subst h3
    have h4 := (cellsA_at h1).1
    rw [List.length_map] at h4
    exact ⟨hf.1, h1, h4, by have := (blt_iff _ _).1 hf.2; omega⟩
  · cases h
def g55 (args : List Value) (H : Heap) (n : Nat) : R := match args with
  | [.slice (some a) len _] => (intsAt H a len).map fun l => (iv (firstV l), H, n)
  | _ => none
theorem ok55 : EntOk Try.prog (55, g55) := by
  intro args H n v H' n' h
  simp only [g55] at h
  split at h
  · rename_i a len c
    rw [Option.map_eq_some_iff] at h
    obtain ⟨l, h1, h⟩ := h
    injection h with e1 e2; injection e2 with e2 e3; subst e1 e2 e3
    obtain ⟨hf, hc, hlen, hlt⟩ := intsAt_ok h1
    subst hlen
    exact AC.liftP rfl (Part.oneN (fun s => [s]) (by intro φ φ0 s s0 h; simp [denL, h]) (by intro p s h; exact ⟨h, trivial⟩) hf hc (afL_iv l) [] (by simp [Seen]) gszN fun c => ⟨_, _, w55 l _ c hlt⟩)
  · cases h
end Go.Proofs.Ytljglocehbccnaa.Gn
namespace Go.Proofs.Ytljglocehbccnaa.Gn
open Go Go.Ab Go.Proofs
/-- the tick of a point, as the program reckons it -/
def tickP (s f d u e i : Int) : Int := IntKind.i64.wrap (s + IntKind.i64.wrap ((IntKind.i64.wrap (IntKind.i64.wrap (IntKind.i64.wrap (IntKind.i64.wrap (f + IntKind.i64.wrap (i * d)) * e) + u) - 1)).tdiv u))
end Go.Proofs.Ytljglocehbccnaa.Gn
namespace Go.Proofs.Ytljglocehbccnaa.Gn
open Go Go.Ab Go.Proofs
theorem firstV_zero : ∀ l : List Int, firstV l = 0 ↔ ∀ e ∈ l, e = 0
  | [] => by simp [firstV]
  | x :: l => by
    simp only [firstV, List.mem_cons, forall_eq_or_imp]
    split
    · rename_i h; simp [h, firstV_zero l]
    · rename_i h; simp [h]
def ticksN (s f d u e : Int) (n : Nat) : List Int := (List.range n).map fun i : Nat => tickP s f d u e i
@[simp] theorem ticksN_length (s f d u e : Int) (n : Nat) : (ticksN s f d u e n).length = n := by simp [ticksN]
@[simp] theorem ticksN_getElem {s f d u e : Int} {n i : Nat} (h : i < (ticksN s f d u e n).length) : (ticksN s f d u e n)[i] = tickP s f d u e i := by simp [ticksN]
end Go.Proofs.Ytljglocehbccnaa.Gn
namespace Go.Proofs.Ytljglocehbccnaa.Gn
open Go Go.Ab Go.Proofs
theorem w64 (b : Bool) (e : Int) : AC Try.prog 64 [.bool b, .int .i64 e] [] 10 (.int .i64 (whenV b e)) [] 10 := by
  have hr := recT_ok (P := Try.prog) (l := []) (by simp)
  refine AC.pure Try.func64 rfl (by kernel_rfl) rfl [] rfl ?_
  refine E.seq ?_
  refine E.reg hr (by simp; rfl) ?_
  refine E.seq ?_
  refine E.seq ?_
  refine E.reg hr (by simp; rfl) ?_
  refine E.cond (by rfl) (fun h => ?_) (fun h => ?_)
  · refine E.seq ?_
    refine E.reg hr (by simp; rfl) ?_
    refine E.ret ?_
    exact pureK.ret rfl rfl (by simp [whenV, h]) (sub_refl _)
  · refine E.skip ?_
    refine E.seq ?_
    refine E.reg hr (by simp; rfl) ?_
    refine E.ret ?_
    exact pureK.ret rfl rfl (by simp [whenV, h]) (sub_refl _)
theorem ok64 : EntOk Try.prog (64, g66) := by
  intro args H n v H' n' h
  simp only [g66] at h
  split at h
  · rename_i b e
    injection h with h; injection h with e1 e2; injection e2 with e2 e3; subst e1 e2 e3
    exact AC.liftP rfl (Part.plainN (by simp) [] (by simp [Seen]) gszN ⟨_, _, w64 b e⟩)
  · cases h
theorem w39 (a lo hi : Int) : AC Try.prog 39 [.int .i64 a, .int .i64 lo, .int .i64 hi] [] 10 (.int .i64 (withinV a lo hi)) [] 10 := by
  have hr := recT_ok (P := Try.prog) (l := [(64, g66)]) (by simp [ok64])
  refine AC.pure Try.func39 rfl (by kernel_rfl) rfl [] rfl ?_
  refine E.seq ?_
  refine E.reg hr (by simp; rfl) ?_
  refine E.seq ?_
  by_cases h1 : a < lo
  · refine E.reg hr (by simp [h1, g66]; rfl) ?_
    refine E.ret ?_
    exact pureK.ret rfl rfl (by simp [withinV, whenV, h1]) (sub_refl _)
  · refine E.reg hr (by simp [h1, g66]; rfl) ?_
    refine E.ret ?_
    exact pureK.ret rfl rfl (by simp [withinV, whenV, h1]) (sub_refl _)
theorem ok39 : EntOk Try.prog (39, g56) := by
  intro args H n v H' n' h
  simp only [g56] at h
  split at h
  · injection h with h; injection h with e1 e2; injection e2 with e2 e3; subst e1 e2 e3
    exact AC.liftP rfl (Part.plainN (by simp) [] (by simp [Seen]) gszN ⟨_, _, w39 _ _ _⟩)
  · cases h
theorem w38 (l : List Int) (o c : Nat) (hl : l.length < 2 ^ 31) : AC Try.prog 38 [.slice (some ⟨10, o, none⟩) l.length c] [(10, .inp o (l.map iv))] 11 (iv (firstV l)) [(10, .inp o (l.map iv))] 11 := by
  have hr := recT_ok (P := Try.prog) (l := []) (by simp)
  refine AC.pure Try.func38 rfl (by kernel_rfl) rfl [0, 3] rfl ?_
  refine E.seq ?_
  refine E.reg hr (by simp; rfl) ?_
  refine E.seq ?_
  refine E.seq ?_
  refine E.reg hr (by simp; rfl) ?_
  refine E.block ?_
  refine E.loop ?_
  refine EL.ind (fun i : Nat => { fr := [(0, .slice (some ⟨10, o, none⟩) l.length c), (3, iv i)], sz := 19, H := [(10, .inp o (l.map iv))], n := 11, marks := [], vs := [0, 3] }) (fun i => l.length - i) (fun i => i ≤ l.length ∧ firstV (l.drop i) = firstV l) 0 (.less rfl rfl rfl (by simp) (by simp)) ⟨Nat.zero_le _, rfl⟩ (fun _ => rfl) ?_
  intro i ⟨hi, hg⟩
  refine E.seq ?_
  refine E.seq ?_
  refine E.reg hr (by simp; rfl) ?_
  refine E.cond (by rfl) (fun h => ?_) (fun h => ?_)
  · simp at h
    refine E.skip ?_
    refine E.seq ?_
    refine E.block ?_
    refine E.seq ?_
    refine E.reg hr (by simp [h]; rfl) ?_
    refine E.cond (by rfl) (fun h2 => ?_) (fun h2 => ?_)
    · simp at h2
      refine E.seq ?_
      refine E.reg hr (by simp [h]; rfl) ?_
      refine E.ret ?_
      refine pureK.ret rfl rfl ?_ (sub_refl _)
      rw [List.drop_eq_getElem_cons h] at hg
      simp [← hg, firstV, h2]
    · simp at h2
      refine E.skip ?_
      have hw : IntKind.i64.wrap ((i : Int) + 1) = (i : Int) + 1 := W_in (by omega) (by omega)
      refine E.reg hr (by simp [hw]; rfl) ?_
      rw [List.drop_eq_getElem_cons h] at hg
      exact ⟨i + 1, .less rfl rfl rfl (by simp) (by simp), ⟨h, by rw [← hg]; simp [firstV, h2]⟩, by dsimp only; omega⟩
  · simp at h
    refine E.exit ?_
    refine E.seq ?_
    refine E.reg hr (by simp; rfl) ?_
    refine E.ret ?_
    have : l.drop i = [] := by simp; omega
    refine pureK.ret rfl rfl ?_ (sub_refl _)
    simp [← hg, this, firstV]
theorem ok38 : EntOk Try.prog (38, g55) := by
  intro args H n v H' n' h
  simp only [g55] at h
  split at h
  · rename_i a len c
    rw [Option.map_eq_some_iff] at h
    obtain ⟨l, h1, h⟩ := h
    injection h with e1 e2; injection e2 with e2 e3; subst e1 e2 e3
    obtain ⟨hf, hc, hlen, hlt⟩ := intsAt_ok h1
    subst hlen
    exact AC.liftP rfl (Part.oneN (fun s => [s]) (by intro φ φ0 s s0 h; simp [denL, h]) (by intro p s h; exact ⟨h, trivial⟩) hf hc (afL_iv l) [] (by simp [Seen]) gszN fun c => ⟨_, _, w38 l _ c hlt⟩)
  · cases h
end Go.Proofs.Ytljglocehbccnaa.Gn
namespace Go.Proofs.Ytljglocehbccnaa.Gn
open Go Go.Ab Go.Proofs
/-- the tick of a point, as the reference reckons it -/
def wayV (f d e i : Int) : Int := IntKind.i64.wrap (IntKind.i64.wrap (f + IntKind.i64.wrap (i * d)) * e)
def tickR (s f d u e i : Int) : Int :=
  if 0 < (wayV f d e i).tmod u then IntKind.i64.wrap (IntKind.i64.wrap (s + IntKind.i64.wrap ((wayV f d e i).tdiv u)) + 1) else IntKind.i64.wrap (s + IntKind.i64.wrap ((wayV f d e i).tdiv u))
def ticksM (s f d u e : Int) (n : Nat) : List Int := (List.range n).map fun i : Nat => tickR s f d u e i
@[simp] theorem ticksM_length (s f d u e : Int) (n : Nat) : (ticksM s f d u e n).length = n := by simp [ticksM]
@[simp] theorem ticksM_getElem {s f d u e : Int} {n i : Nat} (h : i < (ticksM s f d u e n).length) : (ticksM s f d u e n)[i] = tickR s f d u e i := by simp [ticksM]
end Go.Proofs.Ytljglocehbccnaa.Gn
namespace Go.Proofs.Ytljglocehbccnaa.Gn
open Go Go.Ab Go.Proofs
abbrev g1 (F : Int → Int) (args : List Value) (H : Heap) (n : Nat) : R := match args with | [.int .i64 a] => some (iv (F a), H, n) | _ => none
theorem okInt1 {f : FuncId} {F : Int → Int} (h : ∀ a, AC Try.prog f [iv a] [] 10 (iv (F a)) [] 10) : EntOk Try.prog (f, g1 F) := by
  intro args H n v H' n' h'
  simp only [g1] at h'
  split at h'
  · injection h' with h'; injection h' with e1 e2; injection e2 with e2 e3; subst e1 e2 e3
    exact AC.liftP rfl (Part.plainN (by simp) [] (by simp [Seen]) gszN ⟨_, _, h _⟩)
  · cases h'
theorem w82 (a : Int) : AC Try.prog 82 [iv a] [] 10 (iv (withinV a 1 64)) [] 10 := by
  have hr := recT_ok (P := Try.prog) (l := [(56, g56)]) (by simp [ok56])
  refine AC.pure Try.func82 rfl (by kernel_rfl) rfl [] rfl ?_
  refine E.seq ?_
  refine E.reg hr (by simp; rfl) ?_
  refine E.seq ?_
  refine E.reg hr (by simp [g56]; rfl) ?_
  refine E.ret ?_
  exact pureK.ret rfl rfl (by simp) (sub_refl _)
theorem w83 (a : Int) : AC Try.prog 83 [iv a] [] 10 (iv (withinV a 0 4)) [] 10 := by
  have hr := recT_ok (P := Try.prog) (l := [(56, g56)]) (by simp [ok56])
  refine AC.pure Try.func83 rfl (by kernel_rfl) rfl [] rfl ?_
  refine E.seq ?_
  refine E.reg hr (by simp; rfl) ?_
  refine E.seq ?_
  refine E.reg hr (by simp [g56]; rfl) ?_
  refine E.ret ?_
  exact pureK.ret rfl rfl (by simp) (sub_refl _)
theorem w40 (a : Int) : AC Try.prog 40 [iv a] [] 10 (iv (withinV a 0 4)) [] 10 := by
  have hr := recT_ok (P := Try.prog) (l := [(39, g56)]) (by simp [ok39])
  refine AC.pure Try.func40 rfl (by kernel_rfl) rfl [] rfl ?_
  refine E.seq ?_
  refine E.reg hr (by simp; rfl) ?_
  refine E.seq ?_
  refine E.reg hr (by simp [g56]; rfl) ?_
  refine E.ret ?_
  exact pureK.ret rfl rfl (by simp) (sub_refl _)
theorem ok82 : EntOk Try.prog (82, g1 fun a => withinV a 1 64) := okInt1 w82
theorem ok83 : EntOk Try.prog (83, g1 fun a => withinV a 0 4) := okInt1 w83
theorem ok40 : EntOk Try.prog (40, g1 fun a => withinV a 0 4) := okInt1 w40
end Go.Proofs.Ytljglocehbccnaa.Gn

namespace Go.Proofs.Ytljglocehbccnaa.Gn
open Go Go.Ab Go.Proofs
section
variable {P : Program} {t : TypeId} {x y : Operand} {a b : Int} {H : Heap} {n : Nat}
@[simp] theorem bin_leq8 : binV P .leq t x y (.int .u8 a) (.int .u8 b) H n = some (.bool (decide (a ≤ b)), H, n) := rfl
@[simp] theorem bin_neq8 : binV P .neq t x y (.int .u8 a) (.int .u8 b) H n = some (.bool (!decide (a = b)), H, n) := rfl
@[simp] theorem bin_leq32 : binV P .leq t x y (.int .i32 a) (.int .i32 b) H n = some (.bool (decide (a ≤ b)), H, n) := rfl
@[simp] theorem bin_eql32 : binV P .eql t x y (.int .i32 a) (.int .i32 b) H n = some (.bool (decide (a = b)), H, n) := rfl
end
def letterB (b : Int) : Bool := (decide (65 ≤ b) && decide (b ≤ 90)) || (decide (97 ≤ b) && decide (b ≤ 122))
def digitB (b : Int) : Bool := decide (48 ≤ b) && decide (b ≤ 57)
abbrev g8 (F : Int → Bool) (args : List Value) (H : Heap) (n : Nat) : R := match args with | [.int .u8 a] => some (.bool (F a), H, n) | _ => none
theorem ok8 {f : FuncId} {F : Int → Bool} (h : ∀ a, AC Try.prog f [.int .u8 a] [] 10 (.bool (F a)) [] 10) : EntOk Try.prog (f, g8 F) := by
  intro args H n v H' n' h'
  simp only [g8] at h'
  split at h'
  · injection h' with h'; injection h' with e1 e2; injection e2 with e2 e3; subst e1 e2 e3
    exact AC.liftP rfl (Part.plainN (by simp) [] (by simp [Seen]) gszN ⟨_, _, h _⟩)
  · cases h'
theorem w80 (b : Int) : AC Try.prog 80 [.int .u8 b] [] 10 (.bool (letterB b)) [] 10 := by
  have hr := recT_ok (P := Try.prog) (l := []) (by simp)
  refine AC.pure Try.func80 rfl (by kernel_rfl) rfl [] rfl ?_
  refine E.seq ?_
  refine E.reg hr (by simp; rfl) ?_
  refine E.seq ?_
  by_cases h1 : 65 ≤ b <;> by_cases h2 : b ≤ 90 <;> by_cases h3 : 97 ≤ b <;> by_cases h4 : b ≤ 122 <;>
    (refine E.reg hr (by simp [h1, h2, h3, h4]; rfl) ?_
     refine E.ret ?_
     exact pureK.ret rfl rfl (by simp [letterB, h1, h2, h3, h4]) (sub_refl _))
theorem ok80 : EntOk Try.prog (80, g8 letterB) := ok8 w80
theorem w81 (b : Int) : AC Try.prog 81 [.int .u8 b] [] 10 (.bool (digitB b)) [] 10 := by
  have hr := recT_ok (P := Try.prog) (l := []) (by simp)
  refine AC.pure Try.func81 rfl (by kernel_rfl) rfl [] rfl ?_
  refine E.seq ?_
  refine E.reg hr (by simp; rfl) ?_
  refine E.seq ?_
  by_cases h1 : 48 ≤ b <;> by_cases h2 : b ≤ 57 <;>
    (refine E.reg hr (by simp [h1, h2]; rfl) ?_
     refine E.ret ?_
     exact pureK.ret rfl rfl (by simp [digitB, h1, h2]) (sub_refl _))
theorem ok81 : EntOk Try.prog (81, g8 digitB) := ok8 w81
theorem runP_und {α : Type} {P : Program} {t : TypeId} {d : TypeDesc} {f : TypeDesc → Sem α} (h : P.underlying t = some d) : runP P (Sem.bind (underlying t) f) = runP P (f d) := by
  show runP P (Sem.bind (match P.underlying t with | some d => _ | none => _) f) = _
  rw [h]
  rfl
theorem runP_bind {α β : Type} {P : Program} (a : Sem α) (g : α → Sem β) : runP P (Sem.bind a g) = (runP P a).bind fun x => runP P (g x) := by
  induction a with
  | program k ih => exact ih P
  | mark m k ih => exact ih
  | _ => rfl
@[simp] theorem len_str {s : ByteArray} {o : Bool} : runP Try.prog (Go.builtin .len #[9] 3 #[o] #[.string s]) = some (.value (iv s.size)) := by
  show runP Try.prog (Sem.bind (Sem.bind (underlying 9) _) _) = _
  rw [runP_bind, runP_und Try.underlying9]
  rfl
/-- the byte at a place of a text -/
def byteB (s : ByteArray) (i : Nat) : Int := (s.get! i).toNat
theorem index_str {s : ByteArray} {j : Int} (h0 : 0 ≤ j) (h1 : j < s.size) : runP Try.prog (Instr.index 9 (.string s) (.int .i64 j)) = some (.int .u8 (byteB s j.toNat)) := by
  have hlt : j.toNat < s.size := by omega
  have hb : s[j.toNat]? = some (s.get! j.toNat) := by
    rw [getElem?_pos s j.toNat hlt]
    simp [ByteArray.get!, getElem!_pos, hlt]
    rfl
  have h2 : (if 0 ≤ j then s[j.toNat]? else none) = some (s.get! j.toNat) := by rw [if_pos h0, hb]
  show runP Try.prog (Sem.bind (underlying 9) _) = _
  rw [runP_und Try.underlying9]
  dsimp only [iv]
  rw [h2]
  rfl
theorem decode_low {s : ByteArray} {i : Nat} (h : byteB s i < 128) : Utf8.decode s i = ((byteB s i).toNat, 1) := by
  have : (s.get! (i + 0)).toNat < 128 := by unfold byteB at h; rw [Nat.add_zero]; omega
  unfold Utf8.decode
  simp only
  rw [if_pos this]
  simp [byteB]
theorem decode_high {s : ByteArray} {i : Nat} (h : ¬ byteB s i < 128) : 128 ≤ (Utf8.decode s i).1 ∧ 1 ≤ (Utf8.decode s i).2 := by
  have : ¬ (s.get! (i + 0)).toNat < 128 := by unfold byteB at h; rw [Nat.add_zero]; omega
  unfold Utf8.decode
  simp only
  rw [if_neg this]
  repeat' split
  all_goals first | (constructor <;> simp_all <;> omega) | (simp [Utf8.runeError])
end Go.Proofs.Ytljglocehbccnaa.Gn
namespace Go.Proofs.Ytljglocehbccnaa.Gn
open Go Go.Ab Go.Proofs
def partB (b : Int) : Bool := letterB b || digitB b || decide (b = 95)
def okAt (s : ByteArray) (j : Nat) : Bool := if j = 0 then letterB (byteB s j) else partB (byteB s j)
def nameB (s : ByteArray) : Bool := decide (s.size ≠ 0) && decide (s.size ≤ 24) && (List.range s.size).all (okAt s)
theorem nameB_true {s : ByteArray} (h0 : s.size ≠ 0) (h1 : s.size ≤ 24) (h : ∀ j, j < s.size → okAt s j = true) : nameB s = true := by
  unfold nameB
  simp [h0, h1]
  exact h
theorem nameB_false {s : ByteArray} {j : Nat} (hj : j < s.size) (h : okAt s j = false) : nameB s = false := by
  unfold nameB
  have : (List.range s.size).all (okAt s) = false := by
    rw [List.all_eq_false]
    exact ⟨j, by simpa using hj, by simp [h]⟩
  rw [this, Bool.and_false]
set_option maxRecDepth 100000 in
theorem w65 (s : ByteArray) : AC Try.prog 65 [sv s] [] 10 (.bool (nameB s)) [] 10 := by
  have hr := recT_ok (P := Try.prog) (l := [(80, g8 letterB), (81, g8 digitB)]) (by simp only [List.forall_mem_cons]; exact ⟨ok80, ok81, by simp⟩)
  refine AC.pure Try.func65 rfl (by kernel_rfl) rfl [0, 3] rfl ?_
  refine E.seq ?_
  refine E.reg hr (by simp; rfl) ?_
  refine E.seq ?_
  refine E.seq ?_
  by_cases hz : s.size = 0
  · refine E.reg hr (by simp [hz]; rfl) ?_
    refine E.cond (by rfl) (fun h => ?_) (fun h => ?_)
    rotate_left
    · simp at h
    refine E.seq ?_
    refine E.reg hr (by simp; rfl) ?_
    refine E.ret ?_
    exact pureK.ret rfl rfl (by simp [nameB, hz]) (sub_refl _)
  by_cases h24 : (24 : Int) < (s.size : Int)
  · refine E.reg hr (by simp [hz, h24]; rfl) ?_
    refine E.cond (by rfl) (fun h => ?_) (fun h => ?_)
    rotate_left
    · simp at h
    refine E.seq ?_
    refine E.reg hr (by simp; rfl) ?_
    refine E.ret ?_
    exact pureK.ret rfl rfl (by simp [nameB, show ¬ s.size ≤ 24 by omega]) (sub_refl _)
  by_cases hl : letterB (byteB s 0) = true
  rotate_left
  · refine E.reg hr (by simp [hz, h24, index_str (s := s) (j := 0) (by omega) (by omega), g8, hl]; rfl) ?_
    refine E.cond (by rfl) (fun h => ?_) (fun h => ?_)
    rotate_left
    · simp at h
    refine E.seq ?_
    refine E.reg hr (by simp; rfl) ?_
    refine E.ret ?_
    exact pureK.ret rfl rfl (by simp [nameB_false (j := 0) (s := s) (by omega) (by simp [okAt, hl])]) (sub_refl _)
  refine E.reg hr (by simp [hz, h24, index_str (s := s) (j := 0) (by omega) (by omega), g8, hl]; rfl) ?_
  refine E.cond (by rfl) (fun h => ?_) (fun h => ?_)
  · simp at h
  refine E.skip ?_
  refine E.seq ?_
  refine E.seq ?_
  refine E.reg hr (by simp; rfl) ?_
  refine E.block ?_
  refine E.loop ?_
  refine EL.ind (fun i : Nat => { fr := [(0, sv s), (3, iv i)], sz := 42, H := [], n := 10, marks := [], vs := [0, 3] }) (fun i => s.size - i) (fun i => i ≤ s.size ∧ 1 ≤ i ∧ ∀ j, j < i → okAt s j = true) 1 (.less rfl rfl rfl (by simp) (by simp)) ⟨by omega, by omega, fun j hj => by rw [show j = 0 by omega]; simp [okAt, hl]⟩ (fun _ => rfl) ?_
  intro i ⟨hi, h1, hg⟩
  have hw : IntKind.i64.wrap ((i : Int) + 1) = (i : Int) + 1 := W_in (by omega) (by omega)
  refine E.seq ?_
  refine E.seq ?_
  refine E.reg hr (by simp; rfl) ?_
  refine E.cond (by rfl) (fun h => ?_) (fun h => ?_)
  · simp at h
    refine E.skip ?_
    refine E.seq ?_
    refine E.block ?_
    refine E.seq ?_
    by_cases hp : partB (byteB s i) = true
    · have hok : okAt s i = true := by simp [okAt, show i ≠ 0 by omega, hp]
      have hx := index_str (s := s) (j := (i : Int)) (by omega) (by omega)
      simp [partB] at hp
      by_cases a1 : letterB (byteB s i) = true
      · refine E.reg hr (by simp [hx, g8, a1]; rfl) ?_
        refine E.cond (by rfl) (fun h9 => ?_) (fun h9 => ?_)
        · simp at h9
        refine E.skip ?_
        refine E.reg hr (by simp [hw]; rfl) ?_
        exact ⟨i + 1, .less rfl rfl rfl (by simp) (by simp), ⟨h, by omega, fun j hj => if e : j = i then e ▸ hok else hg j (by omega)⟩, by dsimp only; omega⟩
      by_cases a2 : digitB (byteB s i) = true
      · refine E.reg hr (by simp [hx, g8, a1, a2]; rfl) ?_
        refine E.cond (by rfl) (fun h9 => ?_) (fun h9 => ?_)
        · simp at h9
        refine E.skip ?_
        refine E.reg hr (by simp [hw]; rfl) ?_
        exact ⟨i + 1, .less rfl rfl rfl (by simp) (by simp), ⟨h, by omega, fun j hj => if e : j = i then e ▸ hok else hg j (by omega)⟩, by dsimp only; omega⟩
      have a3 : byteB s i = 95 := by simpa [a1, a2] using hp
      · refine E.reg hr (by simp [hx, g8, a3, show letterB 95 = false from rfl, show digitB 95 = false from rfl]; rfl) ?_
        refine E.cond (by rfl) (fun h9 => ?_) (fun h9 => ?_)
        · simp at h9
        refine E.skip ?_
        refine E.reg hr (by simp [hw]; rfl) ?_
        exact ⟨i + 1, .less rfl rfl rfl (by simp) (by simp), ⟨h, by omega, fun j hj => if e : j = i then e ▸ hok else hg j (by omega)⟩, by dsimp only; omega⟩
    · have hok : okAt s i = false := by simp [okAt, show i ≠ 0 by omega, hp]
      have hx := index_str (s := s) (j := (i : Int)) (by omega) (by omega)
      simp [partB] at hp
      obtain ⟨⟨a1, a2⟩, a3⟩ := hp
      refine E.reg hr (by simp [hx, g8, a1, a2, a3]; rfl) ?_
      refine E.cond (by rfl) (fun h => ?_) (fun h => ?_)
      rotate_left
      · simp at h
      refine E.seq ?_
      refine E.reg hr (by simp; rfl) ?_
      refine E.ret ?_
      exact pureK.ret rfl rfl (by simp [nameB_false (j := i) (s := s) (by omega) hok]) (sub_refl _)
  · simp at h
    refine E.exit ?_
    refine E.seq ?_
    refine E.reg hr (by simp; rfl) ?_
    refine E.ret ?_
    exact pureK.ret rfl rfl (by simp [nameB_true (s := s) hz (by omega) fun j hj => hg j (by omega)]) (sub_refl _)
end Go.Proofs.Ytljglocehbccnaa.Gn
namespace Go.Proofs.Ytljglocehbccnaa.Gn
open Go Go.Ab Go.Proofs
@[simp] theorem run_next {P : Program} {r : Rec} {st : St} {dst ty ps af g} {it : Operand} : runOp P r ⟨dst, .next it true, ty, ps, af, g⟩ st = opNext P it st.fr st.H st.n := rfl
/-- a region whose slots behind it are known up to what is let go -/
theorem E.regL {P : Program} {r : Rec} {m n0 : Nat} {ro : Option Nat} (hr : RecOk P r m) {id : Nat} {ops : Array Oper} {st : St} {b : Code} {K : Ex → St → Prop} (s2 : St) (h : ∃ st', opsF P r ops ops.toList st = some st' ∧ Leads P n0 st' s2) (k : E P n0 ro b s2 K) : E P n0 ro (.region id ops false) st (seqK P n0 ro b K) := by
  obtain ⟨st', h1, h2⟩ := h
  exact E.reg hr h1 (E.lead s2 h2 k)
theorem byteB_bounds (s : ByteArray) (i : Nat) : 0 ≤ byteB s i ∧ byteB s i ≤ 255 := by
  unfold byteB
  have := (s.get! i).toNat_lt
  omega
/-- the rune at a place, as the reading by runes has it -/
def runeB (s : ByteArray) (i : Nat) : Int := (Utf8.decode s i).1
theorem rune_part (s : ByteArray) (i : Nat) : letterB (runeB s i) = letterB (byteB s i) ∧ digitB (runeB s i) = digitB (byteB s i) ∧ (runeB s i = 95 ↔ byteB s i = 95) ∧ (byteB s i < 128 → (Utf8.decode s i).2 = 1) := by
  have hb := byteB_bounds s i
  by_cases h : byteB s i < 128
  · have e : runeB s i = byteB s i := by unfold runeB; rw [decode_low h]; dsimp only; omega
    rw [e]
    exact ⟨rfl, rfl, Iff.rfl, fun _ => by rw [decode_low h]⟩
  · obtain ⟨h1, h2⟩ := decode_high h
    have e : 128 ≤ runeB s i := by unfold runeB; omega
    refine ⟨?_, ?_, by omega, fun h' => absurd h' h⟩
    · have a1 : ¬ runeB s i ≤ 90 := by omega
      have a2 : ¬ runeB s i ≤ 122 := by omega
      have a3 : ¬ byteB s i ≤ 90 := by omega
      have a4 : ¬ byteB s i ≤ 122 := by omega
      simp [letterB, a1, a2, a3, a4]
    · have a1 : ¬ runeB s i ≤ 57 := by omega
      have a3 : ¬ byteB s i ≤ 57 := by omega
      simp [digitB, a1, a3]
theorem part_low {s : ByteArray} {i : Nat} (h : okAt s i = true) : byteB s i < 128 := by
  unfold okAt partB letterB digitB at h
  split at h <;> simp at h <;> omega
theorem str_eq (a b : ByteArray) : (a.toList == b.toList) = decide (a = b) := by
  rw [ByteArray.toList_eq, ByteArray.toList_eq]
  by_cases h : a = b
  · simp [h]
  · rw [decide_eq_false h]
    refine beq_eq_false_iff_ne.2 fun e => h ?_
    cases a; cases b
    simp at e
    simp [e]
section
variable {P : Program} {t : TypeId} {x y : Operand} {H : Heap} {n : Nat} {a b : ByteArray}
@[simp] theorem bin_eqls : binV P .eql t x y (.string a) (.string b) H n = some (.bool (decide (a = b)), H, n) := by
  have h : binV P .eql t x y (.string a) (.string b) H n = some (.bool (a.toList == b.toList), H, n) := rfl
  rw [h, str_eq]
@[simp] theorem bin_neqs : binV P .neq t x y (.string a) (.string b) H n = some (.bool (!decide (a = b)), H, n) := by
  have h : binV P .neq t x y (.string a) (.string b) H n = some (.bool (!(a.toList == b.toList)), H, n) := rfl
  rw [h, str_eq]
end
theorem str_empty (s : ByteArray) : (s = (⟨#[]⟩ : ByteArray)) ↔ s.size = 0 := ByteArray.size_eq_zero_iff.symm
set_option maxRecDepth 100000 in
theorem w67 (s : ByteArray) : AC Try.prog 67 [sv s] [] 10 (.bool (nameB s)) [] 10 := by
  have hr := recT_ok (P := Try.prog) (l := []) (by simp)
  refine AC.pure Try.func67 rfl (by kernel_rfl) rfl [0, 8] rfl ?_
  refine E.seq ?_
  refine E.reg hr (by simp; rfl) ?_
  refine E.seq ?_
  refine E.seq ?_
  refine E.reg hr (by simp; rfl) ?_
  refine E.block ?_
  refine E.loop ?_
  refine EL.ind (fun i : Nat => { fr := [(0, sv s), (8, .pointer (some ⟨10, 0, none⟩))], sz := 54, H := [(10, .iter s i)], n := 11, marks := [], vs := [0, 8] }) (fun i => s.size - i) (fun i => i ≤ s.size ∧ ∀ j, j < i → okAt s j = true) 0 (.less rfl rfl rfl (by simp) (by simp)) ⟨Nat.zero_le _, fun j hj => absurd hj (by omega)⟩ (fun _ => rfl) ?_
  intro i ⟨hi, hg⟩
  obtain ⟨e1, e2, e3, e4⟩ := rune_part s i
  refine E.seq ?_
  by_cases h : i < s.size
  · refine E.reg hr (by simp [opNext, h]; rfl) ?_
    refine E.seq ?_
    refine E.cond (by rfl) (fun h9 => ?_) (fun h9 => ?_)
    rotate_left
    · simp at h9
    refine E.skip ?_
    refine E.block ?_
    refine E.seq ?_
    have hru : ((Utf8.decode s i).1 : Int) = runeB s i := rfl
    refine E.regL hr { fr := [(3, iv i), (4, .int .i32 (runeB s i)), (0, sv s), (8, .pointer (some ⟨10, 0, none⟩))], sz := 54, H := [(10, .iter s (i + (Utf8.decode s i).2))], n := 11, marks := [], vs := [0, 8] } ?_ ?_
    · (refine ⟨_, by simp; rfl, ?_⟩; exact .less rfl rfl rfl (by simp [hru]) (by simp))
    refine E.seq ?_
    refine E.regL hr { fr := [(5, .bool (letterB (runeB s i))), (3, iv i), (4, .int .i32 (runeB s i)), (0, sv s), (8, .pointer (some ⟨10, 0, none⟩))], sz := 54, H := [(10, .iter s (i + (Utf8.decode s i).2))], n := 11, marks := [], vs := [0, 8] } ?_ ?_
    · generalize runeB s i = b
      by_cases h1 : 65 ≤ b <;> by_cases h2 : b ≤ 90 <;> by_cases h3 : 97 ≤ b <;> by_cases h4 : b ≤ 122 <;>
        (refine ⟨_, by simp [h1, h2, h3, h4, undefV]; rfl, ?_⟩; exact .less rfl rfl rfl (by simp [letterB, h1, h2, h3, h4]) (by simp))
    refine E.seq ?_
    refine E.regL hr { fr := [(6, .bool (digitB (runeB s i) || decide (runeB s i = 95))), (5, .bool (letterB (runeB s i))), (3, iv i), (4, .int .i32 (runeB s i)), (0, sv s), (8, .pointer (some ⟨10, 0, none⟩))], sz := 54, H := [(10, .iter s (i + (Utf8.decode s i).2))], n := 11, marks := [], vs := [0, 8] } ?_ ?_
    · generalize runeB s i = b
      by_cases h1 : 48 ≤ b <;> by_cases h2 : b ≤ 57 <;> by_cases h3 : b = 95 <;>
        (refine ⟨_, by simp [h1, h2, h3, undefV]; rfl, ?_⟩; exact .less rfl rfl rfl (by simp [digitB, h1, h2, h3]) (by simp))
    have hok : okAt s i = (letterB (runeB s i) || (!decide (i = 0) && (digitB (runeB s i) || decide (runeB s i = 95)))) := by
      rw [e1, e2]
      unfold okAt partB
      by_cases c0 : i = 0 <;> simp [c0, e3, Bool.or_assoc]
    refine E.seq ?_
    refine E.regL hr { fr := [(46, .bool (!okAt s i)), (0, sv s), (8, .pointer (some ⟨10, 0, none⟩))], sz := 54, H := [(10, .iter s (i + (Utf8.decode s i).2))], n := 11, marks := [], vs := [0, 8] } ?_ ?_
    · rw [hok]
      generalize letterB (runeB s i) = L
      generalize (digitB (runeB s i) || decide (runeB s i = 95)) = D
      generalize i + (Utf8.decode s i).2 = q
      by_cases c0 : i = 0 <;> cases L <;> cases D <;>
        (refine ⟨_, by simp [c0, undefV]; rfl, ?_⟩; exact .less rfl rfl rfl (by simp [c0]) (by simp))
    refine E.cond (by rfl) (fun h2 => ?_) (fun h2 => ?_)
    · simp at h2
      refine E.seq ?_
      refine E.reg hr (by simp; rfl) ?_
      refine E.ret ?_
      exact pureK.ret rfl rfl (by simp [nameB_false (j := i) (s := s) h h2]) (by repeat first | exact sub_refl _ | refine sub_cons rfl ?_)
    · simp at h2
      refine E.skip ?_
      have hlow := part_low h2
      exact ⟨i + 1, .less rfl rfl rfl (by simp) (by simp [e4 hlow]), ⟨by omega, fun j hj => if e : j = i then e ▸ h2 else hg j (by omega)⟩, by dsimp only; omega⟩
  · refine E.reg hr (by simp [opNext, h]; rfl) ?_
    refine E.seq ?_
    refine E.cond (by rfl) (fun h9 => ?_) (fun h9 => ?_)
    · simp at h9
    refine E.exit ?_
    refine E.seq ?_
    have hall : nameB s = (decide (s.size ≠ 0) && decide (s.size ≤ 24)) := by
      unfold nameB
      rw [show (List.range s.size).all (okAt s) = true from List.all_eq_true.2 fun j hj => hg j (by have := List.mem_range.1 hj; omega), Bool.and_true]
    refine E.regL hr { fr := [(2, .bool (nameB s))], sz := 54, H := [], n := 11, marks := [], vs := [0, 8] } ?_ ?_
    · by_cases hz : s.size = 0
      · refine ⟨_, by simp [str_empty, hz, undefV]; rfl, ?_⟩
        exact .less rfl rfl rfl (by simp [hall, hz]) (by simp)
      · refine ⟨_, by simp [str_empty, hz]; rfl, ?_⟩
        exact .less rfl rfl rfl (by simp [hall, hz]; omega) (by simp)
    refine E.ret ?_
    exact pureK.ret rfl rfl (by simp) (sub_refl _)
end Go.Proofs.Ytljglocehbccnaa.Gn
namespace Go.Proofs.Ytljglocehbccnaa.Gn
open Go Go.Ab Go.Proofs
abbrev gSB (F : ByteArray → Bool) (args : List Value) (H : Heap) (n : Nat) : R := match args with | [.string s] => some (.bool (F s), H, n) | _ => none
abbrev gSI (F : ByteArray → Int) (args : List Value) (H : Heap) (n : Nat) : R := match args with | [.string s] => some (iv (F s), H, n) | _ => none
theorem okSB {f : FuncId} {F : ByteArray → Bool} (h : ∀ s, AC Try.prog f [sv s] [] 10 (.bool (F s)) [] 10) : EntOk Try.prog (f, gSB F) := by
  intro args H n v H' n' h'
  simp only [gSB] at h'
  split at h'
  · injection h' with h'; injection h' with e1 e2; injection e2 with e2 e3; subst e1 e2 e3
    exact AC.liftP rfl (Part.plainN (by simp) [] (by simp [Seen]) gszN ⟨_, _, h _⟩)
  · cases h'
theorem okSI {f : FuncId} {F : ByteArray → Int} (h : ∀ s, AC Try.prog f [sv s] [] 10 (iv (F s)) [] 10) : EntOk Try.prog (f, gSI F) := by
  intro args H n v H' n' h'
  simp only [gSI] at h'
  split at h'
  · injection h' with h'; injection h' with e1 e2; injection e2 with e2 e3; subst e1 e2 e3
    exact AC.liftP rfl (Part.plainN (by simp) [] (by simp [Seen]) gszN ⟨_, _, h _⟩)
  · cases h'
theorem ok65 : EntOk Try.prog (65, gSB nameB) := okSB w65
theorem ok67 : EntOk Try.prog (67, gSB nameB) := okSB w67
def nameE (s : ByteArray) : Int := if nameB s then 0 else 8
theorem w36 (s : ByteArray) : AC Try.prog 36 [sv s] [] 10 (iv (nameE s)) [] 10 := by
  have hr := recT_ok (P := Try.prog) (l := [(65, gSB nameB), (64, g66)]) (by simp only [List.forall_mem_cons]; exact ⟨ok65, ok64, by simp⟩)
  refine AC.pure Try.func36 rfl (by kernel_rfl) rfl [] rfl ?_
  refine E.seq ?_
  refine E.reg hr (by simp; rfl) ?_
  refine E.seq ?_
  cases hn : nameB s
  · refine E.reg hr (by simp [hn, g66]; rfl) ?_
    refine E.ret ?_
    exact pureK.ret rfl rfl (by simp [nameE, hn, whenV]) (sub_refl _)
  · refine E.reg hr (by simp [hn, g66]; rfl) ?_
    refine E.ret ?_
    exact pureK.ret rfl rfl (by simp [nameE, hn, whenV]) (sub_refl _)
theorem ok36 : EntOk Try.prog (36, gSI nameE) := okSI w36
end Go.Proofs.Ytljglocehbccnaa.Gn
namespace Go.Proofs.Ytljglocehbccnaa.Gn
open Go Go.Ab Go.Proofs
/-- a gun of a string, as both programs hold it: seven cells -/
structure Gun where
  name : ByteArray
  v : Int
  x : Int
  y : Int
  d : Int
  lo : Int
  hi : Int
abbrev Gun.cells (g : Gun) : List Value := [sv g.name, iv g.v, iv g.x, iv g.y, iv g.d, iv g.lo, iv g.hi]
/-- what is wrong with a gun's numbers, but for the order of its shifts -/
def Gun.nums (g : Gun) : Int := firstV [withinV g.v 1 64, withinV g.x (-1000) 1000, withinV g.y (-1000) 1000, withinV g.d 0 16, withinV g.lo 0 4, withinV g.hi 0 4]
def Gun.err (g : Gun) : Int := firstV [withinV g.v 1 64, withinV g.x (-1000) 1000, withinV g.y (-1000) 1000, withinV g.d 0 16, withinV g.lo 0 4, withinV g.hi 0 4, if g.hi < g.lo then 11 else 0]
theorem firstV_append (l k : List Int) : firstV (l ++ k) = if firstV l = 0 then firstV k else firstV l := by
  induction l with
  | nil => simp [firstV]
  | cons a l ih =>
    simp only [List.cons_append, firstV]
    by_cases h : a = 0 <;> simp [h, ih]
theorem Gun.err_eq (g : Gun) : g.err = if g.nums = 0 then (if g.hi < g.lo then 11 else 0) else g.nums := by
  have := firstV_append [withinV g.v 1 64, withinV g.x (-1000) 1000, withinV g.y (-1000) 1000, withinV g.d 0 16, withinV g.lo 0 4, withinV g.hi 0 4] [if g.hi < g.lo then 11 else 0]
  unfold Gun.err Gun.nums
  simp only [List.cons_append, List.nil_append] at this
  rw [this]
  by_cases h : g.hi < g.lo <;> simp [firstV, h]
set_option maxRecDepth 100000 in
theorem w68 (g : Gun) : AC Try.prog 68 [.agg ⟨g.cells⟩] [] 10 (iv g.err) [] 10 := by
  have hr := recT_ok (P := Try.prog) (l := [(82, g1 fun a => withinV a 1 64), (56, g56), (83, g1 fun a => withinV a 0 4), (66, g66), (55, g55)]) (by simp only [List.forall_mem_cons]; exact ⟨ok82, ok56, ok83, ok66, ok55, by simp⟩)
  refine AC.pure Try.func68 rfl (by kernel_rfl) rfl [] rfl ?_
  refine E.seq ?_
  refine E.reg hr (by simp; rfl) ?_
  refine E.seq ?_
  refine E.drawK mixed hr (by simp [g56, g55, g66, intsAt, intsOf]; rfl) (by kernel_rfl) (by kernel_rfl) ?_
  refine E.ret ?_
  refine pureK.ret rfl rfl ?_ (by repeat first | exact sub_refl _ | refine sub_cons rfl ?_)
  by_cases hd : g.hi < g.lo <;> simp [Gun.err, hd, whenV]
def g68 (args : List Value) (H : Heap) (n : Nat) : R := match args with
  | [.agg ⟨[.string s, .int .i64 v, .int .i64 x, .int .i64 y, .int .i64 d, .int .i64 lo, .int .i64 hi]⟩] => some (iv (Gun.err ⟨s, v, x, y, d, lo, hi⟩), H, n)
  | _ => none
theorem ok68 : EntOk Try.prog (68, g68) := by
  intro args H n v H' n' h
  simp only [g68] at h
  split at h
  · injection h with h; injection h with e1 e2; injection e2 with e2 e3; subst e1 e2 e3
    exact AC.liftP rfl (Part.plainN (by simp) [] (by simp [Seen]) gszN ⟨_, _, w68 ⟨_, _, _, _, _, _, _⟩⟩)
  · cases h
end Go.Proofs.Ytljglocehbccnaa.Gn
