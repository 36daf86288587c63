/-
Contracts and plain reckonings behind the law GunTexts, part 1 of 6 (each under the conditions in its statement).
-/
import Derived.Laws.Strings
import Derived.OpenShut
import Derived.ChangeSlices
import Derived.Test.YtndlfijfjglkdaaGreatDoorTa
import Derived.Test.YtndlfijfjglkdaaGreatDoorAf
import Derived.Test.YtndlfijfjglkdaaGreatDoorFa
namespace Go.Proofs.YtndlfijfjglkdaaGreatDoor
open Go Go.Ab Go.Proofs
def whenV (b : Bool) (e : Int) : Int := if b then e else 0
theorem w114 (b : Bool) (e : Int) : AC Tryz.prog 114 [.bool b, .int .i64 e] [] 10 (.int .i64 (whenV b e)) [] 10 := by
 have hr := recT_ok (P := Tryz.prog) (l := []) (by simp)
 refine AC.pure Tryz.func114 rfl (by kernel_rfl) rfl [] rfl ?_
 refine E.seq ?_
 refine E.reg hr (by simp [argsFr, Tryz.f114]; rfl) ?_
 refine E.seq ?_
 refine E.seq ?_
 refine E.reg hr (by simp; rfl) ?_
 refine E.cond (by rfl) (fun h => ?_) (fun h => ?_)
 · try simp at h
   refine E.seq ?_
   refine E.reg hr (by simp; rfl) ?_
   refine E.ret ?_
   exact pureK.ret rfl rfl (by simp [one, whenV, h]) (sub_refl _)
 · try simp at h
   refine E.skip ?_
   refine E.seq ?_
   refine E.reg hr (by simp; rfl) ?_
   refine E.ret ?_
   exact pureK.ret rfl rfl (by simp [one, whenV, h]) (sub_refl _)
def g114 (args : List Value) (H : Heap) (n : Nat) : R := match args with
 | [.bool b, .int .i64 e] => some (.int .i64 (whenV b e), H, n)
 | _ => none
theorem ok114 : EntOk Tryz.prog (114, g114) := by
 intro args H n v H' n' h
 simp only [g114] at h
 split at h
 · rename_i b e
   injection h with h; injection h with e1 e2; injection e2 with e2 e3; subst e1 e2 e3
   exact AC.liftP rfl (Part.plain (by simp) [] (by simp [Seen]) gsz ⟨_, _, w114 b e⟩)
 · cases h
def withinV (a lo hi : Int) : Int := if a < lo ∨ hi < a then 3 else 0
theorem w138 (a lo hi : Int) : AC Tryz.prog 138 [.int .i64 a, .int .i64 lo, .int .i64 hi] [] 10 (.int .i64 (withinV a lo hi)) [] 10 := by
 have hr := recT_ok (P := Tryz.prog) (l := [(114, g114)]) (by simp [ok114])
 refine AC.pure Tryz.func138 rfl (by kernel_rfl) rfl [] rfl ?_
 refine E.seq ?_
 refine E.reg hr (by simp [argsFr, Tryz.f138]; rfl) ?_
 refine E.seq ?_
 by_cases h1 : a < lo
 · refine E.reg hr (by simp [h1, oneF_guard, yieldedA, g114]; rfl) ?_
   refine E.ret ?_
   exact pureK.ret rfl rfl (by simp [one, withinV, whenV, h1]) (sub_refl _)
 · refine E.reg hr (by simp [h1, oneF_guard, yieldedA, g114]; rfl) ?_
   refine E.ret ?_
   exact pureK.ret rfl rfl (by simp [one, withinV, whenV, h1]) (sub_refl _)
end Go.Proofs.YtndlfijfjglkdaaGreatDoor

namespace Go.Proofs.YtndlfijfjglkdaaGreatDoor
open Go Go.Ab Go.Proofs
def firstV : List Int → Int
 | [] => 0
 | e :: l => if e = 0 then firstV l else e
theorem w113 (l : List Int) (o c : Nat) (hl : l.length < 2 ^ 31) : AC Tryz.prog 113 [.slice (some ⟨10, o, none⟩) l.length c] [(10, .inp o (l.map iv))] 11 (iv (firstV l)) [(10, .inp o (l.map iv))] 11 := by
 have hr := recT_ok (P := Tryz.prog) (l := []) (by simp)
 refine AC.pure Tryz.func113 rfl (by kernel_rfl) rfl [5, 6, 7] rfl ?_
 refine E.seq ?_
 refine E.reg hr (by simp [argsFr, Tryz.f113]; rfl) ?_
 refine E.seq ?_
 refine E.seq ?_
 refine E.reg hr (by simp [opBuiltin, builtinA]; rfl) ?_
 refine E.block ?_
 refine E.loop ?_
 refine EL.ind (fun i : Nat => { fr := [(5, .slice (some ⟨10, o, none⟩) l.length c), (6, iv l.length), (7, iv i)], sz := 15, H := [(10, .inp o (l.map iv))], n := 11, marks := [], vs := [5, 6, 7] }) (fun i => l.length - i) (fun i => i ≤ l.length ∧ firstV (l.drop i) = firstV l) 0 (.less rfl rfl rfl (by simp) (by simp)) ⟨Nat.zero_le _, rfl⟩ (fun _ => rfl) ?_
 intro i ⟨hi, hg⟩
 refine E.seq ?_
 refine E.reg hr (by simp; rfl) ?_
 refine E.seq ?_
 refine E.cond (by rfl) (fun h => ?_) (fun h => ?_)
 · simp at h
   refine E.skip ?_
   refine E.seq ?_
   refine E.block ?_
   refine E.seq ?_
   refine E.reg hr (by simp [opIndexaddr, Tryz.underlying206, flat, h, loadA, cellA]; rfl) ?_
   refine E.seq ?_
   refine E.reg hr (by simp; rfl) ?_
   refine E.cond (by rfl) (fun h2 => ?_) (fun h2 => ?_)
   · simp at h2
     refine E.seq ?_
     refine E.reg hr (by simp; rfl) ?_
     refine E.ret ?_
     refine pureK.ret rfl rfl ?_ (sub_refl _)
     rw [List.drop_eq_getElem_cons h] at hg
     simp [one, ← hg, firstV, h2]
   · simp at h2
     refine E.skip ?_
     have hw : IntKind.i64.wrap ((i : Int) + 1) = (i : Int) + 1 := W_in (by omega) (by omega)
     refine E.reg hr (by simp [hw]; rfl) ?_
     rw [List.drop_eq_getElem_cons h] at hg
     exact ⟨i + 1, .less rfl rfl rfl (by simp) (by simp), ⟨h, by rw [← hg]; simp [firstV, h2]⟩, by dsimp only; omega⟩
 · simp at h
   refine E.exit ?_
   refine E.seq ?_
   refine E.reg hr (by simp; rfl) ?_
   refine E.ret ?_
   have : l.drop i = [] := by simp; omega
   refine pureK.ret rfl rfl ?_ (sub_refl _)
   simp [one, ← hg, this, firstV]
end Go.Proofs.YtndlfijfjglkdaaGreatDoor

namespace Go.Proofs.YtndlfijfjglkdaaGreatDoor
open Go Go.Ab Go.Proofs
def g138 (args : List Value) (H : Heap) (n : Nat) : R := match args with
 | [.int .i64 a, .int .i64 b, .int .i64 c] => some (.int .i64 (withinV a b c), H, n)
 | _ => none
theorem ok138 : EntOk Tryz.prog (138, g138) := by
 intro args H n v H' n' h
 simp only [g138] at h
 split at h
 · injection h with h; injection h with e1 e2; injection e2 with e2 e3; subst e1 e2 e3
   exact AC.liftP rfl (Part.plain (by simp) [] (by simp [Seen]) gsz ⟨_, _, w138 _ _ _⟩)
 · cases h
def intsOf : List Value → Option (List Int)
 | [] => some []
 | .int .i64 n :: vs => (intsOf vs).map (n :: ·)
 | _ => none
theorem intsOf_ok : ∀ (cs : List Value) (l : List Int), intsOf cs = some l → cs = l.map iv
 | [], l, h => by simp [intsOf] at h; subst h; rfl
 | c :: cs, l, h => by
   unfold intsOf at h
   split at h
   · rename_i h1; cases h1
   · rename_i n vs h1
     injection h1 with h1 h2; subst h1 h2
     rw [Option.map_eq_some_iff] at h
     obtain ⟨l', h2, h3⟩ := h
     subst h3
     rw [intsOf_ok _ _ h2]; rfl
   · cases h
def intsAt (H : Heap) (a : Addr) (len : Nat) : Option (List Int) := if flat a && Nat.blt len 2147483648 then (cellsA H a.block a.off len).bind intsOf else none
theorem intsAt_ok {H : Heap} {a : Addr} {len : Nat} {l : List Int} (h : intsAt H a len = some l) : flat a = true ∧ cellsA H a.block a.off len = some (l.map iv) ∧ l.length = len ∧ l.length < 2 ^ 31 := by
 unfold intsAt at h
 split at h
 · rename_i hf
   rw [Bool.and_eq_true] at hf
   rw [Option.bind_eq_some_iff] at h
   obtain ⟨cs, h1, h2⟩ := h
   have h3 := intsOf_ok _ _ h2
   subst h3
   have h4 := (cellsA_at h1).1
   rw [List.length_map] at h4
   exact ⟨hf.1, h1, h4, by have := (blt_iff _ _).1 hf.2; omega⟩
 · cases h
def g113 (args : List Value) (H : Heap) (n : Nat) : R := match args with
 | [.slice (some a) len _] => (intsAt H a len).map fun l => (iv (firstV l), H, n)
 | _ => none
theorem ok113 : EntOk Tryz.prog (113, g113) := by
 intro args H n v H' n' h
 simp only [g113] at h
 split at h
 · rename_i a len c
   rw [Option.map_eq_some_iff] at h
   obtain ⟨l, h1, h⟩ := h
   injection h with e1 e2; injection e2 with e2 e3; subst e1 e2 e3
   obtain ⟨hf, hc, hlen, hlt⟩ := intsAt_ok h1
   subst hlen
   exact AC.liftP rfl (Part.one (fun s => [s]) (by intro φ φ0 s s0 h; simp [denL, h]) (by intro p s h; exact ⟨h, trivial⟩) hf hc (afL_iv l) [] (by simp [Seen]) gsz fun c => ⟨_, _, w113 l _ c hlt⟩)
 · cases h
end Go.Proofs.YtndlfijfjglkdaaGreatDoor

namespace Go.Proofs.YtndlfijfjglkdaaGreatDoor
open Go Go.Ab Go.Proofs
end Go.Proofs.YtndlfijfjglkdaaGreatDoor

namespace Go.Proofs.YtndlfijfjglkdaaGreatDoor
open Go Go.Ab Go.Proofs
theorem firstV_zero : ∀ l : List Int, firstV l = 0 ↔ ∀ e ∈ l, e = 0
 | [] => by simp [firstV]
 | x :: l => by
   simp only [firstV, List.mem_cons, forall_eq_or_imp]
   split
   · rename_i h; simp [h, firstV_zero l]
   · rename_i h; simp [h]
theorem withinV_zero (a lo hi : Int) : withinV a lo hi = 0 ↔ lo ≤ a ∧ a ≤ hi := by
 unfold withinV; split <;> omega
end Go.Proofs.YtndlfijfjglkdaaGreatDoor

namespace Go.Proofs.YtndlfijfjglkdaaGreatDoor
open Go Go.Ab Go.Proofs
theorem w28 (b : Bool) (e : Int) : AC Tryz.prog 28 [.bool b, .int .i64 e] [] 10 (.int .i64 (whenV b e)) [] 10 := by
 have hr := recT_ok (P := Tryz.prog) (l := []) (by simp)
 refine AC.pure Tryz.func28 rfl (by kernel_rfl) rfl [] rfl ?_
 refine E.seq ?_
 refine E.reg hr (by simp; rfl) ?_
 refine E.seq ?_
 refine E.seq ?_
 refine E.reg hr (by simp; rfl) ?_
 refine E.cond (by rfl) (fun h => ?_) (fun h => ?_)
 · refine E.seq ?_
   refine E.reg hr (by simp; rfl) ?_
   refine E.ret ?_
   exact pureK.ret rfl rfl (by simp [whenV, h]) (sub_refl _)
 · refine E.skip ?_
   refine E.seq ?_
   refine E.reg hr (by simp; rfl) ?_
   refine E.ret ?_
   exact pureK.ret rfl rfl (by simp [whenV, h]) (sub_refl _)
theorem ok28 : EntOk Tryz.prog (28, g114) := by
 intro args H n v H' n' h
 simp only [g114] at h
 split at h
 · rename_i b e
   injection h with h; injection h with e1 e2; injection e2 with e2 e3; subst e1 e2 e3
   exact AC.liftP rfl (Part.plain (by simp) [] (by simp [Seen]) gsz ⟨_, _, w28 b e⟩)
 · cases h
theorem w62 (a lo hi : Int) : AC Tryz.prog 62 [.int .i64 a, .int .i64 lo, .int .i64 hi] [] 10 (.int .i64 (withinV a lo hi)) [] 10 := by
 have hr := recT_ok (P := Tryz.prog) (l := [(28, g114)]) (by simp [ok28])
 refine AC.pure Tryz.func62 rfl (by kernel_rfl) rfl [] rfl ?_
 refine E.seq ?_
 refine E.reg hr (by simp; rfl) ?_
 refine E.seq ?_
 by_cases h1 : a < lo
 · refine E.reg hr (by simp [h1, g114]; rfl) ?_
   refine E.ret ?_
   exact pureK.ret rfl rfl (by simp [withinV, whenV, h1]) (sub_refl _)
 · refine E.reg hr (by simp [h1, g114]; rfl) ?_
   refine E.ret ?_
   exact pureK.ret rfl rfl (by simp [withinV, whenV, h1]) (sub_refl _)
theorem ok62 : EntOk Tryz.prog (62, g138) := by
 intro args H n v H' n' h
 simp only [g138] at h
 split at h
 · injection h with h; injection h with e1 e2; injection e2 with e2 e3; subst e1 e2 e3
   exact AC.liftP rfl (Part.plain (by simp) [] (by simp [Seen]) gsz ⟨_, _, w62 _ _ _⟩)
 · cases h
theorem w27 (l : List Int) (o c : Nat) (hl : l.length < 2 ^ 31) : AC Tryz.prog 27 [.slice (some ⟨10, o, none⟩) l.length c] [(10, .inp o (l.map iv))] 11 (iv (firstV l)) [(10, .inp o (l.map iv))] 11 := by
 have hr := recT_ok (P := Tryz.prog) (l := []) (by simp)
 refine AC.pure Tryz.func27 rfl (by kernel_rfl) rfl [0, 3] rfl ?_
 refine E.seq ?_
 refine E.reg hr (by simp; rfl) ?_
 refine E.seq ?_
 refine E.seq ?_
 refine E.reg hr (by simp; rfl) ?_
 refine E.block ?_
 refine E.loop ?_
 refine EL.ind (fun i : Nat => { fr := [(0, .slice (some ⟨10, o, none⟩) l.length c), (3, iv i)], sz := 19, H := [(10, .inp o (l.map iv))], n := 11, marks := [], vs := [0, 3] }) (fun i => l.length - i) (fun i => i ≤ l.length ∧ firstV (l.drop i) = firstV l) 0 (.less rfl rfl rfl (by simp) (by simp)) ⟨Nat.zero_le _, rfl⟩ (fun _ => rfl) ?_
 intro i ⟨hi, hg⟩
 refine E.seq ?_
 refine E.seq ?_
 refine E.reg hr (by simp; rfl) ?_
 refine E.cond (by rfl) (fun h => ?_) (fun h => ?_)
 · simp at h
   refine E.skip ?_
   refine E.seq ?_
   refine E.block ?_
   refine E.seq ?_
   refine E.reg hr (by simp [h]; rfl) ?_
   refine E.cond (by rfl) (fun h2 => ?_) (fun h2 => ?_)
   · simp at h2
     refine E.seq ?_
     refine E.reg hr (by simp [h]; rfl) ?_
     refine E.ret ?_
     refine pureK.ret rfl rfl ?_ (sub_refl _)
     rw [List.drop_eq_getElem_cons h] at hg
     simp [← hg, firstV, h2]
   · simp at h2
     refine E.skip ?_
     have hw : IntKind.i64.wrap ((i : Int) + 1) = (i : Int) + 1 := W_in (by omega) (by omega)
     refine E.reg hr (by simp [hw]; rfl) ?_
     rw [List.drop_eq_getElem_cons h] at hg
     exact ⟨i + 1, .less rfl rfl rfl (by simp) (by simp), ⟨h, by rw [← hg]; simp [firstV, h2]⟩, by dsimp only; omega⟩
 · simp at h
   refine E.exit ?_
   refine E.seq ?_
   refine E.reg hr (by simp; rfl) ?_
   refine E.ret ?_
   have : l.drop i = [] := by simp; omega
   refine pureK.ret rfl rfl ?_ (sub_refl _)
   simp [← hg, this, firstV]
theorem ok27 : EntOk Tryz.prog (27, g113) := by
 intro args H n v H' n' h
 simp only [g113] at h
 split at h
 · rename_i a len c
   rw [Option.map_eq_some_iff] at h
   obtain ⟨l, h1, h⟩ := h
   injection h with e1 e2; injection e2 with e2 e3; subst e1 e2 e3
   obtain ⟨hf, hc, hlen, hlt⟩ := intsAt_ok h1
   subst hlen
   exact AC.liftP rfl (Part.one (fun s => [s]) (by intro φ φ0 s s0 h; simp [denL, h]) (by intro p s h; exact ⟨h, trivial⟩) hf hc (afL_iv l) [] (by simp [Seen]) gsz fun c => ⟨_, _, w27 l _ c hlt⟩)
 · cases h
end Go.Proofs.YtndlfijfjglkdaaGreatDoor

namespace Go.Proofs.YtndlfijfjglkdaaGreatDoor
open Go Go.Ab Go.Proofs
end Go.Proofs.YtndlfijfjglkdaaGreatDoor

namespace Go.Proofs.YtndlfijfjglkdaaGreatDoor
open Go Go.Ab Go.Proofs
end Go.Proofs.YtndlfijfjglkdaaGreatDoor

namespace Go.Proofs.YtndlfijfjglkdaaGreatDoor
open Go Go.Ab Go.Proofs
end Go.Proofs.YtndlfijfjglkdaaGreatDoor

namespace Go.Ab
open Go
end Go.Ab

namespace Go.Proofs.YtndlfijfjglkdaaGreatDoor
open Go Go.Ab Go.Proofs
abbrev g1 (F : Int → Int) (args : List Value) (H : Heap) (n : Nat) : R := match args with | [.int .i64 a] => some (iv (F a), H, n) | _ => none
theorem okInt1 {f : FuncId} {F : Int → Int} (h : ∀ a, AC Tryz.prog f [iv a] [] 10 (iv (F a)) [] 10) : EntOk Tryz.prog (f, g1 F) := by
 intro args H n v H' n' h'
 simp only [g1] at h'
 split at h'
 · injection h' with h'; injection h' with e1 e2; injection e2 with e2 e3; subst e1 e2 e3
   exact AC.liftP rfl (Part.plain (by simp) [] (by simp [Seen]) gsz ⟨_, _, h _⟩)
 · cases h'
theorem w124 (a : Int) : AC Tryz.prog 124 [iv a] [] 10 (iv (withinV a 1 64)) [] 10 := by
 have hr := recT_ok (P := Tryz.prog) (l := [(138, g138)]) (by simp [ok138])
 refine AC.pure Tryz.func124 rfl (by kernel_rfl) rfl [] rfl ?_
 refine E.seq ?_
 refine E.reg hr (by simp; rfl) ?_
 refine E.seq ?_
 refine E.reg hr (by simp [g138]; rfl) ?_
 refine E.ret ?_
 exact pureK.ret rfl rfl (by simp) (sub_refl _)
theorem w125 (a : Int) : AC Tryz.prog 125 [iv a] [] 10 (iv (withinV a 0 4)) [] 10 := by
 have hr := recT_ok (P := Tryz.prog) (l := [(138, g138)]) (by simp [ok138])
 refine AC.pure Tryz.func125 rfl (by kernel_rfl) rfl [] rfl ?_
 refine E.seq ?_
 refine E.reg hr (by simp; rfl) ?_
 refine E.seq ?_
 refine E.reg hr (by simp [g138]; rfl) ?_
 refine E.ret ?_
 exact pureK.ret rfl rfl (by simp) (sub_refl _)
theorem w36 (a : Int) : AC Tryz.prog 36 [iv a] [] 10 (iv (withinV a 0 4)) [] 10 := by
 have hr := recT_ok (P := Tryz.prog) (l := [(62, g138)]) (by simp [ok62])
 refine AC.pure Tryz.func36 rfl (by kernel_rfl) rfl [] rfl ?_
 refine E.seq ?_
 refine E.reg hr (by simp; rfl) ?_
 refine E.seq ?_
 refine E.reg hr (by simp [g138]; rfl) ?_
 refine E.ret ?_
 exact pureK.ret rfl rfl (by simp) (sub_refl _)
theorem ok124 : EntOk Tryz.prog (124, g1 fun a => withinV a 1 64) := okInt1 w124
theorem ok125 : EntOk Tryz.prog (125, g1 fun a => withinV a 0 4) := okInt1 w125
theorem ok36 : EntOk Tryz.prog (36, g1 fun a => withinV a 0 4) := okInt1 w36
end Go.Proofs.YtndlfijfjglkdaaGreatDoor

namespace Go.Proofs.YtndlfijfjglkdaaGreatDoor
open Go Go.Ab Go.Proofs
section
variable {P : Program} {t : TypeId} {x y : Operand} {a b : Int} {H : Heap} {n : Nat}
@[simp] theorem bin_leq8 : binV P .leq t x y (.int .u8 a) (.int .u8 b) H n = some (.bool (decide (a ≤ b)), H, n) := rfl
@[simp] theorem bin_neq8 : binV P .neq t x y (.int .u8 a) (.int .u8 b) H n = some (.bool (!decide (a = b)), H, n) := rfl
@[simp] theorem bin_leq32 : binV P .leq t x y (.int .i32 a) (.int .i32 b) H n = some (.bool (decide (a ≤ b)), H, n) := rfl
@[simp] theorem bin_eql32 : binV P .eql t x y (.int .i32 a) (.int .i32 b) H n = some (.bool (decide (a = b)), H, n) := rfl
end
def letterB (b : Int) : Bool := (decide (65 ≤ b) && decide (b ≤ 90)) || (decide (97 ≤ b) && decide (b ≤ 122))
def digitB (b : Int) : Bool := decide (48 ≤ b) && decide (b ≤ 57)
abbrev g8 (F : Int → Bool) (args : List Value) (H : Heap) (n : Nat) : R := match args with | [.int .u8 a] => some (.bool (F a), H, n) | _ => none
theorem ok8 {f : FuncId} {F : Int → Bool} (h : ∀ a, AC Tryz.prog f [.int .u8 a] [] 10 (.bool (F a)) [] 10) : EntOk Tryz.prog (f, g8 F) := by
 intro args H n v H' n' h'
 simp only [g8] at h'
 split at h'
 · injection h' with h'; injection h' with e1 e2; injection e2 with e2 e3; subst e1 e2 e3
   exact AC.liftP rfl (Part.plain (by simp) [] (by simp [Seen]) gsz ⟨_, _, h _⟩)
 · cases h'
theorem w234 (b : Int) : AC Tryz.prog 234 [.int .u8 b] [] 10 (.bool (letterB b)) [] 10 := by
 have hr := recT_ok (P := Tryz.prog) (l := []) (by simp)
 refine AC.pure Tryz.func234 rfl (by kernel_rfl) rfl [] rfl ?_
 refine E.seq ?_
 refine E.reg hr (by simp; rfl) ?_
 refine E.seq ?_
 by_cases h1 : 65 ≤ b <;> by_cases h2 : b ≤ 90 <;> by_cases h3 : 97 ≤ b <;> by_cases h4 : b ≤ 122 <;>
   (refine E.reg hr (by simp [h1, h2, h3, h4]; rfl) ?_
    refine E.ret ?_
    exact pureK.ret rfl rfl (by simp [letterB, h1, h2, h3, h4]) (sub_refl _))
theorem ok234 : EntOk Tryz.prog (234, g8 letterB) := ok8 w234
theorem w235 (b : Int) : AC Tryz.prog 235 [.int .u8 b] [] 10 (.bool (digitB b)) [] 10 := by
 have hr := recT_ok (P := Tryz.prog) (l := []) (by simp)
 refine AC.pure Tryz.func235 rfl (by kernel_rfl) rfl [] rfl ?_
 refine E.seq ?_
 refine E.reg hr (by simp; rfl) ?_
 refine E.seq ?_
 by_cases h1 : 48 ≤ b <;> by_cases h2 : b ≤ 57 <;>
   (refine E.reg hr (by simp [h1, h2]; rfl) ?_
    refine E.ret ?_
    exact pureK.ret rfl rfl (by simp [digitB, h1, h2]) (sub_refl _))
theorem ok235 : EntOk Tryz.prog (235, g8 digitB) := ok8 w235
theorem runP_und {α : Type} {P : Program} {t : TypeId} {d : TypeDesc} {f : TypeDesc → Sem α} (h : P.underlying t = some d) : runP P (Sem.bind (underlying t) f) = runP P (f d) := by
 show runP P (Sem.bind (match P.underlying t with | some d => _ | none => _) f) = _
 rw [h]
 rfl
theorem runP_bind {α β : Type} {P : Program} (a : Sem α) (g : α → Sem β) : runP P (Sem.bind a g) = (runP P a).bind fun x => runP P (g x) := by
 induction a with
 | program k ih => exact ih P
 | mark m k ih => exact ih
 | _ => rfl
@[simp] theorem len_str {s : ByteArray} {o : Bool} : runP Tryz.prog (Go.builtin .len #[9] 3 #[o] #[.string s]) = some (.value (iv s.size)) := by
 show runP Tryz.prog (Sem.bind (Sem.bind (underlying 9) _) _) = _
 rw [runP_bind, runP_und Tryz.underlying9]
 rfl
def byteB (s : ByteArray) (i : Nat) : Int := (s.get! i).toNat
theorem index_str {s : ByteArray} {j : Int} (h0 : 0 ≤ j) (h1 : j < s.size) : runP Tryz.prog (Instr.index 9 (.string s) (.int .i64 j)) = some (.int .u8 (byteB s j.toNat)) := by
 have hlt : j.toNat < s.size := by omega
 have hb : s[j.toNat]? = some (s.get! j.toNat) := by
   rw [getElem?_pos s j.toNat hlt]
   simp [ByteArray.get!, getElem!_pos, hlt]
   rfl
 have h2 : (if 0 ≤ j then s[j.toNat]? else none) = some (s.get! j.toNat) := by rw [if_pos h0, hb]
 show runP Tryz.prog (Sem.bind (underlying 9) _) = _
 rw [runP_und Tryz.underlying9]
 dsimp only [iv]
 rw [h2]
 rfl
theorem decode_low {s : ByteArray} {i : Nat} (h : byteB s i < 128) : Utf8.decode s i = ((byteB s i).toNat, 1) := by
 have : (s.get! (i + 0)).toNat < 128 := by unfold byteB at h; rw [Nat.add_zero]; omega
 unfold Utf8.decode
 simp only
 rw [if_pos this]
 simp [byteB]
theorem decode_high {s : ByteArray} {i : Nat} (h : ¬ byteB s i < 128) : 128 ≤ (Utf8.decode s i).1 ∧ 1 ≤ (Utf8.decode s i).2 := by
 have : ¬ (s.get! (i + 0)).toNat < 128 := by unfold byteB at h; rw [Nat.add_zero]; omega
 unfold Utf8.decode
 simp only
 rw [if_neg this]
 repeat' split
 all_goals first | (constructor <;> simp_all <;> omega) | (simp [Utf8.runeError])
end Go.Proofs.YtndlfijfjglkdaaGreatDoor

namespace Go.Proofs.YtndlfijfjglkdaaGreatDoor
open Go Go.Ab Go.Proofs
def partB (b : Int) : Bool := letterB b || digitB b || decide (b = 95)
def okAt (s : ByteArray) (j : Nat) : Bool := if j = 0 then letterB (byteB s j) else partB (byteB s j)
def nameB (s : ByteArray) : Bool := decide (s.size ≠ 0) && decide (s.size ≤ 24) && (List.range s.size).all (okAt s)
theorem nameB_true {s : ByteArray} (h0 : s.size ≠ 0) (h1 : s.size ≤ 24) (h : ∀ j, j < s.size → okAt s j = true) : nameB s = true := by
 unfold nameB
 simp [h0, h1]
 exact h
theorem nameB_false {s : ByteArray} {j : Nat} (hj : j < s.size) (h : okAt s j = false) : nameB s = false := by
 unfold nameB
 have : (List.range s.size).all (okAt s) = false := by
   rw [List.all_eq_false]
   exact ⟨j, by simpa using hj, by simp [h]⟩
 rw [this, Bool.and_false]
set_option maxRecDepth 100000 in
theorem w189 (s : ByteArray) : AC Tryz.prog 189 [sv s] [] 10 (.bool (nameB s)) [] 10 := by
 have hr := recT_ok (P := Tryz.prog) (l := [(234, g8 letterB), (235, g8 digitB)]) (by simp only [List.forall_mem_cons]; exact ⟨ok234, ok235, by simp⟩)
 refine AC.pure Tryz.func189 rfl (by kernel_rfl) rfl [0, 3] rfl ?_
 refine E.seq ?_
 refine E.reg hr (by simp; rfl) ?_
 refine E.seq ?_
 refine E.seq ?_
 by_cases hz : s.size = 0
 · refine E.reg hr (by simp [hz]; rfl) ?_
   refine E.cond (by rfl) (fun h => ?_) (fun h => ?_)
   rotate_left
   · simp at h
   refine E.seq ?_
   refine E.reg hr (by simp; rfl) ?_
   refine E.ret ?_
   exact pureK.ret rfl rfl (by simp [nameB, hz]) (sub_refl _)
 by_cases h24 : (24 : Int) < (s.size : Int)
 · refine E.reg hr (by simp [hz, h24]; rfl) ?_
   refine E.cond (by rfl) (fun h => ?_) (fun h => ?_)
   rotate_left
   · simp at h
   refine E.seq ?_
   refine E.reg hr (by simp; rfl) ?_
   refine E.ret ?_
   exact pureK.ret rfl rfl (by simp [nameB, show ¬ s.size ≤ 24 by omega]) (sub_refl _)
 by_cases hl : letterB (byteB s 0) = true
 rotate_left
 · refine E.reg hr (by simp [hz, h24, index_str (s := s) (j := 0) (by omega) (by omega), g8, hl]; rfl) ?_
   refine E.cond (by rfl) (fun h => ?_) (fun h => ?_)
   rotate_left
   · simp at h
   refine E.seq ?_
   refine E.reg hr (by simp; rfl) ?_
   refine E.ret ?_
   exact pureK.ret rfl rfl (by simp [nameB_false (j := 0) (s := s) (by omega) (by simp [okAt, hl])]) (sub_refl _)
 refine E.reg hr (by simp [hz, h24, index_str (s := s) (j := 0) (by omega) (by omega), g8, hl]; rfl) ?_
 refine E.cond (by rfl) (fun h => ?_) (fun h => ?_)
 · simp at h
 refine E.skip ?_
 refine E.seq ?_
 refine E.seq ?_
 refine E.reg hr (by simp; rfl) ?_
 refine E.block ?_
 refine E.loop ?_
 refine EL.ind (fun i : Nat => { fr := [(0, sv s), (3, iv i)], sz := 42, H := [], n := 10, marks := [], vs := [0, 3] }) (fun i => s.size - i) (fun i => i ≤ s.size ∧ 1 ≤ i ∧ ∀ j, j < i → okAt s j = true) 1 (.less rfl rfl rfl (by simp) (by simp)) ⟨by omega, by omega, fun j hj => by rw [show j = 0 by omega]; simp [okAt, hl]⟩ (fun _ => rfl) ?_
 intro i ⟨hi, h1, hg⟩
 have hw : IntKind.i64.wrap ((i : Int) + 1) = (i : Int) + 1 := W_in (by omega) (by omega)
 refine E.seq ?_
 refine E.seq ?_
 refine E.reg hr (by simp; rfl) ?_
 refine E.cond (by rfl) (fun h => ?_) (fun h => ?_)
 · simp at h
   refine E.skip ?_
   refine E.seq ?_
   refine E.block ?_
   refine E.seq ?_
   by_cases hp : partB (byteB s i) = true
   · have hok : okAt s i = true := by simp [okAt, show i ≠ 0 by omega, hp]
     have hx := index_str (s := s) (j := (i : Int)) (by omega) (by omega)
     simp [partB] at hp
     by_cases a1 : letterB (byteB s i) = true
     · refine E.reg hr (by simp [hx, g8, a1]; rfl) ?_
       refine E.cond (by rfl) (fun h9 => ?_) (fun h9 => ?_)
       · simp at h9
       refine E.skip ?_
       refine E.reg hr (by simp [hw]; rfl) ?_
       exact ⟨i + 1, .less rfl rfl rfl (by simp) (by simp), ⟨h, by omega, fun j hj => if e : j = i then e ▸ hok else hg j (by omega)⟩, by dsimp only; omega⟩
     by_cases a2 : digitB (byteB s i) = true
     · refine E.reg hr (by simp [hx, g8, a1, a2]; rfl) ?_
       refine E.cond (by rfl) (fun h9 => ?_) (fun h9 => ?_)
       · simp at h9
       refine E.skip ?_
       refine E.reg hr (by simp [hw]; rfl) ?_
       exact ⟨i + 1, .less rfl rfl rfl (by simp) (by simp), ⟨h, by omega, fun j hj => if e : j = i then e ▸ hok else hg j (by omega)⟩, by dsimp only; omega⟩
     have a3 : byteB s i = 95 := by simpa [a1, a2] using hp
     · refine E.reg hr (by simp [hx, g8, a3, show letterB 95 = false from rfl, show digitB 95 = false from rfl]; rfl) ?_
       refine E.cond (by rfl) (fun h9 => ?_) (fun h9 => ?_)
       · simp at h9
       refine E.skip ?_
       refine E.reg hr (by simp [hw]; rfl) ?_
       exact ⟨i + 1, .less rfl rfl rfl (by simp) (by simp), ⟨h, by omega, fun j hj => if e : j = i then e ▸ hok else hg j (by omega)⟩, by dsimp only; omega⟩
   · have hok : okAt s i = false := by simp [okAt, show i ≠ 0 by omega, hp]
     have hx := index_str (s := s) (j := (i : Int)) (by omega) (by omega)
     simp [partB] at hp
     obtain ⟨⟨a1, a2⟩, a3⟩ := hp
     refine E.reg hr (by simp [hx, g8, a1, a2, a3]; rfl) ?_
     refine E.cond (by rfl) (fun h => ?_) (fun h => ?_)
     rotate_left
     · simp at h
     refine E.seq ?_
     refine E.reg hr (by simp; rfl) ?_
     refine E.ret ?_
     exact pureK.ret rfl rfl (by simp [nameB_false (j := i) (s := s) (by omega) hok]) (sub_refl _)
 · simp at h
   refine E.exit ?_
   refine E.seq ?_
   refine E.reg hr (by simp; rfl) ?_
   refine E.ret ?_
   exact pureK.ret rfl rfl (by simp [nameB_true (s := s) hz (by omega) fun j hj => hg j (by omega)]) (sub_refl _)
end Go.Proofs.YtndlfijfjglkdaaGreatDoor

namespace Go.Proofs.YtndlfijfjglkdaaGreatDoor
open Go Go.Ab Go.Proofs
@[simp] theorem run_next {P : Program} {r : Rec} {st : St} {dst ty ps af g} {it : Operand} : runOp P r ⟨dst, .next it true, ty, ps, af, g⟩ st = opNext P it st.fr st.H st.n := rfl
theorem E.regL {P : Program} {r : Rec} {m n0 : Nat} {ro : Option Nat} (hr : RecOk P r m) {id : Nat} {ops : Array Oper} {st : St} {b : Code} {K : Ex → St → Prop} (s2 : St) (h : ∃ st', opsF P r ops ops.toList st = some st' ∧ Leads P n0 st' s2) (k : E P n0 ro b s2 K) : E P n0 ro (.region id ops false) st (seqK P n0 ro b K) := by
 obtain ⟨st', h1, h2⟩ := h
 exact E.reg hr h1 (E.lead s2 h2 k)
theorem byteB_bounds (s : ByteArray) (i : Nat) : 0 ≤ byteB s i ∧ byteB s i ≤ 255 := by
 unfold byteB
 have := (s.get! i).toNat_lt
 omega
def runeB (s : ByteArray) (i : Nat) : Int := (Utf8.decode s i).1
theorem rune_part (s : ByteArray) (i : Nat) : letterB (runeB s i) = letterB (byteB s i) ∧ digitB (runeB s i) = digitB (byteB s i) ∧ (runeB s i = 95 ↔ byteB s i = 95) ∧ (byteB s i < 128 → (Utf8.decode s i).2 = 1) := by
 have hb := byteB_bounds s i
 by_cases h : byteB s i < 128
 · have e : runeB s i = byteB s i := by unfold runeB; rw [decode_low h]; dsimp only; omega
   rw [e]
   exact ⟨rfl, rfl, Iff.rfl, fun _ => by rw [decode_low h]⟩
 · obtain ⟨h1, h2⟩ := decode_high h
   have e : 128 ≤ runeB s i := by unfold runeB; omega
   refine ⟨?_, ?_, by omega, fun h' => absurd h' h⟩
   · have a1 : ¬ runeB s i ≤ 90 := by omega
     have a2 : ¬ runeB s i ≤ 122 := by omega
     have a3 : ¬ byteB s i ≤ 90 := by omega
     have a4 : ¬ byteB s i ≤ 122 := by omega
     simp [letterB, a1, a2, a3, a4]
   · have a1 : ¬ runeB s i ≤ 57 := by omega
     have a3 : ¬ byteB s i ≤ 57 := by omega
     simp [digitB, a1, a3]
theorem part_low {s : ByteArray} {i : Nat} (h : okAt s i = true) : byteB s i < 128 := by
 unfold okAt partB letterB digitB at h
 split at h <;> simp at h <;> omega
theorem str_eq (a b : ByteArray) : (a.toList == b.toList) = decide (a = b) := by
 rw [ByteArray.toList_eq, ByteArray.toList_eq]
 by_cases h : a = b
 · simp [h]
 · rw [decide_eq_false h]
   refine beq_eq_false_iff_ne.2 fun e => h ?_
   cases a; cases b
   simp at e
   simp [e]
section
variable {P : Program} {t : TypeId} {x y : Operand} {H : Heap} {n : Nat} {a b : ByteArray}
@[simp] theorem bin_eqls : binV P .eql t x y (.string a) (.string b) H n = some (.bool (decide (a = b)), H, n) := by
 have h : binV P .eql t x y (.string a) (.string b) H n = some (.bool (a.toList == b.toList), H, n) := rfl
 rw [h, str_eq]
@[simp] theorem bin_neqs : binV P .neq t x y (.string a) (.string b) H n = some (.bool (!decide (a = b)), H, n) := by
 have h : binV P .neq t x y (.string a) (.string b) H n = some (.bool (!(a.toList == b.toList)), H, n) := rfl
 rw [h, str_eq]
end
theorem str_empty (s : ByteArray) : (s = (⟨#[]⟩ : ByteArray)) ↔ s.size = 0 := ByteArray.size_eq_zero_iff.symm
set_option maxRecDepth 100000 in
theorem w121 (s : ByteArray) : AC Tryz.prog 121 [sv s] [] 10 (.bool (nameB s)) [] 10 := by
 have hr := recT_ok (P := Tryz.prog) (l := []) (by simp)
 refine AC.pure Tryz.func121 rfl (by kernel_rfl) rfl [0, 8] rfl ?_
 refine E.seq ?_
 refine E.reg hr (by simp; rfl) ?_
 refine E.seq ?_
 refine E.seq ?_
 refine E.reg hr (by simp; rfl) ?_
 refine E.block ?_
 refine E.loop ?_
 refine EL.ind (fun i : Nat => { fr := [(0, sv s), (8, .pointer (some ⟨10, 0, none⟩))], sz := 54, H := [(10, .iter s i)], n := 11, marks := [], vs := [0, 8] }) (fun i => s.size - i) (fun i => i ≤ s.size ∧ ∀ j, j < i → okAt s j = true) 0 (.less rfl rfl rfl (by simp) (by simp)) ⟨Nat.zero_le _, fun j hj => absurd hj (by omega)⟩ (fun _ => rfl) ?_
 intro i ⟨hi, hg⟩
 obtain ⟨e1, e2, e3, e4⟩ := rune_part s i
 refine E.seq ?_
 by_cases h : i < s.size
 · refine E.reg hr (by simp [opNext, h]; rfl) ?_
   refine E.seq ?_
   refine E.cond (by rfl) (fun h9 => ?_) (fun h9 => ?_)
   rotate_left
   · simp at h9
   refine E.skip ?_
   refine E.block ?_
   refine E.seq ?_
   have hru : ((Utf8.decode s i).1 : Int) = runeB s i := rfl
   refine E.regL hr { fr := [(3, iv i), (4, .int .i32 (runeB s i)), (0, sv s), (8, .pointer (some ⟨10, 0, none⟩))], sz := 54, H := [(10, .iter s (i + (Utf8.decode s i).2))], n := 11, marks := [], vs := [0, 8] } ?_ ?_
   · (refine ⟨_, by simp; rfl, ?_⟩; exact .less rfl rfl rfl (by simp [hru]) (by simp))
   refine E.seq ?_
   refine E.regL hr { fr := [(5, .bool (letterB (runeB s i))), (3, iv i), (4, .int .i32 (runeB s i)), (0, sv s), (8, .pointer (some ⟨10, 0, none⟩))], sz := 54, H := [(10, .iter s (i + (Utf8.decode s i).2))], n := 11, marks := [], vs := [0, 8] } ?_ ?_
   · generalize runeB s i = b
     by_cases h1 : 65 ≤ b <;> by_cases h2 : b ≤ 90 <;> by_cases h3 : 97 ≤ b <;> by_cases h4 : b ≤ 122 <;>
       (refine ⟨_, by simp [h1, h2, h3, h4, undefV]; rfl, ?_⟩; exact .less rfl rfl rfl (by simp [letterB, h1, h2, h3, h4]) (by simp))
   refine E.seq ?_
   refine E.regL hr { fr := [(6, .bool (digitB (runeB s i) || decide (runeB s i = 95))), (5, .bool (letterB (runeB s i))), (3, iv i), (4, .int .i32 (runeB s i)), (0, sv s), (8, .pointer (some ⟨10, 0, none⟩))], sz := 54, H := [(10, .iter s (i + (Utf8.decode s i).2))], n := 11, marks := [], vs := [0, 8] } ?_ ?_
   · generalize runeB s i = b
     by_cases h1 : 48 ≤ b <;> by_cases h2 : b ≤ 57 <;> by_cases h3 : b = 95 <;>
       (refine ⟨_, by simp [h1, h2, h3, undefV]; rfl, ?_⟩; exact .less rfl rfl rfl (by simp [digitB, h1, h2, h3]) (by simp))
   have hok : okAt s i = (letterB (runeB s i) || (!decide (i = 0) && (digitB (runeB s i) || decide (runeB s i = 95)))) := by
     rw [e1, e2]
     unfold okAt partB
     by_cases c0 : i = 0 <;> simp [c0, e3, Bool.or_assoc]
   refine E.seq ?_
   refine E.regL hr { fr := [(46, .bool (!okAt s i)), (0, sv s), (8, .pointer (some ⟨10, 0, none⟩))], sz := 54, H := [(10, .iter s (i + (Utf8.decode s i).2))], n := 11, marks := [], vs := [0, 8] } ?_ ?_
   · rw [hok]
     generalize letterB (runeB s i) = L
     generalize (digitB (runeB s i) || decide (runeB s i = 95)) = D
     generalize i + (Utf8.decode s i).2 = q
     by_cases c0 : i = 0 <;> cases L <;> cases D <;>
       (refine ⟨_, by simp [c0, undefV]; rfl, ?_⟩; exact .less rfl rfl rfl (by simp [c0]) (by simp))
   refine E.cond (by rfl) (fun h2 => ?_) (fun h2 => ?_)
   · simp at h2
     refine E.seq ?_
     refine E.reg hr (by simp; rfl) ?_
     refine E.ret ?_
     exact pureK.ret rfl rfl (by simp [nameB_false (j := i) (s := s) h h2]) (by repeat first | exact sub_refl _ | refine sub_cons rfl ?_)
   · simp at h2
     refine E.skip ?_
     have hlow := part_low h2
     exact ⟨i + 1, .less rfl rfl rfl (by simp) (by simp [e4 hlow]), ⟨by omega, fun j hj => if e : j = i then e ▸ h2 else hg j (by omega)⟩, by dsimp only; omega⟩
 · refine E.reg hr (by simp [opNext, h]; rfl) ?_
   refine E.seq ?_
   refine E.cond (by rfl) (fun h9 => ?_) (fun h9 => ?_)
   · simp at h9
   refine E.exit ?_
   refine E.seq ?_
   have hall : nameB s = (decide (s.size ≠ 0) && decide (s.size ≤ 24)) := by
     unfold nameB
     rw [show (List.range s.size).all (okAt s) = true from List.all_eq_true.2 fun j hj => hg j (by have := List.mem_range.1 hj; omega), Bool.and_true]
   refine E.regL hr { fr := [(2, .bool (nameB s))], sz := 54, H := [], n := 11, marks := [], vs := [0, 8] } ?_ ?_
   · by_cases hz : s.size = 0
     · refine ⟨_, by simp [str_empty, hz, undefV]; rfl, ?_⟩
       exact .less rfl rfl rfl (by simp [hall, hz]) (by simp)
     · refine ⟨_, by simp [str_empty, hz]; rfl, ?_⟩
       exact .less rfl rfl rfl (by simp [hall, hz]; omega) (by simp)
   refine E.ret ?_
   exact pureK.ret rfl rfl (by simp) (sub_refl _)
end Go.Proofs.YtndlfijfjglkdaaGreatDoor

namespace Go.Proofs.YtndlfijfjglkdaaGreatDoor
open Go Go.Ab Go.Proofs
abbrev gSB (F : ByteArray → Bool) (args : List Value) (H : Heap) (n : Nat) : R := match args with | [.string s] => some (.bool (F s), H, n) | _ => none
abbrev gSI (F : ByteArray → Int) (args : List Value) (H : Heap) (n : Nat) : R := match args with | [.string s] => some (iv (F s), H, n) | _ => none
theorem okSB {f : FuncId} {F : ByteArray → Bool} (h : ∀ s, AC Tryz.prog f [sv s] [] 10 (.bool (F s)) [] 10) : EntOk Tryz.prog (f, gSB F) := by
 intro args H n v H' n' h'
 simp only [gSB] at h'
 split at h'
 · injection h' with h'; injection h' with e1 e2; injection e2 with e2 e3; subst e1 e2 e3
   exact AC.liftP rfl (Part.plain (by simp) [] (by simp [Seen]) gsz ⟨_, _, h _⟩)
 · cases h'
theorem okSI {f : FuncId} {F : ByteArray → Int} (h : ∀ s, AC Tryz.prog f [sv s] [] 10 (iv (F s)) [] 10) : EntOk Tryz.prog (f, gSI F) := by
 intro args H n v H' n' h'
 simp only [gSI] at h'
 split at h'
 · injection h' with h'; injection h' with e1 e2; injection e2 with e2 e3; subst e1 e2 e3
   exact AC.liftP rfl (Part.plain (by simp) [] (by simp [Seen]) gsz ⟨_, _, h _⟩)
 · cases h'
theorem ok189 : EntOk Tryz.prog (189, gSB nameB) := okSB w189
theorem ok121 : EntOk Tryz.prog (121, gSB nameB) := okSB w121
def nameE (s : ByteArray) : Int := if nameB s then 0 else 8
theorem w117 (s : ByteArray) : AC Tryz.prog 117 [sv s] [] 10 (iv (nameE s)) [] 10 := by
 have hr := recT_ok (P := Tryz.prog) (l := [(189, gSB nameB), (28, g114)]) (by simp only [List.forall_mem_cons]; exact ⟨ok189, ok28, by simp⟩)
 refine AC.pure Tryz.func117 rfl (by kernel_rfl) rfl [] rfl ?_
 refine E.seq ?_
 refine E.reg hr (by simp; rfl) ?_
 refine E.seq ?_
 cases hn : nameB s
 · refine E.reg hr (by simp [hn, g114]; rfl) ?_
   refine E.ret ?_
   exact pureK.ret rfl rfl (by simp [nameE, hn, whenV]) (sub_refl _)
 · refine E.reg hr (by simp [hn, g114]; rfl) ?_
   refine E.ret ?_
   exact pureK.ret rfl rfl (by simp [nameE, hn, whenV]) (sub_refl _)
theorem ok117 : EntOk Tryz.prog (117, gSI nameE) := okSI w117
end Go.Proofs.YtndlfijfjglkdaaGreatDoor

namespace Go.Proofs.YtndlfijfjglkdaaGreatDoor
open Go Go.Ab Go.Proofs
structure Gun where
 name : ByteArray
 v : Int
 x : Int
 y : Int
 d : Int
 lo : Int
 hi : Int
abbrev Gun.cells (g : Gun) : List Value := [sv g.name, iv g.v, iv g.x, iv g.y, iv g.d, iv g.lo, iv g.hi]
def Gun.nums (g : Gun) : Int := firstV [withinV g.v 1 64, withinV g.x (-1000) 1000, withinV g.y (-1000) 1000, withinV g.d 0 16, withinV g.lo 0 4, withinV g.hi 0 4]
def Gun.err (g : Gun) : Int := firstV [withinV g.v 1 64, withinV g.x (-1000) 1000, withinV g.y (-1000) 1000, withinV g.d 0 16, withinV g.lo 0 4, withinV g.hi 0 4, if g.hi < g.lo then 11 else 0]
theorem firstV_append (l k : List Int) : firstV (l ++ k) = if firstV l = 0 then firstV k else firstV l := by
 induction l with
 | nil => simp [firstV]
 | cons a l ih =>
   simp only [List.cons_append, firstV]
   by_cases h : a = 0 <;> simp [h, ih]
theorem Gun.err_eq (g : Gun) : g.err = if g.nums = 0 then (if g.hi < g.lo then 11 else 0) else g.nums := by
 have := firstV_append [withinV g.v 1 64, withinV g.x (-1000) 1000, withinV g.y (-1000) 1000, withinV g.d 0 16, withinV g.lo 0 4, withinV g.hi 0 4] [if g.hi < g.lo then 11 else 0]
 unfold Gun.err Gun.nums
 simp only [List.cons_append, List.nil_append] at this
 rw [this]
 by_cases h : g.hi < g.lo <;> simp [firstV, h]
set_option maxRecDepth 100000 in
theorem w123 (g : Gun) : AC Tryz.prog 123 [.agg ⟨g.cells⟩] [] 10 (iv g.err) [] 10 := by
 have hr := recT_ok (P := Tryz.prog) (l := [(124, g1 fun a => withinV a 1 64), (138, g138), (125, g1 fun a => withinV a 0 4), (114, g114), (113, g113)]) (by simp only [List.forall_mem_cons]; exact ⟨ok124, ok138, ok125, ok114, ok113, by simp⟩)
 refine AC.pure Tryz.func123 rfl (by kernel_rfl) rfl [] rfl ?_
 refine E.seq ?_
 refine E.reg hr (by simp; rfl) ?_
 refine E.seq ?_
 refine E.drawK mixed hr (by simp [g138, g113, g114, intsAt, intsOf]; rfl) (by kernel_rfl) (by kernel_rfl) ?_
 refine E.ret ?_
 refine pureK.ret rfl rfl ?_ (by repeat first | exact sub_refl _ | refine sub_cons rfl ?_)
 by_cases hd : g.hi < g.lo <;> simp [Gun.err, hd, whenV]
def g123 (args : List Value) (H : Heap) (n : Nat) : R := match args with
 | [.agg ⟨[.string s, .int .i64 v, .int .i64 x, .int .i64 y, .int .i64 d, .int .i64 lo, .int .i64 hi]⟩] => some (iv (Gun.err ⟨s, v, x, y, d, lo, hi⟩), H, n)
 | _ => none
theorem ok123 : EntOk Tryz.prog (123, g123) := by
 intro args H n v H' n' h
 simp only [g123] at h
 split at h
 · injection h with h; injection h with e1 e2; injection e2 with e2 e3; subst e1 e2 e3
   exact AC.liftP rfl (Part.plain (by simp) [] (by simp [Seen]) gsz ⟨_, _, w123 ⟨_, _, _, _, _, _, _⟩⟩)
 · cases h
end Go.Proofs.YtndlfijfjglkdaaGreatDoor

namespace Go.Proofs.YtndlfijfjglkdaaGreatDoor
open Go Go.Ab Go.Proofs
def gcs (l : List Gun) : List Value := l.flatMap Gun.cells
def gunsOf : List Value → Option (List Gun)
 | [] => some []
 | .string n :: .int .i64 v :: .int .i64 x :: .int .i64 y :: .int .i64 d :: .int .i64 lo :: .int .i64 hi :: vs => (gunsOf vs).map (⟨n, v, x, y, d, lo, hi⟩ :: ·)
 | _ => none
theorem gunsOf_ok (cs : List Value) : ∀ l, gunsOf cs = some l → cs = gcs l := by
 fun_induction gunsOf cs with
 | case1 => intro l h; injection h with h; subst h; rfl
 | case2 n v x y d lo hi vs ih =>
   intro l h
   rw [Option.map_eq_some_iff] at h
   obtain ⟨l', h1, h2⟩ := h
   subst h2
   rw [ih _ h1]
   simp [gcs]
 | case3 => intro l h; cases h
theorem gunsOf_gcs (l : List Gun) : gunsOf (gcs l) = some l := by
 induction l with
 | nil => rfl
 | cons g l ih =>
   show gunsOf (g.cells ++ gcs l) = _
   simp only [Gun.cells, List.cons_append, List.nil_append, gunsOf, ih]
   rfl
@[simp] theorem gcs_length (l : List Gun) : (gcs l).length = l.length * 7 := by
 induction l with
 | nil => rfl
 | cons g l ih =>
   show (g.cells ++ gcs l).length = _
   rw [List.length_append, ih]
   simp
   omega
theorem afL_gcs (l : List Gun) : afL (gcs l) = true := by
 induction l with
 | nil => rfl
 | cons g l ih =>
   show afL (g.cells ++ gcs l) = true
   simp [Gun.cells, afL, ih]
@[simp] theorem renL_gcs (ρ : Nat → Nat) (l : List Gun) : renL ρ (gcs l) = gcs l := by
 rw [renL_eq]
 induction l with
 | nil => rfl
 | cons g l ih =>
   show (g.cells ++ gcs l).map (ren ρ) = g.cells ++ gcs l
   rw [List.map_append, ih]
   rfl
@[simp] theorem scL_gcs (p : Nat → Prop) (l : List Gun) : scL p (gcs l) := scL_af p _ (afL_gcs l)
theorem gcs_takeN (l : List Gun) : ∀ i, (gcs l).take (i * 7) = gcs (l.take i) := by
 induction l with
 | nil => intro i; simp [gcs]
 | cons g l ih =>
   intro i
   cases i with
   | zero => simp [gcs]
   | succ i =>
     rw [List.take_succ_cons, show (i + 1) * 7 = i * 7 + 7 by omega]
     show (g.cells ++ gcs l).take (i * 7 + 7) = g.cells ++ gcs (l.take i)
     rw [show i * 7 + 7 = g.cells.length + i * 7 by simp; omega, List.take_length_add_append, ih]
theorem gcs_drop (l : List Gun) : ∀ i, (gcs l).drop (i * 7) = gcs (l.drop i) := by
 induction l with
 | nil => intro i; simp [gcs]
 | cons g l ih =>
   intro i
   cases i with
   | zero => simp
   | succ i =>
     rw [List.drop_succ_cons, ← ih i, show (i + 1) * 7 = i * 7 + 7 by omega]
     show (g.cells ++ gcs l).drop (i * 7 + 7) = _
     rw [show i * 7 + 7 = g.cells.length + i * 7 by simp; omega, List.drop_append]
     simp
theorem gcs_at {l : List Gun} {i : Nat} (h : i < l.length) : (gcs l).drop (i * 7) = l[i].cells ++ gcs (l.drop (i + 1)) := by
 rw [gcs_drop, List.drop_eq_getElem_cons h]
 rfl
theorem gcs_get {l : List Gun} {i : Nat} (h : i < l.length) (k : Nat) (hk : k < 7) : (gcs l)[i * 7 + k]? = l[i].cells[k]? := by
 have := congrArg (·[k]?) (gcs_at h)
 simp only [List.getElem?_drop] at this
 rw [this, List.getElem?_append_left (by simpa using hk)]
theorem gcs_name {l : List Gun} {i : Nat} (h : i < l.length) : (gcs l)[i * 7]? = some (sv l[i].name) := gcs_get h 0 (by omega)
theorem gcs_nameE {l : List Gun} {i : Nat} (h : i < l.length) (h2 : i * 7 < (gcs l).length) : (gcs l)[i * 7] = sv l[i].name := by
 have := gcs_name h
 rw [List.getElem?_eq_getElem h2] at this
 exact Option.some.inj this
theorem gcs_take {l : List Gun} {i : Nat} (h : i < l.length) : ((gcs l).drop (i * 7)).take 7 = l[i].cells := by
 rw [gcs_at h, List.take_append_of_le_length (by simp)]
 rfl
def gunsAt (H : Heap) (a : Addr) (len : Nat) : Option (List Gun) := if flat a && Nat.blt len 9223372036854775808 then (cellsA H a.block a.off (len * 7)).bind gunsOf else none
theorem gunsAt_ok {H : Heap} {a : Addr} {len : Nat} {l : List Gun} (h : gunsAt H a len = some l) : flat a = true ∧ cellsA H a.block a.off (len * 7) = some (gcs l) ∧ l.length = len ∧ l.length < 2 ^ 63 := by
 unfold gunsAt at h
 split at h
 · rename_i hf
   rw [Bool.and_eq_true] at hf
   rw [Option.bind_eq_some_iff] at h
   obtain ⟨cs, h1, h2⟩ := h
   have h3 := gunsOf_ok _ _ h2
   subst h3
   have h4 := (cellsA_at h1).1
   rw [gcs_length] at h4
   exact ⟨hf.1, h1, by omega, by have := (blt_iff _ _).1 hf.2; omega⟩
 · cases h
end Go.Proofs.YtndlfijfjglkdaaGreatDoor

namespace Go.Proofs.YtndlfijfjglkdaaGreatDoor
open Go Go.Ab Go.Proofs
def atV (l : List Gun) (s : ByteArray) (k : Nat) : Int := match (l.take k).findIdx? fun g => decide (g.name = s) with
 | some i => i
 | none => -1
theorem atV_hit {l : List Gun} {s : ByteArray} {k i : Nat} (hk : k ≤ l.length) (hi : i < k) (hn : l[i].name = s) (hb : ∀ j (_ : j < i), l[j].name ≠ s) : atV l s k = i := by
 have : (l.take k).findIdx? (fun g => decide (g.name = s)) = some i := by
   rw [List.findIdx?_eq_some_iff_getElem]
   refine ⟨by simp; omega, by simp [hn], fun j hj => by simpa using hb j hj⟩
 unfold atV
 rw [this]
theorem atV_miss {l : List Gun} {s : ByteArray} {k : Nat} (hk : k ≤ l.length) (hb : ∀ j (_ : j < k), l[j].name ≠ s) : atV l s k = -1 := by
 have : (l.take k).findIdx? (fun g => decide (g.name = s)) = none := by
   rw [List.findIdx?_eq_none_iff]
   intro x hx
   obtain ⟨j, hj, rfl⟩ := List.getElem_of_mem hx
   have hj2 : j < k := by rw [List.length_take] at hj; omega
   simpa using hb j hj2
 unfold atV
 rw [this]
abbrev strV (o len c : Nat) : Value := .agg ⟨[.slice (some ⟨10, o, none⟩) len c]⟩
set_option maxRecDepth 100000 in
theorem w75 (l : List Gun) (o c : Nat) (s : ByteArray) (k : Nat) (hl : l.length < 2 ^ 63) (hk : k ≤ l.length) : AC Tryz.prog 75 [strV o l.length c, sv s, iv k] [(10, .inp o (gcs l))] 11 (iv (atV l s k)) [(10, .inp o (gcs l))] 11 := by
 have hr := recT_ok (P := Tryz.prog) (l := []) (by simp)
 refine AC.pure Tryz.func75 rfl (by kernel_rfl) rfl [1, 2, 3, 7] rfl ?_
 refine E.seq ?_
 refine E.reg hr (by simp; rfl) ?_
 refine E.seq ?_
 refine E.seq ?_
 refine E.reg hr (by simp; rfl) ?_
 refine E.block ?_
 refine E.loop ?_
 refine EL.ind (fun i : Nat => { fr := [(1, sv s), (2, iv k), (3, .pointer (some ⟨11, 0, none⟩)), (7, iv i)], sz := 22, H := [(11, .cells [.slice (some ⟨10, o, none⟩) l.length c] 24), (10, .inp o (gcs l))], n := 12, marks := [], vs := [1, 2, 3, 7] }) (fun i => k - i) (fun i => i ≤ k ∧ ∀ j, j < i → ∀ h : j < l.length, l[j].name ≠ s) 0 (.less rfl rfl rfl (by simp) (by simp)) ⟨Nat.zero_le _, fun j hj => absurd hj (by omega)⟩ (fun _ => rfl) ?_
 intro i ⟨hi, hg⟩
 refine E.seq ?_
 refine E.seq ?_
 refine E.reg hr (by simp; rfl) ?_
 refine E.cond (by rfl) (fun h => ?_) (fun h => ?_)
 · simp at h
   have hlt : i < l.length := by omega
   have hw : IntKind.i64.wrap ((i : Int) + 1) = (i : Int) + 1 := W_in (by omega) (by omega)
   refine E.skip ?_
   refine E.seq ?_
   refine E.block ?_
   refine E.seq ?_
   refine E.reg hr (by simp [hlt, gcs_nameE hlt]; rfl) ?_
   refine E.cond (by rfl) (fun h => ?_) (fun h => ?_)
   · simp at h
     refine E.seq ?_
     refine E.reg hr (by simp; rfl) ?_
     refine E.ret ?_
     exact pureK.ret rfl rfl (by simp [atV_hit hk (by omega) h fun j hj => hg j hj (by omega)]) (by repeat first | exact sub_refl _ | refine sub_cons rfl ?_)
   · simp at h
     refine E.skip ?_
     refine E.reg hr (by simp [hw]; rfl) ?_
     exact ⟨i + 1, .less rfl rfl rfl (by simp) (by simp), ⟨by omega, fun j hj h2 => if e : j = i then by subst e; exact h else hg j (by omega) h2⟩, by dsimp only; omega⟩
 · simp at h
   refine E.exit ?_
   refine E.seq ?_
   refine E.reg hr (by simp; rfl) ?_
   refine E.ret ?_
   exact pureK.ret rfl rfl (by simp [atV_miss (s := s) hk fun j hj => hg j (by omega) (by omega)]) (by repeat first | exact sub_refl _ | refine sub_cons rfl ?_)
end Go.Proofs.YtndlfijfjglkdaaGreatDoor

namespace Go.Proofs.YtndlfijfjglkdaaGreatDoor
open Go Go.Ab Go.Proofs
def strAt (H : Heap) : Value → Option (List Gun)
 | .agg ⟨[.slice none 0 0]⟩ => some []
 | .agg ⟨[.slice (some a) len _]⟩ => gunsAt H a len
 | _ => none
abbrev nilV : Value := .agg ⟨[.slice none 0 0]⟩
def shortS (l : List Gun) : Bool := l.all (fun g => decide (g.name.size ≤ 40)) && (decide (l.length ≤ 6) || decide (l.length = 9))
theorem w19n : AC Tryz.prog 19 [nilV] [] 10 (.bool (shortS [])) [] 10 := by
 have hr := recT_ok (P := Tryz.prog) (l := []) (by simp)
 refine AC.pure Tryz.func19 rfl (by kernel_rfl) rfl [1, 3] rfl ?_
 refine E.seq ?_
 refine E.reg hr (by simp; rfl) ?_
 refine E.seq ?_
 refine E.seq ?_
 refine E.reg hr (by simp; rfl) ?_
 refine E.block ?_
 refine E.loop ?_
 refine EL.step ?_
 refine E.seq ?_
 refine E.seq ?_
 refine E.reg hr (by simp; rfl) ?_
 refine E.cond (by rfl) (fun h => ?_) (fun h => ?_)
 · simp at h
 refine E.exit ?_
 refine E.seq ?_
 refine E.reg hr (by simp; rfl) ?_
 refine E.ret ?_
 exact pureK.ret rfl rfl (by simp [shortS]) (by repeat first | exact sub_refl _ | refine sub_cons rfl ?_)
set_option maxRecDepth 100000 in
theorem w19 (l : List Gun) (o c : Nat) (hl : l.length < 2 ^ 63) : AC Tryz.prog 19 [strV o l.length c] [(10, .inp o (gcs l))] 11 (.bool (shortS l)) [(10, .inp o (gcs l))] 11 := by
 have hr := recT_ok (P := Tryz.prog) (l := []) (by simp)
 refine AC.pure Tryz.func19 rfl (by kernel_rfl) rfl [1, 3] rfl ?_
 refine E.seq ?_
 refine E.reg hr (by simp; rfl) ?_
 refine E.seq ?_
 refine E.seq ?_
 refine E.reg hr (by simp; rfl) ?_
 refine E.block ?_
 refine E.loop ?_
 refine EL.ind (fun i : Nat => { fr := [(1, .pointer (some ⟨11, 0, none⟩)), (3, iv i)], sz := 29, H := [(11, .cells [.slice (some ⟨10, o, none⟩) l.length c] 24), (10, .inp o (gcs l))], n := 12, marks := [], vs := [1, 3] }) (fun i => l.length - i) (fun i => i ≤ l.length ∧ ∀ j, j < i → ∀ h : j < l.length, l[j].name.size ≤ 40) 0 (.less rfl rfl rfl (by simp) (by simp)) ⟨Nat.zero_le _, fun j hj => absurd hj (by omega)⟩ (fun _ => rfl) ?_
 intro i ⟨hi, hg⟩
 refine E.seq ?_
 refine E.seq ?_
 refine E.reg hr (by simp; rfl) ?_
 refine E.cond (by rfl) (fun h => ?_) (fun h => ?_)
 · simp at h
   have hw : IntKind.i64.wrap ((i : Int) + 1) = (i : Int) + 1 := W_in (by omega) (by omega)
   refine E.skip ?_
   refine E.seq ?_
   refine E.block ?_
   refine E.seq ?_
   refine E.reg hr (by simp [h, gcs_nameE h]; rfl) ?_
   refine E.cond (by rfl) (fun h2 => ?_) (fun h2 => ?_)
   · simp at h2
     refine E.seq ?_
     refine E.reg hr (by simp; rfl) ?_
     refine E.ret ?_
     have : shortS l = false := by
       unfold shortS
       rw [show l.all (fun g => decide (g.name.size ≤ 40)) = false from List.all_eq_false.2 ⟨l[i], List.getElem_mem h, by simp; omega⟩, Bool.false_and]
     exact pureK.ret rfl rfl (by simp [this]) (by repeat first | exact sub_refl _ | refine sub_cons rfl ?_)
   · simp at h2
     refine E.skip ?_
     refine E.reg hr (by simp [hw]; rfl) ?_
     exact ⟨i + 1, .less rfl rfl rfl (by simp) (by simp), ⟨by omega, fun j hj h3 => if e : j = i then by subst e; omega else hg j (by omega) h3⟩, by dsimp only; omega⟩
 · simp at h
   refine E.exit ?_
   have hall : shortS l = (decide (l.length ≤ 6) || decide (l.length = 9)) := by
     unfold shortS
     rw [show l.all (fun g => decide (g.name.size ≤ 40)) = true from List.all_eq_true.2 fun x hx => by obtain ⟨j, hj, rfl⟩ := List.getElem_of_mem hx; simpa using hg j (by omega) hj, Bool.true_and]
   refine E.seq ?_
   by_cases h6 : (l.length : Int) ≤ 6
   · refine E.reg hr (by simp [h6, undefV]; rfl) ?_
     refine E.ret ?_
     exact pureK.ret rfl rfl (by simp [hall]; omega) (by repeat first | exact sub_refl _ | refine sub_cons rfl ?_)
   · have h6' : ¬ l.length ≤ 6 := by omega
     have e9 : ((l.length : Int) = 9) = (l.length = 9) := propext (by omega)
     refine E.reg hr (by simp [h6]; rfl) ?_
     refine E.ret ?_
     exact pureK.ret rfl rfl (by simp [hall, h6', e9]) (by repeat first | exact sub_refl _ | refine sub_cons rfl ?_)
def gStr (F : List Gun → Value) (args : List Value) (H : Heap) (n : Nat) : R := match args with
 | [v] => (strAt H v).map fun l => (F l, H, n)
 | _ => none
theorem okStr {f : FuncId} {F : List Gun → Value} (hF : ∀ l, af (F l) = true) (hnil : AC Tryz.prog f [nilV] [] 10 (F []) [] 10)
   (h : ∀ l o c, l.length < 2 ^ 63 → AC Tryz.prog f [strV o l.length c] [(10, .inp o (gcs l))] 11 (F l) [(10, .inp o (gcs l))] 11) : EntOk Tryz.prog (f, gStr F) := by
 intro args H n v H' n' h'
 simp only [gStr] at h'
 split at h'
 · rw [Option.map_eq_some_iff] at h'
   obtain ⟨l, h1, h2⟩ := h'
   injection h2 with e1 e2; injection e2 with e2 e3; subst e1 e2 e3
   unfold strAt at h1
   split at h1
   · injection h1 with h1; subst h1
     exact AC.liftP (hF _) (Part.plain (by simp) [] (by simp [Seen]) gsz ⟨_, _, hnil⟩)
   · obtain ⟨hf, hc, hlen, hlt⟩ := gunsAt_ok h1
     subst hlen
     exact AC.liftP (hF _) (Part.one (fun s => [.agg ⟨[s]⟩]) (by intro φ φ0 s s0 h; simp [denL, den, h]) (by intro p s h; exact ⟨⟨h, trivial⟩, trivial⟩) hf hc (afL_gcs l) [] (by simp [Seen]) gsz fun c => ⟨_, _, h l _ c hlt⟩)
   · cases h1
 · cases h'
theorem ok19 : EntOk Tryz.prog (19, gStr fun l => .bool (shortS l)) := okStr (fun _ => rfl) w19n w19
end Go.Proofs.YtndlfijfjglkdaaGreatDoor

namespace Go.Ab
open Go
end Go.Ab

namespace Go.Ab
open Go
abbrev CodeSpec := Option Nat → Code → St → Option (Ex × St)
open Classical in
noncomputable def recV (P : Program) (C : CodeSpec) (F : Oracle) : Rec :=
 ⟨fun ro c s => match c with
   | .loop _ => none
   | c => match C ro c s with
     | some (e, s') => if AT P ro c s e s' then some (e, s') else none
     | none => none,
  fun f args H n => match F f args H n with
   | some (v, H', n') => if AC P f args H n v H' n' then some (v, H', n') else none
   | none => none⟩
theorem recV_ok {P : Program} {C : CodeSpec} {F : Oracle} : RecOk P (recV P C F) 0 where
 code := fun ro c st e st' h => by
   simp only [recV] at h
   split at h
   · cases h
   · split at h
     · split at h
       · rename_i ha
         injection h with h; injection h with h1 h2; subst h1 h2; exact ha
       · cases h
     · cases h
 loop := fun ro b st e st' h p φ a w hS hl Q hQ => by
   simp only [recV] at h
   cases h
 call := fun f args H n v H' n' h => by
   simp only [recV] at h
   split at h
   · split at h
     · rename_i ha
       injection h with h; injection h with h1 h2; injection h2 with h2 h3; subst h1 h2 h3; exact ha
     · cases h
   · cases h
theorem recV_code {P : Program} {C : CodeSpec} {F : Oracle} {ro : Option Nat} {c : Code} {s s' : St} {e : Ex} (hc : ∀ b, c ≠ .loop b) (h : C ro c s = some (e, s')) (ha : AT P ro c s e s') : (recV P C F).code ro c s = some (e, s') := by
 cases c with
 | loop b => exact absurd rfl (hc b)
 | _ => simp only [recV, h, if_pos ha]
theorem recV_call {P : Program} {C : CodeSpec} {F : Oracle} {f : FuncId} {args : List Value} {H H' : Heap} {n n' : Nat} {v : Value} (h : F f args H n = some (v, H', n')) (ha : AC P f args H n v H' n') : (recV P C F).call f args H n = some (v, H', n') := by
 simp only [recV]
 rw [h]; simp only; rw [if_pos ha]
end Go.Ab

namespace Go.Proofs.YtndlfijfjglkdaaGreatDoor
open Go Go.Ab Go.Proofs
attribute [simp] run_vcall_tmp vcallF target
abbrev Hf (o : Nat) (l : List Gun) (s : ByteArray) : Heap := [(11, .cells [sv s] 9), (10, .inp o (gcs l))]
theorem w192 (g : Gun) (o : Nat) (l : List Gun) (s : ByteArray) : AC Tryz.prog 192 [.agg ⟨g.cells⟩, .pointer (some ⟨11, 0, none⟩)] (Hf o l s) 12 (.bool (decide (g.name = s))) (Hf o l s) 12 := by
 have hr := recT_ok (P := Tryz.prog) (l := []) (by simp)
 refine AC.pure Tryz.func192 rfl (by kernel_rfl) rfl [] rfl ?_
 refine E.seq ?_
 refine E.reg hr (by simp; rfl) ?_
 refine E.seq ?_
 refine E.reg hr (by simp; rfl) ?_
 refine E.ret ?_
 exact pureK.ret rfl rfl (by simp) (by repeat first | exact sub_refl _ | refine sub_cons rfl ?_)
set_option maxRecDepth 100000 in
theorem w191 (l : List Gun) (o c : Nat) (s : ByteArray) (hl : l.length < 2 ^ 63) : AC Tryz.prog 191 [.slice (some ⟨10, o, none⟩) l.length c, .func (.func 192) #[] #[.pointer (some ⟨11, 0, none⟩)]] (Hf o l s) 12 (iv (atV l s l.length)) (Hf o l s) 12 := by
 have hr := recT_ok (P := Tryz.prog) (l := []) (by simp)
 refine AC.pure Tryz.func191 rfl (by kernel_rfl) rfl [0, 1, 7, 8] rfl ?_
 refine E.seq ?_
 refine E.reg hr (by simp; rfl) ?_
 refine E.seq ?_
 refine E.seq ?_
 refine E.reg hr (by simp; rfl) ?_
 refine E.block ?_
 refine E.loop ?_
 refine EL.ind (fun i : Nat => { fr := [(0, .slice (some ⟨10, o, none⟩) l.length c), (1, .func (.func 192) #[] #[.pointer (some ⟨11, 0, none⟩)]), (7, iv l.length), (8, iv i)], sz := 19, H := Hf o l s, n := 12, marks := [], vs := [0, 1, 7, 8] }) (fun i => l.length - i) (fun i => i ≤ l.length ∧ ∀ j, j < i → ∀ h : j < l.length, l[j].name ≠ s) 0 (.less rfl rfl rfl (by simp) (by simp)) ⟨Nat.zero_le _, fun j hj => absurd hj (by omega)⟩ (fun _ => rfl) ?_
 intro i ⟨hi, hg⟩
 refine E.seq ?_
 refine E.reg hr (by simp; rfl) ?_
 refine E.seq ?_
 refine E.cond (by rfl) (fun h => ?_) (fun h => ?_)
 · simp at h
   have hw : IntKind.i64.wrap ((i : Int) + 1) = (i : Int) + 1 := W_in (by omega) (by omega)
   refine E.skip ?_
   refine E.seq ?_
   refine E.block ?_
   refine E.seq ?_
   refine E.reg hr (by simp; rfl) ?_
   refine E.seq ?_
   have hcall : (recV Tryz.prog (fun _ _ _ => none) (fun _ _ _ _ => some (.bool (decide (l[i].name = s)), Hf o l s, 12))).call 192 [.agg l[i].cells.toArray, .pointer (some ⟨11, 0, none⟩)] (Hf o l s) 12 = some (.bool (decide (l[i].name = s)), Hf o l s, 12) := recV_call rfl (w192 l[i] o l s)
   have h7 : i * 7 + 7 ≤ l.length * 7 := by omega
   refine E.reg (r := recV Tryz.prog (fun _ _ _ => none) (fun _ _ _ _ => some (.bool (decide (l[i].name = s)), Hf o l s, 12))) recV_ok (by simp [h, gcs_take h, h7, hcall]; rfl) ?_
   refine E.cond (by rfl) (fun h2 => ?_) (fun h2 => ?_)
   · simp at h2
     refine E.seq ?_
     refine E.reg hr (by simp; rfl) ?_
     refine E.ret ?_
     exact pureK.ret rfl rfl (by simp [atV_hit (Nat.le_refl _) h h2 fun j hj => hg j hj (by omega)]) (by repeat first | exact sub_refl _ | refine sub_cons rfl ?_)
   · simp at h2
     refine E.skip ?_
     refine E.reg hr (by simp [hw]; rfl) ?_
     exact ⟨i + 1, .less rfl rfl rfl (by simp) (by simp), ⟨by omega, fun j hj h3 => if e : j = i then by subst e; exact h2 else hg j (by omega) h3⟩, by dsimp only; omega⟩
 · simp at h
   refine E.exit ?_
   refine E.seq ?_
   refine E.reg hr (by simp; rfl) ?_
   refine E.ret ?_
   exact pureK.ret rfl rfl (by simp [atV_miss (s := s) (Nat.le_refl l.length) fun j hj => hg j (by omega) (by omega)]) (by repeat first | exact sub_refl _ | refine sub_cons rfl ?_)
theorem w122 (l : List Gun) (o c : Nat) (s : ByteArray) (hl : l.length < 2 ^ 63) : AC Tryz.prog 122 [.slice (some ⟨10, o, none⟩) l.length c, sv s] [(10, .inp o (gcs l))] 11 (iv (atV l s l.length)) [(10, .inp o (gcs l))] 11 := by
 have hr := recT_ok (P := Tryz.prog) (l := []) (by simp)
 refine AC.pure Tryz.func122 rfl (by kernel_rfl) rfl [] rfl ?_
 refine E.seq ?_
 refine E.reg hr (by simp; rfl) ?_
 refine E.seq ?_
 have hcall := recV_call (P := Tryz.prog) (C := fun _ _ _ => none) (F := fun _ _ _ _ => some (iv (atV l s l.length), Hf o l s, 12)) rfl (w191 l o c s hl)
 refine E.reg (r := recV Tryz.prog (fun _ _ _ => none) (fun _ _ _ _ => some (iv (atV l s l.length), Hf o l s, 12))) recV_ok (by simp [opMakefunc, hcall]; rfl) ?_
 refine E.ret ?_
 exact pureK.ret rfl rfl (by simp) (by repeat first | exact sub_refl _ | refine sub_cons rfl ?_)
def g122 (args : List Value) (H : Heap) (n : Nat) : R := match args with
 | [.slice (some a) len _, .string s] => (gunsAt H a len).map fun l => (iv (atV l s len), H, n)
 | _ => none
theorem ok122 : EntOk Tryz.prog (122, g122) := by
 intro args H n v H' n' h'
 simp only [g122] at h'
 split at h'
 · rename_i a len c s
   rw [Option.map_eq_some_iff] at h'
   obtain ⟨l, h1, h2⟩ := h'
   injection h2 with e1 e2; injection e2 with e2 e3; subst e1 e2 e3
   obtain ⟨hf, hc, hlen, hlt⟩ := gunsAt_ok h1
   subst hlen
   exact AC.liftP rfl (Part.one (fun x => [x, sv s]) (by intro φ φ0 s s0 h; simp [denL, den, h]) (by intro p s h; exact ⟨h, trivial, trivial⟩) hf hc (afL_gcs l) [] (by simp [Seen]) gsz fun c => ⟨_, _, w122 l _ c s hlt⟩)
 · cases h'
def g75 (args : List Value) (H : Heap) (n : Nat) : R := match args with
 | [.agg ⟨[.slice (some a) len _]⟩, .string s, .int .i64 k] => if 0 ≤ k ∧ k.toNat ≤ len then (gunsAt H a len).map fun l => (iv (atV l s k.toNat), H, n) else none
 | _ => none
theorem ok75 : EntOk Tryz.prog (75, g75) := by
 intro args H n v H' n' h'
 simp only [g75] at h'
 split at h'
 · rename_i a len c s k
   split at h'
   · rename_i hk
     rw [Option.map_eq_some_iff] at h'
     obtain ⟨l, h1, h2⟩ := h'
     injection h2 with e1 e2; injection e2 with e2 e3; subst e1 e2 e3
     obtain ⟨hf, hc, hlen, hlt⟩ := gunsAt_ok h1
     subst hlen
     obtain ⟨k', rfl⟩ := Int.eq_ofNat_of_zero_le hk.1
     exact AC.liftP rfl (Part.one (fun x => [.agg ⟨[x]⟩, sv s, iv k']) (by intro φ φ0 s s0 h; simp [denL, den, h]) (by intro p s h; exact ⟨⟨h, trivial⟩, trivial, trivial, trivial⟩) hf hc (afL_gcs l) [] (by simp [Seen]) gsz fun c => ⟨_, _, w75 l _ c s k' hlt hk.2⟩)
   · cases h'
 · cases h'
end Go.Proofs.YtndlfijfjglkdaaGreatDoor

namespace Go.Proofs.YtndlfijfjglkdaaGreatDoor
open Go Go.Ab Go.Proofs
theorem firstV_map_hit {f : Nat → Int} {n i : Nat} (hi : i < n) (hb : ∀ j, j < i → f j = 0) (hne : f i ≠ 0) : firstV ((List.range n).map f) = f i := by
 have e : n = i + (n - i - 1 + 1) := by omega
 rw [e, List.range_add, List.map_append, firstV_append, if_pos ((firstV_zero _).2 fun x hx => by
   obtain ⟨j, hj, rfl⟩ := List.mem_map.1 hx
   exact hb j (List.mem_range.1 hj))]
 rw [List.range_succ_eq_map]
 simp [firstV, hne]
theorem firstV_map_zero {f : Nat → Int} {n : Nat} (hb : ∀ j, j < n → f j = 0) : firstV ((List.range n).map f) = 0 :=
 (firstV_zero _).2 fun x hx => by
   obtain ⟨j, hj, rfl⟩ := List.mem_map.1 hx
   exact hb j (List.mem_range.1 hj)
def gunChk (l : List Gun) (i : Nat) : Int := match l[i]? with
 | some g => firstV [nameE g.name, if 0 ≤ atV l g.name i then 9 else 0, g.err]
 | none => 0
def strE (l : List Gun) : Int := if l.length = 0 then 12 else if 8 < l.length then 5 else firstV ((List.range l.length).map (gunChk l))
theorem strE_hit {l : List Gun} {i : Nat} (h8 : l.length ≤ 8) (hi : i < l.length) (hb : ∀ j, j < i → gunChk l j = 0) (hne : gunChk l i ≠ 0) : strE l = gunChk l i := by
 unfold strE
 rw [if_neg (by omega), if_neg (by omega), firstV_map_hit hi hb hne]
theorem strE_ok {l : List Gun} (h0 : l.length ≠ 0) (h8 : l.length ≤ 8) (hb : ∀ j, j < l.length → gunChk l j = 0) : strE l = 0 := by
 unfold strE
 rw [if_neg h0, if_neg (by omega), firstV_map_zero hb]
theorem gunChk_at {l : List Gun} {i : Nat} (h : i < l.length) : gunChk l i = firstV [nameE l[i].name, if 0 ≤ atV l l[i].name i then 9 else 0, l[i].err] := by
 unfold gunChk
 rw [List.getElem?_eq_getElem h]
theorem w24n : AC Tryz.prog 24 [nilV] [] 10 (iv (strE [])) [] 10 := by
 have hr := recT_ok (P := Tryz.prog) (l := []) (by simp)
 refine AC.pure Tryz.func24 rfl (by kernel_rfl) rfl [] rfl ?_
 refine E.seq ?_
 refine E.reg hr (by simp; rfl) ?_
 refine E.seq ?_
 refine E.seq ?_
 refine E.reg hr (by simp; rfl) ?_
 refine E.cond (by rfl) (fun h => ?_) (fun h => ?_)
 rotate_left
 · simp at h
 refine E.seq ?_
 refine E.reg hr (by simp; rfl) ?_
 refine E.ret ?_
 exact pureK.ret rfl rfl (by simp [strE]) (by repeat first | exact sub_refl _ | refine sub_cons rfl ?_)
set_option maxRecDepth 100000 in
theorem w24 (l : List Gun) (o c : Nat) (hl : l.length < 2 ^ 63) : AC Tryz.prog 24 [strV o l.length c] [(10, .inp o (gcs l))] 11 (iv (strE l)) [(10, .inp o (gcs l))] 11 := by
 have hr := recT_ok (P := Tryz.prog) (l := [(117, gSI nameE), (75, g75), (62, g138), (36, g1 fun a => withinV a 0 4), (27, g113)]) (by simp only [List.forall_mem_cons]; exact ⟨ok117, ok75, ok62, ok36, ok27, by simp⟩)
 refine AC.pure Tryz.func24 rfl (by kernel_rfl) rfl [1, 3] rfl ?_
 refine E.seq ?_
 refine E.reg hr (by simp; rfl) ?_
 refine E.seq ?_
 refine E.seq ?_
 refine E.reg hr (by simp; rfl) ?_
 refine E.cond (by rfl) (fun h => ?_) (fun h0 => ?_)
 · simp at h
   refine E.seq ?_
   refine E.reg hr (by simp; rfl) ?_
   refine E.ret ?_
   exact pureK.ret rfl rfl (by simp [strE, h]) (by repeat first | exact sub_refl _ | refine sub_cons rfl ?_)
 simp at h0
 refine E.skip ?_
 refine E.seq ?_
 refine E.seq ?_
 refine E.reg hr (by simp; rfl) ?_
 refine E.cond (by rfl) (fun h => ?_) (fun h8 => ?_)
 · simp at h
   refine E.seq ?_
   refine E.reg hr (by simp; rfl) ?_
   refine E.ret ?_
   exact pureK.ret rfl rfl (by simp [strE, h0, show 8 < l.length by omega]) (by repeat first | exact sub_refl _ | refine sub_cons rfl ?_)
 simp at h8
 refine E.skip ?_
 refine E.seq ?_
 refine E.seq ?_
 refine E.reg hr (by simp; rfl) ?_
 refine E.block ?_
 refine E.loop ?_
 refine EL.ind (fun i : Nat => { fr := [(1, .pointer (some ⟨11, 0, none⟩)), (3, iv i)], sz := 73, H := [(11, .cells [.slice (some ⟨10, o, none⟩) l.length c] 24), (10, .inp o (gcs l))], n := 12, marks := [], vs := [1, 3] }) (fun i => l.length - i) (fun i => i ≤ l.length ∧ ∀ j, j < i → gunChk l j = 0) 0 (.less rfl rfl rfl (by simp) (by simp)) ⟨Nat.zero_le _, fun j hj => absurd hj (by omega)⟩ (fun _ => rfl) ?_
 intro i ⟨hi, hg⟩
 have hw : IntKind.i64.wrap ((i : Int) + 1) = (i : Int) + 1 := W_in (by omega) (by omega)
 refine E.seq ?_
 refine E.seq ?_
 refine E.reg hr (by simp; rfl) ?_
 refine E.cond (by rfl) (fun h => ?_) (fun h => ?_)
 · simp at h
   have hC := gunChk_at h
   have h7 : i * 7 + 7 ≤ l.length * 7 := by omega
   have hat : gunsAt [(12, .cells l[i].cells 94), (11, .cells [.slice (some ⟨10, o, none⟩) l.length c] 24), (10, .inp o (gcs l))] ⟨10, o, none⟩ l.length = some l := by
     unfold gunsAt
     simp [List.take_of_length_le, gunsOf_gcs, show l.length < 9223372036854775808 by omega]
   refine E.skip ?_
   refine E.seq ?_
   refine E.block ?_
   refine E.seq ?_
   refine E.reg hr (by simp [h, h7, gcs_take h]; rfl) ?_
   refine E.seq ?_
   refine E.seq ?_
   refine E.reg hr (by simp; rfl) ?_
   refine E.seq ?_
   refine E.reg hr (by simp; rfl) ?_
   refine E.cond (by rfl) (fun h1 => ?_) (fun h1 => ?_)
   · simp at h1
     refine E.seq ?_
     refine E.reg hr (by simp; rfl) ?_
     refine E.ret ?_
     have : gunChk l i = nameE l[i].name := by rw [hC]; simp [firstV, h1]
     exact pureK.ret rfl rfl (by simp [strE_hit (by omega) h hg (by rw [this]; exact h1), this]) (by repeat first | exact sub_refl _ | refine sub_cons rfl ?_)
   simp at h1
   refine E.skip ?_
   refine E.seq ?_
   refine E.seq ?_
   refine E.reg hr (by simp [g75, hi, hat]; rfl) ?_
   refine E.cond (by rfl) (fun h2 => ?_) (fun h2 => ?_)
   · simp at h2
     refine E.seq ?_
     refine E.reg hr (by simp; rfl) ?_
     refine E.ret ?_
     have : gunChk l i = 9 := by rw [hC]; simp [firstV, h1, h2]
     exact pureK.ret rfl rfl (by simp [strE_hit (by omega) h hg (by rw [this]; omega), this]) (by repeat first | exact sub_refl _ | refine sub_cons rfl ?_)
   simp at h2
   refine E.skip ?_
   refine E.seq ?_
   refine E.seq ?_
   have hE : gunChk l i = l[i].err := by rw [hC]; simp [firstV, h1, show ¬ 0 ≤ atV l l[i].name i by omega]; omega
   have hn : firstV [withinV l[i].v 1 64, withinV l[i].x (-1000) 1000, withinV l[i].y (-1000) 1000, withinV l[i].d 0 16, withinV l[i].lo 0 4, withinV l[i].hi 0 4] = l[i].nums := rfl
   refine E.drawK mixed hr (by simp [g138, g113, intsAt, intsOf, hn]; rfl) (by kernel_rfl) (by kernel_rfl) ?_
   refine E.seq ?_
   refine E.reg hr (by simp; rfl) ?_
   refine E.cond (by rfl) (fun h3 => ?_) (fun h3 => ?_)
   · simp at h3
     refine E.seq ?_
     refine E.reg hr (by simp; rfl) ?_
     refine E.ret ?_
     have : gunChk l i = l[i].nums := by rw [hE, Gun.err_eq, if_neg h3]
     exact pureK.ret rfl rfl (by simp [strE_hit (by omega) h hg (by rw [this]; exact h3), this]) (by repeat first | exact sub_refl _ | refine sub_cons rfl ?_)
   simp at h3
   refine E.skip ?_
   refine E.seq ?_
   refine E.reg hr (by simp; rfl) ?_
   refine E.cond (by rfl) (fun h4 => ?_) (fun h4 => ?_)
   · simp at h4
     refine E.seq ?_
     refine E.reg hr (by simp; rfl) ?_
     refine E.ret ?_
     have : gunChk l i = 11 := by rw [hE, Gun.err_eq, if_pos h3, if_pos h4]
     exact pureK.ret rfl rfl (by simp [strE_hit (by omega) h hg (by rw [this]; omega), this]) (by repeat first | exact sub_refl _ | refine sub_cons rfl ?_)
   simp at h4
   refine E.skip ?_
   refine E.reg hr (by simp [hw]; rfl) ?_
   have : gunChk l i = 0 := by rw [hE, Gun.err_eq, if_pos h3, if_neg (by omega)]
   exact ⟨i + 1, Leads.ren [11] rfl rfl rfl ⟨rfl, rfl⟩ (by simp) (by simp), ⟨by omega, fun j hj => if e : j = i then e ▸ this else hg j (by omega)⟩, by dsimp only; omega⟩
 · simp at h
   refine E.exit ?_
   refine E.seq ?_
   refine E.reg hr (by simp; rfl) ?_
   refine E.ret ?_
   exact pureK.ret rfl rfl (by simp [strE_ok (fun e => h0 (List.length_eq_zero_iff.1 e)) (by omega) fun j hj => hg j (by omega)]) (by repeat first | exact sub_refl _ | refine sub_cons rfl ?_)
theorem ok24 : EntOk Tryz.prog (24, gStr fun l => iv (strE l)) := okStr (fun _ => rfl) w24n w24
end Go.Proofs.YtndlfijfjglkdaaGreatDoor

namespace Go.Ab
open Go
def rowOf (H : Heap) (b : Nat) : Option (List Value × Nat) := match hget H b with
 | some (.ext cs _ sz) => some (cs, sz)
 | some (.row cs sz) => some (cs, sz)
 | _ => none
theorem rowOf_rel {P : Program} {p : Nat → Prop} {φ : Vl} {n : Nat} {H : Heap} {w : World} {fr : Fr} {a : Act} {b : Nat} {cs : List Value} {sz : Nat} (hB : Base P p φ n (hget H) w fr a) (h : rowOf H b = some (cs, sz)) :
   ∃ c t fz, w.heap[φ.loc b]? = some (.cells c t fz) ∧ c.toList.take cs.length = denL φ cs ∧ c.size = φ.cap b * sz ∧ 0 < sz := by
 unfold rowOf at h
 split at h
 · rename_i cs' t sz' hb
   injection h with h; injection h with h1 h2; subst h1 h2
   obtain ⟨c, h1, h2, h3, h4⟩ := hB.rel.blk b _ hb
   exact ⟨c, _, _, h1, h2, h3, h4⟩
 · rename_i cs' sz' hb
   injection h with h; injection h with h1 h2; subst h1 h2
   exact hB.rel.blk b _ hb
 · cases h
theorem Part.row {P : Program} {H : Heap} {n : Nat} {R : List Value → Heap → Nat → Prop} (mk : Value → List Value) (hmk : ∀ φ φ0 s s0, den φ0 s0 = den φ s → denL φ0 (mk s0) = denL φ (mk s)) (hms : ∀ (p : Nat → Prop) s, sc p s → scL p (mk s))
   {b len skip sz : Nat} {cs : List Value} (hb : rowOf H b = some (cs, sz)) (haf : afL cs = true) {N : Nat} (hN : P.globals.size = N) (h : R (mk (.slice (some ⟨N, 0, some 0⟩) len skip)) [(N, .row cs sz)] (N + 1)) : Part P (mk (.slice (some ⟨b, 0, some 0⟩) len skip)) H n R := by
 intro p φ w hB hsc
 let φ0 : Vl := ⟨fun k => if k < N then φ.loc k else φ.loc b, fun k => if k < N then φ.cap k else φ.cap b⟩
 have hN' : ∀ k, hget [(N, Blk.row cs sz)] k = some (.row cs sz) → k = N := fun k hk => by
   rw [hget_cons] at hk
   by_cases e : N = k
   · exact e.symm
   · rw [if_neg e] at hk; cases hk
 have hone : ∀ k x, hget [(N, Blk.row cs sz)] k = some x → k = N ∧ x = .row cs sz := fun k x hk => by
   rw [hget_cons] at hk
   by_cases e : N = k
   · rw [if_pos e] at hk; injection hk with hk; exact ⟨e.symm, hk.symm⟩
   · rw [if_neg e] at hk; cases hk
 have hlow : ∀ k, k < N → φ0.loc k = φ.loc k := fun k hk => by simp only [φ0]; rw [if_pos hk]
 have hden : den φ0 (.slice (some ⟨N, 0, some 0⟩) len skip) = den φ (.slice (some ⟨b, 0, some 0⟩) len skip) := by
   simp [den, φ0]
 refine ⟨mk (.slice (some ⟨N, 0, some 0⟩) len skip), [(N, .row cs sz)], N + 1, φ0, (· < N + 1), ⟨⟨fun k x hk => ?_, fun k x k' x' h1 _ _ ho => (by obtain ⟨_, rfl⟩ := hone k x h1; cases ho), fun g hg => ?_⟩, fun _ h => h, fun g hg => ?_, (by omega), fun k x hk => ?_, fun t v hv => by simp [lk] at hv, fun t v hv => by simp [lk] at hv⟩, hms _ _ (Nat.lt_succ_self _), hmk _ _ _ _ hden, fun k x hk => by obtain ⟨_, rfl⟩ := hone k x hk; rfl, h⟩
 · obtain ⟨rfl, rfl⟩ := hone k x hk
   obtain ⟨c, t, fz, h1, h2, h3, h4⟩ := rowOf_rel hB hb
   have hl : φ0.loc k = φ.loc b := by simp [φ0]
   have hc : φ0.cap k = φ.cap b := by simp [φ0]
   rw [hl]
   refine ⟨c, t, fz, h1, ?_, ?_, h4⟩
   · rw [h2, denL_af _ _ haf, denL_af _ _ haf]
   · rw [h3, hc]
 · rw [hlow g (hN ▸ hg)]; exact hB.rel.glob g hg
 · rw [← hN]; omega
 · obtain ⟨rfl, rfl⟩ := hone k x hk
   exact ⟨by omega, scL_af _ _ haf⟩
end Go.Ab

namespace Go.Ab
open Go
def dnames : Heap → List Nat
 | [] => []
 | (k, .cells _ _) :: H | (k, .ext _ _ _) :: H | (k, .inp _ _) :: H | (k, .row _ _) :: H | (k, .tab _) :: H => k :: dnames H
 | _ :: H => dnames H
def visT (late : List Nat) (n0 i n : Nat) (see : List Nat) : Bool := (memN late i && see.all (Nat.blt · n)) || see.all (Nat.blt · n0)
def readT (P : Program) (late : List Nat) (n0 i : Nat) (o : Oper) (fr : Fr) (st : St) (see : List Nat) : Option St :=
 match visT late n0 i st.n see with
 | true => match opA P o fr (readA see st.H) st.n with
   | some (v, _, _) => some { st with fr := putA st.fr o.dst v }
   | none => none
 | false => none
def aloneT (P : Program) (r : Rec) (mk : List Nat) (i : Nat) (o : Oper) (fr : Fr) (st : St) : Option St :=
 match runOp P r o { st with fr := fr } with
 | some (v, H, k) => match Nat.ble st.n k && namesOk k H && (Nat.beq k st.n || memN mk i) with
   | true => some { st with fr := putA st.fr o.dst v, H := H, n := k }
   | false => none
 | none => none
def handT (P : Program) (r : Rec) (mk : List Nat) (i : Nat) (o : Oper) (see : List Nat) (fr : Fr) (st : St) : Option St :=
 match runOp P r o { st with fr := fr, H := handA see [] st.H } with
 | some (v, H, k) => match Nat.ble st.n k && namesOk k (takeNew st.n H) && (Nat.beq k st.n || memN mk i) with
   | true => some { st with fr := putA st.fr o.dst v, H := takeNew st.n H ++ st.H, n := k }
   | false => none
 | none => none
def doneT (P : Program) (r : Rec) (al mk late : List Nat) (n0 i : Nat) (o : Oper) (fr : Fr) (st : St) : Option St :=
 match isPure o.op with
 | true => pureS P o fr st
 | false => match isRead o.op with
   | true => match footA P fr o.op with
     | some f => readT P late n0 i o fr st f.see
     | none => none
   | false => match memN al i with
     | true => aloneT P r mk i o fr st
     | false => match footA P fr o.op with
       | some f => match f.put.isEmpty && visT late n0 i st.n f.see with
         | true => handT P r mk i o f.see fr st
         | false => none
       | none => match memN late i with
         | true => handT P r mk i o (dnames st.H) fr st
         | false => none
def oneT (P : Program) (r : Rec) (ops : Array Oper) (al mk late : List Nat) (n0 i : Nat) (o : Oper) (st : St) : Option St :=
 match dstOk st.sz o.dst with
 | false => none
 | true => match wantedA ops (trim (lookTmps ops o) st.fr) o with
   | none => none
   | some false => some { st with fr := putA st.fr o.dst undefV }
   | some true => doneT P r al mk late n0 i o (trim (lookTmps ops o) st.fr) st
def opsT (P : Program) (r : Rec) (ops : Array Oper) (al mk late : List Nat) (n0 : Nat) : List Oper → Nat → St → Option St
 | [], _, st => some st
 | o :: os, i, st => match oneT P r ops al mk late n0 i o st with
   | some st' => opsT P r ops al mk late n0 os (i + 1) st'
   | none => none
def runT (P : Program) (r : Rec) (ops : Array Oper) (al mk late : List Nat) (st : St) : Option St :=
 match namesOk st.n st.H with
 | true => opsT P r ops al mk late st.n ops.toList 0 st
 | false => none
def alEq (ops : Array Oper) (bef : Array Nat) (al : List Nat) : List Oper → Nat → Bool
 | [], _ => true
 | o :: os, i => (isPure o.op || isRead o.op || memN al i == aloneA bef i ops.toList 0) && alEq ops bef al os (i + 1)
def lateOk (bef : Array Nat) (mk late : List Nat) : Bool := late.all fun i => mk.all fun d => Nat.ble i d || ahead bef d i
structure InvT (mk : List Nat) (n0 i : Nat) (ds : List Done) (st : St) : Prop where
 put : ∀ d ∈ ds, d.put = []
 cov : ∀ k, n0 ≤ k → k < st.n → ∃ d ∈ ds, d.lo ≤ k ∧ k < d.hi ∧ memN mk d.i = true ∧ d.i < i
 nam : ∀ x ∈ st.H, x.1 < st.n
theorem namesOk_mem : ∀ (H : Heap) (k : Nat), namesOk k H = true → ∀ x ∈ H, x.1 < k
 | [], _, _, x, hx => by cases hx
 | (j, b) :: H, k, h, x, hx => by
   simp only [namesOk] at h
   split at h
   · rename_i hj
     rcases List.mem_cons.1 hx with rfl | hx
     · exact (blt_iff _ _).1 hj
     · exact namesOk_mem H k h x hx
   · cases h
theorem lateOk_vis {bef : Array Nat} {mk late : List Nat} (hl : lateOk bef mk late = true) {n0 i : Nat} (hi : memN late i = true) {ds : List Done} {st : St} (hI : InvT mk n0 i ds st) {k : Nat} (hk : k < st.n) : visA bef n0 i ds k = true := by
 unfold visA
 rw [Bool.or_eq_true]
 rcases Nat.lt_or_ge k n0 with h | h
 · exact .inl ((blt_iff _ _).2 h)
 · obtain ⟨d, hd, h1, h2, h3, h4⟩ := hI.cov k h hk
   refine .inr (List.any_eq_true.2 ⟨d, hd, ?_⟩)
   have := List.all_eq_true.1 (List.all_eq_true.1 hl i ((memN_iff _ _).1 hi)) d.i ((memN_iff _ _).1 h3)
   rw [Bool.or_eq_true] at this
   rcases this with h | h
   · have := Nat.le_of_ble_eq_true h
     omega
   · simp only [Bool.and_eq_true]
     exact ⟨⟨Nat.ble_eq_true_of_le h1, (blt_iff _ _).2 h2⟩, h⟩
theorem footT {bef : Array Nat} {mk late : List Nat} (hl : lateOk bef mk late = true) {n0 i : Nat} {ds : List Done} {st : St} (hI : InvT mk n0 i ds st) {see : List Nat} (h : visT late n0 i st.n see = true) : footOk bef n0 i ds see [] = true := by
 unfold footOk
 simp only [Bool.and_eq_true]
 refine ⟨⟨List.all_eq_true.2 fun d hd => ?_, List.all_eq_true.2 fun k hk => ?_⟩, rfl⟩
 · simp [disj, hI.put d hd]
 · unfold visT at h
   rw [Bool.or_eq_true] at h
   rcases h with h | h
   · rw [Bool.and_eq_true] at h
     exact lateOk_vis hl h.1 hI ((blt_iff _ _).1 (List.all_eq_true.1 h.2 k hk))
   · have := List.all_eq_true.1 h k hk
     unfold visA
     rw [this, Bool.true_or]
theorem seeCall_dnames {bef : Array Nat} {n0 i : Nat} {ds : List Done} (hp : ∀ d ∈ ds, d.put = []) : ∀ H : Heap, (∀ x ∈ H, visA bef n0 i ds x.1 = true) → seeCall bef n0 i ds H = dnames H
 | [], _ => rfl
 | (k, b) :: H, hv => by
   have ih := seeCall_dnames hp H fun x hx => hv x (List.mem_cons_of_mem _ hx)
   have h1 := hv _ (List.mem_cons_self ..)
   have h2 : (ds.all fun d => ahead bef d.i i || !memN d.put k) = true := List.all_eq_true.2 fun d hd => by rw [hp d hd]; simp [memN]
   cases b <;> simp only [seeCall, dnames, h1, h2, ih, Bool.and_self, if_true]
theorem dnames_mem : ∀ (H : Heap) (k : Nat), k ∈ dnames H → ∃ b, (k, b) ∈ H
 | [], k, h => by cases h
 | (j, b) :: H, k, h => by
   have go : k ∈ dnames H → ∃ b', (k, b') ∈ (j, b) :: H := fun h => by
     obtain ⟨b', h'⟩ := dnames_mem H k h
     exact ⟨b', List.mem_cons_of_mem _ h'⟩
   cases b <;> simp only [dnames] at h
   all_goals first
     | exact go h
     | rcases List.mem_cons.1 h with rfl | h
       · exact ⟨_, List.mem_cons_self ..⟩
       · exact go h
theorem InvT.same {mk : List Nat} {n0 i : Nat} {ds : List Done} {st : St} (hI : InvT mk n0 i ds st) {fr : Fr} : InvT mk n0 (i + 1) ds { st with fr := fr } :=
 ⟨hI.put, fun k h1 h2 => by obtain ⟨d, a, b, c, e, f⟩ := hI.cov k h1 h2; exact ⟨d, a, b, c, e, by omega⟩, hI.nam⟩
theorem InvT.next {mk : List Nat} {n0 i : Nat} {ds : List Done} {st : St} (hI : InvT mk n0 i ds st) {fr : Fr} {see : List Nat} {H : Heap} {k : Nat} (hn : ∀ x ∈ H, x.1 < k) (hm : (Nat.beq k st.n || memN mk i) = true) : InvT mk n0 (i + 1) (⟨i, see, [], st.n, k⟩ :: ds) { st with fr := fr, H := H, n := k } := by
 refine ⟨fun d hd => ?_, fun j h1 h2 => ?_, hn⟩
 · rcases List.mem_cons.1 hd with rfl | hd
   · rfl
   · exact hI.put d hd
 · rcases Nat.lt_or_ge j st.n with h | h
   · obtain ⟨d, a, b, c, e, f⟩ := hI.cov j h1 h
     exact ⟨d, List.mem_cons_of_mem _ a, b, c, e, by omega⟩
   · rw [Bool.or_eq_true] at hm
     have h2 : j < k := h2
     rcases hm with hm | hm
     · have := Nat.eq_of_beq_eq_true hm
       omega
     · exact ⟨_, List.mem_cons_self .., h, h2, hm, Nat.lt_succ_self _⟩
theorem handT_ok {P : Program} {r : Rec} {bef : Array Nat} {mk : List Nat} {n0 i : Nat} {ds : List Done} {o : Oper} {fr : Fr} {st st' : St} (hI : InvT mk n0 i ds st) {see : List Nat} (hf : footOk bef n0 i ds see [] = true) (h : handT P r mk i o see fr st = some st') : ∃ ds', handOp P r bef n0 i ds o see [] fr st = some (st', ds') ∧ InvT mk n0 (i + 1) ds' st' := by
 have hb : ∀ (H' H : Heap), backA [] H' H = H := fun H' H => by
   induction H with
   | nil => rfl
   | cons x H ih => obtain ⟨k, b⟩ := x; simp only [backA, memN, ih]
 unfold handT at h
 unfold handOp
 rw [hf]
 simp only
 split at h
 · rename_i v H k hv
   rw [hv]
   simp only
   split at h
   · rename_i hc
     simp only [Bool.and_eq_true] at hc
     injection h with h; subst h
     rw [hc.1.1, hc.1.2]
     simp only [hb, Bool.and_self]
     have hle := Nat.le_of_ble_eq_true hc.1.1
     refine ⟨_, rfl, hI.next (fun x hx => ?_) hc.2⟩
     rcases List.mem_append.1 hx with hx | hx
     · exact namesOk_mem _ _ hc.1.2 x hx
     · exact Nat.lt_of_lt_of_le (hI.nam x hx) hle
   · cases h
 · cases h
theorem opsT_ok {P : Program} {r : Rec} {ops : Array Oper} {bef : Array Nat} {al mk late : List Nat} (hl : lateOk bef mk late = true) {n0 : Nat} : ∀ (os : List Oper) (i : Nat) (st st' : St) (ds : List Done), alEq ops bef al os i = true → InvT mk n0 i ds st → opsT P r ops al mk late n0 os i st = some st' → opsD P r ops bef n0 os i ds st = some st'
 | [], _, st, st', ds, _, _, h => h
 | o :: os, i, st, st', ds, hal, hI, h => by
   simp only [alEq, Bool.and_eq_true, Bool.or_eq_true, beq_iff_eq] at hal
   have halo : isPure o.op = false → isRead o.op = false → memN al i = aloneA bef i ops.toList 0 := fun h1 h2 => by
     rcases hal.1 with (h | h) | h
     · rw [h1] at h; cases h
     · rw [h2] at h; cases h
     · exact h
   simp only [opsT] at h
   split at h
   · rename_i st1 h1
     have key : ∃ ds', oneD P r ops bef n0 i ds o st = some (st1, ds') ∧ InvT mk n0 (i + 1) ds' st1 := by
       unfold oneT at h1
       unfold oneD
       split at h1
       · cases h1
       · rename_i hd
         rw [hd]
         simp only
         split at h1
         · cases h1
         · rename_i hw
           rw [hw]
           injection h1 with h1; subst h1
           exact ⟨ds, rfl, hI.same⟩
         · rename_i hw
           rw [hw]
           simp only
           unfold doneT at h1
           unfold doneD
           split at h1
           · rename_i hp
             rw [hp]
             simp only
             unfold pureS at h1
             unfold pureOp
             split at h1
             · rename_i v a k hv
               rw [hv]
               simp only
               split at h1
               · rename_i hk
                 rw [hk]
                 injection h1 with h1; subst h1
                 exact ⟨ds, rfl, hI.same⟩
               · cases h1
             · cases h1
           · rename_i hp
             rw [hp]
             simp only
             split at h1
             · rename_i hrd
               rw [hrd]
               simp only
               split at h1
               · rename_i f hf
                 rw [hf]
                 simp only
                 unfold readT at h1
                 split at h1
                 · rename_i hv
                   unfold readOp
                   rw [footT hl hI hv]
                   simp only
                   split at h1
                   · rename_i v a b hv
                     rw [hv]
                     injection h1 with h1; subst h1
                     exact ⟨_, rfl, hI.next hI.nam (by simp)⟩
                   · cases h1
                 · cases h1
               · cases h1
             · rename_i hrd
               rw [hrd]
               simp only
               split at h1
               · rename_i hm
                 have ha : aloneA bef i ops.toList 0 = true := by rw [← halo hp hrd, hm]
                 rw [ha]
                 simp only
                 unfold aloneT at h1
                 unfold aloneOp
                 split at h1
                 · rename_i v H k hv
                   rw [hv]
                   simp only
                   split at h1
                   · rename_i hk
                     simp only [Bool.and_eq_true] at hk
                     rw [hk.1.1, hk.1.2]
                     injection h1 with h1; subst h1
                     exact ⟨_, rfl, hI.next (namesOk_mem _ _ hk.1.2) hk.2⟩
                   · cases h1
                 · cases h1
               · rename_i hm
                 have ha : aloneA bef i ops.toList 0 = false := by rw [← halo hp hrd, hm]
                 rw [ha]
                 simp only
                 split at h1
                 · rename_i f hf
                   rw [hf]
                   simp only
                   split at h1
                   · rename_i hv
                     rw [Bool.and_eq_true] at hv
                     rw [List.isEmpty_iff.1 hv.1]
                     exact handT_ok hI (footT hl hI hv.2) h1
                   · cases h1
                 · rename_i hf
                   rw [hf]
                   simp only
                   split at h1
                   · rename_i hv
                     have hvis : ∀ k, k < st.n → visA bef n0 i ds k = true := fun k hk => lateOk_vis hl hv hI hk
                     rw [seeCall_dnames hI.put st.H fun x hx => hvis _ (hI.nam x hx)]
                     refine handT_ok hI (footT hl hI ?_) h1
                     unfold visT
                     rw [hv]
                     simp only [Bool.true_and, Bool.or_eq_true]
                     refine .inl (List.all_eq_true.2 fun k hk => ?_)
                     obtain ⟨b, hb⟩ := dnames_mem _ _ hk
                     exact (blt_iff _ _).2 (hI.nam _ hb)
                   · cases h1
     obtain ⟨ds', h2, hI'⟩ := key
     simp only [opsD, h2]
     exact opsT_ok hl os (i + 1) st1 st' ds' hal.2 hI' h
   · cases h
def drawT (ops : Array Oper) (bef : Array Nat) (al mk late : List Nat) : Bool := drawOk ops bef && alEq ops bef al ops.toList 0 && lateOk bef mk late
section
variable {P : Program} {n0 : Nat} {ro : Option Nat} {st st' : St} {K : Ex → St → Prop} {r : Rec} {m : Nat}
theorem E.drawC (hm : P.follows .mixedOrders = true) (hr : RecOk P r m) (al mk late : List Nat) {id : Nat} {ops : Array Oper} (hd : drawT ops (Region.before ops) al mk late = true) (h : runT P r ops al mk late st = some st') (k : K .normal st') : E P n0 ro (.region id ops true) st K := by
 unfold drawT at hd
 simp only [Bool.and_eq_true] at hd
 unfold runT at h
 split at h
 · rename_i hn
   exact E.draw hm hr hd.1.1 (opsT_ok hd.2 _ _ _ _ [] hd.1.2 ⟨by simp, fun k h1 h2 => by omega, namesOk_mem _ _ hn⟩ h) k
 · cases h
end
attribute [simp] runT opsT oneT doneT handT aloneT readT visT dnames handA takeNew
end Go.Ab

namespace Go.Proofs.YtndlfijfjglkdaaGreatDoor
open Go Go.Ab Go.Proofs
theorem atV_take (l : List Gun) (s : ByteArray) (i : Nat) : atV (l.take i) s i = atV l s i := by
 unfold atV
 rw [List.take_take, Nat.min_self]
theorem whenV_name (s : ByteArray) : whenV (!nameB s) 8 = nameE s := by
 unfold whenV nameE
 cases nameB s <;> rfl
theorem slice_row {fr : Fr} {H : Heap} {n b i : Nat} {x y : Operand} {l : List Gun} (hi : i < l.length) (hx : evO Tryz.prog fr x = some (.slice (some ⟨b, 0, some 0⟩) l.length 0)) (hy : evO Tryz.prog fr y = some (iv i)) (hg : hget H b = some (.row (gcs l) 7)) :
   opSlice Tryz.prog 30 x none (some y) none fr H n = some (.slice (some ⟨b, 0, some 0⟩) i 0, H, n) := by
 have hu : usedA H 7 (some ⟨b, 0, some 0⟩) 0 = l.length := by simp [usedA, hg]
 have h0 : 0 < l.length := by omega
 simp only [opSlice, hx, evI, hy, Tryz.underlying30, show szA Tryz.prog 95 = some 7 from by simp, hu]
 simp [sliceA, boundA, show i ≤ l.length by omega, h0]
abbrev rowV (len : Nat) : Value := .agg ⟨[.slice (some ⟨10, 0, some 0⟩) len 0]⟩
theorem w31n : AC Tryz.prog 31 [nilV] [] 10 (iv (strE [])) [] 10 := by
 have hr := recT_ok (P := Tryz.prog) (l := [(114, g114), (113, g113)]) (by simp only [List.forall_mem_cons]; exact ⟨ok114, ok113, by simp⟩)
 refine AC.pure Tryz.func31 rfl (by kernel_rfl) rfl [] rfl ?_
 refine E.seq ?_
 refine E.reg hr (by simp; rfl) ?_
 refine E.seq ?_
 refine E.seq ?_
 refine E.drawC mixed hr [9, 10, 11] [4, 9, 10, 11] [1, 4, 9, 10, 11] (by kernel_rfl) (by simp [g113, g114, whenV, intsAt, intsOf, firstV]; rfl) ?_
 refine E.seq ?_
 refine E.reg hr (by simp; rfl) ?_
 refine E.cond (by rfl) (fun h => ?_) (fun h => ?_)
 rotate_left
 · simp at h
 refine E.seq ?_
 refine E.reg hr (by simp; rfl) ?_
 refine E.ret ?_
 exact pureK.ret rfl rfl (by simp [strE]) (by repeat first | exact sub_refl _ | refine sub_cons rfl ?_)
set_option maxRecDepth 100000 in
theorem w31 (l : List Gun) (hl : l.length < 2 ^ 63) : AC Tryz.prog 31 [rowV l.length] [(10, .row (gcs l) 7)] 11 (iv (strE l)) [(10, .row (gcs l) 7)] 11 := by
 have hr := recT_ok (P := Tryz.prog) (l := [(114, g114), (113, g113), (121, gSB nameB), (122, g122), (123, g123)]) (by simp only [List.forall_mem_cons]; exact ⟨ok114, ok113, ok121, ok122, ok123, by simp⟩)
 have hE : firstV [whenV (decide (l = [])) 12, whenV (decide (8 < (l.length : Int))) 5] = if l.length = 0 then 12 else if 8 < l.length then 5 else 0 := by
   by_cases h0 : l = []
   · simp [firstV, whenV, h0]
   · have h0' : l.length ≠ 0 := fun e => h0 (List.length_eq_zero_iff.1 e)
     by_cases h8 : 8 < l.length
     · simp [firstV, whenV, h0, h0', show (8 : Int) < l.length by omega, h8]
     · simp [firstV, whenV, h0, h0', show ¬ (8 : Int) < l.length by omega, h8]
 refine AC.pure Tryz.func31 rfl (by kernel_rfl) rfl [1, 23, 24, 25] rfl ?_
 refine E.seq ?_
 refine E.reg hr (by simp; rfl) ?_
 refine E.seq ?_
 refine E.seq ?_
 refine E.drawC mixed hr [9, 10, 11] [4, 9, 10, 11] [1, 4, 9, 10, 11] (by kernel_rfl) (by simp [g113, g114, intsAt, intsOf]; rfl) ?_
 refine E.seq ?_
 refine E.reg hr (by simp; rfl) ?_
 refine E.cond (by rfl) (fun h => ?_) (fun h => ?_)
 · simp at h
   refine E.seq ?_
   refine E.reg hr (by simp; rfl) ?_
   refine E.ret ?_
   exact pureK.ret rfl rfl (by rw [hE]; rw [hE] at h; unfold strE; simp only [one]; split <;> rename_i h0 <;> simp only [h0, if_true, if_false] at h ⊢; split <;> rename_i h8 <;> simp only [h8, if_true, if_false] at h ⊢; exact absurd trivial h) (by repeat first | exact sub_refl _ | refine sub_cons rfl ?_)
 simp at h
 rw [hE] at h
 have h0 : l.length ≠ 0 := fun e => by simp [e] at h
 have h8 : l.length ≤ 8 := by
   rcases Nat.lt_or_ge 8 l.length with h8 | h8
   · simp [h0, h8] at h
   · exact h8
 refine E.skip ?_
 refine E.seq ?_
 refine E.seq ?_
 refine E.reg hr (by simp; rfl) ?_
 refine E.block ?_
 refine E.loop ?_
 refine EL.ind (fun i : Nat => { fr := [(1, .pointer (some ⟨11, 0, none⟩)), (23, .slice (some ⟨10, 0, some 0⟩) l.length 0), (24, iv l.length), (25, iv i)], sz := 52, H := [(11, .cells [.slice (some ⟨10, 0, some 0⟩) l.length 0] 32), (10, .row (gcs l) 7)], n := 12, marks := [], vs := [1, 23, 24, 25] }) (fun i => l.length - i) (fun i => i ≤ l.length ∧ ∀ j, j < i → gunChk l j = 0) 0 (Leads.ren [11] rfl rfl rfl ⟨rfl, rfl⟩ (by simp) (by simp)) ⟨Nat.zero_le _, fun j hj => absurd hj (by omega)⟩ (fun _ => rfl) ?_
 intro i ⟨hi, hg⟩
 have hw : IntKind.i64.wrap ((i : Int) + 1) = (i : Int) + 1 := W_in (by omega) (by omega)
 refine E.seq ?_
 refine E.reg hr (by simp; rfl) ?_
 refine E.seq ?_
 refine E.cond (by rfl) (fun h => ?_) (fun h => ?_)
 · simp at h
   have hC := gunChk_at h
   have h7 : i * 7 + 7 ≤ l.length * 7 := by omega
   have hat : ∀ X Y : Blk, gunsAt ((12, X) :: (11, Y) :: (10, .row (gcs l) 7) :: []) ⟨10, 0, some 0⟩ i = some (l.take i) := fun X Y => by
     unfold gunsAt
     simp [gcs_takeN, gunsOf_gcs, show i < 9223372036854775808 by omega, show i * 7 ≤ l.length * 7 by omega]
   refine E.skip ?_
   refine E.seq ?_
   refine E.block ?_
   refine E.seq ?_
   refine E.reg hr (by simp [h, h7, gcs_take h]; rfl) ?_
   refine E.seq ?_
   have hE : firstV [whenV (!nameB l[i].name) 8, whenV (decide (0 ≤ atV l l[i].name i)) 9, l[i].err] = gunChk l i := by
     rw [hC, whenV_name]
     simp [whenV]
   refine E.drawC mixed hr [15, 16, 17] [2, 4, 11, 13, 15, 16, 17] [1, 2, 4, 11, 13, 15, 16, 17] (by kernel_rfl) (by simp [g113, g114, g122, g123, hat, atV_take, intsAt, intsOf, hE, slice_row h]; rfl) ?_
   refine E.seq ?_
   refine E.reg hr (by simp; rfl) ?_
   refine E.cond (by rfl) (fun h1 => ?_) (fun h1 => ?_)
   · simp at h1
     refine E.seq ?_
     refine E.reg hr (by simp; rfl) ?_
     refine E.ret ?_
     exact pureK.ret rfl rfl (by simp [strE_hit (by omega) h hg h1]) (by repeat first | exact sub_refl _ | refine sub_cons rfl ?_)
   · simp at h1
     refine E.skip ?_
     refine E.reg hr (by simp [hw]; rfl) ?_
     exact ⟨i + 1, Leads.ren [11] rfl rfl rfl ⟨rfl, rfl⟩ (by simp) (by simp), ⟨by omega, fun j hj => if e : j = i then e ▸ h1 else hg j (by omega)⟩, by dsimp only; omega⟩
 · simp at h
   refine E.exit ?_
   refine E.seq ?_
   refine E.reg hr (by simp; rfl) ?_
   refine E.ret ?_
   exact pureK.ret rfl rfl (by simp [strE_ok h0 (by omega) fun j hj => hg j (by omega)]) (by repeat first | exact sub_refl _ | refine sub_cons rfl ?_)
def g31 (args : List Value) (H : Heap) (n : Nat) : R := match args with
 | [.agg ⟨[.slice (some ⟨b, 0, some 0⟩) len 0]⟩] => match rowOf H b with
   | some (cs, 7) => match gunsOf cs with
     | some l => if len = l.length ∧ len < 2 ^ 63 then some (iv (strE l), H, n) else none
     | none => none
   | _ => none
 | [.agg ⟨[.slice none 0 0]⟩] => some (iv (strE []), H, n)
 | _ => none
theorem ok31 : EntOk Tryz.prog (31, g31) := by
 intro args H n v H' n' h'
 simp only [g31] at h'
 split at h'
 · rename_i b len
   split at h'
   · rename_i cs hb
     split at h'
     · rename_i l hl
       split at h'
       · rename_i hc
         injection h' with h'; injection h' with e1 e2; injection e2 with e2 e3; subst e1 e2 e3
         obtain ⟨rfl, hlt⟩ := hc
         have := gunsOf_ok _ _ hl
         subst this
         exact AC.liftP rfl (Part.row (fun x => [.agg ⟨[x]⟩]) (by intro φ φ0 s s0 h; simp [denL, den, h]) (by intro p s h; exact ⟨⟨h, trivial⟩, trivial⟩) hb (afL_gcs l) gsz ⟨_, _, w31 l hlt⟩)
       · cases h'
     · cases h'
   · cases h'
 · injection h' with h'; injection h' with e1 e2; injection e2 with e2 e3; subst e1 e2 e3
   exact AC.liftP rfl (Part.plain (by simp) [] (by simp [Seen]) gsz ⟨_, _, w31n⟩)
 · cases h'
end Go.Proofs.YtndlfijfjglkdaaGreatDoor

namespace Go.Ab
open Go
end Go.Ab

namespace Go.Proofs.YtndlfijfjglkdaaGreatDoor
open Go Go.Ab Go.Proofs
theorem gcs_succ {l : List Gun} {i : Nat} (h : i < l.length) : gcs (l.take (i + 1)) = gcs (l.take i) ++ l[i].cells := by
 rw [List.take_succ_eq_append_getElem h]
 unfold gcs
 rw [List.flatMap_append]
 simp
abbrev H21 (o : Nat) (l : List Gun) (c : Nat) (s : Value) : Heap := [(13, .cells [s] 32), (12, .cells [.slice none 0 0] 32), (11, .cells [.slice (some ⟨10, o, none⟩) l.length c] 24), (10, .inp o (gcs l))]
def S21 (l : List Gun) (o c : Nat) : Nat → St
 | 0 => { fr := [(2, .pointer (some ⟨12, 0, none⟩)), (3, .pointer (some ⟨13, 0, none⟩)), (7, .slice (some ⟨10, o, none⟩) l.length c), (8, iv l.length), (9, iv 0)], sz := 21, H := H21 o l c (.slice none 0 0), n := 14, marks := [], vs := [2, 3, 7, 8, 9] }
 | i + 1 => { fr := [(2, .pointer (some ⟨12, 0, none⟩)), (3, .pointer (some ⟨13, 0, none⟩)), (7, .slice (some ⟨10, o, none⟩) l.length c), (8, iv l.length), (9, iv (i + 1 : Nat))], sz := 21, H := (14, .ext (gcs (l.take (i + 1))) 95 7) :: H21 o l c (.slice (some ⟨14, 0, some 0⟩) (i + 1) 0), n := 15, marks := [], vs := [2, 3, 7, 8, 9] }
def strQ (l : List Gun) (u : Value) (H : Heap) : Prop := if l = [] then u = nilV else ∃ m, u = .agg ⟨[.slice (some ⟨m, 0, some 0⟩) l.length 0]⟩ ∧ hget H m = some (.ext (gcs l) 95 7) ∧ 11 ≤ m
set_option maxRecDepth 100000 in
theorem w21 (l : List Gun) (o c : Nat) (hne : l ≠ []) (hl : l.length ≤ 4096) : ∃ u H1 n1 H2, AC Tryz.prog 21 [strV o l.length c] [(10, .inp o (gcs l))] 11 u H1 n1 ∧ strQ l u H2 ∧ (af u = false → H1 = H2) := by
 have hr := recT_ok (P := Tryz.prog) (l := []) (by simp)
 have hpos : 0 < l.length := List.length_pos_iff.2 hne
 refine AC.out Tryz.func21 rfl (by kernel_rfl) rfl [2, 3, 7, 8, 9] ?_
 refine E.seq ?_
 refine E.reg hr (by simp; rfl) ?_
 refine E.seq ?_
 refine E.reg hr (by simp; rfl) ?_
 refine E.seq ?_
 refine E.seq ?_
 refine E.reg hr (by simp; rfl) ?_
 refine E.block ?_
 refine E.loop ?_
 refine EL.ind (S21 l o c) (fun i => l.length - i) (fun i => i ≤ l.length) 0 (.less rfl rfl rfl (by simp [S21]) (by simp [S21])) (Nat.zero_le _) (fun i => by cases i <;> rfl) ?_
 intro i hi
 rcases i with _ | i
 · have hw : IntKind.i64.wrap 1 = 1 := W_in (by omega) (by omega)
   refine E.seq ?_
   refine E.reg hr (by simp [S21]; rfl) ?_
   refine E.seq ?_
   refine E.cond (by rfl) (fun h => ?_) (fun h => ?_)
   · simp at h
     have hx := gcs_take hpos
     have hts : gcs (l.take 1) = l[0].cells := by rw [gcs_succ hpos]; simp [gcs]
     have h7 : 7 ≤ l.length * 7 := by omega
     rw [Nat.zero_mul, List.drop_zero] at hx
     refine E.skip ?_
     refine E.seq ?_
     refine E.block ?_
     refine E.seq ?_
     refine E.reg hr (by simp [hx, hpos, h7]; rfl) ?_
     refine E.reg hr (by simp; rfl) ?_
     refine E.reg hr (by simp [hw]; rfl) ?_
     exact ⟨1, Leads.ren [11, 12, 13, 16] rfl rfl rfl ⟨rfl, rfl⟩ (by simp [S21]) (by simp [S21, hts]), by omega, by dsimp only; omega⟩
   · simp at h
     exact absurd h hne
 · have hw : IntKind.i64.wrap ((i : Int) + 1 + 1) = (i : Int) + 1 + 1 := W_in (by omega) (by omega)
   have hlen : (gcs (l.take (i + 1))).length = (i + 1) * 7 := by rw [gcs_length, List.length_take, Nat.min_eq_left hi]
   have ht : List.take ((i + 1) * 7) (gcs (l.take (i + 1))) = gcs (l.take (i + 1)) := List.take_of_length_le (by omega)
   refine E.seq ?_
   refine E.reg hr (by simp [S21]; rfl) ?_
   refine E.seq ?_
   refine E.cond (by rfl) (fun h => ?_) (fun h => ?_)
   · simp at h
     have hlt : i + 1 < l.length := by omega
     have hltI : (i : Int) + 1 < l.length := by omega
     have hx := gcs_take hlt
     have hts := gcs_succ hlt
     have h7 : (i + 1) * 7 + 7 ≤ l.length * 7 := by omega
     have hno : ¬ (i + 1 + 1) * 7 ≤ (i + 1) * 7 := by omega
     have hsm : (i + 1 + 1) * 64 ≤ 1099511627776 ∧ (i + 1 + 1) * 7 ≤ 1099511627776 ∧ i + 1 + 1 ≤ 1099511627776 := by omega
     refine E.skip ?_
     refine E.seq ?_
     refine E.block ?_
     refine E.seq ?_
     refine E.reg hr (by simp [hx, hltI, h7]; rfl) ?_
     refine E.reg hr (by simp [hsm, ht, hlen, hno]; rfl) ?_
     refine E.reg hr (by simp [hw]; rfl) ?_
     exact ⟨i + 2, Leads.ren [11, 12, 13, 17] rfl rfl rfl ⟨rfl, rfl⟩ (by simp [S21]) (by simp [S21, hts]), by omega, by dsimp only; omega⟩
   · simp at h
     have hal : l.take (i + 1) = l := List.take_of_length_le (by omega)
     have hll : l.length = i + 1 := by omega
     refine E.exit ?_
     refine E.seq ?_
     refine E.reg hr (by simp; rfl) ?_
     refine E.ret ?_
     refine outK.ret rfl rfl ?_
     simp [strQ, hne, hal, hll]
     exact ⟨14, by kernel_rfl, by simp, by omega⟩
end Go.Proofs.YtndlfijfjglkdaaGreatDoor

namespace Go.Proofs.YtndlfijfjglkdaaGreatDoor
open Go Go.Ab Go.Proofs
set_option maxRecDepth 100000 in
theorem w21e (o c : Nat) : AC Tryz.prog 21 [strV o 0 c] [(10, .inp o (gcs []))] 11 nilV [(10, .inp o (gcs []))] 11 := by
 have hr := recT_ok (P := Tryz.prog) (l := []) (by simp)
 refine AC.pure Tryz.func21 rfl (by kernel_rfl) rfl [2, 3, 7, 8, 9] rfl ?_
 refine E.seq ?_
 refine E.reg hr (by simp; rfl) ?_
 refine E.seq ?_
 refine E.reg hr (by simp; rfl) ?_
 refine E.seq ?_
 refine E.seq ?_
 refine E.reg hr (by simp; rfl) ?_
 refine E.block ?_
 refine E.loop ?_
 refine EL.step ?_
 refine E.seq ?_
 refine E.reg hr (by simp; rfl) ?_
 refine E.seq ?_
 refine E.cond (by rfl) (fun h => ?_) (fun h => ?_)
 · simp at h
 refine E.exit ?_
 refine E.seq ?_
 refine E.reg hr (by simp; rfl) ?_
 refine E.ret ?_
 exact pureK.ret rfl rfl (by simp; kernel_rfl) (by repeat first | exact sub_refl _ | refine sub_cons rfl ?_)
set_option maxRecDepth 100000 in
theorem w21n : AC Tryz.prog 21 [nilV] [] 10 nilV [] 10 := by
 have hr := recT_ok (P := Tryz.prog) (l := []) (by simp)
 refine AC.pure Tryz.func21 rfl (by kernel_rfl) rfl [2, 3, 7, 8, 9] rfl ?_
 refine E.seq ?_
 refine E.reg hr (by simp; rfl) ?_
 refine E.seq ?_
 refine E.reg hr (by simp; rfl) ?_
 refine E.seq ?_
 refine E.seq ?_
 refine E.reg hr (by simp; rfl) ?_
 refine E.block ?_
 refine E.loop ?_
 refine EL.step ?_
 refine E.seq ?_
 refine E.reg hr (by simp; rfl) ?_
 refine E.seq ?_
 refine E.cond (by rfl) (fun h => ?_) (fun h => ?_)
 · simp at h
 refine E.exit ?_
 refine E.seq ?_
 refine E.reg hr (by simp; rfl) ?_
 refine E.ret ?_
 exact pureK.ret rfl rfl (by simp; kernel_rfl) (by repeat first | exact sub_refl _ | refine sub_cons rfl ?_)
def g21 (args : List Value) (H : Heap) (n : Nat) : R := match args with
 | [v] => match strAt H v with
   | some l => if l = [] then some (nilV, H, n) else if l.length ≤ 4096 then some (.agg ⟨[.slice (some ⟨n, 0, some 0⟩) l.length 0]⟩, (n, .ext (gcs l) 95 7) :: H, n + 1) else none
   | none => none
 | _ => none
theorem names_sx (l c : Nat) : Names1 fun m => .slice (some ⟨m, 0, some 0⟩) l c := ⟨fun φ ψ m n h1 h2 => by simp [den, h1, h2], fun p n h => by simp [sc, h]⟩
theorem names_str (l c : Nat) : Names1 fun m => .agg ⟨[.slice (some ⟨m, 0, some 0⟩) l c]⟩ := ⟨fun φ ψ m n h1 h2 => by simp [den, denL, h1, h2], fun p n h => by simp [sc, scL, h]⟩
theorem ok21 : EntOk Tryz.prog (21, g21) := by
 intro args H n v H' n' h'
 simp only [g21] at h'
 split at h'
 · rename_i x
   split at h'
   · rename_i l hx
     split at h'
     · rename_i hl
       subst hl
       injection h' with h'; injection h' with e1 e2; injection e2 with e2 e3; subst e1 e2 e3
       unfold strAt at hx
       split at hx
       · exact AC.liftP (by simp) (Part.plain (by simp) [] (by simp [Seen]) gsz ⟨_, _, w21n⟩)
       · obtain ⟨hf, hc, hlen, hlt⟩ := gunsAt_ok hx
         subst hlen
         exact AC.liftP (by simp) (Part.one (fun s => [.agg ⟨[s]⟩]) (by intro φ φ0 s s0 h; simp [denL, den, h]) (by intro p s h; exact ⟨⟨h, trivial⟩, trivial⟩) hf hc (afL_gcs []) [] (by simp [Seen]) gsz fun c => ⟨_, _, w21e _ c⟩)
       · cases hx
     rename_i hne
     split at h'
     · rename_i hle
       injection h' with h'; injection h' with e1 e2; injection e2 with e2 e3; subst e1 e2 e3
       unfold strAt at hx
       split at hx
       · injection hx with hx; exact absurd hx.symm hne
       · obtain ⟨hf, hc, hlen, hlt⟩ := gunsAt_ok hx
         subst hlen
         refine AC.liftF (names_str _ _) (.inr ⟨_, _, _, rfl, afL_gcs l⟩) (Part.one (fun s => [.agg ⟨[s]⟩]) (by intro φ φ0 s s0 h; simp [denL, den, h]) (by intro p s h; exact ⟨⟨h, trivial⟩, trivial⟩) hf hc (afL_gcs l) [] (by simp [Seen]) gsz fun c => ?_)
         obtain ⟨u, H1, n1, H2, hAC, hq, hh⟩ := w21 l _ c hne hle
         unfold strQ at hq
         rw [if_neg hne] at hq
         obtain ⟨m, hv, hm, hle⟩ := hq
         subst hv
         have := hh rfl
         subst this
         exact ⟨m, _, _, hle, hm, hAC⟩
       · cases hx
     · cases h'
   · cases h'
 · cases h'
end Go.Proofs.YtndlfijfjglkdaaGreatDoor

namespace Go.Proofs.YtndlfijfjglkdaaGreatDoor
open Go Go.Ab Go.Proofs
end Go.Proofs.YtndlfijfjglkdaaGreatDoor

namespace Go.Ab
open Go Go.ChangeShapes Go.WideShapes
inductive Leaf where
 | int (k : IntKind) | str | bool | flt (k : FloatKind)
 deriving DecidableEq
def Leaf.fits : Leaf → Value → Prop
 | .int k, v => ∃ n, v = .int k n ∧ (Lit.int k n).wf = true
 | .str, v => ∃ s : ByteArray, v = .string s ∧ s.size ≤ maxLen
 | .bool, v => ∃ b, v = .bool b
 | .flt k, v => ∃ b, v = .float k b
def fitsL : List Leaf → List Value → Prop
 | [], [] => True
 | l :: ls, v :: vs => l.fits v ∧ fitsL ls vs
 | _, _ => False
def leafs (P : Program) : Nat → TypeId → Option (List Leaf)
 | 0, _ => none
 | d + 1, t => match P.underlying t with
   | some .bool => some [.bool]
   | some .string => some [.str]
   | some (.int k) => some [.int k]
   | some (.float k) => some [.flt k]
   | some (.array n e) => match leafs P d e with
     | some l => if l.length = P.cellsOf e ∧ P.cellsOf t = n * l.length then some (List.replicate n l).flatten else none
     | none => none
   | some (.struct fs) => match fs.toList.foldlM (fun acc f => if f.offset = acc.length then (leafs P d f.type).bind fun l => if l.length = P.cellsOf f.type then some (acc ++ l) else none else none) [] with
     | some l => if l.length = P.cellsOf t then some l else none
     | none => none
   | _ => none
theorem fitsL_append : ∀ {a : List Leaf} {x : List Value} {b : List Leaf} {y : List Value}, fitsL a x → fitsL b y → fitsL (a ++ b) (x ++ y)
 | [], [], _, _, _, h => h
 | _ :: _, _ :: _, _, _, ⟨h1, h2⟩, h => ⟨h1, fitsL_append h2 h⟩
 | [], _ :: _, _, _, h, _ => h.elim
 | _ :: _, [], _, _, h, _ => h.elim
theorem fitsL_length : ∀ {a : List Leaf} {x : List Value}, fitsL a x → x.length = a.length
 | [], [], _ => rfl
 | _ :: _, _ :: _, ⟨_, h2⟩ => congrArg (· + 1) (fitsL_length h2)
 | [], _ :: _, h => h.elim
 | _ :: _, [], h => h.elim
section
variable {H : Type} {enc : TypeId × Value → H} {P : Program} {w : World} {base : Nat} {spare : Nat → Bool} {held : Bool}
theorem leafs_ok : ∀ (d : Nat) (t : TypeId) (ls : List Leaf) (fuel : Nat) (cs : List Value) (x : DataW H × List MemPlace), leafs P d t = some ls → DataW.trod enc P w base spare held fuel t cs = some x → fitsL ls cs
 | 0, _, _, _, _, _, hl, _ => by simp [leafs] at hl
 | d + 1, t, ls, fuel, cs, x, hl, h => by
   unfold leafs at hl
   split at hl
   · rename_i ht
     injection hl with hl; subst hl
     obtain ⟨b, rfl, _⟩ := DataW.trod_bool ht h
     exact ⟨⟨b, rfl⟩, trivial⟩
   · rename_i ht
     injection hl with hl; subst hl
     obtain ⟨b, rfl, _, hs⟩ := DataW.trod_string ht h
     exact ⟨⟨b, rfl, hs⟩, trivial⟩
   · rename_i k ht
     injection hl with hl; subst hl
     obtain ⟨b, rfl, _, hs⟩ := DataW.trod_int ht h
     exact ⟨⟨b, rfl, hs⟩, trivial⟩
   · rename_i k ht
     injection hl with hl; subst hl
     cases fuel with
     | zero => simp [DataW.trod] at h
     | succ n =>
       unfold DataW.trod at h
       rw [ht] at h
       split at h <;> simp_all
       obtain ⟨⟨rfl, _⟩, _⟩ := h
       exact ⟨⟨_, rfl⟩, trivial⟩
   · rename_i n e ht
     obtain ⟨xs, m, rfl, _, hlen, hxl, hel⟩ := DataW.trod_array ht h
     split at hl
     · rename_i l he
       split at hl
       · rename_i hc
         injection hl with hl; subst hl
         have key : ∀ k, k ≤ n → fitsL (List.replicate k l).flatten (cs.take (k * l.length)) := by
           intro k
           induction k with
           | zero => intro _; simp [fitsL]
           | succ k ih =>
             intro hk
             have h1 := hel k (by omega)
             obtain ⟨y, hy⟩ : ∃ y, xs[k]? = some y := ⟨xs[k]'(by omega), by simp⟩
             rw [hy] at h1
             have h2 := leafs_ok d e l m _ y he h1
             rw [List.replicate_succ', List.flatten_append, Nat.succ_mul, List.take_add]
             rw [← hc.1] at h2
             simpa using fitsL_append (ih (by omega)) h2
         have := key n (Nat.le_refl _)
         rw [List.take_of_length_le (by rw [hlen, hc.2]; exact Nat.le_refl _)] at this
         exact this
       · cases hl
     · cases hl
   · rename_i fs ht
     obtain ⟨xs, m, rfl, _, hlen, hxl, hel⟩ := DataW.trod_struct ht h
     split at hl
     · rename_i l hf
       split at hl
       · rename_i hc
         injection hl with hl; subst hl
         have key : ∀ (fl : List Field) (acc res : List Leaf), fl.foldlM (fun acc f => if f.offset = acc.length then (leafs P d f.type).bind fun l => if l.length = P.cellsOf f.type then some (acc ++ l) else none else none) acc = some res →
             fitsL acc (cs.take acc.length) → (∀ f ∈ fl, ∃ y, DataW.trod enc P w base spare held m f.type ((cs.drop f.offset).take (P.cellsOf f.type)) = some y) → fitsL res (cs.take res.length) := by
           intro fl
           induction fl with
           | nil => intro acc res h1 h2 _; injection h1 with h1; subst h1; exact h2
           | cons f fl ih =>
             intro acc res h1 h2 h3
             rw [List.foldlM_cons] at h1
             simp only [Option.bind_eq_bind, Option.bind_eq_some_iff] at h1
             obtain ⟨acc', h1, h4⟩ := h1
             split at h1
             · rename_i ho
               rw [Option.bind_eq_some_iff] at h1
               obtain ⟨l', h5, h6⟩ := h1
               split at h6
               · rename_i hc'
                 injection h6 with h6; subst h6
                 obtain ⟨y, hy⟩ := h3 f (List.mem_cons_self ..)
                 have := leafs_ok d f.type l' m _ y h5 hy
                 rw [← hc', ho] at this
                 refine ih _ _ h4 ?_ fun g hg => h3 g (List.mem_cons_of_mem _ hg)
                 rw [List.length_append, List.take_add]
                 exact fitsL_append h2 this
               · cases h6
             · cases h1
         have := key fs.toList [] _ hf (by simp [fitsL]) fun f hf => by
           obtain ⟨i, hi, rfl⟩ := List.getElem_of_mem hf
           have h1 := hel i fs[i] (by simp)
           obtain ⟨y, hy⟩ : ∃ y, xs[i]? = some y := ⟨xs[i]'(by rw [hxl]; simpa using hi), by simp⟩
           rw [hy] at h1
           exact ⟨y, by simpa using h1⟩
         rw [List.take_of_length_le (by rw [hlen, hc]; exact Nat.le_refl _)] at this
         exact this
       · cases hl
     · cases hl
   · cases hl
theorem flatten_get {m : Nat} (hm : 0 < m) : ∀ (rows : List (List Value)) (j : Nat), (∀ r ∈ rows, r.length = m) → rows.flatten[j]? = (rows[j / m]?).bind (·[j % m]?)
 | [], j, _ => by simp
 | r :: rows, j, h => by
   have hr := h r (List.mem_cons_self ..)
   rw [List.flatten_cons]
   rcases Nat.lt_or_ge j m with hj | hj
   · rw [List.getElem?_append_left (by omega), Nat.div_eq_of_lt hj, Nat.mod_eq_of_lt hj]
     simp
   · rw [List.getElem?_append_right (by omega), hr, flatten_get hm rows (j - m) fun r hr => h r (List.mem_cons_of_mem _ hr)]
     obtain ⟨k, rfl⟩ : ∃ k, j = k + m := ⟨j - m, by omega⟩
     rw [Nat.add_sub_cancel, Nat.add_div_right _ hm, Nat.add_mod_right, List.getElem?_cons_succ]
theorem flatten_length {m : Nat} : ∀ (rows : List (List Value)), (∀ r ∈ rows, r.length = m) → rows.flatten.length = rows.length * m
 | [], _ => by simp
 | r :: rows, h => by
   rw [List.flatten_cons, List.length_append, flatten_length rows fun r hr => h r (List.mem_cons_of_mem _ hr), h r (List.mem_cons_self ..), List.length_cons, Nat.succ_mul, Nat.add_comm]
theorem open_slice {t e : TypeId} {d fuel : Nat} {ls : List Leaf} {cs : List Value} {x : DataW H × List MemPlace} (ht : P.underlying t = some (.slice e)) (hl : leafs P d e = some ls) (hc : ls.length = P.cellsOf e) (hpos : 0 < ls.length)
   (h : DataW.trod enc P w base spare held fuel t cs = some x) :
   cs = [.slice none 0 0] ∨ ∃ (a : Addr) (len cap : Nat) (rows : List (List Value)), cs = [.slice (some a) len cap] ∧ len ≤ cap ∧ cap ≤ maxLen ∧ rows.length = len ∧ (∀ r ∈ rows, fitsL ls r) ∧
     (a.spot = none → ∀ j, j < rows.flatten.length → w.cell? ⟨a.block, a.off + j, none⟩ = rows.flatten[j]?) := by
 rcases DataW.trod_slice ht h with ⟨h0, _⟩ | ⟨a, len, cap, elems, rest, n, _, rfl, _, hb, hlc, hm, hlen, hel, _⟩
 · exact .inl h0
 right
 have each : ∀ i, i < len → ∃ r, w.cells? base (a.add (i * P.cellsOf e)) (P.cellsOf e) = some r ∧ fitsL ls r := fun i hi => by
   have h1 := hel i hi
   obtain ⟨y, hy⟩ : ∃ y, elems[i]? = some y := ⟨elems[i]'(by omega), by simp⟩
   rw [hy, Option.bind_eq_some_iff] at h1
   obtain ⟨r, h2, h3⟩ := h1
   exact ⟨r, h2, leafs_ok d e ls n r y hl h3⟩
 let rows : List (List Value) := (List.range len).map fun i => (w.cells? base (a.add (i * P.cellsOf e)) (P.cellsOf e)).getD []
 have hrow : ∀ i, i < len → ∃ r, rows[i]? = some r ∧ w.cells? base (a.add (i * P.cellsOf e)) (P.cellsOf e) = some r ∧ fitsL ls r := fun i hi => by
   obtain ⟨r, h1, h2⟩ := each i hi
   exact ⟨r, by simp [rows, hi, h1], h1, h2⟩
 have hfit : ∀ r ∈ rows, fitsL ls r := fun r hr => by
   obtain ⟨i, hi⟩ := List.getElem?_of_mem hr
   have hi' := (List.getElem?_eq_some_iff.1 hi).1
   simp [rows] at hi'
   obtain ⟨r', h1, _, h2⟩ := hrow i hi'
   rw [hi] at h1; injection h1 with h1; subst h1; exact h2
 refine ⟨a, len, cap, rows, rfl, hlc, hm, by simp [rows], hfit, fun hs j hj => ?_⟩
 have hw : ∀ r ∈ rows, r.length = ls.length := fun r hr => fitsL_length (hfit r hr)
 rw [flatten_length rows hw] at hj
 rw [flatten_get hpos rows j hw]
 have hjl : j / ls.length < len := by
   rw [Nat.div_lt_iff_lt_mul hpos]
   simpa [rows] using hj
 obtain ⟨r, h1, h2, h3⟩ := hrow _ hjl
 rw [h1, Option.bind_some]
 have h4 := (World.cells?_some h2).2.2 (j % ls.length) (by rw [← hc]; exact Nat.mod_lt _ hpos)
 rw [← h4, ← hc]
 congr 1
 have hadd : ∀ (b : Addr) (k : Nat), b.spot = none → b.add k = ⟨b.block, b.off + k, none⟩ := fun b k hb => by
   unfold Addr.add
   split
   · rename_i h0; subst h0; cases b; simp_all
   · rfl
 rw [hadd a _ hs, hadd _ _ rfl]
 have := Nat.div_add_mod j ls.length
 rw [Nat.mul_comm] at this
 simp only [Nat.add_assoc, this]
theorem okWide_addr {r : Reach} {t e : TypeId} {a : Addr} {len cap : Nat} (ht : P.underlying t = some (.slice e)) (h : Cell.okWide P w r base t (.slice (some a) len cap)) : a.spot = none ∧ ∃ c t fz, w.heap[a.block]? = some (.cells c t fz) := by
 unfold Cell.okWide at h
 rw [ht] at h
 simp only at h
 unfold Cell.ok at h
 rw [ht] at h
 obtain ⟨_, _, _, hs, row, cells, hsh, _⟩ := h
 refine ⟨hs, ?_⟩
 unfold World.shape? at hsh
 split at hsh
 · rename_i c el fz hw
   exact ⟨c, el, fz, hw⟩
 · cases hsh
theorem cell_get {b o : Nat} {c : Array Value} {t : TypeId} {fz : Nat × Nat} (hw : w.heap[b]? = some (.cells c t fz)) : w.cell? ⟨b, o, none⟩ = c[o]? := by
 unfold World.cell?
 rw [hw]
 simp
theorem handed_slice {r : Reach} {b0 : Nat} {t e : TypeId} {d fuel : Nat} {ls : List Leaf} {v : Value} {x : DataW H × List MemPlace} (ht : P.underlying t = some (.slice e)) (hl : leafs P d e = some ls) (hc : ls.length = P.cellsOf e) (hpos : 0 < ls.length)
   (hok : Cell.okWide P w r b0 t v) (h : DataW.trod enc P w base spare held fuel t [v] = some x) :
   v = .slice none 0 0 ∨ ∃ (b o len cap : Nat) (rows : List (List Value)), v = .slice (some ⟨b, o, none⟩) len cap ∧ len ≤ cap ∧ cap ≤ maxLen ∧ rows.length = len ∧ (∀ r ∈ rows, fitsL ls r) ∧
     ∃ c t fz, w.heap[b]? = some (.cells c t fz) ∧ ∀ i, i < rows.flatten.length → c[o + i]? = rows.flatten[i]? := by
 rcases open_slice ht hl hc hpos h with h0 | ⟨⟨b, o, s⟩, len, cap, rows, h1, h2, h3, h4, h5, h6⟩
 · left; simpa using h0
 · right
   obtain rfl : v = .slice (some ⟨b, o, s⟩) len cap := by simpa using h1
   obtain ⟨hs, c, t', fz, hw⟩ := okWide_addr ht hok
   have hs : s = none := hs
   subst hs
   exact ⟨b, o, len, cap, rows, rfl, h2, h3, h4, h5, c, t', fz, hw, fun i hi => by rw [← cell_get hw, h6 rfl i hi]⟩
theorem handed_str {r : Reach} {b0 : Nat} {t u e : TypeId} {d : Nat} {fs : Array Field} {f : Field} {ls : List Leaf} {v : Value} {y : DataW H} {p : List MemPlace} (hs : P.underlying t = some (.struct fs)) (hf : fs[0]? = some f) (ho : f.offset = 0) (hft : f.type = u) (h1 : P.cellsOf t = 1) (h1' : P.cellsOf u = 1) (hct : P.cellTypes P.depth t = some [u])
   (ht : P.underlying u = some (.slice e)) (hl : leafs P d e = some ls) (hc : ls.length = P.cellsOf e) (hpos : 0 < ls.length)
   (hok : Value.okWide P w r b0 t v) (h : DataW.Trod enc P w base spare held t v y p) :
   v = .agg ⟨[.slice none 0 0]⟩ ∨ ∃ (b o len cap : Nat) (rows : List (List Value)), v = .agg ⟨[.slice (some ⟨b, o, none⟩) len cap]⟩ ∧ len ≤ cap ∧ cap ≤ maxLen ∧ rows.length = len ∧ (∀ r ∈ rows, fitsL ls r) ∧
     ∃ c t fz, w.heap[b]? = some (.cells c t fz) ∧ ∀ i, i < rows.flatten.length → c[o + i]? = rows.flatten[i]? := by
 unfold Value.okWide at hok
 rw [hs] at hok
 obtain ⟨cs, rfl, hsz, ts, hts, _, hrow⟩ := hok
 rw [hct] at hts
 injection hts with hts; subst hts
 rw [h1] at hsz
 obtain ⟨l⟩ := cs
 match l, hsz with
 | [v0], _ =>
   obtain ⟨u', h2, h3⟩ := hrow 0 v0 rfl
   obtain rfl : u = u' := by simpa using h2
   obtain ⟨fuel, h⟩ := h
   obtain ⟨xs, m, rfl, _, hlen, hxl, hel⟩ := DataW.trod_struct hs h
   have h4 := hel 0 f hf
   rw [ho, hft, h1'] at h4
   have hpos' : 0 < fs.size := (Array.getElem?_eq_some_iff.1 hf).1
   obtain ⟨y, hy⟩ : ∃ y, xs[0]? = some y := ⟨xs[0]'(by omega), by simp⟩
   rw [hy] at h4
   rcases handed_slice ht hl hc hpos h3 (by simpa [Value.cells] using h4) with rfl | ⟨b, o, len, cap, rows, rfl, h5⟩
   · exact .inl rfl
   · exact .inr ⟨b, o, len, cap, rows, rfl, h5⟩
end
end Go.Ab

namespace Go.Proofs.YtndlfijfjglkdaaGreatDoor
open Go Go.Ab Go.Proofs
def validB (l : List Gun) : Bool := shortS l && decide (l.length ≤ 6) && decide (strE l = 0)
theorem w52n : AC Tryz.prog 52 [nilV] [] 10 (.bool (validB [])) [] 10 := by
 have hr := recT_ok (P := Tryz.prog) (l := [(19, gStr fun l => .bool (shortS l)), (24, gStr fun l => iv (strE l))]) (by simp only [List.forall_mem_cons]; exact ⟨ok19, ok24, by simp⟩)
 refine AC.pure Tryz.func52 rfl (by kernel_rfl) rfl [2, 1, 0] rfl ?_
 refine E.seq ?_
 refine E.reg hr (by simp; rfl) ?_
 refine E.seq ?_
 refine E.reg hr (by simp [gStr, strAt, shortS, strE]; rfl) ?_
 refine E.ret ?_
 exact pureK.ret rfl rfl (by simp [validB, shortS, strE]) (by repeat first | exact sub_refl _ | refine sub_cons rfl ?_)
theorem w52 (l : List Gun) (o c : Nat) (hl : l.length < 2 ^ 63) : AC Tryz.prog 52 [strV o l.length c] [(10, .inp o (gcs l))] 11 (.bool (validB l)) [(10, .inp o (gcs l))] 11 := by
 have hr := recT_ok (P := Tryz.prog) (l := [(19, gStr fun l => .bool (shortS l)), (24, gStr fun l => iv (strE l))]) (by simp only [List.forall_mem_cons]; exact ⟨ok19, ok24, by simp⟩)
 have hat : gunsAt [(11, .cells [.slice (some ⟨10, o, none⟩) l.length c] 24), (10, .inp o (gcs l))] ⟨10, o, none⟩ l.length = some l := by
   unfold gunsAt
   simp [List.take_of_length_le, gunsOf_gcs, show l.length < 9223372036854775808 by omega]
 refine AC.pure Tryz.func52 rfl (by kernel_rfl) rfl [2, 1, 0] rfl ?_
 refine E.seq ?_
 refine E.reg hr (by simp; rfl) ?_
 refine E.seq ?_
 rcases Bool.eq_false_or_eq_true (shortS l) with h1 | h1
 · by_cases h6 : (l.length : Int) ≤ 6
   · refine E.reg hr (by simp [gStr, strAt, hat, h1, h6]; rfl) ?_
     refine E.ret ?_
     exact pureK.ret rfl rfl (by simp [validB, h1, show l.length ≤ 6 by omega]) (by repeat first | exact sub_refl _ | refine sub_cons rfl ?_)
   · refine E.reg hr (by simp [gStr, strAt, hat, h1, h6, undefV]; rfl) ?_
     refine E.ret ?_
     exact pureK.ret rfl rfl (by simp [validB, h1, show ¬ l.length ≤ 6 by omega]) (by repeat first | exact sub_refl _ | refine sub_cons rfl ?_)
 · refine E.reg hr (by simp [gStr, strAt, hat, h1, undefV]; rfl) ?_
   refine E.ret ?_
   exact pureK.ret rfl rfl (by simp [validB, h1]) (by repeat first | exact sub_refl _ | refine sub_cons rfl ?_)
theorem ok52 : EntOk Tryz.prog (52, gStr fun l => .bool (validB l)) := okStr (fun _ => rfl) w52n w52
end Go.Proofs.YtndlfijfjglkdaaGreatDoor

namespace Go.Ab
open Go
structure V2 where
 blk : Nat
 b : Blk
def V2.ok (H : Heap) (v : V2) : Prop := match v.b with
 | .inp o cs => (∃ m, cellsA H v.blk o m = some cs) ∧ afL cs = true
 | .row cs sz => rowOf H v.blk = some (cs, sz) ∧ afL cs = true
 | _ => False
end Go.Ab

namespace Go.Proofs.YtndlfijfjglkdaaGreatDoor
open Go Go.Ab Go.Proofs
theorem names_fl (l c : Nat) : Names1 fun m => .slice (some ⟨m, 0, none⟩) l c := ⟨fun φ ψ m n h1 h2 => by simp [den, h1], fun p n h => by simp [sc, h]⟩
end Go.Proofs.YtndlfijfjglkdaaGreatDoor

namespace Go.Proofs.YtndlfijfjglkdaaGreatDoor
open Go Go.Ab Go.Proofs
end Go.Proofs.YtndlfijfjglkdaaGreatDoor

namespace Go.Proofs.YtndlfijfjglkdaaGreatDoor
open Go Go.Ab Go.Proofs
end Go.Proofs.YtndlfijfjglkdaaGreatDoor

namespace Go.Proofs.YtndlfijfjglkdaaGreatDoor
open Go Go.Ab Go.Proofs
theorem strE_len {l : List Gun} (h : strE l = 0) : 1 ≤ l.length ∧ l.length ≤ 8 := by
 unfold strE at h
 split at h
 · omega
 · split at h <;> omega
end Go.Proofs.YtndlfijfjglkdaaGreatDoor

namespace Go.Proofs.YtndlfijfjglkdaaGreatDoor
open Go Go.Ab Go.Proofs
end Go.Proofs.YtndlfijfjglkdaaGreatDoor

namespace Go.Ab
open Go
end Go.Ab
namespace Go.Proofs.YtndlfijfjglkdaaGreatDoor
open Go Go.Ab Go.Proofs
end Go.Proofs.YtndlfijfjglkdaaGreatDoor

namespace Go.Proofs.YtndlfijfjglkdaaGreatDoor
open Go Go.Ab Go.Proofs
end Go.Proofs.YtndlfijfjglkdaaGreatDoor

namespace Go.Proofs.YtndlfijfjglkdaaGreatDoor
open Go Go.Ab Go.Proofs
end Go.Proofs.YtndlfijfjglkdaaGreatDoor

namespace Go.Proofs.YtndlfijfjglkdaaGreatDoor
open Go Go.Ab Go.Proofs
end Go.Proofs.YtndlfijfjglkdaaGreatDoor

namespace Go.Proofs.YtndlfijfjglkdaaGreatDoor
open Go Go.Ab Go.Proofs
end Go.Proofs.YtndlfijfjglkdaaGreatDoor

namespace Go.Proofs.YtndlfijfjglkdaaGreatDoor
open Go Go.Ab Go.Proofs
end Go.Proofs.YtndlfijfjglkdaaGreatDoor

namespace Go.Proofs.YtndlfijfjglkdaaGreatDoor
open Go Go.Ab Go.Proofs
end Go.Proofs.YtndlfijfjglkdaaGreatDoor

namespace Go.Proofs.YtndlfijfjglkdaaGreatDoor
open Go Go.Ab Go.Proofs
end Go.Proofs.YtndlfijfjglkdaaGreatDoor

namespace Go.Ab
open Go
end Go.Ab

namespace Go.Proofs.YtndlfijfjglkdaaGreatDoor
open Go Go.Ab Go.Proofs
end Go.Proofs.YtndlfijfjglkdaaGreatDoor

namespace Go.Ab
open Go
end Go.Ab
namespace Go.Proofs.YtndlfijfjglkdaaGreatDoor
open Go Go.Ab Go.Proofs
theorem gun_nums {l : List Gun} (h : strE l = 0) : ∀ g ∈ l, (1 ≤ g.v ∧ g.v ≤ 64) ∧ (-1000 ≤ g.x ∧ g.x ≤ 1000) ∧ (-1000 ≤ g.y ∧ g.y ≤ 1000) ∧ (0 ≤ g.d ∧ g.d ≤ 16) ∧ (0 ≤ g.lo ∧ g.lo ≤ 4) ∧ (0 ≤ g.hi ∧ g.hi ≤ 4) := by
 intro g hg
 obtain ⟨i, hi, rfl⟩ := List.getElem_of_mem hg
 have hl := strE_len h
 unfold strE at h
 rw [if_neg (by omega), if_neg (by omega)] at h
 have hc := (firstV_zero _).1 h (gunChk l i) (List.mem_map.2 ⟨i, by simpa using hi, rfl⟩)
 rw [gunChk_at hi] at hc
 have h2 := (firstV_zero _).1 hc l[i].err (by simp)
 unfold Gun.err at h2
 exact ⟨(withinV_zero _ _ _).1 ((firstV_zero _).1 h2 (withinV l[i].v 1 64) (by simp)), (withinV_zero _ _ _).1 ((firstV_zero _).1 h2 (withinV l[i].x (-1000) 1000) (by simp)), (withinV_zero _ _ _).1 ((firstV_zero _).1 h2 (withinV l[i].y (-1000) 1000) (by simp)), (withinV_zero _ _ _).1 ((firstV_zero _).1 h2 (withinV l[i].d 0 16) (by simp)), (withinV_zero _ _ _).1 ((firstV_zero _).1 h2 (withinV l[i].lo 0 4) (by simp)), (withinV_zero _ _ _).1 ((firstV_zero _).1 h2 (withinV l[i].hi 0 4) (by simp))⟩
end Go.Proofs.YtndlfijfjglkdaaGreatDoor

namespace Go.Proofs.YtndlfijfjglkdaaGreatDoor
open Go Go.Ab Go.Proofs
end Go.Proofs.YtndlfijfjglkdaaGreatDoor

namespace Go.Proofs.YtndlfijfjglkdaaGreatDoor
open Go Go.Ab Go.Proofs
end Go.Proofs.YtndlfijfjglkdaaGreatDoor

namespace Go.Proofs.YtndlfijfjglkdaaGreatDoor
open Go Go.Ab Go.Proofs
abbrev H55 (o : Nat) (l : List Gun) (c : Nat) (s : Value) : Heap := [(13, .cells [s] 24), (12, .cells [.slice none 0 0] 24), (11, .cells [.slice (some ⟨10, o, none⟩) l.length c] 32), (10, .inp o (gcs l))]
def S55 (l : List Gun) (o c : Nat) : Nat → St
 | 0 => { fr := [(2, .pointer (some ⟨12, 0, none⟩)), (3, .pointer (some ⟨13, 0, none⟩)), (7, .slice (some ⟨10, o, none⟩) l.length c), (8, iv l.length), (9, iv 0)], sz := 21, H := H55 o l c (.slice none 0 0), n := 14, marks := [], vs := [2, 3, 7, 8, 9] }
 | i + 1 => { fr := [(2, .pointer (some ⟨12, 0, none⟩)), (3, .pointer (some ⟨13, 0, none⟩)), (7, .slice (some ⟨10, o, none⟩) l.length c), (8, iv l.length), (9, iv (i + 1 : Nat))], sz := 21, H := (14, .ext (gcs (l.take (i + 1))) 94 7) :: H55 o l c (.slice (some ⟨14, 0, some 0⟩) (i + 1) 0), n := 15, marks := [], vs := [2, 3, 7, 8, 9] }
def strQ55 (l : List Gun) (u : Value) (H : Heap) : Prop := if l = [] then u = nilV else ∃ m, u = .agg ⟨[.slice (some ⟨m, 0, some 0⟩) l.length 0]⟩ ∧ hget H m = some (.ext (gcs l) 94 7) ∧ 11 ≤ m
set_option maxRecDepth 100000 in
theorem w55 (l : List Gun) (o c : Nat) (hne : l ≠ []) (hl : l.length ≤ 4096) : ∃ u H1 n1 H2, AC Tryz.prog 55 [strV o l.length c] [(10, .inp o (gcs l))] 11 u H1 n1 ∧ strQ55 l u H2 ∧ (af u = false → H1 = H2) := by
 have hr := recT_ok (P := Tryz.prog) (l := []) (by simp)
 have hpos : 0 < l.length := List.length_pos_iff.2 hne
 refine AC.out Tryz.func55 rfl (by kernel_rfl) rfl [2, 3, 7, 8, 9] ?_
 refine E.seq ?_
 refine E.reg hr (by simp; rfl) ?_
 refine E.seq ?_
 refine E.reg hr (by simp; rfl) ?_
 refine E.seq ?_
 refine E.seq ?_
 refine E.reg hr (by simp; rfl) ?_
 refine E.block ?_
 refine E.loop ?_
 refine EL.ind (S55 l o c) (fun i => l.length - i) (fun i => i ≤ l.length) 0 (.less rfl rfl rfl (by simp [S55]) (by simp [S55])) (Nat.zero_le _) (fun i => by cases i <;> rfl) ?_
 intro i hi
 rcases i with _ | i
 · have hw : IntKind.i64.wrap 1 = 1 := W_in (by omega) (by omega)
   refine E.seq ?_
   refine E.reg hr (by simp [S55]; rfl) ?_
   refine E.seq ?_
   refine E.cond (by rfl) (fun h => ?_) (fun h => ?_)
   · simp at h
     have hx := gcs_take hpos
     have hts : gcs (l.take 1) = l[0].cells := by rw [gcs_succ hpos]; simp [gcs]
     have h7 : 7 ≤ l.length * 7 := by omega
     rw [Nat.zero_mul, List.drop_zero] at hx
     refine E.skip ?_
     refine E.seq ?_
     refine E.block ?_
     refine E.seq ?_
     refine E.reg hr (by simp [hx, hpos, h7]; rfl) ?_
     refine E.reg hr (by simp; rfl) ?_
     refine E.reg hr (by simp [hw]; rfl) ?_
     exact ⟨1, Leads.ren [11, 12, 13, 16] rfl rfl rfl ⟨rfl, rfl⟩ (by simp [S55]) (by simp [S55, hts]), by omega, by dsimp only; omega⟩
   · simp at h
     exact absurd h hne
 · have hw : IntKind.i64.wrap ((i : Int) + 1 + 1) = (i : Int) + 1 + 1 := W_in (by omega) (by omega)
   have hlen : (gcs (l.take (i + 1))).length = (i + 1) * 7 := by rw [gcs_length, List.length_take, Nat.min_eq_left hi]
   have ht : List.take ((i + 1) * 7) (gcs (l.take (i + 1))) = gcs (l.take (i + 1)) := List.take_of_length_le (by omega)
   refine E.seq ?_
   refine E.reg hr (by simp [S55]; rfl) ?_
   refine E.seq ?_
   refine E.cond (by rfl) (fun h => ?_) (fun h => ?_)
   · simp at h
     have hlt : i + 1 < l.length := by omega
     have hltI : (i : Int) + 1 < l.length := by omega
     have hx := gcs_take hlt
     have hts := gcs_succ hlt
     have h7 : (i + 1) * 7 + 7 ≤ l.length * 7 := by omega
     have hno : ¬ (i + 1 + 1) * 7 ≤ (i + 1) * 7 := by omega
     have hsm : (i + 1 + 1) * 64 ≤ 1099511627776 ∧ (i + 1 + 1) * 7 ≤ 1099511627776 ∧ i + 1 + 1 ≤ 1099511627776 := by omega
     refine E.skip ?_
     refine E.seq ?_
     refine E.block ?_
     refine E.seq ?_
     refine E.reg hr (by simp [hx, hltI, h7]; rfl) ?_
     refine E.reg hr (by simp [hsm, ht, hlen, hno]; rfl) ?_
     refine E.reg hr (by simp [hw]; rfl) ?_
     exact ⟨i + 2, Leads.ren [11, 12, 13, 17] rfl rfl rfl ⟨rfl, rfl⟩ (by simp [S55]) (by simp [S55, hts]), by omega, by dsimp only; omega⟩
   · simp at h
     have hal : l.take (i + 1) = l := List.take_of_length_le (by omega)
     have hll : l.length = i + 1 := by omega
     refine E.exit ?_
     refine E.seq ?_
     refine E.reg hr (by simp; rfl) ?_
     refine E.ret ?_
     refine outK.ret rfl rfl ?_
     simp [strQ55, hne, hal, hll]
     exact ⟨14, by kernel_rfl, by simp, by omega⟩
set_option maxRecDepth 100000 in
theorem w55e (o c : Nat) : AC Tryz.prog 55 [strV o 0 c] [(10, .inp o (gcs []))] 11 nilV [(10, .inp o (gcs []))] 11 := by
 have hr := recT_ok (P := Tryz.prog) (l := []) (by simp)
 refine AC.pure Tryz.func55 rfl (by kernel_rfl) rfl [2, 3, 7, 8, 9] rfl ?_
 refine E.seq ?_
 refine E.reg hr (by simp; rfl) ?_
 refine E.seq ?_
 refine E.reg hr (by simp; rfl) ?_
 refine E.seq ?_
 refine E.seq ?_
 refine E.reg hr (by simp; rfl) ?_
 refine E.block ?_
 refine E.loop ?_
 refine EL.step ?_
 refine E.seq ?_
 refine E.reg hr (by simp; rfl) ?_
 refine E.seq ?_
 refine E.cond (by rfl) (fun h => ?_) (fun h => ?_)
 · simp at h
 refine E.exit ?_
 refine E.seq ?_
 refine E.reg hr (by simp; rfl) ?_
 refine E.ret ?_
 exact pureK.ret rfl rfl (by simp; kernel_rfl) (by repeat first | exact sub_refl _ | refine sub_cons rfl ?_)
set_option maxRecDepth 100000 in
theorem w55n : AC Tryz.prog 55 [nilV] [] 10 nilV [] 10 := by
 have hr := recT_ok (P := Tryz.prog) (l := []) (by simp)
 refine AC.pure Tryz.func55 rfl (by kernel_rfl) rfl [2, 3, 7, 8, 9] rfl ?_
 refine E.seq ?_
 refine E.reg hr (by simp; rfl) ?_
 refine E.seq ?_
 refine E.reg hr (by simp; rfl) ?_
 refine E.seq ?_
 refine E.seq ?_
 refine E.reg hr (by simp; rfl) ?_
 refine E.block ?_
 refine E.loop ?_
 refine EL.step ?_
 refine E.seq ?_
 refine E.reg hr (by simp; rfl) ?_
 refine E.seq ?_
 refine E.cond (by rfl) (fun h => ?_) (fun h => ?_)
 · simp at h
 refine E.exit ?_
 refine E.seq ?_
 refine E.reg hr (by simp; rfl) ?_
 refine E.ret ?_
 exact pureK.ret rfl rfl (by simp; kernel_rfl) (by repeat first | exact sub_refl _ | refine sub_cons rfl ?_)
def g55 (args : List Value) (H : Heap) (n : Nat) : R := match args with
 | [v] => match strAt H v with
   | some l => if l = [] then some (nilV, H, n) else if l.length ≤ 4096 then some (.agg ⟨[.slice (some ⟨n, 0, some 0⟩) l.length 0]⟩, (n, .ext (gcs l) 94 7) :: H, n + 1) else none
   | none => none
 | _ => none
theorem ok55 : EntOk Tryz.prog (55, g55) := by
 intro args H n v H' n' h'
 simp only [g55] at h'
 split at h'
 · rename_i x
   split at h'
   · rename_i l hx
     split at h'
     · rename_i hl
       subst hl
       injection h' with h'; injection h' with e1 e2; injection e2 with e2 e3; subst e1 e2 e3
       unfold strAt at hx
       split at hx
       · exact AC.liftP (by simp) (Part.plain (by simp) [] (by simp [Seen]) gsz ⟨_, _, w55n⟩)
       · obtain ⟨hf, hc, hlen, hlt⟩ := gunsAt_ok hx
         subst hlen
         exact AC.liftP (by simp) (Part.one (fun s => [.agg ⟨[s]⟩]) (by intro φ φ0 s s0 h; simp [denL, den, h]) (by intro p s h; exact ⟨⟨h, trivial⟩, trivial⟩) hf hc (afL_gcs []) [] (by simp [Seen]) gsz fun c => ⟨_, _, w55e _ c⟩)
       · cases hx
     rename_i hne
     split at h'
     · rename_i hle
       injection h' with h'; injection h' with e1 e2; injection e2 with e2 e3; subst e1 e2 e3
       unfold strAt at hx
       split at hx
       · injection hx with hx; exact absurd hx.symm hne
       · obtain ⟨hf, hc, hlen, hlt⟩ := gunsAt_ok hx
         subst hlen
         refine AC.liftF (names_str _ _) (.inr ⟨_, _, _, rfl, afL_gcs l⟩) (Part.one (fun s => [.agg ⟨[s]⟩]) (by intro φ φ0 s s0 h; simp [denL, den, h]) (by intro p s h; exact ⟨⟨h, trivial⟩, trivial⟩) hf hc (afL_gcs l) [] (by simp [Seen]) gsz fun c => ?_)
         obtain ⟨u, H1, n1, H2, hAC, hq, hh⟩ := w55 l _ c hne hle
         unfold strQ55 at hq
         rw [if_neg hne] at hq
         obtain ⟨m, hv, hm, hle⟩ := hq
         subst hv
         have := hh rfl
         subst this
         exact ⟨m, _, _, hle, hm, hAC⟩
       · cases hx
     · cases h'
   · cases h'
 · cases h'
end Go.Proofs.YtndlfijfjglkdaaGreatDoor
