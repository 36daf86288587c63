/-
Contracts and plain reckonings behind the law GunTexts, part 3 of 6 (each under the conditions in its statement).
-/
import Derived.Lib.SplitLaws
import Derived.Lib.ItoaNum
import Derived.Lib.AtoiAllCases
import Derived.Test.YtndlfijfjglkdaaGreatDoorRb
import Derived.Test.YtndlfijfjglkdaaGreatDoorAf
import Derived.Test.YtndlfijfjglkdaaGreatDoorRa
import Derived.Test.YtndlfijfjglkdaaGreatDoorKa
namespace Go.Proofs.YtndlfijfjglkdaaGreatDoor
open Go Go.Ab Go.Proofs Ieee
end Go.Proofs.YtndlfijfjglkdaaGreatDoor

namespace Go.Proofs.YtndlfijfjglkdaaGreatDoor
open Go Go.Ab Go.Proofs Ieee
end Go.Proofs.YtndlfijfjglkdaaGreatDoor

namespace Go.Proofs.YtndlfijfjglkdaaGreatDoor
open Go Go.Ab Go.Proofs Ieee
theorem strAt_form {H : Heap} {x : Value} {l : List Gun} (h : strAt H x = some l) : ∃ oa c, x = .agg ⟨[.slice oa l.length c]⟩ := by
 unfold strAt at h
 split at h
 · injection h with h; subst h; exact ⟨none, 0, rfl⟩
 · obtain ⟨_, _, rfl, _⟩ := gunsAt_ok h
   exact ⟨_, _, rfl⟩
 · cases h
end Go.Proofs.YtndlfijfjglkdaaGreatDoor

namespace Go.Proofs.YtndlfijfjglkdaaGreatDoor
open Go Go.Ab Go.Proofs Ieee
end Go.Proofs.YtndlfijfjglkdaaGreatDoor

namespace Go.Proofs.YtndlfijfjglkdaaGreatDoor
open Go Go.Ab Go.Proofs Ieee
end Go.Proofs.YtndlfijfjglkdaaGreatDoor

namespace Go.Proofs.YtndlfijfjglkdaaGreatDoor
open Go Go.Ab Go.Proofs Ieee
end Go.Proofs.YtndlfijfjglkdaaGreatDoor

namespace Go.Proofs.YtndlfijfjglkdaaGreatDoor
open Go Go.Ab Go.Proofs Ieee
end Go.Proofs.YtndlfijfjglkdaaGreatDoor

namespace Go.Ab
open Go
section
variable {P : Program}
theorem runS_bind {α β : Type} (a : Sem α) (g : α → Sem β) : runP P (a >>= g) = (runP P a).bind fun x => runP P (g x) := by
 show runP P (Sem.bind a g) = _
 induction a with
 | program k ih => exact ih P
 | mark m k ih => exact ih
 | _ => rfl
theorem runS_pure {α : Type} (a : α) : runP P (pure a : Sem α) = some a := rfl
theorem runS_program : runP P program = some P := rfl
theorem runS_und {t : TypeId} {d : TypeDesc} (h : P.underlying t = some d) : runP P (underlying t) = some d := by
 show runP P (match P.underlying t with | some d => _ | none => _) = _
 rw [h]
 rfl
theorem runS_ite {α : Type} {c : Prop} [Decidable c] (a b : Sem α) : runP P (if c then a else b) = if c then runP P a else runP P b := by
 split <;> rfl
theorem runS_eq (d : Nat) {t : TypeId} {fs : Array Field} (xs ys : Array Value) (e : Field → Bool) (ht : P.underlying t = some (.struct fs)) (hp : P.stoodInHeld t = false)
   (h : ∀ f ∈ fs.toList, f.name ≠ "_" ∧ ∃ a b, runP P (part f.type xs f.offset) = some a ∧ runP P (part f.type ys f.offset) = some b ∧ runP P (Op.equalIn d f.type a b) = some (e f)) : runP P (Op.equalIn (d + 1) t (.agg xs) (.agg ys)) = some (fs.toList.all e) := by
 simp only [Op.equalIn, runS_bind, runS_und ht, Option.bind_some, runS_program, hp, Bool.false_eq_true, if_false]
 rw [← Array.forIn_toList]
 generalize fs.toList = fl at h
 induction fl with
 | nil => rfl
 | cons f fl ih =>
   obtain ⟨hn, a, b, h1, h2, h3⟩ := h f (List.mem_cons_self ..)
   have ih := ih fun f hf => h f (List.mem_cons_of_mem _ hf)
   simp only [List.forIn_cons, runS_bind, runS_ite]
   rw [if_pos hn]
   cases he : e f with
   | true =>
     simp only [h1, h2, h3, he, Option.bind_some, Bool.not_true, Bool.false_eq_true, if_false, runS_pure, List.all_cons, Bool.true_and]
     exact ih
   | false =>
     simp only [h1, h2, h3, he, Option.bind_some, Bool.not_false, if_true, runS_pure, List.all_cons, Bool.false_and]
theorem runS_int (d : Nat) {t : TypeId} {k k' : IntKind} (n m : Int) (h : P.underlying t = some (.int k')) : runP P (Op.equalIn (d + 1) t (.int k n) (.int k m)) = some (n == m) := by
 simp only [Op.equalIn, runS_bind, runS_und h, Option.bind_some, if_true, runS_pure]
end
end Go.Ab

namespace Go.Ab
open Go
end Go.Ab

namespace Go.Proofs.YtndlfijfjglkdaaGreatDoor
open Go Go.Ab Go.Proofs Ieee
end Go.Proofs.YtndlfijfjglkdaaGreatDoor

namespace Go.Proofs.YtndlfijfjglkdaaGreatDoor
open Go Go.Ab Go.Proofs Ieee
end Go.Proofs.YtndlfijfjglkdaaGreatDoor

namespace Go.Proofs.YtndlfijfjglkdaaGreatDoor
open Go Go.Ab Go.Proofs Ieee
end Go.Proofs.YtndlfijfjglkdaaGreatDoor

namespace Go.Proofs.YtndlfijfjglkdaaGreatDoor
open Go Go.Ab Go.Proofs Ieee
end Go.Proofs.YtndlfijfjglkdaaGreatDoor

namespace Go.Ab
open Go Go.RowKit
theorem AC.of_new {P : Program} {f : FuncId} {args : List Value} {H : Heap} {n : Nat} {cs : List Value} {t : TypeId} {k c : Nat} (he : enterable P f = true) (haf : afL cs = true)
   (h : ∀ p φ w, Base P p φ n (hget H) w [] act0 → scL p args → Calls P f (denL φ args).toArray w fun e w' => e = .returned (.slice (some ⟨w.heap.size, 0, none⟩) k c) ∧ w' = w.alloc (.cells cs.toArray t)) : AC P f args H n (.slice (some ⟨n, 0, none⟩) k c) ((n, .cells cs t) :: H) (n + 1) := by
 intro p φ w hB hsc
 refine .inl ⟨enter_run he _ w, callsIn_wide.2 ((h p φ w hB hsc).mono fun e w' hh => ?_)⟩
 obtain ⟨h1, rfl⟩ := hh
 have hb : BRel P (φ.at n w.heap.size 0) n (.cells cs t) (some (.cells cs.toArray t)) := by
   simp only [BRel]
   rw [denL_af _ _ haf]
 have hS := Step.alloc hB.rel hB.lt hB.gn hB.sm (b := .cells cs t) rfl 0 hb
 rw [← hget_addM] at hS
 refine ⟨φ.at n w.heap.size 0, ?_, fun j x hx => ?_, ?_, hS⟩
 · rw [h1]; simp [den, Vl.at]
 · rw [hget_cons] at hx
   by_cases hj : n = j
   · rw [if_pos hj] at hx; injection hx with hx; subst hx hj
     exact ⟨.inr (by omega), scL_af _ _ haf⟩
   · rw [if_neg hj] at hx
     exact ⟨.inl (hB.sm j x hx).1, scB_mono (fun _ h => .inl h) _ (hB.sm j x hx).2⟩
 · exact .inr ⟨Nat.le_refl n, Nat.lt_succ_self n⟩
theorem AC.bodyX {P : Program} {f : FuncId} {fn : Func} {c : Code} {args : List Value} {H : Heap} {n : Nat} {Q : Value → Heap → Nat → Prop} (hf : P.funcs[f]? = some fn) (hb : fn.body = some c) (he : enterable P f = true) (hlen : Nat.ble args.length fn.ntmps = true) (vs : List Nat)
   (h : E P n none c { fr := argsFr args 0, sz := fn.ntmps, H, n, marks := [], vs } fun e st => (e = .normal ∨ e = .ret) ∧ ∃ v H' n', leaveF P fn args n st = some (v, H', n') ∧ Q v H' n') : ∃ v H' n', AC P f args H n v H' n' ∧ Q v H' n' := by
 obtain ⟨e, st, hA, hen, v, H', n', hl, hq⟩ := h
 exact ⟨v, H', n', bodyAT_ok hf hb he (Nat.le_of_ble_eq_true hlen) hen (ATX.at hA) hl, hq⟩
end Go.Ab

namespace Go.Proofs.YtndlfijfjglkdaaGreatDoor
open Go Go.Ab Go.Proofs Ieee
end Go.Proofs.YtndlfijfjglkdaaGreatDoor

namespace Go.Proofs.YtndlfijfjglkdaaGreatDoor
open Go Go.Ab Go.Proofs Ieee
end Go.Proofs.YtndlfijfjglkdaaGreatDoor

namespace Go.Proofs.YtndlfijfjglkdaaGreatDoor
open Go Go.Ab Go.Proofs Ieee
end Go.Proofs.YtndlfijfjglkdaaGreatDoor

namespace Go.Proofs.YtndlfijfjglkdaaGreatDoor
open Go Go.Ab Go.Proofs Go.Soft
end Go.Proofs.YtndlfijfjglkdaaGreatDoor

namespace Go.Proofs.YtndlfijfjglkdaaGreatDoor
open Go Go.Ab Go.Proofs Go.Soft
end Go.Proofs.YtndlfijfjglkdaaGreatDoor

namespace Go.Proofs.YtndlfijfjglkdaaGreatDoor
open Go Go.Ab Go.Proofs Go.Soft Ieee
end Go.Proofs.YtndlfijfjglkdaaGreatDoor

namespace Go.Proofs.YtndlfijfjglkdaaGreatDoor
open Go Go.Ab Go.Proofs Go.Soft Ieee
end Go.Proofs.YtndlfijfjglkdaaGreatDoor

namespace Go.Proofs.YtndlfijfjglkdaaGreatDoor
open Go Go.Ab Go.Proofs Go.Soft Ieee
end Go.Proofs.YtndlfijfjglkdaaGreatDoor

namespace Go.Proofs.YtndlfijfjglkdaaGreatDoor
open Go Go.Ab Go.Proofs Go.Soft Ieee
end Go.Proofs.YtndlfijfjglkdaaGreatDoor

namespace Go.Proofs.YtndlfijfjglkdaaGreatDoor
open Go Go.Ab Go.Proofs
abbrev bA (s : List UInt8) : ByteArray := ⟨s.toArray⟩
abbrev sL (s : List UInt8) : Value := .string (bA s)
@[simp] theorem bA_size (s : List UInt8) : (bA s).size = s.length := by simp [ByteArray.size]
theorem bA_get {s : List UInt8} {i : Nat} (h : i < s.length) : (bA s).get! i = s[i] := by
 simp [ByteArray.get!, h]
@[simp] theorem bA_inj {a b : List UInt8} : bA a = bA b ↔ a = b := by simp [bA]
theorem bA_data (s : ByteArray) : bA s.data.toList = s := by cases s; simp [bA]
theorem bA_append (a b : List UInt8) : bA a ++ bA b = bA (a ++ b) := by
 apply ByteArray.ext
 simp [ByteArray.data_append, bA]
theorem bA_extract (s : List UInt8) (a b : Nat) : (bA s).extract a b = bA ((s.drop a).take (b - a)) := by
 apply ByteArray.ext
 simp [ByteArray.data_extract, bA]
theorem sr_bind {α β : Type} {P : Program} (a : Sem α) (g : α → Sem β) : runP P (Sem.bind a g) = (runP P a).bind fun x => runP P (g x) := by
 induction a with
 | program k ih => exact ih P
 | mark m k ih => exact ih
 | _ => rfl
theorem sr_und {α : Type} {P : Program} {t : TypeId} {d : TypeDesc} {f : TypeDesc → Sem α} (h : P.underlying t = some d) : runP P (Sem.bind (underlying t) f) = runP P (f d) := by
 show runP P (Sem.bind (match P.underlying t with | some d => _ | none => _) f) = _
 rw [h]
 rfl
abbrev u8 (b : UInt8) : Value := .int .u8 (b.toNat : Int)
theorem index_strL {s : List UInt8} {i : Nat} (h : i < s.length) : runP Tryz.prog (Instr.index 9 (sL s) (.int .i64 (i : Int))) = some (u8 s[i]) := by
 have hlt : i < (bA s).size := by rw [bA_size]; exact h
 have hb : (bA s)[i]? = some s[i] := by
   rw [getElem?_pos (bA s) i hlt]
   rfl
 have h2 : (if 0 ≤ (i : Int) then (bA s)[(i : Int).toNat]? else none) = some s[i] := by rw [if_pos (by omega)]; exact hb
 show runP Tryz.prog (Sem.bind (underlying 9) _) = _
 rw [sr_und Tryz.underlying9]
 dsimp only [sL]
 rw [h2]
 rfl
theorem bound_ok {m b : Nat} (h : b ≤ m) (k : BoundsCode) : runP Tryz.prog (Instr.sliceBound (.int .i64 (b : Int)) m k) = some b := by
 have h2 : (0 : Int) ≤ (b : Int) ∧ (b : Int) ≤ (m : Int) := by omega
 show runP Tryz.prog (if (0 : Int) ≤ (b : Int) ∧ (b : Int) ≤ (m : Int) then _ else _) = _
 rw [if_pos h2]
 rfl
theorem slice_str (s : List UInt8) (lo hi : Option Value) : runP Tryz.prog (Instr.sliceAt 9 (sL s) lo hi none) = (runP Tryz.prog (Instr.sliceBounds false s.length s.length lo hi none)).map fun x => sL ((s.drop x.1).take (x.2.1 - x.1)) := by
 show runP Tryz.prog (Sem.bind (underlying 9) _) = _
 rw [sr_und Tryz.underlying9]
 show runP Tryz.prog (Sem.bind (underlying 9) _) = _
 rw [sr_und Tryz.underlying9]
 show runP Tryz.prog (Sem.bind (Instr.sliceBounds false (bA s).size (bA s).size lo hi none) _) = _
 rw [sr_bind, bA_size]
 cases runP Tryz.prog (Instr.sliceBounds false s.length s.length lo hi none) with
 | none => rfl
 | some x =>
   obtain ⟨l, h, m⟩ := x
   show some (Value.string ((bA s).extract l h)) = _
   rw [bA_extract]
   rfl
theorem bounds_hi {n b : Nat} (h : b ≤ n) : runP Tryz.prog (Instr.sliceBounds false n n none (some (.int .i64 (b : Int))) none) = some (0, b, n) := by
 show runP Tryz.prog (Sem.bind (Instr.sliceBound (.int .i64 (b : Int)) n _) _) = _
 rw [sr_bind, bound_ok h]
 rfl
theorem bounds_lo {n a : Nat} (h : a ≤ n) : runP Tryz.prog (Instr.sliceBounds false n n (some (.int .i64 (a : Int))) none none) = some (a, n, n) := by
 show runP Tryz.prog (Sem.bind (Instr.sliceBound (.int .i64 (a : Int)) n _) _) = _
 rw [sr_bind, bound_ok h]
 rfl
theorem bounds_lh0 (n : Nat) (l h : Value) : Instr.sliceBounds false n n (some l) (some h) none = Sem.bind (Instr.sliceBound h n .sliceAlen) fun hh => Sem.bind (Instr.sliceBound l hh .sliceB) fun ll => Sem.pure (ll, hh, n) := rfl
theorem bounds_lh {n a b : Nat} (h1 : a ≤ b) (h2 : b ≤ n) : runP Tryz.prog (Instr.sliceBounds false n n (some (.int .i64 (a : Int))) (some (.int .i64 (b : Int))) none) = some (a, b, n) := by
 rw [bounds_lh0, sr_bind, bound_ok h2, Option.bind_some, sr_bind, bound_ok h1, Option.bind_some]
 rfl
theorem slice_hiL {s : List UInt8} {b : Nat} (hb : b ≤ s.length) : runP Tryz.prog (Instr.sliceAt 9 (sL s) none (some (.int .i64 (b : Int))) none) = some (sL (s.take b)) := by
 rw [slice_str, bounds_hi hb]; simp
theorem slice_loL {s : List UInt8} {a : Nat} (ha : a ≤ s.length) : runP Tryz.prog (Instr.sliceAt 9 (sL s) (some (.int .i64 (a : Int))) none none) = some (sL (s.drop a)) := by
 rw [slice_str, bounds_lo ha]
 simp [List.take_of_length_le]
theorem slice_lhL {s : List UInt8} {a b : Nat} (h1 : a ≤ b) (h2 : b ≤ s.length) : runP Tryz.prog (Instr.sliceAt 9 (sL s) (some (.int .i64 (a : Int))) (some (.int .i64 (b : Int))) none) = some (sL ((s.drop a).take (b - a))) := by
 rw [slice_str, bounds_lh h1 h2]; rfl
section
variable {P : Program} {t : TypeId} {x y : Operand} {H : Heap} {n : Nat} {a b : List UInt8}
theorem bin_adds (hs : a.length + b.length ≤ 9223372036854775807) : binV P .add t x y (sL a) (sL b) H n = some (sL (a ++ b), H, n) := by
 have hc : ¬ (((bA a).size + (bA b).size : Nat) : Int) > IntKind.i64.max := by
   rw [bA_size, bA_size, show IntKind.i64.max = 9223372036854775807 from rfl]
   omega
 have h : binV P .add t x y (sL a) (sL b) H n = (runP P (if (((bA a).size + (bA b).size : Nat) : Int) > IntKind.i64.max then unsupported (.resourceLimit "string concatenation: a sum of the lengths that is no int") else pure (.string (bA a ++ bA b)))).bind fun v => if afq v then some (v, H, n) else none := rfl
 rw [h, if_neg hc, bA_append]
 rfl
variable {i j : Int}
@[simp] theorem bin_eql8 : binV P .eql t x y (.int .u8 i) (.int .u8 j) H n = some (.bool (decide (i = j)), H, n) := rfl
@[simp] theorem bin_lss8 : binV P .lss t x y (.int .u8 i) (.int .u8 j) H n = some (.bool (decide (i < j)), H, n) := rfl
@[simp] theorem bin_gtr8 : binV P .gtr t x y (.int .u8 i) (.int .u8 j) H n = some (.bool (decide (j < i)), H, n) := rfl
@[simp] theorem bin_sub8 : binV P .sub t x y (.int .u8 i) (.int .u8 j) H n = some (.int .u8 (IntKind.u8.wrap (i - j)), H, n) := rfl
@[simp] theorem bin_lss32 : binV P .lss t x y (.int .i32 i) (.int .i32 j) H n = some (.bool (decide (i < j)), H, n) := rfl
@[simp] theorem bin_gtr32 : binV P .gtr t x y (.int .i32 i) (.int .i32 j) H n = some (.bool (decide (j < i)), H, n) := rfl
@[simp] theorem bin_sub32 : binV P .sub t x y (.int .i32 i) (.int .i32 j) H n = some (.int .i32 (IntKind.i32.wrap (i - j)), H, n) := rfl
end
theorem cv5_3 (a : Int) : runP Tryz.prog (convert 5 3 (.int .u8 a)) = some (.int .i64 (IntKind.i64.wrap a)) := by kernel_rfl
theorem cv3_5 (a : Int) : runP Tryz.prog (convert 3 5 (.int .i64 a)) = some (.int .u8 (IntKind.u8.wrap a)) := by kernel_rfl
theorem conv53 {a : Int} (h0 : 0 ≤ a) (h1 : a ≤ 255) : runP Tryz.prog (convert 5 3 (.int .u8 a)) = some (iv a) := by
 rw [cv5_3, W_in (by omega) (by omega)]
theorem W8 {a : Int} (h0 : 0 ≤ a) (h1 : a ≤ 255) : IntKind.u8.wrap a = a := by
 show a % 256 = a
 omega
theorem conv35 {a : Int} (h0 : 0 ≤ a) (h1 : a ≤ 255) : runP Tryz.prog (convert 3 5 (iv a)) = some (.int .u8 a) := by
 rw [cv3_5, W8 h0 h1]
attribute [simp] Tryz.t9
@[simp] theorem wrap0 : IntKind.i64.wrap 0 = 0 := W_in (by omega) (by omega)
@[simp] theorem wrap1 : IntKind.i64.wrap 1 = 1 := W_in (by omega) (by omega)
def sls (l : List (List UInt8)) : List Value := l.map sL
@[simp] theorem sls_length (l : List (List UInt8)) : (sls l).length = l.length := by simp [sls]
@[simp] theorem afL_sls : ∀ l : List (List UInt8), afL (sls l) = true
 | [] => rfl
 | _ :: l => by simp [sls] at *; exact afL_sls l
@[simp] theorem renL_sls (ρ : Nat → Nat) (l : List (List UInt8)) : renL ρ (sls l) = sls l := by rw [renL_eq, sls, List.map_map]; rfl
@[simp] theorem scL_sls (p : Nat → Prop) (l : List (List UInt8)) : scL p (sls l) := scL_af p _ (afL_sls l)
theorem sls_append (a b : List (List UInt8)) : sls (a ++ b) = sls a ++ sls b := by simp [sls]
theorem sls_one (w : List UInt8) : sls [w] = [sL w] := rfl
theorem sls_snoc (d : List UInt8) (D : List (List UInt8)) (w : List UInt8) : sls (d :: (D ++ [w])) = sls (d :: D) ++ [sL w] := by rw [← List.cons_append, sls_append]; rfl
end Go.Proofs.YtndlfijfjglkdaaGreatDoor

namespace Go.Proofs.YtndlfijfjglkdaaGreatDoor
open Go Go.Ab Go.Proofs
def spF (c : UInt8) : List UInt8 → List (List UInt8) → List UInt8 → List (List UInt8) × List UInt8
 | [], d, w => (d, w)
 | x :: s, d, w => if x = c then spF c s (d ++ [w]) [] else spF c s d (w ++ [x])
def spD (c : UInt8) (s : List UInt8) : List (List UInt8) := (spF c s [] []).1
def spW (c : UInt8) (s : List UInt8) : List UInt8 := (spF c s [] []).2
def spl (c : UInt8) (s : List UInt8) : List (List UInt8) := spD c s ++ [spW c s]
theorem spF_d (c : UInt8) : ∀ (s : List UInt8) (d : List (List UInt8)) (w : List UInt8), spF c s d w = (d ++ (spF c s [] w).1, (spF c s [] w).2)
 | [], d, w => by simp [spF]
 | x :: s, d, w => by
   unfold spF
   split
   · rw [spF_d c s (d ++ [w]), spF_d c s ([] ++ [w])]
     simp
   · exact spF_d c s d _
theorem spF_miss (c : UInt8) : ∀ (a s : List UInt8) (d : List (List UInt8)) (w : List UInt8), c ∉ a → spF c (a ++ s) d w = spF c s d (w ++ a)
 | [], s, d, w, _ => by simp
 | x :: a, s, d, w, h => by
   simp only [List.mem_cons, not_or] at h
   rw [List.cons_append, spF, if_neg (fun e => h.1 e.symm), spF_miss c a s d _ h.2]
   simp
theorem sp_miss {c : UInt8} {a : List UInt8} (h : c ∉ a) : spD c a = [] ∧ spW c a = a := by
 have := spF_miss c a [] [] [] h
 rw [List.append_nil] at this
 constructor
 · rw [spD, this]; rfl
 · rw [spW, this]; simp [spF]
theorem sp_hit {c : UInt8} {a s : List UInt8} (h : c ∉ a) : spD c (a ++ c :: s) = a :: spD c s ∧ spW c (a ++ c :: s) = spW c s := by
 have h1 : spF c (a ++ c :: s) [] [] = ([a] ++ (spF c s [] []).1, (spF c s [] []).2) := by
   rw [spF_miss c a _ [] [] h, spF, if_pos rfl, ← spF_d]
   simp
 constructor
 · rw [spD, h1]; rfl
 · rw [spW, h1]; rfl
theorem spl_miss {c : UInt8} {a : List UInt8} (h : c ∉ a) : spl c a = [a] := by
 rw [spl, (sp_miss h).1, (sp_miss h).2]; rfl
theorem spl_hit {c : UInt8} {a s : List UInt8} (h : c ∉ a) : spl c (a ++ c :: s) = a :: spl c s := by
 rw [spl, (sp_hit h).1, (sp_hit h).2]; rfl
theorem spl_ne (c : UInt8) (s : List UInt8) : spl c s ≠ [] := by simp [spl]
theorem first_cut (c : UInt8) (s : List UInt8) : (Lib.indexByte s c = -1 ∧ c ∉ s) ∨ ∃ a r, s = a ++ c :: r ∧ c ∉ a ∧ Lib.indexByte s c = a.length := by
 induction s with
 | nil => exact .inl ⟨rfl, by simp⟩
 | cons b s ih =>
   by_cases hb : b = c
   · subst hb
     exact .inr ⟨[], s, rfl, by simp, by simp [Lib.indexByte]⟩
   · have hbc : (b == c) = false := beq_eq_false_iff_ne.2 hb
     rcases ih with ⟨h1, h2⟩ | ⟨a, r, h1, h2, h3⟩
     · refine .inl ⟨by simp [Lib.indexByte, hbc, h1], ?_⟩
       simp only [List.mem_cons, not_or]
       exact ⟨fun e => hb e.symm, h2⟩
     · refine .inr ⟨b :: a, r, by rw [h1]; rfl, ?_, ?_⟩
       · simp only [List.mem_cons, not_or]
         exact ⟨fun e => hb e.symm, h2⟩
       · have : ¬ ((a.length : Int) == -1) = true := fun e => by have := beq_iff_eq.1 e; omega
         simp [Lib.indexByte, hbc, h3]
theorem splitK_byte (c : UInt8) : ∀ (k : Nat) (s : List UInt8), s.count c = k → Lib.splitK [c] 0 k s = spl c s
 | 0, s, h => by
   rw [Lib.splitK, spl_miss (List.count_eq_zero.1 h)]
 | k + 1, s, h => by
   rcases first_cut c s with ⟨_, h2⟩ | ⟨a, r, h1, h2, h3⟩
   · rw [List.count_eq_zero.2 h2] at h; cases h
   · have hm : ¬ (Lib.index s [c] == -1) = true := fun e => by
       have := beq_iff_eq.1 e
       rw [Lib.index_one, h3] at this
       omega
     rw [Lib.splitK, if_neg hm, Lib.index_one, h3]
     subst h1
     have hc : r.count c = k := by
       rw [List.count_append, List.count_eq_zero.2 h2, List.count_cons_self] at h
       omega
     rw [spl_hit h2, ← splitK_byte c k r hc]
     simp
theorem spD_len (c : UInt8) : ∀ (s : List UInt8), ∀ w ∈ spD c s, w.length < s.length + 1 := by
 have h : ∀ (k : Nat) (s : List UInt8), s.length ≤ k → ∀ w ∈ spD c s, w.length < s.length + 1 := by
   intro k
   induction k with
   | zero =>
     intro s hs w hw
     have : s = [] := List.length_eq_zero_iff.1 (by omega)
     subst this
     cases hw
   | succ k ih =>
     intro s hs w hw
     rcases first_cut c s with ⟨_, h2⟩ | ⟨a, r, h1, h2, _⟩
     · rw [(sp_miss h2).1] at hw; cases hw
     · rw [h1, (sp_hit h2).1] at hw
       have hl : s.length = a.length + (r.length + 1) := by rw [h1]; simp
       rcases List.mem_cons.1 hw with rfl | hw
       · omega
       · have := ih r (by omega) w hw
         omega
 exact fun s => h s.length s (Nat.le_refl _)
def digB (b : UInt8) : Bool := decide (48 ≤ b.toNat ∧ b.toNat ≤ 57)
def stepD (n : Int) (b : UInt8) : Int := 10 * n + ((b.toNat : Int) - 48)
def valD (s : List UInt8) : Int := s.foldl stepD 0
def dd (n : Int) : List UInt8 := Lib.decDigits n.toNat
end Go.Proofs.YtndlfijfjglkdaaGreatDoor

namespace Go.Proofs.YtndlfijfjglkdaaGreatDoor
open Go Go.Ab Go.Proofs
theorem dd_small {m : Nat} (h : m < 10) : dd (m : Int) = [UInt8.ofNat (48 + m)] := by
 unfold dd
 rw [show ((m : Int)).toNat = m by omega, Lib.decDigits, dif_pos h]
theorem dd_big {m : Nat} (h : ¬ m < 10) : dd (m : Int) = dd ((m / 10 : Nat) : Int) ++ [UInt8.ofNat (48 + m % 10)] := by
 unfold dd
 rw [show ((m : Int)).toNat = m by omega, show (((m / 10 : Nat) : Int)).toNat = m / 10 by omega, Lib.decDigits, dif_neg h]
theorem nDig_le : ∀ u : Nat, Lib.nDigits u ≤ u + 1 := by
 intro u
 induction u using Nat.strongRecOn with
 | _ u ih =>
   by_cases h : u < 10
   · rw [Lib.nDigits_small h]; omega
   · rw [Lib.nDigits_big h]
     have := ih (u / 10) (by omega)
     omega
theorem dd_len0 {x : Int} (_h : 0 ≤ x) : ((dd x).length : Int) ≤ x + 1 := by
 unfold dd
 rw [Lib.decDigits_length]
 have := nDig_le x.toNat
 omega
def gTx (B : Int) (args : List Value) (H : Heap) (n : Nat) : R := match args with
 | [.int .i64 m] => if 0 ≤ m ∧ m < B then some (sL (dd m), H, n) else none
 | _ => none
theorem okTx {f : FuncId} {B : Int} (h : ∀ m : Int, 0 ≤ m → m < B → AC Tryz.prog f [iv m] [] 10 (sL (dd m)) [] 10) : EntOk Tryz.prog (f, gTx B) := by
 intro args H n v H' n' hh
 simp only [gTx] at hh
 split at hh
 · split at hh
   · rename_i hm
     injection hh with hh; injection hh with e1 e2; injection e2 with e2 e3; subst e1 e2 e3
     exact AC.liftP rfl (Part.plain (by simp) [] (by simp [Seen]) gsz ⟨_, _, h _ hm.1 hm.2⟩)
   · cases hh
 · cases hh
theorem w183 : ∀ m : Nat, (m : Int) ≤ 9223372036854775807 → AC Tryz.prog 183 [iv m] [] 10 (sL (dd m)) [] 10 := by
 intro m
 induction m using Nat.strongRecOn with
 | _ m ih =>
   intro hm
   have hr := recT_ok (P := Tryz.prog) (l := [(183, gTx m)]) (by
     simp only [List.forall_mem_cons]
     exact ⟨okTx fun k h0 h1 => by
       obtain ⟨j, rfl⟩ := Int.eq_ofNat_of_zero_le h0
       exact ih j (by omega) (by omega), by simp⟩)
   refine AC.pure Tryz.func183 rfl (by kernel_rfl) rfl [2, 20, 6, 4, 0] rfl ?_
   refine E.seq ?_
   refine E.reg hr (by simp; rfl) ?_
   refine E.seq ?_
   refine E.seq ?_
   refine E.reg hr (by simp; rfl) ?_
   refine E.cond (by rfl) (fun h => ?_) (fun h => ?_)
   · simp at h
     omega
   · refine E.skip ?_
     refine E.seq ?_
     refine E.seq ?_
     refine E.reg hr (by simp; rfl) ?_
     refine E.cond (by rfl) (fun h => ?_) (fun h => ?_)
     · simp at h
       have h' : m < 10 := by omega
       have hw : IntKind.i64.wrap (48 + (m : Int)) = 48 + (m : Int) := W_in (by omega) (by omega)
       have hc := conv35 (a := 48 + (m : Int)) (by omega) (by omega)
       have hn : (48 + (m : Int)).toNat = 48 + m := by omega
       refine E.seq ?_
       refine E.reg hr (by simp [hw, opConvert, hc, hn, bytesA]; rfl) ?_
       refine E.ret ?_
       exact pureK.ret rfl rfl (by simp [dd_small h']) (by repeat first | exact sub_refl _ | refine sub_cons rfl ?_)
     · simp at h
       have h' : ¬ m < 10 := by omega
       have hw : IntKind.i64.wrap (48 + (m : Int) % 10) = 48 + (m : Int) % 10 := W_in (by omega) (by omega)
       have hq : IntKind.i64.wrap ((m : Int) / 10) = (m : Int) / 10 := W_in (by omega) (by omega)
       have hc := conv35 (a := 48 + (m : Int) % 10) (by omega) (by omega)
       have hn : (48 + (m : Int) % 10).toNat = 48 + m % 10 := by omega
       have hq0 : 0 ≤ (m : Int) / 10 ∧ (m : Int) / 10 < m := by omega
       have e1 : (m : Int).tdiv 10 = (m : Int) / 10 := Int.tdiv_eq_ediv_of_nonneg (by omega)
       have e2 : (m : Int).tmod 10 = (m : Int) % 10 := Int.tmod_eq_emod_of_nonneg (by omega)
       have hl0 := dd_len0 (x := (m : Int) / 10) (by omega)
       have hl : (dd ((m : Int) / 10)).length + 1 ≤ 9223372036854775807 := by omega
       refine E.skip ?_
       refine E.seq ?_
       refine E.drawC mixed hr [] [7] [2, 8] (by kernel_rfl) (by simp [bin_quo, bin_rem, bin_adds, hl, e1, e2, hq, hw, opConvert, hc, hn, bytesA, gTx, hq0]; rfl) ?_
       refine E.ret ?_
       exact pureK.ret rfl rfl (by simp [dd_big h']) (by repeat first | exact sub_refl _ | refine sub_cons rfl ?_)
end Go.Proofs.YtndlfijfjglkdaaGreatDoor

namespace Go.Proofs.YtndlfijfjglkdaaGreatDoor
open Go Go.Ab Go.Proofs
def dz (n : Int) : List UInt8 := if n < 0 then 45 :: dd (-n) else dd n
theorem dz_pos {n : Int} (h : 0 ≤ n) : dz n = dd n := if_neg (by omega)
theorem dz_neg {n : Int} (h : n < 0) : dz n = 45 :: dd (-n) := if_pos h
def gTz (B : Int) (args : List Value) (H : Heap) (n : Nat) : R := match args with
 | [.int .i64 m] => if -B < m ∧ m < 9223372036854775808 then some (sL (dz m), H, n) else none
 | _ => none
theorem okTz {f : FuncId} {B : Int} (h : ∀ m : Int, -B < m → m < 9223372036854775808 → AC Tryz.prog f [iv m] [] 10 (sL (dz m)) [] 10) : EntOk Tryz.prog (f, gTz B) := by
 intro args H n v H' n' hh
 simp only [gTz] at hh
 split at hh
 · split at hh
   · rename_i hm
     injection hh with hh; injection hh with e1 e2; injection e2 with e2 e3; subst e1 e2 e3
     exact AC.liftP rfl (Part.plain (by simp) [] (by simp [Seen]) gsz ⟨_, _, h _ hm.1 hm.2⟩)
   · cases hh
 · cases hh
theorem w183p {m : Int} (h0 : 0 ≤ m) (h1 : m < 9223372036854775808) : AC Tryz.prog 183 [iv m] [] 10 (sL (dz m)) [] 10 := by
 obtain ⟨j, rfl⟩ := Int.eq_ofNat_of_zero_le h0
 rw [dz_pos h0]
 exact w183 j (by omega)
theorem w183n : ∀ m : Nat, 1 ≤ m → m ≤ 9223372036854775808 → AC Tryz.prog 183 [iv (-(m : Int))] [] 10 (sL (dz (-(m : Int)))) [] 10 := by
 intro m
 induction m using Nat.strongRecOn with
 | _ m ih =>
   intro h1 hm
   have hr := recT_ok (P := Tryz.prog) (l := [(183, gTz m)]) (by
     simp only [List.forall_mem_cons]
     exact ⟨okTz fun k h0 h2 => by
       by_cases hk : 0 ≤ k
       · exact w183p hk h2
       · have := ih (-k).toNat (by omega) (by omega) (by omega)
         rw [show -(((-k).toNat : Nat) : Int) = k by omega] at this
         exact this, by simp⟩)
   have hneg : dz (-(m : Int)) = 45 :: dd (m : Int) := by rw [dz_neg (by omega), Int.neg_neg]
   have hl0 := dd_len0 (x := (m : Int)) (by omega)
   refine AC.pure Tryz.func183 rfl (by kernel_rfl) rfl [2, 20, 6, 4, 0] rfl ?_
   refine E.seq ?_
   refine E.reg hr (by simp; rfl) ?_
   refine E.seq ?_
   refine E.seq ?_
   refine E.reg hr (by simp; rfl) ?_
   refine E.cond (t := true) (by simp; omega) (fun _ => ?_) (fun h => by cases h)
   refine E.seq ?_
   refine E.seq ?_
   refine E.reg hr (by simp; rfl) ?_
   by_cases h10 : m < 10
   · have hw : IntKind.i64.wrap (m : Int) = (m : Int) := W_in (by omega) (by omega)
     have hz : dz (m : Int) = dd (m : Int) := dz_pos (by omega)
     have hg : -(m : Int) < (m : Int) ∧ (m : Int) < 9223372036854775808 := by omega
     have hcat : ([45] : List UInt8).length + (dd (m : Int)).length ≤ 9223372036854775807 := by simp; omega
     refine E.cond (t := true) (by simp; omega) (fun _ => ?_) (fun h => by cases h)
     refine E.seq ?_
     refine E.reg hr (by simp [hw, gTz, hg, hz, bin_adds hcat]; rfl) ?_
     refine E.ret ?_
     exact pureK.ret rfl rfl (by simp [hneg]) (by repeat first | exact sub_refl _ | refine sub_cons rfl ?_)
   · have e1 : (m : Int).tdiv 10 = ((m / 10 : Nat) : Int) := by rw [Int.tdiv_eq_ediv_of_nonneg (by omega)]; rfl
     have e2 : (m : Int).tmod 10 = ((m % 10 : Nat) : Int) := by rw [Int.tmod_eq_emod_of_nonneg (by omega)]; rfl
     obtain ⟨q, hq⟩ : ∃ q, m / 10 = q := ⟨_, rfl⟩
     obtain ⟨r, hrm⟩ : ∃ r, m % 10 = r := ⟨_, rfl⟩
     rw [hq] at e1
     rw [hrm] at e2
     have w1 : IntKind.i64.wrap (-(q : Int)) = -(q : Int) := W_in (by omega) (by omega)
     have w2 : IntKind.i64.wrap (r : Int) = (r : Int) := W_in (by omega) (by omega)
     have z1 : dz (-(q : Int)) = 45 :: dd (q : Int) := by rw [dz_neg (by omega), Int.neg_neg]
     have z2 : dz (r : Int) = [UInt8.ofNat (48 + r)] := by rw [dz_pos (by omega), dd_small (by omega)]
     obtain ⟨c, hc⟩ : ∃ c, UInt8.ofNat (48 + r) = c := ⟨_, rfl⟩
     rw [hc] at z2
     have g1 : (q : Int) < m ∧ -(q : Int) < 9223372036854775808 := by omega
     have g2 : -(m : Int) < (r : Int) ∧ (r : Int) < 9223372036854775808 := by omega
     have hl1 := dd_len0 (x := (q : Int)) (by omega)
     have hcat : (45 :: dd (q : Int)).length + [c].length ≤ 9223372036854775807 := by simp; omega
     have hbig : 45 :: dd (m : Int) = (45 :: dd (q : Int)) ++ [c] := by rw [dd_big h10, hq, hrm, hc]; rfl
     refine E.cond (t := false) (by simp; omega) (fun h => by cases h) (fun _ => ?_)
     refine E.skip ?_
     refine E.seq ?_
     refine E.reg hr (by simp [bin_quo, bin_rem, e1, e2, w1, w2, gTz, g1, g2, z1, z2, bin_adds hcat]; rfl) ?_
     refine E.ret ?_
     exact pureK.ret rfl rfl (by simp [hneg, hbig]) (by repeat first | exact sub_refl _ | refine sub_cons rfl ?_)
theorem ok183z : EntOk Tryz.prog (183, gTz 9223372036854775809) := okTz fun m h0 h1 => by
 by_cases h : 0 ≤ m
 · exact w183p h h1
 · have := w183n (-m).toNat (by omega) (by omega)
   rw [show -(((-m).toNat : Nat) : Int) = m by omega] at this
   exact this
end Go.Proofs.YtndlfijfjglkdaaGreatDoor

namespace Go.Proofs.YtndlfijfjglkdaaGreatDoor
open Go Go.Ab Go.Proofs
def leadB (s : List UInt8) : Bool := decide (s.length = 1) || !decide (s.head? = some 48)
def preI (s : List UInt8) : Bool := !decide (s = []) && decide (s.length ≤ 9) && s.all digB
def rI (s : List UInt8) : Int × Bool := if preI s && leadB s then (valD s, true) else (0, false)
theorem rI_nil : rI [] = (0, false) := rfl
theorem index_str0 {s : List UInt8} (h : 0 < s.length) : runP Tryz.prog (Instr.index 9 (sL s) (.int .i64 0)) = some (u8 s[0]) := index_strL h
theorem u8_bd (b : UInt8) : 0 ≤ ((b.toNat : Nat) : Int) ∧ ((b.toNat : Nat) : Int) ≤ 255 := by
 have := b.toNat_lt
 omega
theorem valD_snoc (t : List UInt8) (b : UInt8) : valD (t ++ [b]) = 10 * valD t + ((b.toNat : Int) - 48) := by simp [valD, stepD]
theorem valD_bd {s : List UInt8} (h : ∀ b ∈ s, digB b = true) : ∀ i, i ≤ s.length → 0 ≤ valD (s.take i) ∧ valD (s.take i) + 1 ≤ 10 ^ i
 | 0, _ => by simp [valD]
 | i + 1, hi => by
   have hlt : i < s.length := by omega
   have ih := valD_bd h i (by omega)
   have hd := h _ (List.getElem_mem hlt)
   simp only [digB, decide_eq_true_eq] at hd
   rw [List.take_succ_eq_append_getElem hlt, valD_snoc, Int.pow_succ]
   omega
theorem pow_le10 {i : Nat} (h : i ≤ 10) : (10 : Int) ^ i ≤ 10000000000 := by
 have h1 : (10 : Nat) ^ i ≤ 10 ^ 10 := Nat.pow_le_pow_right (by omega) h
 have h2 : (10 : Nat) ^ 10 = 10000000000 := by decide
 have h3 : ((10 : Int)) ^ i = (((10 : Nat) ^ i : Nat) : Int) := by simp
 omega
theorem rI_false {s : List UInt8} (h : preI s = false ∨ leadB s = false) : rI s = (0, false) := by
 unfold rI
 rcases h with h | h <;> simp [h]
theorem preI_bad {s : List UInt8} {i : Nat} (hi : i < s.length) (h : digB s[i] = false) : preI s = false := by
 have : s.all digB = false := by
   rw [Bool.eq_false_iff]
   intro ha
   rw [List.all_eq_true.1 ha _ (List.getElem_mem hi)] at h
   cases h
 simp [preI, this]
theorem preI_good {s : List UInt8} (h0 : s ≠ []) (h1 : s.length ≤ 9) (h : ∀ j (hj : j < s.length), digB s[j] = true) : preI s = true := by
 have ha : s.all digB = true := List.all_eq_true.2 fun b hb => by
   obtain ⟨j, hj, rfl⟩ := List.getElem_of_mem hb
   exact h j hj
 have hne : decide (s = []) = false := decide_eq_false h0
 simp [preI, ha, h1, hne]
abbrev tupI (x : Int × Bool) : Value := .tuple #[iv x.1, .bool x.2]
set_option maxHeartbeats 2000000 in
theorem w228 (s : List UInt8) : AC Tryz.prog 228 [sL s] [] 10 (tupI (rI s)) [] 10 := by
 have hr := recT_ok (P := Tryz.prog) (l := [(235, g8 digitB)]) (by simp only [List.forall_mem_cons]; exact ⟨ok235, by simp⟩)
 refine AC.pure Tryz.func228 rfl (by kernel_rfl) rfl [0, 4, 5] rfl ?_
 refine E.seq ?_
 refine E.reg hr (by simp; rfl) ?_
 refine E.seq ?_
 refine E.seq ?_
 by_cases h0 : s = []
 · subst h0
   refine E.reg hr (by simp; rfl) ?_
   refine E.cond (t := true) (by rfl) (fun _ => ?_) (fun h => by cases h)
   refine E.seq ?_
   refine E.reg hr (by simp; rfl) ?_
   refine E.ret ?_
   exact pureK.ret rfl rfl (by simp [rI_nil]) (by repeat first | exact sub_refl _ | refine sub_cons rfl ?_)
 have hpos : 0 < s.length := List.length_pos_iff.2 h0
 have hn0 : ¬ (s.length : Int) = 0 := by omega
 by_cases h10 : 9 < s.length
 · have h10I : (9 : Int) < s.length := by omega
   have hv : rI s = (0, false) := rI_false (.inl (by simp [preI, show ¬ s.length ≤ 9 by omega]))
   refine E.reg hr (by simp [h0, h10I]; rfl) ?_
   refine E.cond (t := true) (by rfl) (fun _ => ?_) (fun h => by cases h)
   refine E.seq ?_
   refine E.reg hr (by simp; rfl) ?_
   refine E.ret ?_
   exact pureK.ret rfl rfl (by simp [hv]) (by repeat first | exact sub_refl _ | refine sub_cons rfl ?_)
 have h10I : ¬ (9 : Int) < s.length := by omega
 have hhd : s.head? = some s[0] := by cases s with | nil => exact absurd rfl h0 | cons a b => rfl
 by_cases hz : 1 < s.length ∧ ((s[0].toNat : Nat) : Int) = 48
 · have h1I : (1 : Int) < s.length := by omega
   have h48 : s[0] = 48 := UInt8.toNat_inj.1 (by have : (48 : UInt8).toNat = 48 := rfl; omega)
   have hv : rI s = (0, false) := rI_false (.inr (by simp [leadB, hhd, h48]; omega))
   refine E.reg hr (by simp [h0, h10I, h1I, index_str0 hpos, hz.2]; rfl) ?_
   refine E.cond (t := true) (by rfl) (fun _ => ?_) (fun h => by cases h)
   refine E.seq ?_
   refine E.reg hr (by simp; rfl) ?_
   refine E.ret ?_
   exact pureK.ret rfl rfl (by simp [hv]) (by repeat first | exact sub_refl _ | refine sub_cons rfl ?_)
 have hlead : leadB s = true := by
   by_cases h1 : s.length = 1
   · simp [leadB, h1]
   · have hne : s[0] ≠ 48 := fun e => hz ⟨by omega, by rw [e]; rfl⟩
     simp [leadB, hhd, hne]
 refine E.regL hr { fr := [(0, sL s), (23, .bool false)], sz := 44, H := [], n := 10, marks := [], vs := [0, 4, 5] } ?_ ?_
 · by_cases h1 : 1 < s.length
   · have h1I : (1 : Int) < s.length := by omega
     have h48 : ¬ ((s[0].toNat : Nat) : Int) = 48 := fun e => hz ⟨h1, e⟩
     refine ⟨_, by simp [h0, h10I, h1I, index_str0 hpos, h48]; rfl, ?_⟩; exact .less rfl rfl rfl (by simp) (by simp)
   · have h1I : ¬ (1 : Int) < s.length := by omega
     refine ⟨_, by simp [h0, h10I, h1I]; rfl, ?_⟩; exact .less rfl rfl rfl (by simp) (by simp)
 refine E.cond (t := false) (by rfl) (fun h => by cases h) (fun _ => ?_)
 refine E.skip ?_
 refine E.seq ?_
 refine E.reg hr (by simp; rfl) ?_
 refine E.seq ?_
 refine E.seq ?_
 refine E.reg hr (by simp; rfl) ?_
 refine E.block ?_
 refine E.loop ?_
 refine EL.ind (fun i : Nat => { fr := [(0, sL s), (4, iv (valD (s.take i))), (5, iv i)], sz := 44, H := [], n := 10, marks := [], vs := [0, 4, 5] }) (fun i => s.length - i) (fun i => i ≤ s.length ∧ ∀ j (h : j < s.length), j < i → digB s[j] = true) 0 (.less rfl rfl rfl (by simp [valD]) (by simp)) ⟨Nat.zero_le _, fun j _ hj => absurd hj (by omega)⟩ (fun _ => rfl) ?_
 intro i ⟨hi, hg⟩
 have hw : IntKind.i64.wrap ((i : Int) + 1) = (i : Int) + 1 := W_in (by omega) (by omega)
 refine E.seq ?_
 refine E.seq ?_
 refine E.reg hr (by simp; rfl) ?_
 refine E.cond (by rfl) (fun h => ?_) (fun h => ?_)
 · simp at h
   have hb := u8_bd s[i]
   have hix := index_strL h
   refine E.skip ?_
   refine E.seq ?_
   refine E.block ?_
   refine E.seq ?_
   refine E.seq ?_
   by_cases hd : digB s[i] = true
   · simp only [digB, decide_eq_true_eq] at hd
     have hd1 : (48 : Int) ≤ ((s[i].toNat : Nat) : Int) := by omega
     have hd2 : ((s[i].toNat : Nat) : Int) ≤ 57 := by omega
     refine E.reg hr (by simp [hix, g8, digitB, hd1, hd2]; rfl) ?_
     refine E.cond (t := false) (by rfl) (fun h => by cases h) (fun _ => ?_)
     have hbd : 0 ≤ valD (s.take i) ∧ valD (s.take i) + 1 ≤ 10 ^ i := by
       have := valD_bd (s := s.take i) (fun b hb => by
         obtain ⟨j, hj, rfl⟩ := List.getElem_of_mem hb
         simp only [List.length_take] at hj
         rw [List.getElem_take]
         exact hg j (by omega) (by omega)) i (by rw [List.length_take]; omega)
       rwa [List.take_take, Nat.min_self] at this
     have hp := pow_le10 (i := i) (by omega)
     have w1 : IntKind.i64.wrap (10 * valD (s.take i)) = 10 * valD (s.take i) := W_in (by omega) (by omega)
     have w2 : IntKind.u8.wrap (((s[i].toNat : Nat) : Int) - 48) = ((s[i].toNat : Nat) : Int) - 48 := W8 (by omega) (by omega)
     have w3 : IntKind.i64.wrap (10 * valD (s.take i) + (((s[i].toNat : Nat) : Int) - 48)) = 10 * valD (s.take i) + (((s[i].toNat : Nat) : Int) - 48) := W_in (by omega) (by omega)
     have hc := conv53 (a := ((s[i].toNat : Nat) : Int) - 48) (by omega) (by omega)
     have hsn : valD (s.take (i + 1)) = 10 * valD (s.take i) + (((s[i].toNat : Nat) : Int) - 48) := by rw [List.take_succ_eq_append_getElem h, valD_snoc]
     refine E.skip ?_
     refine E.reg hr (by simp [hix, w1, w2, w3, opConvert, hc]; rfl) ?_
     refine E.reg hr (by simp [hw]; rfl) ?_
     refine ⟨i + 1, .less rfl rfl rfl (by simp [hsn]) (by simp), ⟨by omega, fun j hj hji => ?_⟩, by dsimp only; omega⟩
     by_cases hji' : j = i
     · subst hji'
       simp only [digB, decide_eq_true_eq]
       exact hd
     · exact hg j hj (by omega)
   · have hd' : digB s[i] = false := by simpa using hd
     have hv : rI s = (0, false) := rI_false (.inl (preI_bad h hd'))
     simp only [digB, decide_eq_true_eq] at hd
     refine E.regL hr { fr := [(34, .bool true)], sz := 44, H := [], n := 10, marks := [], vs := [0, 4, 5] } ?_ ?_
     · by_cases hd1 : (48 : Int) ≤ ((s[i].toNat : Nat) : Int)
       · have hd2 : ¬ ((s[i].toNat : Nat) : Int) ≤ 57 := by omega
         refine ⟨_, by simp [hix, g8, digitB, hd1, hd2]; rfl, ?_⟩; exact .less rfl rfl rfl (by simp) (by simp)
       · refine ⟨_, by simp [hix, g8, digitB, hd1]; rfl, ?_⟩; exact .less rfl rfl rfl (by simp) (by simp)
     refine E.cond (t := true) (by rfl) (fun _ => ?_) (fun h => by cases h)
     refine E.seq ?_
     refine E.reg hr (by simp; rfl) ?_
     refine E.ret ?_
     exact pureK.ret rfl rfl (by simp [hv]) (by repeat first | exact sub_refl _ | refine sub_cons rfl ?_)
 · simp at h
   have hal : s.take i = s := List.take_of_length_le h
   have hv : rI s = (valD s, true) := by
     unfold rI
     rw [preI_good h0 (by omega) fun j hj => hg j hj (by omega), hlead]
     rfl
   refine E.exit ?_
   refine E.seq ?_
   refine E.reg hr (by simp; rfl) ?_
   refine E.ret ?_
   exact pureK.ret rfl rfl (by simp [hv, hal]) (by repeat first | exact sub_refl _ | refine sub_cons rfl ?_)
def gSS (F : List UInt8 → Value) (args : List Value) (H : Heap) (n : Nat) : R := match args with
 | [.string s] => some (F s.data.toList, H, n)
 | _ => none
@[simp] theorem gSS_eq (F : List UInt8 → Value) (s : List UInt8) (H : Heap) (n : Nat) : gSS F [sL s] H n = some (F s, H, n) := by simp [gSS]
theorem okSS {f : FuncId} {F : List UInt8 → Value} (haf : ∀ s, af (F s) = true) (h : ∀ s, AC Tryz.prog f [sL s] [] 10 (F s) [] 10) : EntOk Tryz.prog (f, gSS F) := by
 intro args H n v H' n' hh
 simp only [gSS] at hh
 split at hh
 · rename_i s
   injection hh with hh; injection hh with e1 e2; injection e2 with e2 e3; subst e1 e2 e3
   have := h s.data.toList
   rw [show sL s.data.toList = .string s from congrArg Value.string (bA_data s)] at this
   exact AC.liftP (haf _) (Part.plain (by simp) [] (by simp [Seen]) gsz ⟨_, _, this⟩)
 · cases hh
abbrev g228 := gSS fun s => tupI (rI s)
theorem ok228 : EntOk Tryz.prog (228, g228) := okSS (fun _ => rfl) w228
end Go.Proofs.YtndlfijfjglkdaaGreatDoor

namespace Go.Proofs.YtndlfijfjglkdaaGreatDoor
open Go Go.Ab Go.Proofs
def sgI (s : List UInt8) : Int × Bool := match s with
 | 45 :: t => (-(rI t).1, (rI t).2 && decide (0 < (rI t).1))
 | s => rI s
theorem rI_bd (s : List UInt8) : 0 ≤ (rI s).1 ∧ (rI s).1 ≤ 10000000000 := by
 unfold rI
 split
 · rename_i h
   rw [Bool.and_eq_true] at h
   have hp := h.1
   simp only [preI, Bool.and_eq_true, decide_eq_true_eq, List.all_eq_true] at hp
   have := valD_bd hp.2 s.length (Nat.le_refl _)
   rw [List.take_length] at this
   have h10 := pow_le10 (i := s.length) (by omega)
   exact ⟨this.1, by show valD s ≤ _; omega⟩
 · exact ⟨Int.le_refl _, by decide⟩
set_option maxRecDepth 20000 in
theorem w184 (s : List UInt8) : AC Tryz.prog 184 [sL s] [] 10 (tupI (sgI s)) [] 10 := by
 have hr := recT_ok (P := Tryz.prog) (l := [(228, g228)]) (by simp only [List.forall_mem_cons]; exact ⟨ok228, by simp⟩)
 refine AC.pure Tryz.func184 rfl (by kernel_rfl) rfl [0, 2, 3, 4, 5] rfl ?_
 refine E.seq ?_
 refine E.reg hr (by simp; rfl) ?_
 refine E.seq ?_
 refine E.seq ?_
 cases s with
 | nil =>
   refine E.reg hr (by simp; rfl) ?_
   refine E.cond (t := false) (by rfl) (fun h => by cases h) (fun _ => ?_)
   refine E.skip ?_
   refine E.seq ?_
   refine E.reg hr (by simp; rfl) ?_
   refine E.ret ?_
   exact pureK.ret rfl rfl (by simp [sgI]) (by repeat first | exact sub_refl _ | refine sub_cons rfl ?_)
 | cons a t =>
 have hix := index_str0 (s := a :: t) (by simp)
 rw [show (a :: t)[0] = a from rfl] at hix
 have hb := rI_bd t
 by_cases h45 : a = 45
 · subst h45
   have hsl := slice_loL (s := 45 :: t) (a := 1) (by simp)
   rw [show (45 :: t).drop 1 = t from rfl, show ((1 : Nat) : Int) = 1 from rfl] at hsl
   have hw : IntKind.i64.wrap (-(rI t).1) = -(rI t).1 := W_in (by omega) (by omega)
   have h2 : sgI (45 :: t) = (-(rI t).1, (rI t).2 && decide (0 < (rI t).1)) := rfl
   refine E.reg hr (by simp [hix]; rfl) ?_
   refine E.cond (t := true) (by rfl) (fun _ => ?_) (fun h => by cases h)
   obtain ⟨q, hq⟩ : ∃ q, rI t = q := ⟨_, rfl⟩
   obtain ⟨v, b⟩ := q
   rw [hq] at hw h2
   dsimp only at hw h2
   refine E.seq ?_
   refine E.reg hr (by simp [opSlice, evI, hsl, hq]; rfl) ?_
   refine E.seq ?_
   cases b with
   | true =>
     refine E.reg hr (by simp [hw]; rfl) ?_
     refine E.ret ?_
     exact pureK.ret rfl rfl (by simp [h2]) (by repeat first | exact sub_refl _ | refine sub_cons rfl ?_)
   | false =>
     refine E.reg hr (by simp [hw, undefV]; rfl) ?_
     refine E.ret ?_
     exact pureK.ret rfl rfl (by simp [h2]) (by repeat first | exact sub_refl _ | refine sub_cons rfl ?_)
 · have hne : ¬ ((a.toNat : Nat) : Int) = 45 := fun e => h45 (UInt8.toNat_inj.1 (by have : (45 : UInt8).toNat = 45 := rfl; omega))
   have h2 : sgI (a :: t) = rI (a :: t) := by
     unfold sgI
     split
     · rename_i e
       injection e with e
       exact absurd e h45
     · rfl
   refine E.reg hr (by simp [hix, hne]; rfl) ?_
   refine E.cond (t := false) (by rfl) (fun h => by cases h) (fun _ => ?_)
   refine E.skip ?_
   refine E.seq ?_
   refine E.reg hr (by simp; rfl) ?_
   refine E.ret ?_
   exact pureK.ret rfl rfl (by simp [h2]) (by repeat first | exact sub_refl _ | refine sub_cons rfl ?_)
abbrev g184 := gSS fun s => tupI (sgI s)
theorem ok184 : EntOk Tryz.prog (184, g184) := okSS (fun _ => rfl) w184
end Go.Proofs.YtndlfijfjglkdaaGreatDoor

namespace Go.Proofs.YtndlfijfjglkdaaGreatDoor
open Go Go.Ab Go.Proofs
def S107 (s : List UInt8) (c : UInt8) : Nat × List (List UInt8) × List UInt8 → St
 | (i, [], w) => { fr := [(0, sL s), (1, u8 c), (5, .slice (some ⟨10, 0, none⟩) 1 1), (6, iv i)], sz := 40, H := [(10, .cells [sL w] 9)], n := 11, marks := [], vs := [0, 1, 5, 6] }
 | (i, d :: D, w) => { fr := [(0, sL s), (1, u8 c), (5, .slice (some ⟨10, 0, some 0⟩) (D.length + 1 + 1) 0), (6, iv i)], sz := 40, H := [(10, .ext (sls (d :: D) ++ [sL w]) 9 1)], n := 11, marks := [], vs := [0, 1, 5, 6] }
def q107 (D : List (List UInt8)) (w : List UInt8) (v : Value) (H : Heap) : Prop := match D with
 | [] => ∃ m, v = .slice (some ⟨m, 0, none⟩) 1 1 ∧ hget H m = some (.cells [sL w] 9) ∧ 10 ≤ m
 | d :: D => ∃ m, v = .slice (some ⟨m, 0, some 0⟩) (D.length + 1 + 1) 0 ∧ hget H m = some (.ext (sls (d :: D) ++ [sL w]) 9 1) ∧ 10 ≤ m
theorem spF_len (c : UInt8) : ∀ (s : List UInt8) (d : List (List UInt8)) (w : List UInt8), (spF c s d w).1.length ≤ d.length + s.length
 | [], d, w => by simp [spF]
 | x :: s, d, w => by
   unfold spF
   split
   · have := spF_len c s (d ++ [w]) []
     simp at this ⊢
     omega
   · have := spF_len c s d (w ++ [x])
     simp at this ⊢
     omega
set_option maxHeartbeats 4000000 in
set_option maxRecDepth 100000 in
theorem w107 (s : List UInt8) (c : UInt8) (hl : s.length < 2 ^ 31) : ∃ u H1 n1 H2, AC Tryz.prog 107 [sL s, u8 c] [] 10 u H1 n1 ∧ q107 (spD c s) (spW c s) u H2 ∧ (af u = false → H1 = H2) := by
 have hr := recT_ok (P := Tryz.prog) (l := []) (by simp)
 refine AC.out Tryz.func107 rfl (by kernel_rfl) rfl [0, 1, 5, 6] ?_
 refine E.seq ?_
 refine E.reg hr (by simp; rfl) ?_
 refine E.seq ?_
 refine E.reg hr (by simp; rfl) ?_
 refine E.seq ?_
 refine E.seq ?_
 refine E.reg hr (by simp; rfl) ?_
 refine E.block ?_
 refine E.loop ?_
 refine EL.ind (S107 s c) (fun x => s.length - x.1) (fun x => x.1 ≤ s.length ∧ spF c (s.drop x.1) x.2.1 x.2.2 = (spD c s, spW c s) ∧ x.2.1.length + x.2.2.length ≤ x.1) (0, [], []) (.less rfl rfl rfl (by simp [S107]) (by simp [S107])) ⟨Nat.zero_le _, rfl, by simp⟩ (fun x => by obtain ⟨i, D, w⟩ := x; cases D <;> rfl) ?_
 rintro ⟨i, D, w⟩ ⟨hi, hg, hlen⟩
 dsimp only at hi hg hlen
 have hw : IntKind.i64.wrap ((i : Int) + 1) = (i : Int) + 1 := W_in (by omega) (by omega)
 by_cases hx : i < s.length
 · have hxI : (i : Int) < s.length := by omega
   have hix := index_strL hx
   rw [List.drop_eq_getElem_cons hx, spF] at hg
   have hs1 : runP Tryz.prog (Instr.sliceAt 9 (sL s) (some (.int .i64 (i : Int))) (some (.int .i64 ((i : Int) + 1))) none) = some (sL [s[i]]) := by
     have := slice_lhL (s := s) (a := i) (b := i + 1) (by omega) (by omega)
     rw [List.drop_eq_getElem_cons hx, show i + 1 - i = 1 by omega] at this
     exact this
   have hwl : w.length + 1 ≤ 9223372036854775807 := by omega
   by_cases hc : s[i] = c
   · have hcI : ((s[i].toNat : Nat) : Int) = ((c.toNat : Nat) : Int) := by rw [hc]
     rw [if_pos hc] at hg
     cases D with
     | nil =>
       refine E.seq ?_
       refine E.seq ?_
       refine E.reg hr (by simp [S107, hxI]; rfl) ?_
       refine E.cond (t := true) (by rfl) (fun _ => ?_) (fun h => by cases h)
       refine E.skip ?_
       refine E.seq ?_
       refine E.block ?_
       refine E.seq ?_
       refine E.seq ?_
       refine E.reg hr (by simp [hix, hcI]; rfl) ?_
       refine E.cond (t := true) (by rfl) (fun _ => ?_) (fun h => by cases h)
       refine E.seq ?_
       refine E.reg hr (by simp; rfl) ?_
       refine E.exit ?_
       refine E.reg hr (by simp [hw]; rfl) ?_
       exact ⟨(i + 1, [w], []), Leads.ren [12] rfl rfl rfl ⟨rfl, rfl⟩ (by simp [S107]) (by simp [S107, sls_one]), ⟨by dsimp only; omega, by simpa using hg, by simp at hlen ⊢; try omega⟩, by dsimp only; omega⟩
     | cons d D =>
       have hlD : D.length + 1 + w.length ≤ i := by simpa using hlen
       have e1 : (sls (d :: D) ++ [sL w]).length = D.length + 1 + 1 := by simp
       have e2 : List.take (D.length + 1 + 1) (sls (d :: D) ++ [sL w]) = sls (d :: D) ++ [sL w] := List.take_of_length_le (by simp)
       have hno : ¬ D.length + 1 + 1 + 1 ≤ D.length + 1 + 1 := by omega
       have hsm : (D.length + 1 + 1 + 1) * 16 ≤ 1099511627776 ∧ D.length + 1 + 1 + 1 ≤ 1099511627776 := by omega
       refine E.seq ?_
       refine E.seq ?_
       refine E.reg hr (by simp [S107, hxI]; rfl) ?_
       refine E.cond (t := true) (by rfl) (fun _ => ?_) (fun h => by cases h)
       refine E.skip ?_
       refine E.seq ?_
       refine E.block ?_
       refine E.seq ?_
       refine E.seq ?_
       refine E.reg hr (by simp [hix, hcI]; rfl) ?_
       refine E.cond (t := true) (by rfl) (fun _ => ?_) (fun h => by cases h)
       refine E.seq ?_
       refine E.reg hr (by simp [e1, e2, hno, hsm]; rfl) ?_
       refine E.exit ?_
       refine E.reg hr (by simp [hw]; rfl) ?_
       exact ⟨(i + 1, d :: D ++ [w], []), Leads.ren [12] rfl rfl rfl ⟨rfl, rfl⟩ (by simp [S107]) (by simp [S107, sls_snoc]), ⟨by dsimp only; omega, by simpa using hg, by simp at hlen ⊢; try omega⟩, by dsimp only; omega⟩
   · have hcI : ¬ ((s[i].toNat : Nat) : Int) = ((c.toNat : Nat) : Int) := fun e => hc (UInt8.toNat_inj.1 (by omega))
     rw [if_neg hc] at hg
     cases D with
     | nil =>
       refine E.seq ?_
       refine E.seq ?_
       refine E.reg hr (by simp [S107, hxI]; rfl) ?_
       refine E.cond (t := true) (by rfl) (fun _ => ?_) (fun h => by cases h)
       refine E.skip ?_
       refine E.seq ?_
       refine E.block ?_
       refine E.seq ?_
       refine E.seq ?_
       refine E.reg hr (by simp [hix, hcI]; rfl) ?_
       refine E.cond (t := false) (by rfl) (fun h => by cases h) (fun _ => ?_)
       refine E.skip ?_
       refine E.drawC mixed hr [17] [17] [9, 14, 17] (by kernel_rfl) (by simp [opSlice, evI, hw, hs1, bin_adds, hwl]; rfl) ?_
       refine E.reg hr (by simp [hw]; rfl) ?_
       exact ⟨(i + 1, [], w ++ [s[i]]), Leads.ren [10] rfl rfl rfl ⟨rfl, rfl⟩ (by simp [S107]) (by simp [S107]), ⟨by dsimp only; omega, by simpa using hg, by simp at hlen ⊢; try omega⟩, by dsimp only; omega⟩
     | cons d D =>
       have hlD : D.length + 1 + w.length ≤ i := by simpa using hlen
       have e1 : (sls (d :: D) ++ [sL w]).length = D.length + 1 + 1 := by simp
       have hws : IntKind.i64.wrap ((D.length : Int) + 1) = (D.length : Int) + 1 := W_in (by omega) (by omega)
       have eg : (sls (d :: D) ++ [sL w])[D.length + 1]? = some (sL w) := by rw [List.getElem?_append_right (by simp)]; simp
       have et : List.take (D.length + 1) (sls (d :: D) ++ [sL w]) = sls (d :: D) := by rw [List.take_append_of_le_length (by simp), List.take_of_length_le (by simp)]
       have ed : List.drop (D.length + 1 + 1) (sls (d :: D) ++ [sL w]) = [] := List.drop_of_length_le (by simp)
       refine E.seq ?_
       refine E.seq ?_
       refine E.reg hr (by simp [S107, hxI]; rfl) ?_
       refine E.cond (t := true) (by rfl) (fun _ => ?_) (fun h => by cases h)
       refine E.skip ?_
       refine E.seq ?_
       refine E.block ?_
       refine E.seq ?_
       refine E.seq ?_
       refine E.reg hr (by simp [hix, hcI]; rfl) ?_
       refine E.cond (t := false) (by rfl) (fun h => by cases h) (fun _ => ?_)
       refine E.skip ?_
       refine E.drawC mixed hr [17] [17] [9, 14, 17] (by kernel_rfl) (by simp [opSlice, evI, hw, hs1, bin_adds, hwl, e1, hws, et, ed]; rfl) ?_
       refine E.reg hr (by simp [hw]; rfl) ?_
       exact ⟨(i + 1, d :: D, w ++ [s[i]]), Leads.ren [10] rfl rfl rfl ⟨rfl, rfl⟩ (by simp [S107]) (by simp [S107]), ⟨by dsimp only; omega, by simpa using hg, by simp at hlen ⊢; try omega⟩, by dsimp only; omega⟩
 · have hxI : ¬ (i : Int) < s.length := by omega
   rw [List.drop_eq_nil_of_le (by omega), spF, Prod.mk.injEq] at hg
   cases D with
   | nil =>
     refine E.seq ?_
     refine E.seq ?_
     refine E.reg hr (by simp [S107, hxI]; rfl) ?_
     refine E.cond (t := false) (by rfl) (fun h => by cases h) (fun _ => ?_)
     refine E.exit ?_
     refine E.seq ?_
     refine E.reg hr (by simp; rfl) ?_
     refine E.ret ?_
     refine outK.ret rfl rfl ?_
     rw [← hg.1, ← hg.2]
     simp [q107]
   | cons d D =>
     refine E.seq ?_
     refine E.seq ?_
     refine E.reg hr (by simp [S107, hxI]; rfl) ?_
     refine E.cond (t := false) (by rfl) (fun h => by cases h) (fun _ => ?_)
     refine E.exit ?_
     refine E.seq ?_
     refine E.reg hr (by simp; rfl) ?_
     refine E.ret ?_
     refine outK.ret rfl rfl ?_
     rw [← hg.1, ← hg.2]
     simp [q107]
end Go.Proofs.YtndlfijfjglkdaaGreatDoor

namespace Go.Proofs.YtndlfijfjglkdaaGreatDoor
open Go Go.Ab Go.Proofs
theorem decDigits_dig : ∀ (u : Nat), ∀ b ∈ Lib.decDigits u, digB b = true := by
 intro u
 induction u using Nat.strongRecOn with
 | _ u ih =>
   intro b hb
   rw [Lib.decDigits] at hb
   split at hb
   · rename_i h
     simp only [List.mem_singleton] at hb
     subst hb
     simp only [digB, decide_eq_true_eq, UInt8.toNat_ofNat']
     omega
   · rename_i h
     simp only [List.mem_append, List.mem_singleton] at hb
     rcases hb with hb | rfl
     · exact ih (u / 10) (by omega) b hb
     · simp only [digB, decide_eq_true_eq, UInt8.toNat_ofNat']
       omega
theorem decDigits_val : ∀ (u : Nat), valD (Lib.decDigits u) = u := by
 intro u
 induction u using Nat.strongRecOn with
 | _ u ih =>
   rw [Lib.decDigits]
   split
   · rename_i h
     simp only [valD, List.foldl_cons, List.foldl_nil, stepD, UInt8.toNat_ofNat']
     omega
   · rename_i h
     have := ih (u / 10) (by omega)
     unfold valD at this ⊢
     rw [List.foldl_append, this]
     simp only [List.foldl_cons, List.foldl_nil, stepD, UInt8.toNat_ofNat']
     omega
theorem decDigits_ne (u : Nat) : Lib.decDigits u ≠ [] := by
 rw [Lib.decDigits]
 split <;> simp
theorem decDigits_lead : ∀ (u : Nat), leadB (Lib.decDigits u) = true ∧ (0 < u → (Lib.decDigits u).head? ≠ some 48) := by
 intro u
 induction u using Nat.strongRecOn with
 | _ u ih =>
   rw [Lib.decDigits]
   split
   · rename_i h
     refine ⟨by simp [leadB], fun h0 e => ?_⟩
     simp only [List.head?_cons, Option.some.injEq] at e
     have := congrArg UInt8.toNat e
     simp only [UInt8.toNat_ofNat'] at this
     have h48 : (48 : UInt8).toNat = 48 := rfl
     rw [h48] at this
     omega
   · rename_i h
     obtain ⟨_, h2⟩ := ih (u / 10) (by omega)
     have h3 := h2 (by omega)
     have hne := decDigits_ne (u / 10)
     have hh : (Lib.decDigits (u / 10) ++ [UInt8.ofNat (48 + u % 10)]).head? = (Lib.decDigits (u / 10)).head? := by
       cases hd : Lib.decDigits (u / 10) with
       | nil => exact absurd hd hne
       | cons a b => rfl
     refine ⟨?_, fun _ => by rw [hh]; exact h3⟩
     unfold leadB
     rw [hh]
     simp [h3]
theorem dd_len {n : Int} (h : n ≤ 999999999) : (dd n).length ≤ 9 := by
 rw [dd, Lib.decDigits_length]
 refine Nat.le_of_not_lt fun hc => ?_
 have hm : ∀ (k u : Nat), k < Lib.nDigits u → 10 ^ k ≤ u ∨ k = 0 := by
   intro k
   induction k with
   | zero => intro u _; exact .inr rfl
   | succ k ih =>
     intro u hu
     by_cases hs : u < 10
     · rw [Lib.nDigits_small hs] at hu; omega
     · rw [Lib.nDigits_big hs] at hu
       rcases ih (u / 10) (by omega) with h1 | h1
       · rw [Nat.pow_succ]; exact .inl (by omega)
       · subst h1; exact .inl (by omega)
 rcases hm 9 _ hc with h1 | h1
 · have : (10 : Nat) ^ 9 = 1000000000 := by decide
   omega
 · cases h1
theorem rI_dd {n : Int} (h0 : 0 ≤ n) (h1 : n ≤ 999999999) : rI (dd n) = (n, true) := by
 have e1 : preI (dd n) = true := by
   have hl := dd_len h1
   have hne := decDigits_ne n.toNat
   have ha : (dd n).all digB = true := List.all_eq_true.2 fun b hb => decDigits_dig _ b hb
   have hne' : decide (dd n = []) = false := decide_eq_false hne
   simp [preI, ha, hl, hne']
 have e2 : leadB (dd n) = true := (decDigits_lead n.toNat).1
 unfold rI
 rw [e1, e2]
 simp only [Bool.and_self, if_true]
 rw [dd, decDigits_val]
 congr 1
 omega
theorem dig_ne {b c : UInt8} (h : digB b = true) (hc : digB c = false) : b ≠ c := fun e => by rw [e, hc] at h; cases h
theorem dd_no {c : UInt8} (hc : digB c = false) (n : Int) : c ∉ dd n := fun h => dig_ne (decDigits_dig _ c h) hc rfl
def unS (c : UInt8) (D : List (List UInt8)) : List UInt8 := D.flatMap fun w => w ++ [c]
theorem spF_join (c : UInt8) : ∀ (s : List UInt8) (d : List (List UInt8)) (w : List UInt8), unS c (spF c s d w).1 ++ (spF c s d w).2 = unS c d ++ w ++ s
 | [], d, w => by simp [spF]
 | x :: s, d, w => by
   unfold spF
   split
   · rename_i h
     subst h
     rw [spF_join x s]
     simp [unS]
   · rw [spF_join c s]
     simp
theorem sp_join (c : UInt8) (s : List UInt8) : unS c (spD c s) ++ spW c s = s := by
 rw [spD, spW, spF_join]; rfl
theorem digB_iff {b : UInt8} : digB b = true ↔ 48 ≤ b.toNat ∧ b.toNat ≤ 57 := by simp [digB]
theorem fold_le : ∀ (s : List UInt8) (m n : Int), 0 ≤ m → m ≤ n → s.all digB = true → m ≤ s.foldl stepD n
 | [], _, _, _, h, _ => h
 | b :: s, m, n, h0, h, hs => by
   simp only [List.all_cons, Bool.and_eq_true] at hs
   have := digB_iff.1 hs.1
   exact fold_le s m _ h0 (by simp only [stepD]; omega) hs.2
theorem val_nonneg {s : List UInt8} (hs : s.all digB = true) : 0 ≤ valD s := fold_le s 0 0 (by omega) (by omega) hs
theorem val_pos {b : UInt8} {s : List UInt8} (hs : (b :: s).all digB = true) (hb : b ≠ 48) : 1 ≤ valD (b :: s) := by
 simp only [List.all_cons, Bool.and_eq_true] at hs
 have h1 := digB_iff.1 hs.1
 have h2 : b.toNat ≠ 48 := fun e => hb (UInt8.toNat_inj.1 e)
 exact fold_le s 1 _ (by omega) (by simp only [stepD]; omega) hs.2
theorem ofNat_dig {b : UInt8} {u : Nat} (h : b.toNat = 48 + u) : UInt8.ofNat (48 + u) = b := by rw [← h]; exact UInt8.ofNat_toNat
theorem dd_val : ∀ (k : Nat) (s : List UInt8), s.length = k → s ≠ [] → s.all digB = true → leadB s = true → Lib.decDigits (valD s).toNat = s := by
 intro k
 induction k with
 | zero => intro s h h2; exact absurd (List.length_eq_zero_iff.1 h) h2
 | succ k ih =>
   intro s hk hne hs hl
   obtain ⟨b, x, rfl⟩ : ∃ b x, s = b ++ [x] := ⟨s.dropLast, s.getLast hne, (List.dropLast_concat_getLast hne).symm⟩
   simp only [List.all_append, List.all_cons, List.all_nil, Bool.and_true, Bool.and_eq_true] at hs
   obtain ⟨hb, hx⟩ := hs
   have hx := digB_iff.1 hx
   have hv : valD (b ++ [x]) = 10 * valD b + ((x.toNat : Int) - 48) := by simp [valD, stepD]
   have h0 := val_nonneg hb
   cases hbe : b with
   | nil =>
     subst hbe
     have hv0 : valD ([] : List UInt8) = 0 := rfl
     rw [hv0] at hv
     have e : (valD ([] ++ [x])).toNat = x.toNat - 48 := by rw [hv]; omega
     rw [e, Lib.decDigits, dif_pos (by omega), ofNat_dig (b := x) (by omega)]
     rfl
   | cons y b' =>
     rw [← hbe]
     have hh : y ≠ 48 := by
       intro e
       subst e
       simp [leadB, hbe] at hl
     have hp : 1 ≤ valD b := by rw [hbe]; exact val_pos (hbe ▸ hb) hh
     have hlb : leadB b = true := by rw [hbe]; simp [leadB, hh]
     have := ih b (by simp at hk; exact hk) (by simp [hbe]) hb hlb
     have e1 : (valD (b ++ [x])).toNat / 10 = (valD b).toNat := by rw [hv]; omega
     have e2 : (valD (b ++ [x])).toNat % 10 = x.toNat - 48 := by rw [hv]; omega
     have e3 : ¬ (valD (b ++ [x])).toNat < 10 := by rw [hv]; omega
     rw [Lib.decDigits, dif_neg e3, e1, e2, this, ofNat_dig (b := x) (by omega)]
theorem rI_back {s : List UInt8} (h : (rI s).2 = true) : dd (rI s).1 = s := by
 unfold rI at h ⊢
 split at h
 · rename_i hc
   rw [if_pos hc]
   simp only [preI, Bool.and_eq_true, Bool.not_eq_true', decide_eq_false_iff_not, decide_eq_true_eq] at hc
   exact dd_val _ s rfl hc.1.1.1 hc.1.2 hc.2
 · cases h
theorem spl_join {c : UInt8} {s : List UInt8} {D : List (List UInt8)} {w : List UInt8} (h : spl c s = D ++ [w]) : s = unS c D ++ w := by
 have h1 := List.append_inj' (h.symm.trans rfl : D ++ [w] = spD c s ++ [spW c s]) rfl
 have h2 := h1.2
 injection h2 with h2
 have := sp_join c s
 rw [← h1.1, ← h2] at this
 exact this.symm
def itB (s : List UInt8) : Bool := match Lib.atoiAll s with
 | .ok v => decide (Lib.itoa v = s) && decide ((Lib.trimPrefix s [45]).length ≤ 9)
 | _ => false
def itV (s : List UInt8) : Int := match Lib.atoiAll s with
 | .ok v => v
 | .range => Lib.atoiSat s
 | _ => 0
theorem parse_dig : ∀ (l : List UInt8) (acc k : Nat), l.all digB = true → acc < 10 ^ k → l.length + k ≤ 18 → Lib.parseUint10 acc l = .ok (l.foldl stepD (acc : Int)).toNat
 | [], acc, k, _, _, _ => by simp [Lib.parseUint10]
 | b :: l, acc, k, hd, ha, hk => by
   simp only [List.all_cons, Bool.and_eq_true] at hd
   obtain ⟨hb, hd⟩ := hd
   have hb := digB_iff.1 hb
   rw [List.length_cons] at hk
   have h17 : (10 : Nat) ^ k ≤ 10 ^ 17 := Nat.pow_le_pow_right (by omega) (by omega)
   have e17 : (10 : Nat) ^ 17 = 100000000000000000 := by decide
   have hp : (10 : Nat) ^ (k + 1) = 10 ^ k * 10 := Nat.pow_succ ..
   have ih := parse_dig l (acc * 10 + (b.toNat - 48)) (k + 1) hd (by omega) (by omega)
   rw [Lib.parseUint10, if_pos hb, if_neg (by omega), if_neg (by omega), ih]
   have : stepD (acc : Int) b = ((acc * 10 + (b.toNat - 48) : Nat) : Int) := by simp only [stepD]; omega
   rw [List.foldl_cons, this]
theorem mag_dig {l : List UInt8} (h0 : l ≠ []) (h : l.all digB = true) (h9 : l.length ≤ 9) : Lib.parseMag l = .ok (valD l).toNat := by
 unfold Lib.parseMag
 rw [if_neg h0]
 have := parse_dig l 0 1 h (by decide) (by omega)
 exact this
theorem val_bd9 {l : List UInt8} (h : l.all digB = true) (h9 : l.length ≤ 9) : 0 ≤ valD l ∧ valD l ≤ 10000000000 := by
 have hp := List.all_eq_true.1 h
 have := valD_bd hp l.length (Nat.le_refl _)
 rw [List.take_length] at this
 have h10 := pow_le10 (i := l.length) (by omega)
 exact ⟨this.1, by omega⟩
theorem trim_other {c : UInt8} {r : List UInt8} (h : c ≠ 45) : Lib.trimPrefix (c :: r) [45] = c :: r := by
 unfold Lib.trimPrefix Lib.hasPrefix
 rw [if_neg]
 simp [Ne.symm h]
theorem trim_minus (r : List UInt8) : Lib.trimPrefix (45 :: r) [45] = r := by
 unfold Lib.trimPrefix Lib.hasPrefix
 simp
theorem pre_iff {s : List UInt8} : (preI s && leadB s) = true ↔ s ≠ [] ∧ s.length ≤ 9 ∧ s.all digB = true ∧ leadB s = true := by
 simp only [preI, Bool.and_eq_true, Bool.not_eq_true', decide_eq_false_iff_not, decide_eq_true_eq]
 constructor
 · rintro ⟨⟨⟨a, b⟩, c⟩, d⟩; exact ⟨a, b, c, d⟩
 · rintro ⟨a, b, c, d⟩; exact ⟨⟨⟨a, b⟩, c⟩, d⟩
theorem rI_iff {s : List UInt8} : (rI s).2 = true ↔ s ≠ [] ∧ s.length ≤ 9 ∧ s.all digB = true ∧ leadB s = true := by
 rw [← pre_iff]
 unfold rI
 split <;> simp_all
theorem rI_fst {s : List UInt8} (h : (rI s).2 = true) : (rI s).1 = valD s := by
 unfold rI at h ⊢
 split
 · rfl
 · rename_i hc
   rw [if_neg hc] at h; cases h
theorem sg_other {c : UInt8} {r : List UInt8} (h : c ≠ 45) : sgI (c :: r) = rI (c :: r) := by
 unfold sgI
 split
 · rename_i e; injection e with e _; exact absurd e h
 · rfl
theorem in_of_sg {s : List UInt8} (h : (sgI s).2 = true) : itB s = true ∧ itV s = (sgI s).1 := by
 match s with
 | [] => cases h
 | c :: r =>
   by_cases hc : c = 45
   · subst hc
     have e : sgI (45 :: r) = (-(rI r).1, (rI r).2 && decide (0 < (rI r).1)) := rfl
     rw [e] at h ⊢
     simp only [Bool.and_eq_true, decide_eq_true_eq] at h
     obtain ⟨h1, h2⟩ := h
     obtain ⟨a1, a2, a3, a4⟩ := rI_iff.1 h1
     have hv := rI_fst h1
     have hb := val_bd9 a3 a2
     have hA : Lib.atoiAll (45 :: r) = .ok (-(valD r)) := by
       rw [Lib.atoiAll_minus, mag_dig a1 a3 a2]
       unfold Lib.signed
       simp only
       rw [if_neg (by omega)]
       congr 2
       omega
     refine ⟨?_, by unfold itV; rw [hA, hv]⟩
     unfold itB
     rw [hA]
     simp only [Bool.and_eq_true, decide_eq_true_eq]
     refine ⟨?_, by rw [trim_minus]; exact a2⟩
     unfold Lib.itoa
     rw [if_pos (by omega)]
     congr 1
     rw [show (-(valD r)).natAbs = (valD r).toNat by omega]
     exact dd_val _ r rfl a1 a3 a4
   · rw [sg_other hc] at h ⊢
     obtain ⟨a1, a2, a3, a4⟩ := rI_iff.1 h
     have hv := rI_fst h
     have hb := val_bd9 a3 a2
     have hd : digB c = true := by simp only [List.all_cons, Bool.and_eq_true] at a3; exact a3.1
     have hd := digB_iff.1 hd
     have hA : Lib.atoiAll (c :: r) = .ok (valD (c :: r)) := by
       rw [Lib.atoiAll_plain c r (by omega) (by omega), mag_dig a1 a3 a2]
       unfold Lib.signless
       simp only
       rw [if_neg (by omega)]
       congr 1
       omega
     refine ⟨?_, by unfold itV; rw [hA, hv]⟩
     unfold itB
     rw [hA]
     simp only [Bool.and_eq_true, decide_eq_true_eq]
     refine ⟨?_, by rw [trim_other hc]; exact a2⟩
     unfold Lib.itoa
     rw [if_neg (by omega)]
     exact dd_val _ _ rfl a1 a3 a4
theorem sg_of_in {s : List UInt8} (h : itB s = true) : (sgI s).2 = true := by
 unfold itB at h
 split at h
 · rename_i v hA
   simp only [Bool.and_eq_true, decide_eq_true_eq] at h
   obtain ⟨h1, h2⟩ := h
   unfold Lib.itoa at h1
   split at h1
   · rename_i hv
     have hp : 0 < v.natAbs := by omega
     obtain ⟨r, hr⟩ : ∃ r, Lib.decDigits v.natAbs = r := ⟨_, rfl⟩
     have b1 : r ≠ [] := hr ▸ decDigits_ne _
     have b2 : r.all digB = true := List.all_eq_true.2 fun b hb => decDigits_dig v.natAbs b (by rw [hr]; exact hb)
     have b3 : leadB r = true := hr ▸ (decDigits_lead v.natAbs).1
     have b4 : valD r = v.natAbs := hr ▸ decDigits_val v.natAbs
     rw [hr] at h1
     subst h1
     rw [trim_minus] at h2
     have h3 := rI_iff.2 ⟨b1, h2, b2, b3⟩
     show ((rI r).2 && decide (0 < (rI r).1)) = true
     rw [h3, rI_fst h3, b4]
     simp
     omega
   · rename_i hv
     have b1 : s ≠ [] := h1 ▸ decDigits_ne _
     have b2 : s.all digB = true := List.all_eq_true.2 fun b hb => decDigits_dig v.toNat b (by rw [h1]; exact hb)
     have b3 : leadB s = true := h1 ▸ (decDigits_lead v.toNat).1
     match s, b1 with
     | c :: r, b1 =>
       have hd : digB c = true := by simp only [List.all_cons, Bool.and_eq_true] at b2; exact b2.1
       have hc : c ≠ 45 := fun e => by rw [e] at hd; cases hd
       rw [trim_other hc] at h2
       rw [sg_other hc]
       exact rI_iff.2 ⟨b1, h2, b2, b3⟩
 · cases h
theorem in_sg (s : List UInt8) : itB s = (sgI s).2 := by
 rw [Bool.eq_iff_iff]
 exact ⟨sg_of_in, fun h => (in_of_sg h).1⟩
end Go.Proofs.YtndlfijfjglkdaaGreatDoor

namespace Go.Proofs.YtndlfijfjglkdaaGreatDoor
open Go Go.Ab Go.Proofs
end Go.Proofs.YtndlfijfjglkdaaGreatDoor

namespace Go.Proofs.YtndlfijfjglkdaaGreatDoor
open Go Go.Ab Go.Proofs
end Go.Proofs.YtndlfijfjglkdaaGreatDoor

namespace Go.Proofs.YtndlfijfjglkdaaGreatDoor
open Go Go.Ab Go.Proofs
end Go.Proofs.YtndlfijfjglkdaaGreatDoor

namespace Go.Proofs.YtndlfijfjglkdaaGreatDoor
open Go Go.Ab Go.Proofs
end Go.Proofs.YtndlfijfjglkdaaGreatDoor

namespace Go.Proofs.YtndlfijfjglkdaaGreatDoor
open Go Go.Ab Go.Proofs
end Go.Proofs.YtndlfijfjglkdaaGreatDoor

namespace Go.Proofs.YtndlfijfjglkdaaGreatDoor
open Go Go.Ab Go.Proofs
end Go.Proofs.YtndlfijfjglkdaaGreatDoor

namespace Go.Proofs.YtndlfijfjglkdaaGreatDoor
open Go Go.Ab Go.Proofs
end Go.Proofs.YtndlfijfjglkdaaGreatDoor

namespace Go.Proofs.YtndlfijfjglkdaaGreatDoor
open Go Go.Ab Go.Proofs Ieee
end Go.Proofs.YtndlfijfjglkdaaGreatDoor

namespace Go.Ab
open Go
end Go.Ab
namespace Go.Proofs.YtndlfijfjglkdaaGreatDoor
open Go Go.Ab Go.Proofs
end Go.Proofs.YtndlfijfjglkdaaGreatDoor

namespace Go.Proofs.YtndlfijfjglkdaaGreatDoor
open Go Go.Ab Go.Proofs
end Go.Proofs.YtndlfijfjglkdaaGreatDoor

namespace Go.Proofs.YtndlfijfjglkdaaGreatDoor
open Go Go.Ab Go.Proofs Ieee
end Go.Proofs.YtndlfijfjglkdaaGreatDoor

namespace Go.Proofs.YtndlfijfjglkdaaGreatDoor
open Go Go.Ab Go.Proofs
end Go.Proofs.YtndlfijfjglkdaaGreatDoor

namespace Go.Proofs.YtndlfijfjglkdaaGreatDoor
open Go Go.Ab Go.Proofs
end Go.Proofs.YtndlfijfjglkdaaGreatDoor

namespace Go.Proofs.YtndlfijfjglkdaaGreatDoor
open Go Go.Ab Go.Proofs
end Go.Proofs.YtndlfijfjglkdaaGreatDoor

namespace Go.Proofs.YtndlfijfjglkdaaGreatDoor
open Go Go.Ab Go.Proofs
end Go.Proofs.YtndlfijfjglkdaaGreatDoor

namespace Go.Proofs.YtndlfijfjglkdaaGreatDoor
open Go Go.Ab Go.Proofs
end Go.Proofs.YtndlfijfjglkdaaGreatDoor

namespace Go.Proofs.YtndlfijfjglkdaaGreatDoor
open Go Go.Ab Go.Proofs
end Go.Proofs.YtndlfijfjglkdaaGreatDoor

namespace Go.Proofs.YtndlfijfjglkdaaGreatDoor
open Go Go.Ab Go.Proofs
end Go.Proofs.YtndlfijfjglkdaaGreatDoor

namespace Go.Proofs.YtndlfijfjglkdaaGreatDoor
open Go Go.Ab Go.Proofs
end Go.Proofs.YtndlfijfjglkdaaGreatDoor

namespace Go.Proofs.YtndlfijfjglkdaaGreatDoor
open Go Go.Ab Go.Proofs
end Go.Proofs.YtndlfijfjglkdaaGreatDoor

namespace Go.Proofs.YtndlfijfjglkdaaGreatDoor
open Go Go.Ab Go.Proofs
end Go.Proofs.YtndlfijfjglkdaaGreatDoor

namespace Go.Proofs.YtndlfijfjglkdaaGreatDoor
open Go Go.Ab Go.Proofs
end Go.Proofs.YtndlfijfjglkdaaGreatDoor

namespace Go.Proofs.YtndlfijfjglkdaaGreatDoor
open Go Go.Ab Go.Proofs
end Go.Proofs.YtndlfijfjglkdaaGreatDoor

namespace Go.Proofs.YtndlfijfjglkdaaGreatDoor
open Go Go.Ab Go.Proofs
end Go.Proofs.YtndlfijfjglkdaaGreatDoor

namespace Go.Proofs.YtndlfijfjglkdaaGreatDoor
open Go Go.Ab Go.Proofs
end Go.Proofs.YtndlfijfjglkdaaGreatDoor

namespace Go.Proofs.YtndlfijfjglkdaaGreatDoor
open Go Go.Ab Go.Proofs
def hS (k : Nat) : Heap := [(12, .cells [.slice (some ⟨10, 0, some 0⟩) k 0] 32)]
end Go.Proofs.YtndlfijfjglkdaaGreatDoor

namespace Go.Proofs.YtndlfijfjglkdaaGreatDoor
open Go Go.Ab Go.Proofs
end Go.Proofs.YtndlfijfjglkdaaGreatDoor

namespace Go.Proofs.YtndlfijfjglkdaaGreatDoor
open Go Go.Ab Go.Proofs
end Go.Proofs.YtndlfijfjglkdaaGreatDoor

namespace Go.Proofs.YtndlfijfjglkdaaGreatDoor
open Go Go.Ab Go.Proofs
end Go.Proofs.YtndlfijfjglkdaaGreatDoor

namespace Go.Proofs.YtndlfijfjglkdaaGreatDoor
open Go Go.Ab Go.Proofs
end Go.Proofs.YtndlfijfjglkdaaGreatDoor

namespace Go.Proofs.YtndlfijfjglkdaaGreatDoor
open Go Go.Ab Go.Proofs
end Go.Proofs.YtndlfijfjglkdaaGreatDoor

namespace Go.Proofs.YtndlfijfjglkdaaGreatDoor
open Go Go.Ab Go.Proofs
end Go.Proofs.YtndlfijfjglkdaaGreatDoor

namespace Go.Proofs.YtndlfijfjglkdaaGreatDoor
open Go Go.Ab Go.Proofs
end Go.Proofs.YtndlfijfjglkdaaGreatDoor

namespace Go.Proofs.YtndlfijfjglkdaaGreatDoor
open Go Go.Ab Go.Proofs Ieee
end Go.Proofs.YtndlfijfjglkdaaGreatDoor

namespace Go.Proofs.YtndlfijfjglkdaaGreatDoor
open Go Go.Ab Go.Proofs Ieee
def MemOk (N : Nat) (X : Heap) : Prop := namesOk N X = true ∧ plainH X = true
theorem MemOk.none {N : Nat} {X : Heap} (h : MemOk N X) {k : Nat} (hk : N ≤ k) : hget X k = none := namesOk_none h.1 k hk
theorem MemOk.put {N : Nat} {X : Heap} (h : MemOk N X) {b : Blk} (hb : plainB2 b = true) : MemOk (N + 1) ((N, b) :: X) ∧ Sub X ((N, b) :: X) :=
 ⟨⟨namesOk_put (Nat.lt_succ_self _) (namesOk_mono (Nat.le_succ _) _ h.1), by rw [plainH, hb, h.2]; rfl⟩, Sub.cons (h.none (Nat.le_refl _)) (Sub.refl _)⟩
theorem MemOk.lt {N : Nat} {X : Heap} (h : MemOk N X) {k : Nat} {b : Blk} (hb : hget X k = some b) : k < N := by
 rcases Nat.lt_or_ge k N with h1 | h1
 · exact h1
 · rw [h.none h1] at hb; cases hb
end Go.Proofs.YtndlfijfjglkdaaGreatDoor

namespace Go.Proofs.YtndlfijfjglkdaaGreatDoor
open Go Go.Ab Go.Proofs Ieee
end Go.Proofs.YtndlfijfjglkdaaGreatDoor

namespace Go.Proofs.YtndlfijfjglkdaaGreatDoor
open Go Go.Ab Go.Proofs Ieee
end Go.Proofs.YtndlfijfjglkdaaGreatDoor

namespace Go.Proofs.YtndlfijfjglkdaaGreatDoor
open Go Go.Ab Go.Proofs
end Go.Proofs.YtndlfijfjglkdaaGreatDoor

namespace Go.Proofs.YtndlfijfjglkdaaGreatDoor
open Go Go.Ab Go.Proofs
end Go.Proofs.YtndlfijfjglkdaaGreatDoor

namespace Go.Proofs.YtndlfijfjglkdaaGreatDoor
open Go Go.Ab Go.Proofs
section
variable {X : Heap} {N : Nat}
theorem MemOk.sb (hm : MemOk N X) {t sz k : Nat} {cs : List Value} (hp : plainB2 (.ext cs t sz) = true) : MemOk (N + 1) (outSB N t sz k cs ++ X) ∧ Sub X (outSB N t sz k cs ++ X) := by
 by_cases h : k = 0
 · rw [outSB, if_pos h]
   exact ⟨⟨namesOk_mono (Nat.le_succ _) _ hm.1, hm.2⟩, Sub.refl _⟩
 · rw [outSB, if_neg h]
   exact hm.put hp
end
end Go.Proofs.YtndlfijfjglkdaaGreatDoor

namespace Go.Proofs.YtndlfijfjglkdaaGreatDoor
open Go Go.Ab Go.Proofs Ieee
end Go.Proofs.YtndlfijfjglkdaaGreatDoor

namespace Go.Proofs.YtndlfijfjglkdaaGreatDoor
open Go Go.Ab Go.Proofs
end Go.Proofs.YtndlfijfjglkdaaGreatDoor

namespace Go.Proofs.YtndlfijfjglkdaaGreatDoor
open Go Go.Ab Go.Proofs
end Go.Proofs.YtndlfijfjglkdaaGreatDoor

namespace Go.Proofs.YtndlfijfjglkdaaGreatDoor
open Go Go.Ab Go.Proofs
end Go.Proofs.YtndlfijfjglkdaaGreatDoor

namespace Go.Proofs.YtndlfijfjglkdaaGreatDoor
open Go Go.Ab Go.Proofs
end Go.Proofs.YtndlfijfjglkdaaGreatDoor

namespace Go.Proofs.YtndlfijfjglkdaaGreatDoor
open Go Go.Ab Go.Proofs
end Go.Proofs.YtndlfijfjglkdaaGreatDoor

namespace Go.Proofs.YtndlfijfjglkdaaGreatDoor
open Go Go.Ab Go.Proofs
theorem strAt_frz {H : Heap} {x : Value} {l : List Gun} (h : strAt H x = some l) : strAt (frzH H) x = some l := by
 unfold strAt at h ⊢
 split at h
 · exact h
 · unfold gunsAt at h ⊢
   simp only [cellsA_frz]
   exact h
 · cases h
end Go.Proofs.YtndlfijfjglkdaaGreatDoor

namespace Go.Proofs.YtndlfijfjglkdaaGreatDoor
open Go Go.Ab Go.Proofs
end Go.Proofs.YtndlfijfjglkdaaGreatDoor

namespace Go.Ab
open Go
section
variable {L Hx : Heap} {n t sz k N o : Nat} {cs new : List Value}
theorem GL.appX {P : Program} {st : TypeId} {i : TypeInfo} (hL : ∀ k b, hget L k = some b → k < n) (hu : P.underlying st = some (.slice t)) (hi : P.info? t = some i) (hsz : i.size = sz) (hz : zeroOk i = true) (hb : i.bytes ≤ 128) (h : GL L n t sz cs k Hx N o) (hk : k < 2147483647) (hnew : new.length = sz) (hs0 : 0 < sz) (hone : oneL new = true) (hpn : plainB2 (.cells new t) = true) :
   ∃ Hz, builtinA P .append #[st, st] ((N, .cells new t) :: Hx) (N + 1) [outS o k, .slice (some ⟨N, 0, none⟩) 1 1] = some (outS (N + 1) (k + 1), Hz, N + 1 + 1) ∧ GL L n t sz (cs ++ new) (k + 1) Hz (N + 1 + 1) (N + 1) ∧ ∀ j b, j < n → hget Hx j = some b → hget Hz j = some b := by
 have h2 := h.skip hL (.cells new t) hpn
 have hb' := h.big
 have hlo' := h.low
 refine ⟨_, ?_, h2.grow hL (by rw [List.length_append, h.len, hnew, Nat.succ_mul]), fun j b hj hjb => ?_⟩
 rotate_left
 · rw [hget_cons, if_neg (by omega)]
   have e : hget ((N, .cells new t) :: Hx) j = some b := by rw [hget_cons, if_neg (by omega)]; exact hjb
   split
   · exact e
   · rw [hget_hdel, if_neg (by omega)]; exact e
 have hc : cellsA ((N, .cells new t) :: Hx) N 0 (1 * sz) = some new := by
   rw [cellsA_eq, hget_cons, if_pos rfl]
   simp only [Option.bind_some, cellsB]
   rw [if_pos (by omega), List.drop_zero, List.take_of_length_le (by omega)]
 have hsm1 : smallA i.bytes 1 = true := by
   unfold smallA
   rw [Bool.and_eq_true]
   exact ⟨decide_eq_true (by omega), decide_eq_true (by omega)⟩
 have hsm : smallA i.bytes (k + 1) = true := by
   unfold smallA
   rw [Bool.and_eq_true]
   refine ⟨decide_eq_true ?_, decide_eq_true ?_⟩
   · have := Nat.mul_le_mul_left (k + 1) hb
     omega
   · omega
 have h1 : ¬ 1 * sz = 0 := by omega
 show appendA P #[st, st] _ _ _ _ = _
 unfold appendA
 have hnb : Nat.beq new.length (1 * sz) = true := by rw [hnew, Nat.one_mul, Nat.beq_refl]
 rw [outS_ne (Nat.succ_ne_zero k)]
 by_cases hk0 : k = 0
 · subst hk0
   simp only [outS_nil, List.getElem?_toArray, List.getElem?_cons_zero, List.getElem?_cons_succ, hu, hi, lenX, lenV, srcX, srcA, hsz, if_neg h1, flat_n, if_true, hc, hnb, hone, Bool.and_self]
   unfold appendTo
   have hcs : cs = [] := List.eq_nil_of_length_eq_zero (by rw [h.len, Nat.zero_mul])
   subst hcs
   simp only [and_self, if_true, Nat.one_ne_zero, if_false, hsm1, hz, Bool.and_self, hsz]
   rfl
 · obtain ⟨ho, _⟩ := h2.out hk0
   have hle : ¬ (k + 1) * sz ≤ cs.length := by rw [h.len, Nat.succ_mul]; omega
   have hle2 : k * sz ≤ cs.length := by rw [h.len]; omega
   have htk : cs.take (k * sz) = cs := List.take_of_length_le (by rw [h.len]; omega)
   rw [outS_ne hk0]
   simp only [List.getElem?_toArray, List.getElem?_cons_zero, List.getElem?_cons_succ, hu, hi, lenX, lenV, srcX, srcA, hsz, if_neg h1, flat_n, if_true, hc, hnb, hone, Bool.and_self]
   unfold appendTo
   simp only [ho, hsz, hle2, and_self, if_true, if_neg hle, hsm, hz, Bool.and_self, htk, if_neg hk0]
   rfl
theorem GL.set (h : GL L n t sz cs k Hx N o) {j : Nat} (hj : j < n) (hjL : hget L j = none) {b : Blk} (hp : plainB2 b = true) : GL L n t sz cs k (hset Hx j b) N o := by
 have hlo := h.low
 refine ⟨h.len, fun hk => ⟨?_, (h.out hk).2⟩, fun i c hi => ?_, namesOk_hset h.nm, h.big, h.low, ?_⟩
 · rw [hget_set, if_neg (by omega)]; exact (h.out hk).1
 · rw [hget_set, if_neg (fun e => by rw [e] at hjL; rw [hjL] at hi; cases hi)]
   exact h.sub i c hi
 · have : ∀ {H : Heap}, plainH H = true → plainH (hset H j b) = true := fun {H} => by
     induction H with
     | nil => exact fun _ => rfl
     | cons x H ih =>
       obtain ⟨i, c⟩ := x
       intro hh
       simp only [plainH, Bool.and_eq_true] at hh
       unfold hset
       split
       · simp only [plainH, Bool.and_eq_true]; exact ⟨hp, hh.2⟩
       · simp only [plainH, Bool.and_eq_true]; exact ⟨hh.1, ih hh.2⟩
   exact this h.pl
theorem GL.lowerL (h : GL L n t sz cs k Hx N o) {L' : Heap} (hs : Sub L' L) : GL L' n t sz cs k Hx N o := ⟨h.len, h.out, hs.trans h.sub, h.nm, h.big, h.low, h.pl⟩
end
end Go.Ab

namespace Go.Proofs.YtndlfijfjglkdaaGreatDoor
open Go Go.Ab Go.Proofs
theorem sz94i : Tryz.t94.size = 7 := by kernel_rfl
theorem zo94 : zeroOk Tryz.t94 = true := by kernel_rfl
theorem by94 : Tryz.t94.bytes ≤ 128 := by decide +kernel
theorem info94 : Tryz.prog.info? 94 = some Tryz.t94 := by kernel_rfl
theorem gcs_eq (l : List Gun) : gcs l = l.flatMap Gun.cells := by
 induction l with
 | nil => rfl
 | cons g l ih => rw [List.flatMap_cons, ← ih]; rfl
theorem gcs_app (a b : List Gun) : gcs (a ++ b) = gcs a ++ gcs b := by rw [gcs_eq, gcs_eq, gcs_eq, List.flatMap_append]
end Go.Proofs.YtndlfijfjglkdaaGreatDoor

namespace Go.Proofs.YtndlfijfjglkdaaGreatDoor
open Go Go.Ab Go.Proofs
abbrev nB (s : ByteArray) : List UInt8 := s.data.toList
theorem nB_len (s : ByteArray) : (nB s).length = s.size := rfl
theorem sv_nB (s : ByteArray) : sv s = sL (nB s) := (congrArg Value.string (bA_data s)).symm
def numsG (g : Gun) : List Int := [g.v, g.x, g.y, g.d, g.lo, g.hi]
def gunT : List UInt8 := [103, 117, 110, 32]
def numT (g : Gun) (j : Nat) : List UInt8 := ((numsG g).take j).flatMap fun n => 32 :: dz n
def gl (g : Gun) : List UInt8 := gunT ++ nB g.name ++ numT g 6 ++ [10]
def prG (l : List Gun) : List UInt8 := l.flatMap gl
theorem dz_len {n : Int} (h : -1000 ≤ n ∧ n ≤ 1000) : (dz n).length ≤ 1002 := by
 by_cases h0 : 0 ≤ n
 · rw [dz_pos h0]
   have := dd_len0 h0
   omega
 · rw [dz_neg (by omega), List.length_cons]
   have := dd_len0 (x := -n) (by omega)
   omega
theorem nums_bd {l : List Gun} (hst : strE l = 0) {g : Gun} (hg : g ∈ l) : ∀ n ∈ numsG g, -1000 ≤ n ∧ n ≤ 1000 := fun n hn => by
 obtain ⟨h1, h2, h3, h4, h5, h6⟩ := gun_nums hst g hg
 simp only [numsG, List.mem_cons, List.not_mem_nil, or_false] at hn
 rcases hn with rfl | rfl | rfl | rfl | rfl | rfl <;> omega
theorem numT_succ (g : Gun) {j : Nat} (h : j < (numsG g).length) : numT g (j + 1) = numT g j ++ 32 :: dz (numsG g)[j] := by
 unfold numT
 rw [List.take_succ_eq_append_getElem h, List.flatMap_append, List.flatMap_cons, List.flatMap_nil, List.append_nil]
theorem numT_len {g : Gun} (h : ∀ n ∈ numsG g, -1000 ≤ n ∧ n ≤ 1000) : ∀ j, j ≤ 6 → (numT g j).length ≤ j * 1003
 | 0, _ => by simp [numT]
 | j + 1, hj => by
   have hl : j < (numsG g).length := by simp [numsG]; omega
   have ih := numT_len h j (by omega)
   have := dz_len (h _ (List.getElem_mem hl))
   rw [numT_succ g hl, List.length_append, List.length_cons]
   omega
theorem name_len {l : List Gun} (hst : strE l = 0) {g : Gun} (hg : g ∈ l) : (nB g.name).length ≤ 24 := by
 obtain ⟨i, hi, rfl⟩ := List.getElem_of_mem hg
 unfold strE at hst
 split at hst
 · cases hst
 · split at hst
   · cases hst
   · have h1 := (firstV_zero _).1 hst (gunChk l i) (List.mem_map.2 ⟨i, List.mem_range.2 hi, rfl⟩)
     rw [gunChk_at hi] at h1
     have h2 := (firstV_zero _).1 h1 (nameE l[i].name) (by simp)
     unfold nameE at h2
     split at h2
     · rename_i h3
       simp only [nameB, Bool.and_eq_true, decide_eq_true_eq] at h3
       exact h3.1.2
     · cases h2
theorem gl_len {l : List Gun} (hst : strE l = 0) {g : Gun} (hg : g ∈ l) : (gl g).length ≤ 7000 := by
 have h1 := name_len hst hg
 have h2 := numT_len (nums_bd hst hg) 6 (by omega)
 simp only [gl, List.length_append, gunT, List.length_cons, List.length_nil]
 omega
theorem prG_succ {l : List Gun} {i : Nat} (h : i < l.length) : prG (l.take (i + 1)) = prG (l.take i) ++ gl l[i] := by
 unfold prG
 rw [List.take_succ_eq_append_getElem h, List.flatMap_append, List.flatMap_cons, List.flatMap_nil, List.append_nil]
theorem prG_len {l : List Gun} (hst : strE l = 0) : ∀ i, i ≤ l.length → (prG (l.take i)).length ≤ i * 7000
 | 0, _ => by simp [prG]
 | i + 1, hi => by
   have ih := prG_len hst i (by omega)
   have := gl_len hst (List.getElem_mem (show i < l.length by omega))
   rw [prG_succ (by omega), List.length_append]
   omega
end Go.Proofs.YtndlfijfjglkdaaGreatDoor

namespace Go.Proofs.YtndlfijfjglkdaaGreatDoor
open Go Go.Ab Go.Proofs
set_option maxRecDepth 20000 in
set_option maxHeartbeats 2000000 in
theorem w105 {H : Heap} {n : Nat} {v : Value} {l : List Gun} (hs : strAt H v = some l) (hst : strE l = 0) : AC Tryz.prog 105 [v] H n (sL (prG l)) H n := by
 refine AC.given fun hold hsc hgn => AC.tidied (B := []) (by simp) ?_
 have hlt0 := fun k b h => (hold k b h).1
 replace hs := strAt_tidy hlt0 hs
 have hr := recT_ok (P := Tryz.prog) (l := [(183, gTz 9223372036854775809)]) (by simp only [List.forall_mem_cons]; exact ⟨ok183z, by simp⟩)
 obtain ⟨h1, h8⟩ := strE_len hst
 obtain ⟨oa', c', rfl⟩ := strAt_form hs
 have hne : l ≠ [] := fun e => by rw [e] at h1; simp at h1
 obtain ⟨ga, gc, gv, hgf, hgc, _, _⟩ := strAt_guns hs hne (by omega)
 injection gv with gv1 gv2 gv3
 subst gv1 gv3
 have hM : MemOk n (tidy n H) := ⟨namesOk_tidy, by simp⟩
 obtain ⟨hM1, hS1⟩ := hM.put (b := Blk.cells [.slice (some ga) l.length c'] 24) rfl
 obtain ⟨X0, hX0⟩ : ∃ X0, (n, Blk.cells [.slice (some ga) l.length c'] 24) :: tidy n H = X0 := ⟨_, rfl⟩
 rw [hX0] at hM1 hS1
 have hb0 : hget X0 n = some (.cells [.slice (some ga) l.length c'] 24) := by rw [← hX0, hget_cons, if_pos rfl]
 refine AC.pure Tryz.func105 rfl (by kernel_rfl) rfl [1, 3, 4, 5, 6, 7] rfl ?_
 refine E.seq ?_
 refine E.reg hr (by simp; rfl) ?_
 rw [hX0]
 refine E.seq ?_
 refine E.reg hr (by simp; rfl) ?_
 refine E.seq ?_
 refine E.seq ?_
 refine E.reg hr (by simp; rfl) ?_
 refine E.block ?_
 refine E.loop ?_
 refine EL.ind (fun x : Nat × Heap × Nat => { fr := [(1, .pointer (some ⟨n, 0, none⟩)), (3, sL (prG (l.take x.1))), (4, iv x.1)], sz := 59, H := x.2.1, n := x.2.2, marks := [], vs := [1, 3, 4, 5, 6, 7] }) (fun x => l.length - x.1) (fun x => x.1 ≤ l.length ∧ Sub X0 x.2.1 ∧ MemOk x.2.2 x.2.1) (0, X0, n + 1) (.keep rfl rfl rfl (by simp [prG]) (Sub.refl _)) ⟨Nat.zero_le _, Sub.refl _, hM1⟩ (fun _ => rfl) ?_
 rintro ⟨i, Hx, N⟩ ⟨hi, hSx, hm⟩
 dsimp only at hi hSx hm ⊢
 have hw : IntKind.i64.wrap ((i : Int) + 1) = (i : Int) + 1 := W_in (by omega) (by omega)
 have hcb : cellA Hx n 0 = some (.slice (some ga) l.length c') := by rw [cellA_eq, hSx _ _ hb0]; rfl
 refine E.seq ?_
 refine E.seq ?_
 refine E.reg hr (by simp [-cellA, hcb]; rfl) ?_
 by_cases hil : i < l.length
 case neg =>
   have hil' : l.length ≤ i := by omega
   refine E.cond (t := false) (by simp [hil]) (fun h => by cases h) (fun _ => ?_)
   refine E.exit ?_
   refine E.seq ?_
   refine E.reg hr (by simp; rfl) ?_
   refine E.ret ?_
   exact pureK.ret rfl rfl (by simp [List.take_of_length_le hil']) (hS1.trans hSx)
 have hilI : (i : Int) < l.length := by omega
 have hgk := cells_part hgc hil
 rw [gcs_atB hil] at hgk
 have hgx : cellsA Hx ga.block (ga.off + i * 7) 7 = some l[i].cells := (hS1.trans hSx).cells hgk
 have hpl := prG_len hst i (by omega)
 have hps := prG_succ hil
 have hnl := name_len hst (List.getElem_mem hil)
 have hnb := nums_bd hst (List.getElem_mem hil)
 obtain ⟨g, hg⟩ : ∃ g, l[i] = g := ⟨_, rfl⟩
 rw [hg] at hgx hps hnl hnb
 obtain ⟨A, hA⟩ : ∃ A, prG (l.take i) = A := ⟨_, rfl⟩
 rw [hA] at hpl hps ⊢
 obtain ⟨B, hB⟩ : ∃ B, nB g.name = B := ⟨_, rfl⟩
 have hsv : Value.string g.name = sL B := by rw [← hB]
 rw [hB] at hnl
 obtain ⟨m1, s1⟩ := hm.put (b := Blk.cells g.cells 94) rfl
 obtain ⟨Y1, hY1⟩ : ∃ Y1, (N, Blk.cells g.cells 94) :: Hx = Y1 := ⟨_, rfl⟩
 rw [hY1] at m1 s1
 obtain ⟨m2, s2⟩ := m1.put (b := Blk.cells ((numsG g).map iv) 3) rfl
 obtain ⟨Y2, hY2⟩ : ∃ Y2, (N + 1, Blk.cells ((numsG g).map iv) 3) :: Y1 = Y2 := ⟨_, rfl⟩
 rw [hY2] at m2 s2
 have hyb : hget Y1 N = some (.cells g.cells 94) := by rw [← hY1, hget_cons, if_pos rfl]
 have hcn : cellA Y1 N 0 = some (sL B) := by rw [cellA_eq, hyb, ← hsv]; rfl
 have q1 : cellA Y1 N 1 = some (iv g.v) := by rw [cellA_eq, hyb]; rfl
 have q2 : cellA Y1 N 2 = some (iv g.x) := by rw [cellA_eq, hyb]; rfl
 have q3 : cellA Y1 N 3 = some (iv g.y) := by rw [cellA_eq, hyb]; rfl
 have q4 : cellA Y1 N 4 = some (iv g.d) := by rw [cellA_eq, hyb]; rfl
 have q5 : cellA Y1 N 5 = some (iv g.lo) := by rw [cellA_eq, hyb]; rfl
 have q6 : cellA Y1 N 6 = some (iv g.hi) := by rw [cellA_eq, hyb]; rfl
 have hY2' : (N + 1, Blk.cells [iv g.v, iv g.x, iv g.y, iv g.d, iv g.lo, iv g.hi] 3) :: Y1 = Y2 := hY2
 have b1 : A.length + gunT.length ≤ 9223372036854775807 := by simp [gunT]; omega
 have b2 : (A ++ gunT).length + B.length ≤ 9223372036854775807 := by simp [gunT]; omega
 have hb2 : hget Y2 (N + 1) = some (.cells ((numsG g).map iv) 3) := by rw [← hY2, hget_cons, if_pos rfl]
 refine E.cond (t := true) (by simp [hil]) (fun _ => ?_) (fun h => by cases h)
 refine E.skip ?_
 refine E.seq ?_
 refine E.block ?_
 refine E.seq ?_
 refine E.reg hr (by simp [-cellA, -cellsA, -flat, hcb, hgf, hilI, hgx, hY1]; rfl) ?_
 refine E.seq ?_
 have a1 := fun {t x y H k} => bin_adds (P := Tryz.prog) (t := t) (x := x) (y := y) (H := H) (n := k) b1
 have a2 := fun {t x y H k} => bin_adds (P := Tryz.prog) (t := t) (x := x) (y := y) (H := H) (n := k) b2
 rw [gunT] at a1 a2
 refine E.reg hr (by simp [-cellA, -cellsA, hcn, a1, a2]; rfl) ?_
 refine E.seq ?_
 refine E.reg hr (by simp [-cellA, -cellsA, q1, q2, q3, q4, q5, q6, hY2']; rfl) ?_
 refine E.seq ?_
 refine E.seq ?_
 refine E.reg hr (by simp; rfl) ?_
 refine E.block ?_
 refine E.loop ?_
 refine EL.ind (fun j : Nat => { fr := [(1, .pointer (some ⟨n, 0, none⟩)), (3, sL (A ++ (gunT ++ (B ++ numT g j)))), (4, iv i), (6, .slice (some ⟨N + 1, 0, none⟩) 6 6), (7, iv j)], sz := 59, H := Y2, n := N + 1 + 1, marks := [], vs := [1, 3, 4, 5, 6, 7] }) (fun j => 6 - j) (fun j => j ≤ 6) 0 (.keep rfl rfl rfl (by simp [numT, gunT]) (Sub.refl _)) (Nat.zero_le _) (fun _ => rfl) ?_
 intro j hj
 have hwj : IntKind.i64.wrap ((j : Int) + 1) = (j : Int) + 1 := W_in (by omega) (by omega)
 have hnt := numT_len hnb j hj
 refine E.seq ?_
 refine E.seq ?_
 refine E.reg hr (by simp; rfl) ?_
 by_cases hj6 : j < 6
 · have hj6I : (j : Int) < 6 := by omega
   have hjl : j < (numsG g).length := hj6
   have hsj := numT_succ g hjl
   have hbj := hnb _ (List.getElem_mem hjl)
   have hdl := dz_len hbj
   have hcj : cellA Y2 (N + 1) j = some (iv (numsG g)[j]) := by
     rw [cellA_eq, hb2]
     show ((numsG g).map iv)[j]? = _
     simp [hjl]
   obtain ⟨x, hx⟩ : ∃ x, (numsG g)[j] = x := ⟨_, rfl⟩
   rw [hx] at hsj hbj hdl hcj
   obtain ⟨C, hC⟩ : ∃ C, A ++ (gunT ++ (B ++ numT g j)) = C := ⟨_, rfl⟩
   have hCl : C.length ≤ 100000 := by rw [← hC]; simp [gunT]; omega
   obtain ⟨D, hD⟩ : ∃ D, dz x = D := ⟨_, rfl⟩
   rw [hD] at hsj hdl
   have hT : ∀ m, gTz 9223372036854775809 [iv x] Y2 m = some (sL D, Y2, m) := fun m => by
     rw [← hD]
     show (if _ then _ else _) = _
     rw [if_pos (by omega)]
   have e1 : C.length + ([32] : List UInt8).length ≤ 9223372036854775807 := by simp; omega
   have e2 : (C ++ [32]).length + D.length ≤ 9223372036854775807 := by simp; omega
   have c1 := fun {t x y H k} => bin_adds (P := Tryz.prog) (t := t) (x := x) (y := y) (H := H) (n := k) e1
   have c2 := fun {t x y H k} => bin_adds (P := Tryz.prog) (t := t) (x := x) (y := y) (H := H) (n := k) e2
   have hnx : A ++ (gunT ++ (B ++ numT g (j + 1))) = C ++ 32 :: D := by rw [hsj, ← hC]; simp
   refine E.cond (t := true) (by simp [hj6I]) (fun _ => ?_) (fun h => by cases h)
   refine E.skip ?_
   refine E.seq ?_
   refine E.block ?_
   rw [hC]
   refine E.reg hr (by simp [-cellA, hj6I, hcj, hT, c1, c2]; rfl) ?_
   refine E.reg hr (by simp [hwj]; rfl) ?_
   exact ⟨j + 1, .keep rfl rfl rfl (by simp [hnx]) (Sub.refl _), hj6, by dsimp only; omega⟩
 · have hj6' : j = 6 := by omega
   subst hj6'
   refine E.cond (t := false) (by simp) (fun h => by cases h) (fun _ => ?_)
   refine E.exit ?_
   have e1 : (A ++ (gunT ++ (B ++ numT g 6))).length + ([10] : List UInt8).length ≤ 9223372036854775807 := by simp [gunT]; omega
   have c1 := fun {t x y H k} => bin_adds (P := Tryz.prog) (t := t) (x := x) (y := y) (H := H) (n := k) e1
   have hnx : prG (l.take (i + 1)) = A ++ (gunT ++ (B ++ numT g 6)) ++ [10] := by rw [hps, gl, hB]; simp
   obtain ⟨C, hC⟩ : ∃ C, A ++ (gunT ++ (B ++ numT g 6)) = C := ⟨_, rfl⟩
   rw [hC] at c1 hnx ⊢
   refine E.reg hr (by simp [c1]; rfl) ?_
   refine E.reg hr (by simp [hw]; rfl) ?_
   exact ⟨(i + 1, Y2, N + 1 + 1), .keep rfl rfl rfl (by simp [hnx]) (Sub.refl _), ⟨hil, hSx.trans (s1.trans s2), m2⟩, by dsimp only; omega⟩
def g105 (args : List Value) (H : Heap) (n : Nat) : R := match args with
 | [v] => match strAt H v with
   | some l => if strE l = 0 then some (sL (prG l), H, n) else none
   | none => none
 | _ => none
theorem ok105 : EntOk Tryz.prog (105, g105) := by
 intro args H n v H' n' h
 simp only [g105] at h
 split at h
 · split at h
   · rename_i l h1
     split at h
     · rename_i hc
       injection h with h; injection h with e1 e2; injection e2 with e2 e3; subst e1 e2 e3
       exact w105 h1 hc
     · cases h
   · cases h
 · cases h
end Go.Proofs.YtndlfijfjglkdaaGreatDoor

namespace Go.Proofs.YtndlfijfjglkdaaGreatDoor
open Go Go.Ab Go.Proofs
def spB (c : UInt8) (s : List UInt8) : Blk := if spD c s = [] then .cells (sls (spl c s)) 9 else .ext (sls (spl c s)) 9 1
def spA (n : Nat) (c : UInt8) (s : List UInt8) : Addr := if spD c s = [] then ⟨n, 0, none⟩ else ⟨n, 0, some 0⟩
def spC (c : UInt8) (s : List UInt8) : Nat := if spD c s = [] then 1 else 0
abbrev spV (n : Nat) (c : UInt8) (s : List UInt8) : Value := .slice (some (spA n c s)) (spl c s).length (spC c s)
theorem spl_len (c : UInt8) (s : List UInt8) : (spl c s).length = (spD c s).length + 1 := by simp [spl]
noncomputable def g107 (c : UInt8) (args : List Value) (H : Heap) (n : Nat) : R := match args with
 | [.string s, .int .u8 x] => if x = ((c.toNat : Nat) : Int) ∧ s.size < 2147483648 then some (spV n c s.data.toList, (n, spB c s.data.toList) :: H, n + 1) else none
 | _ => none
theorem ok107 (c : UInt8) : EntOk Tryz.prog (107, g107 c) := by
 intro args H n v H' n' hh
 simp only [g107] at hh
 split at hh
 · rename_i s x
   split at hh
   · rename_i hc
     obtain ⟨rfl, hl⟩ := hc
     have hl' : s.data.toList.length < 2147483648 := by rw [← Lib.size_eq]; exact hl
     obtain ⟨u, H1, n1, H2, hAC, hq, hh2⟩ := w107 s.data.toList c hl'
     rw [show sL s.data.toList = .string s from congrArg Value.string (bA_data s)] at hAC
     unfold q107 at hq
     injection hh with hh; injection hh with e1 e2; injection e2 with e2 e3; subst e1 e2 e3
     cases hD : spD c s.data.toList with
     | nil =>
       rw [hD] at hq
       obtain ⟨m, hv, hm, hle⟩ := hq
       subst hv
       have := hh2 rfl
       subst this
       have e : spl c s.data.toList = [spW c s.data.toList] := by rw [spl, hD]; rfl
       rw [spV, spA, spC, spB, if_pos hD, if_pos hD, if_pos hD, e]
       exact AC.liftF (names_fl 1 1) (.inl ⟨_, _, rfl, rfl⟩) (Part.plain (by simp) [] (by simp [Seen]) gsz ⟨m, _, _, hle, hm, hAC⟩)
     | cons d D =>
       rw [hD] at hq
       obtain ⟨m, hv, hm, hle⟩ := hq
       subst hv
       have := hh2 rfl
       subst this
       have hne : ¬ spD c s.data.toList = [] := by rw [hD]; simp
       have e : spl c s.data.toList = (d :: D) ++ [spW c s.data.toList] := by rw [spl, hD]
       have e2 : sls ((d :: D) ++ [spW c s.data.toList]) = sls (d :: D) ++ [sL (spW c s.data.toList)] := by simp [sls]
       rw [spV, spA, spC, spB, if_neg hne, if_neg hne, if_neg hne, e, e2]
       have hl3 : ((d :: D) ++ [spW c s.data.toList]).length = D.length + 1 + 1 := by simp
       rw [hl3]
       exact AC.liftF (names_sx _ _) (.inr ⟨_, _, _, rfl, by simp⟩) (Part.plain (by simp) [] (by simp [Seen]) gsz ⟨m, _, _, hle, hm, hAC⟩)
   · cases hh
 · cases hh
theorem g107_at {c : UInt8} {s : List UInt8} {x : Int} {H : Heap} {n : Nat} (hx : x = ((c.toNat : Nat) : Int)) (hl : s.length < 2147483648) : g107 c [sL s, .int .u8 x] H n = some (spV n c s, (n, spB c s) :: H, n + 1) := by
 simp [g107, hx, hl, ByteArray.size]
theorem spB_pl (c : UInt8) (s : List UInt8) : plainB2 (spB c s) = true := by
 unfold spB
 split <;> rfl
@[simp] theorem spA_block (n : Nat) (c : UInt8) (s : List UInt8) : (spA n c s).block = n := by
 unfold spA
 split <;> rfl
@[simp] theorem spA_off (n : Nat) (c : UInt8) (s : List UInt8) : (spA n c s).off = 0 := by
 unfold spA
 split <;> rfl
@[simp] theorem spA_flat (n : Nat) (c : UInt8) (s : List UInt8) : flat (spA n c s) = true := by
 unfold spA
 split <;> rfl
theorem spB_cell {X : Heap} {n : Nat} {c : UInt8} {s : List UInt8} (h : hget X n = some (spB c s)) {i : Nat} (hi : i < (spl c s).length) : cellA X n i = some (sL (spl c s)[i]) := by
 rw [cellA_eq, h]
 have : (sls (spl c s))[i]? = some (sL (spl c s)[i]) := by simp [sls, hi]
 unfold spB
 split <;> exact this
end Go.Proofs.YtndlfijfjglkdaaGreatDoor

namespace Go.Proofs.YtndlfijfjglkdaaGreatDoor
open Go Go.Ab Go.Proofs
def gunW : List UInt8 := [103, 117, 110]
def fld (w : List UInt8) (k : Nat) : List UInt8 := (spl 32 w).getD k []
def headG (w : List UInt8) : Bool := decide ((spl 32 w).length = 8) && decide (fld w 0 = gunW) && !decide (fld w 1 = [])
def numG (w : List UInt8) (k : Nat) : Bool := (List.range k).all fun i => (sgI (fld w (2 + i))).2
def linB (w : List UInt8) : Bool := headG w && numG w 6
def linG (w : List UInt8) : Gun := ⟨bA (fld w 1), (sgI (fld w 2)).1, (sgI (fld w 3)).1, (sgI (fld w 4)).1, (sgI (fld w 5)).1, (sgI (fld w 6)).1, (sgI (fld w 7)).1⟩
theorem numG_succ (w : List UInt8) (k : Nat) : numG w (k + 1) = (numG w k && (sgI (fld w (2 + k))).2) := by
 simp [numG, List.range_succ]
theorem numG_bad {w : List UInt8} {k : Nat} (h : (sgI (fld w (2 + k))).2 = false) (hk : k < 6) : numG w 6 = false := by
 rw [numG, List.all_eq_false]
 exact ⟨k, List.mem_range.2 hk, by rw [h]; decide⟩
structure ParG where
 guns : List Gun
 at' : Int
 err : Int
def goodL : List (List UInt8) → Nat
 | [] => 0
 | w :: D => if linB w = true then goodL D + 1 else 0
theorem goodL_le : ∀ D : List (List UInt8), goodL D ≤ D.length
 | [] => Nat.le_refl _
 | w :: D => by
   unfold goodL
   have := goodL_le D
   split
   · rw [List.length_cons]; omega
   · exact Nat.zero_le _
theorem goodL_bad : ∀ {D : List (List UInt8)} {i : Nat} (hi : i < D.length), (∀ j (hj : j < D.length), j < i → linB D[j] = true) → linB D[i] = false → goodL D = i
 | [], _, hi, _, _ => by simp at hi
 | w :: D, 0, _, _, h => by
   have : linB w = false := h
   simp [goodL, this]
 | w :: D, i + 1, hi, hg, h => by
   have h0 : linB w = true := hg 0 (by simp) (by omega)
   have := goodL_bad (D := D) (i := i) (by simpa using hi) (fun j hj hji => hg (j + 1) (by simpa using hj) (by omega)) h
   simp [goodL, h0, this]
theorem goodL_all : ∀ {D : List (List UInt8)}, (∀ j (hj : j < D.length), linB D[j] = true) → goodL D = D.length
 | [], _ => rfl
 | w :: D, hg => by
   have h0 : linB w = true := hg 0 (by simp)
   have := goodL_all (D := D) fun j hj => hg (j + 1) (by simpa using hj)
   simp [goodL, h0, this]
def gunsD (D : List (List UInt8)) : List Gun := D.map linG
def parG (s : List UInt8) : ParG :=
 if 4096 < s.length then ⟨[], 0, 26⟩
 else if goodL (spD 10 s) < (spD 10 s).length then ⟨[], goodL (spD 10 s), 25⟩
 else if spW 10 s ≠ [] then ⟨[], (spD 10 s).length, 25⟩
 else if strE (gunsD (spD 10 s)) ≠ 0 then ⟨[], (spD 10 s).length, strE (gunsD (spD 10 s))⟩
 else ⟨gunsD (spD 10 s), 0, 0⟩
theorem gunsD_len (D : List (List UInt8)) : (gunsD D).length = D.length := List.length_map ..
theorem gunsD_succ {D : List (List UInt8)} {i : Nat} (h : i < D.length) : gunsD (D.take (i + 1)) = gunsD (D.take i) ++ [linG D[i]] := by
 unfold gunsD
 rw [List.take_succ_eq_append_getElem h, List.map_append]
 rfl
theorem AC.grownA3 {P : Program} {f : FuncId} {fn : Func} {c : Code} {args : List Value} {H : Heap} {n t sz k : Nat} {cs : List Value} {a e : Int} (hf : P.funcs[f]? = some fn) (hb : fn.body = some c) (he : enterable P f = true) (hlen : Nat.ble args.length fn.ntmps = true) (vs : List Nat)
   (h : E P n none c { fr := argsFr args 0, sz := fn.ntmps, H, n, marks := [], vs } (outK P fn (Fresh n (n + 1) H (.tuple #[.agg ⟨[outS n k]⟩, .int .i64 a, .int .i64 e]) (outSB n t sz k cs)))) : AC P f args H n (.tuple #[.agg ⟨[outS n k]⟩, .int .i64 a, .int .i64 e]) (outSB n t sz k cs ++ H) (n + 1) := by
 by_cases hk : k = 0
 · subst hk
   have h2 : AC P f args H n (.tuple #[.agg ⟨[.slice none 0 0]⟩, .int .i64 a, .int .i64 e]) H n := AC.pure hf hb he hlen vs rfl (E.mono h fun e st hh => by
     obtain ⟨h1, h2, us, h3, ρ, _, h4, _, _, h5⟩ := hh
     exact ⟨h1, h2, ⟨us, h3, by rw [h4]; rfl⟩, h5⟩)
   exact h2.wider rfl ⟨⟨trivial, trivial⟩, trivial, trivial, trivial⟩
 · exact AC.fresh hf hb he hlen vs (by omega) ⟨⟨sc_outS (by omega), trivial⟩, trivial, trivial, trivial⟩ (fun ρ => by rw [outS_ne hk]; rfl) h
theorem Fresh.pairA3 {n n2 : Nat} {H B H1 : Heap} {v u : Value} (h : Fresh n n2 H v B u H1) (a e : Int) : Fresh n n2 H (.tuple #[.agg ⟨[v]⟩, Value.int .i64 a, Value.int .i64 e]) B (.tuple #[.agg ⟨[u]⟩, Value.int .i64 a, Value.int .i64 e]) H1 := by
 obtain ⟨ρ, h1, h2, h3⟩ := h
 exact ⟨ρ, h1, by rw [h2]; simp [ren], h3⟩
end Go.Proofs.YtndlfijfjglkdaaGreatDoor

namespace Go.Proofs.YtndlfijfjglkdaaGreatDoor
open Go Go.Ab Go.Proofs
def wd (ws : List (List UInt8)) (j : Nat) : List UInt8 := ws.getD j []
theorem fld_wd (w : List UInt8) (k : Nat) : fld w k = wd (spl 32 w) k := rfl
theorem wd_lt {ws : List (List UInt8)} {j : Nat} (h : wd ws j ≠ []) : j < ws.length := by
 refine Nat.lt_of_not_le fun hc => h ?_
 rw [wd, List.getD_eq_getElem?_getD, List.getElem?_eq_none hc]
 rfl
theorem wd_get {ws : List (List UInt8)} {j : Nat} (h : j < ws.length) : ws[j]? = some (wd ws j) := by
 rw [wd, List.getD_eq_getElem?_getD, List.getElem?_eq_getElem h]
 rfl
def tkW (ws : List (List UInt8)) (x : Nat × Bool) : (Nat × Bool) × List UInt8 := if wd ws x.1 = [] then ((x.1, true), []) else ((x.1 + 1, x.2), wd ws x.1)
def tkN (ws : List (List UInt8)) (x : Nat × Bool) : (Nat × Bool) × Int := (((tkW ws x).1.1, (tkW ws x).1.2 || !itB (tkW ws x).2), itV (tkW ws x).2)
theorem tkW_no {ws : List (List UInt8)} {j : Nat} {b : Bool} (h : wd ws j = []) : tkW ws (j, b) = ((j, true), []) := if_pos h
theorem tkW_go {ws : List (List UInt8)} {j : Nat} {b : Bool} (h : wd ws j ≠ []) : tkW ws (j, b) = ((j + 1, b), wd ws j) := if_neg h
theorem itB_nil : itB [] = false := by
 rw [in_sg]
 rfl
def stN (ws : List (List UInt8)) (x : Nat × Bool) : Nat → Nat × Bool
 | 0 => x
 | k + 1 => (tkN ws (stN ws x k)).1
def vaN (ws : List (List UInt8)) (x : Nat × Bool) (k : Nat) : Int := (tkN ws (stN ws x k)).2
theorem stN_true {ws : List (List UInt8)} {x : Nat × Bool} (h : x.2 = true) : ∀ k, (stN ws x k).2 = true
 | 0 => h
 | k + 1 => by
   have ih := stN_true (ws := ws) h k
   show (tkN ws (stN ws x k)).1.2 = true
   unfold tkN tkW
   split
   · rfl
   · rw [show ((((stN ws x k).1 + 1, (stN ws x k).2), wd ws (stN ws x k).1) : (Nat × Bool) × List UInt8).1.2 = (stN ws x k).2 from rfl, ih]
     rfl
theorem stN_good {ws : List (List UInt8)} : ∀ k, (∀ i, i < k → itB (wd ws (2 + i)) = true) → stN ws (2, false) k = (2 + k, false)
 | 0, _ => rfl
 | k + 1, h => by
   have ih := stN_good k fun i hi => h i (by omega)
   have hk := h k (by omega)
   have hne : wd ws (2 + k) ≠ [] := fun e => by rw [e, itB_nil] at hk; cases hk
   show (tkN ws (stN ws (2, false) k)).1 = _
   rw [ih]
   unfold tkN
   rw [tkW_go hne]
   simp only
   rw [hk]
   rfl
theorem vaN_good {ws : List (List UInt8)} {k : Nat} (h : ∀ i, i < k + 1 → itB (wd ws (2 + i)) = true) : vaN ws (2, false) k = itV (wd ws (2 + k)) := by
 have hk := h k (by omega)
 have hne : wd ws (2 + k) ≠ [] := fun e => by rw [e, itB_nil] at hk; cases hk
 unfold vaN tkN
 rw [stN_good k fun i hi => h i (by omega), tkW_go hne]
theorem stN_ok {ws : List (List UInt8)} : ∀ k, (stN ws (2, false) k).2 = false → ∀ i, i < k → itB (wd ws (2 + i)) = true
 | 0, _, i, hi => by omega
 | k + 1, h, i, hi => by
   have hk : (stN ws (2, false) k).2 = false := by
     cases hb : (stN ws (2, false) k).2 with
     | false => rfl
     | true =>
       have h2 : (stN ws (stN ws (2, false) k) 1).2 = true := stN_true hb 1
       exact absurd (h.symm.trans h2) (by decide)
   have ih := stN_ok k hk
   by_cases e : i = k
   · subst e
     have hs := stN_good i ih
     have h' : (tkN ws (stN ws (2, false) i)).1.2 = false := h
     rw [hs] at h'
     unfold tkN at h'
     simp only [Bool.or_eq_false_iff, Bool.not_eq_false'] at h'
     obtain ⟨h1, h2⟩ := h'
     by_cases hw : wd ws (2 + i) = []
     · rw [tkW_no hw] at h1
       cases h1
     · rw [tkW_go hw] at h2
       exact h2
   · exact ih i (by omega)
def gunZ : Gun := ⟨bA [], 0, 0, 0, 0, 0, 0⟩
def prsG (ws : List (List UInt8)) : Gun × Bool :=
 if (tkW ws (0, false)).2 = gunW then
   (⟨bA (tkW ws (1, false)).2, vaN ws (tkW ws (1, false)).1 0, vaN ws (tkW ws (1, false)).1 1, vaN ws (tkW ws (1, false)).1 2, vaN ws (tkW ws (1, false)).1 3, vaN ws (tkW ws (1, false)).1 4, vaN ws (tkW ws (1, false)).1 5⟩,
     !(stN ws (tkW ws (1, false)).1 6).2 && decide (ws.length ≤ (stN ws (tkW ws (1, false)).1 6).1))
 else (gunZ, false)
theorem prs_true {s : List UInt8} (h : linB s = true) : prsG (spl 32 s) = (linG s, true) := by
 unfold linB headG at h
 simp only [Bool.and_eq_true, decide_eq_true_eq, Bool.not_eq_true', decide_eq_false_iff_not] at h
 obtain ⟨⟨⟨h8, h0⟩, h1⟩, hn⟩ := h
 rw [fld_wd] at h0 h1
 have hn' : ∀ i, i < 6 → itB (wd (spl 32 s) (2 + i)) = true := fun i hi => by
   rw [in_sg]
   have := List.all_eq_true.1 hn i (List.mem_range.2 hi)
   exact this
 obtain ⟨ws, hws⟩ : ∃ ws, spl 32 s = ws := ⟨_, rfl⟩
 rw [hws] at h8 h0 h1 hn'
 have g0 : wd ws 0 ≠ [] := by rw [h0]; decide
 have hs6 := stN_good 6 hn'
 have hv : ∀ k, k < 6 → vaN ws (2, false) k = (sgI (fld s (2 + k))).1 := fun k hk => by
   have hb := hn' k hk
   rw [vaN_good fun i hi => hn' i (by omega)]
   rw [in_sg] at hb
   have := (in_of_sg hb).2
   rw [fld_wd, hws]
   exact this
 unfold prsG
 rw [hws, tkW_go g0]
 simp only
 rw [if_pos h0, tkW_go h1]
 simp only
 rw [hs6, hv 0 (by omega), hv 1 (by omega), hv 2 (by omega), hv 3 (by omega), hv 4 (by omega), hv 5 (by omega), h8]
 unfold linG
 rw [show fld s 1 = wd ws 1 by rw [fld_wd, hws]]
 rfl
theorem prs_lin {s : List UInt8} (h : (prsG (spl 32 s)).2 = true) : linB s = true := by
 obtain ⟨ws, hws⟩ : ∃ ws, spl 32 s = ws := ⟨_, rfl⟩
 rw [hws] at h
 unfold prsG at h
 split at h
 · rename_i hg
   simp only [Bool.and_eq_true, Bool.not_eq_true', decide_eq_true_eq] at h
   obtain ⟨h1, h2⟩ := h
   have g0 : wd ws 0 = gunW := by
     by_cases e : wd ws 0 = []
     · rw [tkW_no e] at hg; exact absurd hg (by decide)
     · rw [tkW_go e] at hg; exact hg
   have g1 : wd ws 1 ≠ [] := fun e => by
     rw [tkW_no e] at h1
     exact absurd (h1.symm.trans (stN_true rfl 6)) (by decide)
   rw [tkW_go g1] at h1 h2
   have hn := stN_ok 6 h1
   rw [stN_good 6 hn] at h2
   have h7 : wd ws 7 ≠ [] := fun e => by
     have := hn 5 (by omega)
     rw [show 2 + 5 = 7 from rfl, e, itB_nil] at this
     cases this
   have h7 := wd_lt h7
   have h8 : ws.length = 8 := by
     have : ws.length ≤ 8 := h2
     omega
   unfold linB headG numG
   rw [fld_wd, fld_wd, hws, h8, g0]
   simp only [Bool.and_eq_true, decide_eq_true_eq, Bool.not_eq_true', decide_eq_false_iff_not]
   refine ⟨⟨⟨trivial, trivial⟩, g1⟩, List.all_eq_true.2 fun i hi => ?_⟩
   rw [fld_wd, hws, ← in_sg]
   exact hn i (List.mem_range.1 hi)
 · cases h
theorem prs_iff (s : List UInt8) : (prsG (spl 32 s)).2 = linB s := by
 rw [Bool.eq_iff_iff]
 exact ⟨prs_lin, fun h => by rw [prs_true h]⟩
theorem lin_name {s : List UInt8} (h : linB s = true) : (linG s).name ≠ bA [] := fun e => by
 unfold linB headG at h
 simp only [Bool.and_eq_true, decide_eq_true_eq, Bool.not_eq_true', decide_eq_false_iff_not] at h
 exact h.1.2 (bA_inj.1 e)
theorem parG_long {s : List UInt8} (h : 4096 < s.length) : parG s = ⟨[], 0, 26⟩ := by unfold parG; rw [if_pos h]
theorem parG_bad {s : List UInt8} {i : Nat} (h : ¬ 4096 < s.length) (hi : i < (spD 10 s).length) (hg : goodL (spD 10 s) = i) : parG s = ⟨[], i, 25⟩ := by unfold parG; rw [if_neg h, if_pos (by omega), hg]
theorem parG_left {s : List UInt8} (h : ¬ 4096 < s.length) (hg : goodL (spD 10 s) = (spD 10 s).length) (hw : spW 10 s ≠ []) : parG s = ⟨[], (spD 10 s).length, 25⟩ := by unfold parG; rw [if_neg h, if_neg (by omega), if_pos hw]
theorem parG_err {s : List UInt8} (h : ¬ 4096 < s.length) (hg : goodL (spD 10 s) = (spD 10 s).length) (hw : spW 10 s = []) (he : strE (gunsD (spD 10 s)) ≠ 0) : parG s = ⟨[], (spD 10 s).length, strE (gunsD (spD 10 s))⟩ := by unfold parG; rw [if_neg h, if_neg (by omega), if_neg (by simp [hw]), if_pos he]
theorem parG_ok {s : List UInt8} (h : ¬ 4096 < s.length) (hg : goodL (spD 10 s) = (spD 10 s).length) (hw : spW 10 s = []) (he : strE (gunsD (spD 10 s)) = 0) : parG s = ⟨gunsD (spD 10 s), 0, 0⟩ := by unfold parG; rw [if_neg h, if_neg (by omega), if_neg (by simp [hw]), if_neg (by simp [he])]
end Go.Proofs.YtndlfijfjglkdaaGreatDoor

namespace Go.Proofs.YtndlfijfjglkdaaGreatDoor
open Go Go.Ab Go.Proofs
@[simp] theorem run_nilCheck {P : Program} {r : Rec} {st : St} {dst ty ps af g} {x : Operand} : runOp P r ⟨dst, .nilCheck x, ty, ps, af, g⟩ st = opNilcheck P x st.fr st.H st.n := rfl
attribute [local simp] opNilcheck
theorem call_of {f : FuncId} {args : List Value} {H H' : Heap} {n n' : Nat} {v : Value} (h : AC Tryz.prog f args H n v H' n') : ∃ q : Rec, RecOk Tryz.prog q 0 ∧ q.call f args H n = some (v, H', n') :=
 ⟨recV Tryz.prog (fun _ _ _ => none) (fun _ _ _ _ => some (v, H', n')), recV_ok, recV_call rfl h⟩
abbrev ptr14 : Value := .pointer (some ⟨14, 0, none⟩)
def slv (L j : Nat) : Value := if j < L then .slice (some ⟨13, j, none⟩) (L - j) (L - j) else .slice (some ⟨13, L - 1, none⟩) 0 0
theorem slv_go {L j m : Nat} (h : L = j + (m + 1)) : slv L j = .slice (some ⟨13, j, none⟩) (m + 1) (m + 1) := by
 unfold slv
 rw [if_pos (by omega), show L - j = m + 1 by omega]
theorem slv_end {L j : Nat} (h : L ≤ j) : slv L j = .slice (some ⟨13, L - 1, none⟩) 0 0 := if_neg (by omega)
theorem slv_next {L j m : Nat} (h : L = j + (m + 1)) : slv L (j + 1) = if m = 0 then .slice (some ⟨13, j, none⟩) 0 0 else .slice (some ⟨13, j + 1, none⟩) m m := by
 by_cases hm : m = 0
 · rw [if_pos hm, slv_end (by omega), show L - 1 = j by omega]
 · rw [if_neg hm]
   unfold slv
   rw [if_pos (by omega), show L - (j + 1) = m by omega]
theorem slv_len (L j : Nat) : ∃ a m, slv L j = .slice (some a) m m ∧ (m = 0 ↔ L ≤ j) ∧ m ≤ L ∧ a.block = 13 ∧ a.spot = none := by
 by_cases h : j < L
 · exact ⟨⟨13, j, none⟩, L - j, by unfold slv; rw [if_pos h], by omega, by omega, rfl, rfl⟩
 · exact ⟨⟨13, L - 1, none⟩, 0, slv_end (by omega), by omega, by omega, rfl, rfl⟩
abbrev HT (ws : List (List UInt8)) (x : Nat × Bool) (Z : Heap) : Heap := (14, .cells [slv ws.length x.1, .bool x.2] 303) :: (13, .cells (sls ws) 9) :: Z
set_option maxRecDepth 100000 in
theorem w227 {Z : Heap} {N : Nat} (ws : List (List UInt8)) (j : Nat) (wr : Bool) : AC Tryz.prog 227 [ptr14] (HT ws (j, wr) Z) N (sL (tkW ws (j, wr)).2) (HT ws (tkW ws (j, wr)).1 Z) N := by
 have hr := recT_ok (P := Tryz.prog) (l := []) (by simp)
 obtain ⟨L, hL⟩ : ∃ L, ws.length = L := ⟨_, rfl⟩
 by_cases hw : wd ws j = []
 · rw [tkW_no hw]
   simp only [HT, hL]
   by_cases hj : j < L
   · obtain ⟨m, hm⟩ : ∃ m, L = j + (m + 1) := ⟨L - j - 1, by omega⟩
     have hy : (sls ws)[j]? = some (sL []) := by
       rw [sls, List.getElem?_map, wd_get (by omega), hw]
       rfl
     have hm1 : ¬ (m : Int) + 1 = 0 := by omega
     have hm2 : (0 : Int) < (m : Int) + 1 := by omega
     rw [slv_go hm]
     refine AC.body Tryz.func227 rfl (by kernel_rfl) rfl [] ?_
     refine E.seq ?_
     refine E.reg hr (by simp; rfl) ?_
     refine E.seq ?_
     refine E.seq ?_
     refine E.reg hr (by simp [hm1, hm2, hy]; rfl) ?_
     refine E.cond (t := true) (by rfl) (fun _ => ?_) (fun h => by cases h)
     refine E.seq ?_
     refine E.reg hr (by simp; rfl) ?_
     refine E.seq ?_
     refine E.reg hr (by simp; rfl) ?_
     refine E.ret ?_
     exact ⟨.inr rfl, by simp [leaveF, shutA, resultsA, resultA, Tryz.results227, dropOk]⟩
   · rw [slv_end (by omega)]
     refine AC.body Tryz.func227 rfl (by kernel_rfl) rfl [] ?_
     refine E.seq ?_
     refine E.reg hr (by simp; rfl) ?_
     refine E.seq ?_
     refine E.seq ?_
     refine E.reg hr (by simp; rfl) ?_
     refine E.cond (t := true) (by rfl) (fun _ => ?_) (fun h => by cases h)
     refine E.seq ?_
     refine E.reg hr (by simp; rfl) ?_
     refine E.seq ?_
     refine E.reg hr (by simp; rfl) ?_
     refine E.ret ?_
     exact ⟨.inr rfl, by simp [leaveF, shutA, resultsA, resultA, Tryz.results227, dropOk]⟩
 · rw [tkW_go hw]
   simp only [HT, hL]
   have hj := wd_lt hw
   obtain ⟨m, hm⟩ : ∃ m, L = j + (m + 1) := ⟨L - j - 1, by omega⟩
   obtain ⟨y, hyw⟩ : ∃ y, wd ws j = y := ⟨_, rfl⟩
   have hy : (sls ws)[j]? = some (sL y) := by
     rw [sls, List.getElem?_map, wd_get (by omega), hyw]
     rfl
   rw [hyw] at hw ⊢
   have hm1 : ¬ (m : Int) + 1 = 0 := by omega
   have hm2 : (0 : Int) < (m : Int) + 1 := by omega
   rw [slv_next hm, slv_go hm]
   refine AC.body Tryz.func227 rfl (by kernel_rfl) rfl [] ?_
   refine E.seq ?_
   refine E.reg hr (by simp; rfl) ?_
   refine E.seq ?_
   refine E.seq ?_
   refine E.reg hr (by simp [hm1, hm2, hy, hw]; rfl) ?_
   refine E.cond (t := false) (by rfl) (fun h => by cases h) (fun _ => ?_)
   refine E.skip ?_
   refine E.seq ?_
   refine E.reg hr (by simp [hm2, hy]; rfl) ?_
   refine E.seq ?_
   by_cases h0 : m = 0
   · subst h0
     rw [if_pos rfl]
     refine E.reg hr (by simp [opSlice, evI]; rfl) ?_
     refine E.seq ?_
     refine E.reg hr (by simp; rfl) ?_
     refine E.ret ?_
     exact ⟨.inr rfl, by simp [leaveF, shutA, resultsA, resultA, Tryz.results227, dropOk]⟩
   · have h1 : 0 < m := by omega
     rw [if_neg h0]
     refine E.reg hr (by simp [opSlice, evI, sliceA, boundA, h0]; rfl) ?_
     refine E.seq ?_
     refine E.reg hr (by simp; rfl) ?_
     refine E.ret ?_
     exact ⟨.inr rfl, by simp [leaveF, shutA, resultsA, resultA, Tryz.results227, dropOk]⟩
def ErrOk (H : Heap) (g : Nat) : Prop := ∃ te k o, hget H g = some (.inp 0 [.iface te (.pointer (some ⟨k, o, none⟩))])
theorem ErrOk.sub {H H' : Heap} {g : Nat} (h : ErrOk H g) (hs : hget H' g = hget H g) : ErrOk H' g := by
 obtain ⟨a, b, c, h⟩ := h
 exact ⟨a, b, c, hs.trans h⟩
structure LibOk (H : Heap) : Prop where
 tab : hget H 3 = some (.tab tab3)
 e6 : ErrOk H 6
 e7 : ErrOk H 7
theorem LibOk.mono {H H' : Heap} (h : LibOk H) (h3 : hget H' 3 = hget H 3) (h6 : hget H' 6 = hget H 6) (h7 : hget H' 7 = hget H 7) : LibOk H' := ⟨h3.trans h.tab, h.e6.sub h6, h.e7.sub h7⟩
end Go.Proofs.YtndlfijfjglkdaaGreatDoor
