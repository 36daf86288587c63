/-
The plain law of lines, fields and numbers in a text; the reference's functions that read them, walked (each a contract: no condition but those in its statement).
-/
import Derived.Lib.SplitLaws
import Derived.Lib.ItoaNum
import Derived.Test.YtkongcnmkiihjaaGreatDoorYe
namespace Go.Proofs.YtkongcnmkiihjaaGreatDoor
open Go Go.Ab Go.Proofs
abbrev bA (s : List UInt8) : ByteArray := ⟨s.toArray⟩
abbrev sL (s : List UInt8) : Value := .string (bA s)
theorem bA_size (s : List UInt8) : (bA s).size = s.length := by simp [ByteArray.size]
theorem bA_get {s : List UInt8} {i : Nat} (h : i < s.length) : (bA s).get! i = s[i] := by
  simp [ByteArray.get!, h]
theorem bA_data (s : ByteArray) : bA s.data.toList = s := by cases s; simp [bA]
theorem bA_append (a b : List UInt8) : bA a ++ bA b = bA (a ++ b) := by
  apply ByteArray.ext
  simp [ByteArray.data_append, bA]
theorem bA_extract (s : List UInt8) (a b : Nat) : (bA s).extract a b = bA ((s.drop a).take (b - a)) := by
  apply ByteArray.ext
  simp [ByteArray.data_extract, bA]
theorem sr_bind {α β : Type} {P : Program} (a : Sem α) (g : α → Sem β) : runP P (Sem.bind a g) = (runP P a).bind fun x => runP P (g x) := by
  induction a with
  | program k ih => exact ih P
  | mark m k ih => exact ih
  | _ => rfl
theorem sr_und {α : Type} {P : Program} {t : TypeId} {d : TypeDesc} {f : TypeDesc → Sem α} (h : P.underlying t = some d) : runP P (Sem.bind (underlying t) f) = runP P (f d) := by
  show runP P (Sem.bind (match P.underlying t with | some d => _ | none => _) f) = _
  rw [h]
  rfl
theorem len_str0 {s : ByteArray} {o : Bool} : runP Tryz.prog (Go.builtin .len #[9] 3 #[o] #[.string s]) = some (.value (iv s.size)) := by
  show runP Tryz.prog (Sem.bind (Sem.bind (underlying 9) _) _) = _
  rw [sr_bind, sr_und Tryz.underlying9]
  rfl
@[simp] theorem len_str {s : List UInt8} {o : Bool} : runP Tryz.prog (Go.builtin .len #[9] 3 #[o] #[sL s]) = some (.value (iv s.length)) := by
  rw [len_str0, bA_size]
abbrev u8 (b : UInt8) : Value := .int .u8 (b.toNat : Int)
theorem index_str {s : List UInt8} {i : Nat} (h : i < s.length) : runP Tryz.prog (Instr.index 9 (sL s) (.int .i64 (i : Int))) = some (u8 s[i]) := by
  have hlt : i < (bA s).size := by rw [bA_size]; exact h
  have hb : (bA s)[i]? = some s[i] := by
    rw [getElem?_pos (bA s) i hlt]
    rfl
  have h2 : (if 0 ≤ (i : Int) then (bA s)[(i : Int).toNat]? else none) = some s[i] := by rw [if_pos (by omega)]; exact hb
  show runP Tryz.prog (Sem.bind (underlying 9) _) = _
  rw [sr_und Tryz.underlying9]
  dsimp only [sL]
  rw [h2]
  rfl
theorem bound_ok {m b : Nat} (h : b ≤ m) (k : BoundsCode) : runP Tryz.prog (Instr.sliceBound (.int .i64 (b : Int)) m k) = some b := by
  have h2 : (0 : Int) ≤ (b : Int) ∧ (b : Int) ≤ (m : Int) := by omega
  show runP Tryz.prog (if (0 : Int) ≤ (b : Int) ∧ (b : Int) ≤ (m : Int) then _ else _) = _
  rw [if_pos h2]
  rfl
theorem slice_str (s : List UInt8) (lo hi : Option Value) : runP Tryz.prog (Instr.sliceAt 9 (sL s) lo hi none) = (runP Tryz.prog (Instr.sliceBounds false s.length s.length lo hi none)).map fun x => sL ((s.drop x.1).take (x.2.1 - x.1)) := by
  show runP Tryz.prog (Sem.bind (underlying 9) _) = _
  rw [sr_und Tryz.underlying9]
  show runP Tryz.prog (Sem.bind (underlying 9) _) = _
  rw [sr_und Tryz.underlying9]
  show runP Tryz.prog (Sem.bind (Instr.sliceBounds false (bA s).size (bA s).size lo hi none) _) = _
  rw [sr_bind, bA_size]
  cases runP Tryz.prog (Instr.sliceBounds false s.length s.length lo hi none) with
  | none => rfl
  | some x =>
    obtain ⟨l, h, m⟩ := x
    show some (Value.string ((bA s).extract l h)) = _
    rw [bA_extract]
    rfl
theorem bounds_hi {n b : Nat} (h : b ≤ n) : runP Tryz.prog (Instr.sliceBounds false n n none (some (.int .i64 (b : Int))) none) = some (0, b, n) := by
  show runP Tryz.prog (Sem.bind (Instr.sliceBound (.int .i64 (b : Int)) n _) _) = _
  rw [sr_bind, bound_ok h]
  rfl
theorem bounds_lo {n a : Nat} (h : a ≤ n) : runP Tryz.prog (Instr.sliceBounds false n n (some (.int .i64 (a : Int))) none none) = some (a, n, n) := by
  show runP Tryz.prog (Sem.bind (Instr.sliceBound (.int .i64 (a : Int)) n _) _) = _
  rw [sr_bind, bound_ok h]
  rfl
theorem bounds_lh0 (n : Nat) (l h : Value) : Instr.sliceBounds false n n (some l) (some h) none = Sem.bind (Instr.sliceBound h n .sliceAlen) fun hh => Sem.bind (Instr.sliceBound l hh .sliceB) fun ll => Sem.pure (ll, hh, n) := rfl
theorem bounds_lh {n a b : Nat} (h1 : a ≤ b) (h2 : b ≤ n) : runP Tryz.prog (Instr.sliceBounds false n n (some (.int .i64 (a : Int))) (some (.int .i64 (b : Int))) none) = some (a, b, n) := by
  rw [bounds_lh0, sr_bind, bound_ok h2, Option.bind_some, sr_bind, bound_ok h1, Option.bind_some]
  rfl
theorem slice_hi {s : List UInt8} {b : Nat} (hb : b ≤ s.length) : runP Tryz.prog (Instr.sliceAt 9 (sL s) none (some (.int .i64 (b : Int))) none) = some (sL (s.take b)) := by
  rw [slice_str, bounds_hi hb]; simp
theorem slice_lo {s : List UInt8} {a : Nat} (ha : a ≤ s.length) : runP Tryz.prog (Instr.sliceAt 9 (sL s) (some (.int .i64 (a : Int))) none none) = some (sL (s.drop a)) := by
  rw [slice_str, bounds_lo ha]
  simp [List.take_of_length_le]
theorem slice_lh {s : List UInt8} {a b : Nat} (h1 : a ≤ b) (h2 : b ≤ s.length) : runP Tryz.prog (Instr.sliceAt 9 (sL s) (some (.int .i64 (a : Int))) (some (.int .i64 (b : Int))) none) = some (sL ((s.drop a).take (b - a))) := by
  rw [slice_str, bounds_lh h1 h2]; rfl
theorem decode_low {s : List UInt8} {i : Nat} (h : i < s.length) (hb : s[i].toNat < 128) : Utf8.decode (bA s) i = (s[i].toNat, 1) := by
  unfold Utf8.decode
  simp only [Nat.add_zero, bA_get h]
  rw [if_pos hb]
theorem decode_high {s : List UInt8} {i : Nat} (h : i < s.length) (hb : ¬ s[i].toNat < 128) : 128 ≤ (Utf8.decode (bA s) i).1 := by
  unfold Utf8.decode
  simp only [Nat.add_zero, bA_get h]
  rw [if_neg hb]
  repeat' split
  all_goals first | (simp_all <;> omega) | (simp [Utf8.runeError])
@[simp] theorem run_next {P : Program} {r : Rec} {st : St} {dst ty ps af g} {it : Operand} : runOp P r ⟨dst, .next it true, ty, ps, af, g⟩ st = opNext P it st.fr st.H st.n := rfl
theorem str_eq (a b : ByteArray) : (a.toList == b.toList) = decide (a = b) := by
  rw [ByteArray.toList_eq, ByteArray.toList_eq]
  by_cases h : a = b
  · simp [h]
  · rw [decide_eq_false h]
    refine beq_eq_false_iff_ne.2 fun e => h ?_
    cases a; cases b
    simp at e
    simp [e]
section
variable {P : Program} {t : TypeId} {x y : Operand} {H : Heap} {n : Nat} {a b : List UInt8}
@[simp] theorem bin_eqls : binV P .eql t x y (sL a) (sL b) H n = some (.bool (decide (a = b)), H, n) := by
  have h : binV P .eql t x y (sL a) (sL b) H n = some (.bool ((bA a).toList == (bA b).toList), H, n) := rfl
  rw [h, str_eq]
  simp
@[simp] theorem bin_neqs : binV P .neq t x y (sL a) (sL b) H n = some (.bool (!decide (a = b)), H, n) := by
  have h : binV P .neq t x y (sL a) (sL b) H n = some (.bool (!((bA a).toList == (bA b).toList)), H, n) := rfl
  rw [h, str_eq]
  simp
theorem bin_adds (hs : a.length + b.length ≤ 9223372036854775807) : binV P .add t x y (sL a) (sL b) H n = some (sL (a ++ b), H, n) := by
  have hc : ¬ (((bA a).size + (bA b).size : Nat) : Int) > IntKind.i64.max := by
    rw [bA_size, bA_size, show IntKind.i64.max = 9223372036854775807 from rfl]
    omega
  have h : binV P .add t x y (sL a) (sL b) H n = (runP P (if (((bA a).size + (bA b).size : Nat) : Int) > IntKind.i64.max then unsupported (.resourceLimit "string concatenation: a sum of the lengths that is no int") else pure (.string (bA a ++ bA b)))).bind fun v => if afq v then some (v, H, n) else none := rfl
  rw [h, if_neg hc, bA_append]
  rfl
variable {i j : Int}
@[simp] theorem bin_eql8 : binV P .eql t x y (.int .u8 i) (.int .u8 j) H n = some (.bool (decide (i = j)), H, n) := rfl
@[simp] theorem bin_neq8 : binV P .neq t x y (.int .u8 i) (.int .u8 j) H n = some (.bool (!decide (i = j)), H, n) := rfl
@[simp] theorem bin_lss8 : binV P .lss t x y (.int .u8 i) (.int .u8 j) H n = some (.bool (decide (i < j)), H, n) := rfl
@[simp] theorem bin_gtr8 : binV P .gtr t x y (.int .u8 i) (.int .u8 j) H n = some (.bool (decide (j < i)), H, n) := rfl
@[simp] theorem bin_sub8 : binV P .sub t x y (.int .u8 i) (.int .u8 j) H n = some (.int .u8 (IntKind.u8.wrap (i - j)), H, n) := rfl
@[simp] theorem bin_lss32 : binV P .lss t x y (.int .i32 i) (.int .i32 j) H n = some (.bool (decide (i < j)), H, n) := rfl
@[simp] theorem bin_gtr32 : binV P .gtr t x y (.int .i32 i) (.int .i32 j) H n = some (.bool (decide (j < i)), H, n) := rfl
@[simp] theorem bin_sub32 : binV P .sub t x y (.int .i32 i) (.int .i32 j) H n = some (.int .i32 (IntKind.i32.wrap (i - j)), H, n) := rfl
end
theorem cv5_3 (a : Int) : runP Tryz.prog (convert 5 3 (.int .u8 a)) = some (.int .i64 (IntKind.i64.wrap a)) := by kernel_rfl
theorem cv21_3 (a : Int) : runP Tryz.prog (convert 21 3 (.int .i32 a)) = some (.int .i64 (IntKind.i64.wrap a)) := by kernel_rfl
theorem cv3_5 (a : Int) : runP Tryz.prog (convert 3 5 (.int .i64 a)) = some (.int .u8 (IntKind.u8.wrap a)) := by kernel_rfl
theorem conv53 {a : Int} (h0 : 0 ≤ a) (h1 : a ≤ 255) : runP Tryz.prog (convert 5 3 (.int .u8 a)) = some (iv a) := by
  rw [cv5_3, W_in (by omega) (by omega)]
theorem conv213 {a : Int} (h0 : 0 ≤ a) (h1 : a ≤ 255) : runP Tryz.prog (convert 21 3 (.int .i32 a)) = some (iv a) := by
  rw [cv21_3, W_in (by omega) (by omega)]
theorem W8 {a : Int} (h0 : 0 ≤ a) (h1 : a ≤ 255) : IntKind.u8.wrap a = a := by
  show a % 256 = a
  omega
theorem conv35 {a : Int} (h0 : 0 ≤ a) (h1 : a ≤ 255) : runP Tryz.prog (convert 3 5 (iv a)) = some (.int .u8 a) := by
  rw [cv3_5, W8 h0 h1]
@[simp] theorem inf9 : Tryz.prog.info? 9 = some Tryz.t9 := by kernel_rfl
attribute [simp] Tryz.t9
@[simp] theorem wrap0 : IntKind.i64.wrap 0 = 0 := W_in (by omega) (by omega)
@[simp] theorem wrap1 : IntKind.i64.wrap 1 = 1 := W_in (by omega) (by omega)
def sls (l : List (List UInt8)) : List Value := l.map sL
@[simp] theorem sls_length (l : List (List UInt8)) : (sls l).length = l.length := by simp [sls]
@[simp] theorem afL_sls : ∀ l : List (List UInt8), afL (sls l) = true
  | [] => rfl
  | _ :: l => by simp [sls] at *; exact afL_sls l
@[simp] theorem renL_sls (ρ : Nat → Nat) (l : List (List UInt8)) : renL ρ (sls l) = sls l := by rw [renL_eq, sls, List.map_map]; rfl
@[simp] theorem scL_sls (p : Nat → Prop) (l : List (List UInt8)) : scL p (sls l) := scL_af p _ (afL_sls l)
theorem sls_append (a b : List (List UInt8)) : sls (a ++ b) = sls a ++ sls b := by simp [sls]
theorem sls_one (w : List UInt8) : sls [w] = [sL w] := rfl
theorem sls_snoc (d : List UInt8) (D : List (List UInt8)) (w : List UInt8) : sls (d :: (D ++ [w])) = sls (d :: D) ++ [sL w] := by rw [← List.cons_append, sls_append]; rfl
theorem sls_get {l : List (List UInt8)} {i : Nat} (h : i < l.length) : (sls l)[i]? = some (sL l[i]) := by simp [sls, h]
@[simp] theorem oneL_sls : ∀ l : List (List UInt8), oneL (sls l) = true
  | [] => rfl
  | _ :: l => by simp [sls, oneL] at *; exact oneL_sls l
end Go.Proofs.YtkongcnmkiihjaaGreatDoor

namespace Go.Proofs.YtkongcnmkiihjaaGreatDoor
open Go Go.Ab Go.Proofs
def spF (c : UInt8) : List UInt8 → List (List UInt8) → List UInt8 → List (List UInt8) × List UInt8
  | [], d, w => (d, w)
  | x :: s, d, w => if x = c then spF c s (d ++ [w]) [] else spF c s d (w ++ [x])
/-- the whole parts, and what is behind the last cut -/
def spD (c : UInt8) (s : List UInt8) : List (List UInt8) := (spF c s [] []).1
def spW (c : UInt8) (s : List UInt8) : List UInt8 := (spF c s [] []).2
def spl (c : UInt8) (s : List UInt8) : List (List UInt8) := spD c s ++ [spW c s]
theorem spF_d (c : UInt8) : ∀ (s : List UInt8) (d : List (List UInt8)) (w : List UInt8), spF c s d w = (d ++ (spF c s [] w).1, (spF c s [] w).2)
  | [], d, w => by simp [spF]
  | x :: s, d, w => by
    unfold spF
    split
    · rw [spF_d c s (d ++ [w]), spF_d c s ([] ++ [w])]
      simp
    · exact spF_d c s d _
/-- no cut in the first part -/
theorem spF_miss (c : UInt8) : ∀ (a s : List UInt8) (d : List (List UInt8)) (w : List UInt8), c ∉ a → spF c (a ++ s) d w = spF c s d (w ++ a)
  | [], s, d, w, _ => by simp
  | x :: a, s, d, w, h => by
    simp only [List.mem_cons, not_or] at h
    rw [List.cons_append, spF, if_neg (fun e => h.1 e.symm), spF_miss c a s d _ h.2]
    simp
theorem sp_miss {c : UInt8} {a : List UInt8} (h : c ∉ a) : spD c a = [] ∧ spW c a = a := by
  have := spF_miss c a [] [] [] h
  rw [List.append_nil] at this
  constructor
  · rw [spD, this]; rfl
  · rw [spW, this]; simp [spF]
theorem sp_hit {c : UInt8} {a s : List UInt8} (h : c ∉ a) : spD c (a ++ c :: s) = a :: spD c s ∧ spW c (a ++ c :: s) = spW c s := by
  have h1 : spF c (a ++ c :: s) [] [] = ([a] ++ (spF c s [] []).1, (spF c s [] []).2) := by
    rw [spF_miss c a _ [] [] h, spF, if_pos rfl, ← spF_d]
    simp
  constructor
  · rw [spD, h1]; rfl
  · rw [spW, h1]; rfl
theorem spl_miss {c : UInt8} {a : List UInt8} (h : c ∉ a) : spl c a = [a] := by
  rw [spl, (sp_miss h).1, (sp_miss h).2]; rfl
theorem spl_hit {c : UInt8} {a s : List UInt8} (h : c ∉ a) : spl c (a ++ c :: s) = a :: spl c s := by
  rw [spl, (sp_hit h).1, (sp_hit h).2]; rfl
theorem spl_ne (c : UInt8) (s : List UInt8) : spl c s ≠ [] := by simp [spl]
/-- where the first cut is -/
theorem first_cut (c : UInt8) (s : List UInt8) : (Lib.indexByte s c = -1 ∧ c ∉ s) ∨ ∃ a r, s = a ++ c :: r ∧ c ∉ a ∧ Lib.indexByte s c = a.length := by
  induction s with
  | nil => exact .inl ⟨rfl, by simp⟩
  | cons b s ih =>
    by_cases hb : b = c
    · subst hb
      exact .inr ⟨[], s, rfl, by simp, by simp [Lib.indexByte]⟩
    · have hbc : (b == c) = false := beq_eq_false_iff_ne.2 hb
      rcases ih with ⟨h1, h2⟩ | ⟨a, r, h1, h2, h3⟩
      · refine .inl ⟨by simp [Lib.indexByte, hbc, h1], ?_⟩
        simp only [List.mem_cons, not_or]
        exact ⟨fun e => hb e.symm, h2⟩
      · refine .inr ⟨b :: a, r, by rw [h1]; rfl, ?_, ?_⟩
        · simp only [List.mem_cons, not_or]
          exact ⟨fun e => hb e.symm, h2⟩
        · have : ¬ ((a.length : Int) == -1) = true := fun e => by have := beq_iff_eq.1 e; omega
          simp [Lib.indexByte, hbc, h3]
theorem cut_byte (c : UInt8) (s : List UInt8) : (c ∉ s → Lib.cut s [c] = (s, [], false)) ∧ ∀ a r, s = a ++ c :: r → c ∉ a → Lib.cut s [c] = (a, r, true) := by
  constructor
  · intro h
    rcases first_cut c s with ⟨h1, _⟩ | ⟨a, r, h1, _, _⟩
    · simp [Lib.cut, Lib.index_one, h1]
    · exact absurd (by rw [h1]; simp) h
  · intro a r h h2
    have h3 : Lib.indexByte s c = a.length := by
      rcases first_cut c s with ⟨_, h4⟩ | ⟨a', r', h4, h5, h6⟩
      · exact absurd (by rw [h]; simp) h4
      · rw [h6]
        have hl : spD c s = spD c s := rfl
        have e1 := (sp_hit (s := r) h2).1
        have e2 := (sp_hit (s := r') h5).1
        rw [← h] at e1
        rw [← h4] at e2
        rw [e1] at e2
        injection e2 with e2
        rw [e2]
    rw [Lib.cut, Lib.index_one, h3, if_pos (by omega)]
    subst h
    simp
theorem splitK_byte (c : UInt8) : ∀ (k : Nat) (s : List UInt8), s.count c = k → Lib.splitK [c] 0 k s = spl c s
  | 0, s, h => by
    rw [Lib.splitK, spl_miss (List.count_eq_zero.1 h)]
  | k + 1, s, h => by
    rcases first_cut c s with ⟨_, h2⟩ | ⟨a, r, h1, h2, h3⟩
    · rw [List.count_eq_zero.2 h2] at h; cases h
    · have hm : ¬ (Lib.index s [c] == -1) = true := fun e => by
        have := beq_iff_eq.1 e
        rw [Lib.index_one, h3] at this
        omega
      rw [Lib.splitK, if_neg hm, Lib.index_one, h3]
      subst h1
      have hc : r.count c = k := by
        rw [List.count_append, List.count_eq_zero.2 h2, List.count_cons_self] at h
        omega
      rw [spl_hit h2, ← splitK_byte c k r hc]
      simp
theorem spD_len (c : UInt8) : ∀ (s : List UInt8), ∀ w ∈ spD c s, w.length < s.length + 1 := by
  have h : ∀ (k : Nat) (s : List UInt8), s.length ≤ k → ∀ w ∈ spD c s, w.length < s.length + 1 := by
    intro k
    induction k with
    | zero =>
      intro s hs w hw
      have : s = [] := List.length_eq_zero_iff.1 (by omega)
      subst this
      cases hw
    | succ k ih =>
      intro s hs w hw
      rcases first_cut c s with ⟨_, h2⟩ | ⟨a, r, h1, h2, _⟩
      · rw [(sp_miss h2).1] at hw; cases hw
      · rw [h1, (sp_hit h2).1] at hw
        have hl : s.length = a.length + (r.length + 1) := by rw [h1]; simp
        rcases List.mem_cons.1 hw with rfl | hw
        · omega
        · have := ih r (by omega) w hw
          omega
  exact fun s => h s.length s (Nat.le_refl _)
def digB (b : UInt8) : Bool := decide (48 ≤ b.toNat ∧ b.toNat ≤ 57)
def stepD (n : Int) (b : UInt8) : Int := 10 * n + ((b.toNat : Int) - 48)
def valD (s : List UInt8) : Int := s.foldl stepD 0
def dd (n : Int) : List UInt8 := Lib.decDigits n.toNat
def leadB (s : List UInt8) : Bool := decide (s.length = 1) || !decide (s.head? = some 48)
def preI (s : List UInt8) : Bool := !decide (s = []) && decide (s.length ≤ 10) && s.all digB
/-- what the reference reads, and what the program reads -/
def rI (s : List UInt8) : Int × Bool := if preI s && leadB s then (valD s, true) else (0, false)
def pI (s : List UInt8) : Int × Bool := if preI s then (valD s, leadB s) else (0, false)
theorem pI_rI (s : List UInt8) : (pI s).2 = (rI s).2 ∧ ((rI s).2 = true → (pI s).1 = (rI s).1) := by
  unfold pI rI
  cases preI s <;> cases leadB s <;> simp
abbrev pickB : List UInt8 := [112, 105, 99, 107]
def numA (f : List UInt8 → Int × Bool) (r : List (List UInt8)) (k : Nat) : Int × Bool := match r[k]? with
  | some w => f w
  | none => (0, false)
/-- the words behind the first one -/
def restW (s : List UInt8) : List (List UInt8) := match (spl 32 s).tail with
  | [] => [[]]
  | r => r
def headW (s : List UInt8) : List UInt8 := (spl 32 s).headD []
def prsV (s : List UInt8) : Pk × Bool := if headW s = pickB then (⟨(numA pI (restW s) 0).1, (numA pI (restW s) 1).1, (numA pI (restW s) 2).1⟩, (numA pI (restW s) 0).2 && (numA pI (restW s) 1).2 && (numA pI (restW s) 2).2 && decide ((restW s).length ≤ 3)) else (⟨0, 0, 0⟩, false)
def linV (s : List UInt8) : Pk × Bool := if (spl 32 s).length = 4 ∧ headW s = pickB then (⟨(numA rI (spl 32 s) 1).1, (numA rI (spl 32 s) 2).1, (numA rI (spl 32 s) 3).1⟩, (numA rI (spl 32 s) 1).2 && (numA rI (spl 32 s) 2).2 && (numA rI (spl 32 s) 3).2) else (⟨0, 0, 0⟩, false)
theorem pI_nil : pI [] = (0, false) := rfl
theorem rI_nil : rI [] = (0, false) := rfl
theorem prs_lin (s : List UInt8) : (prsV s).2 = (linV s).2 ∧ ((linV s).2 = true → (prsV s).1 = (linV s).1) := by
  obtain ⟨w, ws, hw⟩ : ∃ w ws, spl 32 s = w :: ws := by
    cases h : spl 32 s with
    | nil => exact absurd h (spl_ne 32 s)
    | cons w ws => exact ⟨w, ws, rfl⟩
  have hh : headW s = w := by simp [headW, hw]
  unfold prsV linV
  rw [hh]
  by_cases hp : w = pickB
  · rw [if_pos hp]
    match ws, hw with
    | [], hw => simp [hw, restW, numA, pI_nil]
    | [a], hw => simp [hw, restW, numA]
    | [a, b], hw => simp [hw, restW, numA]
    | [a, b, c], hw =>
      obtain ⟨a1, a2⟩ := pI_rI a
      obtain ⟨b1, b2⟩ := pI_rI b
      obtain ⟨c1, c2⟩ := pI_rI c
      rw [if_pos ⟨by simp [hw], hp⟩]
      simp only [hw, restW, numA, List.tail_cons, List.getElem?_cons_zero, List.getElem?_cons_succ, a1, b1, c1, List.length_cons, List.length_nil]
      refine ⟨by simp, fun h => ?_⟩
      simp only [Bool.and_eq_true] at h
      rw [a2 h.1.1, b2 h.1.2, c2 h.2]
    | a :: b :: c :: d :: r, hw =>
      have h1 : ¬ (r.length + 1 + 1 + 1 + 1 ≤ 3) := by omega
      have h2 : ¬ (r.length + 1 + 1 + 1 + 1 + 1 = 4) := by omega
      simp [hw, restW, numA]
  · rw [if_neg hp, if_neg (fun h => hp h.2)]
    exact ⟨rfl, fun h => by cases h⟩
/-- the picks of the whole lines, as far as they are right -/
def goodN (D : List (List UInt8)) : Nat := match D.findIdx? (fun w => !(linV w).2) with
  | some i => i
  | none => D.length
def pksD (D : List (List UInt8)) : List Pk := D.map fun w => (linV w).1
structure Prs where
  out : List Pk
  at' : Int
  e : Int
def parV (s : List UInt8) : Prs :=
  if 4096 < s.length then ⟨[], 0, 26⟩
  else if goodN (spD 10 s) < (spD 10 s).length then ⟨[], goodN (spD 10 s), 25⟩
  else if spW 10 s ≠ [] then ⟨[], (spD 10 s).length, 25⟩
  else if pksE (pksD (spD 10 s)) ≠ 0 then ⟨[], (spD 10 s).length, pksE (pksD (spD 10 s))⟩
  else ⟨pksD (spD 10 s), 0, 0⟩
end Go.Proofs.YtkongcnmkiihjaaGreatDoor

namespace Go.Proofs.YtkongcnmkiihjaaGreatDoor
open Go Go.Ab Go.Proofs
def lineT (p : Pk) : List UInt8 := pickB ++ [32] ++ dd p.t ++ [32] ++ dd p.q ++ [32] ++ dd p.e ++ [10]
def prT (l : List Pk) : List UInt8 := l.flatMap lineT
theorem dd_len {n : Int} (h : n ≤ 1000000000) : (dd n).length ≤ 10 := by
  rw [dd, Lib.decDigits_length]
  refine Nat.le_of_not_lt fun hc => ?_
  have hm : ∀ (k u : Nat), k < Lib.nDigits u → 10 ^ k ≤ u ∨ k = 0 := by
    intro k
    induction k with
    | zero => intro u _; exact .inr rfl
    | succ k ih =>
      intro u hu
      by_cases hs : u < 10
      · rw [Lib.nDigits_small hs] at hu; omega
      · rw [Lib.nDigits_big hs] at hu
        rcases ih (u / 10) (by omega) with h1 | h1
        · rw [Nat.pow_succ]; exact .inl (by omega)
        · subst h1; exact .inl (by omega)
  rcases hm 10 _ hc with h1 | h1
  · have : (10 : Nat) ^ 10 = 10000000000 := by decide
    omega
  · cases h1
theorem goodN_all {D : List (List UInt8)} (h : ∀ w ∈ D, (linV w).2 = true) : goodN D = D.length := by
  unfold goodN
  rw [List.findIdx?_eq_none_iff.2 (fun w hw => by simp [h w hw])]
theorem line_len {p : Pk} (h : p.Ok) : (lineT p).length ≤ 40 := by
  obtain ⟨h1, h2, h3, h4, h5, h6⟩ := h
  have a := dd_len (show p.t ≤ 1000000000 by omega)
  have b := dd_len h4
  have c := dd_len h6
  simp [lineT, pickB]
  omega
theorem prT_len {l : List Pk} (h : PksOk l) : (prT l).length ≤ 40 * l.length := by
  induction l with
  | nil => simp [prT]
  | cons p l ih =>
    have := ih fun q hq => h q (List.mem_cons_of_mem _ hq)
    have hp := line_len (h p (List.mem_cons_self ..))
    rw [show prT (p :: l) = lineT p ++ prT l from rfl, List.length_append, List.length_cons]
    omega
end Go.Proofs.YtkongcnmkiihjaaGreatDoor

namespace Go.Proofs.YtkongcnmkiihjaaGreatDoor
open Go Go.Ab Go.Proofs
@[simp] theorem inf242 : Tryz.prog.info? 242 = some Tryz.t242 := by kernel_rfl
theorem dd_small {m : Nat} (h : m < 10) : dd (m : Int) = [UInt8.ofNat (48 + m)] := by
  unfold dd
  rw [show ((m : Int)).toNat = m by omega, Lib.decDigits, dif_pos h]
theorem dd_big {m : Nat} (h : ¬ m < 10) : dd (m : Int) = dd ((m / 10 : Nat) : Int) ++ [UInt8.ofNat (48 + m % 10)] := by
  unfold dd
  rw [show ((m : Int)).toNat = m by omega, show (((m / 10 : Nat) : Int)).toNat = m / 10 by omega, Lib.decDigits, dif_neg h]
theorem nDig_le : ∀ u : Nat, Lib.nDigits u ≤ u + 1 := by
  intro u
  induction u using Nat.strongRecOn with
  | _ u ih =>
    by_cases h : u < 10
    · rw [Lib.nDigits_small h]; omega
    · rw [Lib.nDigits_big h]
      have := ih (u / 10) (by omega)
      omega
theorem dd_len0 {x : Int} (_h : 0 ≤ x) : ((dd x).length : Int) ≤ x + 1 := by
  unfold dd
  rw [Lib.decDigits_length]
  have := nDig_le x.toNat
  omega
def gTx (B : Int) (args : List Value) (H : Heap) (n : Nat) : R := match args with
  | [.int .i64 m] => if 0 ≤ m ∧ m < B then some (sL (dd m), H, n) else none
  | _ => none
theorem okTx {f : FuncId} {B : Int} (h : ∀ m : Int, 0 ≤ m → m < B → AC Tryz.prog f [iv m] [] 9 (sL (dd m)) [] 9) : EntOk Tryz.prog (f, gTx B) := by
  intro args H n v H' n' hh
  simp only [gTx] at hh
  split at hh
  · split at hh
    · rename_i hm
      injection hh with hh; injection hh with e1 e2; injection e2 with e2 e3; subst e1 e2 e3
      exact AC.liftP rfl (Part.plain (by simp) [] (by simp [Seen]) gsz ⟨_, _, h _ hm.1 hm.2⟩)
    · cases hh
  · cases hh
theorem w158 : ∀ m : Nat, (m : Int) ≤ 9223372036854775807 → AC Tryz.prog 158 [iv m] [] 9 (sL (dd m)) [] 9 := by
  intro m
  induction m using Nat.strongRecOn with
  | _ m ih =>
    intro hm
    have hr := recT_ok (P := Tryz.prog) (l := [(158, gTx m)]) (by
      simp only [List.forall_mem_cons]
      exact ⟨okTx fun k h0 h1 => by
        obtain ⟨j, rfl⟩ := Int.eq_ofNat_of_zero_le h0
        exact ih j (by omega) (by omega), by simp⟩)
    refine AC.pure Tryz.func158 rfl (by kernel_rfl) rfl [2, 20, 6, 4, 0] rfl ?_
    refine E.seq ?_
    refine E.reg hr (by simp; rfl) ?_
    refine E.seq ?_
    refine E.seq ?_
    refine E.reg hr (by simp; rfl) ?_
    refine E.cond (by rfl) (fun h => ?_) (fun h => ?_)
    · simp at h
      omega
    · refine E.skip ?_
      refine E.seq ?_
      refine E.seq ?_
      refine E.reg hr (by simp; rfl) ?_
      refine E.cond (by rfl) (fun h => ?_) (fun h => ?_)
      · simp at h
        have h' : m < 10 := by omega
        have hw : IntKind.i64.wrap (48 + (m : Int)) = 48 + (m : Int) := W_in (by omega) (by omega)
        have hc := conv35 (a := 48 + (m : Int)) (by omega) (by omega)
        have hn : (48 + (m : Int)).toNat = 48 + m := by omega
        refine E.seq ?_
        refine E.reg hr (by simp [hw, opConvert, hc, hn, bytesA]; rfl) ?_
        refine E.ret ?_
        exact pureK.ret rfl rfl (by simp [dd_small h']) (by repeat first | exact sub_refl _ | refine sub_cons rfl ?_)
      · simp at h
        have h' : ¬ m < 10 := by omega
        have hw : IntKind.i64.wrap (48 + (m : Int) % 10) = 48 + (m : Int) % 10 := W_in (by omega) (by omega)
        have hq : IntKind.i64.wrap ((m : Int) / 10) = (m : Int) / 10 := W_in (by omega) (by omega)
        have hc := conv35 (a := 48 + (m : Int) % 10) (by omega) (by omega)
        have hn : (48 + (m : Int) % 10).toNat = 48 + m % 10 := by omega
        have hq0 : 0 ≤ (m : Int) / 10 ∧ (m : Int) / 10 < m := by omega
        have e1 : (m : Int).tdiv 10 = (m : Int) / 10 := Int.tdiv_eq_ediv_of_nonneg (by omega)
        have e2 : (m : Int).tmod 10 = (m : Int) % 10 := Int.tmod_eq_emod_of_nonneg (by omega)
        have hl0 := dd_len0 (x := (m : Int) / 10) (by omega)
        have hl : (dd ((m : Int) / 10)).length + 1 ≤ 9223372036854775807 := by omega
        refine E.skip ?_
        refine E.seq ?_
        refine E.drawC mixed hr [] [7] [2, 8] (by kernel_rfl) (by simp [bin_quo, bin_rem, bin_adds, hl, e1, e2, hq, hw, opConvert, hc, hn, bytesA, gTx, hq0]; rfl) ?_
        refine E.ret ?_
        exact pureK.ret rfl rfl (by simp [dd_big h']) (by repeat first | exact sub_refl _ | refine sub_cons rfl ?_)
abbrev g158 := gTx 9223372036854775808
theorem ok158 : EntOk Tryz.prog (158, g158) := okTx fun m h0 h1 => by
  obtain ⟨j, rfl⟩ := Int.eq_ofNat_of_zero_le h0
  exact w158 j (by omega)
end Go.Proofs.YtkongcnmkiihjaaGreatDoor

namespace Go.Proofs.YtkongcnmkiihjaaGreatDoor
open Go Go.Ab Go.Proofs
theorem index_str0 {s : List UInt8} (h : 0 < s.length) : runP Tryz.prog (Instr.index 9 (sL s) (.int .i64 0)) = some (u8 s[0]) := index_str h
theorem u8_bd (b : UInt8) : 0 ≤ ((b.toNat : Nat) : Int) ∧ ((b.toNat : Nat) : Int) ≤ 255 := by
  have := b.toNat_lt
  omega
theorem valD_snoc (t : List UInt8) (b : UInt8) : valD (t ++ [b]) = 10 * valD t + ((b.toNat : Int) - 48) := by simp [valD, stepD]
theorem valD_bd {s : List UInt8} (h : ∀ b ∈ s, digB b = true) : ∀ i, i ≤ s.length → 0 ≤ valD (s.take i) ∧ valD (s.take i) + 1 ≤ 10 ^ i
  | 0, _ => by simp [valD]
  | i + 1, hi => by
    have hlt : i < s.length := by omega
    have ih := valD_bd h i (by omega)
    have hd := h _ (List.getElem_mem hlt)
    simp only [digB, decide_eq_true_eq] at hd
    rw [List.take_succ_eq_append_getElem hlt, valD_snoc, Int.pow_succ]
    omega
theorem pow_le10 {i : Nat} (h : i ≤ 10) : (10 : Int) ^ i ≤ 10000000000 := by
  have h1 : (10 : Nat) ^ i ≤ 10 ^ 10 := Nat.pow_le_pow_right (by omega) h
  have h2 : (10 : Nat) ^ 10 = 10000000000 := by decide
  have h3 : ((10 : Int)) ^ i = (((10 : Nat) ^ i : Nat) : Int) := by simp
  omega
theorem rI_false {s : List UInt8} (h : preI s = false ∨ leadB s = false) : rI s = (0, false) := by
  unfold rI
  rcases h with h | h <;> simp [h]
theorem preI_bad {s : List UInt8} {i : Nat} (hi : i < s.length) (h : digB s[i] = false) : preI s = false := by
  have : s.all digB = false := by
    rw [Bool.eq_false_iff]
    intro ha
    rw [List.all_eq_true.1 ha _ (List.getElem_mem hi)] at h
    cases h
  simp [preI, this]
theorem preI_good {s : List UInt8} (h0 : s ≠ []) (h1 : s.length ≤ 10) (h : ∀ j (hj : j < s.length), digB s[j] = true) : preI s = true := by
  have ha : s.all digB = true := List.all_eq_true.2 fun b hb => by
    obtain ⟨j, hj, rfl⟩ := List.getElem_of_mem hb
    exact h j hj
  have hne : decide (s = []) = false := decide_eq_false h0
  simp [preI, ha, h1, hne]
/-- a region whose slots behind it are known up to what is let go -/
theorem E.regL {P : Program} {r : Rec} {m n0 : Nat} {ro : Option Nat} (hr : RecOk P r m) {id : Nat} {ops : Array Oper} {st : St} {b : Code} {K : Ex → St → Prop} (s2 : St) (h : ∃ st', opsF P r ops ops.toList st = some st' ∧ Leads P n0 st' s2) (k : E P n0 ro b s2 K) : E P n0 ro (.region id ops false) st (seqK P n0 ro b K) := by
  obtain ⟨st', h1, h2⟩ := h
  exact E.reg hr h1 (E.lead s2 h2 k)
abbrev tupI (x : Int × Bool) : Value := .tuple #[iv x.1, .bool x.2]
set_option maxHeartbeats 2000000 in
theorem w188 (s : List UInt8) : AC Tryz.prog 188 [sL s] [] 9 (tupI (rI s)) [] 9 := by
  have hr := recT_ok (P := Tryz.prog) (l := []) (by simp)
  refine AC.pure Tryz.func188 rfl (by kernel_rfl) rfl [0, 4, 5] rfl ?_
  refine E.seq ?_
  refine E.reg hr (by simp; rfl) ?_
  refine E.seq ?_
  refine E.seq ?_
  by_cases h0 : s = []
  · subst h0
    refine E.reg hr (by simp; rfl) ?_
    refine E.cond (t := true) (by rfl) (fun _ => ?_) (fun h => by cases h)
    refine E.seq ?_
    refine E.reg hr (by simp; rfl) ?_
    refine E.ret ?_
    exact pureK.ret rfl rfl (by simp [rI_nil]) (by repeat first | exact sub_refl _ | refine sub_cons rfl ?_)
  have hpos : 0 < s.length := List.length_pos_iff.2 h0
  have hn0 : ¬ (s.length : Int) = 0 := by omega
  by_cases h10 : 10 < s.length
  · have h10I : (10 : Int) < s.length := by omega
    have hv : rI s = (0, false) := rI_false (.inl (by simp [preI, show ¬ s.length ≤ 10 by omega]))
    refine E.reg hr (by simp [h0, h10I]; rfl) ?_
    refine E.cond (t := true) (by rfl) (fun _ => ?_) (fun h => by cases h)
    refine E.seq ?_
    refine E.reg hr (by simp; rfl) ?_
    refine E.ret ?_
    exact pureK.ret rfl rfl (by simp [hv]) (by repeat first | exact sub_refl _ | refine sub_cons rfl ?_)
  have h10I : ¬ (10 : Int) < s.length := by omega
  have hhd : s.head? = some s[0] := by cases s with | nil => exact absurd rfl h0 | cons a b => rfl
  by_cases hz : 1 < s.length ∧ ((s[0].toNat : Nat) : Int) = 48
  · have h1I : (1 : Int) < s.length := by omega
    have h48 : s[0] = 48 := UInt8.toNat_inj.1 (by have : (48 : UInt8).toNat = 48 := rfl; omega)
    have hv : rI s = (0, false) := rI_false (.inr (by simp [leadB, hhd, h48]; omega))
    refine E.reg hr (by simp [h0, h10I, h1I, index_str0 hpos, hz.2]; rfl) ?_
    refine E.cond (t := true) (by rfl) (fun _ => ?_) (fun h => by cases h)
    refine E.seq ?_
    refine E.reg hr (by simp; rfl) ?_
    refine E.ret ?_
    exact pureK.ret rfl rfl (by simp [hv]) (by repeat first | exact sub_refl _ | refine sub_cons rfl ?_)
  have hlead : leadB s = true := by
    by_cases h1 : s.length = 1
    · simp [leadB, h1]
    · have hne : s[0] ≠ 48 := fun e => hz ⟨by omega, by rw [e]; rfl⟩
      simp [leadB, hhd, hne]
  refine E.regL hr { fr := [(0, sL s), (23, .bool false)], sz := 49, H := [], n := 9, marks := [], vs := [0, 4, 5] } ?_ ?_
  · by_cases h1 : 1 < s.length
    · have h1I : (1 : Int) < s.length := by omega
      have h48 : ¬ ((s[0].toNat : Nat) : Int) = 48 := fun e => hz ⟨h1, e⟩
      refine ⟨_, by simp [h0, h10I, h1I, index_str0 hpos, h48]; rfl, ?_⟩; exact .less rfl rfl rfl (by simp) (by simp)
    · have h1I : ¬ (1 : Int) < s.length := by omega
      refine ⟨_, by simp [h0, h10I, h1I]; rfl, ?_⟩; exact .less rfl rfl rfl (by simp) (by simp)
  refine E.cond (t := false) (by rfl) (fun h => by cases h) (fun _ => ?_)
  refine E.skip ?_
  refine E.seq ?_
  refine E.reg hr (by simp; rfl) ?_
  refine E.seq ?_
  refine E.seq ?_
  refine E.reg hr (by simp; rfl) ?_
  refine E.block ?_
  refine E.loop ?_
  refine EL.ind (fun i : Nat => { fr := [(0, sL s), (4, iv (valD (s.take i))), (5, iv i)], sz := 49, H := [], n := 9, marks := [], vs := [0, 4, 5] }) (fun i => s.length - i) (fun i => i ≤ s.length ∧ ∀ j (h : j < s.length), j < i → digB s[j] = true) 0 (.less rfl rfl rfl (by simp [valD]) (by simp)) ⟨Nat.zero_le _, fun j _ hj => absurd hj (by omega)⟩ (fun _ => rfl) ?_
  intro i ⟨hi, hg⟩
  have hw : IntKind.i64.wrap ((i : Int) + 1) = (i : Int) + 1 := W_in (by omega) (by omega)
  refine E.seq ?_
  refine E.seq ?_
  refine E.reg hr (by simp; rfl) ?_
  refine E.cond (by rfl) (fun h => ?_) (fun h => ?_)
  · simp at h
    have hb := u8_bd s[i]
    have hix := index_str h
    refine E.skip ?_
    refine E.seq ?_
    refine E.block ?_
    refine E.seq ?_
    refine E.seq ?_
    by_cases hd : digB s[i] = true
    · simp only [digB, decide_eq_true_eq] at hd
      have hd1 : ¬ ((s[i].toNat : Nat) : Int) < 48 := by omega
      have hd2 : ¬ (57 : Int) < ((s[i].toNat : Nat) : Int) := by omega
      refine E.reg hr (by simp [hix, hd1, hd2]; rfl) ?_
      refine E.cond (t := false) (by rfl) (fun h => by cases h) (fun _ => ?_)
      have hbd : 0 ≤ valD (s.take i) ∧ valD (s.take i) + 1 ≤ 10 ^ i := by
        have := valD_bd (s := s.take i) (fun b hb => by
          obtain ⟨j, hj, rfl⟩ := List.getElem_of_mem hb
          simp only [List.length_take] at hj
          rw [List.getElem_take]
          exact hg j (by omega) (by omega)) i (by rw [List.length_take]; omega)
        rwa [List.take_take, Nat.min_self] at this
      have hp := pow_le10 (i := i) (by omega)
      have w1 : IntKind.i64.wrap (10 * valD (s.take i)) = 10 * valD (s.take i) := W_in (by omega) (by omega)
      have w2 : IntKind.u8.wrap (((s[i].toNat : Nat) : Int) - 48) = ((s[i].toNat : Nat) : Int) - 48 := W8 (by omega) (by omega)
      have w3 : IntKind.i64.wrap (10 * valD (s.take i) + (((s[i].toNat : Nat) : Int) - 48)) = 10 * valD (s.take i) + (((s[i].toNat : Nat) : Int) - 48) := W_in (by omega) (by omega)
      have hc := conv53 (a := ((s[i].toNat : Nat) : Int) - 48) (by omega) (by omega)
      have hsn : valD (s.take (i + 1)) = 10 * valD (s.take i) + (((s[i].toNat : Nat) : Int) - 48) := by rw [List.take_succ_eq_append_getElem h, valD_snoc]
      refine E.skip ?_
      refine E.reg hr (by simp [hix, w1, w2, w3, opConvert, hc]; rfl) ?_
      refine E.reg hr (by simp [hw]; rfl) ?_
      refine ⟨i + 1, .less rfl rfl rfl (by simp [hsn]) (by simp), ⟨by omega, fun j hj hji => ?_⟩, by dsimp only; omega⟩
      by_cases hji' : j = i
      · subst hji'
        simp only [digB, decide_eq_true_eq]
        exact hd
      · exact hg j hj (by omega)
    · have hd' : digB s[i] = false := by simpa using hd
      have hv : rI s = (0, false) := rI_false (.inl (preI_bad h hd'))
      simp only [digB, decide_eq_true_eq] at hd
      refine E.regL hr { fr := [(39, .bool true)], sz := 49, H := [], n := 9, marks := [], vs := [0, 4, 5] } ?_ ?_
      · by_cases hd1 : ((s[i].toNat : Nat) : Int) < 48
        · refine ⟨_, by simp [hix, hd1]; rfl, ?_⟩; exact .less rfl rfl rfl (by simp) (by simp)
        · have hd2 : (57 : Int) < ((s[i].toNat : Nat) : Int) := by omega
          refine ⟨_, by simp [hix, hd1, hd2]; rfl, ?_⟩; exact .less rfl rfl rfl (by simp) (by simp)
      refine E.cond (t := true) (by rfl) (fun _ => ?_) (fun h => by cases h)
      refine E.seq ?_
      refine E.reg hr (by simp; rfl) ?_
      refine E.ret ?_
      exact pureK.ret rfl rfl (by simp [hv]) (by repeat first | exact sub_refl _ | refine sub_cons rfl ?_)
  · simp at h
    have hal : s.take i = s := List.take_of_length_le h
    have hv : rI s = (valD s, true) := by
      unfold rI
      rw [preI_good h0 (by omega) fun j hj => hg j hj (by omega), hlead]
      rfl
    refine E.exit ?_
    refine E.seq ?_
    refine E.reg hr (by simp; rfl) ?_
    refine E.ret ?_
    exact pureK.ret rfl rfl (by simp [hv, hal]) (by repeat first | exact sub_refl _ | refine sub_cons rfl ?_)
def gSS (F : List UInt8 → Value) (args : List Value) (H : Heap) (n : Nat) : R := match args with
  | [.string s] => some (F s.data.toList, H, n)
  | _ => none
@[simp] theorem gSS_eq (F : List UInt8 → Value) (s : List UInt8) (H : Heap) (n : Nat) : gSS F [sL s] H n = some (F s, H, n) := by simp [gSS]
theorem okSS {f : FuncId} {F : List UInt8 → Value} (haf : ∀ s, af (F s) = true) (h : ∀ s, AC Tryz.prog f [sL s] [] 9 (F s) [] 9) : EntOk Tryz.prog (f, gSS F) := by
  intro args H n v H' n' hh
  simp only [gSS] at hh
  split at hh
  · rename_i s
    injection hh with hh; injection hh with e1 e2; injection e2 with e2 e3; subst e1 e2 e3
    have := h s.data.toList
    rw [show sL s.data.toList = .string s from congrArg Value.string (bA_data s)] at this
    exact AC.liftP (haf _) (Part.plain (by simp) [] (by simp [Seen]) gsz ⟨_, _, this⟩)
  · cases hh
abbrev g188 := gSS fun s => tupI (rI s)
theorem ok188 : EntOk Tryz.prog (188, g188) := okSS (fun _ => rfl) w188
end Go.Proofs.YtkongcnmkiihjaaGreatDoor

namespace Go.Proofs.YtkongcnmkiihjaaGreatDoor
open Go Go.Ab Go.Proofs
def S87 (s : List UInt8) (c : UInt8) : Nat × List (List UInt8) × List UInt8 → St
  | (i, [], w) => { fr := [(0, sL s), (1, u8 c), (5, .slice (some ⟨9, 0, none⟩) 1 1), (6, iv i)], sz := 40, H := [(9, .cells [sL w] 9)], n := 10, marks := [], vs := [0, 1, 5, 6] }
  | (i, d :: D, w) => { fr := [(0, sL s), (1, u8 c), (5, .slice (some ⟨9, 0, some 0⟩) (D.length + 1 + 1) 0), (6, iv i)], sz := 40, H := [(9, .ext (sls (d :: D) ++ [sL w]) 9 1)], n := 10, marks := [], vs := [0, 1, 5, 6] }
def q87 (D : List (List UInt8)) (w : List UInt8) (v : Value) (H : Heap) : Prop := match D with
  | [] => ∃ m, v = .slice (some ⟨m, 0, none⟩) 1 1 ∧ hget H m = some (.cells [sL w] 9) ∧ 9 ≤ m
  | d :: D => ∃ m, v = .slice (some ⟨m, 0, some 0⟩) (D.length + 1 + 1) 0 ∧ hget H m = some (.ext (sls (d :: D) ++ [sL w]) 9 1) ∧ 9 ≤ m
theorem spF_len (c : UInt8) : ∀ (s : List UInt8) (d : List (List UInt8)) (w : List UInt8), (spF c s d w).1.length ≤ d.length + s.length
  | [], d, w => by simp [spF]
  | x :: s, d, w => by
    unfold spF
    split
    · have := spF_len c s (d ++ [w]) []
      simp at this ⊢
      omega
    · have := spF_len c s d (w ++ [x])
      simp at this ⊢
      omega
set_option maxHeartbeats 4000000 in
set_option maxRecDepth 100000 in
theorem w87 (s : List UInt8) (c : UInt8) (hl : s.length < 2 ^ 31) : ∃ u H1 n1 H2, AC Tryz.prog 87 [sL s, u8 c] [] 9 u H1 n1 ∧ q87 (spD c s) (spW c s) u H2 ∧ (af u = false → H1 = H2) := by
  have hr := recT_ok (P := Tryz.prog) (l := []) (by simp)
  refine AC.out Tryz.func87 rfl (by kernel_rfl) rfl [0, 1, 5, 6] ?_
  refine E.seq ?_
  refine E.reg hr (by simp; rfl) ?_
  refine E.seq ?_
  refine E.reg hr (by simp; rfl) ?_
  refine E.seq ?_
  refine E.seq ?_
  refine E.reg hr (by simp; rfl) ?_
  refine E.block ?_
  refine E.loop ?_
  refine EL.ind (S87 s c) (fun x => s.length - x.1) (fun x => x.1 ≤ s.length ∧ spF c (s.drop x.1) x.2.1 x.2.2 = (spD c s, spW c s) ∧ x.2.1.length + x.2.2.length ≤ x.1) (0, [], []) (.less rfl rfl rfl (by simp [S87]) (by simp [S87])) ⟨Nat.zero_le _, rfl, by simp⟩ (fun x => by obtain ⟨i, D, w⟩ := x; cases D <;> rfl) ?_
  rintro ⟨i, D, w⟩ ⟨hi, hg, hlen⟩
  dsimp only at hi hg hlen
  have hw : IntKind.i64.wrap ((i : Int) + 1) = (i : Int) + 1 := W_in (by omega) (by omega)
  by_cases hx : i < s.length
  · have hxI : (i : Int) < s.length := by omega
    have hix := index_str hx
    rw [List.drop_eq_getElem_cons hx, spF] at hg
    have hs1 : runP Tryz.prog (Instr.sliceAt 9 (sL s) (some (.int .i64 (i : Int))) (some (.int .i64 ((i : Int) + 1))) none) = some (sL [s[i]]) := by
      have := slice_lh (s := s) (a := i) (b := i + 1) (by omega) (by omega)
      rw [List.drop_eq_getElem_cons hx, show i + 1 - i = 1 by omega] at this
      exact this
    have hwl : w.length + 1 ≤ 9223372036854775807 := by omega
    by_cases hc : s[i] = c
    · have hcI : ((s[i].toNat : Nat) : Int) = ((c.toNat : Nat) : Int) := by rw [hc]
      rw [if_pos hc] at hg
      cases D with
      | nil =>
        refine E.seq ?_
        refine E.seq ?_
        refine E.reg hr (by simp [S87, hxI]; rfl) ?_
        refine E.cond (t := true) (by rfl) (fun _ => ?_) (fun h => by cases h)
        refine E.skip ?_
        refine E.seq ?_
        refine E.block ?_
        refine E.seq ?_
        refine E.seq ?_
        refine E.reg hr (by simp [hix, hcI]; rfl) ?_
        refine E.cond (t := true) (by rfl) (fun _ => ?_) (fun h => by cases h)
        refine E.seq ?_
        refine E.reg hr (by simp; rfl) ?_
        refine E.exit ?_
        refine E.reg hr (by simp [hw]; rfl) ?_
        exact ⟨(i + 1, [w], []), Leads.ren [11] rfl rfl rfl ⟨rfl, rfl⟩ (by simp [S87]) (by simp [S87, sls_one]), ⟨by dsimp only; omega, by simpa using hg, by simp at hlen ⊢; try omega⟩, by dsimp only; omega⟩
      | cons d D =>
        have hlD : D.length + 1 + w.length ≤ i := by simpa using hlen
        have e1 : (sls (d :: D) ++ [sL w]).length = D.length + 1 + 1 := by simp
        have e2 : List.take (D.length + 1 + 1) (sls (d :: D) ++ [sL w]) = sls (d :: D) ++ [sL w] := List.take_of_length_le (by simp)
        have hno : ¬ D.length + 1 + 1 + 1 ≤ D.length + 1 + 1 := by omega
        have hsm : (D.length + 1 + 1 + 1) * 16 ≤ 1099511627776 ∧ D.length + 1 + 1 + 1 ≤ 1099511627776 := by omega
        refine E.seq ?_
        refine E.seq ?_
        refine E.reg hr (by simp [S87, hxI]; rfl) ?_
        refine E.cond (t := true) (by rfl) (fun _ => ?_) (fun h => by cases h)
        refine E.skip ?_
        refine E.seq ?_
        refine E.block ?_
        refine E.seq ?_
        refine E.seq ?_
        refine E.reg hr (by simp [hix, hcI]; rfl) ?_
        refine E.cond (t := true) (by rfl) (fun _ => ?_) (fun h => by cases h)
        refine E.seq ?_
        refine E.reg hr (by simp [e1, e2, hno, hsm]; rfl) ?_
        refine E.exit ?_
        refine E.reg hr (by simp [hw]; rfl) ?_
        exact ⟨(i + 1, d :: D ++ [w], []), Leads.ren [11] rfl rfl rfl ⟨rfl, rfl⟩ (by simp [S87]) (by simp [S87, sls_snoc]), ⟨by dsimp only; omega, by simpa using hg, by simp at hlen ⊢; try omega⟩, by dsimp only; omega⟩
    · have hcI : ¬ ((s[i].toNat : Nat) : Int) = ((c.toNat : Nat) : Int) := fun e => hc (UInt8.toNat_inj.1 (by omega))
      rw [if_neg hc] at hg
      cases D with
      | nil =>
        refine E.seq ?_
        refine E.seq ?_
        refine E.reg hr (by simp [S87, hxI]; rfl) ?_
        refine E.cond (t := true) (by rfl) (fun _ => ?_) (fun h => by cases h)
        refine E.skip ?_
        refine E.seq ?_
        refine E.block ?_
        refine E.seq ?_
        refine E.seq ?_
        refine E.reg hr (by simp [hix, hcI]; rfl) ?_
        refine E.cond (t := false) (by rfl) (fun h => by cases h) (fun _ => ?_)
        refine E.skip ?_
        refine E.drawC mixed hr [17] [17] [9, 14, 17] (by kernel_rfl) (by simp [opSlice, evI, hw, hs1, bin_adds, hwl]; rfl) ?_
        refine E.reg hr (by simp [hw]; rfl) ?_
        exact ⟨(i + 1, [], w ++ [s[i]]), Leads.ren [9] rfl rfl rfl ⟨rfl, rfl⟩ (by simp [S87]) (by simp [S87]), ⟨by dsimp only; omega, by simpa using hg, by simp at hlen ⊢; try omega⟩, by dsimp only; omega⟩
      | cons d D =>
        have hlD : D.length + 1 + w.length ≤ i := by simpa using hlen
        have e1 : (sls (d :: D) ++ [sL w]).length = D.length + 1 + 1 := by simp
        have hws : IntKind.i64.wrap ((D.length : Int) + 1) = (D.length : Int) + 1 := W_in (by omega) (by omega)
        have eg : (sls (d :: D) ++ [sL w])[D.length + 1]? = some (sL w) := by rw [List.getElem?_append_right (by simp)]; simp
        have et : List.take (D.length + 1) (sls (d :: D) ++ [sL w]) = sls (d :: D) := by rw [List.take_append_of_le_length (by simp), List.take_of_length_le (by simp)]
        have ed : List.drop (D.length + 1 + 1) (sls (d :: D) ++ [sL w]) = [] := List.drop_of_length_le (by simp)
        refine E.seq ?_
        refine E.seq ?_
        refine E.reg hr (by simp [S87, hxI]; rfl) ?_
        refine E.cond (t := true) (by rfl) (fun _ => ?_) (fun h => by cases h)
        refine E.skip ?_
        refine E.seq ?_
        refine E.block ?_
        refine E.seq ?_
        refine E.seq ?_
        refine E.reg hr (by simp [hix, hcI]; rfl) ?_
        refine E.cond (t := false) (by rfl) (fun h => by cases h) (fun _ => ?_)
        refine E.skip ?_
        refine E.drawC mixed hr [17] [17] [9, 14, 17] (by kernel_rfl) (by simp [opSlice, evI, hw, hs1, bin_adds, hwl, e1, hws, et, ed]; rfl) ?_
        refine E.reg hr (by simp [hw]; rfl) ?_
        exact ⟨(i + 1, d :: D, w ++ [s[i]]), Leads.ren [9] rfl rfl rfl ⟨rfl, rfl⟩ (by simp [S87]) (by simp [S87]), ⟨by dsimp only; omega, by simpa using hg, by simp at hlen ⊢; try omega⟩, by dsimp only; omega⟩
  · have hxI : ¬ (i : Int) < s.length := by omega
    rw [List.drop_eq_nil_of_le (by omega), spF, Prod.mk.injEq] at hg
    cases D with
    | nil =>
      refine E.seq ?_
      refine E.seq ?_
      refine E.reg hr (by simp [S87, hxI]; rfl) ?_
      refine E.cond (t := false) (by rfl) (fun h => by cases h) (fun _ => ?_)
      refine E.exit ?_
      refine E.seq ?_
      refine E.reg hr (by simp; rfl) ?_
      refine E.ret ?_
      refine outK.ret rfl rfl ?_
      rw [← hg.1, ← hg.2]
      simp [q87]
    | cons d D =>
      refine E.seq ?_
      refine E.seq ?_
      refine E.reg hr (by simp [S87, hxI]; rfl) ?_
      refine E.cond (t := false) (by rfl) (fun h => by cases h) (fun _ => ?_)
      refine E.exit ?_
      refine E.seq ?_
      refine E.reg hr (by simp; rfl) ?_
      refine E.ret ?_
      refine outK.ret rfl rfl ?_
      rw [← hg.1, ← hg.2]
      simp [q87]
end Go.Proofs.YtkongcnmkiihjaaGreatDoor

namespace Go.Proofs.YtkongcnmkiihjaaGreatDoor
open Go Go.Ab Go.Proofs
noncomputable def gSp (c : UInt8) (args : List Value) (H : Heap) (n : Nat) : R := match args with
  | [.string s, .int .u8 x] => if x = ((c.toNat : Nat) : Int) ∧ s.size < 2147483648 then (match spD c s.data.toList with
    | [] => some (.slice (some ⟨n, 0, none⟩) 1 1, (n, .cells [sL (spW c s.data.toList)] 9) :: H, n + 1)
    | d :: D => some (.slice (some ⟨n, 0, some 0⟩) (D.length + 1 + 1) 0, (n, .ext (sls (d :: D) ++ [sL (spW c s.data.toList)]) 9 1) :: H, n + 1)) else none
  | _ => none
theorem okSp (c : UInt8) : EntOk Tryz.prog (87, gSp c) := by
  intro args H n v H' n' hh
  simp only [gSp] at hh
  split at hh
  · rename_i s x
    split at hh
    · rename_i hc
      obtain ⟨rfl, hl⟩ := hc
      have hl' : s.data.toList.length < 2147483648 := by rw [← Lib.size_eq]; exact hl
      obtain ⟨u, H1, n1, H2, hAC, hq, hh2⟩ := w87 s.data.toList c hl'
      rw [show sL s.data.toList = .string s from congrArg Value.string (bA_data s)] at hAC
      unfold q87 at hq
      split at hh
      · rename_i hD
        rw [hD] at hq
        obtain ⟨m, hv, hm, hle⟩ := hq
        injection hh with hh; injection hh with e1 e2; injection e2 with e2 e3; subst e1 e2 e3
        subst hv
        have := hh2 rfl
        subst this
        exact AC.liftF (names_fl 1 1) (.inl ⟨_, _, rfl, rfl⟩) (Part.plain (by simp) [] (by simp [Seen]) gsz ⟨m, _, _, hle, hm, hAC⟩)
      · rename_i d D hD
        rw [hD] at hq
        obtain ⟨m, hv, hm, hle⟩ := hq
        injection hh with hh; injection hh with e1 e2; injection e2 with e2 e3; subst e1 e2 e3
        subst hv
        have := hh2 rfl
        subst this
        exact AC.liftF (names_sx _ _) (.inr ⟨_, _, _, rfl, by simp⟩) (Part.plain (by simp) [] (by simp [Seen]) gsz ⟨m, _, _, hle, hm, hAC⟩)
    · cases hh
  · cases hh
theorem gSp_nil {c : UInt8} {s : List UInt8} {x : Int} {H : Heap} {n : Nat} (hx : x = ((c.toNat : Nat) : Int)) (hl : s.length < 2147483648) (h : spD c s = []) : gSp c [sL s, .int .u8 x] H n = some (.slice (some ⟨n, 0, none⟩) 1 1, (n, .cells [sL (spW c s)] 9) :: H, n + 1) := by
  simp [gSp, hx, h, hl, ByteArray.size]
theorem gSp_cons {c : UInt8} {s : List UInt8} {x : Int} {H : Heap} {n : Nat} {d : List UInt8} {D : List (List UInt8)} (hx : x = ((c.toNat : Nat) : Int)) (hl : s.length < 2147483648) (h : spD c s = d :: D) : gSp c [sL s, .int .u8 x] H n = some (.slice (some ⟨n, 0, some 0⟩) (D.length + 1 + 1) 0, (n, .ext (sls (d :: D) ++ [sL (spW c s)]) 9 1) :: H, n + 1) := by
  simp [gSp, hx, h, hl, ByteArray.size]
abbrev tupP (x : Pk × Bool) : Value := .tuple #[.agg ⟨x.1.cells⟩, .bool x.2]
@[simp] theorem inf100s : Tryz.prog.info? 100 = some Tryz.t100 := by kernel_rfl
attribute [simp] Tryz.t100
theorem build100s {fr : Fr} {H : Heap} {n : Nat} {x y z : Operand} {a b c : Int} (hx : evO Tryz.prog fr x = some (iv a)) (hy : evO Tryz.prog fr y = some (iv b)) (hz : evO Tryz.prog fr z = some (iv c)) : opBuild Tryz.prog 100 #[(0, x), (1, y), (2, z)] fr H n = some (.agg #[iv a, iv b, iv c], H, n) := by
  unfold opBuild
  simp only [evPs, hx, hy, hz]
  kernel_rfl
theorem build100z {fr : Fr} {H : Heap} {n : Nat} : opBuild Tryz.prog 100 #[] fr H n = some (.agg #[iv 0, iv 0, iv 0], H, n) := by kernel_rfl
theorem linV_bad {s : List UInt8} (h : ¬ ((spl 32 s).length = 4 ∧ headW s = pickB)) : linV s = (⟨0, 0, 0⟩, false) := by
  unfold linV; rw [if_neg h]
set_option maxHeartbeats 4000000 in
set_option maxRecDepth 100000 in
theorem w159 (s : List UInt8) (hl : s.length < 2147483648) : AC Tryz.prog 159 [sL s] [] 9 (tupP (linV s)) [] 9 := by
  have hr := recT_ok (P := Tryz.prog) (l := [(87, gSp 32), (188, g188)]) (by simp only [List.forall_mem_cons]; exact ⟨okSp 32, ok188, by simp⟩)
  refine AC.pure Tryz.func159 rfl (by kernel_rfl) rfl [] rfl ?_
  refine E.seq ?_
  refine E.reg hr (by simp; rfl) ?_
  refine E.seq ?_
  have hsp : spl 32 s = spD 32 s ++ [spW 32 s] := rfl
  have hx : (32 : Int) = (((32 : UInt8).toNat : Nat) : Int) := rfl
  obtain ⟨w, hw⟩ : ∃ w, w = spW 32 s := ⟨_, rfl⟩
  cases hD : spD 32 s with
  | nil =>
    rw [hD] at hsp
    refine E.reg hr (by simp [gSp_nil hx hl hD, ← hw]; rfl) ?_
    refine E.seq ?_
    refine E.seq ?_
    refine E.reg hr (by simp; rfl) ?_
    refine E.cond (t := true) (by rfl) (fun _ => ?_) (fun h => by cases h)
    refine E.seq ?_
    refine E.reg hr (by simp [build100z]; rfl) ?_
    refine E.ret ?_
    exact pureK.ret rfl rfl (by simp [linV_bad (s := s) (by rw [hsp]; simp)]; kernel_rfl) (by repeat first | exact sub_refl _ | refine sub_cons rfl ?_)
  | cons d D =>
    rw [hD] at hsp
    have hh : headW s = d := by rw [headW, hsp]; rfl
    refine E.reg hr (by simp [gSp_cons hx hl hD, ← hw]; rfl) ?_
    refine E.seq ?_
    refine E.seq ?_
    by_cases h4 : D.length = 2
    · have h4I : (D.length : Int) = 2 := by omega
      by_cases hp : d = pickB
      · obtain ⟨a, b, rfl⟩ : ∃ a b, D = [a, b] := by
          match D, h4 with
          | [a, b], _ => exact ⟨a, b, rfl⟩
        have hv : linV s = (⟨(rI a).1, (rI b).1, (rI w).1⟩, (rI a).2 && (rI b).2 && (rI w).2) := by
          unfold linV
          rw [hh, if_pos ⟨by rw [hsp]; rfl, hp⟩, hsp, ← hw]
          rfl
        subst hp
        refine E.reg hr (by simp [sls]; rfl) ?_
        refine E.cond (t := false) (by rfl) (fun h => by cases h) (fun _ => ?_)
        refine E.skip ?_
        refine E.seq ?_
        refine E.reg hr (by simp; rfl) ?_
        refine E.seq ?_
        refine E.reg hr (by simp; rfl) ?_
        refine E.seq ?_
        refine E.reg hr (by simp; rfl) ?_
        refine E.seq ?_
        obtain ⟨xa, ha⟩ : ∃ x, x = rI a := ⟨_, rfl⟩
        obtain ⟨xb, hb⟩ : ∃ x, x = rI b := ⟨_, rfl⟩
        rw [← ha, ← hb] at hv
        obtain ⟨na, ba⟩ := xa
        obtain ⟨nb, bb⟩ := xb
        cases ba <;> cases bb <;>
          (refine E.reg hr (by simp [← ha, ← hb, build100s]; rfl) ?_
           refine E.ret ?_
           exact pureK.ret rfl rfl (by simp [hv]; kernel_rfl) (by repeat first | exact sub_refl _ | refine sub_cons rfl ?_))
      · refine E.reg hr (by simp [sls, h4I, hp]; rfl) ?_
        refine E.cond (t := true) (by rfl) (fun _ => ?_) (fun h => by cases h)
        refine E.seq ?_
        refine E.reg hr (by simp [build100z]; rfl) ?_
        refine E.ret ?_
        exact pureK.ret rfl rfl (by simp [linV_bad (s := s) (by rw [hsp, hh]; simp [hp])]; kernel_rfl) (by repeat first | exact sub_refl _ | refine sub_cons rfl ?_)
    · have h4I : ¬ (D.length : Int) + 1 + 1 = 4 := by omega
      refine E.reg hr (by simp [h4I]; rfl) ?_
      refine E.cond (t := true) (by rfl) (fun _ => ?_) (fun h => by cases h)
      refine E.seq ?_
      refine E.reg hr (by simp [build100z]; rfl) ?_
      refine E.ret ?_
      exact pureK.ret rfl rfl (by simp [linV_bad (s := s) (by rw [hsp, hh]; simp [h4])]; kernel_rfl) (by repeat first | exact sub_refl _ | refine sub_cons rfl ?_)
end Go.Proofs.YtkongcnmkiihjaaGreatDoor

namespace Go.Proofs.YtkongcnmkiihjaaGreatDoor
open Go Go.Ab Go.Proofs
def gSB (F : List UInt8 → Value) (args : List Value) (H : Heap) (n : Nat) : R := match args with
  | [.string s] => if s.size < 2147483648 then some (F s.data.toList, H, n) else none
  | _ => none
theorem gSB_eq {F : List UInt8 → Value} {s : List UInt8} {H : Heap} {n : Nat} (h : s.length < 2147483648) : gSB F [sL s] H n = some (F s, H, n) := by simp [gSB, ByteArray.size, h]
theorem okSB {f : FuncId} {F : List UInt8 → Value} (haf : ∀ s, af (F s) = true) (h : ∀ s : List UInt8, s.length < 2147483648 → AC Tryz.prog f [sL s] [] 9 (F s) [] 9) : EntOk Tryz.prog (f, gSB F) := by
  intro args H n v H' n' hh
  simp only [gSB] at hh
  split at hh
  · rename_i s
    split at hh
    · rename_i hl
      injection hh with hh; injection hh with e1 e2; injection e2 with e2 e3; subst e1 e2 e3
      have := h s.data.toList (by rw [← Lib.size_eq]; exact hl)
      rw [show sL s.data.toList = .string s from congrArg Value.string (bA_data s)] at this
      exact AC.liftP (haf _) (Part.plain (by simp) [] (by simp [Seen]) gsz ⟨_, _, this⟩)
    · cases hh
  · cases hh
abbrev g159 := gSB fun s => tupP (linV s)
theorem ok159 : EntOk Tryz.prog (159, g159) := okSB (fun _ => rfl) w159
theorem prT_snoc {l : List Pk} {i : Nat} (h : i < l.length) : prT (l.take (i + 1)) = prT (l.take i) ++ lineT l[i] := by
  rw [List.take_succ_eq_append_getElem h, prT, List.flatMap_append]
  simp [prT]
theorem prT_take_len {l : List Pk} (h : PksOk l) (i : Nat) : (prT (l.take i)).length ≤ 40 * i := by
  have := prT_len (l := l.take i) fun p hp => h p (List.mem_of_mem_take hp)
  rw [List.length_take] at this
  omega
set_option maxHeartbeats 4000000 in
set_option maxRecDepth 100000 in
theorem w85 (l : List Pk) (o c : Nat) (hok : PksOk l) (hl : l.length ≤ 64) : AC Tryz.prog 85 [.slice (some ⟨9, o, none⟩) l.length c] [(9, .inp o (pcs l))] 10 (sL (prT l)) [(9, .inp o (pcs l))] 10 := by
  have hr := recT_ok (P := Tryz.prog) (l := [(158, g158)]) (by simp only [List.forall_mem_cons]; exact ⟨ok158, by simp⟩)
  refine AC.pure Tryz.func85 rfl (by kernel_rfl) rfl [0, 3, 4] rfl ?_
  refine E.seq ?_
  refine E.reg hr (by simp; rfl) ?_
  refine E.seq ?_
  refine E.reg hr (by simp; rfl) ?_
  refine E.seq ?_
  refine E.seq ?_
  refine E.reg hr (by simp; rfl) ?_
  refine E.block ?_
  refine E.loop ?_
  refine EL.ind (fun i : Nat => { fr := [(0, .slice (some ⟨9, o, none⟩) l.length c), (3, sL (prT (l.take i))), (4, iv i)], sz := 38, H := [(9, .inp o (pcs l))], n := 10, marks := [], vs := [0, 3, 4] }) (fun i => l.length - i) (fun i => i ≤ l.length) 0 (.less rfl rfl rfl (by simp [prT]) (by simp)) (Nat.zero_le _) (fun _ => rfl) ?_
  intro i hi
  have hw : IntKind.i64.wrap ((i : Int) + 1) = (i : Int) + 1 := W_in (by omega) (by omega)
  refine E.seq ?_
  refine E.seq ?_
  refine E.reg hr (by simp; rfl) ?_
  refine E.cond (by rfl) (fun h => ?_) (fun h => ?_)
  · simp at h
    have hlI : (i : Int) < l.length := by omega
    have a0 : i * 3 < l.length * 3 := by omega
    have a1 : i * 3 + 1 < l.length * 3 := by omega
    have a2 : i * 3 + 2 < l.length * 3 := by omega
    have i1 : o ≤ o + i * 3 + 1 := by omega
    have i2 : o + i * 3 + 1 - o = i * 3 + 1 := by omega
    have i3 : o ≤ o + i * 3 + 2 := by omega
    have i4 : o + i * 3 + 2 - o = i * 3 + 2 := by omega
    have hp := hok.get h
    obtain ⟨p, hpe⟩ : ∃ p, p = l[i] := ⟨_, rfl⟩
    have y0 : (pcs l)[i * 3]? = some (iv l[i].t) := pcs_get h 0 (by omega)
    have y1 : (pcs l)[i * 3 + 1]? = some (iv l[i].q) := pcs_get h 1 (by omega)
    have y2 : (pcs l)[i * 3 + 2]? = some (iv l[i].e) := pcs_get h 2 (by omega)
    rw [← hpe] at hp y0 y1 y2
    obtain ⟨p1, p2, p3, p4, p5, p6⟩ := hp
    have b0 : 0 ≤ p.t ∧ p.t < 9223372036854775808 := by omega
    have b1 : 0 ≤ p.q ∧ p.q < 9223372036854775808 := by omega
    have b2 : 0 ≤ p.e ∧ p.e < 9223372036854775808 := by omega
    have d0 := dd_len (show p.t ≤ 1000000000 by omega)
    have d1 := dd_len p4
    have d2 := dd_len p6
    have hpr := prT_take_len hok i
    have hts : prT (l.take (i + 1)) = prT (l.take i) ++ lineT p := by rw [prT_snoc h, hpe]
    refine E.skip ?_
    refine E.seq ?_
    refine E.block ?_
    refine E.drawC mixed hr [23] [] [7, 15] (by kernel_rfl) (by simp (disch := first | assumption | omega | (simp only [List.length_append, List.length_cons, List.length_nil]; omega)) [hlI, i1, i2, i3, i4, y0, y1, y2, gTx, b0, b1, b2, bin_adds]; rfl) ?_
    refine E.reg hr (by simp [hw]; rfl) ?_
    exact ⟨i + 1, .less rfl rfl rfl (by simp [hts, lineT]) (by simp), by dsimp only; omega, by dsimp only; omega⟩
  · simp at h
    have hal : l.take i = l := List.take_of_length_le h
    refine E.exit ?_
    refine E.seq ?_
    refine E.reg hr (by simp; rfl) ?_
    refine E.ret ?_
    exact pureK.ret rfl rfl (by simp [hal]) (by repeat first | exact sub_refl _ | refine sub_cons rfl ?_)
end Go.Proofs.YtkongcnmkiihjaaGreatDoor

namespace Go.Proofs.YtkongcnmkiihjaaGreatDoor
open Go Go.Ab Go.Proofs
theorem goodN_bad {D : List (List UInt8)} {i : Nat} (hi : i < D.length) (h : (linV D[i]).2 = false) (hg : ∀ j (hj : j < D.length), j < i → (linV D[j]).2 = true) : goodN D = i := by
  unfold goodN
  rw [List.findIdx?_eq_some_iff_getElem.2 ⟨hi, by simp [h], fun j hj => by simp [hg j (by omega) hj]⟩]
theorem goodN_good {D : List (List UInt8)} (hg : ∀ j (hj : j < D.length), (linV D[j]).2 = true) : goodN D = D.length := goodN_all fun w hw => by
  obtain ⟨j, hj, rfl⟩ := List.getElem_of_mem hw
  exact hg j hj
theorem pksD_snoc {D : List (List UInt8)} {i : Nat} (h : i < D.length) : pksD (D.take (i + 1)) = pksD (D.take i) ++ [(linV D[i]).1] := by
  rw [List.take_succ_eq_append_getElem h, pksD, List.map_append]; rfl
theorem pksD_len (D : List (List UInt8)) (i : Nat) (h : i ≤ D.length) : (pksD (D.take i)).length = i := by simp [pksD]; omega
def q86 (s : List UInt8) (v : Value) (H : Heap) : Prop := match (parV s).out with
  | [] => v = .tuple #[.slice none 0 0, iv (parV s).at', iv (parV s).e]
  | p :: l => ∃ m, v = .tuple #[.slice (some ⟨m, 0, some 0⟩) (l.length + 1) 0, iv 0, iv 0] ∧ hget H m = some (.ext (pcs (p :: l)) 100 3) ∧ 9 ≤ m
theorem q86_nil {s : List UInt8} {a e : Int} {H : Heap} (h : parV s = ⟨[], a, e⟩) : q86 s (.tuple #[.slice none 0 0, iv a, iv e]) H := by
  unfold q86
  rw [h]
theorem parV_long {s : List UInt8} (h : 4096 < s.length) : parV s = ⟨[], 0, 26⟩ := by unfold parV; rw [if_pos h]
theorem parV_bad {s : List UInt8} {i : Nat} (h : ¬ 4096 < s.length) (hi : i < (spD 10 s).length) (hg : goodN (spD 10 s) = i) : parV s = ⟨[], i, 25⟩ := by unfold parV; rw [if_neg h, if_pos (by omega), hg]
theorem parV_left {s : List UInt8} (h : ¬ 4096 < s.length) (hg : goodN (spD 10 s) = (spD 10 s).length) (hw : spW 10 s ≠ []) : parV s = ⟨[], (spD 10 s).length, 25⟩ := by unfold parV; rw [if_neg h, if_neg (by omega), if_pos hw]
theorem parV_err {s : List UInt8} (h : ¬ 4096 < s.length) (hg : goodN (spD 10 s) = (spD 10 s).length) (hw : spW 10 s = []) (he : pksE (pksD (spD 10 s)) ≠ 0) : parV s = ⟨[], (spD 10 s).length, pksE (pksD (spD 10 s))⟩ := by unfold parV; rw [if_neg h, if_neg (by omega), if_neg (by simp [hw]), if_pos he]
theorem parV_ok {s : List UInt8} (h : ¬ 4096 < s.length) (hg : goodN (spD 10 s) = (spD 10 s).length) (hw : spW 10 s = []) (he : pksE (pksD (spD 10 s)) = 0) : parV s = ⟨pksD (spD 10 s), 0, 0⟩ := by unfold parV; rw [if_neg h, if_neg (by omega), if_neg (by simp [hw]), if_neg (by simp [he])]
abbrev wdV (k : Nat) : Value := .slice (some ⟨9, 0, some 0⟩) (k + 1) 0
abbrev wdB (D : List (List UInt8)) (w : List UInt8) : Blk := .ext (sls D ++ [sL w]) 9 1
noncomputable def S86 (k : Nat) (D : List (List UInt8)) (w : List UInt8) : Nat → St
  | 0 => { fr := [(5, .slice none 0 0), (6, wdV k), (7, iv 0)], sz := 57, H := [(9, wdB D w)], n := 10, marks := [], vs := [5, 6, 7] }
  | i + 1 => { fr := [(5, .slice (some ⟨10, 0, some 0⟩) (pksD (D.take (i + 1))).length 0), (6, wdV k), (7, iv (i + 1 : Nat))], sz := 57, H := [(10, .ext (pcs (pksD (D.take (i + 1)))) 100 3), (9, wdB D w)], n := 11, marks := [], vs := [5, 6, 7] }
theorem pksR_ext {H : Heap} {m : Nat} {l : List Pk} {t : TypeId} (h : hget H m = some (.ext (pcs l) t 3)) (hl : l.length < 9223372036854775808) : pksR H (.slice (some ⟨m, 0, some 0⟩) l.length 0) = some l := by
  have hc : cellsA H m 0 (l.length * 3) = some (pcs l) := by
    unfold cellsA
    rw [h]
    simp [List.take_of_length_le]
  show pksAt H ⟨m, 0, some 0⟩ l.length = some l
  unfold pksAt
  simp only [hc]
  simp [hl, pksOf_pcs]
set_option maxHeartbeats 4000000 in
set_option maxRecDepth 100000 in
theorem w86 (s : List UInt8) (hl : s.length < 2147483648) : ∃ u H1 n1 H2, AC Tryz.prog 86 [sL s] [] 9 u H1 n1 ∧ q86 s u H2 ∧ (af u = false → H1 = H2) := by
  have hr := recT_ok (P := Tryz.prog) (l := [(87, gSp 10), (159, g159), (50, g50)]) (by simp only [List.forall_mem_cons]; exact ⟨okSp 10, ok159, ok50, by simp⟩)
  have hx : (10 : Int) = (((10 : UInt8).toNat : Nat) : Int) := rfl
  refine AC.out Tryz.func86 rfl (by kernel_rfl) rfl [5, 6, 7] ?_
  refine E.seq ?_
  refine E.reg hr (by simp; rfl) ?_
  refine E.seq ?_
  refine E.seq ?_
  refine E.reg hr (by simp; rfl) ?_
  refine E.cond (by rfl) (fun h => ?_) (fun h => ?_)
  · simp at h
    refine E.seq ?_
    refine E.reg hr (by simp; rfl) ?_
    refine E.ret ?_
    refine outK.ret rfl rfl ?_
    exact q86_nil (parV_long (by omega))
  · simp at h
    have hn : ¬ 4096 < s.length := by omega
    refine E.skip ?_
    refine E.seq ?_
    refine E.reg hr (by simp; rfl) ?_
    refine E.seq ?_
    obtain ⟨w, hw⟩ : ∃ w, w = spW 10 s := ⟨_, rfl⟩
    cases hD : spD 10 s with
    | nil =>
      have hg : goodN (spD 10 s) = (spD 10 s).length := by rw [hD]; rfl
      refine E.reg hr (by simp [gSp_nil hx hl hD, ← hw]; rfl) ?_
      refine E.seq ?_
      refine E.seq ?_
      refine E.reg hr (by simp; rfl) ?_
      refine E.block ?_
      refine E.loop ?_
      refine EL.step ?_
      refine E.seq ?_
      refine E.seq ?_
      refine E.reg hr (by simp; rfl) ?_
      refine E.cond (t := true) (by rfl) (fun _ => ?_) (fun h => by cases h)
      refine E.skip ?_
      refine E.seq ?_
      refine E.block ?_
      refine E.seq ?_
      refine E.seq ?_
      refine E.reg hr (by simp; rfl) ?_
      refine E.cond (t := true) (by rfl) (fun _ => ?_) (fun h => by cases h)
      refine E.seq ?_
      refine E.seq ?_
      by_cases hwe : w = []
      · refine E.reg hr (by simp [hwe]; rfl) ?_
        refine E.cond (t := false) (by rfl) (fun h => by cases h) (fun _ => ?_)
        refine E.skip ?_
        refine E.exit ?_
        refine E.reg hr (by simp; rfl) ?_
        refine EL.step ?_
        refine E.seq ?_
        refine E.seq ?_
        refine E.reg hr (by simp; rfl) ?_
        refine E.cond (t := false) (by rfl) (fun h => by cases h) (fun _ => ?_)
        refine E.exit ?_
        refine E.seq ?_
        refine E.seq ?_
        refine E.reg hr (by simp [g50, pksR, pksE_nil]; rfl) ?_
        refine E.seq ?_
        refine E.reg hr (by simp; rfl) ?_
        refine E.cond (t := false) (by rfl) (fun h => by cases h) (fun _ => ?_)
        refine E.skip ?_
        refine E.seq ?_
        refine E.reg hr (by simp; rfl) ?_
        refine E.ret ?_
        refine outK.ret rfl rfl ?_
        refine q86_nil ?_
        rw [parV_ok hn hg (by rw [← hw]; exact hwe) (by rw [hD]; rfl), hD]
        rfl
      · refine E.reg hr (by simp [hwe]; rfl) ?_
        refine E.cond (t := true) (by rfl) (fun _ => ?_) (fun h => by cases h)
        refine E.seq ?_
        refine E.reg hr (by simp; rfl) ?_
        refine E.ret ?_
        refine outK.ret rfl rfl ?_
        refine q86_nil ?_
        rw [parV_left hn hg (by rw [← hw]; exact hwe), hD]
        rfl
    | cons d D =>
      have hcall0 : ∀ H n, gSp 10 [sL s, .int .u8 10] H n = some (.slice (some ⟨n, 0, some 0⟩) (D.length + 1 + 1) 0, (n, .ext (sls (d :: D) ++ [sL w]) 9 1) :: H, n + 1) := fun H n => by rw [gSp_cons hx hl hD, ← hw]
      obtain ⟨L, hL⟩ : ∃ L, L = d :: D := ⟨_, rfl⟩
      obtain ⟨M, hM⟩ : ∃ M, M = D.length + 1 := ⟨_, rfl⟩
      have hLM : L.length = M := by rw [hL, hM]; rfl
      have hDL : spD 10 s = L := by rw [hL]; exact hD
      rw [← hL, ← hM] at hcall0
      have hM1 : 1 ≤ M := by omega
      have hLne : L ≠ [] := by rw [hL]; simp
      clear hD hM hL
      clear d D
      have hDl : M ≤ s.length := by
        have := spF_len 10 s [] []
        rw [show (spF 10 s [] []).1 = spD 10 s from rfl, hDL] at this
        simp at this
        omega
      have hlen : ∀ j (hj : j < L.length), (L[j]).length < 2147483648 := fun j hj => by
        have := spD_len 10 s (L[j]) (by rw [hDL]; exact List.getElem_mem hj)
        omega
      have hws : IntKind.i64.wrap (M : Int) = (M : Int) := W_in (by omega) (by omega)
      have h0M : (0 : Int) < (M : Int) + 1 := by omega
      refine E.reg hr (by simp [hcall0]; rfl) ?_
      refine E.seq ?_
      refine E.seq ?_
      refine E.reg hr (by simp; rfl) ?_
      refine E.block ?_
      refine E.loop ?_
      refine EL.ind (S86 M L w) (fun i => M + 1 - i) (fun i => i ≤ M + 1 ∧ (∀ j (hj : j < L.length), j < i → (linV L[j]).2 = true) ∧ (i = M + 1 → w = [])) 0 (.less rfl rfl rfl (by simp [S86]) (by simp [S86])) ⟨Nat.zero_le _, fun j _ hj => absurd hj (by omega), fun h => by omega⟩ (fun i => by cases i <;> rfl) ?_
      rintro i ⟨hi, hg, hgw⟩
      by_cases hiN : i < M
      · have hiN' : i < L.length := by omega
        have eg : (sls L ++ [sL w])[i]? = some (sL L[i]) := by
          rw [List.getElem?_append_left (by rw [sls_length]; exact hiN'), sls_get hiN']
        obtain ⟨y, hy⟩ : ∃ y, y = L[i] := ⟨_, rfl⟩
        obtain ⟨x, hxx⟩ : ∃ x, x = linV y := ⟨_, rfl⟩
        have hyl : y.length < 2147483648 := by rw [hy]; exact hlen i hiN'
        have hyx : linV L[i] = x := by rw [← hy, ← hxx]
        rw [← hy] at eg
        have hpk := pksD_snoc hiN'
        rw [hyx] at hpk
        obtain ⟨p, b⟩ := x
        cases b with
        | false =>
          have hcall : ∀ H n, g159 [sL y] H n = some (tupP (p, false), H, n) := fun H n => by
            rw [show g159 [sL y] H n = _ from gSB_eq hyl, ← hxx]
          have hgood := goodN_bad hiN' (by rw [hyx]) hg
          have hpv : parV s = ⟨[], i, 25⟩ := parV_bad hn (by rw [hDL]; exact hiN') (by rw [hDL]; exact hgood)
          rcases i with _ | i
          · have h00 : ¬ (0 : Int) = (M : Int) := by omega
            have h00n : ¬ M = 0 := by omega
            have h0n : ¬ 0 = M := by omega
            have e00 : ∀ h, (sls L ++ [sL w])[0]'h = sL y := fun h => by
              have := eg
              rw [List.getElem?_eq_getElem h] at this
              injection this
            refine E.seq ?_
            refine E.seq ?_
            refine E.reg hr (by simp [S86, h0M]; rfl) ?_
            refine E.cond (t := true) (by rfl) (fun _ => ?_) (fun h => by cases h)
            refine E.skip ?_
            refine E.seq ?_
            refine E.block ?_
            refine E.seq ?_
            refine E.seq ?_
            refine E.reg hr (by simp [hws, h00]; rfl) ?_
            refine E.cond (t := false) (by rfl) (fun h => by cases h) (fun _ => ?_)
            refine E.skip ?_
            refine E.seq ?_
            refine E.reg hr (by simp [h0M, e00, hcall]; rfl) ?_
            refine E.seq ?_
            refine E.seq ?_
            refine E.reg hr (by simp; rfl) ?_
            refine E.cond (t := true) (by rfl) (fun _ => ?_) (fun h => by cases h)
            refine E.seq ?_
            refine E.reg hr (by simp; rfl) ?_
            refine E.ret ?_
            refine outK.ret rfl rfl ?_
            exact q86_nil hpv
          · have hiM : i < M := by omega
            have hiMI : (i : Int) < (M : Int) := by omega
            have hiM1 : (i : Int) + 1 < (M : Int) + 1 := by omega
            have hi0 : ¬ (i : Int) + 1 = (M : Int) := by omega
            have hi0n : ¬ i + 1 = M := by omega
            have hwi : IntKind.i64.wrap ((i : Int) + 1 + 1) = (i : Int) + 1 + 1 := W_in (by omega) (by omega)
            have hpl : (pksD (L.take (i + 1))).length = i + 1 := pksD_len _ _ (by omega)
            refine E.seq ?_
            refine E.seq ?_
            refine E.reg hr (by simp [S86, hiM1, hpl]; rfl) ?_
            refine E.cond (t := true) (by rfl) (fun _ => ?_) (fun h => by cases h)
            refine E.skip ?_
            refine E.seq ?_
            refine E.block ?_
            refine E.seq ?_
            refine E.seq ?_
            refine E.reg hr (by simp [hws, hi0]; rfl) ?_
            refine E.cond (t := false) (by rfl) (fun h => by cases h) (fun _ => ?_)
            refine E.skip ?_
            refine E.seq ?_
            refine E.reg hr (by simp [hiM1, eg, hcall]; rfl) ?_
            refine E.seq ?_
            refine E.seq ?_
            refine E.reg hr (by simp; rfl) ?_
            refine E.cond (t := true) (by rfl) (fun _ => ?_) (fun h => by cases h)
            refine E.seq ?_
            refine E.reg hr (by simp; rfl) ?_
            refine E.ret ?_
            refine outK.ret rfl rfl ?_
            exact q86_nil hpv
        | true =>
          have hcall : ∀ H n, g159 [sL y] H n = some (tupP (p, true), H, n) := fun H n => by
            rw [show g159 [sL y] H n = _ from gSB_eq hyl, ← hxx]
          have hnext : i + 1 ≤ M + 1 ∧ (∀ j (hj : j < L.length), j < i + 1 → (linV L[j]).2 = true) ∧ (i + 1 = M + 1 → w = []) := by
            refine ⟨by omega, fun j hj hji => ?_, fun h => by omega⟩
            by_cases hji' : j = i
            · subst hji'
              rw [hyx]
            · exact hg j hj (by omega)
          have hpk' : pcs (pksD (L.take (i + 1))) = pcs (pksD (L.take i)) ++ p.cells := by rw [hpk]; simp [pcs]
          have hpl2 : (pksD (L.take (i + 1))).length = i + 1 := pksD_len _ _ (by omega)
          rcases i with _ | i
          · rw [show pcs (pksD (L.take 0)) = [] from rfl, List.nil_append] at hpk'
            have h00 : ¬ (0 : Int) = (M : Int) := by omega
            have h00n : ¬ M = 0 := by omega
            have h0n : ¬ 0 = M := by omega
            have e00 : ∀ h, (sls L ++ [sL w])[0]'h = sL y := fun h => by
              have := eg
              rw [List.getElem?_eq_getElem h] at this
              injection this
            refine E.seq ?_
            refine E.seq ?_
            refine E.reg hr (by simp [S86, h0M]; rfl) ?_
            refine E.cond (t := true) (by rfl) (fun _ => ?_) (fun h => by cases h)
            refine E.skip ?_
            refine E.seq ?_
            refine E.block ?_
            refine E.seq ?_
            refine E.seq ?_
            refine E.reg hr (by simp [hws, h00]; rfl) ?_
            refine E.cond (t := false) (by rfl) (fun h => by cases h) (fun _ => ?_)
            refine E.skip ?_
            refine E.seq ?_
            refine E.reg hr (by simp [h0M, e00, hcall]; rfl) ?_
            refine E.seq ?_
            refine E.seq ?_
            refine E.reg hr (by simp; rfl) ?_
            refine E.cond (t := false) (by rfl) (fun h => by cases h) (fun _ => ?_)
            refine E.skip ?_
            refine E.reg hr (by simp; rfl) ?_
            refine E.reg hr (by simp; rfl) ?_
            exact ⟨1, Leads.ren [9, 12] rfl rfl rfl ⟨rfl, rfl⟩ (by simp [S86, hpl2]) (by simp [S86, hpk']), hnext, by dsimp only; omega⟩
          · have hiM : i < M := by omega
            have hiMI : (i : Int) < (M : Int) := by omega
            have hiM1 : (i : Int) + 1 < (M : Int) + 1 := by omega
            have hi0 : ¬ (i : Int) + 1 = (M : Int) := by omega
            have hi0n : ¬ i + 1 = M := by omega
            have hwi : IntKind.i64.wrap ((i : Int) + 1 + 1) = (i : Int) + 1 + 1 := W_in (by omega) (by omega)
            have hpl : (pksD (L.take (i + 1))).length = i + 1 := pksD_len _ _ (by omega)
            refine E.seq ?_
            refine E.seq ?_
            refine E.reg hr (by simp [S86, hiM1, hpl]; rfl) ?_
            refine E.cond (t := true) (by rfl) (fun _ => ?_) (fun h => by cases h)
            refine E.skip ?_
            refine E.seq ?_
            refine E.block ?_
            refine E.seq ?_
            refine E.seq ?_
            refine E.reg hr (by simp [hws, hi0]; rfl) ?_
            refine E.cond (t := false) (by rfl) (fun h => by cases h) (fun _ => ?_)
            refine E.skip ?_
            refine E.seq ?_
            refine E.reg hr (by simp [hiM1, eg, hcall]; rfl) ?_
            refine E.seq ?_
            refine E.seq ?_
            refine E.reg hr (by simp; rfl) ?_
            have ht : List.take ((i + 1) * 3) (pcs (pksD (L.take (i + 1)))) = pcs (pksD (L.take (i + 1))) := List.take_of_length_le (by rw [pcs_length]; omega)
            have hno : ¬ (i + 1 + 1) * 3 ≤ (i + 1) * 3 := by omega
            have hsm : (i + 1 + 1) * 24 ≤ 1099511627776 ∧ (i + 1 + 1) * 3 ≤ 1099511627776 ∧ i + 1 + 1 ≤ 1099511627776 := by omega
            refine E.cond (t := false) (by rfl) (fun h => by cases h) (fun _ => ?_)
            refine E.skip ?_
            refine E.reg hr (by simp [hsm, ht, hpl, hno]; rfl) ?_
            refine E.reg hr (by simp [hwi]; rfl) ?_
            exact ⟨i + 1 + 1, Leads.ren [9, 13] rfl rfl rfl ⟨rfl, rfl⟩ (by simp [S86, hpl2]) (by simp [S86, hpk']), hnext, by dsimp only; omega⟩
      · by_cases hiE : i = M
        · subst hiE
          have hg' : goodN (spD 10 s) = (spD 10 s).length := by rw [hDL]; exact goodN_good fun j hj => hg j hj (by omega)
          have eg : (sls L ++ [sL w])[i]? = some (sL w) := by rw [List.getElem?_append_right (by simp; omega)]; simp [hLM]
          have htk : L.take (i + 1) = L.take i := by rw [List.take_of_length_le (by omega), List.take_of_length_le (by omega)]
          have hpl : (pksD (L.take i)).length = i := pksD_len _ _ (by omega)
          have hwi : IntKind.i64.wrap ((i : Int) + 1) = (i : Int) + 1 := W_in (by omega) (by omega)
          obtain ⟨m, rfl⟩ : ∃ m, i = m + 1 := ⟨i - 1, by omega⟩
          have hwm : IntKind.i64.wrap ((m : Int) + 1) = (m : Int) + 1 := W_in (by omega) (by omega)
          have hwm2 : IntKind.i64.wrap ((m : Int) + 1 + 1) = (m : Int) + 1 + 1 := W_in (by omega) (by omega)
          refine E.seq ?_
          refine E.seq ?_
          refine E.reg hr (by simp [S86]; rfl) ?_
          refine E.cond (t := true) (by rfl) (fun _ => ?_) (fun h => by cases h)
          refine E.skip ?_
          refine E.seq ?_
          refine E.block ?_
          refine E.seq ?_
          refine E.seq ?_
          refine E.reg hr (by simp [hwm]; rfl) ?_
          refine E.cond (t := true) (by rfl) (fun _ => ?_) (fun h => by cases h)
          refine E.seq ?_
          refine E.seq ?_
          by_cases hwe : w = []
          · have eg2 := eg
            rw [hwe] at eg2
            refine E.reg hr (by simp [eg2, hwe]; rfl) ?_
            refine E.cond (t := false) (by rfl) (fun h => by cases h) (fun _ => ?_)
            refine E.skip ?_
            refine E.exit ?_
            refine E.reg hr (by simp [hwm2]; rfl) ?_
            exact ⟨m + 1 + 1, .less rfl rfl rfl (by simp [S86, htk, hwe]) (by simp [S86, htk, hwe]), ⟨by omega, fun j hj _ => hg j hj (by omega), fun _ => hwe⟩, by dsimp only; omega⟩
          · refine E.reg hr (by simp [eg, hwe]; rfl) ?_
            refine E.cond (t := true) (by rfl) (fun _ => ?_) (fun h => by cases h)
            refine E.seq ?_
            refine E.reg hr (by simp; rfl) ?_
            refine E.ret ?_
            refine outK.ret rfl rfl ?_
            refine q86_nil ?_
            rw [parV_left hn hg' (by rw [← hw]; exact hwe), hDL, hLM]
            rfl
        · obtain rfl : i = M + 1 := by omega
          have hwe := hgw rfl
          have hg' : goodN (spD 10 s) = (spD 10 s).length := by rw [hDL]; exact goodN_good fun j hj => hg j hj (by omega)
          have htk : L.take (M + 1) = L := List.take_of_length_le (by omega)
          obtain ⟨Q, hQ⟩ : ∃ Q, Q = pksD L := ⟨_, rfl⟩
          have hpl : Q.length = M := by rw [hQ]; simp [pksD, hLM]
          have hpr : ∀ H, hget H 10 = some (.ext (pcs Q) 100 3) → pksR H (.slice (some ⟨10, 0, some 0⟩) M 0) = some Q := fun H hH => by
            have := pksR_ext hH (by omega)
            rwa [hpl] at this
          refine E.lead { fr := [(5, .slice (some ⟨10, 0, some 0⟩) M 0), (6, wdV M), (7, iv (M + 1 : Nat))], sz := 57, H := [(10, .ext (pcs Q) 100 3), (9, wdB L w)], n := 11, marks := [], vs := [5, 6, 7] } (.less rfl rfl rfl (by simp [S86, htk, ← hQ, hpl]) (by simp [S86, htk, ← hQ])) ?_
          refine E.seq ?_
          refine E.seq ?_
          refine E.reg hr (by simp; rfl) ?_
          refine E.cond (t := false) (by rfl) (fun h => by cases h) (fun _ => ?_)
          refine E.exit ?_
          refine E.seq ?_
          refine E.seq ?_
          refine E.reg hr (by simp [g50, hpr]; rfl) ?_
          refine E.seq ?_
          by_cases hpe : pksE Q = 0
          · refine E.reg hr (by simp [hpe]; rfl) ?_
            refine E.cond (t := false) (by rfl) (fun h => by cases h) (fun _ => ?_)
            refine E.skip ?_
            refine E.seq ?_
            refine E.reg hr (by simp; rfl) ?_
            refine E.ret ?_
            refine outK.ret rfl rfl ?_
            have hpv := parV_ok hn hg' (by rw [← hw]; exact hwe) (by rw [hDL, ← hQ]; exact hpe)
            rw [hDL, ← hQ] at hpv
            unfold q86
            rw [hpv]
            cases Q with
            | nil => simp at hpl; omega
            | cons q Q =>
              have hqM : M = Q.length + 1 := by simpa using hpl.symm
              subst hqM
              exact ⟨10, rfl, by simp, by omega⟩
          · refine E.reg hr (by simp [hpe]; rfl) ?_
            refine E.cond (t := true) (by rfl) (fun _ => ?_) (fun h => by cases h)
            refine E.seq ?_
            refine E.reg hr (by simp [hws]; rfl) ?_
            refine E.ret ?_
            refine outK.ret rfl rfl ?_
            refine q86_nil ?_
            rw [parV_err hn hg' (by rw [← hw]; exact hwe) (by rw [hDL, ← hQ]; exact hpe), hDL, hLM, ← hQ]
end Go.Proofs.YtkongcnmkiihjaaGreatDoor
