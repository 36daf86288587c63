/-
The plain law of lines, fields and numbers in a text; the reference's functions that read them, walked (each a contract: no condition but those in its statement).
-/
import Derived.Lib.SplitLaws
import Derived.Lib.ItoaNum
import Derived.Test.YtkongcnmkiihjaaGreatDoorYe
namespace Go.Proofs.YtkongcnmkiihjaaGreatDoor
open Go Go.Ab Go.Proofs
abbrev bA (s : List UInt8) : ByteArray := ⟨s.toArray⟩
abbrev sL (s : List UInt8) : Value := .string (bA s)
theorem bA_size (s : List UInt8) : (bA s).size = s.length := by simp [ByteArray.size]
theorem bA_get {s : List UInt8} {i : Nat} (h : i < s.length) : (bA s).get! i = s[i] := by
  simp [ByteArray.get!, h]
theorem bA_data (s : ByteArray) : bA s.data.toList = s := by cases s; simp [bA]
theorem bA_append (a b : List UInt8) : bA a ++ bA b = bA (a ++ b) := by
  apply ByteArray.ext
  simp [ByteArray.data_append, bA]
theorem bA_extract (s : List UInt8) (a b : Nat) : (bA s).extract a b = bA ((s.drop a).take (b - a)) := by
  apply ByteArray.ext
  simp [ByteArray.data_extract, bA]
theorem sr_bind {α β : Type} {P : Program} (a : Sem α) (g : α → Sem β) : runP P (Sem.bind a g) = (runP P a).bind fun x => runP P (g x) := by
  induction a with
  | program k ih => exact ih P
  | mark m k ih => exact ih
  | _ => rfl
theorem sr_und {α : Type} {P : Program} {t : TypeId} {d : TypeDesc} {f : TypeDesc → Sem α} (h : P.underlying t = some d) : runP P (Sem.bind (underlying t) f) = runP P (f d) := by
  show runP P (Sem.bind (match P.underlying t with | some d => _ | none => _) f) = _
  rw [h]
  rfl
theorem len_str0 {s : ByteArray} {o : Bool} : runP Tryz.prog (Go.builtin .len #[9] 3 #[o] #[.string s]) = some (.value (iv s.size)) := by
  show runP Tryz.prog (Sem.bind (Sem.bind (underlying 9) _) _) = _
  rw [sr_bind, sr_und Tryz.underlying9]
  rfl
@[simp] theorem len_str {s : List UInt8} {o : Bool} : runP Tryz.prog (Go.builtin .len #[9] 3 #[o] #[sL s]) = some (.value (iv s.length)) := by
  rw [len_str0, bA_size]
abbrev u8 (b : UInt8) : Value := .int .u8 (b.toNat : Int)
theorem index_str {s : List UInt8} {i : Nat} (h : i < s.length) : runP Tryz.prog (Instr.index 9 (sL s) (.int .i64 (i : Int))) = some (u8 s[i]) := by
  have hlt : i < (bA s).size := by rw [bA_size]; exact h
  have hb : (bA s)[i]? = some s[i] := by
    rw [getElem?_pos (bA s) i hlt]
    rfl
  have h2 : (if 0 ≤ (i : Int) then (bA s)[(i : Int).toNat]? else none) = some s[i] := by rw [if_pos (by omega)]; exact hb
  show runP Tryz.prog (Sem.bind (underlying 9) _) = _
  rw [sr_und Tryz.underlying9]
  dsimp only [sL]
  rw [h2]
  rfl
theorem bound_ok {m b : Nat} (h : b ≤ m) (k : BoundsCode) : runP Tryz.prog (Instr.sliceBound (.int .i64 (b : Int)) m k) = some b := by
  have h2 : (0 : Int) ≤ (b : Int) ∧ (b : Int) ≤ (m : Int) := by omega
  show runP Tryz.prog (if (0 : Int) ≤ (b : Int) ∧ (b : Int) ≤ (m : Int) then _ else _) = _
  rw [if_pos h2]
  rfl
theorem slice_str (s : List UInt8) (lo hi : Option Value) : runP Tryz.prog (Instr.sliceAt 9 (sL s) lo hi none) = (runP Tryz.prog (Instr.sliceBounds false s.length s.length lo hi none)).map fun x => sL ((s.drop x.1).take (x.2.1 - x.1)) := by
  show runP Tryz.prog (Sem.bind (underlying 9) _) = _
  rw [sr_und Tryz.underlying9]
  show runP Tryz.prog (Sem.bind (underlying 9) _) = _
  rw [sr_und Tryz.underlying9]
  show runP Tryz.prog (Sem.bind (Instr.sliceBounds false (bA s).size (bA s).size lo hi none) _) = _
  rw [sr_bind, bA_size]
  cases runP Tryz.prog (Instr.sliceBounds false s.length s.length lo hi none) with
  | none => rfl
  | some x =>
    obtain ⟨l, h, m⟩ := x
    show some (Value.string ((bA s).extract l h)) = _
    rw [bA_extract]
    rfl
theorem bounds_hi {n b : Nat} (h : b ≤ n) : runP Tryz.prog (Instr.sliceBounds false n n none (some (.int .i64 (b : Int))) none) = some (0, b, n) := by
  show runP Tryz.prog (Sem.bind (Instr.sliceBound (.int .i64 (b : Int)) n _) _) = _
  rw [sr_bind, bound_ok h]
  rfl
theorem bounds_lo {n a : Nat} (h : a ≤ n) : runP Tryz.prog (Instr.sliceBounds false n n (some (.int .i64 (a : Int))) none none) = some (a, n, n) := by
  show runP Tryz.prog (Sem.bind (Instr.sliceBound (.int .i64 (a : Int)) n _) _) = _
  rw [sr_bind, bound_ok h]
  rfl
theorem bounds_lh0 (n : Nat) (l h : Value) : Instr.sliceBounds false n n (some l) (some h) none = Sem.bind (Instr.sliceBound h n .sliceAlen) fun hh => Sem.bind (Instr.sliceBound l hh .sliceB) fun ll => Sem.pure (ll, hh, n) := rfl
theorem bounds_lh {n a b : Nat} (h1 : a ≤ b) (h2 : b ≤ n) : runP Tryz.prog (Instr.sliceBounds false n n (some (.int .i64 (a : Int))) (some (.int .i64 (b : Int))) none) = some (a, b, n) := by
  rw [bounds_lh0, sr_bind, bound_ok h2, Option.bind_some, sr_bind, bound_ok h1, Option.bind_some]
  rfl
theorem slice_hi {s : List UInt8} {b : Nat} (hb : b ≤ s.length) : runP Tryz.prog (Instr.sliceAt 9 (sL s) none (some (.int .i64 (b : Int))) none) = some (sL (s.take b)) := by
  rw [slice_str, bounds_hi hb]; simp
theorem slice_lo {s : List UInt8} {a : Nat} (ha : a ≤ s.length) : runP Tryz.prog (Instr.sliceAt 9 (sL s) (some (.int .i64 (a : Int))) none none) = some (sL (s.drop a)) := by
  rw [slice_str, bounds_lo ha]
  simp [List.take_of_length_le]
theorem slice_lh {s : List UInt8} {a b : Nat} (h1 : a ≤ b) (h2 : b ≤ s.length) : runP Tryz.prog (Instr.sliceAt 9 (sL s) (some (.int .i64 (a : Int))) (some (.int .i64 (b : Int))) none) = some (sL ((s.drop a).take (b - a))) := by
  rw [slice_str, bounds_lh h1 h2]; rfl
theorem decode_low {s : List UInt8} {i : Nat} (h : i < s.length) (hb : s[i].toNat < 128) : Utf8.decode (bA s) i = (s[i].toNat, 1) := by
  unfold Utf8.decode
  simp only [Nat.add_zero, bA_get h]
  rw [if_pos hb]
theorem decode_high {s : List UInt8} {i : Nat} (h : i < s.length) (hb : ¬ s[i].toNat < 128) : 128 ≤ (Utf8.decode (bA s) i).1 := by
  unfold Utf8.decode
  simp only [Nat.add_zero, bA_get h]
  rw [if_neg hb]
  repeat' split
  all_goals first | (simp_all <;> omega) | (simp [Utf8.runeError])
@[simp] theorem run_next {P : Program} {r : Rec} {st : St} {dst ty ps af g} {it : Operand} : runOp P r ⟨dst, .next it true, ty, ps, af, g⟩ st = opNext P it st.fr st.H st.n := rfl
theorem str_eq (a b : ByteArray) : (a.toList == b.toList) = decide (a = b) := by
  rw [ByteArray.toList_eq, ByteArray.toList_eq]
  by_cases h : a = b
  · simp [h]
  · rw [decide_eq_false h]
    refine beq_eq_false_iff_ne.2 fun e => h ?_
    cases a; cases b
    simp at e
    simp [e]
section
variable {P : Program} {t : TypeId} {x y : Operand} {H : Heap} {n : Nat} {a b : List UInt8}
@[simp] theorem bin_eqls : binV P .eql t x y (sL a) (sL b) H n = some (.bool (decide (a = b)), H, n) := by
  have h : binV P .eql t x y (sL a) (sL b) H n = some (.bool ((bA a).toList == (bA b).toList), H, n) := rfl
  rw [h, str_eq]
  simp
@[simp] theorem bin_neqs : binV P .neq t x y (sL a) (sL b) H n = some (.bool (!decide (a = b)), H, n) := by
  have h : binV P .neq t x y (sL a) (sL b) H n = some (.bool (!((bA a).toList == (bA b).toList)), H, n) := rfl
  rw [h, str_eq]
  simp
theorem bin_adds (hs : a.length + b.length ≤ 9223372036854775807) : binV P .add t x y (sL a) (sL b) H n = some (sL (a ++ b), H, n) := by
  have hc : ¬ (((bA a).size + (bA b).size : Nat) : Int) > IntKind.i64.max := by
    rw [bA_size, bA_size, show IntKind.i64.max = 9223372036854775807 from rfl]
    omega
  have h : binV P .add t x y (sL a) (sL b) H n = (runP P (if (((bA a).size + (bA b).size : Nat) : Int) > IntKind.i64.max then unsupported (.resourceLimit "string concatenation: a sum of the lengths that is no int") else pure (.string (bA a ++ bA b)))).bind fun v => if afq v then some (v, H, n) else none := rfl
  rw [h, if_neg hc, bA_append]
  rfl
variable {i j : Int}
@[simp] theorem bin_eql8 : binV P .eql t x y (.int .u8 i) (.int .u8 j) H n = some (.bool (decide (i = j)), H, n) := rfl
@[simp] theorem bin_neq8 : binV P .neq t x y (.int .u8 i) (.int .u8 j) H n = some (.bool (!decide (i = j)), H, n) := rfl
@[simp] theorem bin_lss8 : binV P .lss t x y (.int .u8 i) (.int .u8 j) H n = some (.bool (decide (i < j)), H, n) := rfl
@[simp] theorem bin_gtr8 : binV P .gtr t x y (.int .u8 i) (.int .u8 j) H n = some (.bool (decide (j < i)), H, n) := rfl
@[simp] theorem bin_sub8 : binV P .sub t x y (.int .u8 i) (.int .u8 j) H n = some (.int .u8 (IntKind.u8.wrap (i - j)), H, n) := rfl
@[simp] theorem bin_lss32 : binV P .lss t x y (.int .i32 i) (.int .i32 j) H n = some (.bool (decide (i < j)), H, n) := rfl
@[simp] theorem bin_gtr32 : binV P .gtr t x y (.int .i32 i) (.int .i32 j) H n = some (.bool (decide (j < i)), H, n) := rfl
@[simp] theorem bin_sub32 : binV P .sub t x y (.int .i32 i) (.int .i32 j) H n = some (.int .i32 (IntKind.i32.wrap (i - j)), H, n) := rfl
end
theorem cv21_3 (a : Int) : runP Tryz.prog (convert 21 3 (.int .i32 a)) = some (.int .i64 (IntKind.i64.wrap a)) := by kernel_rfl
theorem conv213 {a : Int} (h0 : 0 ≤ a) (h1 : a ≤ 255) : runP Tryz.prog (convert 21 3 (.int .i32 a)) = some (iv a) := by
  rw [cv21_3, W_in (by omega) (by omega)]
@[simp] theorem inf9 : Tryz.prog.info? 9 = some Tryz.t9 := by kernel_rfl
attribute [simp] Tryz.t9
@[simp] theorem wrap0 : IntKind.i64.wrap 0 = 0 := W_in (by omega) (by omega)
@[simp] theorem wrap1 : IntKind.i64.wrap 1 = 1 := W_in (by omega) (by omega)
def sls (l : List (List UInt8)) : List Value := l.map sL
@[simp] theorem sls_length (l : List (List UInt8)) : (sls l).length = l.length := by simp [sls]
@[simp] theorem afL_sls : ∀ l : List (List UInt8), afL (sls l) = true
  | [] => rfl
  | _ :: l => by simp [sls] at *; exact afL_sls l
@[simp] theorem renL_sls (ρ : Nat → Nat) (l : List (List UInt8)) : renL ρ (sls l) = sls l := by rw [renL_eq, sls, List.map_map]; rfl
@[simp] theorem scL_sls (p : Nat → Prop) (l : List (List UInt8)) : scL p (sls l) := scL_af p _ (afL_sls l)
theorem sls_append (a b : List (List UInt8)) : sls (a ++ b) = sls a ++ sls b := by simp [sls]
theorem sls_one (w : List UInt8) : sls [w] = [sL w] := rfl
theorem sls_snoc (d : List UInt8) (D : List (List UInt8)) (w : List UInt8) : sls (d :: (D ++ [w])) = sls (d :: D) ++ [sL w] := by rw [← List.cons_append, sls_append]; rfl
@[simp] theorem oneL_sls : ∀ l : List (List UInt8), oneL (sls l) = true
  | [] => rfl
  | _ :: l => by simp [sls, oneL] at *; exact oneL_sls l
end Go.Proofs.YtkongcnmkiihjaaGreatDoor

namespace Go.Proofs.YtkongcnmkiihjaaGreatDoor
open Go Go.Ab Go.Proofs
def spF (c : UInt8) : List UInt8 → List (List UInt8) → List UInt8 → List (List UInt8) × List UInt8
  | [], d, w => (d, w)
  | x :: s, d, w => if x = c then spF c s (d ++ [w]) [] else spF c s d (w ++ [x])
/-- the whole parts, and what is behind the last cut -/
def spD (c : UInt8) (s : List UInt8) : List (List UInt8) := (spF c s [] []).1
def spW (c : UInt8) (s : List UInt8) : List UInt8 := (spF c s [] []).2
def spl (c : UInt8) (s : List UInt8) : List (List UInt8) := spD c s ++ [spW c s]
theorem spF_d (c : UInt8) : ∀ (s : List UInt8) (d : List (List UInt8)) (w : List UInt8), spF c s d w = (d ++ (spF c s [] w).1, (spF c s [] w).2)
  | [], d, w => by simp [spF]
  | x :: s, d, w => by
    unfold spF
    split
    · rw [spF_d c s (d ++ [w]), spF_d c s ([] ++ [w])]
      simp
    · exact spF_d c s d _
/-- no cut in the first part -/
theorem spF_miss (c : UInt8) : ∀ (a s : List UInt8) (d : List (List UInt8)) (w : List UInt8), c ∉ a → spF c (a ++ s) d w = spF c s d (w ++ a)
  | [], s, d, w, _ => by simp
  | x :: a, s, d, w, h => by
    simp only [List.mem_cons, not_or] at h
    rw [List.cons_append, spF, if_neg (fun e => h.1 e.symm), spF_miss c a s d _ h.2]
    simp
theorem sp_miss {c : UInt8} {a : List UInt8} (h : c ∉ a) : spD c a = [] ∧ spW c a = a := by
  have := spF_miss c a [] [] [] h
  rw [List.append_nil] at this
  constructor
  · rw [spD, this]; rfl
  · rw [spW, this]; simp [spF]
theorem sp_hit {c : UInt8} {a s : List UInt8} (h : c ∉ a) : spD c (a ++ c :: s) = a :: spD c s ∧ spW c (a ++ c :: s) = spW c s := by
  have h1 : spF c (a ++ c :: s) [] [] = ([a] ++ (spF c s [] []).1, (spF c s [] []).2) := by
    rw [spF_miss c a _ [] [] h, spF, if_pos rfl, ← spF_d]
    simp
  constructor
  · rw [spD, h1]; rfl
  · rw [spW, h1]; rfl
theorem spl_miss {c : UInt8} {a : List UInt8} (h : c ∉ a) : spl c a = [a] := by
  rw [spl, (sp_miss h).1, (sp_miss h).2]; rfl
theorem spl_hit {c : UInt8} {a s : List UInt8} (h : c ∉ a) : spl c (a ++ c :: s) = a :: spl c s := by
  rw [spl, (sp_hit h).1, (sp_hit h).2]; rfl
theorem spl_ne (c : UInt8) (s : List UInt8) : spl c s ≠ [] := by simp [spl]
/-- where the first cut is -/
theorem first_cut (c : UInt8) (s : List UInt8) : (Lib.indexByte s c = -1 ∧ c ∉ s) ∨ ∃ a r, s = a ++ c :: r ∧ c ∉ a ∧ Lib.indexByte s c = a.length := by
  induction s with
  | nil => exact .inl ⟨rfl, by simp⟩
  | cons b s ih =>
    by_cases hb : b = c
    · subst hb
      exact .inr ⟨[], s, rfl, by simp, by simp [Lib.indexByte]⟩
    · have hbc : (b == c) = false := beq_eq_false_iff_ne.2 hb
      rcases ih with ⟨h1, h2⟩ | ⟨a, r, h1, h2, h3⟩
      · refine .inl ⟨by simp [Lib.indexByte, hbc, h1], ?_⟩
        simp only [List.mem_cons, not_or]
        exact ⟨fun e => hb e.symm, h2⟩
      · refine .inr ⟨b :: a, r, by rw [h1]; rfl, ?_, ?_⟩
        · simp only [List.mem_cons, not_or]
          exact ⟨fun e => hb e.symm, h2⟩
        · have : ¬ ((a.length : Int) == -1) = true := fun e => by have := beq_iff_eq.1 e; omega
          simp [Lib.indexByte, hbc, h3]
theorem cut_byte (c : UInt8) (s : List UInt8) : (c ∉ s → Lib.cut s [c] = (s, [], false)) ∧ ∀ a r, s = a ++ c :: r → c ∉ a → Lib.cut s [c] = (a, r, true) := by
  constructor
  · intro h
    rcases first_cut c s with ⟨h1, _⟩ | ⟨a, r, h1, _, _⟩
    · simp [Lib.cut, Lib.index_one, h1]
    · exact absurd (by rw [h1]; simp) h
  · intro a r h h2
    have h3 : Lib.indexByte s c = a.length := by
      rcases first_cut c s with ⟨_, h4⟩ | ⟨a', r', h4, h5, h6⟩
      · exact absurd (by rw [h]; simp) h4
      · rw [h6]
        have hl : spD c s = spD c s := rfl
        have e1 := (sp_hit (s := r) h2).1
        have e2 := (sp_hit (s := r') h5).1
        rw [← h] at e1
        rw [← h4] at e2
        rw [e1] at e2
        injection e2 with e2
        rw [e2]
    rw [Lib.cut, Lib.index_one, h3, if_pos (by omega)]
    subst h
    simp
theorem splitK_byte (c : UInt8) : ∀ (k : Nat) (s : List UInt8), s.count c = k → Lib.splitK [c] 0 k s = spl c s
  | 0, s, h => by
    rw [Lib.splitK, spl_miss (List.count_eq_zero.1 h)]
  | k + 1, s, h => by
    rcases first_cut c s with ⟨_, h2⟩ | ⟨a, r, h1, h2, h3⟩
    · rw [List.count_eq_zero.2 h2] at h; cases h
    · have hm : ¬ (Lib.index s [c] == -1) = true := fun e => by
        have := beq_iff_eq.1 e
        rw [Lib.index_one, h3] at this
        omega
      rw [Lib.splitK, if_neg hm, Lib.index_one, h3]
      subst h1
      have hc : r.count c = k := by
        rw [List.count_append, List.count_eq_zero.2 h2, List.count_cons_self] at h
        omega
      rw [spl_hit h2, ← splitK_byte c k r hc]
      simp
theorem spD_len (c : UInt8) : ∀ (s : List UInt8), ∀ w ∈ spD c s, w.length < s.length + 1 := by
  have h : ∀ (k : Nat) (s : List UInt8), s.length ≤ k → ∀ w ∈ spD c s, w.length < s.length + 1 := by
    intro k
    induction k with
    | zero =>
      intro s hs w hw
      have : s = [] := List.length_eq_zero_iff.1 (by omega)
      subst this
      cases hw
    | succ k ih =>
      intro s hs w hw
      rcases first_cut c s with ⟨_, h2⟩ | ⟨a, r, h1, h2, _⟩
      · rw [(sp_miss h2).1] at hw; cases hw
      · rw [h1, (sp_hit h2).1] at hw
        have hl : s.length = a.length + (r.length + 1) := by rw [h1]; simp
        rcases List.mem_cons.1 hw with rfl | hw
        · omega
        · have := ih r (by omega) w hw
          omega
  exact fun s => h s.length s (Nat.le_refl _)
def digB (b : UInt8) : Bool := decide (48 ≤ b.toNat ∧ b.toNat ≤ 57)
def stepD (n : Int) (b : UInt8) : Int := 10 * n + ((b.toNat : Int) - 48)
def valD (s : List UInt8) : Int := s.foldl stepD 0
def dd (n : Int) : List UInt8 := Lib.decDigits n.toNat
def leadB (s : List UInt8) : Bool := decide (s.length = 1) || !decide (s.head? = some 48)
def preI (s : List UInt8) : Bool := !decide (s = []) && decide (s.length ≤ 10) && s.all digB
/-- what the reference reads, and what the program reads -/
def rI (s : List UInt8) : Int × Bool := if preI s && leadB s then (valD s, true) else (0, false)
def pI (s : List UInt8) : Int × Bool := if preI s then (valD s, leadB s) else (0, false)
theorem pI_rI (s : List UInt8) : (pI s).2 = (rI s).2 ∧ ((rI s).2 = true → (pI s).1 = (rI s).1) := by
  unfold pI rI
  cases preI s <;> cases leadB s <;> simp
abbrev pickB : List UInt8 := [112, 105, 99, 107]
def numA (f : List UInt8 → Int × Bool) (r : List (List UInt8)) (k : Nat) : Int × Bool := match r[k]? with
  | some w => f w
  | none => (0, false)
/-- the words behind the first one -/
def restW (s : List UInt8) : List (List UInt8) := match (spl 32 s).tail with
  | [] => [[]]
  | r => r
def headW (s : List UInt8) : List UInt8 := (spl 32 s).headD []
def prsV (s : List UInt8) : Pk × Bool := if headW s = pickB then (⟨(numA pI (restW s) 0).1, (numA pI (restW s) 1).1, (numA pI (restW s) 2).1⟩, (numA pI (restW s) 0).2 && (numA pI (restW s) 1).2 && (numA pI (restW s) 2).2 && decide ((restW s).length ≤ 3)) else (⟨0, 0, 0⟩, false)
def linV (s : List UInt8) : Pk × Bool := if (spl 32 s).length = 4 ∧ headW s = pickB then (⟨(numA rI (spl 32 s) 1).1, (numA rI (spl 32 s) 2).1, (numA rI (spl 32 s) 3).1⟩, (numA rI (spl 32 s) 1).2 && (numA rI (spl 32 s) 2).2 && (numA rI (spl 32 s) 3).2) else (⟨0, 0, 0⟩, false)
theorem pI_nil : pI [] = (0, false) := rfl
theorem prs_lin (s : List UInt8) : (prsV s).2 = (linV s).2 ∧ ((linV s).2 = true → (prsV s).1 = (linV s).1) := by
  obtain ⟨w, ws, hw⟩ : ∃ w ws, spl 32 s = w :: ws := by
    cases h : spl 32 s with
    | nil => exact absurd h (spl_ne 32 s)
    | cons w ws => exact ⟨w, ws, rfl⟩
  have hh : headW s = w := by simp [headW, hw]
  unfold prsV linV
  rw [hh]
  by_cases hp : w = pickB
  · rw [if_pos hp]
    match ws, hw with
    | [], hw => simp [hw, restW, numA, pI_nil]
    | [a], hw => simp [hw, restW, numA]
    | [a, b], hw => simp [hw, restW, numA]
    | [a, b, c], hw =>
      obtain ⟨a1, a2⟩ := pI_rI a
      obtain ⟨b1, b2⟩ := pI_rI b
      obtain ⟨c1, c2⟩ := pI_rI c
      rw [if_pos ⟨by simp [hw], hp⟩]
      simp only [hw, restW, numA, List.tail_cons, List.getElem?_cons_zero, List.getElem?_cons_succ, a1, b1, c1, List.length_cons, List.length_nil]
      refine ⟨by simp, fun h => ?_⟩
      simp only [Bool.and_eq_true] at h
      rw [a2 h.1.1, b2 h.1.2, c2 h.2]
    | a :: b :: c :: d :: r, hw =>
      have h1 : ¬ (r.length + 1 + 1 + 1 + 1 ≤ 3) := by omega
      have h2 : ¬ (r.length + 1 + 1 + 1 + 1 + 1 = 4) := by omega
      simp [hw, restW, numA]
  · rw [if_neg hp, if_neg (fun h => hp h.2)]
    exact ⟨rfl, fun h => by cases h⟩
/-- the picks of the whole lines, as far as they are right -/
def goodN (D : List (List UInt8)) : Nat := match D.findIdx? (fun w => !(linV w).2) with
  | some i => i
  | none => D.length
def pksD (D : List (List UInt8)) : List Pk := D.map fun w => (linV w).1
structure Prs where
  out : List Pk
  at' : Int
  e : Int
def parV (s : List UInt8) : Prs :=
  if 4096 < s.length then ⟨[], 0, 26⟩
  else if goodN (spD 10 s) < (spD 10 s).length then ⟨[], goodN (spD 10 s), 25⟩
  else if spW 10 s ≠ [] then ⟨[], (spD 10 s).length, 25⟩
  else if pksE (pksD (spD 10 s)) ≠ 0 then ⟨[], (spD 10 s).length, pksE (pksD (spD 10 s))⟩
  else ⟨pksD (spD 10 s), 0, 0⟩
end Go.Proofs.YtkongcnmkiihjaaGreatDoor

namespace Go.Proofs.YtkongcnmkiihjaaGreatDoor
open Go Go.Ab Go.Proofs
def lineT (p : Pk) : List UInt8 := pickB ++ [32] ++ dd p.t ++ [32] ++ dd p.q ++ [32] ++ dd p.e ++ [10]
def prT (l : List Pk) : List UInt8 := l.flatMap lineT
theorem decDigits_dig : ∀ (u : Nat), ∀ b ∈ Lib.decDigits u, digB b = true := by
  intro u
  induction u using Nat.strongRecOn with
  | _ u ih =>
    intro b hb
    rw [Lib.decDigits] at hb
    split at hb
    · rename_i h
      simp only [List.mem_singleton] at hb
      subst hb
      simp only [digB, decide_eq_true_eq, UInt8.toNat_ofNat']
      omega
    · rename_i h
      simp only [List.mem_append, List.mem_singleton] at hb
      rcases hb with hb | rfl
      · exact ih (u / 10) (by omega) b hb
      · simp only [digB, decide_eq_true_eq, UInt8.toNat_ofNat']
        omega
theorem decDigits_val : ∀ (u : Nat), valD (Lib.decDigits u) = u := by
  intro u
  induction u using Nat.strongRecOn with
  | _ u ih =>
    rw [Lib.decDigits]
    split
    · rename_i h
      simp only [valD, List.foldl_cons, List.foldl_nil, stepD, UInt8.toNat_ofNat']
      omega
    · rename_i h
      have := ih (u / 10) (by omega)
      unfold valD at this ⊢
      rw [List.foldl_append, this]
      simp only [List.foldl_cons, List.foldl_nil, stepD, UInt8.toNat_ofNat']
      omega
theorem decDigits_ne (u : Nat) : Lib.decDigits u ≠ [] := by
  rw [Lib.decDigits]
  split <;> simp
theorem decDigits_lead : ∀ (u : Nat), leadB (Lib.decDigits u) = true ∧ (0 < u → (Lib.decDigits u).head? ≠ some 48) := by
  intro u
  induction u using Nat.strongRecOn with
  | _ u ih =>
    rw [Lib.decDigits]
    split
    · rename_i h
      refine ⟨by simp [leadB], fun h0 e => ?_⟩
      simp only [List.head?_cons, Option.some.injEq] at e
      have := congrArg UInt8.toNat e
      simp only [UInt8.toNat_ofNat'] at this
      have h48 : (48 : UInt8).toNat = 48 := rfl
      rw [h48] at this
      omega
    · rename_i h
      obtain ⟨_, h2⟩ := ih (u / 10) (by omega)
      have h3 := h2 (by omega)
      have hne := decDigits_ne (u / 10)
      have hh : (Lib.decDigits (u / 10) ++ [UInt8.ofNat (48 + u % 10)]).head? = (Lib.decDigits (u / 10)).head? := by
        cases hd : Lib.decDigits (u / 10) with
        | nil => exact absurd hd hne
        | cons a b => rfl
      refine ⟨?_, fun _ => by rw [hh]; exact h3⟩
      unfold leadB
      rw [hh]
      simp [h3]
theorem dd_len {n : Int} (h : n ≤ 1000000000) : (dd n).length ≤ 10 := by
  rw [dd, Lib.decDigits_length]
  refine Nat.le_of_not_lt fun hc => ?_
  have hm : ∀ (k u : Nat), k < Lib.nDigits u → 10 ^ k ≤ u ∨ k = 0 := by
    intro k
    induction k with
    | zero => intro u _; exact .inr rfl
    | succ k ih =>
      intro u hu
      by_cases hs : u < 10
      · rw [Lib.nDigits_small hs] at hu; omega
      · rw [Lib.nDigits_big hs] at hu
        rcases ih (u / 10) (by omega) with h1 | h1
        · rw [Nat.pow_succ]; exact .inl (by omega)
        · subst h1; exact .inl (by omega)
  rcases hm 10 _ hc with h1 | h1
  · have : (10 : Nat) ^ 10 = 10000000000 := by decide
    omega
  · cases h1
theorem rI_dd {n : Int} (h0 : 0 ≤ n) (h1 : n ≤ 1000000000) : rI (dd n) = (n, true) := by
  have e1 : preI (dd n) = true := by
    have hl := dd_len h1
    have hne := decDigits_ne n.toNat
    have ha : (dd n).all digB = true := List.all_eq_true.2 fun b hb => decDigits_dig _ b hb
    have hne' : decide (dd n = []) = false := decide_eq_false hne
    simp [preI, ha, hl, hne']
  have e2 : leadB (dd n) = true := (decDigits_lead n.toNat).1
  unfold rI
  rw [e1, e2]
  simp only [Bool.and_self, if_true]
  rw [dd, decDigits_val]
  congr 1
  omega
theorem dig_ne {b c : UInt8} (h : digB b = true) (hc : digB c = false) : b ≠ c := fun e => by rw [e, hc] at h; cases h
theorem dd_no {c : UInt8} (hc : digB c = false) (n : Int) : c ∉ dd n := fun h => dig_ne (decDigits_dig _ c h) hc rfl
theorem spl_line (p : Pk) : spl 32 (pickB ++ [32] ++ dd p.t ++ [32] ++ dd p.q ++ [32] ++ dd p.e) = [pickB, dd p.t, dd p.q, dd p.e] := by
  have n := fun x : Int => dd_no (c := 32) (by decide) x
  rw [show pickB ++ [32] ++ dd p.t ++ [32] ++ dd p.q ++ [32] ++ dd p.e = pickB ++ 32 :: (dd p.t ++ 32 :: (dd p.q ++ 32 :: dd p.e)) by simp]
  rw [spl_hit (by decide), spl_hit (n _), spl_hit (n _), spl_miss (n _)]
abbrev bodyT (p : Pk) : List UInt8 := pickB ++ [32] ++ dd p.t ++ [32] ++ dd p.q ++ [32] ++ dd p.e
theorem linV_line {p : Pk} (h : p.Ok) : linV (bodyT p) = (p, true) := by
  obtain ⟨h1, h2, h3, h4, h5, h6⟩ := h
  unfold linV headW
  rw [spl_line p, if_pos ⟨rfl, rfl⟩]
  simp only [numA, List.getElem?_cons_succ, List.getElem?_cons_zero, rI_dd (show 0 ≤ p.t by omega) (by omega), rI_dd (show 0 ≤ p.q by omega) h4, rI_dd h5 h6]
  rfl
theorem body_no (p : Pk) : (10 : UInt8) ∉ bodyT p := by
  have n := fun x : Int => dd_no (c := 10) (by decide) x
  simp [bodyT, pickB, n]
theorem sp_prT (l : List Pk) : spD 10 (prT l) = l.map bodyT ∧ spW 10 (prT l) = [] := by
  induction l with
  | nil => exact ⟨rfl, rfl⟩
  | cons p l ih =>
    have e : prT (p :: l) = bodyT p ++ 10 :: prT l := by simp [prT, lineT, bodyT]
    rw [e, (sp_hit (body_no p)).1, (sp_hit (body_no p)).2, ih.1, ih.2]
    exact ⟨rfl, rfl⟩
theorem goodN_all {D : List (List UInt8)} (h : ∀ w ∈ D, (linV w).2 = true) : goodN D = D.length := by
  unfold goodN
  rw [List.findIdx?_eq_none_iff.2 (fun w hw => by simp [h w hw])]
theorem pks_prT {l : List Pk} (h : PksOk l) : pksD (l.map bodyT) = l := by
  unfold pksD
  rw [List.map_map]
  conv => rhs; rw [← List.map_id l]
  exact List.map_congr_left fun p hp => congrArg Prod.fst (linV_line (h p hp))
theorem line_len {p : Pk} (h : p.Ok) : (lineT p).length ≤ 40 := by
  obtain ⟨h1, h2, h3, h4, h5, h6⟩ := h
  have a := dd_len (show p.t ≤ 1000000000 by omega)
  have b := dd_len h4
  have c := dd_len h6
  simp [lineT, pickB]
  omega
theorem prT_len {l : List Pk} (h : PksOk l) : (prT l).length ≤ 40 * l.length := by
  induction l with
  | nil => simp [prT]
  | cons p l ih =>
    have := ih fun q hq => h q (List.mem_cons_of_mem _ hq)
    have hp := line_len (h p (List.mem_cons_self ..))
    rw [show prT (p :: l) = lineT p ++ prT l from rfl, List.length_append, List.length_cons]
    omega
/-- what was printed is read -/
theorem par_prT {l : List Pk} (h : PksOk l) (he : pksE l = 0) (hl : l.length ≤ 100) : parV (prT l) = ⟨l, 0, 0⟩ := by
  obtain ⟨e1, e2⟩ := sp_prT l
  have hn := prT_len h
  have hg : goodN (l.map bodyT) = (l.map bodyT).length := goodN_all fun w hw => by
    obtain ⟨p, hp, rfl⟩ := List.mem_map.1 hw
    rw [linV_line (h p hp)]
  unfold parV
  rw [if_neg (by omega), e1, e2, hg, if_neg (by omega), if_neg (by simp), pks_prT h, if_neg (by simp [he])]
end Go.Proofs.YtkongcnmkiihjaaGreatDoor

namespace Go.Proofs.YtkongcnmkiihjaaGreatDoor
open Go Go.Ab Go.Proofs
@[simp] theorem inf242 : Tryz.prog.info? 242 = some Tryz.t242 := by kernel_rfl
end Go.Proofs.YtkongcnmkiihjaaGreatDoor

namespace Go.Proofs.YtkongcnmkiihjaaGreatDoor
open Go Go.Ab Go.Proofs
theorem index_str0 {s : List UInt8} (h : 0 < s.length) : runP Tryz.prog (Instr.index 9 (sL s) (.int .i64 0)) = some (u8 s[0]) := index_str h
theorem u8_bd (b : UInt8) : 0 ≤ ((b.toNat : Nat) : Int) ∧ ((b.toNat : Nat) : Int) ≤ 255 := by
  have := b.toNat_lt
  omega
theorem valD_snoc (t : List UInt8) (b : UInt8) : valD (t ++ [b]) = 10 * valD t + ((b.toNat : Int) - 48) := by simp [valD, stepD]
theorem valD_bd {s : List UInt8} (h : ∀ b ∈ s, digB b = true) : ∀ i, i ≤ s.length → 0 ≤ valD (s.take i) ∧ valD (s.take i) + 1 ≤ 10 ^ i
  | 0, _ => by simp [valD]
  | i + 1, hi => by
    have hlt : i < s.length := by omega
    have ih := valD_bd h i (by omega)
    have hd := h _ (List.getElem_mem hlt)
    simp only [digB, decide_eq_true_eq] at hd
    rw [List.take_succ_eq_append_getElem hlt, valD_snoc, Int.pow_succ]
    omega
theorem pow_le10 {i : Nat} (h : i ≤ 10) : (10 : Int) ^ i ≤ 10000000000 := by
  have h1 : (10 : Nat) ^ i ≤ 10 ^ 10 := Nat.pow_le_pow_right (by omega) h
  have h2 : (10 : Nat) ^ 10 = 10000000000 := by decide
  have h3 : ((10 : Int)) ^ i = (((10 : Nat) ^ i : Nat) : Int) := by simp
  omega
theorem preI_bad {s : List UInt8} {i : Nat} (hi : i < s.length) (h : digB s[i] = false) : preI s = false := by
  have : s.all digB = false := by
    rw [Bool.eq_false_iff]
    intro ha
    rw [List.all_eq_true.1 ha _ (List.getElem_mem hi)] at h
    cases h
  simp [preI, this]
theorem preI_good {s : List UInt8} (h0 : s ≠ []) (h1 : s.length ≤ 10) (h : ∀ j (hj : j < s.length), digB s[j] = true) : preI s = true := by
  have ha : s.all digB = true := List.all_eq_true.2 fun b hb => by
    obtain ⟨j, hj, rfl⟩ := List.getElem_of_mem hb
    exact h j hj
  have hne : decide (s = []) = false := decide_eq_false h0
  simp [preI, ha, h1, hne]
/-- a region whose slots behind it are known up to what is let go -/
theorem E.regL {P : Program} {r : Rec} {m n0 : Nat} {ro : Option Nat} (hr : RecOk P r m) {id : Nat} {ops : Array Oper} {st : St} {b : Code} {K : Ex → St → Prop} (s2 : St) (h : ∃ st', opsF P r ops ops.toList st = some st' ∧ Leads P n0 st' s2) (k : E P n0 ro b s2 K) : E P n0 ro (.region id ops false) st (seqK P n0 ro b K) := by
  obtain ⟨st', h1, h2⟩ := h
  exact E.reg hr h1 (E.lead s2 h2 k)
abbrev tupI (x : Int × Bool) : Value := .tuple #[iv x.1, .bool x.2]
def gSS (F : List UInt8 → Value) (args : List Value) (H : Heap) (n : Nat) : R := match args with
  | [.string s] => some (F s.data.toList, H, n)
  | _ => none
@[simp] theorem gSS_eq (F : List UInt8 → Value) (s : List UInt8) (H : Heap) (n : Nat) : gSS F [sL s] H n = some (F s, H, n) := by simp [gSS]
end Go.Proofs.YtkongcnmkiihjaaGreatDoor

namespace Go.Proofs.YtkongcnmkiihjaaGreatDoor
open Go Go.Ab Go.Proofs
def S87 (s : List UInt8) (c : UInt8) : Nat × List (List UInt8) × List UInt8 → St
  | (i, [], w) => { fr := [(0, sL s), (1, u8 c), (5, .slice (some ⟨9, 0, none⟩) 1 1), (6, iv i)], sz := 40, H := [(9, .cells [sL w] 9)], n := 10, marks := [], vs := [0, 1, 5, 6] }
  | (i, d :: D, w) => { fr := [(0, sL s), (1, u8 c), (5, .slice (some ⟨9, 0, some 0⟩) (D.length + 1 + 1) 0), (6, iv i)], sz := 40, H := [(9, .ext (sls (d :: D) ++ [sL w]) 9 1)], n := 10, marks := [], vs := [0, 1, 5, 6] }
def q87 (D : List (List UInt8)) (w : List UInt8) (v : Value) (H : Heap) : Prop := match D with
  | [] => ∃ m, v = .slice (some ⟨m, 0, none⟩) 1 1 ∧ hget H m = some (.cells [sL w] 9) ∧ 9 ≤ m
  | d :: D => ∃ m, v = .slice (some ⟨m, 0, some 0⟩) (D.length + 1 + 1) 0 ∧ hget H m = some (.ext (sls (d :: D) ++ [sL w]) 9 1) ∧ 9 ≤ m
theorem spF_len (c : UInt8) : ∀ (s : List UInt8) (d : List (List UInt8)) (w : List UInt8), (spF c s d w).1.length ≤ d.length + s.length
  | [], d, w => by simp [spF]
  | x :: s, d, w => by
    unfold spF
    split
    · have := spF_len c s (d ++ [w]) []
      simp at this ⊢
      omega
    · have := spF_len c s d (w ++ [x])
      simp at this ⊢
      omega
set_option maxHeartbeats 4000000 in
set_option maxRecDepth 100000 in
theorem w87 (s : List UInt8) (c : UInt8) (hl : s.length < 2 ^ 31) : ∃ u H1 n1 H2, AC Tryz.prog 87 [sL s, u8 c] [] 9 u H1 n1 ∧ q87 (spD c s) (spW c s) u H2 ∧ (af u = false → H1 = H2) := by
  have hr := recT_ok (P := Tryz.prog) (l := []) (by simp)
  refine AC.out Tryz.func87 rfl (by kernel_rfl) rfl [0, 1, 5, 6] ?_
  refine E.seq ?_
  refine E.reg hr (by simp; rfl) ?_
  refine E.seq ?_
  refine E.reg hr (by simp; rfl) ?_
  refine E.seq ?_
  refine E.seq ?_
  refine E.reg hr (by simp; rfl) ?_
  refine E.block ?_
  refine E.loop ?_
  refine EL.ind (S87 s c) (fun x => s.length - x.1) (fun x => x.1 ≤ s.length ∧ spF c (s.drop x.1) x.2.1 x.2.2 = (spD c s, spW c s) ∧ x.2.1.length + x.2.2.length ≤ x.1) (0, [], []) (.less rfl rfl rfl (by simp [S87]) (by simp [S87])) ⟨Nat.zero_le _, rfl, by simp⟩ (fun x => by obtain ⟨i, D, w⟩ := x; cases D <;> rfl) ?_
  rintro ⟨i, D, w⟩ ⟨hi, hg, hlen⟩
  dsimp only at hi hg hlen
  have hw : IntKind.i64.wrap ((i : Int) + 1) = (i : Int) + 1 := W_in (by omega) (by omega)
  by_cases hx : i < s.length
  · have hxI : (i : Int) < s.length := by omega
    have hix := index_str hx
    rw [List.drop_eq_getElem_cons hx, spF] at hg
    have hs1 : runP Tryz.prog (Instr.sliceAt 9 (sL s) (some (.int .i64 (i : Int))) (some (.int .i64 ((i : Int) + 1))) none) = some (sL [s[i]]) := by
      have := slice_lh (s := s) (a := i) (b := i + 1) (by omega) (by omega)
      rw [List.drop_eq_getElem_cons hx, show i + 1 - i = 1 by omega] at this
      exact this
    have hwl : w.length + 1 ≤ 9223372036854775807 := by omega
    by_cases hc : s[i] = c
    · have hcI : ((s[i].toNat : Nat) : Int) = ((c.toNat : Nat) : Int) := by rw [hc]
      rw [if_pos hc] at hg
      cases D with
      | nil =>
        refine E.seq ?_
        refine E.seq ?_
        refine E.reg hr (by simp [S87, hxI]; rfl) ?_
        refine E.cond (t := true) (by rfl) (fun _ => ?_) (fun h => by cases h)
        refine E.skip ?_
        refine E.seq ?_
        refine E.block ?_
        refine E.seq ?_
        refine E.seq ?_
        refine E.reg hr (by simp [hix, hcI]; rfl) ?_
        refine E.cond (t := true) (by rfl) (fun _ => ?_) (fun h => by cases h)
        refine E.seq ?_
        refine E.reg hr (by simp; rfl) ?_
        refine E.exit ?_
        refine E.reg hr (by simp [hw]; rfl) ?_
        exact ⟨(i + 1, [w], []), Leads.ren [11] rfl rfl rfl ⟨rfl, rfl⟩ (by simp [S87]) (by simp [S87, sls_one]), ⟨by dsimp only; omega, by simpa using hg, by simp at hlen ⊢; try omega⟩, by dsimp only; omega⟩
      | cons d D =>
        have hlD : D.length + 1 + w.length ≤ i := by simpa using hlen
        have e1 : (sls (d :: D) ++ [sL w]).length = D.length + 1 + 1 := by simp
        have e2 : List.take (D.length + 1 + 1) (sls (d :: D) ++ [sL w]) = sls (d :: D) ++ [sL w] := List.take_of_length_le (by simp)
        have hno : ¬ D.length + 1 + 1 + 1 ≤ D.length + 1 + 1 := by omega
        have hsm : (D.length + 1 + 1 + 1) * 16 ≤ 1099511627776 ∧ D.length + 1 + 1 + 1 ≤ 1099511627776 := by omega
        refine E.seq ?_
        refine E.seq ?_
        refine E.reg hr (by simp [S87, hxI]; rfl) ?_
        refine E.cond (t := true) (by rfl) (fun _ => ?_) (fun h => by cases h)
        refine E.skip ?_
        refine E.seq ?_
        refine E.block ?_
        refine E.seq ?_
        refine E.seq ?_
        refine E.reg hr (by simp [hix, hcI]; rfl) ?_
        refine E.cond (t := true) (by rfl) (fun _ => ?_) (fun h => by cases h)
        refine E.seq ?_
        refine E.reg hr (by simp [e1, e2, hno, hsm]; rfl) ?_
        refine E.exit ?_
        refine E.reg hr (by simp [hw]; rfl) ?_
        exact ⟨(i + 1, d :: D ++ [w], []), Leads.ren [11] rfl rfl rfl ⟨rfl, rfl⟩ (by simp [S87]) (by simp [S87, sls_snoc]), ⟨by dsimp only; omega, by simpa using hg, by simp at hlen ⊢; try omega⟩, by dsimp only; omega⟩
    · have hcI : ¬ ((s[i].toNat : Nat) : Int) = ((c.toNat : Nat) : Int) := fun e => hc (UInt8.toNat_inj.1 (by omega))
      rw [if_neg hc] at hg
      cases D with
      | nil =>
        refine E.seq ?_
        refine E.seq ?_
        refine E.reg hr (by simp [S87, hxI]; rfl) ?_
        refine E.cond (t := true) (by rfl) (fun _ => ?_) (fun h => by cases h)
        refine E.skip ?_
        refine E.seq ?_
        refine E.block ?_
        refine E.seq ?_
        refine E.seq ?_
        refine E.reg hr (by simp [hix, hcI]; rfl) ?_
        refine E.cond (t := false) (by rfl) (fun h => by cases h) (fun _ => ?_)
        refine E.skip ?_
        refine E.drawC mixed hr [17] [17] [9, 14, 17] (by kernel_rfl) (by simp [opSlice, evI, hw, hs1, bin_adds, hwl]; rfl) ?_
        refine E.reg hr (by simp [hw]; rfl) ?_
        exact ⟨(i + 1, [], w ++ [s[i]]), Leads.ren [9] rfl rfl rfl ⟨rfl, rfl⟩ (by simp [S87]) (by simp [S87]), ⟨by dsimp only; omega, by simpa using hg, by simp at hlen ⊢; try omega⟩, by dsimp only; omega⟩
      | cons d D =>
        have hlD : D.length + 1 + w.length ≤ i := by simpa using hlen
        have e1 : (sls (d :: D) ++ [sL w]).length = D.length + 1 + 1 := by simp
        have hws : IntKind.i64.wrap ((D.length : Int) + 1) = (D.length : Int) + 1 := W_in (by omega) (by omega)
        have eg : (sls (d :: D) ++ [sL w])[D.length + 1]? = some (sL w) := by rw [List.getElem?_append_right (by simp)]; simp
        have et : List.take (D.length + 1) (sls (d :: D) ++ [sL w]) = sls (d :: D) := by rw [List.take_append_of_le_length (by simp), List.take_of_length_le (by simp)]
        have ed : List.drop (D.length + 1 + 1) (sls (d :: D) ++ [sL w]) = [] := List.drop_of_length_le (by simp)
        refine E.seq ?_
        refine E.seq ?_
        refine E.reg hr (by simp [S87, hxI]; rfl) ?_
        refine E.cond (t := true) (by rfl) (fun _ => ?_) (fun h => by cases h)
        refine E.skip ?_
        refine E.seq ?_
        refine E.block ?_
        refine E.seq ?_
        refine E.seq ?_
        refine E.reg hr (by simp [hix, hcI]; rfl) ?_
        refine E.cond (t := false) (by rfl) (fun h => by cases h) (fun _ => ?_)
        refine E.skip ?_
        refine E.drawC mixed hr [17] [17] [9, 14, 17] (by kernel_rfl) (by simp [opSlice, evI, hw, hs1, bin_adds, hwl, e1, hws, et, ed]; rfl) ?_
        refine E.reg hr (by simp [hw]; rfl) ?_
        exact ⟨(i + 1, d :: D, w ++ [s[i]]), Leads.ren [9] rfl rfl rfl ⟨rfl, rfl⟩ (by simp [S87]) (by simp [S87]), ⟨by dsimp only; omega, by simpa using hg, by simp at hlen ⊢; try omega⟩, by dsimp only; omega⟩
  · have hxI : ¬ (i : Int) < s.length := by omega
    rw [List.drop_eq_nil_of_le (by omega), spF, Prod.mk.injEq] at hg
    cases D with
    | nil =>
      refine E.seq ?_
      refine E.seq ?_
      refine E.reg hr (by simp [S87, hxI]; rfl) ?_
      refine E.cond (t := false) (by rfl) (fun h => by cases h) (fun _ => ?_)
      refine E.exit ?_
      refine E.seq ?_
      refine E.reg hr (by simp; rfl) ?_
      refine E.ret ?_
      refine outK.ret rfl rfl ?_
      rw [← hg.1, ← hg.2]
      simp [q87]
    | cons d D =>
      refine E.seq ?_
      refine E.seq ?_
      refine E.reg hr (by simp [S87, hxI]; rfl) ?_
      refine E.cond (t := false) (by rfl) (fun h => by cases h) (fun _ => ?_)
      refine E.exit ?_
      refine E.seq ?_
      refine E.reg hr (by simp; rfl) ?_
      refine E.ret ?_
      refine outK.ret rfl rfl ?_
      rw [← hg.1, ← hg.2]
      simp [q87]
end Go.Proofs.YtkongcnmkiihjaaGreatDoor

namespace Go.Proofs.YtkongcnmkiihjaaGreatDoor
open Go Go.Ab Go.Proofs
noncomputable def gSp (c : UInt8) (args : List Value) (H : Heap) (n : Nat) : R := match args with
  | [.string s, .int .u8 x] => if x = ((c.toNat : Nat) : Int) ∧ s.size < 2147483648 then (match spD c s.data.toList with
    | [] => some (.slice (some ⟨n, 0, none⟩) 1 1, (n, .cells [sL (spW c s.data.toList)] 9) :: H, n + 1)
    | d :: D => some (.slice (some ⟨n, 0, some 0⟩) (D.length + 1 + 1) 0, (n, .ext (sls (d :: D) ++ [sL (spW c s.data.toList)]) 9 1) :: H, n + 1)) else none
  | _ => none
theorem okSp (c : UInt8) : EntOk Tryz.prog (87, gSp c) := by
  intro args H n v H' n' hh
  simp only [gSp] at hh
  split at hh
  · rename_i s x
    split at hh
    · rename_i hc
      obtain ⟨rfl, hl⟩ := hc
      have hl' : s.data.toList.length < 2147483648 := by rw [← Lib.size_eq]; exact hl
      obtain ⟨u, H1, n1, H2, hAC, hq, hh2⟩ := w87 s.data.toList c hl'
      rw [show sL s.data.toList = .string s from congrArg Value.string (bA_data s)] at hAC
      unfold q87 at hq
      split at hh
      · rename_i hD
        rw [hD] at hq
        obtain ⟨m, hv, hm, hle⟩ := hq
        injection hh with hh; injection hh with e1 e2; injection e2 with e2 e3; subst e1 e2 e3
        subst hv
        have := hh2 rfl
        subst this
        exact AC.liftF (names_fl 1 1) (.inl ⟨_, _, rfl, rfl⟩) (Part.plain (by simp) [] (by simp [Seen]) gsz ⟨m, _, _, hle, hm, hAC⟩)
      · rename_i d D hD
        rw [hD] at hq
        obtain ⟨m, hv, hm, hle⟩ := hq
        injection hh with hh; injection hh with e1 e2; injection e2 with e2 e3; subst e1 e2 e3
        subst hv
        have := hh2 rfl
        subst this
        exact AC.liftF (names_sx _ _) (.inr ⟨_, _, _, rfl, by simp⟩) (Part.plain (by simp) [] (by simp [Seen]) gsz ⟨m, _, _, hle, hm, hAC⟩)
    · cases hh
  · cases hh
theorem gSp_nil {c : UInt8} {s : List UInt8} {x : Int} {H : Heap} {n : Nat} (hx : x = ((c.toNat : Nat) : Int)) (hl : s.length < 2147483648) (h : spD c s = []) : gSp c [sL s, .int .u8 x] H n = some (.slice (some ⟨n, 0, none⟩) 1 1, (n, .cells [sL (spW c s)] 9) :: H, n + 1) := by
  simp [gSp, hx, h, hl, ByteArray.size]
theorem gSp_cons {c : UInt8} {s : List UInt8} {x : Int} {H : Heap} {n : Nat} {d : List UInt8} {D : List (List UInt8)} (hx : x = ((c.toNat : Nat) : Int)) (hl : s.length < 2147483648) (h : spD c s = d :: D) : gSp c [sL s, .int .u8 x] H n = some (.slice (some ⟨n, 0, some 0⟩) (D.length + 1 + 1) 0, (n, .ext (sls (d :: D) ++ [sL (spW c s)]) 9 1) :: H, n + 1) := by
  simp [gSp, hx, h, hl, ByteArray.size]
abbrev tupP (x : Pk × Bool) : Value := .tuple #[.agg ⟨x.1.cells⟩, .bool x.2]
@[simp] theorem inf100s : Tryz.prog.info? 100 = some Tryz.t100 := by kernel_rfl
attribute [simp] Tryz.t100
end Go.Proofs.YtkongcnmkiihjaaGreatDoor

namespace Go.Proofs.YtkongcnmkiihjaaGreatDoor
open Go Go.Ab Go.Proofs
def gSB (F : List UInt8 → Value) (args : List Value) (H : Heap) (n : Nat) : R := match args with
  | [.string s] => if s.size < 2147483648 then some (F s.data.toList, H, n) else none
  | _ => none
theorem gSB_eq {F : List UInt8 → Value} {s : List UInt8} {H : Heap} {n : Nat} (h : s.length < 2147483648) : gSB F [sL s] H n = some (F s, H, n) := by simp [gSB, ByteArray.size, h]
theorem okSB {f : FuncId} {F : List UInt8 → Value} (haf : ∀ s, af (F s) = true) (h : ∀ s : List UInt8, s.length < 2147483648 → AC Tryz.prog f [sL s] [] 9 (F s) [] 9) : EntOk Tryz.prog (f, gSB F) := by
  intro args H n v H' n' hh
  simp only [gSB] at hh
  split at hh
  · rename_i s
    split at hh
    · rename_i hl
      injection hh with hh; injection hh with e1 e2; injection e2 with e2 e3; subst e1 e2 e3
      have := h s.data.toList (by rw [← Lib.size_eq]; exact hl)
      rw [show sL s.data.toList = .string s from congrArg Value.string (bA_data s)] at this
      exact AC.liftP (haf _) (Part.plain (by simp) [] (by simp [Seen]) gsz ⟨_, _, this⟩)
    · cases hh
  · cases hh
end Go.Proofs.YtkongcnmkiihjaaGreatDoor

namespace Go.Proofs.YtkongcnmkiihjaaGreatDoor
open Go Go.Ab Go.Proofs
theorem goodN_bad {D : List (List UInt8)} {i : Nat} (hi : i < D.length) (h : (linV D[i]).2 = false) (hg : ∀ j (hj : j < D.length), j < i → (linV D[j]).2 = true) : goodN D = i := by
  unfold goodN
  rw [List.findIdx?_eq_some_iff_getElem.2 ⟨hi, by simp [h], fun j hj => by simp [hg j (by omega) hj]⟩]
theorem goodN_good {D : List (List UInt8)} (hg : ∀ j (hj : j < D.length), (linV D[j]).2 = true) : goodN D = D.length := goodN_all fun w hw => by
  obtain ⟨j, hj, rfl⟩ := List.getElem_of_mem hw
  exact hg j hj
theorem pksD_snoc {D : List (List UInt8)} {i : Nat} (h : i < D.length) : pksD (D.take (i + 1)) = pksD (D.take i) ++ [(linV D[i]).1] := by
  rw [List.take_succ_eq_append_getElem h, pksD, List.map_append]; rfl
theorem pksD_len (D : List (List UInt8)) (i : Nat) (h : i ≤ D.length) : (pksD (D.take i)).length = i := by simp [pksD]; omega
theorem parV_long {s : List UInt8} (h : 4096 < s.length) : parV s = ⟨[], 0, 26⟩ := by unfold parV; rw [if_pos h]
theorem parV_bad {s : List UInt8} {i : Nat} (h : ¬ 4096 < s.length) (hi : i < (spD 10 s).length) (hg : goodN (spD 10 s) = i) : parV s = ⟨[], i, 25⟩ := by unfold parV; rw [if_neg h, if_pos (by omega), hg]
theorem parV_left {s : List UInt8} (h : ¬ 4096 < s.length) (hg : goodN (spD 10 s) = (spD 10 s).length) (hw : spW 10 s ≠ []) : parV s = ⟨[], (spD 10 s).length, 25⟩ := by unfold parV; rw [if_neg h, if_neg (by omega), if_pos hw]
theorem parV_err {s : List UInt8} (h : ¬ 4096 < s.length) (hg : goodN (spD 10 s) = (spD 10 s).length) (hw : spW 10 s = []) (he : pksE (pksD (spD 10 s)) ≠ 0) : parV s = ⟨[], (spD 10 s).length, pksE (pksD (spD 10 s))⟩ := by unfold parV; rw [if_neg h, if_neg (by omega), if_neg (by simp [hw]), if_pos he]
theorem parV_ok {s : List UInt8} (h : ¬ 4096 < s.length) (hg : goodN (spD 10 s) = (spD 10 s).length) (hw : spW 10 s = []) (he : pksE (pksD (spD 10 s)) = 0) : parV s = ⟨pksD (spD 10 s), 0, 0⟩ := by unfold parV; rw [if_neg h, if_neg (by omega), if_neg (by simp [hw]), if_neg (by simp [he])]
theorem pksR_ext {H : Heap} {m : Nat} {l : List Pk} {t : TypeId} (h : hget H m = some (.ext (pcs l) t 3)) (hl : l.length < 9223372036854775808) : pksR H (.slice (some ⟨m, 0, some 0⟩) l.length 0) = some l := by
  have hc : cellsA H m 0 (l.length * 3) = some (pcs l) := by
    unfold cellsA
    rw [h]
    simp [List.take_of_length_le]
  show pksAt H ⟨m, 0, some 0⟩ l.length = some l
  unfold pksAt
  simp only [hc]
  simp [hl, pksOf_pcs]
end Go.Proofs.YtkongcnmkiihjaaGreatDoor
