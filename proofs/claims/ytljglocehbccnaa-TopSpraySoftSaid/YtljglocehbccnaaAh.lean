/-
An abstract evaluator of code, its rules and its views of memory: no program in sight (no condition).
-/
import Derived.Test.YtljglocehbccnaaAg
import Derived.Test.YtljglocehbccnaaAf
/-
Lists that an unnamed heap holds, read as a whole: of numbers, of texts, of lists; the same in a larger heap, a tidied and a frozen one.
-/
namespace Go.Ab
open Go
/-- the same state, less known of it -/
theorem Leads.keep {P : Program} {n0 : Nat} {s s2 : St} (hn : s2.n = s.n) (hz : s2.sz = s.sz) (hm : s2.marks = s.marks) (hf : ∀ x ∈ s2.fr, lk s.fr x.1 = some x.2) (hh : Sub s2.H s.H) : Leads P n0 s s2 := by
  intro p φ M w0 hg hp a w φ1 hS hs
  have hf' : ∀ t v, lk s2.fr t = some v → lk s.fr t = some v := fun t v h => hf (t, v) (lk_mem _ _ _ h)
  rw [hn]
  exact ⟨φ1, ⟨⟨hS.base.rel.sub hh, hn ▸ hS.base.lt, hS.base.gl, hn ▸ hS.base.gn, fun k b hk => hS.base.sm k b (hh k b hk), fun t v hv => hS.base.ar t v (hf' t v hv), fun t v hv => hS.base.sf t v (hf' t v hv)⟩, hz ▸ hS.size, hm ▸ hS.defs, hm ▸ hS.marks⟩, hs.sub hh⟩
/-! ### lists, element by element -/
def mapO {α β : Type} (f : β → Option α) : List β → Option (List α)
  | [] => some []
  | x :: xs => match f x, mapO f xs with
    | some y, some ys => some (y :: ys)
    | _, _ => none
def chunks (sz : Nat) : Nat → List Value → List (List Value)
  | 0, _ => []
  | k + 1, cs => cs.take sz :: chunks sz k (cs.drop sz)
theorem mapO_get {α β : Type} {f : β → Option α} : ∀ {xs : List β} {ys : List α}, mapO f xs = some ys → xs.length = ys.length ∧ ∀ (i : Nat) x, xs[i]? = some x → f x = ys[i]?
  | [], ys, h => by simp only [mapO, Option.some.injEq] at h; subst h; exact ⟨rfl, fun i x hx => by simp at hx⟩
  | x :: xs, ys, h => by
    simp only [mapO] at h
    split at h
    · rename_i y ys' h1 h2
      injection h with h; subst h
      obtain ⟨e1, e2⟩ := mapO_get h2
      refine ⟨by simp [e1], fun i z hz => ?_⟩
      cases i with
      | zero => simp at hz ⊢; subst hz; exact h1
      | succ i => simp at hz ⊢; exact e2 i z hz
    · cases h
theorem mapO_of {α β : Type} {f : β → Option α} : ∀ {xs : List β} {ys : List α}, xs.length = ys.length → (∀ (i : Nat) x, xs[i]? = some x → f x = ys[i]?) → mapO f xs = some ys
  | [], ys, h, _ => by cases ys with | nil => rfl | cons => simp at h
  | x :: xs, [], h, _ => by simp at h
  | x :: xs, y :: ys, h, hg => by
    have h0 := hg 0 x rfl
    have ih := mapO_of (xs := xs) (ys := ys) (by simpa using h) fun i z hz => by simpa using hg (i + 1) z (by simpa using hz)
    simp only [mapO, h0, ih, List.getElem?_cons_zero]
theorem mapO_mono {α β : Type} {f g : β → Option α} (h : ∀ x y, f x = some y → g x = some y) : ∀ {xs : List β} {ys : List α}, mapO f xs = some ys → mapO g xs = some ys
  | [], _, e => e
  | x :: xs, ys, e => by
    simp only [mapO] at e ⊢
    split at e
    · rename_i y ys' h1 h2
      rw [h x y h1, mapO_mono h h2]; exact e
    · cases e
theorem chunks_len (sz : Nat) : ∀ (k : Nat) (cs : List Value), (chunks sz k cs).length = k
  | 0, _ => rfl
  | k + 1, cs => by simp [chunks, chunks_len sz k]
theorem chunks_get (sz : Nat) : ∀ (k : Nat) (cs : List Value) (i : Nat), i < k → (chunks sz k cs)[i]? = some ((cs.drop (i * sz)).take sz)
  | 0, _, _, h => by omega
  | k + 1, cs, 0, _ => by simp [chunks]
  | k + 1, cs, i + 1, h => by
    rw [chunks, List.getElem?_cons_succ, chunks_get sz k _ i (by omega), List.drop_drop]
    congr 3
    rw [Nat.add_mul]; omega
abbrev Dec (α : Type) := Heap → List Value → Option α
/-- the elements of a slice, each of 'sz' cells -/
def listV {α : Type} (sz : Nat) (dec : Dec α) (H : Heap) : Value → Option (List α)
  | .slice none 0 0 => some []
  | .slice (some a) len _ => if len < 2147483648 then (if len = 0 then some [] else if flat a = true then (cellsA H a.block a.off (len * sz)).bind fun cs => mapO (dec H) (chunks sz len cs) else none) else none
  | _ => none
theorem cells_part {H : Heap} {k o n sz i : Nat} {cs : List Value} (h : cellsA H k o (n * sz) = some cs) (hi : i < n) : cellsA H k (o + i * sz) sz = some ((cs.drop (i * sz)).take sz) := by
  have hm : i * sz + sz ≤ n * sz := by
    rw [← Nat.succ_mul]; exact Nat.mul_le_mul_right _ hi
  rw [cellsA_eq] at h ⊢
  cases hb : hget H k with
  | none => rw [hb] at h; cases h
  | some b =>
    rw [hb] at h
    simp only [Option.bind_some] at h ⊢
    have key : ∀ (xs : List Value) (p : Nat), p + n * sz ≤ xs.length → ((xs.drop (p + i * sz)).take sz) = ((((xs.drop p).take (n * sz)).drop (i * sz)).take sz) := fun xs p hp => by
      rw [List.drop_take, List.take_take, List.drop_drop, Nat.min_eq_left (by omega)]
    cases b <;> simp only [cellsB] at h ⊢
    all_goals first
      | (split at h
         · injection h with h; subst h
           first
             | (rw [if_pos (by omega), key _ _ (by omega)])
             | (rename_i hc
                rw [if_pos (by omega), ← key _ _ (by omega)]
                congr 3
                omega)
         · cases h)
      | cases h
/-- what is known of a slice that reads as a list -/
theorem listV_form {α : Type} {sz : Nat} {dec : Dec α} {H : Heap} {v : Value} {l : List α} (h : listV sz dec H v = some l) :
    ∃ oa c, v = .slice oa l.length c ∧ l.length < 2147483648 ∧ (oa = none → c = 0) ∧ ∀ i (hi : i < l.length), ∃ a r, oa = some a ∧ flat a = true ∧ cellsA H a.block (a.off + i * sz) sz = some r ∧ dec H r = some l[i] := by
  unfold listV at h
  split at h
  · injection h with h; subst h
    exact ⟨none, 0, rfl, by simp, fun _ => rfl, fun i hi => by simp at hi⟩
  · rename_i a len c
    split at h
    · rename_i hlt
      split at h
      · rename_i h0
        injection h with h; subst h h0
        exact ⟨some a, c, rfl, by simp, fun e => (by cases e), fun i hi => by simp at hi⟩
      · split at h
        · rename_i hf
          obtain ⟨cs, hc, hm⟩ := Option.bind_eq_some_iff.1 h
          obtain ⟨e1, e2⟩ := mapO_get hm
          rw [chunks_len] at e1
          subst e1
          refine ⟨some a, c, rfl, hlt, fun e => (by cases e), fun i hi => ⟨a, _, rfl, hf, cells_part hc hi, ?_⟩⟩
          rw [e2 i _ (chunks_get sz _ cs i hi), List.getElem?_eq_getElem hi]
        · cases h
    · cases h
  · cases h
def DecMono {α : Type} (dec : Dec α) : Prop := ∀ H H' cs y, Sub H H' → dec H cs = some y → dec H' cs = some y
theorem listV_mono {α : Type} {sz : Nat} {dec : Dec α} (hd : DecMono dec) {H H' : Heap} (hs : Sub H H') {v : Value} {l : List α} (h : listV sz dec H v = some l) : listV sz dec H' v = some l := by
  unfold listV at h ⊢
  split at h
  · exact h
  · rename_i a len c
    split at h
    · rename_i hlt
      rw [if_pos hlt]
      split at h
      · rename_i h0; rw [if_pos h0]; exact h
      · rename_i h0
        rw [if_neg h0]
        split at h
        · rename_i hf
          obtain ⟨cs, hc, hm⟩ := Option.bind_eq_some_iff.1 h
          rw [if_pos hf, hs.cells hc]
          exact mapO_mono (fun x y => hd H H' x y hs) hm
        · cases h
    · cases h
  · cases h
theorem listV_cons {α : Type} {sz : Nat} {dec : Dec α} (hd : DecMono dec) {H : Heap} {j : Nat} {b : Blk} {v : Value} (hj : hget H j = none) (h : (listV sz dec H v).isSome = true) : listV sz dec ((j, b) :: H) v = listV sz dec H v := by
  obtain ⟨l, hl⟩ := Option.isSome_iff_exists.1 h
  rw [hl, listV_mono hd (Sub.cons hj (Sub.refl H)) hl]
def DecFrz {α : Type} (dec : Dec α) : Prop := ∀ H cs, dec (frzH H) cs = dec H cs
theorem listV_frz {α : Type} {sz : Nat} {dec : Dec α} (hd : DecFrz dec) (H : Heap) (v : Value) : listV sz dec (frzH H) v = listV sz dec H v := by
  unfold listV
  split
  · rfl
  · rw [show (dec (frzH H)) = dec H from funext (hd H)]
    simp only [cellsA_frz]
  · rfl
def DecTidy {α : Type} (dec : Dec α) : Prop := ∀ H n cs y, (∀ k b, hget H k = some b → k < n) → dec H cs = some y → dec (tidy n H) cs = some y
theorem listV_tidy {α : Type} {sz : Nat} {dec : Dec α} (hd : DecTidy dec) {H : Heap} {n : Nat} (hl : ∀ k b, hget H k = some b → k < n) {v : Value} {l : List α} (h : listV sz dec H v = some l) : listV sz dec (tidy n H) v = some l := by
  unfold listV at h ⊢
  split at h
  · exact h
  · rename_i a len c
    split at h
    · rename_i hlt
      rw [if_pos hlt]
      split at h
      · rename_i h0; rw [if_pos h0]; exact h
      · rename_i h0
        rw [if_neg h0]
        split at h
        · rename_i hf
          obtain ⟨cs, hc, hm⟩ := Option.bind_eq_some_iff.1 h
          rw [if_pos hf, cellsA_tidy hl hc]
          exact mapO_mono (fun x y => hd H n x y hl) hm
        · cases h
    · cases h
  · cases h
/-! ### numbers, texts -/
def decI : Dec Int := fun _ cs => match cs with
  | [.int .i64 n] => some n
  | _ => none
theorem decI_mono : DecMono decI := fun _ _ _ _ _ h => h
theorem decI_frz : DecFrz decI := fun _ _ => rfl
theorem decI_tidy : DecTidy decI := fun _ _ _ _ _ h => h
def decS : Dec ByteArray := fun _ cs => match cs with
  | [.string s] => some s
  | _ => none
theorem decS_mono : DecMono decS := fun _ _ _ _ _ h => h
theorem decS_frz : DecFrz decS := fun _ _ => rfl
theorem decS_tidy : DecTidy decS := fun _ _ _ _ _ h => h
abbrev intV (H : Heap) (v : Value) : Option (List Int) := listV 1 decI H v
abbrev strV (H : Heap) (v : Value) : Option (List ByteArray) := listV 1 decS H v
/-- lists of what is read itself through the heap -/
def decL {α : Type} (sz : Nat) (dec : Dec α) : Dec (List α) := fun H cs => match cs with
  | [v] => listV sz dec H v
  | _ => none
theorem decL_mono {α : Type} {sz : Nat} {dec : Dec α} (hd : DecMono dec) : DecMono (decL sz dec) := fun H H' cs y hs h => by
  unfold decL at h ⊢
  split at h
  · exact listV_mono hd hs h
  · cases h
theorem decL_frz {α : Type} {sz : Nat} {dec : Dec α} (hd : DecFrz dec) : DecFrz (decL sz dec) := fun H cs => by
  unfold decL
  split
  · exact listV_frz hd H _
  · rfl
theorem decL_tidy {α : Type} {sz : Nat} {dec : Dec α} (hd : DecTidy dec) : DecTidy (decL sz dec) := fun H n cs y hl h => by
  unfold decL at h ⊢
  split at h
  · exact listV_tidy hd hl h
  · cases h
abbrev nestV (H : Heap) (v : Value) : Option (List (List Int)) := listV 1 (decL 1 decI) H v
theorem decNI_mono : DecMono (decL 1 decI) := decL_mono decI_mono
theorem cells_one {H : Heap} {k o : Nat} {r : List Value} (h : cellsA H k o 1 = some r) : ∃ x, r = [x] ∧ cellA H k o = some x := by
  obtain ⟨h1, h2⟩ := cellsA_cell h (i := 0) (by omega)
  obtain ⟨x, rfl⟩ : ∃ x, r = [x] := by
    match r, h2 with
    | [x], _ => exact ⟨x, rfl⟩
  exact ⟨x, rfl, by simpa using h1⟩
theorem intV_form {H : Heap} {v : Value} {l : List Int} (h : intV H v = some l) :
    ∃ oa c, v = .slice oa l.length c ∧ l.length < 2147483648 ∧ (oa = none → c = 0) ∧ ∀ i (hi : i < l.length), ∃ a, oa = some a ∧ flat a = true ∧ cellA H a.block (a.off + i) = some (.int .i64 l[i]) := by
  obtain ⟨oa, c, e1, e2, e0, e3⟩ := listV_form h
  refine ⟨oa, c, e1, e2, e0, fun i hi => ?_⟩
  obtain ⟨a, r, f1, f2, f3, f4⟩ := e3 i hi
  obtain ⟨x, rfl, hx⟩ := cells_one f3
  rw [Nat.mul_one] at hx
  unfold decI at f4
  split at f4
  · rename_i n hn
    injection hn with hn
    injection f4 with f4
    subst hn f4
    exact ⟨a, f1, f2, hx⟩
  · cases f4
theorem strV_form {H : Heap} {v : Value} {l : List ByteArray} (h : strV H v = some l) :
    ∃ oa c, v = .slice oa l.length c ∧ l.length < 2147483648 ∧ (oa = none → c = 0) ∧ ∀ i (hi : i < l.length), ∃ a, oa = some a ∧ flat a = true ∧ cellA H a.block (a.off + i) = some (.string l[i]) := by
  obtain ⟨oa, c, e1, e2, e0, e3⟩ := listV_form h
  refine ⟨oa, c, e1, e2, e0, fun i hi => ?_⟩
  obtain ⟨a, r, f1, f2, f3, f4⟩ := e3 i hi
  obtain ⟨x, rfl, hx⟩ := cells_one f3
  rw [Nat.mul_one] at hx
  unfold decS at f4
  split at f4
  · rename_i n hn
    injection hn with hn
    injection f4 with f4
    subst hn f4
    exact ⟨a, f1, f2, hx⟩
  · cases f4
theorem decL_form {α : Type} {sz : Nat} {dec : Dec α} {H : Heap} {v : Value} {l : List (List α)} (h : listV 1 (decL sz dec) H v = some l) :
    ∃ oa c, v = .slice oa l.length c ∧ l.length < 2147483648 ∧ (oa = none → c = 0) ∧ ∀ i (hi : i < l.length), ∃ a r, oa = some a ∧ flat a = true ∧ cellA H a.block (a.off + i) = some r ∧ listV sz dec H r = some l[i] := by
  obtain ⟨oa, c, e1, e2, e0, e3⟩ := listV_form h
  refine ⟨oa, c, e1, e2, e0, fun i hi => ?_⟩
  obtain ⟨a, r, f1, f2, f3, f4⟩ := e3 i hi
  obtain ⟨x, rfl, hx⟩ := cells_one f3
  rw [Nat.mul_one] at hx
  exact ⟨a, x, f1, f2, hx, f4⟩
theorem nestV_form {H : Heap} {v : Value} {l : List (List Int)} (h : nestV H v = some l) :
    ∃ oa c, v = .slice oa l.length c ∧ l.length < 2147483648 ∧ (oa = none → c = 0) ∧ ∀ i (hi : i < l.length), ∃ a r, oa = some a ∧ flat a = true ∧ cellA H a.block (a.off + i) = some r ∧ intV H r = some l[i] := decL_form h
/-! ### what is made reads as it was made -/
theorem chunks_one : ∀ (cs : List Value), chunks 1 cs.length cs = cs.map fun v => [v]
  | [] => rfl
  | v :: cs => by simp [chunks, chunks_one cs]
theorem listV_mk {α : Type} {dec : Dec α} {H : Heap} {a : Addr} {c : Nat} {cs : List Value} {l : List α} (hf : flat a = true) (hc : cellsA H a.block a.off cs.length = some cs) (hl : cs.length = l.length) (hlt : l.length < 2147483648) (hd : ∀ (i : Nat) v, cs[i]? = some v → dec H [v] = l[i]?) : listV 1 dec H (.slice (some a) l.length c) = some l := by
  unfold listV
  simp only
  rw [if_pos hlt]
  split
  · rename_i h0
    rw [List.length_eq_zero_iff] at h0
    rw [h0]
  · try rw [if_pos hf]
    rw [← hl, Nat.mul_one, hc]
    simp only [Option.bind_some]
    rw [chunks_one]
    refine mapO_of (by simp [hl]) fun i x hx => ?_
    simp only [List.getElem?_map, Option.map_eq_some_iff] at hx
    obtain ⟨v, hv, rfl⟩ := hx
    exact hd i v hv
theorem dec_iv {H : Heap} {l : List Int} (i : Nat) (v : Value) (h : (l.map iv)[i]? = some v) : decI H [v] = l[i]? := by
  simp only [List.getElem?_map, Option.map_eq_some_iff] at h
  obtain ⟨n, hn, rfl⟩ := h
  rw [hn]; rfl
theorem dec_sv {H : Heap} {l : List ByteArray} (i : Nat) (v : Value) (h : (l.map sv)[i]? = some v) : decS H [v] = l[i]? := by
  simp only [List.getElem?_map, Option.map_eq_some_iff] at h
  obtain ⟨n, hn, rfl⟩ := h
  rw [hn]; rfl
theorem intV_ext {H : Heap} {k c t : Nat} {l : List Int} (h : hget H k = some (.ext (l.map iv) t 1)) (hl : l.length < 2147483648) : intV H (.slice (some ⟨k, 0, some 0⟩) l.length c) = some l :=
  listV_mk (cs := l.map iv) rfl (by rw [cellsA_eq, h]; simp [List.take_of_length_le]) (by simp) hl dec_iv
theorem intV_cells {H : Heap} {k c t : Nat} {l : List Int} (h : hget H k = some (.cells (l.map iv) t)) (hl : l.length < 2147483648) : intV H (.slice (some ⟨k, 0, none⟩) l.length c) = some l :=
  listV_mk (cs := l.map iv) rfl (by rw [cellsA_eq, h]; simp [List.take_of_length_le]) (by simp) hl dec_iv
theorem intV_inp {H : Heap} {k o c : Nat} {l : List Int} (h : hget H k = some (.inp o (l.map iv))) (hl : l.length < 2147483648) : intV H (.slice (some ⟨k, o, none⟩) l.length c) = some l :=
  listV_mk (cs := l.map iv) rfl (by rw [cellsA_eq, h]; simp [List.take_of_length_le]) (by simp) hl dec_iv
theorem listV_nil {α : Type} {sz : Nat} {dec : Dec α} {H : Heap} : listV sz dec H (.slice none 0 0) = some [] := rfl
theorem listV_none {α : Type} {sz : Nat} {dec : Dec α} {H : Heap} {a : Addr} {c : Nat} : listV sz dec H (.slice (some a) 0 c) = some [] := rfl
/-- what was made since is let go -/
theorem Leads.back {P : Program} {n0 : Nat} {s s2 : St} {H : Heap} (hs2 : s2.H = H) (hold : ∀ k b, hget H k = some b → k < n0 ∧ scB (· < n0) b) (hkeep : Sub H s.H) (hn : s2.n = n0) (hz : s2.sz = s.sz) (hm : s.marks = [] ∧ s2.marks = []) (hf : ∀ x ∈ s2.fr, lk s.fr x.1 = some x.2 ∧ sc (· < n0) x.2) : Leads P n0 s s2 :=
  Leads.renN (A := []) (H := H) [] (by simpa using hs2) hold hkeep rfl (by simpa using hn) hz hm (fun x hx => .inl (hf x hx)) (by simp)
theorem cellB_sc {p : Nat → Prop} {b : Blk} {o : Nat} {v : Value} (h : scB p b) (hc : cellB o b = some v) : sc p v := by
  cases b <;> simp only [cellB] at hc
  all_goals first
    | exact (scL_iff p _).1 h v (List.mem_of_getElem? hc)
    | (split at hc
       · exact (scL_iff p _).1 h v (List.mem_of_getElem? hc)
       · cases hc)
    | cases hc
/-- what lies in a cell of an old heap is old -/
theorem cellA_sc {p : Nat → Prop} {H : Heap} {k o : Nat} {v : Value} (hold : ∀ k b, hget H k = some b → scB p b) (h : cellA H k o = some v) : sc p v := by
  rw [cellA_eq] at h
  obtain ⟨b, hb1, hb2⟩ := Option.bind_eq_some_iff.1 h
  exact cellB_sc (hold _ _ hb1) hb2
mutual
theorem ren_fix {p : Nat → Prop} {ρ : Nat → Nat} (h : ∀ k, p k → ρ k = k) : ∀ v, sc p v → ren ρ v = v
  | .bool _, _ | .int _ _, _ | .float _ _, _ | .complex _ _ _, _ | .string _, _ | .nilFunc, _ | .nilIface, _ | .chan _, _ => by simp [ren]
  | .pointer none, _ | .slice none _ _, _ | .map none, _ => by simp [ren]
  | .pointer (some a), hs => by simp only [ren]; rw [h _ hs]
  | .slice (some a) l c, hs => by simp only [ren]; rw [h _ hs]
  | .map (some r), hs => by simp only [ren]; rw [h _ hs]
  | .func (.yield l) a b, hs => by
    simp only [sc] at hs
    simp only [ren]
    rw [h _ hs.1, renL_fix h _ hs.2.1, renL_fix h _ hs.2.2]
  | .func (.func f) a b, hs | .func (.method f) a b, hs | .func (.methodOf _ f) a b, hs | .func (.via _ _ f _) a b, hs => by
    simp only [sc] at hs
    simp only [ren]
    rw [renL_fix h _ hs.1, renL_fix h _ hs.2]
  | .iface t v, hs => by simp only [ren]; rw [ren_fix h v hs]
  | .agg cs, hs => by simp only [ren]; rw [renL_fix h _ hs]
  | .tuple cs, hs => by simp only [ren]; rw [renL_fix h _ hs]
theorem renL_fix {p : Nat → Prop} {ρ : Nat → Nat} (h : ∀ k, p k → ρ k = k) : ∀ vs, scL p vs → renL ρ vs = vs
  | [], _ => rfl
  | v :: vs, hs => by simp only [renL]; rw [ren_fix h v hs.1, renL_fix h vs hs.2]
end
theorem renB_fix {p : Nat → Prop} {ρ : Nat → Nat} (h : ∀ k, p k → ρ k = k) : ∀ b, scB p b → renB ρ b = b
  | .cells cs _, hs | .ext cs _ _, hs | .inp _ cs, hs | .row cs _, hs | .tab cs, hs => by simp only [renB]; rw [renL_fix h cs hs]
  | .map es c, hs => by
    simp only [renB]
    congr 1
    have : ∀ es : List MapEntry, (∀ e ∈ es, sc p e.key ∧ sc p e.val) → es.map (fun e => ({ key := ren ρ e.key, val := ren ρ e.val, born := e.born } : MapEntry)) = es := by
      intro es
      induction es with
      | nil => intro _; rfl
      | cons e es ih =>
        intro he
        rw [List.map_cons, ih fun e' h' => he e' (List.mem_cons_of_mem _ h'), ren_fix h _ (he e (List.mem_cons_self ..)).1, ren_fix h _ (he e (List.mem_cons_self ..)).2]
    exact this es hs
  | .iter _ _, _ | .defd, _ => rfl
  | .miter none _ _ _, _ => rfl
  | .miter (some m) _ _ _, hs => by simp only [renB, Option.map_some]; rw [h m (hs m rfl)]
  | .loop .., _ => rfl
end Go.Ab

/-
Small lemmas for walks at a heap that is not named: new names and old ones, heaps that are tidied, frozen, written; a call's operations by the number of their region; lists of lists that are made.
-/
namespace Go.Ab
open Go
theorem flat_n {b o : Nat} : flat ⟨b, o, none⟩ = true := rfl
theorem flat_z {b o : Nat} : flat ⟨b, o, some 0⟩ = true := rfl
section
variable {n : Nat} {H : Heap}
@[simp] theorem namesOk_tidy : namesOk n (tidy n H) = true := (namesOk_tidyL _).1
@[simp] theorem namesOk_tidy' {c : Nat} : namesOk (n + c) (tidy n H) = true := namesOk_mono (by omega) _ (namesOk_tidyL _).1
@[simp] theorem plainH_tidy : plainH (tidy n H) = true := (namesOk_tidyL _).2
@[simp] theorem takeNew_tidy : takeNew n (frzH (tidy n H)) = [] := takeNew_frz namesOk_tidy
@[simp] theorem takeNew_tidy' {c : Nat} : takeNew (n + c) (frzH (tidy n H)) = [] := takeNew_frz namesOk_tidy'
theorem tidy_lt : ∀ k b, hget (tidy n H) k = some b → k < n := fun _ _ h => (hget_tidy.1 h).2.1
@[simp] theorem tidy_new : hget (tidy n H) n = none := (no_new tidy_lt).1
@[simp] theorem tidy_new' {c : Nat} : hget (tidy n H) (n + c) = none := (no_new tidy_lt).2 c
end
theorem AC.frame0 {P : Program} {f : FuncId} {args : List Value} {H : Heap} {n : Nat} {v : Value} {H1 : Heap} {n' : Nat} (h : AC P f args [] n v H1 n') (_ : ∀ k b, hget H1 k = some b → False) : AC P f args H n v H n' :=
  h.frame (fun k b hk => by cases hk) fun k b hk => .inr ⟨hk, rfl⟩
theorem nest_tidy {H : Heap} {n : Nat} (hold : ∀ k b, hget H k = some b → k < n ∧ scB (· < n) b) {v : Value} {ls : List (List Int)} (h : nestV H v = some ls) : nestV (tidy n H) v = some ls :=
  listV_tidy (decL_tidy decI_tidy) (fun k b hk => (hold k b hk).1) h
theorem int_tidy {H : Heap} {n : Nat} (hold : ∀ k b, hget H k = some b → k < n ∧ scB (· < n) b) {v : Value} {l : List Int} (h : intV H v = some l) : intV (tidy n H) v = some l :=
  listV_tidy decI_tidy (fun k b hk => (hold k b hk).1) h
theorem cell_read {H : Heap} {a o : Nat} {L : List Nat} (h : memN L a = true) : cellA (readA L H) a o = cellA H a o := by
  rw [cellA_eq, hget_readA, if_pos h, cellA_eq]
theorem tidy_old {H : Heap} {n : Nat} (hold : ∀ k b, hget H k = some b → k < n ∧ scB (· < n) b) : ∀ k b, hget (tidy n H) k = some b → k < n ∧ scB (· < n) b := fun k b h => hold k b (hget_tidy.1 h).1
theorem hdel_none : ∀ {H : Heap} {n : Nat}, hget H n = none → hdel H n = H
  | [], _, _ => rfl
  | (k, b) :: H, n, h => by
    rw [hget_cons] at h
    split at h
    · cases h
    · rename_i hne
      rw [hdel, beq_dec, decide_eq_false hne]
      rw [hdel_none h]
@[simp] theorem hdel_tidy {H : Heap} {n : Nat} : hdel (tidy n H) n = tidy n H := hdel_none tidy_new
@[simp] theorem sne2 {n : Nat} : (n + 1 + 1 = n) = False := eq_false (by omega)
@[simp] theorem slt2 {n : Nat} : (n < n + 1 + 1) = True := eq_true (by omega)
@[simp] theorem sle2 {n : Nat} : (n ≤ n + 1 + 1) = True := eq_true (by omega)
@[simp] theorem snm2 {n : Nat} {H : Heap} : namesOk (n + 1 + 1) (tidy n H) = true := namesOk_mono (by omega) _ (namesOk_tidyL _).1
@[simp] theorem stk2 {n : Nat} {H : Heap} : takeNew (n + 1 + 1) (frzH (tidy n H)) = [] := takeNew_frz (namesOk_mono (by omega) _ (namesOk_tidyL _).1)
@[simp] theorem stn2 {n : Nat} {H : Heap} : hget (tidy n H) (n + 1 + 1) = none := (no_new tidy_lt).2 2
@[simp] theorem sne3 {n : Nat} : (n + 1 + 1 + 1 = n) = False := eq_false (by omega)
@[simp] theorem slt3 {n : Nat} : (n < n + 1 + 1 + 1) = True := eq_true (by omega)
@[simp] theorem sle3 {n : Nat} : (n ≤ n + 1 + 1 + 1) = True := eq_true (by omega)
@[simp] theorem snm3 {n : Nat} {H : Heap} : namesOk (n + 1 + 1 + 1) (tidy n H) = true := namesOk_mono (by omega) _ (namesOk_tidyL _).1
@[simp] theorem stk3 {n : Nat} {H : Heap} : takeNew (n + 1 + 1 + 1) (frzH (tidy n H)) = [] := takeNew_frz (namesOk_mono (by omega) _ (namesOk_tidyL _).1)
@[simp] theorem stn3 {n : Nat} {H : Heap} : hget (tidy n H) (n + 1 + 1 + 1) = none := (no_new tidy_lt).2 3
@[simp] theorem sne4 {n : Nat} : (n + 1 + 1 + 1 + 1 = n) = False := eq_false (by omega)
@[simp] theorem slt4 {n : Nat} : (n < n + 1 + 1 + 1 + 1) = True := eq_true (by omega)
@[simp] theorem sle4 {n : Nat} : (n ≤ n + 1 + 1 + 1 + 1) = True := eq_true (by omega)
@[simp] theorem snm4 {n : Nat} {H : Heap} : namesOk (n + 1 + 1 + 1 + 1) (tidy n H) = true := namesOk_mono (by omega) _ (namesOk_tidyL _).1
@[simp] theorem stk4 {n : Nat} {H : Heap} : takeNew (n + 1 + 1 + 1 + 1) (frzH (tidy n H)) = [] := takeNew_frz (namesOk_mono (by omega) _ (namesOk_tidyL _).1)
@[simp] theorem stn4 {n : Nat} {H : Heap} : hget (tidy n H) (n + 1 + 1 + 1 + 1) = none := (no_new tidy_lt).2 4
@[simp] theorem sne5 {n : Nat} : (n + 1 + 1 + 1 + 1 + 1 = n) = False := eq_false (by omega)
@[simp] theorem slt5 {n : Nat} : (n < n + 1 + 1 + 1 + 1 + 1) = True := eq_true (by omega)
@[simp] theorem sle5 {n : Nat} : (n ≤ n + 1 + 1 + 1 + 1 + 1) = True := eq_true (by omega)
@[simp] theorem snm5 {n : Nat} {H : Heap} : namesOk (n + 1 + 1 + 1 + 1 + 1) (tidy n H) = true := namesOk_mono (by omega) _ (namesOk_tidyL _).1
@[simp] theorem stk5 {n : Nat} {H : Heap} : takeNew (n + 1 + 1 + 1 + 1 + 1) (frzH (tidy n H)) = [] := takeNew_frz (namesOk_mono (by omega) _ (namesOk_tidyL _).1)
@[simp] theorem stn5 {n : Nat} {H : Heap} : hget (tidy n H) (n + 1 + 1 + 1 + 1 + 1) = none := (no_new tidy_lt).2 5
@[simp] theorem sne6 {n : Nat} : (n + 1 + 1 + 1 + 1 + 1 + 1 = n) = False := eq_false (by omega)
@[simp] theorem slt6 {n : Nat} : (n < n + 1 + 1 + 1 + 1 + 1 + 1) = True := eq_true (by omega)
@[simp] theorem sle6 {n : Nat} : (n ≤ n + 1 + 1 + 1 + 1 + 1 + 1) = True := eq_true (by omega)
@[simp] theorem snm6 {n : Nat} {H : Heap} : namesOk (n + 1 + 1 + 1 + 1 + 1 + 1) (tidy n H) = true := namesOk_mono (by omega) _ (namesOk_tidyL _).1
@[simp] theorem stk6 {n : Nat} {H : Heap} : takeNew (n + 1 + 1 + 1 + 1 + 1 + 1) (frzH (tidy n H)) = [] := takeNew_frz (namesOk_mono (by omega) _ (namesOk_tidyL _).1)
@[simp] theorem stn6 {n : Nat} {H : Heap} : hget (tidy n H) (n + 1 + 1 + 1 + 1 + 1 + 1) = none := (no_new tidy_lt).2 6
@[simp] theorem sne7 {n : Nat} : (n + 1 + 1 + 1 + 1 + 1 + 1 + 1 = n) = False := eq_false (by omega)
@[simp] theorem slt7 {n : Nat} : (n < n + 1 + 1 + 1 + 1 + 1 + 1 + 1) = True := eq_true (by omega)
@[simp] theorem sle7 {n : Nat} : (n ≤ n + 1 + 1 + 1 + 1 + 1 + 1 + 1) = True := eq_true (by omega)
@[simp] theorem snm7 {n : Nat} {H : Heap} : namesOk (n + 1 + 1 + 1 + 1 + 1 + 1 + 1) (tidy n H) = true := namesOk_mono (by omega) _ (namesOk_tidyL _).1
@[simp] theorem stk7 {n : Nat} {H : Heap} : takeNew (n + 1 + 1 + 1 + 1 + 1 + 1 + 1) (frzH (tidy n H)) = [] := takeNew_frz (namesOk_mono (by omega) _ (namesOk_tidyL _).1)
@[simp] theorem stn7 {n : Nat} {H : Heap} : hget (tidy n H) (n + 1 + 1 + 1 + 1 + 1 + 1 + 1) = none := (no_new tidy_lt).2 7
@[simp] theorem sne8 {n : Nat} : (n + 1 + 1 + 1 + 1 + 1 + 1 + 1 + 1 = n) = False := eq_false (by omega)
@[simp] theorem slt8 {n : Nat} : (n < n + 1 + 1 + 1 + 1 + 1 + 1 + 1 + 1) = True := eq_true (by omega)
@[simp] theorem sle8 {n : Nat} : (n ≤ n + 1 + 1 + 1 + 1 + 1 + 1 + 1 + 1) = True := eq_true (by omega)
@[simp] theorem snm8 {n : Nat} {H : Heap} : namesOk (n + 1 + 1 + 1 + 1 + 1 + 1 + 1 + 1) (tidy n H) = true := namesOk_mono (by omega) _ (namesOk_tidyL _).1
@[simp] theorem stk8 {n : Nat} {H : Heap} : takeNew (n + 1 + 1 + 1 + 1 + 1 + 1 + 1 + 1) (frzH (tidy n H)) = [] := takeNew_frz (namesOk_mono (by omega) _ (namesOk_tidyL _).1)
@[simp] theorem stn8 {n : Nat} {H : Heap} : hget (tidy n H) (n + 1 + 1 + 1 + 1 + 1 + 1 + 1 + 1) = none := (no_new tidy_lt).2 8
@[simp] theorem sne9 {n : Nat} : (n + 1 + 1 + 1 + 1 + 1 + 1 + 1 + 1 + 1 = n) = False := eq_false (by omega)
@[simp] theorem slt9 {n : Nat} : (n < n + 1 + 1 + 1 + 1 + 1 + 1 + 1 + 1 + 1) = True := eq_true (by omega)
@[simp] theorem sle9 {n : Nat} : (n ≤ n + 1 + 1 + 1 + 1 + 1 + 1 + 1 + 1 + 1) = True := eq_true (by omega)
@[simp] theorem snm9 {n : Nat} {H : Heap} : namesOk (n + 1 + 1 + 1 + 1 + 1 + 1 + 1 + 1 + 1) (tidy n H) = true := namesOk_mono (by omega) _ (namesOk_tidyL _).1
@[simp] theorem stk9 {n : Nat} {H : Heap} : takeNew (n + 1 + 1 + 1 + 1 + 1 + 1 + 1 + 1 + 1) (frzH (tidy n H)) = [] := takeNew_frz (namesOk_mono (by omega) _ (namesOk_tidyL _).1)
@[simp] theorem stn9 {n : Nat} {H : Heap} : hget (tidy n H) (n + 1 + 1 + 1 + 1 + 1 + 1 + 1 + 1 + 1) = none := (no_new tidy_lt).2 9
def mv (q m k : Nat) : Nat := if k = q then m else k
theorem mv_lt {q m k : Nat} (h : k < q) : mv q m k = k := if_neg (by omega)
theorem mv_eq {q m : Nat} : mv q m q = m := if_pos rfl
theorem put_at {α : Type} {cs : List α} {i : Nat} {v : α} (h : i < cs.length) : cs.take i ++ [v] ++ cs.drop (i + 1) = cs.set i v := by
  rw [List.set_eq_take_append_cons_drop, if_pos h, List.append_assoc]
  rfl
theorem store_at {H : Heap} {b i : Nat} {t : TypeId} {cs : List Value} {v : Value} (h : hget H b = some (.cells cs t)) (hi : i < cs.length) : storeA H b i [v] = some (hset H b (.cells (cs.set i v) t)) := by
  unfold storeA
  rw [h]
  simp only [List.length_cons, List.length_nil, putL]
  rw [if_pos (by omega), put_at hi]
theorem hget_set {H : Heap} {b k : Nat} {x : Blk} : hget (hset H b x) k = if b = k then (hget H b).map fun _ => x else hget H k := by
  rw [hget_hset]
theorem Fresh.pair {n n2 : Nat} {H B H1 : Heap} {v u : Value} (h : Fresh n n2 H v B u H1) (e : Int) : Fresh n n2 H (.tuple #[v, Value.int .i64 e]) B (.tuple #[u, Value.int .i64 e]) H1 := by
  obtain ⟨ρ, h1, h2, h3⟩ := h
  exact ⟨ρ, h1, by rw [h2]; simp [ren], h3⟩
theorem handA_nil : ∀ H : Heap, handA [] [] H = []
  | [] => rfl
  | (k, b) :: H => by simp only [handA]; exact handA_nil H
theorem namesOk_iff {k : Nat} : ∀ {H : Heap}, namesOk k H = true ↔ ∀ x ∈ H, x.1 < k
  | [] => by simp [namesOk]
  | (i, b) :: H => by
    rw [namesOk]
    by_cases h : i < k
    · rw [(blt_iff _ _).2 h]
      simp [namesOk_iff (H := H), h]
    · have : Nat.blt i k = false := by rw [← Bool.not_eq_true, blt_iff]; exact h
      rw [this]
      simp [h]
theorem hget_in : ∀ {H : Heap} {k : Nat} {b : Blk}, hget H k = some b → ∃ x ∈ H, x.1 = k
  | [], _, _, h => by cases h
  | (j, c) :: H, k, b, h => by
    rw [hget_cons] at h
    split at h
    · rename_i e; exact ⟨(j, c), List.mem_cons_self .., e⟩
    · obtain ⟨x, hx, e⟩ := hget_in h
      exact ⟨x, List.mem_cons_of_mem _ hx, e⟩
theorem namesOk_none {H : Heap} {k : Nat} (h : namesOk k H = true) : ∀ j, k ≤ j → hget H j = none := fun j hj => by
  cases e : hget H j with
  | none => rfl
  | some b =>
    obtain ⟨x, hx, e⟩ := hget_in e
    have := namesOk_iff.1 h x hx
    omega
theorem hdel_mem : ∀ {H : Heap} {k : Nat} {x : Nat × Blk}, x ∈ hdel H k → x ∈ H
  | [], _, _, h => h
  | (i, b) :: H, k, x, h => by
    rw [hdel] at h
    split at h
    · exact List.mem_cons_of_mem _ (hdel_mem h)
    · rcases List.mem_cons.1 h with rfl | h
      · exact List.mem_cons_self ..
      · exact List.mem_cons_of_mem _ (hdel_mem h)
theorem hset_mem : ∀ {H : Heap} {k : Nat} {c : Blk} {x : Nat × Blk}, x ∈ hset H k c → ∃ y ∈ H, y.1 = x.1
  | [], _, _, _, h => by cases h
  | (i, b) :: H, k, c, x, h => by
    rw [hset] at h
    split at h
    · rcases List.mem_cons.1 h with rfl | h
      · exact ⟨(i, b), List.mem_cons_self .., rfl⟩
      · first
        | exact ⟨x, List.mem_cons_of_mem _ h, rfl⟩
        | (obtain ⟨y, hy, e⟩ := hset_mem h; exact ⟨y, List.mem_cons_of_mem _ hy, e⟩)
    · rcases List.mem_cons.1 h with rfl | h
      · exact ⟨(i, b), List.mem_cons_self .., rfl⟩
      · obtain ⟨y, hy, e⟩ := hset_mem h
        exact ⟨y, List.mem_cons_of_mem _ hy, e⟩
theorem namesOk_hdel {H : Heap} {k j : Nat} (h : namesOk k H = true) : namesOk k (hdel H j) = true := namesOk_iff.2 fun x hx => namesOk_iff.1 h x (hdel_mem hx)
theorem namesOk_hset {H : Heap} {k j : Nat} {c : Blk} (h : namesOk k H = true) : namesOk k (hset H j c) = true := namesOk_iff.2 fun x hx => by
  obtain ⟨y, hy, e⟩ := hset_mem hx
  have := namesOk_iff.1 h y hy
  omega
theorem namesOk_put {H : Heap} {k j : Nat} {c : Blk} (hj : j < k) (h : namesOk k H = true) : namesOk k ((j, c) :: H) = true := by
  rw [namesOk, (blt_iff _ _).2 hj]; exact h
def opsIn : Code → Nat → Option (Array Oper)
  | .region id ops _, i => match Nat.beq id i with
    | true => some ops
    | false => none
  | .seq a b, i => match opsIn a i with
    | some o => some o
    | none => opsIn b i
  | .block _ c, i => opsIn c i
  | .loop c, i => opsIn c i
  | .cond _ a b, i => match opsIn a i with
    | some o => some o
    | none => opsIn b i
  | _, _ => none
def opsAt (f : Func) (i : Nat) : Option (Array Oper) := match f.body with
  | some c => opsIn c i
  | none => none
theorem takeNew_app {n : Nat} {B : Heap} : ∀ {A : Heap}, (∀ x ∈ A, n ≤ x.1) → takeNew n (A ++ B) = A ++ takeNew n B
  | [], _ => rfl
  | (k, b) :: A, h => by
    have : Nat.ble n k = true := Nat.ble_eq_true_of_le (h (k, b) (List.mem_cons_self ..))
    rw [List.cons_append, takeNew, this]
    simp only
    rw [takeNew_app fun x hx => h x (List.mem_cons_of_mem _ hx)]
    rfl
theorem plainH_app {B : Heap} : ∀ {A : Heap}, plainH A = true → plainH B = true → plainH (A ++ B) = true
  | [], _, h => h
  | (k, b) :: A, h1, h2 => by
    rw [plainH] at h1
    rw [List.cons_append, plainH]
    rw [Bool.and_eq_true] at h1 ⊢
    exact ⟨h1.1, plainH_app h1.2 h2⟩
theorem namesOk_app {n : Nat} {A B : Heap} (h1 : ∀ x ∈ A, x.1 < n) (h2 : namesOk n B = true) : namesOk n (A ++ B) = true := namesOk_iff.2 fun x hx => by
  rcases List.mem_append.1 hx with h | h
  · exact h1 x h
  · exact namesOk_iff.1 h2 x h
theorem one_cell {H : Heap} {k o : Nat} {x : Value} (h : cellsA H k o 1 = some [x]) : cellA H k o = some x := by
  obtain ⟨y, e, h⟩ := cells_one h
  injection e with e
  rw [e]; exact h
def names (c : Nat) : Nat → List Nat
  | 0 => []
  | k + 1 => c :: names (c + 1) k
theorem names_len : ∀ (k c : Nat), (names c k).length = k
  | 0, _ => rfl
  | k + 1, c => by simp [names, names_len k]
theorem names_get : ∀ (k c i : Nat), i < k → (names c k)[i]? = some (c + i)
  | 0, _, _, h => by omega
  | k + 1, c, 0, _ => by simp [names]
  | k + 1, c, i + 1, h => by
    rw [names, List.getElem?_cons_succ, names_get k (c + 1) i (by omega)]
    congr 1; omega
theorem names_snoc : ∀ (k c : Nat), names c (k + 1) = names c k ++ [c + k]
  | 0, c => by simp [names]
  | k + 1, c => by
    rw [names, names_snoc k (c + 1), names, List.cons_append]
    congr 3
    omega
theorem names_ge : ∀ (k c m : Nat), m ∈ names c k → c ≤ m ∧ m < c + k
  | 0, _, _, h => by cases h
  | k + 1, c, m, h => by
    rcases List.mem_cons.1 h with rfl | h
    · omega
    · have := names_ge k (c + 1) m h
      omega
theorem names_nodup : ∀ (k c : Nat), (names c k).Nodup
  | 0, _ => List.nodup_nil
  | k + 1, c => List.nodup_cons.2 ⟨fun h => by have := names_ge k (c + 1) c h; omega, names_nodup k (c + 1)⟩
theorem names_at {k c i m : Nat} (h : (names c k)[i]? = some m) : m = c + i ∧ i < k := by
  have hi : i < (names c k).length := (List.getElem?_eq_some_iff.1 h).1
  rw [names_len] at hi
  rw [names_get _ _ _ hi] at h
  injection h with h
  exact ⟨h.symm, hi⟩
/-- how a row that is made lies; 'dec' reads its elements -/
structure RowK (α : Type) (dec : Dec α) where
  val : Nat → List α → Value
  blk : List α → Blk
  ren : ∀ (ρ : Nat → Nat) m l, Ab.ren ρ (val m l) = val (ρ m) l
  sc : ∀ (p : Nat → Prop) m l, p m → Ab.sc p (val m l)
  fix : ∀ (ρ : Nat → Nat) l, renB ρ (blk l) = blk l
  scB : ∀ (p : Nat → Prop) l, Ab.scB p (blk l)
  car : ∀ l, carried (blk l)
  own : ∀ l, (blk l).own = true
  see : ∀ H m l, hget H m = some (blk l) → l.length < 2147483648 → listV 1 dec H (val m l) = some l
/-- how the list of rows lies -/
structure LstK where
  val : Nat → Nat → Value
  blk : List Value → Blk
  ren : ∀ (ρ : Nat → Nat) m k, Ab.ren ρ (val m k) = val (ρ m) k
  sc : ∀ (p : Nat → Prop) m k, p m → Ab.sc p (val m k)
  af : ∀ m k, Ab.af (val m k) = false
  fix : ∀ (ρ : Nat → Nat) l, renB ρ (blk l) = blk (renL ρ l)
  scB : ∀ (p : Nat → Prop) l, scL p l → Ab.scB p (blk l)
  car : ∀ l, carried (blk l)
  own : ∀ l, (blk l).own = true
  cells : ∀ H m l, hget H m = some (blk l) → cellsA H m 0 l.length = some l
  form : ∀ m k, ∃ s c, val m k = .slice (some ⟨m, 0, s⟩) k c ∧ flat ⟨m, 0, s⟩ = true
/-- rows of one cell an element, without addresses -/
structure En (α : Type) (dec : Dec α) where
  to : α → Value
  ren : ∀ (ρ : Nat → Nat) x, Ab.ren ρ (to x) = to x
  sc : ∀ (p : Nat → Prop) x, Ab.sc p (to x)
  one : ∀ H x, dec H [to x] = some x
theorem En.renL {α : Type} {dec : Dec α} (e : En α dec) (ρ : Nat → Nat) : ∀ l : List α, Ab.renL ρ (l.map e.to) = l.map e.to
  | [] => rfl
  | x :: l => by simp only [List.map_cons, Ab.renL, e.ren, e.renL ρ l]
theorem En.scL {α : Type} {dec : Dec α} (e : En α dec) (p : Nat → Prop) : ∀ l : List α, Ab.scL p (l.map e.to)
  | [] => trivial
  | x :: l => ⟨e.sc p x, e.scL p l⟩
theorem En.dec {α : Type} {dec : Dec α} (e : En α dec) {H : Heap} {l : List α} (i : Nat) (v : Value) (h : (l.map e.to)[i]? = some v) : dec H [v] = l[i]? := by
  rw [List.getElem?_map, Option.map_eq_some_iff] at h
  obtain ⟨x, hx, rfl⟩ := h
  rw [e.one, hx]
/-- rows made by 'make', or of literals -/
def kMk {α : Type} {dec : Dec α} (e : En α dec) (t : TypeId) : RowK α dec where
  val := fun m l => .slice (some ⟨m, 0, none⟩) l.length l.length
  blk := fun l => .cells (l.map e.to) t
  ren := fun ρ m l => rfl
  sc := fun p m l h => h
  fix := fun ρ l => by simp only [renB, e.renL]
  scB := fun p l => e.scL p l
  car := fun l => trivial
  own := fun l => rfl
  see := fun H m l h hl => listV_mk (cs := l.map e.to) rfl (by rw [cellsA_eq, h]; simp [cellsB]; exact List.take_of_length_le (by simp)) (by simp) hl fun i v hv => e.dec i v hv
/-- rows copied by an append to a slice that is empty -/
def kCp {α : Type} {dec : Dec α} (e : En α dec) (t : TypeId) : RowK α dec where
  val := fun m l => if l.length = 0 then .slice (some ⟨m, 0, none⟩) 0 0 else .slice (some ⟨m, 0, some 0⟩) l.length 0
  blk := fun l => if l.length = 0 then .cells [] t else .ext (l.map e.to) t 1
  ren := fun ρ m l => by split <;> rfl
  sc := fun p m l h => by split <;> exact h
  fix := fun ρ l => by
    split
    · simp [renB, Ab.renL]
    · simp only [renB, e.renL]
  scB := fun p l => by
    split
    · trivial
    · exact e.scL p l
  car := fun l => by split <;> trivial
  own := fun l => by split <;> rfl
  see := fun H m l h hl => by
    by_cases h0 : l.length = 0
    · obtain rfl := List.length_eq_zero_iff.1 h0
      rfl
    · rw [if_neg h0] at h ⊢
      exact listV_mk (cs := l.map e.to) rfl (by rw [cellsA_eq, h]; simp [cellsB]; exact List.take_of_length_le (by simp)) (by simp) hl fun i v hv => e.dec i v hv
def oMk (t : TypeId) : LstK where
  val := fun m k => .slice (some ⟨m, 0, none⟩) k k
  blk := fun l => .cells l t
  ren := fun ρ m l => rfl
  sc := fun p m l h => h
  af := fun m k => rfl
  fix := fun ρ l => rfl
  scB := fun p l h => h
  car := fun l => trivial
  own := fun l => rfl
  cells := fun H m l h => by rw [cellsA_eq, h]; simp [cellsB]
  form := fun m k => ⟨none, k, rfl, rfl⟩
def oEx (t : TypeId) : LstK where
  val := fun m k => .slice (some ⟨m, 0, some 0⟩) k 0
  blk := fun l => .ext l t 1
  ren := fun ρ m l => rfl
  sc := fun p m l h => h
  af := fun m k => rfl
  fix := fun ρ l => rfl
  scB := fun p l h => h
  car := fun l => trivial
  own := fun l => rfl
  cells := fun H m l h => by rw [cellsA_eq, h]; simp [cellsB]
  form := fun m k => ⟨some 0, 0, rfl, rfl⟩
section
variable {α : Type} {dec : Dec α}
def kvs (K : RowK α dec) : List Nat → List (List α) → List Value
  | m :: ms, l :: ls => K.val m l :: kvs K ms ls
  | _, _ => []
def kbs (K : RowK α dec) : List Nat → List (List α) → Heap
  | m :: ms, l :: ls => (m, K.blk l) :: kbs K ms ls
  | _, _ => []
theorem kvs_len (K : RowK α dec) : ∀ (ms : List Nat) (ls : List (List α)), ms.length = ls.length → (kvs K ms ls).length = ls.length
  | [], [], _ => rfl
  | m :: ms, l :: ls, h => by simp [kvs, kvs_len K ms ls (by simpa using h)]
  | [], _ :: _, h => by simp at h
  | _ :: _, [], h => by simp at h
theorem kvs_get (K : RowK α dec) : ∀ (ms : List Nat) (ls : List (List α)) (i m : Nat) (l : List α), ms[i]? = some m → ls[i]? = some l → (kvs K ms ls)[i]? = some (K.val m l)
  | m' :: ms, l' :: ls, 0, m, _, h1, h2 => by simp at h1 h2; subst h1 h2; simp [kvs]
  | m' :: ms, l' :: ls, i + 1, m, l, h1, h2 => by
    simp only [List.getElem?_cons_succ] at h1 h2
    rw [kvs, List.getElem?_cons_succ]
    exact kvs_get K ms ls i m l h1 h2
  | [], _, i, m, l, h1, _ => by simp at h1
  | _ :: _, [], i, m, l, _, h2 => by simp at h2
theorem kvs_ren (K : RowK α dec) (ρ : Nat → Nat) : ∀ (ms : List Nat) (ls : List (List α)), renL ρ (kvs K ms ls) = kvs K (ms.map ρ) ls
  | m :: ms, l :: ls => by simp only [kvs, renL, K.ren, List.map_cons, kvs_ren K ρ ms ls]
  | [], _ => rfl
  | _ :: _, [] => rfl
theorem kvs_sc (K : RowK α dec) {p : Nat → Prop} : ∀ (ms : List Nat) (ls : List (List α)), (∀ m ∈ ms, p m) → scL p (kvs K ms ls)
  | m :: ms, _l :: ls, h => ⟨K.sc _ _ _ (h m (List.mem_cons_self ..)), kvs_sc K ms ls fun k hk => h k (List.mem_cons_of_mem _ hk)⟩
  | [], _, _ => trivial
  | _ :: _, [], _ => trivial
theorem hget_kbs (K : RowK α dec) : ∀ (ms : List Nat) (ls : List (List α)) (k : Nat) (b : Blk), hget (kbs K ms ls) k = some b → ∃ (i : Nat) (l : List α), ms[i]? = some k ∧ ls[i]? = some l ∧ b = K.blk l
  | m :: ms, l :: ls, k, b, h => by
    rw [kbs, hget_cons] at h
    split at h
    · rename_i e; subst e; injection h with h
      exact ⟨0, l, rfl, rfl, h.symm⟩
    · obtain ⟨i, l', h1, h2, h3⟩ := hget_kbs K ms ls k b h
      exact ⟨i + 1, l', by simpa using h1, by simpa using h2, h3⟩
  | [], _, k, b, h => by simp [kbs] at h
  | _ :: _, [], k, b, h => by simp [kbs] at h
theorem kbs_at (K : RowK α dec) : ∀ (L c : Nat) (ls : List (List α)) (i : Nat) (l : List α), ls.length = L → ls[i]? = some l → ∀ H, hget (kbs K (names c L) ls ++ H) (c + i) = some (K.blk l)
  | 0, c, ls, i, l, h1, h2, H => by
    rw [List.length_eq_zero_iff] at h1; subst h1; simp at h2
  | L + 1, c, l' :: ls, 0, l, h1, h2, H => by
    simp at h2; subst h2
    rw [names, kbs, List.cons_append, hget_cons, if_pos (by omega)]
  | L + 1, c, l' :: ls, i + 1, l, h1, h2, H => by
    simp only [List.getElem?_cons_succ] at h2
    rw [names, kbs, List.cons_append, hget_cons, if_neg (by omega), show c + (i + 1) = c + 1 + i by omega]
    exact kbs_at K L (c + 1) ls i l (by simpa using h1) h2 H
  | L + 1, c, [], i, l, h1, h2, H => by simp at h2
def ndV (O : LstK) (n : Nat) (ls : List (List α)) : Value := O.val n ls.length
def ndB (K : RowK α dec) (O : LstK) (n : Nat) (ls : List (List α)) : Heap := (n, O.blk (kvs K (names (n + 1) ls.length) ls)) :: kbs K (names (n + 1) ls.length) ls
theorem ndB_names {K : RowK α dec} {O : LstK} {n : Nat} {ls : List (List α)} : ∀ x ∈ ndB K O n ls, n ≤ x.1 ∧ x.1 < n + 1 + ls.length := by
  intro x hx
  rcases List.mem_cons.1 hx with rfl | hx
  · exact ⟨Nat.le_refl _, by dsimp only; omega⟩
  · have key : ∀ (L c : Nat) (xs : List (List α)), ∀ x ∈ kbs K (names c L) xs, c ≤ x.1 ∧ x.1 < c + L := by
      intro L
      induction L with
      | zero => intro c xs x hx; cases hx
      | succ L ih =>
        intro c xs x hx
        cases xs with
        | nil => cases hx
        | cons y ys =>
          rcases List.mem_cons.1 hx with rfl | hx
          · exact ⟨Nat.le_refl _, by dsimp only; omega⟩
          · have := ih (c + 1) ys x hx
            omega
    have := key _ _ _ x hx
    omega
theorem sub_nd {K : RowK α dec} {O : LstK} {n : Nat} {ls : List (List α)} {H : Heap} (h : ∀ j, n ≤ j → hget H j = none) : Sub H (ndB K O n ls ++ H) :=
  Sub.app (fun x hx => h _ (ndB_names x hx).1) (Sub.refl _)
theorem nestV_nd {K : RowK α dec} {O : LstK} {n : Nat} {ls : List (List α)} {H : Heap} (h1 : ls.length < 2147483648) (h2 : ∀ l ∈ ls, l.length < 2147483648) : listV 1 (decL 1 dec) (ndB K O n ls ++ H) (ndV O n ls) = some ls := by
  obtain ⟨s, c, hv, hf⟩ := O.form n ls.length
  have hl := kvs_len K (names (n + 1) ls.length) ls (names_len _ _)
  rw [ndV, hv]
  refine listV_mk (cs := kvs K (names (n + 1) ls.length) ls) hf ?_ hl h1 fun i v hi => ?_
  · exact O.cells _ _ _ (by rw [ndB, List.cons_append, hget_cons, if_pos rfl])
  · have hi' : i < ls.length := by
      have := (List.getElem?_eq_some_iff.1 hi).1
      omega
    have e1 := kvs_get K (names (n + 1) ls.length) ls i _ ls[i] (names_get _ _ i hi') (List.getElem?_eq_getElem hi')
    rw [e1] at hi
    injection hi with hi
    subst hi
    rw [List.getElem?_eq_getElem hi']
    refine K.see _ _ _ ?_ (h2 _ (List.getElem_mem hi'))
    rw [ndB, List.cons_append, hget_cons, if_neg (by omega)]
    exact kbs_at K _ _ ls i _ rfl (List.getElem?_eq_getElem hi') H
theorem outK_nd {K : RowK α dec} {O : LstK} {n o : Nat} {ms : List Nat} {ls : List (List α)} {H H1 : Heap} {u : Value} (hu : u = O.val o ls.length) (hlen : ms.length = ls.length) (ho : n ≤ o) (hms : ∀ m ∈ ms, n ≤ m ∧ m ≠ o) (hnd : ms.Nodup) (hO : hget H1 o = some (O.blk (kvs K ms ls))) (hK : ∀ (i m : Nat) (l : List α), ms[i]? = some m → ls[i]? = some l → hget H1 m = some (K.blk l)) (hs : Sub H H1) :
    Fresh n (n + 1 + ls.length) H (ndV O n ls) (ndB K O n ls) u H1 := by
  let ρ : Nat → Nat := fun k => if k < n then k else if k = n then o else ms.getD (k - (n + 1)) 0
  have hlow : ∀ k, k < n → ρ k = k := fun k hk => by simp only [ρ]; rw [if_pos hk]
  have hn : ρ n = o := by simp [ρ]
  have hrow : ∀ i m, ms[i]? = some m → ρ (n + 1 + i) = m := fun i m hi => by
    simp only [ρ]
    rw [if_neg (by omega), if_neg (by omega), show n + 1 + i - (n + 1) = i by omega, List.getD_eq_getElem?_getD, hi]
    rfl
  have hmap : (names (n + 1) ls.length).map ρ = ms := by
    apply List.ext_getElem?
    intro i
    by_cases hi : i < ls.length
    · rw [List.getElem?_map, names_get _ _ _ hi]
      obtain ⟨m, hm⟩ : ∃ m, ms[i]? = some m := ⟨_, List.getElem?_eq_getElem (by omega)⟩
      rw [hm, Option.map_some, hrow i m hm]
    · rw [List.getElem?_eq_none (by rw [List.length_map, names_len]; omega), List.getElem?_eq_none (by omega)]
  have hB : ∀ k b, hget (ndB K O n ls) k = some b → (k = n ∧ b = O.blk (kvs K (names (n + 1) ls.length) ls)) ∨ ∃ (i m : Nat) (l : List α), i < ls.length ∧ k = n + 1 + i ∧ ms[i]? = some m ∧ ls[i]? = some l ∧ b = K.blk l := fun k b hk => by
    rw [ndB, hget_cons] at hk
    split at hk
    · rename_i e; subst e; injection hk with hk; exact .inl ⟨rfl, hk.symm⟩
    · obtain ⟨i, l, h1, h2, h3⟩ := hget_kbs K _ _ k b hk
      have hi : i < ls.length := (List.getElem?_eq_some_iff.1 h2).1
      rw [names_get _ _ _ hi] at h1
      injection h1 with h1
      exact .inr ⟨i, ms[i]'(by omega), l, hi, h1.symm, List.getElem?_eq_getElem (by omega), h2, h3⟩
  refine ⟨ρ, hlow, by rw [hu, ndV, O.ren, hn], fun k b hk => ?_, fun j b k c hj hk e => ?_, hs⟩
  · rcases hB k b hk with ⟨rfl, rfl⟩ | ⟨i, m, l, h1, rfl, h3, h4, rfl⟩
    · refine ⟨Nat.le_refl _, by omega, by rw [hn]; exact ho, ?_, ?_, O.car _, O.own _⟩
      · rw [hn, O.fix, kvs_ren, hmap]; exact hO
      · refine O.scB _ _ (kvs_sc K _ _ fun m hm => ?_)
        obtain ⟨i, hi, rfl⟩ := List.getElem_of_mem hm
        rw [names_len] at hi
        have := names_get ls.length (k + 1) i hi
        rw [List.getElem?_eq_getElem (by rw [names_len]; exact hi)] at this
        injection this with this
        rw [this]
        show k + 1 + i < k + 1 + ls.length
        omega
    · refine ⟨by omega, by omega, ?_, ?_, K.scB _ _, K.car _, K.own _⟩
      · rw [hrow i m h3]; exact (hms m (List.mem_of_getElem? h3)).1
      · rw [hrow i m h3, K.fix]; exact hK i m l h3 h4
  · rcases hB j b hj with ⟨rfl, _⟩ | ⟨i, m, l, h1, rfl, h3, _, _⟩ <;> rcases hB k c hk with ⟨rfl, _⟩ | ⟨i', m', l', h1', rfl, h3', _, _⟩
    · rfl
    · rw [hn, hrow i' m' h3'] at e
      exact absurd e.symm (hms m' (List.mem_of_getElem? h3')).2
    · rw [hn, hrow i m h3] at e
      exact absurd e (hms m (List.mem_of_getElem? h3)).2
    · rw [hrow i m h3, hrow i' m' h3'] at e
      have hi : i < ms.length := (List.getElem?_eq_some_iff.1 h3).1
      have hi' : i' < ms.length := (List.getElem?_eq_some_iff.1 h3').1
      have e1 : ms[i] = m := by rw [List.getElem?_eq_getElem hi] at h3; exact Option.some.inj h3
      have e2 : ms[i'] = m' := by rw [List.getElem?_eq_getElem hi'] at h3'; exact Option.some.inj h3'
      have := (List.nodup_iff_pairwise_ne.1 hnd)
      rw [List.pairwise_iff_getElem] at this
      rcases Nat.lt_trichotomy i i' with h | h | h
      · exact absurd (e1.trans (e.trans e2.symm)) (this i i' hi hi' h)
      · subst h; rfl
      · exact absurd (e2.trans (e.symm.trans e1.symm)) (this i' i hi' hi h)
theorem kvs_snoc (K : RowK α dec) {m : Nat} {l : List α} : ∀ (ms : List Nat) (R : List (List α)), ms.length = R.length → kvs K (ms ++ [m]) (R ++ [l]) = kvs K ms R ++ [K.val m l]
  | [], [], _ => rfl
  | _ :: ms, _ :: R, h => by simp [kvs, kvs_snoc K ms R (by simpa using h)]
  | [], _ :: _, h => by simp at h
  | _ :: _, [], h => by simp at h
theorem outK_mv {K : RowK α dec} {O : LstK} {n o : Nat} {ls : List (List α)} {H H1 : Heap} (ho : n ≤ o) (hs : Sub H H1) (hH1 : ∀ j, o ≤ j → hget H1 j = none) : Fresh n (n + 1 + ls.length) H (ndV O n ls) (ndB K O n ls) (ndV O o ls) (ndB K O o ls ++ H1) := by
  refine outK_nd (o := o) (ms := names (o + 1) ls.length) rfl (names_len _ _) ho (fun m hm => ?_) (names_nodup _ _) ?_ (fun i m l h1 h2 => ?_) (hs.trans (sub_nd hH1))
  · have := names_ge _ _ _ hm
    omega
  · rw [ndB, List.cons_append, hget_cons, if_pos rfl]
  · obtain ⟨rfl, hi⟩ := names_at h1
    rw [ndB, List.cons_append, hget_cons, if_neg (by omega)]
    exact kbs_at K _ _ ls i _ rfl h2 H1
end
/-- behind the body: old blocks are written, nothing new is handed back -/
def wroteK (P : Program) (fn : Func) (H' : Heap) (v : Value) (e : Ex) (st : St) : Prop :=
  (e = .normal ∨ e = .ret) ∧ st.marks = [] ∧ (∃ vs, resultsA P st.fr st.H fn.results.toList = some vs ∧ one vs = v) ∧ ∀ k b, hget H' k = some b → hget st.H k = some b
theorem AC.wrote {P : Program} {f : FuncId} {fn : Func} {c : Code} {args : List Value} {H H' : Heap} {n : Nat} {v : Value} (hf : P.funcs[f]? = some fn) (hb : fn.body = some c) (he : enterable P f = true) (hlen : Nat.ble args.length fn.ntmps = true) (vs : List Nat) (hv : af v = true)
    (hw : ∀ k b, hget H' k = some b → k < n ∧ (hget H k = some b ∨ ((∃ b0, hget H k = some b0) ∧ scB (fun _ => False) b)))
    (h : E P n none c { fr := argsFr args 0, sz := fn.ntmps, H, n, marks := [], vs } (wroteK P fn H' v)) : AC P f args H n v H' n := by
  obtain ⟨e, st, hA, hen, hm, ⟨us, hus, hone⟩, hsub⟩ := h
  have hleave : ∃ H1, leaveF P fn args n st = some (v, H1, st.n) ∧ ∀ k b, hget H' k = some b → hget H1 k = some b := by
    unfold leaveF
    rw [hm]
    simp only [shutA, hus, hone]
    cases hc : (af v && args.all dropOk) with
    | true => exact ⟨_, rfl, fun k b hk => by rw [hget_dropNew, if_pos (hw k b hk).1]; exact hsub k b hk⟩
    | false => exact ⟨_, rfl, hsub⟩
  obtain ⟨H1, hl, hs⟩ := hleave
  refine (bodyAT_ok hf hb he (Nat.le_of_ble_eq_true hlen) hen (ATX.at hA) hl).sub hv fun k b hk => ⟨hs k b hk, ?_⟩
  obtain ⟨h1, h2⟩ := hw k b hk
  rcases h2 with h2 | ⟨h2, h3⟩
  · exact .inl h2
  · exact .inr ⟨h1, h2, h3⟩
end Go.Ab

/-
Contracts of functions that write old blocks and hand back a value that names old blocks; handed lists of texts of whatever length; lists of rows of several kinds.
-/
namespace Go.Ab
open Go
theorem AC.subV {P : Program} {f : FuncId} {args : List Value} {H : Heap} {n : Nat} {v : Value} {H1 : Heap} {n1 : Nat} {H2 : Heap} (h : AC P f args H n v H1 n1) (hv : sc (· < n) v)
    (hs : ∀ k b, hget H2 k = some b → hget H1 k = some b ∧ (hget H k = some b ∨ (k < n ∧ (∃ b0, hget H k = some b0) ∧ scB (fun _ => False) b))) : AC P f args H n v H2 n := by
  intro p φ w hB hsc
  have key : ∀ φ' w', Dn P p φ n (hget H) w v n1 (hget H1) φ' w' → den φ' v = den φ v ∧ Dn P p φ n (hget H) w v n (hget H2) φ w' := by
    intro φ' w' hd
    obtain ⟨hsm, hscv, hst⟩ := hd
    have hp : ∀ k b, hget H2 k = some b → p k ∧ scB p b := fun k b hk => by
      rcases (hs k b hk).2 with h | ⟨_, ⟨b0, h0⟩, h2⟩
      · exact hB.sm k b h
      · exact ⟨(hB.sm k b0 h0).1, scB_mono (fun _ h => h.elim) _ h2⟩
    have hagr : Agr p φ' φ := fun k hk => ⟨(hst.only k (.inl (hB.lt k hk))).1.symm, (hst.only k (.inl (hB.lt k hk))).2.symm⟩
    have hpv : sc p v := sc_mono (fun k hk => by
      rcases hk.1 with h | h
      · exact h
      · have := hk.2; omega) v (sc_and v hscv hv)
    refine ⟨(den_congr hagr v hpv).symm, fun k b hk => ⟨.inl (hp k b hk).1, scB_mono (fun _ h => .inl h) _ (hp k b hk).2⟩, sc_mono (fun _ h => .inl h) v hpv, Nat.le_refl _, fun _ _ => ⟨rfl, rfl⟩, ?_, fun k b hk ho => ?_, fun k b hk ho => ?_, hst.frm⟩
    · exact (hst.rel.sub fun k b hk => (hs k b hk).1).congr hp hagr hB.rel.glob
    · rcases hst.new k b (hs k b hk).1 ho with h | ⟨k0, b0, h1, h2, h3⟩
      · exact .inl (by rw [(hagr k (hp k b hk).1).1]; exact h)
      · exact .inr ⟨k0, b0, h1, h2, by rw [(hagr k (hp k b hk).1).1]; exact h3⟩
    · exact hst.inp k b (hs k b hk).1 ho
  rcases h p φ w hB hsc with ⟨h1, h2⟩ | ⟨φ', w', h1, h2⟩
  · refine .inl ⟨h1, CallsIn.mono h2 fun e w' hh => ?_⟩
    obtain ⟨φ', he, hd⟩ := hh
    obtain ⟨e1, e2⟩ := key φ' w' hd
    exact ⟨φ, by rw [he, e1], e2⟩
  · obtain ⟨e1, e2⟩ := key φ' w' h2
    exact .inr ⟨φ, w', by rw [h1, e1], e2⟩
/-- old blocks are written, and the result names old blocks alone -/
theorem AC.wroteV {P : Program} {f : FuncId} {fn : Func} {c : Code} {args : List Value} {H H' : Heap} {n : Nat} {v : Value} (hf : P.funcs[f]? = some fn) (hb : fn.body = some c) (he : enterable P f = true) (hlen : Nat.ble args.length fn.ntmps = true) (vs : List Nat) (ha : af v = false) (hv : sc (· < n) v)
    (hw : ∀ k b, hget H' k = some b → k < n ∧ (hget H k = some b ∨ ((∃ b0, hget H k = some b0) ∧ scB (fun _ => False) b)))
    (h : E P n none c { fr := argsFr args 0, sz := fn.ntmps, H, n, marks := [], vs } (wroteK P fn H' v)) : AC P f args H n v H' n := by
  obtain ⟨e, st, hA, hen, hm, ⟨us, hus, hone⟩, hsub⟩ := h
  have hl : leaveF P fn args n st = some (v, st.H, st.n) := by
    unfold leaveF
    rw [hm]
    simp only [shutA, hus, hone, ha, Bool.false_and]
  refine (bodyAT_ok hf hb he (Nat.le_of_ble_eq_true hlen) hen (ATX.at hA) hl).subV hv fun k b hk => ⟨hsub k b hk, ?_⟩
  obtain ⟨h1, h2⟩ := hw k b hk
  rcases h2 with h2 | ⟨h2, h3⟩
  · exact .inl h2
  · exact .inr ⟨h1, h2, h3⟩
theorem plainH_hdel : ∀ {H : Heap} {k : Nat}, plainH H = true → plainH (hdel H k) = true
  | [], _, _ => rfl
  | (i, b) :: H, k, h => by
    simp only [plainH, Bool.and_eq_true] at h
    rw [hdel]
    split
    · exact plainH_hdel h.2
    · simp only [plainH, Bool.and_eq_true]
      exact ⟨h.1, plainH_hdel h.2⟩
/-! ### cells, one by one -/
theorem cellA_tidy {H : Heap} {n k o : Nat} (hl : ∀ k b, hget H k = some b → k < n) {v : Value} (h : cellA H k o = some v) : cellA (tidy n H) k o = some v := by
  rw [cellA_eq] at h ⊢
  cases hb : hget H k with
  | none => rw [hb] at h; cases h
  | some b =>
    rw [hb] at h
    have hp : plainB2 b = true := by
      cases b <;> first | rfl | cases h
    rw [hget_tidy.2 ⟨hb, hl k b hb, hp⟩]
    exact h
theorem list_all {cs : List Value} {o n : Nat} {f : Nat → Value} (h : ∀ i, i < n → cs[o + i]? = some (f i)) (hn : 0 < n) : o + n ≤ cs.length ∧ (cs.drop o).take n = (List.range n).map f := by
  have h1 := (List.getElem?_eq_some_iff.1 (h (n - 1) (by omega))).1
  refine ⟨by omega, ?_⟩
  apply List.ext_getElem?
  intro i
  by_cases hi : i < n
  · rw [List.getElem?_take, if_pos hi, List.getElem?_drop, h i hi, List.getElem?_map, List.getElem?_range hi]
    rfl
  · rw [List.getElem?_eq_none (by rw [List.length_take]; omega), List.getElem?_eq_none (by simp; omega)]
theorem cells_all {H : Heap} {k o n : Nat} {f : Nat → Value} (h : ∀ i, i < n → cellA H k (o + i) = some (f i)) (hn : 0 < n) : cellsA H k o n = some ((List.range n).map f) := by
  have h0 := h 0 hn
  rw [cellsA_eq]
  rw [cellA_eq] at h0
  cases hb : hget H k with
  | none => rw [hb] at h0; cases h0
  | some b =>
    have hg : ∀ i, i < n → cellB (o + i) b = some (f i) := fun i hi => by
      have := h i hi
      rw [cellA_eq, hb] at this
      exact this
    rw [Option.bind_some]
    cases b with
    | cells cs t =>
      obtain ⟨h1, h2⟩ := list_all (cs := cs) (o := o) hg hn
      simp only [cellsB, if_pos h1, h2]
    | ext cs t sz =>
      obtain ⟨h1, h2⟩ := list_all (cs := cs) (o := o) hg hn
      simp only [cellsB, if_pos h1, h2]
    | row cs sz =>
      obtain ⟨h1, h2⟩ := list_all (cs := cs) (o := o) hg hn
      simp only [cellsB, if_pos h1, h2]
    | inp o' cs =>
      have h3 : o' ≤ o := by
        have := hg 0 hn
        simp only [cellB] at this
        split at this
        · omega
        · cases this
      obtain ⟨h1, h2⟩ := list_all (cs := cs) (o := o - o') (f := f) (n := n) (fun i hi => by
        have := hg i hi
        simp only [cellB] at this
        rw [if_pos (by omega)] at this
        rwa [show o - o' + i = o + i - o' by omega]) hn
      have h4 : o' ≤ o ∧ o - o' + n ≤ cs.length := ⟨h3, h1⟩
      simp only [cellsB, if_pos h4, h2]
    | tab cs => cases (hg 0 hn)
    | map es cl => cases (hg 0 hn)
    | iter s p => cases (hg 0 hn)
    | miter m s se la => cases (hg 0 hn)
    | defd => cases (hg 0 hn)
    | loop => cases (hg 0 hn)
/-! ### texts in a row, rows in a row, of whatever length -/
def WdsV (H : Heap) (v : Value) (l : List ByteArray) : Prop := ∃ oa c, v = .slice oa l.length c ∧ l.length < 2 ^ 63 ∧ (oa = none → c = 0) ∧ ∀ i (hi : i < l.length), ∃ a, oa = some a ∧ flat a = true ∧ cellA H a.block (a.off + i) = some (.string l[i])
def StpV (H : Heap) (v : Value) (ls : List (List ByteArray)) : Prop := ∃ oa c, v = .slice oa ls.length c ∧ ls.length < 2 ^ 63 ∧ (oa = none → c = 0) ∧ ∀ i (hi : i < ls.length), ∃ a r, oa = some a ∧ flat a = true ∧ cellA H a.block (a.off + i) = some r ∧ WdsV H r ls[i]
theorem WdsV.mono {H H' : Heap} (hs : Sub H H') {v : Value} {l : List ByteArray} (h : WdsV H v l) : WdsV H' v l := by
  obtain ⟨oa, c, e, h1, h2, h3⟩ := h
  refine ⟨oa, c, e, h1, h2, fun i hi => ?_⟩
  obtain ⟨a, e1, e2, e3⟩ := h3 i hi
  exact ⟨a, e1, e2, hs.cell e3⟩
theorem WdsV.tidy {H : Heap} {n : Nat} (hl : ∀ k b, hget H k = some b → k < n) {v : Value} {l : List ByteArray} (h : WdsV H v l) : WdsV (Ab.tidy n H) v l := by
  obtain ⟨oa, c, e, h1, h2, h3⟩ := h
  refine ⟨oa, c, e, h1, h2, fun i hi => ?_⟩
  obtain ⟨a, e1, e2, e3⟩ := h3 i hi
  exact ⟨a, e1, e2, cellA_tidy hl e3⟩
theorem StpV.mono {H H' : Heap} (hs : Sub H H') {v : Value} {ls : List (List ByteArray)} (h : StpV H v ls) : StpV H' v ls := by
  obtain ⟨oa, c, e, h1, h2, h3⟩ := h
  refine ⟨oa, c, e, h1, h2, fun i hi => ?_⟩
  obtain ⟨a, r, e1, e2, e3, e4⟩ := h3 i hi
  exact ⟨a, r, e1, e2, hs.cell e3, e4.mono hs⟩
theorem StpV.tidy {H : Heap} {n : Nat} (hl : ∀ k b, hget H k = some b → k < n) {v : Value} {ls : List (List ByteArray)} (h : StpV H v ls) : StpV (Ab.tidy n H) v ls := by
  obtain ⟨oa, c, e, h1, h2, h3⟩ := h
  refine ⟨oa, c, e, h1, h2, fun i hi => ?_⟩
  obtain ⟨a, r, e1, e2, e3, e4⟩ := h3 i hi
  exact ⟨a, r, e1, e2, cellA_tidy hl e3, e4.tidy hl⟩
theorem WdsV.one {H : Heap} {v : Value} {l k : List ByteArray} (h : WdsV H v l) (h' : WdsV H v k) : l = k := by
  obtain ⟨oa, c, rfl, _, _, h3⟩ := h
  obtain ⟨oa', c', e, _, _, h3'⟩ := h'
  injection e with e1 e2 e3
  subst e1
  apply List.ext_getElem e2
  intro i h1 h2
  obtain ⟨a, f1, _, f3⟩ := h3 i h1
  obtain ⟨a', g1, _, g3⟩ := h3' i h2
  rw [f1] at g1
  injection g1 with g1
  subst g1
  rw [f3] at g3
  injection g3 with g3
  injection g3
theorem StpV.one {H : Heap} {v : Value} {l k : List (List ByteArray)} (h : StpV H v l) (h' : StpV H v k) : l = k := by
  obtain ⟨oa, c, rfl, _, _, h3⟩ := h
  obtain ⟨oa', c', e, _, _, h3'⟩ := h'
  injection e with e1 e2 e3
  subst e1
  apply List.ext_getElem e2
  intro i h1 h2
  obtain ⟨a, r, f1, _, f3, f4⟩ := h3 i h1
  obtain ⟨a', r', g1, _, g3, g4⟩ := h3' i h2
  rw [f1] at g1
  injection g1 with g1
  subst g1
  rw [f3] at g3
  injection g3 with g3
  subst g3
  exact f4.one g4
theorem WdsV.small {H : Heap} {v : Value} {l : List ByteArray} (h : WdsV H v l) (hl : l.length < 2147483648) : strV H v = some l := by
  obtain ⟨oa, c, rfl, _, h2, h3⟩ := h
  cases oa with
  | none =>
    have : l.length = 0 := by
      rcases Nat.eq_zero_or_pos l.length with h | h
      · exact h
      · obtain ⟨a, e, _⟩ := h3 0 h
        cases e
    rw [this, h2 rfl, List.length_eq_zero_iff.1 this]
    rfl
  | some a =>
    by_cases h0 : l.length = 0
    · rw [List.length_eq_zero_iff.1 h0]
      rfl
    · obtain ⟨a', e, hf, _⟩ := h3 0 (by omega)
      injection e with e
      subst e
      have hc : cellsA H a.block a.off l.length = some ((List.range l.length).map fun i => .string (l.getD i default)) := cells_all (fun i hi => by
        obtain ⟨a', e, _, e3⟩ := h3 i hi
        injection e with e
        subst e
        rw [e3, List.getD_eq_getElem?_getD, List.getElem?_eq_getElem hi]
        rfl) (by omega)
      refine listV_mk (cs := (List.range l.length).map fun i => .string (l.getD i default)) hf (by simpa using hc) (by simp) hl fun i v hv => ?_
      rw [List.getElem?_map] at hv
      by_cases hi : i < l.length
      · rw [List.getElem?_range hi] at hv
        injection hv with hv
        subst hv
        dsimp only
        rw [List.getD_eq_getElem?_getD, List.getElem?_eq_getElem hi]
        rfl
      · rw [List.getElem?_eq_none (by simp; omega)] at hv
        cases hv
abbrev nestS (H : Heap) (v : Value) : Option (List (List ByteArray)) := listV 1 (decL 1 decS) H v
theorem nestS_form {H : Heap} {v : Value} {l : List (List ByteArray)} (h : nestS H v = some l) :
    ∃ oa c, v = .slice oa l.length c ∧ l.length < 2147483648 ∧ (oa = none → c = 0) ∧ ∀ i (hi : i < l.length), ∃ a r, oa = some a ∧ flat a = true ∧ cellA H a.block (a.off + i) = some r ∧ strV H r = some l[i] := decL_form h
theorem StpV.small {H : Heap} {v : Value} {ls : List (List ByteArray)} (h : StpV H v ls) (hl : ls.length < 2147483648) (hr : ∀ l ∈ ls, l.length < 2147483648) : nestS H v = some ls := by
  obtain ⟨oa, c, rfl, _, h2, h3⟩ := h
  cases oa with
  | none =>
    have : ls.length = 0 := by
      rcases Nat.eq_zero_or_pos ls.length with h | h
      · exact h
      · obtain ⟨a, r, e, _⟩ := h3 0 h
        cases e
    rw [this, h2 rfl, List.length_eq_zero_iff.1 this]
    rfl
  | some a =>
    by_cases h0 : ls.length = 0
    · rw [List.length_eq_zero_iff.1 h0]
      rfl
    · obtain ⟨_, _, e, hf, _⟩ := h3 0 (by omega)
      injection e with e
      subst e
      have hg : ∀ i, i < ls.length → ∃ r, cellA H a.block (a.off + i) = some r ∧ decL 1 decS H [r] = ls[i]? := fun i hi => by
        obtain ⟨a', r, e, _, e3, e4⟩ := h3 i hi
        injection e with e
        subst e
        refine ⟨r, e3, ?_⟩
        rw [List.getElem?_eq_getElem hi]
        exact e4.small (hr _ (List.getElem_mem hi))
      have hc : cellsA H a.block a.off ls.length = some ((List.range ls.length).map fun i => (cellA H a.block (a.off + i)).getD default) := cells_all (fun i hi => by
        obtain ⟨r, e, _⟩ := hg i hi
        rw [e]
        rfl) (by omega)
      refine listV_mk (cs := (List.range ls.length).map fun i => (cellA H a.block (a.off + i)).getD default) hf (by simpa using hc) (by simp) hl fun i v hv => ?_
      rw [List.getElem?_map] at hv
      by_cases hi : i < ls.length
      · rw [List.getElem?_range hi] at hv
        injection hv with hv
        subst hv
        obtain ⟨r, e, e2⟩ := hg i hi
        dsimp only
        rw [e]
        exact e2
      · rw [List.getElem?_eq_none (by simp; omega)] at hv
        cases hv
end Go.Ab

/-
Structs compared, field by field.
-/
namespace Go.Ab
open Go
section
variable {P : Program}
theorem runS_bind {α β : Type} (a : Sem α) (g : α → Sem β) : runP P (a >>= g) = (runP P a).bind fun x => runP P (g x) := by
  show runP P (Sem.bind a g) = _
  induction a with
  | program k ih => exact ih P
  | mark m k ih => exact ih
  | _ => rfl
theorem runS_pure {α : Type} (a : α) : runP P (pure a : Sem α) = some a := rfl
theorem runS_program : runP P program = some P := rfl
theorem runS_und {t : TypeId} {d : TypeDesc} (h : P.underlying t = some d) : runP P (underlying t) = some d := by
  show runP P (match P.underlying t with | some d => _ | none => _) = _
  rw [h]
  rfl
theorem runS_ite {α : Type} {c : Prop} [Decidable c] (a b : Sem α) : runP P (if c then a else b) = if c then runP P a else runP P b := by
  split <;> rfl
theorem runS_eq (d : Nat) {t : TypeId} {fs : Array Field} (xs ys : Array Value) (e : Field → Bool) (ht : P.underlying t = some (.struct fs)) (hp : P.stoodInHeld t = false)
    (h : ∀ f ∈ fs.toList, f.name ≠ "_" ∧ ∃ a b, runP P (part f.type xs f.offset) = some a ∧ runP P (part f.type ys f.offset) = some b ∧ runP P (Op.equalIn d f.type a b) = some (e f)) : runP P (Op.equalIn (d + 1) t (.agg xs) (.agg ys)) = some (fs.toList.all e) := by
  simp only [Op.equalIn, runS_bind, runS_und ht, Option.bind_some, runS_program, hp, Bool.false_eq_true, if_false]
  rw [← Array.forIn_toList]
  generalize fs.toList = fl at h
  induction fl with
  | nil => rfl
  | cons f fl ih =>
    obtain ⟨hn, a, b, h1, h2, h3⟩ := h f (List.mem_cons_self ..)
    have ih := ih fun f hf => h f (List.mem_cons_of_mem _ hf)
    simp only [List.forIn_cons, runS_bind, runS_ite]
    rw [if_pos hn]
    cases he : e f with
    | true =>
      simp only [h1, h2, h3, he, Option.bind_some, Bool.not_true, Bool.false_eq_true, if_false, runS_pure, List.all_cons, Bool.true_and]
      exact ih
    | false =>
      simp only [h1, h2, h3, he, Option.bind_some, Bool.not_false, if_true, runS_pure, List.all_cons, Bool.false_and]
theorem runS_int (d : Nat) {t : TypeId} {k k' : IntKind} (n m : Int) (h : P.underlying t = some (.int k')) : runP P (Op.equalIn (d + 1) t (.int k n) (.int k m)) = some (n == m) := by
  simp only [Op.equalIn, runS_bind, runS_und h, Option.bind_some, if_true, runS_pure]
end
end Go.Ab

/-
Contracts of functions that leave memory as it is and hand back a value that names old blocks alone.
-/
namespace Go.Ab
open Go
theorem AC.same {P : Program} {f : FuncId} {fn : Func} {c : Code} {args : List Value} {H : Heap} {n : Nat} {v : Value} (hf : P.funcs[f]? = some fn) (hb : fn.body = some c) (he : enterable P f = true) (hlen : Nat.ble args.length fn.ntmps = true) (vs : List Nat) (hv : sc (· < n) v)
    (hold : ∀ k b, hget H k = some b → k < n) (h : E P n none c { fr := argsFr args 0, sz := fn.ntmps, H, n, marks := [], vs } (pureK P fn H v)) : AC P f args H n v H n := by
  cases ha : af v with
  | true => exact AC.pure hf hb he hlen vs ha h
  | false => exact AC.wroteV hf hb he hlen vs ha hv (fun k b hk => ⟨hold k b hk, .inl hk⟩) h
end Go.Ab

/-
A list that is made by appends of one element of so many cells each, at a heap that is not named.
-/
namespace Go.Ab
open Go
def outS (o k : Nat) : Value := if k = 0 then .slice none 0 0 else .slice (some ⟨o, 0, some 0⟩) k 0
@[simp] theorem outS_nil {o : Nat} : outS o 0 = .slice none 0 0 := rfl
theorem outS_ne {o k : Nat} (h : k ≠ 0) : outS o k = .slice (some ⟨o, 0, some 0⟩) k 0 := if_neg h
def outSB (n t sz k : Nat) (cs : List Value) : Heap := if k = 0 then [] else [(n, .ext cs t sz)]
structure GL (L : Heap) (n t sz : Nat) (cs : List Value) (k : Nat) (Hx : Heap) (N o : Nat) : Prop where
  len : cs.length = k * sz
  out : k ≠ 0 → hget Hx o = some (.ext cs t sz) ∧ o < N
  sub : Sub L Hx
  nm : namesOk N Hx = true
  big : n ≤ N
  low : n ≤ o
  pl : plainH Hx = true
section
variable {L Hx : Heap} {n t sz k N o : Nat} {cs new : List Value}
theorem GL.start (hs : Sub L Hx) (hn : namesOk N Hx = true) (hb : n ≤ N) (hp : plainH Hx = true) : GL L n t sz [] 0 Hx N n :=
  ⟨by simp, fun h => absurd rfl h, hs, hn, hb, Nat.le_refl _, hp⟩
theorem GL.skip (hL : ∀ k b, hget L k = some b → k < n) (h : GL L n t sz cs k Hx N o) (b : Blk) (hp : plainB2 b = true) : GL L n t sz cs k ((N, b) :: Hx) (N + 1) o := by
  have hb := h.big
  refine ⟨h.len, fun hk => ?_, fun j b' hj => ?_, namesOk_put (by omega) (namesOk_mono (by omega) _ h.nm), by omega, h.low, by rw [plainH, hp, h.pl]; rfl⟩
  · obtain ⟨h1, h2⟩ := h.out hk
    rw [hget_cons, if_neg (by omega)]
    exact ⟨h1, by omega⟩
  · have := hL j b' hj
    rw [hget_cons, if_neg (by omega)]
    exact h.sub j b' hj
theorem GL.grow (hL : ∀ k b, hget L k = some b → k < n) (h : GL L n t sz cs k Hx N o) {cs' : List Value} {k' : Nat} (hl : cs'.length = k' * sz) : GL L n t sz cs' k' ((N, .ext cs' t sz) :: (if k = 0 then Hx else hdel Hx o)) (N + 1) N := by
  have hb := h.big
  have hlo := h.low
  have hg : ∀ j, j < n → hget (if k = 0 then Hx else hdel Hx o) j = hget Hx j := fun j hj => by
    split
    · rfl
    · rw [hget_hdel, if_neg (by omega)]
  have hn2 : namesOk N (if k = 0 then Hx else hdel Hx o) = true := by
    split
    · exact h.nm
    · exact namesOk_hdel h.nm
  have hp2 : plainH (if k = 0 then Hx else hdel Hx o) = true := by
    split
    · exact h.pl
    · exact plainH_hdel h.pl
  refine ⟨hl, fun _ => ⟨by rw [hget_cons, if_pos rfl], by omega⟩, fun j b hj => ?_, namesOk_put (by omega) (namesOk_mono (by omega) _ hn2), by omega, by omega, by simp [plainH, hp2]⟩
  have := hL j b hj
  rw [hget_cons, if_neg (by omega), hg j this]
  exact h.sub j b hj
theorem GL.app {P : Program} {st : TypeId} {i : TypeInfo} (hL : ∀ k b, hget L k = some b → k < n) (hu : P.underlying st = some (.slice t)) (hi : P.info? t = some i) (hsz : i.size = sz) (hz : zeroOk i = true) (hb : i.bytes ≤ 128) (h : GL L n t sz cs k Hx N o) (hk : k < 2147483647) (hnew : new.length = sz) (hs0 : 0 < sz) (hone : oneL new = true) (hpn : plainB2 (.cells new t) = true) :
    ∃ Hz, builtinA P .append #[st, st] ((N, .cells new t) :: Hx) (N + 1) [outS o k, .slice (some ⟨N, 0, none⟩) 1 1] = some (outS (N + 1) (k + 1), Hz, N + 1 + 1) ∧ GL L n t sz (cs ++ new) (k + 1) Hz (N + 1 + 1) (N + 1) := by
  have h2 := h.skip hL (.cells new t) hpn
  refine ⟨_, ?_, h2.grow hL (by rw [List.length_append, h.len, hnew, Nat.succ_mul])⟩
  have hc : cellsA ((N, .cells new t) :: Hx) N 0 (1 * sz) = some new := by
    rw [cellsA_eq, hget_cons, if_pos rfl]
    simp only [Option.bind_some, cellsB]
    rw [if_pos (by omega), List.drop_zero, List.take_of_length_le (by omega)]
  have hsm1 : smallA i.bytes 1 = true := by
    unfold smallA
    rw [Bool.and_eq_true]
    exact ⟨decide_eq_true (by omega), decide_eq_true (by omega)⟩
  have hsm : smallA i.bytes (k + 1) = true := by
    unfold smallA
    rw [Bool.and_eq_true]
    refine ⟨decide_eq_true ?_, decide_eq_true ?_⟩
    · have := Nat.mul_le_mul_left (k + 1) hb
      omega
    · omega
  have h1 : ¬ 1 * sz = 0 := by omega
  show appendA P #[st, st] _ _ _ _ = _
  unfold appendA
  have hnb : Nat.beq new.length (1 * sz) = true := by rw [hnew, Nat.one_mul, Nat.beq_refl]
  rw [outS_ne (Nat.succ_ne_zero k)]
  by_cases hk0 : k = 0
  · subst hk0
    simp only [outS_nil, List.getElem?_toArray, List.getElem?_cons_zero, List.getElem?_cons_succ, hu, hi, lenX, lenV, srcX, srcA, hsz, if_neg h1, flat_n, if_true, hc, hnb, hone, Bool.and_self]
    unfold appendTo
    have hcs : cs = [] := List.eq_nil_of_length_eq_zero (by rw [h.len, Nat.zero_mul])
    subst hcs
    simp only [and_self, if_true, Nat.one_ne_zero, if_false, hsm1, hz, Bool.and_self, hsz]
    rfl
  · obtain ⟨ho, _⟩ := h2.out hk0
    have hle : ¬ (k + 1) * sz ≤ cs.length := by rw [h.len, Nat.succ_mul]; omega
    have hle2 : k * sz ≤ cs.length := by rw [h.len]; omega
    have htk : cs.take (k * sz) = cs := List.take_of_length_le (by rw [h.len]; omega)
    rw [outS_ne hk0]
    simp only [List.getElem?_toArray, List.getElem?_cons_zero, List.getElem?_cons_succ, hu, hi, lenX, lenV, srcX, srcA, hsz, if_neg h1, flat_n, if_true, hc, hnb, hone, Bool.and_self]
    unfold appendTo
    simp only [ho, hsz, hle2, and_self, if_true, if_neg hle, hsm, hz, Bool.and_self, htk, if_neg hk0]
    rfl
theorem sc_outS {o k : Nat} {p : Nat → Prop} (h : p o) : sc p (outS o k) := by
  unfold outS
  split
  · trivial
  · exact h
theorem ren_outS {o m k : Nat} {ρ : Nat → Nat} (h : ρ o = m) : ren ρ (outS o k) = outS m k := by
  unfold outS
  split
  · rfl
  · simp [ren, h]
theorem GL.fresh {n0 : Nat} (h : GL L n t sz cs k Hx N o) (hn : n0 ≤ n) (haf : afL cs = true) (hren : ∀ ρ, renL ρ cs = cs) : Fresh n0 (n0 + 1) L (outS n0 k) (outSB n0 t sz k cs) (outS o k) Hx := by
  have hlo := h.low
  refine ⟨fun j => if j = n0 then o else j, fun j hj => if_neg (by omega), by rw [ren_outS (ρ := fun j => if j = n0 then o else j) (m := o) (by simp)], fun j b hj => ?_, fun j b j' c hj hj' _ => ?_, h.sub⟩
  · by_cases hk : k = 0
    · rw [outSB, if_pos hk] at hj; cases hj
    · rw [outSB, if_neg hk, hget_cons] at hj
      split at hj
      · rename_i e; subst e; injection hj with hj; subst hj
        refine ⟨Nat.le_refl _, Nat.lt_succ_self _, by simp; omega, ?_, scL_af _ _ haf, trivial, rfl⟩
        simp [renB, hren, (h.out hk).1]
      · cases hj
  · by_cases hk : k = 0
    · rw [outSB, if_pos hk] at hj; cases hj
    · rw [outSB, if_neg hk, hget_cons] at hj hj'
      split at hj
      · split at hj'
        · omega
        · cases hj'
      · cases hj
end
theorem AC.wider {P : Program} {f : FuncId} {args : List Value} {H : Heap} {n : Nat} {v : Value} (h : AC P f args H n v H n) (hr : v = Ab.ren id v) (hv : sc (· < n + 1) v) : AC P f args H n v H (n + 1) :=
  AC.given fun hold _ _ => h.ren id (fun _ _ => rfl) (by omega) hr hv (fun _ _ hk => .inl ⟨hk, hk⟩) fun j b k c hj hk h1 _ _ => absurd (hold j b h1).1 (by omega)
theorem AC.grown {P : Program} {f : FuncId} {fn : Func} {c : Code} {args : List Value} {H : Heap} {n t sz k : Nat} {cs : List Value} (hf : P.funcs[f]? = some fn) (hb : fn.body = some c) (he : enterable P f = true) (hlen : Nat.ble args.length fn.ntmps = true) (vs : List Nat)
    (h : E P n none c { fr := argsFr args 0, sz := fn.ntmps, H, n, marks := [], vs } (outK P fn (Fresh n (n + 1) H (outS n k) (outSB n t sz k cs)))) : AC P f args H n (outS n k) (outSB n t sz k cs ++ H) (n + 1) := by
  by_cases hk : k = 0
  · subst hk
    have h2 : AC P f args H n (.slice none 0 0) H n := AC.pure hf hb he hlen vs rfl (E.mono h fun e st hh => by
      obtain ⟨h1, h2, us, h3, ρ, _, h4, _, _, h5⟩ := hh
      exact ⟨h1, h2, ⟨us, h3, by rw [h4]; rfl⟩, h5⟩)
    exact h2.wider rfl trivial
  · exact AC.fresh hf hb he hlen vs (by omega) (sc_outS (by omega)) (fun ρ => by rw [outS_ne hk]; rfl) h
/-- such a list with an error behind it -/
theorem AC.grownE {P : Program} {f : FuncId} {fn : Func} {c : Code} {args : List Value} {H : Heap} {n t sz k : Nat} {cs : List Value} {e : Int} (hf : P.funcs[f]? = some fn) (hb : fn.body = some c) (he : enterable P f = true) (hlen : Nat.ble args.length fn.ntmps = true) (vs : List Nat)
    (h : E P n none c { fr := argsFr args 0, sz := fn.ntmps, H, n, marks := [], vs } (outK P fn (Fresh n (n + 1) H (.tuple #[outS n k, .int .i64 e]) (outSB n t sz k cs)))) : AC P f args H n (.tuple #[outS n k, .int .i64 e]) (outSB n t sz k cs ++ H) (n + 1) := by
  by_cases hk : k = 0
  · subst hk
    have h2 : AC P f args H n (.tuple #[.slice none 0 0, .int .i64 e]) H n := AC.pure hf hb he hlen vs rfl (E.mono h fun e st hh => by
      obtain ⟨h1, h2, us, h3, ρ, _, h4, _, _, h5⟩ := hh
      exact ⟨h1, h2, ⟨us, h3, by rw [h4]; rfl⟩, h5⟩)
    exact h2.wider rfl ⟨trivial, trivial, trivial⟩
  · exact AC.fresh hf hb he hlen vs (by omega) ⟨sc_outS (by omega), trivial, trivial⟩ (fun ρ => by rw [outS_ne hk]; rfl) h
theorem fresh_none {n t sz : Nat} {H H1 : Heap} {cs : List Value} (hs : Sub H H1) : Fresh n (n + 1) H (outS n 0) (outSB n t sz 0 cs) (.slice none 0 0) H1 :=
  ⟨id, fun _ _ => rfl, rfl, fun k b hk => (by cases hk), fun j b k c hj _ _ => (by cases hj), hs⟩
theorem outSB_ge {n t sz k : Nat} {cs : List Value} : ∀ x ∈ outSB n t sz k cs, n ≤ x.1 := fun x hx => by
  unfold outSB at hx
  split at hx
  · cases hx
  · rw [List.mem_singleton] at hx; subst hx; exact Nat.le_refl _
theorem Fresh.lower {n n2 : Nat} {H H' B H1 : Heap} {v u : Value} (h : Fresh n n2 H v B u H1) (hs : Sub H' H) : Fresh n n2 H' v B u H1 := by
  obtain ⟨ρ, h1, h2, h3, h4, h5⟩ := h
  exact ⟨ρ, h1, h2, h3, h4, fun k b hk => h5 k b (hs k b hk)⟩
theorem fresh_sb {n m t sz k : Nat} {cs : List Value} {H Z : Heap} (haf : afL cs = true) (hren : ∀ ρ, renL ρ cs = cs) (hm : n ≤ m) (hs : Sub H Z) (hZ : hget H m = none) : Fresh n (n + 1) H (outS n k) (outSB n t sz k cs) (outS m k) (outSB m t sz k cs ++ Z) := by
  by_cases hk : k = 0
  · subst hk
    exact fresh_none hs
  · have e : outSB m t sz k cs ++ Z = (m, .ext cs t sz) :: Z := by rw [outSB, if_neg hk]; rfl
    rw [e]
    refine ⟨fun j => if j = n then m else j, fun j hj => if_neg (by omega), by rw [ren_outS (ρ := fun j => if j = n then m else j) (m := m) (by simp)], fun j b hj => ?_, fun j b j' c hj hj' _ => ?_, fun j b hj => ?_⟩
    · rw [outSB, if_neg hk, hget_cons] at hj
      split at hj
      · rename_i e; subst e; injection hj with hj; subst hj
        refine ⟨Nat.le_refl _, Nat.lt_succ_self _, by simpa using hm, ?_, scL_af _ _ haf, trivial, rfl⟩
        simp [renB, hren]
      · cases hj
    · rw [outSB, if_neg hk, hget_cons] at hj hj'
      split at hj
      · split at hj'
        · omega
        · cases hj'
      · cases hj
    · rw [hget_cons, if_neg fun e => by rw [e] at hZ; rw [hZ] at hj; cases hj]
      exact hs j b hj
end Go.Ab

/-
Lists that lie cell by cell, read back.
-/
namespace Go.Ab
open Go
theorem flat_at {α : Type} {c : α → List Value} {sz : Nat} (hc : ∀ x, (c x).length = sz) : ∀ (l : List α) (i : Nat) (h : i < l.length), ((l.flatMap c).drop (i * sz)).take sz = c l[i]
  | x :: l, 0, _ => by
    simp only [Nat.zero_mul, List.drop_zero, List.flatMap_cons, List.getElem_cons_zero]
    exact List.take_left' (hc x)
  | x :: l, i + 1, h => by
    rw [Nat.succ_mul, Nat.add_comm, ← List.drop_drop, List.flatMap_cons, List.drop_left' (hc x)]
    exact flat_at hc l i (by simpa using h)
theorem flat_len {α : Type} {c : α → List Value} {sz : Nat} (hc : ∀ x, (c x).length = sz) : ∀ l : List α, (l.flatMap c).length = l.length * sz
  | [] => by simp
  | x :: l => by
    rw [List.flatMap_cons, List.length_append, hc, flat_len hc l, List.length_cons, Nat.succ_mul, Nat.add_comm]
theorem listV_flat {α : Type} {c : α → List Value} {sz : Nat} {dec : Dec α} (hc : ∀ x, (c x).length = sz) {H : Heap} (hd : ∀ x, dec H (c x) = some x) {a : Addr} {cap : Nat} {l : List α} (hf : flat a = true) (hcs : cellsA H a.block a.off (l.length * sz) = some (l.flatMap c)) (hlt : l.length < 2147483648) : listV sz dec H (.slice (some a) l.length cap) = some l := by
  show (if l.length < 2147483648 then _ else _) = _
  rw [if_pos hlt]
  by_cases h0 : l.length = 0
  · rw [if_pos h0, List.length_eq_zero_iff.1 h0]
  · rw [if_neg h0, if_pos hf, hcs]
    refine mapO_of (chunks_len _ _ _) fun i x hx => ?_
    by_cases hi : i < l.length
    · rw [chunks_get _ _ _ _ hi] at hx
      injection hx with hx
      rw [← hx, flat_at hc l i hi, hd, List.getElem?_eq_getElem hi]
    · rw [List.getElem?_eq_none (by rw [chunks_len]; omega)] at hx
      cases hx
theorem listV_outS {α : Type} {c : α → List Value} {sz t : Nat} {dec : Dec α} (hc : ∀ x, (c x).length = sz) (hd : ∀ H x, dec H (c x) = some x) {N : Nat} {Z : Heap} {l : List α} (hlt : l.length < 2147483648) : listV sz dec (outSB N t sz l.length (l.flatMap c) ++ Z) (outS N l.length) = some l := by
  by_cases h0 : l.length = 0
  · rw [List.length_eq_zero_iff.1 h0]; rfl
  · rw [outS_ne h0, outSB, if_neg h0]
    refine listV_flat hc (hd _) rfl ?_ hlt
    show cellsA ((N, .ext (l.flatMap c) t sz) :: Z) N 0 _ = _
    rw [cellsA_eq, hget_cons, if_pos rfl]
    simp only [Option.bind_some, cellsB]
    rw [if_pos (by rw [flat_len hc]; omega), List.drop_zero, List.take_of_length_le (by rw [flat_len hc]; omega)]
theorem GL.list {α : Type} {c : α → List Value} {sz t n N o : Nat} {L Hx : Heap} {dec : Dec α} {l : List α} (h : GL L n t sz (l.flatMap c) l.length Hx N o) (hc : ∀ x, (c x).length = sz) (hd : ∀ H x, dec H (c x) = some x) (hlt : l.length < 2147483648) : listV sz dec Hx (outS o l.length) = some l := by
  by_cases h0 : l.length = 0
  · rw [List.length_eq_zero_iff.1 h0]; rfl
  · rw [outS_ne h0]
    refine listV_flat hc (hd _) rfl ?_ hlt
    rw [cellsA_eq, (h.out h0).1]
    simp only [Option.bind_some, cellsB]
    rw [if_pos (by rw [flat_len hc]; omega), List.drop_zero, List.take_of_length_le (by rw [flat_len hc]; omega)]
theorem GL.sb {L Hx : Heap} {n t sz k N o t' sz' k' : Nat} {cs cs' : List Value} (hL : ∀ k b, hget L k = some b → k < n) (h : GL L n t sz cs k Hx N o) (hp : plainB2 (.ext cs' t' sz') = true) : GL L n t sz cs k (outSB N t' sz' k' cs' ++ Hx) (N + 1) o := by
  unfold outSB
  split
  · exact ⟨h.len, fun hk => ⟨(h.out hk).1, by have := (h.out hk).2; omega⟩, h.sub, namesOk_mono (by omega) _ h.nm, by have := h.big; omega, h.low, h.pl⟩
  · exact h.skip hL _ hp
end Go.Ab

/-
A part of memory that a callee sees, when its names begin behind those of the globals.
-/
namespace Go.Ab
open Go
theorem Part.viewsN {P : Program} {args : List Value} {H : Heap} {n : Nat} {R : List Value → Heap → Nat → Prop} (vs : List View) (G : Heap) (hG : Seen P H G) {N : Nat} (hN : P.globals.size ≤ N)
    (hv : ∀ v ∈ vs, (∃ m, cellsA H v.blk v.off m = some v.cs) ∧ afL v.cs = true)
    (h : ∀ φ : Vl, ∃ args0, (∀ φ0 : Vl, (∀ i v, vs[i]? = some v → φ0.loc (N + i) = φ.loc v.blk) → denL φ0 args0 = denL φ args) ∧ scL (· < N + vs.length) args0 ∧ R args0 (viewH N vs G) (N + vs.length)) : Part P args H n R := by
  intro p φ w hB hsc
  obtain ⟨args0, hden, hsc0, hR⟩ := h φ
  let φ0 : Vl := ⟨fun k => if k < N then φ.loc k else match vs[k - N]? with | some v => φ.loc v.blk | none => 0, fun k => if k < N then φ.cap k else 0⟩
  have hl : ∀ i v, vs[i]? = some v → φ0.loc (N + i) = φ.loc v.blk := fun i v hi => by
    simp only [φ0]; rw [if_neg (by omega), Nat.add_sub_cancel_left, hi]
  have hlow : ∀ k, k < N → φ0.loc k = φ.loc k := fun k hk => by simp only [φ0]; rw [if_pos hk]
  have hcap : ∀ k, k < N → φ0.cap k = φ.cap k := fun k hk => by simp only [φ0]; rw [if_pos hk]
  have hH0 : ∀ k b, hget (viewH N vs G) k = some b → (k < N ∧ (k, b) ∈ G) ∨ ∃ v, vs[k - N]? = some v ∧ N ≤ k ∧ b = .inp v.off v.cs := fun k b hk => by
    rcases hget_viewH vs G k b (fun x hx => Nat.lt_of_lt_of_le (hG x hx).1 hN) hk with ⟨h1, h2⟩ | h1
    · exact .inl ⟨h1, hget_mem _ _ _ h2⟩
    · exact .inr h1
  have hown : ∀ k b, hget (viewH N vs G) k = some b → b.own = false := fun k b hk => by
    rcases hH0 k b hk with ⟨_, h2⟩ | ⟨v, _, _, rfl⟩
    · exact (hG _ h2).2.2.1
    · rfl
  refine ⟨args0, viewH N vs G, N + vs.length, φ0, (· < N + vs.length), ⟨⟨fun k b hk => ?_, fun k b k' b' h1 _ _ ho => (by rw [hown k b h1] at ho; cases ho), fun g hg => ?_⟩, fun _ h => h, fun g hg => ?_, (by omega), fun k b hk => ?_, fun t v hv => by simp [lk] at hv, fun t v hv => by simp [lk] at hv⟩, hsc0, hden φ0 hl, hown, hR⟩
  · rcases hH0 k b hk with ⟨h1, h2⟩ | ⟨v, h1, h2, rfl⟩
    · rw [hlow k h1]
      have hg := hG _ h2
      exact (hB.rel.blk k b hg.2.1).congr (p := fun k => k < N) (k := k) (fun j hj => ⟨hlow j hj, hcap j hj⟩) h1 (scB_mono (fun _ h => h.elim) _ hg.2.2.2)
    · have hmem := List.mem_of_getElem? h1
      obtain ⟨⟨m, hc⟩, haf⟩ := hv v hmem
      have := hl _ _ h1
      rw [show N + (k - N) = k by omega] at this
      rw [this]
      exact cellsA_block hB.rel hc haf φ0 k
  · rw [hlow g (Nat.lt_of_lt_of_le hg hN)]; exact hB.rel.glob g hg
  · exact Nat.lt_of_lt_of_le hg (Nat.le_trans hN (Nat.le_add_right _ _))
  · rcases hH0 k b hk with ⟨h1, h2⟩ | ⟨v, h1, h2, rfl⟩
    · exact ⟨by omega, scB_mono (fun _ h => h.elim) _ (hG _ h2).2.2.2⟩
    · have := (List.getElem?_eq_some_iff.1 h1).1
      exact ⟨by omega, scL_af _ _ (hv v (List.mem_of_getElem? h1)).2⟩
/-- nothing is seen but the arguments themselves -/
theorem Part.plainN {P : Program} {args : List Value} {H : Heap} {n : Nat} {R : List Value → Heap → Nat → Prop} (haf : afL args = true) (G : Heap) (hG : Seen P H G) {N : Nat} (hN : P.globals.size ≤ N) (h : R args G N) : Part P args H n R :=
  Part.viewsN [] G hG hN (by simp) fun φ => ⟨args, fun φ0 _ => by rw [denL_af _ _ haf, denL_af _ _ haf], scL_af _ _ haf, h⟩
theorem Part.oneN {P : Program} {H : Heap} {n : Nat} {R : List Value → Heap → Nat → Prop} (mk : Value → List Value) (hmk : ∀ φ φ0 s s0, den φ0 s0 = den φ s → denL φ0 (mk s0) = denL φ (mk s)) (hms : ∀ (p : Nat → Prop) s, sc p s → scL p (mk s)) {a : Addr} {len cap m : Nat} {cs : List Value}
    (hf : flat a = true) (hc : cellsA H a.block a.off m = some cs) (haf : afL cs = true) (G : Heap) (hG : Seen P H G) {N : Nat} (hN : P.globals.size ≤ N) (h : ∀ c, R (mk (.slice (some ⟨N, a.off, none⟩) len c)) ((N, .inp a.off cs) :: G) (N + 1)) : Part P (mk (.slice (some a) len cap)) H n R :=
  Part.viewsN [⟨a.block, a.off, cs⟩] G hG hN (fun v hv => by rw [List.mem_singleton] at hv; subst hv; exact ⟨⟨m, hc⟩, haf⟩) fun φ => by
    obtain ⟨c', hd⟩ := den_flat φ (ad := a) (l := len) (c := cap) hf
    refine ⟨_, fun φ0 hl => hmk φ φ0 _ _ ?_, hms _ _ (Nat.lt_succ_self _), h c'⟩
    have := hl 0 _ rfl
    simp only [Nat.add_zero] at this
    rw [hd]; simp only [den, this]
theorem Part.rowN {P : Program} {H : Heap} {n : Nat} {R : List Value → Heap → Nat → Prop} (mk : Value → List Value) (hmk : ∀ φ φ0 s s0, den φ0 s0 = den φ s → denL φ0 (mk s0) = denL φ (mk s)) (hms : ∀ (p : Nat → Prop) s, sc p s → scL p (mk s))
    {b len skip sz : Nat} {cs : List Value} (hb : rowOf H b = some (cs, sz)) (haf : afL cs = true) {N : Nat} (hN : P.globals.size ≤ N) (h : R (mk (.slice (some ⟨N, 0, some 0⟩) len skip)) [(N, .row cs sz)] (N + 1)) : Part P (mk (.slice (some ⟨b, 0, some 0⟩) len skip)) H n R := by
  intro p φ w hB hsc
  let φ0 : Vl := ⟨fun k => if k < N then φ.loc k else φ.loc b, fun k => if k < N then φ.cap k else φ.cap b⟩
  have hN' : ∀ k, hget [(N, Blk.row cs sz)] k = some (.row cs sz) → k = N := fun k hk => by
    rw [hget_cons] at hk
    by_cases e : N = k
    · exact e.symm
    · rw [if_neg e] at hk; cases hk
  have hone : ∀ k x, hget [(N, Blk.row cs sz)] k = some x → k = N ∧ x = .row cs sz := fun k x hk => by
    rw [hget_cons] at hk
    by_cases e : N = k
    · rw [if_pos e] at hk; injection hk with hk; exact ⟨e.symm, hk.symm⟩
    · rw [if_neg e] at hk; cases hk
  have hlow : ∀ k, k < N → φ0.loc k = φ.loc k := fun k hk => by simp only [φ0]; rw [if_pos hk]
  have hden : den φ0 (.slice (some ⟨N, 0, some 0⟩) len skip) = den φ (.slice (some ⟨b, 0, some 0⟩) len skip) := by
    simp [den, φ0]
  refine ⟨mk (.slice (some ⟨N, 0, some 0⟩) len skip), [(N, .row cs sz)], N + 1, φ0, (· < N + 1), ⟨⟨fun k x hk => ?_, fun k x k' x' h1 _ _ ho => (by obtain ⟨_, rfl⟩ := hone k x h1; cases ho), fun g hg => ?_⟩, fun _ h => h, fun g hg => ?_, (by omega), fun k x hk => ?_, fun t v hv => by simp [lk] at hv, fun t v hv => by simp [lk] at hv⟩, hms _ _ (Nat.lt_succ_self _), hmk _ _ _ _ hden, fun k x hk => by obtain ⟨_, rfl⟩ := hone k x hk; rfl, h⟩
  · obtain ⟨rfl, rfl⟩ := hone k x hk
    obtain ⟨c, t, fz, h1, h2, h3, h4⟩ := rowOf_rel hB hb
    have hl : φ0.loc k = φ.loc b := by simp [φ0]
    have hc : φ0.cap k = φ.cap b := by simp [φ0]
    rw [hl]
    refine ⟨c, t, fz, h1, ?_, ?_, h4⟩
    · rw [h2, denL_af _ _ haf, denL_af _ _ haf]
    · rw [h3, hc]
  · rw [hlow g (Nat.lt_of_lt_of_le hg hN)]; exact hB.rel.glob g hg
  · exact Nat.lt_of_lt_of_le hg (Nat.le_trans hN (Nat.le_add_right _ _))
  · obtain ⟨rfl, rfl⟩ := hone k x hk
    exact ⟨by omega, scL_af _ _ haf⟩
end Go.Ab

/-
Sixteenths as samples: the quotient is a number, and it equals itself.
-/
namespace Go.Ab
open Go
def sampQ (n : Int) : Option Nat := FloatKind.f32.format.div (FloatKind.f32.nearest n) 1098907648
def sampB (n : Int) : Nat := (sampQ n).getD 0
def sampGood (n : Int) : Bool := match sampQ n with
  | some r => FloatKind.f32.format.order r r == some .eq
  | none => false
theorem samp_all : ((List.range 8193).all fun k : Nat => sampGood ((k : Int) - 4096)) = true := by kernel_rfl
theorem samp_ok {n : Int} (h1 : -4096 ≤ n) (h2 : n ≤ 4096) : sampQ n = some (sampB n) ∧ FloatKind.f32.format.order (sampB n) (sampB n) = some .eq := by
  have := List.all_eq_true.1 samp_all (n + 4096).toNat (List.mem_range.2 (by omega))
  rw [show (((n + 4096).toNat : Nat) : Int) - 4096 = n by omega] at this
  unfold sampGood at this
  unfold sampB
  cases h : sampQ n with
  | none => rw [h] at this; cases this
  | some r =>
    rw [h] at this
    exact ⟨rfl, by simpa using this⟩
end Go.Ab
