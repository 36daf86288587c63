/-
The walks over strings of guns: checks, searches, copies; and the ticks of their timings (each a contract: no condition but those in its statement).
-/
import Derived.OpenShut
import Derived.ChangeSlices
import Derived.Test.YtndlfijfjglkdaaGreatDoorGc
import Derived.Test.YtndlfijfjglkdaaGreatDoorAf
import Derived.Test.YtndlfijfjglkdaaGreatDoorGa
namespace Go.Proofs.YtndlfijfjglkdaaGreatDoor
open Go Go.Ab Go.Proofs
structure Tim where
  gun : ByteArray
  tick : Int
def Tim.cells (t : Tim) : List Value := [sv t.gun, iv t.tick]
@[simp] theorem Tim.cells_length (t : Tim) : t.cells.length = 2 := rfl
def tcs (l : List Tim) : List Value := l.flatMap Tim.cells
@[simp] theorem tcs_length (l : List Tim) : (tcs l).length = l.length * 2 := by
  induction l with
  | nil => rfl
  | cons g l ih =>
    show (g.cells ++ tcs l).length = _
    rw [List.length_append, ih]
    simp
    omega
theorem afL_tcs (l : List Tim) : afL (tcs l) = true := by
  induction l with
  | nil => rfl
  | cons g l ih =>
    show afL (g.cells ++ tcs l) = true
    simp [Tim.cells, afL, ih]
@[simp] theorem renL_tcs (ρ : Nat → Nat) (l : List Tim) : renL ρ (tcs l) = tcs l := by
  rw [renL_eq]
  induction l with
  | nil => rfl
  | cons g l ih =>
    show (g.cells ++ tcs l).map (ren ρ) = g.cells ++ tcs l
    rw [List.map_append, ih]
    rfl
@[simp] theorem scL_tcs (p : Nat → Prop) (l : List Tim) : scL p (tcs l) := scL_af p _ (afL_tcs l)
end Go.Proofs.YtndlfijfjglkdaaGreatDoor

namespace Go.Ab
open Go Go.ChangeShapes Go.WideShapes
inductive Leaf where
  | int (k : IntKind) | str | bool
  deriving DecidableEq
def Leaf.fits : Leaf → Value → Prop
  | .int k, v => ∃ n, v = .int k n ∧ (Lit.int k n).wf = true
  | .str, v => ∃ s : ByteArray, v = .string s ∧ s.size ≤ maxLen
  | .bool, v => ∃ b, v = .bool b
def fitsL : List Leaf → List Value → Prop
  | [], [] => True
  | l :: ls, v :: vs => l.fits v ∧ fitsL ls vs
  | _, _ => False
def leafs (P : Program) : Nat → TypeId → Option (List Leaf)
  | 0, _ => none
  | d + 1, t => match P.underlying t with
    | some .bool => some [.bool]
    | some .string => some [.str]
    | some (.int k) => some [.int k]
    | some (.array n e) => match leafs P d e with
      | some l => if l.length = P.cellsOf e ∧ P.cellsOf t = n * l.length then some (List.replicate n l).flatten else none
      | none => none
    | some (.struct fs) => match fs.toList.foldlM (fun acc f => if f.offset = acc.length then (leafs P d f.type).bind fun l => if l.length = P.cellsOf f.type then some (acc ++ l) else none else none) [] with
      | some l => if l.length = P.cellsOf t then some l else none
      | none => none
    | _ => none
theorem fitsL_append : ∀ {a : List Leaf} {x : List Value} {b : List Leaf} {y : List Value}, fitsL a x → fitsL b y → fitsL (a ++ b) (x ++ y)
  | [], [], _, _, _, h => h
  | _ :: _, _ :: _, _, _, ⟨h1, h2⟩, h => ⟨h1, fitsL_append h2 h⟩
  | [], _ :: _, _, _, h, _ => h.elim
  | _ :: _, [], _, _, h, _ => h.elim
theorem fitsL_length : ∀ {a : List Leaf} {x : List Value}, fitsL a x → x.length = a.length
  | [], [], _ => rfl
  | _ :: _, _ :: _, ⟨_, h2⟩ => congrArg (· + 1) (fitsL_length h2)
  | [], _ :: _, h => h.elim
  | _ :: _, [], h => h.elim
section
variable {H : Type} {enc : TypeId × Value → H} {P : Program} {w : World} {base : Nat} {spare : Nat → Bool} {held : Bool}
theorem leafs_ok : ∀ (d : Nat) (t : TypeId) (ls : List Leaf) (fuel : Nat) (cs : List Value) (x : DataW H × List MemPlace), leafs P d t = some ls → DataW.trod enc P w base spare held fuel t cs = some x → fitsL ls cs
  | 0, _, _, _, _, _, hl, _ => by simp [leafs] at hl
  | d + 1, t, ls, fuel, cs, x, hl, h => by
    unfold leafs at hl
    split at hl
    · rename_i ht
      injection hl with hl; subst hl
      obtain ⟨b, rfl, _⟩ := DataW.trod_bool ht h
      exact ⟨⟨b, rfl⟩, trivial⟩
    · rename_i ht
      injection hl with hl; subst hl
      obtain ⟨b, rfl, _, hs⟩ := DataW.trod_string ht h
      exact ⟨⟨b, rfl, hs⟩, trivial⟩
    · rename_i k ht
      injection hl with hl; subst hl
      obtain ⟨b, rfl, _, hs⟩ := DataW.trod_int ht h
      exact ⟨⟨b, rfl, hs⟩, trivial⟩
    · rename_i n e ht
      obtain ⟨xs, m, rfl, _, hlen, hxl, hel⟩ := DataW.trod_array ht h
      split at hl
      · rename_i l he
        split at hl
        · rename_i hc
          injection hl with hl; subst hl
          have key : ∀ k, k ≤ n → fitsL (List.replicate k l).flatten (cs.take (k * l.length)) := by
            intro k
            induction k with
            | zero => intro _; simp [fitsL]
            | succ k ih =>
              intro hk
              have h1 := hel k (by omega)
              obtain ⟨y, hy⟩ : ∃ y, xs[k]? = some y := ⟨xs[k]'(by omega), by simp⟩
              rw [hy] at h1
              have h2 := leafs_ok d e l m _ y he h1
              rw [List.replicate_succ', List.flatten_append, Nat.succ_mul, List.take_add]
              rw [← hc.1] at h2
              simpa using fitsL_append (ih (by omega)) h2
          have := key n (Nat.le_refl _)
          rw [List.take_of_length_le (by rw [hlen, hc.2]; exact Nat.le_refl _)] at this
          exact this
        · cases hl
      · cases hl
    · rename_i fs ht
      obtain ⟨xs, m, rfl, _, hlen, hxl, hel⟩ := DataW.trod_struct ht h
      split at hl
      · rename_i l hf
        split at hl
        · rename_i hc
          injection hl with hl; subst hl
          have key : ∀ (fl : List Field) (acc res : List Leaf), fl.foldlM (fun acc f => if f.offset = acc.length then (leafs P d f.type).bind fun l => if l.length = P.cellsOf f.type then some (acc ++ l) else none else none) acc = some res →
              fitsL acc (cs.take acc.length) → (∀ f ∈ fl, ∃ y, DataW.trod enc P w base spare held m f.type ((cs.drop f.offset).take (P.cellsOf f.type)) = some y) → fitsL res (cs.take res.length) := by
            intro fl
            induction fl with
            | nil => intro acc res h1 h2 _; injection h1 with h1; subst h1; exact h2
            | cons f fl ih =>
              intro acc res h1 h2 h3
              rw [List.foldlM_cons] at h1
              simp only [Option.bind_eq_bind, Option.bind_eq_some_iff] at h1
              obtain ⟨acc', h1, h4⟩ := h1
              split at h1
              · rename_i ho
                rw [Option.bind_eq_some_iff] at h1
                obtain ⟨l', h5, h6⟩ := h1
                split at h6
                · rename_i hc'
                  injection h6 with h6; subst h6
                  obtain ⟨y, hy⟩ := h3 f (List.mem_cons_self ..)
                  have := leafs_ok d f.type l' m _ y h5 hy
                  rw [← hc', ho] at this
                  refine ih _ _ h4 ?_ fun g hg => h3 g (List.mem_cons_of_mem _ hg)
                  rw [List.length_append, List.take_add]
                  exact fitsL_append h2 this
                · cases h6
              · cases h1
          have := key fs.toList [] _ hf (by simp [fitsL]) fun f hf => by
            obtain ⟨i, hi, rfl⟩ := List.getElem_of_mem hf
            have h1 := hel i fs[i] (by simp)
            obtain ⟨y, hy⟩ : ∃ y, xs[i]? = some y := ⟨xs[i]'(by rw [hxl]; simpa using hi), by simp⟩
            rw [hy] at h1
            exact ⟨y, by simpa using h1⟩
          rw [List.take_of_length_le (by rw [hlen, hc]; exact Nat.le_refl _)] at this
          exact this
        · cases hl
      · cases hl
    · cases hl
theorem flatten_get {m : Nat} (hm : 0 < m) : ∀ (rows : List (List Value)) (j : Nat), (∀ r ∈ rows, r.length = m) → rows.flatten[j]? = (rows[j / m]?).bind (·[j % m]?)
  | [], j, _ => by simp
  | r :: rows, j, h => by
    have hr := h r (List.mem_cons_self ..)
    rw [List.flatten_cons]
    rcases Nat.lt_or_ge j m with hj | hj
    · rw [List.getElem?_append_left (by omega), Nat.div_eq_of_lt hj, Nat.mod_eq_of_lt hj]
      simp
    · rw [List.getElem?_append_right (by omega), hr, flatten_get hm rows (j - m) fun r hr => h r (List.mem_cons_of_mem _ hr)]
      obtain ⟨k, rfl⟩ : ∃ k, j = k + m := ⟨j - m, by omega⟩
      rw [Nat.add_sub_cancel, Nat.add_div_right _ hm, Nat.add_mod_right, List.getElem?_cons_succ]
theorem flatten_length {m : Nat} : ∀ (rows : List (List Value)), (∀ r ∈ rows, r.length = m) → rows.flatten.length = rows.length * m
  | [], _ => by simp
  | r :: rows, h => by
    rw [List.flatten_cons, List.length_append, flatten_length rows fun r hr => h r (List.mem_cons_of_mem _ hr), h r (List.mem_cons_self ..), List.length_cons, Nat.succ_mul, Nat.add_comm]
/-- a slice of flat elements, opened -/
theorem open_slice {t e : TypeId} {d fuel : Nat} {ls : List Leaf} {cs : List Value} {x : DataW H × List MemPlace} (ht : P.underlying t = some (.slice e)) (hl : leafs P d e = some ls) (hc : ls.length = P.cellsOf e) (hpos : 0 < ls.length)
    (h : DataW.trod enc P w base spare held fuel t cs = some x) :
    cs = [.slice none 0 0] ∨ ∃ (a : Addr) (len cap : Nat) (rows : List (List Value)), cs = [.slice (some a) len cap] ∧ len ≤ cap ∧ cap ≤ maxLen ∧ rows.length = len ∧ (∀ r ∈ rows, fitsL ls r) ∧
      (a.spot = none → ∀ j, j < rows.flatten.length → w.cell? ⟨a.block, a.off + j, none⟩ = rows.flatten[j]?) := by
  rcases DataW.trod_slice ht h with ⟨h0, _⟩ | ⟨a, len, cap, elems, rest, n, _, rfl, _, hb, hlc, hm, hlen, hel, _⟩
  · exact .inl h0
  right
  have each : ∀ i, i < len → ∃ r, w.cells? base (a.add (i * P.cellsOf e)) (P.cellsOf e) = some r ∧ fitsL ls r := fun i hi => by
    have h1 := hel i hi
    obtain ⟨y, hy⟩ : ∃ y, elems[i]? = some y := ⟨elems[i]'(by omega), by simp⟩
    rw [hy, Option.bind_eq_some_iff] at h1
    obtain ⟨r, h2, h3⟩ := h1
    exact ⟨r, h2, leafs_ok d e ls n r y hl h3⟩
  let rows : List (List Value) := (List.range len).map fun i => (w.cells? base (a.add (i * P.cellsOf e)) (P.cellsOf e)).getD []
  have hrow : ∀ i, i < len → ∃ r, rows[i]? = some r ∧ w.cells? base (a.add (i * P.cellsOf e)) (P.cellsOf e) = some r ∧ fitsL ls r := fun i hi => by
    obtain ⟨r, h1, h2⟩ := each i hi
    exact ⟨r, by simp [rows, hi, h1], h1, h2⟩
  have hfit : ∀ r ∈ rows, fitsL ls r := fun r hr => by
    obtain ⟨i, hi⟩ := List.getElem?_of_mem hr
    have hi' := (List.getElem?_eq_some_iff.1 hi).1
    simp [rows] at hi'
    obtain ⟨r', h1, _, h2⟩ := hrow i hi'
    rw [hi] at h1; injection h1 with h1; subst h1; exact h2
  refine ⟨a, len, cap, rows, rfl, hlc, hm, by simp [rows], hfit, fun hs j hj => ?_⟩
  have hw : ∀ r ∈ rows, r.length = ls.length := fun r hr => fitsL_length (hfit r hr)
  rw [flatten_length rows hw] at hj
  rw [flatten_get hpos rows j hw]
  have hjl : j / ls.length < len := by
    rw [Nat.div_lt_iff_lt_mul hpos]
    simpa [rows] using hj
  obtain ⟨r, h1, h2, h3⟩ := hrow _ hjl
  rw [h1, Option.bind_some]
  have h4 := (World.cells?_some h2).2.2 (j % ls.length) (by rw [← hc]; exact Nat.mod_lt _ hpos)
  rw [← h4, ← hc]
  congr 1
  have hadd : ∀ (b : Addr) (k : Nat), b.spot = none → b.add k = ⟨b.block, b.off + k, none⟩ := fun b k hb => by
    unfold Addr.add
    split
    · rename_i h0; subst h0; cases b; simp_all
    · rfl
  rw [hadd a _ hs, hadd _ _ rfl]
  have := Nat.div_add_mod j ls.length
  rw [Nat.mul_comm] at this
  simp only [Nat.add_assoc, this]
/-- a handed slice has no spot, and a block -/
theorem okWide_addr {r : Reach} {t e : TypeId} {a : Addr} {len cap : Nat} (ht : P.underlying t = some (.slice e)) (h : Cell.okWide P w r base t (.slice (some a) len cap)) : a.spot = none ∧ ∃ c t fz, w.heap[a.block]? = some (.cells c t fz) := by
  unfold Cell.okWide at h
  rw [ht] at h
  simp only at h
  unfold Cell.ok at h
  rw [ht] at h
  obtain ⟨_, _, _, hs, row, cells, hsh, _⟩ := h
  refine ⟨hs, ?_⟩
  unfold World.shape? at hsh
  split at hsh
  · rename_i c el fz hw
    exact ⟨c, el, fz, hw⟩
  · cases hsh
theorem cell_get {b o : Nat} {c : Array Value} {t : TypeId} {fz : Nat × Nat} (hw : w.heap[b]? = some (.cells c t fz)) : w.cell? ⟨b, o, none⟩ = c[o]? := by
  unfold World.cell?
  rw [hw]
  simp
/-- a handed slice of flat elements -/
theorem handed_slice {r : Reach} {b0 : Nat} {t e : TypeId} {d fuel : Nat} {ls : List Leaf} {v : Value} {x : DataW H × List MemPlace} (ht : P.underlying t = some (.slice e)) (hl : leafs P d e = some ls) (hc : ls.length = P.cellsOf e) (hpos : 0 < ls.length)
    (hok : Cell.okWide P w r b0 t v) (h : DataW.trod enc P w base spare held fuel t [v] = some x) :
    v = .slice none 0 0 ∨ ∃ (b o len cap : Nat) (rows : List (List Value)), v = .slice (some ⟨b, o, none⟩) len cap ∧ len ≤ cap ∧ cap ≤ maxLen ∧ rows.length = len ∧ (∀ r ∈ rows, fitsL ls r) ∧
      ∃ c t fz, w.heap[b]? = some (.cells c t fz) ∧ ∀ i, i < rows.flatten.length → c[o + i]? = rows.flatten[i]? := by
  rcases open_slice ht hl hc hpos h with h0 | ⟨⟨b, o, s⟩, len, cap, rows, h1, h2, h3, h4, h5, h6⟩
  · left; simpa using h0
  · right
    obtain rfl : v = .slice (some ⟨b, o, s⟩) len cap := by simpa using h1
    obtain ⟨hs, c, t', fz, hw⟩ := okWide_addr ht hok
    have hs : s = none := hs
    subst hs
    exact ⟨b, o, len, cap, rows, rfl, h2, h3, h4, h5, c, t', fz, hw, fun i hi => by rw [← cell_get hw, h6 rfl i hi]⟩
/-- a handed struct of one slice -/
theorem handed_str {r : Reach} {b0 : Nat} {t u e : TypeId} {d : Nat} {fs : Array Field} {f : Field} {ls : List Leaf} {v : Value} {y : DataW H} {p : List MemPlace} (hs : P.underlying t = some (.struct fs)) (hf : fs[0]? = some f) (ho : f.offset = 0) (hft : f.type = u) (h1 : P.cellsOf t = 1) (h1' : P.cellsOf u = 1) (hct : P.cellTypes P.depth t = some [u])
    (ht : P.underlying u = some (.slice e)) (hl : leafs P d e = some ls) (hc : ls.length = P.cellsOf e) (hpos : 0 < ls.length)
    (hok : Value.okWide P w r b0 t v) (h : DataW.Trod enc P w base spare held t v y p) :
    v = .agg ⟨[.slice none 0 0]⟩ ∨ ∃ (b o len cap : Nat) (rows : List (List Value)), v = .agg ⟨[.slice (some ⟨b, o, none⟩) len cap]⟩ ∧ len ≤ cap ∧ cap ≤ maxLen ∧ rows.length = len ∧ (∀ r ∈ rows, fitsL ls r) ∧
      ∃ c t fz, w.heap[b]? = some (.cells c t fz) ∧ ∀ i, i < rows.flatten.length → c[o + i]? = rows.flatten[i]? := by
  unfold Value.okWide at hok
  rw [hs] at hok
  obtain ⟨cs, rfl, hsz, ts, hts, _, hrow⟩ := hok
  rw [hct] at hts
  injection hts with hts; subst hts
  rw [h1] at hsz
  obtain ⟨l⟩ := cs
  match l, hsz with
  | [v0], _ =>
    obtain ⟨u', h2, h3⟩ := hrow 0 v0 rfl
    obtain rfl : u = u' := by simpa using h2
    obtain ⟨fuel, h⟩ := h
    obtain ⟨xs, m, rfl, _, hlen, hxl, hel⟩ := DataW.trod_struct hs h
    have h4 := hel 0 f hf
    rw [ho, hft, h1'] at h4
    have hpos' : 0 < fs.size := (Array.getElem?_eq_some_iff.1 hf).1
    obtain ⟨y, hy⟩ : ∃ y, xs[0]? = some y := ⟨xs[0]'(by omega), by simp⟩
    rw [hy] at h4
    rcases handed_slice ht hl hc hpos h3 (by simpa [Value.cells] using h4) with rfl | ⟨b, o, len, cap, rows, rfl, h5⟩
    · exact .inl rfl
    · exact .inr ⟨b, o, len, cap, rows, rfl, h5⟩
end
end Go.Ab

namespace Go.Proofs.YtndlfijfjglkdaaGreatDoor
open Go Go.Ab Go.Proofs
def strsOf : List Value → Option (List ByteArray)
  | [] => some []
  | .string n :: vs => (strsOf vs).map (n :: ·)
  | _ => none
theorem strsOf_ok : ∀ (cs : List Value) (l : List ByteArray), strsOf cs = some l → cs = l.map sv
  | [], l, h => by simp [strsOf] at h; subst h; rfl
  | c :: cs, l, h => by
    unfold strsOf at h
    split at h
    · rename_i h1; cases h1
    · rename_i n vs h1
      injection h1 with h1 h2; subst h1 h2
      rw [Option.map_eq_some_iff] at h
      obtain ⟨l', h2, h3⟩ := h
      subst h3
      rw [strsOf_ok _ _ h2]; rfl
    · cases h
theorem strsOf_sv : ∀ l : List ByteArray, strsOf (l.map sv) = some l
  | [] => rfl
  | x :: l => by simp [strsOf, strsOf_sv l]
def strsAt (H : Heap) (a : Addr) (len : Nat) : Option (List ByteArray) := if flat a && Nat.blt len 2147483648 then (cellsA H a.block a.off len).bind strsOf else none
theorem strsAt_ok {H : Heap} {a : Addr} {len : Nat} {l : List ByteArray} (h : strsAt H a len = some l) : flat a = true ∧ cellsA H a.block a.off len = some (l.map sv) ∧ l.length = len ∧ l.length < 2 ^ 31 := by
  unfold strsAt at h
  split at h
  · rename_i hf
    rw [Bool.and_eq_true] at hf
    rw [Option.bind_eq_some_iff] at h
    obtain ⟨cs, h1, h2⟩ := h
    have h3 := strsOf_ok _ _ h2
    subst h3
    have h4 := (cellsA_at h1).1
    rw [List.length_map] at h4
    exact ⟨hf.1, h1, h4, by have := (blt_iff _ _).1 hf.2; omega⟩
  · cases h
def hasW (s : ByteArray) (l : List ByteArray) : Bool := l.any fun x => decide (x = s)
theorem hasW_iff {s : ByteArray} {l : List ByteArray} : hasW s l = true ↔ s ∈ l := by
  unfold hasW
  rw [List.any_eq_true]
  exact ⟨fun ⟨x, h1, h2⟩ => of_decide_eq_true h2 ▸ h1, fun h => ⟨s, h, decide_eq_true rfl⟩⟩
def g67 (args : List Value) (H : Heap) (n : Nat) : R := match args with
  | [.slice (some a) len _, .string s] => (strsAt H a len).map fun l => (.bool (hasW s l), H, n)
  | [.slice none 0 0, .string _] => some (.bool false, H, n)
  | _ => none
def validB (l : List Gun) : Bool := shortS l && decide (l.length ≤ 6) && decide (strE l = 0)
theorem w52n : AC Tryz.prog 52 [nilV] [] 10 (.bool (validB [])) [] 10 := by
  have hr := recT_ok (P := Tryz.prog) (l := [(19, gStr fun l => .bool (shortS l)), (24, gStr fun l => iv (strE l))]) (by simp only [List.forall_mem_cons]; exact ⟨ok19, ok24, by simp⟩)
  refine AC.pure Tryz.func52 rfl (by kernel_rfl) rfl [2, 1, 0] rfl ?_
  refine E.seq ?_
  refine E.reg hr (by simp; rfl) ?_
  refine E.seq ?_
  refine E.reg hr (by simp [gStr, strAt, shortS, strE]; rfl) ?_
  refine E.ret ?_
  exact pureK.ret rfl rfl (by simp [validB, shortS, strE]) (by repeat first | exact sub_refl _ | refine sub_cons rfl ?_)
theorem w52 (l : List Gun) (o c : Nat) (hl : l.length < 2 ^ 63) : AC Tryz.prog 52 [strV o l.length c] [(10, .inp o (gcs l))] 11 (.bool (validB l)) [(10, .inp o (gcs l))] 11 := by
  have hr := recT_ok (P := Tryz.prog) (l := [(19, gStr fun l => .bool (shortS l)), (24, gStr fun l => iv (strE l))]) (by simp only [List.forall_mem_cons]; exact ⟨ok19, ok24, by simp⟩)
  have hat : gunsAt [(11, .cells [.slice (some ⟨10, o, none⟩) l.length c] 24), (10, .inp o (gcs l))] ⟨10, o, none⟩ l.length = some l := by
    unfold gunsAt
    simp [List.take_of_length_le, gunsOf_gcs, show l.length < 9223372036854775808 by omega]
  refine AC.pure Tryz.func52 rfl (by kernel_rfl) rfl [2, 1, 0] rfl ?_
  refine E.seq ?_
  refine E.reg hr (by simp; rfl) ?_
  refine E.seq ?_
  rcases Bool.eq_false_or_eq_true (shortS l) with h1 | h1
  · by_cases h6 : (l.length : Int) ≤ 6
    · refine E.reg hr (by simp [gStr, strAt, hat, h1, h6]; rfl) ?_
      refine E.ret ?_
      exact pureK.ret rfl rfl (by simp [validB, h1, show l.length ≤ 6 by omega]) (by repeat first | exact sub_refl _ | refine sub_cons rfl ?_)
    · refine E.reg hr (by simp [gStr, strAt, hat, h1, h6, undefV]; rfl) ?_
      refine E.ret ?_
      exact pureK.ret rfl rfl (by simp [validB, h1, show ¬ l.length ≤ 6 by omega]) (by repeat first | exact sub_refl _ | refine sub_cons rfl ?_)
  · refine E.reg hr (by simp [gStr, strAt, hat, h1, undefV]; rfl) ?_
    refine E.ret ?_
    exact pureK.ret rfl rfl (by simp [validB, h1]) (by repeat first | exact sub_refl _ | refine sub_cons rfl ?_)
theorem ok52 : EntOk Tryz.prog (52, gStr fun l => .bool (validB l)) := okStr (fun _ => rfl) w52n w52
end Go.Proofs.YtndlfijfjglkdaaGreatDoor

namespace Go.Ab
open Go
/-- a block that is read: the caller's name, and what is known of it -/
structure V2 where
  blk : Nat
  b : Blk
def V2.ok (H : Heap) (v : V2) : Prop := match v.b with
  | .inp o cs => (∃ m, cellsA H v.blk o m = some cs) ∧ afL cs = true
  | .row cs sz => rowOf H v.blk = some (cs, sz) ∧ afL cs = true
  | _ => False
end Go.Ab

namespace Go.Proofs.YtndlfijfjglkdaaGreatDoor
open Go Go.Ab Go.Proofs
end Go.Proofs.YtndlfijfjglkdaaGreatDoor

namespace Go.Proofs.YtndlfijfjglkdaaGreatDoor
open Go Go.Ab Go.Proofs
@[simp] theorem renL_replicate (ρ : Nat → Nat) (n : Nat) (v : Value) : renL ρ (List.replicate n v) = List.replicate n (ren ρ v) := by rw [renL_eq, List.map_replicate]
@[simp] theorem scL_replicate_iv (p : Nat → Prop) (n : Nat) (x : Int) : scL p (List.replicate n (iv x)) := by
  have := scL_iv p (List.replicate n x)
  rwa [List.map_replicate] at this
@[simp] theorem renL_set (ρ : Nat → Nat) (l : List Value) (k : Nat) (v : Value) : renL ρ (l.set k v) = (renL ρ l).set k (ren ρ v) := by rw [renL_eq, renL_eq, List.map_set]
@[simp] theorem scL_set_iv (p : Nat → Prop) (l : List Int) (k : Nat) (x : Int) : scL p ((l.map iv).set k (iv x)) := by
  have := scL_iv p (l.set k x)
  rwa [List.map_set] at this
end Go.Proofs.YtndlfijfjglkdaaGreatDoor

namespace Go.Proofs.YtndlfijfjglkdaaGreatDoor
open Go Go.Ab Go.Proofs
def wF (x : Int) : Int := withinV x 0 16
def wL (l : List Int) : List Int := l.map wF
@[simp] theorem wL_length (l : List Int) : (wL l).length = l.length := by simp [wL]
end Go.Proofs.YtndlfijfjglkdaaGreatDoor

namespace Go.Proofs.YtndlfijfjglkdaaGreatDoor
open Go Go.Ab Go.Proofs
@[simp] theorem oneL_gcs (l : List Gun) : oneL (gcs l) = true := by
  induction l with
  | nil => rfl
  | cons g l ih =>
    show oneL (g.cells ++ gcs l) = true
    simp [Gun.cells, oneL, ih]
end Go.Proofs.YtndlfijfjglkdaaGreatDoor

namespace Go.Proofs.YtndlfijfjglkdaaGreatDoor
open Go Go.Ab Go.Proofs
end Go.Proofs.YtndlfijfjglkdaaGreatDoor

namespace Go.Ab
open Go
/-- what is left behind a piece, known by less; else as it was -/
def cutK (P : Program) (n0 : Nat) (S0 : St) (K : Ex → St → Prop) : Ex → St → Prop
  | .normal, st => Leads P n0 st S0
  | e, st => K e st
theorem E.cut {P : Program} {n0 : Nat} {ro : Option Nat} {st : St} {K : Ex → St → Prop} {a b : Code} (S0 : St) (ha : E P n0 ro a st (cutK P n0 S0 K)) (hb : E P n0 ro b S0 K) : E P n0 ro (.seq a b) st K :=
  E.seq (ha.mono fun e st' h => by
    cases e with
    | normal => exact E.lead S0 h hb
    | _ => exact h)
end Go.Ab
namespace Go.Proofs.YtndlfijfjglkdaaGreatDoor
open Go Go.Ab Go.Proofs
end Go.Proofs.YtndlfijfjglkdaaGreatDoor

namespace Go.Proofs.YtndlfijfjglkdaaGreatDoor
open Go Go.Ab Go.Proofs
end Go.Proofs.YtndlfijfjglkdaaGreatDoor

namespace Go.Proofs.YtndlfijfjglkdaaGreatDoor
open Go Go.Ab Go.Proofs
end Go.Proofs.YtndlfijfjglkdaaGreatDoor

namespace Go.Proofs.YtndlfijfjglkdaaGreatDoor
open Go Go.Ab Go.Proofs
end Go.Proofs.YtndlfijfjglkdaaGreatDoor

namespace Go.Proofs.YtndlfijfjglkdaaGreatDoor
open Go Go.Ab Go.Proofs
end Go.Proofs.YtndlfijfjglkdaaGreatDoor

namespace Go.Proofs.YtndlfijfjglkdaaGreatDoor
open Go Go.Ab Go.Proofs
def volW (l : List Gun) : Int := l.foldl (fun a g => IntKind.i64.wrap (a + g.v)) 0
theorem volW_succ {l : List Gun} {i : Nat} (h : i < l.length) : volW (l.take (i + 1)) = IntKind.i64.wrap (volW (l.take i) + l[i].v) := by
  unfold volW
  rw [List.take_succ_eq_append_getElem h, List.foldl_append]
  rfl
theorem gcs_vE {l : List Gun} {i : Nat} (h : i < l.length) (h2 : i * 7 + 1 < (gcs l).length) : (gcs l)[i * 7 + 1] = iv l[i].v := by
  have := gcs_get h 1 (by omega)
  rw [List.getElem?_eq_getElem h2] at this
  exact Option.some.inj this
set_option maxRecDepth 100000 in
theorem w111 (l : List Gun) (o c : Nat) (hl : l.length < 2 ^ 63) : AC Tryz.prog 111 [.slice (some ⟨10, o, none⟩) l.length c] [(10, .inp o (gcs l))] 11 (iv (volW l)) [(10, .inp o (gcs l))] 11 := by
  have hr := recT_ok (P := Tryz.prog) (l := []) (by simp)
  refine AC.pure Tryz.func111 rfl (by kernel_rfl) rfl [3, 6, 7, 8] rfl ?_
  refine E.seq ?_
  refine E.reg hr (by simp; rfl) ?_
  refine E.seq ?_
  refine E.reg hr (by simp; rfl) ?_
  refine E.seq ?_
  refine E.seq ?_
  refine E.reg hr (by simp; rfl) ?_
  refine E.block ?_
  refine E.loop ?_
  refine EL.ind (fun i : Nat => { fr := [(3, iv (volW (l.take i))), (6, .slice (some ⟨10, o, none⟩) l.length c), (7, iv l.length), (8, iv i)], sz := 18, H := [(10, .inp o (gcs l))], n := 11, marks := [], vs := [3, 6, 7, 8] }) (fun i => l.length - i) (fun i => i ≤ l.length) 0 (.less rfl rfl rfl (by simp [volW]) (by simp)) (Nat.zero_le _) (fun _ => rfl) ?_
  intro i hi
  refine E.seq ?_
  refine E.reg hr (by simp; rfl) ?_
  refine E.seq ?_
  refine E.cond (by rfl) (fun h => ?_) (fun h => ?_)
  · simp at h
    have hw : IntKind.i64.wrap ((i : Int) + 1) = (i : Int) + 1 := W_in (by omega) (by omega)
    have h7 : i * 7 + 7 ≤ l.length * 7 := by omega
    refine E.skip ?_
    refine E.seq ?_
    refine E.block ?_
    refine E.seq ?_
    refine E.reg hr (by simp [h, h7, gcs_take h]; rfl) ?_
    refine E.reg hr (by simp; rfl) ?_
    refine E.reg hr (by simp [hw]; rfl) ?_
    exact ⟨i + 1, Leads.ren [] rfl rfl rfl ⟨rfl, rfl⟩ (by simp [volW_succ h]) (by simp), h, by dsimp only; omega⟩
  · simp at h
    have hal : l.take i = l := List.take_of_length_le (by omega)
    refine E.exit ?_
    refine E.seq ?_
    refine E.reg hr (by simp; rfl) ?_
    refine E.ret ?_
    exact pureK.ret rfl rfl (by simp [hal]) (by repeat first | exact sub_refl _ | refine sub_cons rfl ?_)
def g111 (args : List Value) (H : Heap) (n : Nat) : R := match args with
  | [.slice (some a) len _] => (gunsAt H a len).map fun l => (iv (volW l), H, n)
  | _ => none
theorem ok111 : EntOk Tryz.prog (111, g111) := by
  intro args H n v H' n' h'
  simp only [g111] at h'
  split at h'
  · rename_i a len c
    rw [Option.map_eq_some_iff] at h'
    obtain ⟨l, h1, h2⟩ := h'
    injection h2 with e1 e2; injection e2 with e2 e3; subst e1 e2 e3
    obtain ⟨hf, hc, hlen, hlt⟩ := gunsAt_ok h1
    subst hlen
    exact AC.liftP rfl (Part.one (fun x => [x]) (by intro φ φ0 s s0 h; simp [denL, h]) (by intro p s h; exact ⟨h, trivial⟩) hf hc (afL_gcs l) [] (by simp [Seen]) gsz fun c => ⟨_, _, w111 l _ c hlt⟩)
  · cases h'
set_option maxRecDepth 100000 in
theorem w25 (l : List Gun) (o c : Nat) (hl : l.length < 2 ^ 63) : AC Tryz.prog 25 [strV o l.length c] [(10, .inp o (gcs l))] 11 (iv (volW l)) [(10, .inp o (gcs l))] 11 := by
  have hr := recT_ok (P := Tryz.prog) (l := []) (by simp)
  refine AC.pure Tryz.func25 rfl (by kernel_rfl) rfl [1, 3, 4] rfl ?_
  refine E.seq ?_
  refine E.reg hr (by simp; rfl) ?_
  refine E.seq ?_
  refine E.reg hr (by simp; rfl) ?_
  refine E.seq ?_
  refine E.seq ?_
  refine E.reg hr (by simp; rfl) ?_
  refine E.block ?_
  refine E.loop ?_
  refine EL.ind (fun i : Nat => { fr := [(1, .pointer (some ⟨11, 0, none⟩)), (3, iv (volW (l.take i))), (4, iv i)], sz := 21, H := [(11, .cells [.slice (some ⟨10, o, none⟩) l.length c] 24), (10, .inp o (gcs l))], n := 12, marks := [], vs := [1, 3, 4] }) (fun i => l.length - i) (fun i => i ≤ l.length) 0 (.less rfl rfl rfl (by simp [volW]) (by simp)) (Nat.zero_le _) (fun _ => rfl) ?_
  intro i hi
  refine E.seq ?_
  refine E.seq ?_
  refine E.reg hr (by simp; rfl) ?_
  refine E.cond (by rfl) (fun h => ?_) (fun h => ?_)
  · simp at h
    have hw : IntKind.i64.wrap ((i : Int) + 1) = (i : Int) + 1 := W_in (by omega) (by omega)
    have h7 : i * 7 + 1 < l.length * 7 := by omega
    refine E.skip ?_
    refine E.seq ?_
    refine E.block ?_
    refine E.reg hr (by simp [h, h7, gcs_vE h, show o ≤ o + i * 7 + 1 by omega, show o + i * 7 + 1 - o = i * 7 + 1 by omega]; rfl) ?_
    refine E.reg hr (by simp [hw]; rfl) ?_
    exact ⟨i + 1, .less rfl rfl rfl (by simp [volW_succ h]) (by simp), h, by dsimp only; omega⟩
  · simp at h
    have hal : l.take i = l := List.take_of_length_le (by omega)
    refine E.exit ?_
    refine E.seq ?_
    refine E.reg hr (by simp; rfl) ?_
    refine E.ret ?_
    exact pureK.ret rfl rfl (by simp [hal]) (by repeat first | exact sub_refl _ | refine sub_cons rfl ?_)
/-- a function of one string that is not nil -/
def gStr1 (F : List Gun → Value) (args : List Value) (H : Heap) (n : Nat) : R := match args with
  | [v] => match strAt H v with
    | some l => if 1 ≤ l.length then some (F l, H, n) else none
    | none => none
  | _ => none
theorem okStr1 {f : FuncId} {F : List Gun → Value} (hF : ∀ l, af (F l) = true)
    (h : ∀ l o c, l.length < 2 ^ 63 → 1 ≤ l.length → AC Tryz.prog f [strV o l.length c] [(10, .inp o (gcs l))] 11 (F l) [(10, .inp o (gcs l))] 11) : EntOk Tryz.prog (f, gStr1 F) := by
  intro args H n v H' n' h'
  simp only [gStr1] at h'
  split at h'
  · split at h'
    · rename_i l h1
      split at h'
      · rename_i hp
        injection h' with h'; injection h' with e1 e2; injection e2 with e2 e3; subst e1 e2 e3
        unfold strAt at h1
        split at h1
        · injection h1 with h1; subst h1; simp at hp
        · obtain ⟨hf, hc, hlen, hlt⟩ := gunsAt_ok h1
          subst hlen
          exact AC.liftP (hF _) (Part.one (fun s => [.agg ⟨[s]⟩]) (by intro φ φ0 s s0 h; simp [denL, den, h]) (by intro p s h; exact ⟨⟨h, trivial⟩, trivial⟩) hf hc (afL_gcs l) [] (by simp [Seen]) gsz fun c => ⟨_, _, h l _ c hlt hp⟩)
        · cases h1
      · cases h'
    · cases h'
  · cases h'
theorem ok25 : EntOk Tryz.prog (25, gStr1 fun l => iv (volW l)) := okStr1 (fun _ => rfl) fun l o c hl _ => w25 l o c hl
end Go.Proofs.YtndlfijfjglkdaaGreatDoor

namespace Go.Proofs.YtndlfijfjglkdaaGreatDoor
open Go Go.Ab Go.Proofs
def idxS (l : List ByteArray) (x : ByteArray) : Int := match l.findIdx? fun y => decide (x = y) with
  | some i => i
  | none => -1
theorem idxS_hit {l : List ByteArray} {x : ByteArray} {i : Nat} (hi : i < l.length) (hn : x = l[i]) (hb : ∀ j (h : j < l.length), j < i → x ≠ l[j]) : idxS l x = i := by
  have : l.findIdx? (fun y => decide (x = y)) = some i := by
    rw [List.findIdx?_eq_some_iff_getElem]
    exact ⟨hi, by simp [hn], fun j hj => by simpa using hb j (by omega) hj⟩
  unfold idxS
  rw [this]
theorem idxS_miss {l : List ByteArray} {x : ByteArray} (hb : ∀ j (h : j < l.length), x ≠ l[j]) : idxS l x = -1 := by
  have : l.findIdx? (fun y => decide (x = y)) = none := by
    rw [List.findIdx?_eq_none_iff]
    intro y hy
    obtain ⟨j, hj, rfl⟩ := List.getElem_of_mem hy
    simpa using hb j hj
  unfold idxS
  rw [this]
theorem idxS_mem (l : List ByteArray) (x : ByteArray) : decide (0 ≤ idxS l x) = hasW x l := by
  cases h : hasW x l with
  | true =>
    have : (l.findIdx? fun y => decide (x = y)).isSome = true := by
      rw [List.findIdx?_isSome]
      exact List.any_eq_true.2 ⟨x, hasW_iff.1 h, by simp⟩
    obtain ⟨i, hi⟩ := Option.isSome_iff_exists.1 this
    have : 0 ≤ idxS l x := by unfold idxS; rw [hi]; simp
    simp [this]
  | false =>
    have : idxS l x = -1 := idxS_miss fun j hj e => by
      have := hasW_iff.2 (e ▸ List.getElem_mem hj : x ∈ l)
      rw [h] at this
      cases this
    simp [this]
theorem w209 (l : List ByteArray) (o c : Nat) (x : ByteArray) (hl : l.length < 2 ^ 31) : AC Tryz.prog 209 [.slice (some ⟨10, o, none⟩) l.length c, sv x] [(10, .inp o (l.map sv))] 11 (iv (idxS l x)) [(10, .inp o (l.map sv))] 11 := by
  have hr := recT_ok (P := Tryz.prog) (l := []) (by simp)
  refine AC.pure Tryz.func209 rfl (by kernel_rfl) rfl [0, 1, 7, 8] rfl ?_
  refine E.seq ?_
  refine E.reg hr (by simp; rfl) ?_
  refine E.seq ?_
  refine E.seq ?_
  refine E.reg hr (by simp; rfl) ?_
  refine E.block ?_
  refine E.loop ?_
  refine EL.ind (fun i : Nat => { fr := [(0, .slice (some ⟨10, o, none⟩) l.length c), (1, sv x), (7, iv l.length), (8, iv i)], sz := 19, H := [(10, .inp o (l.map sv))], n := 11, marks := [], vs := [0, 1, 7, 8] }) (fun i => l.length - i) (fun i => i ≤ l.length ∧ ∀ j, j < i → ∀ h : j < l.length, x ≠ l[j]) 0 (.less rfl rfl rfl (by simp) (by simp)) ⟨Nat.zero_le _, fun j hj => absurd hj (by omega)⟩ (fun _ => rfl) ?_
  intro i ⟨hi, hg⟩
  have hw : IntKind.i64.wrap ((i : Int) + 1) = (i : Int) + 1 := W_in (by omega) (by omega)
  refine E.seq ?_
  refine E.reg hr (by simp; rfl) ?_
  refine E.seq ?_
  refine E.cond (by rfl) (fun h => ?_) (fun h => ?_)
  · simp at h
    refine E.skip ?_
    refine E.seq ?_
    refine E.block ?_
    refine E.seq ?_
    refine E.reg hr (by simp; rfl) ?_
    refine E.seq ?_
    refine E.reg hr (by simp [h]; rfl) ?_
    refine E.cond (by rfl) (fun h2 => ?_) (fun h2 => ?_)
    · simp at h2
      refine E.seq ?_
      refine E.reg hr (by simp; rfl) ?_
      refine E.ret ?_
      exact pureK.ret rfl rfl (by simp [idxS_hit h h2 fun j h3 h4 => hg j h4 h3]) (by repeat first | exact sub_refl _ | refine sub_cons rfl ?_)
    · simp at h2
      refine E.skip ?_
      refine E.reg hr (by simp [hw]; rfl) ?_
      refine ⟨i + 1, .less rfl rfl rfl (by simp) (by simp), ⟨by omega, fun j hj h3 => ?_⟩, by dsimp only; omega⟩
      rcases Nat.lt_or_ge j i with h4 | h4
      · exact hg j h4 h3
      · obtain rfl : j = i := by omega
        exact h2
  · simp at h
    refine E.exit ?_
    refine E.seq ?_
    refine E.reg hr (by simp; rfl) ?_
    refine E.ret ?_
    exact pureK.ret rfl rfl (by simp [idxS_miss (l := l) (x := x) fun j h3 => hg j (by omega) h3]) (by repeat first | exact sub_refl _ | refine sub_cons rfl ?_)
def g209 (args : List Value) (H : Heap) (n : Nat) : R := match args with
  | [.slice (some a) len _, .string x] => (strsAt H a len).map fun l => (iv (idxS l x), H, n)
  | _ => none
theorem ok209 : EntOk Tryz.prog (209, g209) := by
  intro args H n v H' n' h'
  simp only [g209] at h'
  split at h'
  · rename_i a len c x
    rw [Option.map_eq_some_iff] at h'
    obtain ⟨l, h1, h2⟩ := h'
    injection h2 with e1 e2; injection e2 with e2 e3; subst e1 e2 e3
    obtain ⟨hf, hc, hlen, hlt⟩ := strsAt_ok h1
    subst hlen
    exact AC.liftP rfl (Part.one (fun s => [s, sv x]) (by intro φ φ0 s s0 h; simp [denL, den, h]) (by intro p s h; exact ⟨h, trivial, trivial⟩) hf hc (afL_sv l) [] (by simp [Seen]) gsz fun c => ⟨_, _, w209 l _ c x hlt⟩)
  · cases h'
theorem w161 (l : List ByteArray) (o c : Nat) (x : ByteArray) (hl : l.length < 2 ^ 31) : AC Tryz.prog 161 [.slice (some ⟨10, o, none⟩) l.length c, sv x] [(10, .inp o (l.map sv))] 11 (.bool (hasW x l)) [(10, .inp o (l.map sv))] 11 := by
  have hr := recT_ok (P := Tryz.prog) (l := [(209, g209)]) (by simp only [List.forall_mem_cons]; exact ⟨ok209, by simp⟩)
  have ht : strsAt [(10, .inp o (l.map sv))] ⟨10, o, none⟩ l.length = some l := by
    unfold strsAt
    simp [List.take_of_length_le, strsOf_sv, show l.length < 2147483648 by omega]
  refine AC.pure Tryz.func161 rfl (by kernel_rfl) rfl [4, 1, 0] rfl ?_
  refine E.seq ?_
  refine E.reg hr (by simp; rfl) ?_
  refine E.seq ?_
  refine E.reg hr (by simp [g209, ht]; rfl) ?_
  refine E.ret ?_
  exact pureK.ret rfl rfl (by simp [idxS_mem]) (by repeat first | exact sub_refl _ | refine sub_cons rfl ?_)
def g161 (args : List Value) (H : Heap) (n : Nat) : R := match args with
  | [.slice (some a) len _, .string x] => (strsAt H a len).map fun l => (.bool (hasW x l), H, n)
  | _ => none
theorem ok161 : EntOk Tryz.prog (161, g161) := by
  intro args H n v H' n' h'
  simp only [g161] at h'
  split at h'
  · rename_i a len c x
    rw [Option.map_eq_some_iff] at h'
    obtain ⟨l, h1, h2⟩ := h'
    injection h2 with e1 e2; injection e2 with e2 e3; subst e1 e2 e3
    obtain ⟨hf, hc, hlen, hlt⟩ := strsAt_ok h1
    subst hlen
    exact AC.liftP rfl (Part.one (fun s => [s, sv x]) (by intro φ φ0 s s0 h; simp [denL, den, h]) (by intro p s h; exact ⟨h, trivial, trivial⟩) hf hc (afL_sv l) [] (by simp [Seen]) gsz fun c => ⟨_, _, w161 l _ c x hlt⟩)
  · cases h'
end Go.Proofs.YtndlfijfjglkdaaGreatDoor

namespace Go.Proofs.YtndlfijfjglkdaaGreatDoor
open Go Go.Ab Go.Proofs
end Go.Proofs.YtndlfijfjglkdaaGreatDoor

namespace Go.Proofs.YtndlfijfjglkdaaGreatDoor
open Go Go.Ab Go.Proofs
section
variable {P : Program}
end
end Go.Proofs.YtndlfijfjglkdaaGreatDoor
