/-
The walk through what TopSpraySoft reaches, and the plain law behind it (no condition).
-/
import Derived.Test.YtljglocehbccnaaUa
import Derived.Test.YtljglocehbccnaaAg
import Derived.Test.YtljglocehbccnaaUd
import Derived.Test.YtljglocehbccnaaRf
namespace Go.Proofs.Ytljglocehbccnaa
open Go Go.Ab Go.Proofs Go.ChangeShapes Go.WideShapes Go.ChangeAt Go.RowKit
theorem fits_cons {a : Leaf} {bs : List Leaf} {r : List Value} (h : fitsL (a :: bs) r) : ∃ v vs, r = v :: vs ∧ a.fits v ∧ fitsL bs vs := by
  cases r with
  | nil => exact h.elim
  | cons v vs => exact ⟨v, vs, rfl, h.1, h.2⟩
theorem fits_nil {r : List Value} (h : fitsL [] r) : r = [] := by
  cases r with
  | nil => rfl
  | cons v vs => exact h.elim
theorem leafs5 : leafs Try.prog 6 5 = some [.int .u8] := by kernel_rfl
theorem leafs25 : leafs Try.prog 6 25 = some [.int .i64, .int .i64, .int .i64, .int .i64, .int .i64] := by kernel_rfl
theorem leafs27 : leafs Try.prog 6 27 = some [.int .i64, .int .i64, .int .i64, .int .i64, .int .i64] := by kernel_rfl
theorem leafs89 : leafs Try.prog 6 89 = some [.int .i64, .int .i64, .int .i64] := by kernel_rfl
theorem fits_five {r : List Value} (h : fitsL [.int .i64, .int .i64, .int .i64, .int .i64, .int .i64] r) : ∃ a b c d e : Int, r = [iv a, iv b, iv c, iv d, iv e] := by
  obtain ⟨_, _, rfl, ⟨a, rfl, _⟩, h1⟩ := fits_cons h
  obtain ⟨_, _, rfl, ⟨b, rfl, _⟩, h2⟩ := fits_cons h1
  obtain ⟨_, _, rfl, ⟨c, rfl, _⟩, h3⟩ := fits_cons h2
  obtain ⟨_, _, rfl, ⟨d, rfl, _⟩, h4⟩ := fits_cons h3
  obtain ⟨_, _, rfl, ⟨e, rfl, _⟩, h5⟩ := fits_cons h4
  obtain rfl := fits_nil h5
  exact ⟨a, b, c, d, e, rfl⟩
theorem fits_u8 {v : Value} (h : fitsL [.int .u8] [v]) : ∃ n : Int, v = .int .u8 n ∧ 0 ≤ n ∧ n < 256 := by
  obtain ⟨_, _, e, ⟨n, rfl, hn⟩, _⟩ := fits_cons h
  injection e with e _
  subst e
  refine ⟨n, rfl, ?_⟩
  simp [Lit.wf, IntKind.min, IntKind.max, IntKind.signed, IntKind.bits] at hn
  omega
theorem fits_sgs : ∀ rows : List (List Value), (∀ r ∈ rows, fitsL [.int .i64, .int .i64, .int .i64] r) → ∃ l : List Sg, rows.flatten = sgs l ∧ l.length = rows.length
  | [], _ => ⟨[], rfl, rfl⟩
  | r :: rows, h => by
    obtain ⟨_, _, e1, ⟨a, rfl, _⟩, h1⟩ := fits_cons (h r (List.mem_cons_self ..))
    obtain ⟨_, _, rfl, ⟨b, rfl, _⟩, h2⟩ := fits_cons h1
    obtain ⟨_, _, rfl, ⟨c, rfl, _⟩, h3⟩ := fits_cons h2
    obtain rfl := fits_nil h3
    obtain ⟨l, f1, f2⟩ := fits_sgs rows fun r hr => h r (List.mem_cons_of_mem _ hr)
    exact ⟨⟨a, b, c⟩ :: l, by rw [List.flatten_cons, f1, e1]; rfl, by simp [f2]⟩
set_option maxRecDepth 100000 in
theorem open_run {H : Type} {enc : TypeId × Value → H} {W : World} {base : Nat} {v : Value} {d : DataW H} {p : List MemPlace} (hv : Value.okWide Try.prog W .any base 30 v) (h : DataW.Trod enc Try.prog W 0 (fun _ => true) true 30 v d p) :
    ∃ (b : Brg) (s : Value) (u1 u2 u3 : Int), v = b.run s u1 u2 u3 ∧ (0 ≤ u1 ∧ u1 < 256) ∧ (0 ≤ u2 ∧ u2 < 256) ∧ (0 ≤ u3 ∧ u3 < 256) ∧
      (s = .slice none 0 0 ∨ ∃ (k o c : Nat) (l : List Sg), s = .slice (some ⟨k, o, none⟩) l.length c ∧ ∃ cs t fz, W.heap[k]? = some (.cells cs t fz) ∧ ∀ i, i < (sgs l).length → cs[o + i]? = (sgs l)[i]?) := by
  unfold Value.okWide at hv
  rw [Try.underlying30] at hv
  obtain ⟨cs, rfl, hsz, ts, hts, _, hrow⟩ := hv
  rw [show Try.prog.cellTypes Try.prog.depth 30 = some [3, 3, 3, 3, 3, 3, 3, 3, 3, 3, 28, 5, 5, 5] by kernel_rfl] at hts
  injection hts with hts; subst hts
  rw [show Try.prog.cellsOf 30 = 14 by kernel_rfl] at hsz
  obtain ⟨l⟩ := cs
  match l, hsz with
  | [v0, v1, v2, v3, v4, v5, v6, v7, v8, v9, v10, v11, v12, v13], _ =>
    obtain ⟨u', h2, h3⟩ := hrow 10 v10 rfl
    obtain rfl : 28 = u' := by simpa using h2
    obtain ⟨fuel, h⟩ := h
    obtain ⟨xs, m, rfl, _, hlen, hxl, hel⟩ := DataW.trod_struct Try.underlying30 h
    have key : ∀ j (f : Field), (match Try.prog.underlying 30 with | some (.struct fs) => fs[j]? | _ => none) = some f → ∃ y, DataW.trod enc Try.prog W 0 (fun _ => true) true m f.type (([v0, v1, v2, v3, v4, v5, v6, v7, v8, v9, v10, v11, v12, v13].drop f.offset).take (Try.prog.cellsOf f.type)) = some y := fun j f hf => by
      rw [Try.underlying30] at hf
      have h4 := hel j f hf
      have hpos := (Array.getElem?_eq_some_iff.1 hf).1
      obtain ⟨y, hy⟩ : ∃ y, xs[j]? = some y := ⟨xs[j]'(by omega), by simp⟩
      rw [hy] at h4
      exact ⟨y, by simpa [Value.cells] using h4⟩
    obtain ⟨y0, k0⟩ := key 0 _ (by rw [Try.underlying30]; rfl)
    obtain ⟨y1, k1⟩ := key 1 _ (by rw [Try.underlying30]; rfl)
    obtain ⟨y2, k2⟩ := key 2 _ (by rw [Try.underlying30]; rfl)
    obtain ⟨y3, k3⟩ := key 3 _ (by rw [Try.underlying30]; rfl)
    obtain ⟨y4, k4⟩ := key 4 _ (by rw [Try.underlying30]; rfl)
    obtain ⟨y5, k5⟩ := key 5 _ (by rw [Try.underlying30]; rfl)
    have l0 : fitsL [.int .i64, .int .i64, .int .i64, .int .i64, .int .i64] [v0, v1, v2, v3, v4] := by
      rw [← show (([v0, v1, v2, v3, v4, v5, v6, v7, v8, v9, v10, v11, v12, v13].drop 0).take (Try.prog.cellsOf 25)) = [v0, v1, v2, v3, v4] by kernel_rfl]
      exact leafs_ok 6 25 _ m _ y0 leafs25 k0
    have l1 : fitsL [.int .i64, .int .i64, .int .i64, .int .i64, .int .i64] [v5, v6, v7, v8, v9] := by
      rw [← show (([v0, v1, v2, v3, v4, v5, v6, v7, v8, v9, v10, v11, v12, v13].drop 5).take (Try.prog.cellsOf 27)) = [v5, v6, v7, v8, v9] by kernel_rfl]
      exact leafs_ok 6 27 _ m _ y1 leafs27 k1
    have k2' : DataW.trod enc Try.prog W 0 (fun _ => true) true m 28 [v10] = some y2 := by
      rw [← show (([v0, v1, v2, v3, v4, v5, v6, v7, v8, v9, v10, v11, v12, v13].drop 10).take (Try.prog.cellsOf 28)) = [v10] by kernel_rfl]
      exact k2
    have l3 : fitsL [.int .u8] [v11] := by
      rw [← show (([v0, v1, v2, v3, v4, v5, v6, v7, v8, v9, v10, v11, v12, v13].drop 11).take (Try.prog.cellsOf 5)) = [v11] by kernel_rfl]
      exact leafs_ok 6 5 _ m _ y3 leafs5 k3
    have l4 : fitsL [.int .u8] [v12] := by
      rw [← show (([v0, v1, v2, v3, v4, v5, v6, v7, v8, v9, v10, v11, v12, v13].drop 12).take (Try.prog.cellsOf 5)) = [v12] by kernel_rfl]
      exact leafs_ok 6 5 _ m _ y4 leafs5 k4
    have l5 : fitsL [.int .u8] [v13] := by
      rw [← show (([v0, v1, v2, v3, v4, v5, v6, v7, v8, v9, v10, v11, v12, v13].drop 13).take (Try.prog.cellsOf 5)) = [v13] by kernel_rfl]
      exact leafs_ok 6 5 _ m _ y5 leafs5 k5
    obtain ⟨x, y, dx, dy, t, e0⟩ := fits_five l0
    obtain ⟨r, sp, ls, c, f, e1⟩ := fits_five l1
    obtain ⟨u1, rfl, hu1⟩ := fits_u8 l3
    obtain ⟨u2, rfl, hu2⟩ := fits_u8 l4
    obtain ⟨u3, rfl, hu3⟩ := fits_u8 l5
    simp only [List.cons.injEq, and_true] at e0 e1
    obtain ⟨rfl, rfl, rfl, rfl, rfl⟩ := e0
    obtain ⟨rfl, rfl, rfl, rfl, rfl⟩ := e1
    refine ⟨⟨r, sp, ls, c, f, x, y, dx, dy, t⟩, v10, u1, u2, u3, rfl, hu1, hu2, hu3, ?_⟩
    rcases handed_slice (d := 6) Try.underlying28 leafs89 (by kernel_rfl) (by simp) h3 k2' with h0 | ⟨k, o, len, cap, rows, e, h5, h6, h7, h8, cs, t', fz, hw, hc⟩
    · exact .inl h0
    · obtain ⟨l, f1, f2⟩ := fits_sgs rows h8
      have : len = l.length := by omega
      subst this
      rw [f1] at hc
      exact .inr ⟨k, o, cap, l, e, cs, t', fz, hw, hc⟩
end Go.Proofs.Ytljglocehbccnaa

namespace Go.Proofs.Ytljglocehbccnaa
open Go Go.Ab Go.Proofs
/-! ### levels from tick to tick -/
theorem firstV_zero : ∀ l : List Int, firstV l = 0 ↔ ∀ e ∈ l, e = 0
  | [] => by simp [firstV]
  | x :: l => by
    simp only [firstV, List.mem_cons, forall_eq_or_imp]
    split
    · rename_i h; simp [h, firstV_zero l]
    · rename_i h; simp [h]
theorem quV_bound (b : Brg) (l : List Sg) : ∀ t, t ≤ 5000 → 0 ≤ quV b l t ∧ quV b l t ≤ t
  | 0, _ => by simp [quV]
  | t + 1, h => by
    obtain ⟨h1, h2⟩ := quV_bound b l t (by omega)
    rw [quV]
    split
    · omega
    · rw [W_in (by omega) (by omega)]; omega
theorem wat_of {b : Brg} {l : List Sg} (hE : brE b l = 0) : (1 ≤ b.t ∧ b.t ≤ 4096) ∧ (0 ≤ b.c ∧ b.c ≤ 1000) ∧ (0 ≤ b.f ∧ b.f ≤ 1000) := by
  have hz := (firstV_zero _).1 hE
  have h1 := hz _ (List.mem_cons_self ..)
  have h2 := hz (watV b.r b.s b.l b.c b.f) (by simp)
  have w0 : ∀ a lo hi : Int, withinV a lo hi = 0 → lo ≤ a ∧ a ≤ hi := fun a lo hi h => by
    unfold withinV at h
    split at h
    · cases h
    · omega
  have h3 := (firstV_zero _).1 h1 (withinV b.t 1 4096) (by simp)
  have h4 := (firstV_zero _).1 h2 (withinV b.c 0 1000) (by simp)
  have h5 := (firstV_zero _).1 h2 (withinV b.f 0 1000) (by simp)
  exact ⟨w0 _ _ _ h3, w0 _ _ _ h4, w0 _ _ _ h5⟩
theorem lev_first {b : Brg} {l : List Sg} (hE : brE b l = 0) : levV b l 0 ≤ 1 := by
  obtain ⟨_, hc, hf⟩ := wat_of hE
  have := quV_bound b l 1 (by omega)
  unfold levV
  rw [W_in (x := b.f + 1) (by omega) (by omega), W_in (x := quV b l (0 + 1) - b.c) (by simp only [Nat.zero_add]; omega) (by simp only [Nat.zero_add]; omega)]
  simp only [Nat.zero_add]
  omega
theorem lev_next {b : Brg} {l : List Sg} (hE : brE b l = 0) {τ : Nat} (hτ : τ + 1 < 4999) : levV b l (τ + 1) ≤ levV b l τ + 1 := by
  obtain ⟨_, hc, hf⟩ := wat_of hE
  have h1 := quV_bound b l (τ + 1) (by omega)
  have h2 := quV_bound b l (τ + 1 + 1) (by omega)
  have h3 : quV b l (τ + 1 + 1) ≤ quV b l (τ + 1) + 1 := by
    rw [quV]
    split
    · omega
    · rw [W_in (by omega) (by omega)]; omega
  unfold levV
  rw [W_in (x := b.f + 1) (by omega) (by omega), W_in (x := quV b l (τ + 1) - b.c) (by omega) (by omega), W_in (x := quV b l (τ + 1 + 1) - b.c) (by omega) (by omega)]
  omega
theorem lev_top {b : Brg} {l : List Sg} (hE : brE b l = 0) (τ : Nat) : 0 ≤ levV b l τ ∧ levV b l τ ≤ b.f + 1 := by
  obtain ⟨_, hc, hf⟩ := wat_of hE
  refine ⟨(lev_pos hE τ).1, ?_⟩
  unfold levV
  rw [W_in (x := b.f + 1) (by omega) (by omega)]
  omega
theorem brE_soft {b : Brg} {l : List Sg} (hE : brE b l = 0) {k : Int} (h : 0 ≤ k ∧ k ≤ 1000) : brE { b with f := k } l = 0 := by
  have hz := (firstV_zero _).1 hE
  have h2 := (firstV_zero _).1 (hz (watV b.r b.s b.l b.c b.f) (by simp))
  have h3 : watV b.r b.s b.l b.c k = 0 := (firstV_zero _).2 fun e he => by
    simp only [List.mem_cons, List.not_mem_nil, or_false] at he
    rcases he with rfl | rfl | rfl | rfl | rfl
    · exact h2 _ (by simp)
    · exact h2 _ (by simp)
    · exact h2 _ (by simp)
    · exact h2 _ (by simp)
    · unfold withinV
      rw [if_neg (by omega)]
  refine (firstV_zero _).2 fun e he => ?_
  simp only [List.mem_cons, List.not_mem_nil, or_false] at he
  rcases he with rfl | rfl | rfl
  · exact hz _ (by simp)
  · exact h3
  · exact hz _ (by simp)
end Go.Proofs.Ytljglocehbccnaa

namespace Go.Proofs.Ytljglocehbccnaa.Gn
open Go Go.Ab Go.Proofs Go.Soft
/-! ### volumes of the steps -/
/-- the volume of the guns with a name, among the first ones -/
def pvol (l : List Gun) (s : ByteArray) : Nat → Int
  | 0 => 0
  | k + 1 => pvol l s k + match l[k]? with
    | some g => if g.name = s then g.v else 0
    | none => 0
theorem pvol_bound {l : List Gun} (hb : ∀ g ∈ l, 1 ≤ g.v ∧ g.v ≤ 64) (s : ByteArray) : ∀ k, 0 ≤ pvol l s k ∧ pvol l s k ≤ 64 * k
  | 0 => by simp [pvol]
  | k + 1 => by
    have := pvol_bound hb s k
    rw [pvol]
    split
    · rename_i g hg
      have h2 := hb g (List.mem_of_getElem? hg)
      split <;> omega
    · omega
theorem pvol_at {l : List Gun} (hd : Dis l) {i : Nat} (hi : i < l.length) : ∀ k, k ≤ l.length → pvol l l[i].name k = if i < k then l[i].v else 0
  | 0, _ => by simp [pvol]
  | k + 1, hk => by
    have hkl : k < l.length := by omega
    rw [pvol, pvol_at hd hi k (by omega), List.getElem?_eq_getElem hkl]
    dsimp only
    by_cases e : l[k].name = l[i].name
    · have := hd k i hkl hi e
      subst this
      rw [if_pos rfl, if_neg (by omega), if_pos (by omega)]
      omega
    · have : k ≠ i := fun h => by subst h; exact e rfl
      rw [if_neg e]
      by_cases h : i < k
      · rw [if_pos h, if_pos (by omega)]; omega
      · rw [if_neg h, if_neg (by omega)]; omega
theorem pvol_all {l : List Gun} (hd : Dis l) (s : ByteArray) : pvol l s l.length = volN l s := by
  by_cases h : ∃ i, ∃ hi : i < l.length, l[i].name = s
  · obtain ⟨i, hi, rfl⟩ := h
    rw [pvol_at hd hi _ (Nat.le_refl _), if_pos hi, hd.vol hi]
  · have h0 : ∀ k, k ≤ l.length → pvol l s k = 0 := by
      intro k
      induction k with
      | zero => intro _; rfl
      | succ k ih =>
        intro hk
        have hkl : k < l.length := by omega
        rw [pvol, ih (by omega), List.getElem?_eq_getElem hkl]
        dsimp only
        rw [if_neg (fun e => h ⟨k, hkl, e⟩)]
        rfl
    rw [h0 _ (Nat.le_refl _)]
    unfold volN
    have : l.find? (fun g => decide (g.name = s)) = none := List.find?_eq_none.2 fun g hg => by
      obtain ⟨i, hi, rfl⟩ := List.getElem_of_mem hg
      simpa using fun e => h ⟨i, hi, e⟩
    rw [this]
/-- the volume that fires at a level -/
def fireV (l : List Gun) (i : Nat) : Int := sumN l (seenN (softL l) i)
def fireL (l : List Gun) (i : Nat) : List Value := (List.range i).map fun j => iv (fireV l j)
theorem fireL_len (l : List Gun) (i : Nat) : (fireL l i).length = i := by simp [fireL]
theorem fireL_at {l : List Gun} {i j : Nat} (h : j < i) : (fireL l i)[j]? = some (iv (fireV l j)) := by
  unfold fireL
  rw [List.getElem?_map, List.getElem?_range h]
  rfl
theorem fireL_succ (l : List Gun) (i : Nat) : fireL l (i + 1) = fireL l i ++ [iv (fireV l i)] := by
  simp [fireL, List.range_succ]
theorem fire_zero (l : List Gun) : fireV l 0 = 0 := by
  unfold fireV
  simp [seenN, sumN]
theorem fire_next {l : List Gun} {i : Nat} (h : i < (softL l).length) : fireV l (i + 1) = sumN l (seenN (softL l) i ++ rowAt (softL l) i) := by
  unfold fireV
  rw [rowAt_eq h]
  unfold seenN
  rw [List.take_succ_eq_append_getElem h, List.flatten_append]
  simp
theorem fire_all {l : List Gun} (hE : strE l = 0) : fireV l (softL l).length = volW l := by
  obtain ⟨hne, h8, hd, hb⟩ := strE_zero hE
  have hpos : 0 < l.length := List.length_pos_iff.2 hne
  obtain ⟨f, hf⟩ := at_reach hpos (softL l).length (Nat.le_refl _)
  have := at_end hpos hf (by omega)
  subst this
  unfold fireV
  rw [hf.seen, sum_nms hd _ (Nat.le_refl _), vol_all hb (by omega)]
/-- a step that more than doubles the volume is one gun alone -/
theorem fire_rule {l : List Gun} (hE : strE l = 0) {i : Nat} (_h1 : 1 ≤ i) (hi : i < (softL l).length) : fireV l (i + 1) ≤ 2 * fireV l i ∨ (rowAt (softL l) i).length = 1 := by
  obtain ⟨hne, h8, hd, hb⟩ := strE_zero hE
  have hpos : 0 < l.length := List.length_pos_iff.2 hne
  obtain ⟨f, hf⟩ := at_reach hpos i (by omega)
  obtain ⟨hfl, hx⟩ := at_next hpos hf hi
  obtain ⟨t, ht⟩ : ∃ t, nxt l i f = t := ⟨_, rfl⟩
  rw [ht] at hx
  have hf2 := hx.next
  rcases hx.more with h | ⟨_, h⟩
  · right
    rw [hx.row, rowN_len (Nat.le_of_lt hx.lt) hx.le]
    exact h
  · left
    unfold fireV
    rw [hf2.seen, hf.seen, sum_nms hd _ hx.le, sum_nms hd _ hf.le]
    exact h
theorem seen_len (l : List Gun) {i : Nat} (_ : i ≤ (softL l).length) (hpos : 0 < l.length) : (seenN (softL l) i).length ≤ l.length := by
  obtain ⟨f, hf⟩ := at_reach hpos i ‹_›
  rw [hf.seen, nms_len, List.length_take, sorted_len]
  omega
theorem fire_bound {l : List Gun} (hE : strE l = 0) {i : Nat} (hi : i ≤ (softL l).length) : 0 ≤ fireV l i ∧ fireV l i ≤ 512 := by
  obtain ⟨hne, h8, hd, hb⟩ := strE_zero hE
  have h1 := sumN_bound hb (seenN (softL l) i)
  have h2 := seen_len l hi (List.length_pos_iff.2 hne)
  unfold fireV
  omega
end Go.Proofs.Ytljglocehbccnaa.Gn

namespace Go.Proofs.Ytljglocehbccnaa.Gn
open Go Go.Ab Go.Proofs Go.Soft
/-! ### a list of numbers on its way: a literal of one, or made by appends -/
abbrev oI : LstK := oLit 3
def ints (cs : List Value) : Prop := ∀ v ∈ cs, ∃ x : Int, v = iv x
theorem ints_one : ∀ {cs : List Value}, ints cs → oneL cs = true
  | [], _ => rfl
  | v :: cs, h => by
    obtain ⟨x, rfl⟩ := h v (List.mem_cons_self ..)
    simp [oneL, ints_one fun w hw => h w (List.mem_cons_of_mem _ hw)]
structure FI (q : Nat) (K : Heap) (cs : List Value) (o : Nat) (Hx : Heap) (N : Nat) : Prop where
  sub : Sub K Hx
  nm : namesOk N Hx = true
  pl : plainH Hx = true
  out : hget Hx o = some (oI.blk cs)
  ho : q ≤ o ∧ o < N
  ne : cs ≠ []
  it : ints cs
section
variable {q o N : Nat} {K Hx : Heap} {cs : List Value}
theorem FI.skip (h : FI q K cs o Hx N) (hK : ∀ k b, hget K k = some b → k < q) (b : Blk) (hb : plainB2 b = true) : FI q K cs o ((N, b) :: Hx) (N + 1) := by
  have h0 := h.ho
  refine ⟨fun k b' hk => ?_, namesOk_put (by omega) (namesOk_mono (by omega) _ h.nm), by rw [plainH, hb, h.pl]; rfl, ?_, ⟨h0.1, by omega⟩, h.ne, h.it⟩
  · have := hK k b' hk
    rw [hget_cons, if_neg (by omega)]
    exact h.sub k b' hk
  · rw [hget_cons, if_neg (by omega)]; exact h.out
theorem FI.at (h : FI q K cs o Hx N) {j : Nat} {v : Value} (hv : cs[j]? = some v) : cellA Hx o j = some v := by
  rw [cellA_eq, h.out]
  show cellB j (if cs.length = 1 then Blk.cells cs 3 else .ext cs 3 1) = _
  split <;> exact hv
theorem FI.more (h : FI q K cs o Hx N) (hK : ∀ k b, hget K k = some b → k < q) (x : Int) (hl : cs.length < 2147483648) :
    ∃ Hz, builtinA Try.prog .append #[35, 35] ((N, .cells [iv x] 3) :: Hx) (N + 1) [oI.val o cs.length, .slice (some ⟨N, 0, none⟩) 1 1] = some (oI.val (N + 1) (cs.length + 1), Hz, N + 1 + 1) ∧ FI q K (cs ++ [iv x]) (N + 1) Hz (N + 1 + 1) := by
  have hpos : 0 < cs.length := List.length_pos_iff.2 h.ne
  have hk : cellsA ((N, .cells [iv x] 3) :: Hx) N 0 1 = some [iv x] := by
    rw [cellsA_eq, hget_cons, if_pos rfl]; rfl
  have h0 := h.ho
  have hox : hget ((N, Blk.cells [iv x] 3) :: Hx) o = some (oI.blk cs) := by rw [hget_cons, if_neg (by omega)]; exact h.out
  have hv : oI.val (N + 1) (cs.length + 1) = .slice (some ⟨N + 1, 0, some 0⟩) (cs.length + 1) 0 := if_neg (by omega)
  have hb : oI.blk (cs ++ [iv x]) = .ext (cs ++ [iv x]) 3 1 := if_neg (by rw [List.length_append, List.length_singleton]; omega)
  have hsm : (cs.length + 1) * 8 ≤ 1099511627776 ∧ cs.length + 1 ≤ 1099511627776 := by omega
  have h1 := ints_one h.it
  have hit : ints (cs ++ [iv x]) := fun v hv => by
    rcases List.mem_append.1 hv with hv | hv
    · exact h.it v hv
    · rw [List.mem_singleton] at hv; exact ⟨x, hv⟩
  have fin : ∀ Hd : Heap, (∀ k, k ≠ o → hget Hd k = hget ((N, Blk.cells [iv x] 3) :: Hx) k) → namesOk (N + 1) Hd = true → plainH Hd = true → FI q K (cs ++ [iv x]) (N + 1) ((N + 1, .ext (cs ++ [iv x]) 3 1) :: Hd) (N + 1 + 1) := by
    intro Hd hg hnm hpl
    refine ⟨fun k b hk => ?_, namesOk_put (by omega) (namesOk_mono (by omega) _ hnm), by simp [plainH, hpl], by rw [hget_cons, if_pos rfl, hb], ⟨by omega, by omega⟩, by simp, hit⟩
    have := hK k b hk
    rw [hget_cons, if_neg (by omega), hg k (by omega), hget_cons, if_neg (by omega)]
    exact h.sub k b hk
  have hn1 : namesOk (N + 1) ((N, Blk.cells [iv x] 3) :: Hx) = true := namesOk_put (by omega) (namesOk_mono (by omega) _ h.nm)
  have hp1 : plainH ((N, Blk.cells [iv x] 3) :: Hx) = true := by simp [plainH, h.pl]
  rw [hv]
  by_cases hd1 : cs.length = 1
  · have hvo : oI.val o cs.length = .slice (some ⟨o, 0, none⟩) 1 1 := if_pos hd1
    have hbo : oI.blk cs = .cells cs 3 := if_pos hd1
    rw [hbo] at hox
    have hko : cellsA ((N, Blk.cells [iv x] 3) :: Hx) o 0 1 = some cs := by
      rw [cellsA_eq, hox]
      simp [cellsB, hd1]
      exact List.take_of_length_le (by omega)
    refine ⟨_, ?_, fin _ (fun k hk => rfl) hn1 hp1⟩
    rw [hvo, hd1]
    simp [-cellsA, inf3, hk, hko]
  · have hvo : oI.val o cs.length = .slice (some ⟨o, 0, some 0⟩) cs.length 0 := if_neg hd1
    have hbo : oI.blk cs = .ext cs 3 1 := if_neg hd1
    rw [hbo] at hox
    refine ⟨_, ?_, fin (hdel ((N, Blk.cells [iv x] 3) :: Hx) o) (fun k hk => by rw [hget_hdel, if_neg (by omega)]) (namesOk_hdel hn1) (plainH_hdel hp1)⟩
    rw [hvo]
    simp [-cellsA, inf3, hk, hox, hsm]
end
/-! ### copied rows of texts on their way -/
def lcV (o k : Nat) : Value := if k = 0 then .slice none 0 0 else .slice (some ⟨o, 0, some 0⟩) k 0
structure LC (q : Nat) (K : Heap) (ms : List Nat) (rs : List (List ByteArray)) (o : Nat) (Hx : Heap) (N : Nat) : Prop where
  sub : Sub K Hx
  nm : namesOk N Hx = true
  pl : plainH Hx = true
  len : ms.length = rs.length
  row : ∀ (i m : Nat) (r : List ByteArray), ms[i]? = some m → rs[i]? = some r → hget Hx m = some (kS.blk r)
  out : rs ≠ [] → hget Hx o = some (.ext (kvs kS ms rs) 70 1) ∧ q ≤ o ∧ o < N
  mem : ∀ m ∈ ms, q ≤ m ∧ m < N ∧ m ≠ o
  low : q ≤ N
section
variable {q o N : Nat} {K Hx : Heap} {ms : List Nat} {rs : List (List ByteArray)}
theorem LC.skip (h : LC q K ms rs o Hx N) (hK : ∀ k b, hget K k = some b → k < q) (b : Blk) (hb : plainB2 b = true) : LC q K ms rs o ((N, b) :: Hx) (N + 1) := by
  have h0 := h.low
  refine ⟨fun k b' hk => ?_, namesOk_put (by omega) (namesOk_mono (by omega) _ h.nm), by rw [plainH, hb, h.pl]; rfl, h.len, fun i m d h1 h2 => ?_, fun hne => ?_, fun m hm => ?_, by omega⟩
  · have := hK k b' hk
    rw [hget_cons, if_neg (by omega)]
    exact h.sub k b' hk
  · have := h.mem m (List.mem_of_getElem? h1)
    rw [hget_cons, if_neg (by omega)]
    exact h.row i m d h1 h2
  · obtain ⟨h1, h2, h3⟩ := h.out hne
    exact ⟨by rw [hget_cons, if_neg (by omega)]; exact h1, h2, by omega⟩
  · have := h.mem m hm
    exact ⟨this.1, by omega, this.2.2⟩
theorem oneL_svs : ∀ l : List ByteArray, oneL (l.map enS.to) = true
  | [] => rfl
  | x :: l => by
    have := oneL_svs l
    show oneL (sv x :: l.map enS.to) = true
    simp [oneL, this]
theorem app_words {H : Heap} {n m : Nat} {l : List ByteArray} {v : Value} (h : Ab.strV H v = some l) (hne : l.length ≠ 0) (h0 : cellsA H n 0 0 = some []) :
    builtinA Try.prog .append #[70, 70] H m [.slice (some ⟨n, 0, none⟩) 0 0, v] = some (.slice (some ⟨m, 0, some 0⟩) l.length 0, (m, .ext (l.map enS.to) 9 1) :: H, m + 1) := by
  have hlt : l.length < 2147483648 := by
    obtain ⟨_, _, _, hlt, _⟩ := strV_form h
    exact hlt
  obtain ⟨a, c, rfl, hf, hc⟩ := strV_src h hne
  have hsm : l.length * 16 ≤ 1099511627776 ∧ l.length ≤ 1099511627776 := by omega
  simp [-cellsA, -flat, hf, hc, hne, hsm, h0, oneL_svs]
theorem kS_one (m : Nat) (r : List ByteArray) : oneL [kS.val m r] = true := by
  show oneL [if r.length = 0 then _ else _] = true
  split <;> rfl
theorem kvs_one : ∀ (ms : List Nat) (p : List (List ByteArray)), oneL (kvs kS ms p) = true
  | m :: ms, r :: p => by
    have h1 := kS_one m r
    have := kvs_one ms p
    rw [kvs]
    obtain ⟨x, hx⟩ : ∃ x, kS.val m r = x := ⟨_, rfl⟩
    rw [hx] at h1 ⊢
    cases x <;> simp_all [oneL]
  | [], _ => by simp [kvs, oneL]
  | _ :: _, [] => by simp [kvs, oneL]
theorem LC.more (h : LC q K ms rs o Hx N) (hK : ∀ k b, hget K k = some b → k < q) {m : Nat} {r : List ByteArray} (hm : hget Hx m = some (kS.blk r)) (hq : q ≤ m ∧ m < N ∧ (rs ≠ [] → m ≠ o)) (hl : rs.length < 2147483648) :
    ∃ Hz, builtinA Try.prog .append #[61, 61] ((N, .cells [kS.val m r] 70) :: Hx) (N + 1) [lcV o rs.length, .slice (some ⟨N, 0, none⟩) 1 1] = some (lcV (N + 1) (rs.length + 1), Hz, N + 1 + 1) ∧ LC q K (ms ++ [m]) (rs ++ [r]) (N + 1) Hz (N + 1 + 1) := by
  have hlo := h.low
  have hl0 := kvs_len kS ms rs h.len
  have hk : cellsA ((N, .cells [kS.val m r] 70) :: Hx) N 0 1 = some [kS.val m r] := by
    rw [cellsA_eq, hget_cons, if_pos rfl]; rfl
  have hsn : kvs kS (ms ++ [m]) (rs ++ [r]) = kvs kS ms rs ++ [kS.val m r] := kvs_snoc kS ms rs h.len
  have hv : lcV (N + 1) (rs.length + 1) = .slice (some ⟨N + 1, 0, some 0⟩) (rs.length + 1) 0 := if_neg (by omega)
  have h1 := kS_one m r
  have fin : ∀ Hd : Heap, (∀ k, (rs ≠ [] → k ≠ o) → hget Hd k = hget ((N, Blk.cells [kS.val m r] 70) :: Hx) k) → namesOk (N + 1) Hd = true → plainH Hd = true → LC q K (ms ++ [m]) (rs ++ [r]) (N + 1) ((N + 1, .ext (kvs kS ms rs ++ [kS.val m r]) 70 1) :: Hd) (N + 1 + 1) := by
    intro Hd hg hnm hpl
    refine ⟨fun k b hk => ?_, namesOk_put (by omega) (namesOk_mono (by omega) _ hnm), by simp [plainH, hpl], by simp [h.len], fun i m' d' e1 e2 => ?_, fun _ => ⟨by rw [hget_cons, if_pos rfl, hsn], by omega, by omega⟩, fun m' hm' => ?_, by omega⟩
    · have := hK k b hk
      rw [hget_cons, if_neg (by omega), hg k (fun hne => by have := (h.out hne).2.1; omega), hget_cons, if_neg (by omega)]
      exact h.sub k b hk
    · by_cases hi : i < ms.length
      · rw [List.getElem?_append_left hi] at e1
        rw [List.getElem?_append_left (by rw [← h.len]; exact hi)] at e2
        have := h.mem m' (List.mem_of_getElem? e1)
        rw [hget_cons, if_neg (by omega), hg m' (fun _ => this.2.2), hget_cons, if_neg (by omega)]
        exact h.row i m' d' e1 e2
      · rw [List.getElem?_append_right (by omega)] at e1
        rw [List.getElem?_append_right (by rw [← h.len]; omega)] at e2
        have hi2 : i - ms.length = 0 := by
          have := (List.getElem?_eq_some_iff.1 e1).1
          simp at this
          omega
        rw [hi2] at e1
        rw [← h.len, hi2] at e2
        simp at e1 e2
        subst e1 e2
        rw [hget_cons, if_neg (by omega), hg m hq.2.2, hget_cons, if_neg (by omega)]
        exact hm
    · rcases List.mem_append.1 hm' with hm' | hm'
      · have := h.mem m' hm'
        exact ⟨this.1, by omega, by omega⟩
      · rw [List.mem_singleton] at hm'
        subst hm'
        exact ⟨hq.1, by omega, by omega⟩
  have hn1 : namesOk (N + 1) ((N, Blk.cells [kS.val m r] 70) :: Hx) = true := namesOk_put (by omega) (namesOk_mono (by omega) _ h.nm)
  have hp1 : plainH ((N, Blk.cells [kS.val m r] 70) :: Hx) = true := by simp [plainH, h.pl]
  rw [hv]
  by_cases hd1 : rs = []
  · subst hd1
    have hms : ms = [] := List.length_eq_zero_iff.1 (by rw [h.len]; rfl)
    subst hms
    refine ⟨_, ?_, fin _ (fun k hk => rfl) hn1 hp1⟩
    exact app_nil122 hk h1
  · obtain ⟨hout, ho1, ho2⟩ := h.out hd1
    have hvo : lcV o rs.length = .slice (some ⟨o, 0, some 0⟩) (kvs kS ms rs).length 0 := by
      unfold lcV
      rw [if_neg (fun e => hd1 (List.length_eq_zero_iff.1 e)), hl0]
    refine ⟨_, ?_, fin (hdel ((N, Blk.cells [kS.val m r] 70) :: Hx) o) (fun k hk => by rw [hget_hdel, if_neg (fun e => hk hd1 e)]) (namesOk_hdel hn1) (plainH_hdel hp1)⟩
    rw [hvo, app_ext122 hk h1 (by rw [hget_cons, if_neg (by omega)]; exact hout) (by omega), hl0]
/-- the copied list reads as it was -/
theorem LC.nest (h : LC q K ms rs o Hx N) (hne : rs ≠ []) (h1 : rs.length < 2147483648) (h2 : ∀ l ∈ rs, l.length < 2147483648) : nestS Hx (lcV o rs.length) = some rs := by
  have hk := kvs_len kS ms rs h.len
  obtain ⟨ho, _, _⟩ := h.out hne
  have hv : lcV o rs.length = .slice (some ⟨o, 0, some 0⟩) rs.length 0 := if_neg (fun e => hne (List.length_eq_zero_iff.1 e))
  rw [hv]
  refine listV_mk (cs := kvs kS ms rs) rfl (by rw [cellsA_eq, ho]; simp [cellsB]) hk h1 fun i v hv => ?_
  have hi : i < rs.length := by
    have := (List.getElem?_eq_some_iff.1 hv).1
    omega
  have hl := h.len
  have hm : ms[i]? = some ms[i] := List.getElem?_eq_getElem (by omega)
  have e1 := kvs_get kS ms rs i _ rs[i] hm (List.getElem?_eq_getElem hi)
  rw [e1] at hv
  injection hv with hv
  subst hv
  rw [List.getElem?_eq_getElem hi]
  exact kS.see _ _ _ (h.row i _ _ hm (List.getElem?_eq_getElem hi)) (h2 _ (List.getElem_mem hi))
end
end Go.Proofs.Ytljglocehbccnaa.Gn
