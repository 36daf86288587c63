/-
The reference's check of potentials, walked: it gives what the program's check gives.
-/
import Derived.Test.YtkongcnmkiihjaaGreatDoorZe
namespace Go.Proofs.YtkongcnmkiihjaaGreatDoor
open Go Go.Ab Go.Proofs
/-! ### the reference's bound -/
def bestV (l : List (List Int)) (t k : Nat) : Int := if t = 0 then ((l.headD []).take k).foldl max 0 else (l.headD []).foldl max 0
theorem maxV_zero {l : List Int} (h : ∀ x ∈ l, 0 ≤ x) (hne : l ≠ []) : l.foldl max 0 = maxV l := by
  cases l with
  | nil => exact absurd rfl hne
  | cons x xs =>
    have := h x (List.mem_cons_self ..)
    rw [List.foldl_cons, show max (0 : Int) x = x by omega]
    rfl
theorem bestV_step {l : List (List Int)} {t k : Nat} (ht : t = 0) (h0 : 0 < l.length) (hk : k < l[0].length) : max (bestV l t k) l[0][k] = bestV l t (k + 1) := by
  have hh : l.headD [] = l[0] := by
    cases l with
    | nil => simp at h0
    | cons x xs => rfl
  unfold bestV
  rw [if_pos ht, if_pos ht, hh, List.take_succ_eq_append_getElem hk, List.foldl_append]
  rfl
theorem bestV_row {l : List (List Int)} {t k : Nat} (h : k = (l.getD t []).length) (h0 : 0 < l.length) : bestV l t k = bestV l (t + 1) 0 := by
  unfold bestV
  rw [if_neg (show ¬ t + 1 = 0 by omega)]
  split
  · rename_i e
    subst e
    have : l.headD [] = l.getD 0 [] := by cases l <;> rfl
    rw [h, this, List.take_length]
  · rfl
theorem bestV_more {l : List (List Int)} {t k : Nat} (ht : t ≠ 0) : bestV l t k = bestV l t (k + 1) := by
  unfold bestV
  rw [if_neg ht, if_neg ht]
theorem cpR_len {p l : List (List Int)} {up dn : Int} (hc : chkE p up dn = 0) (h : l.length ≠ p.length) : cpR p l up dn = (0, 2) := by
  have : cpE p l up dn = 2 := by simp [cpE, hc, firstV, whenV, h]
  unfold cpR
  rw [this]
  simp
theorem cpE_ok {p l : List (List Int)} {up dn : Int} (hc : chkE p up dn = 0) (h : l.length = p.length) : cpE p l up dn = 0 := by
  simp [cpE, hc, firstV, whenV, h]
theorem cpR_rows {p l : List (List Int)} {up dn : Int} (hc : chkE p up dn = 0) (h : l.length = p.length) {x : List Int} (hx : x ∈ l) (hne : x.length ≠ len0 p) : cpR p l up dn = (0, 2) := by
  unfold cpR
  rw [if_pos (cpE_ok hc h), if_pos]
  rw [List.any_eq_true]
  exact ⟨x, hx, by simp [hne]⟩
theorem cpR_cells {p l : List (List Int)} {up dn e : Int} (hc : chkE p up dn = 0) (h : l.length = p.length) (hr : ∀ x ∈ l, x.length = len0 p) (he : firstV (l.flatten.map fun x => withinV x 0 999999999) = e) (hne : e ≠ 0) : cpR p l up dn = (0, e) := by
  unfold cpR
  rw [if_pos (cpE_ok hc h), if_neg, he, if_neg hne]
  rw [List.any_eq_true]
  rintro ⟨x, hx, hx2⟩
  simp [hr x hx] at hx2
theorem cpR_bad {p l : List (List Int)} {up dn : Int} (hc : chkE p up dn = 0) (h : l.length = p.length) (hr : ∀ x ∈ l, x.length = len0 p) (he : firstV (l.flatten.map fun x => withinV x 0 999999999) = 0) {t k : Nat} (ht : t < l.length) (hk : k < l[t].length) (hb : badAt p l up dn t k = true) : cpR p l up dn = (0, 19) := by
  unfold cpR
  rw [if_pos (cpE_ok hc h), if_neg, he, if_pos rfl, if_pos]
  · unfold anyBad
    rw [List.any_eq_true]
    refine ⟨t, List.mem_range.2 ht, ?_⟩
    rw [List.any_eq_true]
    exact ⟨k, List.mem_range.2 (by rw [getD_at ht]; exact hk), hb⟩
  · rw [List.any_eq_true]
    rintro ⟨x, hx, hx2⟩
    simp [hr x hx] at hx2
theorem cpR_good {p l : List (List Int)} {up dn : Int} (hc : chkE p up dn = 0) (h : l.length = p.length) (hr : ∀ x ∈ l, x.length = len0 p) (he : firstV (l.flatten.map fun x => withinV x 0 999999999) = 0) (hb : ∀ t k, t < l.length → k < len0 p → badAt p l up dn t k = false) : cpR p l up dn = (maxV (l.headD []), 0) := by
  unfold cpR
  rw [if_pos (cpE_ok hc h), if_neg, he, if_pos rfl, if_neg]
  · intro h
    unfold anyBad at h
    rw [List.any_eq_true] at h
    obtain ⟨t, ht, h⟩ := h
    rw [List.mem_range] at ht
    rw [List.any_eq_true] at h
    obtain ⟨k, hk, h⟩ := h
    rw [List.mem_range, getD_at ht, hr _ (List.getElem_mem ht)] at hk
    rw [hb t k ht hk] at h
    cases h
  · rw [List.any_eq_true]
    rintro ⟨x, hx, hx2⟩
    simp [hr x hx] at hx2
/-- the cells that are still to be looked at -/
def restC (l : List (List Int)) (t k : Nat) : List Int := (l.getD t []).drop k ++ (l.drop (t + 1)).flatten
theorem restC_start (l : List (List Int)) : restC l 0 0 = l.flatten := by
  cases l with
  | nil => rfl
  | cons x xs => simp [restC]
theorem restC_cons {l : List (List Int)} {t k : Nat} (ht : t < l.length) (hk : k < l[t].length) : restC l t k = l[t][k] :: restC l t (k + 1) := by
  unfold restC
  rw [getD_at ht, List.drop_eq_getElem_cons hk]
  rfl
theorem restC_row {l : List (List Int)} {t : Nat} (ht : t < l.length) : restC l t l[t].length = restC l (t + 1) 0 := by
  unfold restC
  rw [getD_at ht, List.drop_length, List.nil_append, List.drop_zero]
  by_cases h : t + 1 < l.length
  · rw [getD_at h, List.drop_eq_getElem_cons h, List.flatten_cons]
  · rw [List.drop_eq_nil_of_le (by omega), List.drop_eq_nil_of_le (by omega), List.getD_eq_getElem?_getD, List.getElem?_eq_none (by omega)]
    rfl
theorem restC_end {l : List (List Int)} {t : Nat} (ht : l.length ≤ t) : restC l t 0 = [] := by
  unfold restC
  rw [List.drop_eq_nil_of_le (show l.length ≤ t + 1 by omega), List.getD_eq_getElem?_getD, List.getElem?_eq_none (by omega)]
  rfl
end Go.Proofs.YtkongcnmkiihjaaGreatDoor

namespace Go.Proofs.YtkongcnmkiihjaaGreatDoor
open Go Go.Ab Go.Proofs
/-- the operations of a region, by its number -/
def opsIn : Code → Nat → Option (Array Oper)
  | .region id ops _, i => match Nat.beq id i with
    | true => some ops
    | false => none
  | .seq a b, i => match opsIn a i with
    | some o => some o
    | none => opsIn b i
  | .block _ c, i => opsIn c i
  | .loop c, i => opsIn c i
  | .cond _ a b, i => match opsIn a i with
    | some o => some o
    | none => opsIn b i
  | _, _ => none
def opsAt (f : Func) (i : Nat) : Option (Array Oper) := match f.body with
  | some c => opsIn c i
  | none => none
section
variable {HX : Heap} {n t k j pl ll lt pt l2 c d cr cr' cr2 : Nat} {a b f g h0 : Addr} {up dn x y z : Int} {bv : Value} {gm : List Value → Heap → Nat → R} {g37 : List Value → Heap → Nat → R}
set_option maxRecDepth 50000 in
theorem r31f (ops : Array Oper) (ho : opsAt Tryz.f31 29 = some ops) (hnm : namesOk (n + 1) HX = true) (hld : loadA Tryz.prog 40 (readA [n] HX) (.pointer (some ⟨n, 0, none⟩)) = some (limA up dn)) (hnn : n < n + 1) (hgm : ∀ H n, gm [.agg #[iv up, iv dn], iv k, iv j] H n = some (.bool false, H, n)) :
    runU Tryz.prog (recT [(37, g37), (111, gm)]) ops [3] [3] [0, 3, 8, 11, 15, 18, 23, 26] { fr := (0, Value.slice (some a) pl c) :: (2, Value.slice (some b) ll d) :: (4, Value.pointer (some { block := n, off := 0 })) :: (12, bv) :: (13, iv ↑t) :: (14, iv ↑k) :: (15, iv ↑j) :: [], sz := 152, H := HX, n := n + 1, marks := [], vs := [0, 1, 2, 4, 6, 7, 8, 9, 10, 11, 12, 13, 14, 15, 20, 24, 37, 41, 50, 62, 67, 76, 93, 107, 139, 141] } = some { fr := (139, Value.bool false) :: (138, Value.tuple #[]) :: (137, Value.tuple #[]) :: (136, Value.tuple #[]) :: (135, Value.tuple #[]) :: (134, Value.tuple #[]) :: (133, Value.tuple #[]) :: (132, Value.tuple #[]) :: (131, Value.tuple #[]) :: (130, Value.tuple #[]) :: (129, Value.tuple #[]) :: (128, Value.tuple #[]) :: (127, Value.tuple #[]) :: (126, Value.tuple #[]) :: (125, Value.tuple #[]) :: (124, Value.tuple #[]) :: (123, Value.tuple #[]) :: (122, Value.tuple #[]) :: (121, Value.tuple #[]) :: (120, Value.tuple #[]) :: (119, Value.tuple #[]) :: (118, Value.tuple #[]) :: (117, Value.tuple #[]) :: (116, Value.tuple #[]) :: (115, Value.tuple #[]) :: (114, Value.bool false) :: (113, Value.bool false) :: (112, iv ↑j) :: (111, iv ↑k) :: (110, limA up dn) :: (0, Value.slice (some a) pl c) :: (2, Value.slice (some b) ll d) :: (4, Value.pointer (some { block := n, off := 0 })) :: (12, bv) :: (13, iv ↑t) :: (14, iv ↑k) :: (15, iv ↑j) :: [], sz := 152, H := HX, n := n + 1, marks := [], vs := [0, 1, 2, 4, 6, 7, 8, 9, 10, 11, 12, 13, 14, 15, 20, 24, 37, 41, 50, 62, 67, 76, 93, 107, 139, 141] } := by
  obtain rfl := Option.some.inj (ho : some _ = some ops)
  simp [-cellA, -flat, -readA, -loadA, hnm, hld, hnn, hgm, yieldedA, undefV]
set_option maxRecDepth 50000 in
theorem r31t (ops : Array Oper) (ho : opsAt Tryz.f31 29 = some ops) (hnm : namesOk (n + 1) HX = true) (hld : loadA Tryz.prog 40 (readA [n] HX) (.pointer (some ⟨n, 0, none⟩)) = some (limA up dn)) (hnn : n < n + 1) (hgm : ∀ H n, gm [.agg #[iv up, iv dn], iv k, iv j] H n = some (.bool true, H, n))
    (htl : t < ll) (htp : t < pl) (hfa : flat a = true) (hfb : flat b = true) (a1 : cellA (readA [a.block] HX) a.block (a.off + t) = some (.slice (some g) pt cr)) (a3 : a.block < n + 1) (b1 : cellA (readA [b.block] HX) b.block (b.off + t) = some (.slice (some f) lt cr')) (b3 : b.block < n + 1) (hkl : k < lt) (hkp : k < pt) (hff : flat f = true) (f1 : cellA (readA [f.block] HX) f.block (f.off + k) = some (iv x)) (f3 : f.block < n + 1) (hfg : flat g = true) (g1 : cellA (readA [g.block] HX) g.block (g.off + k) = some (iv y)) (g3 : g.block < n + 1)
    (hwt : IntKind.i64.wrap ((t : Int) + 1) = (t : Int) + 1) (htI : (t : Int) + 1 < ll) (c1 : cellA (readA [b.block] HX) b.block (b.off + (t + 1)) = some (.slice (some h0) l2 cr2)) (hj2 : j < l2) (hfh : flat h0 = true) (h1 : cellA (readA [h0.block] HX) h0.block (h0.off + j) = some (iv z)) (h3 : h0.block < n + 1) (hwz : IntKind.i64.wrap (y + z) = y + z) :
    runU Tryz.prog (recT [(37, g37), (111, gm)]) ops [3] [3] [0, 3, 8, 11, 15, 18, 23, 26] { fr := (0, Value.slice (some a) pl c) :: (2, Value.slice (some b) ll d) :: (4, Value.pointer (some { block := n, off := 0 })) :: (12, bv) :: (13, iv ↑t) :: (14, iv ↑k) :: (15, iv ↑j) :: [], sz := 152, H := HX, n := n + 1, marks := [], vs := [0, 1, 2, 4, 6, 7, 8, 9, 10, 11, 12, 13, 14, 15, 20, 24, 37, 41, 50, 62, 67, 76, 93, 107, 139, 141] } = some { fr := (139, Value.bool (decide (x < y + z))) :: (138, Value.bool (decide (x < y + z))) :: (137, Value.int IntKind.i64 (y + z)) :: (136, Value.int IntKind.i64 z) :: (135, Value.pointer (some { block := h0.block, off := h0.off + j })) :: (134, iv ↑j) :: (133, Value.slice (some h0) l2 cr2) :: (132, Value.pointer (some { block := b.block, off := b.off + (t + 1) })) :: (131, Value.int IntKind.i64 (↑t + 1)) :: (130, iv ↑t) :: (129, Value.slice (some b) ll d) :: (128, Value.int IntKind.i64 y) :: (127, Value.pointer (some { block := g.block, off := g.off + k })) :: (126, iv ↑k) :: (125, Value.slice (some g) pt cr) :: (124, Value.pointer (some { block := a.block, off := a.off + t })) :: (123, iv ↑t) :: (122, Value.slice (some a) pl c) :: (121, Value.int IntKind.i64 x) :: (120, Value.pointer (some { block := f.block, off := f.off + k })) :: (119, iv ↑k) :: (118, Value.slice (some f) lt cr') :: (117, Value.pointer (some { block := b.block, off := b.off + t })) :: (116, iv ↑t) :: (115, Value.slice (some b) ll d) :: (114, Value.bool true) :: (113, Value.bool true) :: (112, iv ↑j) :: (111, iv ↑k) :: (110, limA up dn) :: (0, Value.slice (some a) pl c) :: (2, Value.slice (some b) ll d) :: (4, Value.pointer (some { block := n, off := 0 })) :: (12, bv) :: (13, iv ↑t) :: (14, iv ↑k) :: (15, iv ↑j) :: [], sz := 152, H := HX, n := n + 1, marks := [], vs := [0, 1, 2, 4, 6, 7, 8, 9, 10, 11, 12, 13, 14, 15, 20, 24, 37, 41, 50, 62, 67, 76, 93, 107, 139, 141] } := by
  obtain rfl := Option.some.inj (ho : some _ = some ops)
  simp [-cellA, -flat, -readA, -loadA, load3, load24, hnm, hld, hnn, hgm, htl, htp, hfa, hfb, a1, a3, b1, b3, hkl, hkp, hff, f1, f3, hfg, g1, g3, hwt, htI, c1, hj2, hfh, h1, h3, hwz, yieldedA]
end
end Go.Proofs.YtkongcnmkiihjaaGreatDoor

namespace Go.Proofs.YtkongcnmkiihjaaGreatDoor
open Go Go.Ab Go.Proofs
set_option maxHeartbeats 600000 in
set_option maxRecDepth 50000 in
theorem w31 {H : Heap} {n : Nat} {v u : Value} {p l : List (List Int)} (up dn : Int) (hP : nestV H v = some p) (hL : nestV H u = some l) (hchk : chkE p up dn = 0) : AC Tryz.prog 31 [v, limA up dn, u] H n (two (cpR p l up dn).1 (cpR p l up dn).2) H n := by
  obtain ⟨hp0, _, _⟩ := chkE_zero hchk
  obtain ⟨q1, q2, q3, q4, q5, q6⟩ := panE_zero hp0
  refine AC.given fun hold hsc hgn => AC.tidied (B := []) (by simp) ?_
  replace hP := nest_tidy hold hP
  replace hL := nest_tidy hold hL
  replace hold := tidy_old hold
  have hr := recT_ok (P := Tryz.prog) (l := [(37, g37), (111, gMay)]) (by simp [ok37, ok111])
  have hS : Sub (tidy n H) ((n, .cells [iv up, iv dn] 40) :: tidy n H) := Sub.cons (by simp) (Sub.refl _)
  obtain ⟨oa, c, rfl, hlt, _, hrow⟩ := nestV_form hP
  obtain ⟨ob, d, rfl, hlt2, _, hrow2⟩ := nestV_form hL
  have hpL : ∀ i (hi : i < p.length), p[i].length = len0 p := fun i hi => q5 _ (List.getElem_mem hi)
  refine AC.pure Tryz.func31 rfl (by kernel_rfl) rfl [0, 1, 2, 4, 6, 7, 8, 9, 10, 11, 12, 13, 14, 15, 20, 24, 37, 41, 50, 62, 67, 76, 93, 107, 139, 141] rfl ?_
  refine E.seq ?_
  refine E.reg hr (by simp; rfl) ?_ -- region 0
  obtain ⟨HX, hHX⟩ : ∃ HX, (n, Blk.cells [iv up, iv dn] 40) :: tidy n H = HX := ⟨_, rfl⟩
  have hnm : namesOk (n + 1) HX = true := by rw [← hHX]; exact namesOk_put (by omega) (by simp)
  have hbox : hget HX n = some (.cells [iv up, iv dn] 40) := by rw [← hHX, hget_cons, if_pos rfl]
  have hld : loadA Tryz.prog 40 (readA [n] HX) (.pointer (some ⟨n, 0, none⟩)) = some (limA up dn) := load40 (by rw [hget_readA, if_pos (by simp)]; exact hbox)
  have hnn : n < n + 1 := Nat.lt_succ_self _
  rw [hHX] at hS
  have hRd : ∀ {b : Addr} {i : Nat} {x : Value}, cellA (tidy n H) b.block (b.off + i) = some x → cellA (readA [b.block] HX) b.block (b.off + i) = some x ∧ cellA HX b.block (b.off + i) = some x ∧ b.block < n + 1 := fun {b i x} h => ⟨by rw [cell_read (by simp)]; exact hS.cell h, hS.cell h, by have := cellA_lt tidy_lt h; omega⟩
  refine E.lead { fr := [(0, .slice oa p.length c), (2, .slice ob l.length d), (4, .pointer (some ⟨n, 0, none⟩))], sz := 152, H := HX, n := n + 1, marks := [], vs := [0, 1, 2, 4, 6, 7, 8, 9, 10, 11, 12, 13, 14, 15, 20, 24, 37, 41, 50, 62, 67, 76, 93, 107, 139, 141] } (.keep rfl rfl rfl (by simp) (by rw [← hHX]; exact Sub.refl _)) ?_
  refine E.seq ?_
  refine E.seq ?_
  refine E.reg hr (by simp; rfl) ?_ -- region 1
  by_cases hlp : l.length = p.length
  · refine E.cond (t := false) (by simp [hlp]) (fun h => by cases h) (fun _ => ?_)
    refine E.skip ?_
    refine E.seq ?_
    refine E.seq ?_
    refine E.reg hr (by simp; rfl) ?_ -- region 3
    refine E.block ?_ -- 0
    refine E.loop ?_
    refine EL.ind (fun i : Nat => { fr := [(0, .slice oa p.length c), (2, .slice ob l.length d), (4, .pointer (some ⟨n, 0, none⟩)), (8, iv i)], sz := 152, H := HX, n := n + 1, marks := [], vs := [0, 1, 2, 4, 6, 7, 8, 9, 10, 11, 12, 13, 14, 15, 20, 24, 37, 41, 50, 62, 67, 76, 93, 107, 139, 141] }) (fun i => l.length - i) (fun i => i ≤ l.length ∧ ∀ t (ht : t < l.length), t < i → l[t].length = len0 p) 0 (.keep rfl rfl rfl (by simp) (Sub.refl _)) ⟨Nat.zero_le _, fun t ht h => by omega⟩ (fun _ => rfl) ?_
    rintro i ⟨hi, hg⟩
    have hw : IntKind.i64.wrap ((i : Int) + 1) = (i : Int) + 1 := W_in (by omega) (by omega)
    refine E.seq ?_
    refine E.seq ?_
    refine E.reg hr (by simp; rfl) ?_ -- region 4
    by_cases hil : i < l.length
    · have hip : i < p.length := by omega
      obtain ⟨a, r, rfl, hfa, hca, hva⟩ := hrow i hip
      obtain ⟨b, r', rfl, hfb, hcb, hvb⟩ := hrow2 i hil
      obtain ⟨oc, cr, rfl, _, _, _⟩ := intV_form hva
      obtain ⟨oc', cr', rfl, _, _, _⟩ := intV_form hvb
      obtain ⟨a1, a2, a3⟩ := hRd hca
      obtain ⟨b1, b2, b3⟩ := hRd hcb
      have hpi := hpL i hip
      refine E.cond (t := true) (by simp [hil]) (fun _ => ?_) (fun h => by cases h)
      refine E.skip ?_
      refine E.seq ?_
      refine E.block ?_ -- 1
      refine E.seq ?_
      refine E.drawU mixed hr [] [] [3, 8] (by kernel_rfl) (by simp [-cellA, -flat, -readA, hnm, hil, hip, hfa, hfb, a1, a3, b1, b3]; rfl) ?_ -- region 6
      by_cases he : l[i].length = p[i].length
      · refine E.cond (t := false) (by simp [he]) (fun h => by cases h) (fun _ => ?_)
        refine E.skip ?_
        refine E.reg hr (by simp [hw]; rfl) ?_ -- region 5
        exact ⟨i + 1, .keep rfl rfl rfl (by simp) (Sub.refl _), ⟨hil, fun t ht h => by
          rcases Nat.lt_or_ge t i with h' | h'
          · exact hg t ht h'
          · have : t = i := by omega
            subst this; omega⟩, by dsimp only; omega⟩
      · have hres := cpR_rows hchk hlp (List.getElem_mem hil) (by omega)
        have heI : ¬ (l[i].length : Int) = (p[i].length : Int) := by omega
        refine E.cond (t := true) (by simp [heI]) (fun _ => ?_) (fun h => by cases h)
        refine E.seq ?_
        refine E.reg hr (by simp; rfl) ?_ -- region 7
        refine E.ret ?_
        exact pureK.ret rfl rfl (by rw [hres]; simp) hS
    · refine E.cond (t := false) (by simp [hil]) (fun h => by cases h) (fun _ => ?_)
      have hlr : ∀ t (ht : t < l.length), l[t].length = len0 p := fun t ht => hg t ht (by omega)
      have hlr2 : ∀ x ∈ l, x.length = len0 p := fun x hx => by
        obtain ⟨t, ht, rfl⟩ := List.getElem_of_mem hx
        exact hlr t ht
      refine E.exit ?_ -- 0
      refine E.seq ?_
      refine E.seq ?_
      refine E.reg hr (by simp; rfl) ?_ -- region 8
      refine E.block ?_ -- 2
      refine E.loop ?_
      obtain ⟨e, he⟩ : ∃ e, firstV (l.flatten.map fun x => withinV x 0 999999999) = e := ⟨_, rfl⟩
      refine EL.ind (fun t : Nat => { fr := [(0, .slice oa p.length c), (2, .slice ob l.length d), (4, .pointer (some ⟨n, 0, none⟩)), (9, iv t)], sz := 152, H := HX, n := n + 1, marks := [], vs := [0, 1, 2, 4, 6, 7, 8, 9, 10, 11, 12, 13, 14, 15, 20, 24, 37, 41, 50, 62, 67, 76, 93, 107, 139, 141] }) (fun t => l.length - t) (fun t => t ≤ l.length ∧ firstV ((restC l t 0).map fun x => withinV x 0 999999999) = e) 0 (.keep rfl rfl rfl (by simp) (Sub.refl _)) ⟨Nat.zero_le _, by rw [restC_start, he]⟩ (fun _ => rfl) ?_
      rintro t ⟨ht, hq⟩
      have hwt : IntKind.i64.wrap ((t : Int) + 1) = (t : Int) + 1 := W_in (by omega) (by omega)
      refine E.seq ?_
      refine E.seq ?_
      refine E.reg hr (by simp; rfl) ?_ -- region 9
      by_cases htl : t < l.length
      · obtain ⟨b, r', rfl, hfb, hcb, hvb⟩ := hrow2 t htl
        obtain ⟨oc', cr', rfl, _, _, hcl⟩ := intV_form hvb
        obtain ⟨b1, b2, b3⟩ := hRd hcb
        have hll := hlr t htl
        refine E.cond (t := true) (by simp [htl]) (fun _ => ?_) (fun h => by cases h)
        refine E.skip ?_
        refine E.seq ?_
        refine E.block ?_ -- 3
        refine E.seq ?_
        refine E.reg hr (by simp; rfl) ?_ -- region 11
        refine E.block ?_ -- 4
        refine E.loop ?_
        refine EL.ind (fun k : Nat => { fr := [(0, .slice oa p.length c), (2, .slice (some b) l.length d), (4, .pointer (some ⟨n, 0, none⟩)), (9, iv t), (10, iv k)], sz := 152, H := HX, n := n + 1, marks := [], vs := [0, 1, 2, 4, 6, 7, 8, 9, 10, 11, 12, 13, 14, 15, 20, 24, 37, 41, 50, 62, 67, 76, 93, 107, 139, 141] }) (fun k => l[t].length - k) (fun k => k ≤ l[t].length ∧ firstV ((restC l t k).map fun x => withinV x 0 999999999) = e) 0 (.keep rfl rfl rfl (by simp) (Sub.refl _)) ⟨Nat.zero_le _, hq⟩ (fun _ => rfl) ?_
        clear hq
        rintro k ⟨hk, hq⟩
        have hwk : IntKind.i64.wrap ((k : Int) + 1) = (k : Int) + 1 := W_in (by omega) (by omega)
        refine E.seq ?_
        refine E.seq ?_
        refine E.reg hr (by simp [-cellA, -flat, htl, hfb, b2]; rfl) ?_ -- region 12
        by_cases hkl : k < l[t].length
        · obtain ⟨f, rfl, hff, hcf⟩ := hcl k hkl
          obtain ⟨f1, f2, f3⟩ := hRd hcf
          rw [restC_cons htl hkl, List.map_cons, firstV_cons] at hq
          refine E.cond (t := true) (by simp [hkl]) (fun _ => ?_) (fun h => by cases h)
          refine E.skip ?_
          refine E.seq ?_
          refine E.block ?_ -- 5
          refine E.seq ?_
          refine E.reg hr (by simp [-cellA, -flat, htl, hfb, b2, hkl, hff, f2, g37]; rfl) ?_ -- region 14
          refine E.seq ?_
          refine E.reg hr (by simp; rfl) ?_ -- region 15
          by_cases hz : withinV l[t][k] 0 999999999 = 0
          · rw [if_pos hz] at hq
            refine E.cond (t := false) (by simp [hz]) (fun h => by cases h) (fun _ => ?_)
            refine E.skip ?_
            refine E.reg hr (by simp [hwk]; rfl) ?_ -- region 13
            exact ⟨k + 1, .keep rfl rfl rfl (by simp) (Sub.refl _), ⟨hkl, hq⟩, by dsimp only; omega⟩
          · rw [if_neg hz] at hq
            have hres := cpR_cells hchk hlp hlr2 he (by rw [← hq]; exact hz)
            refine E.cond (t := true) (by simp [hz]) (fun _ => ?_) (fun h => by cases h)
            refine E.seq ?_
            refine E.reg hr (by simp; rfl) ?_ -- region 16
            refine E.ret ?_
            exact pureK.ret rfl rfl (by rw [hres, ← hq]; simp) hS
        · refine E.cond (t := false) (by simp [hkl]) (fun h => by cases h) (fun _ => ?_)
          have hk2 : k = l[t].length := by omega
          rw [hk2, restC_row htl] at hq
          refine E.exit ?_ -- 4
          refine E.reg hr (by simp [hwt]; rfl) ?_ -- region 10
          exact ⟨t + 1, .keep rfl rfl rfl (by simp) (Sub.refl _), ⟨htl, hq⟩, by dsimp only; omega⟩
      · refine E.cond (t := false) (by simp [htl]) (fun h => by cases h) (fun _ => ?_)
        rw [restC_end (by omega)] at hq
        have he0 : firstV (l.flatten.map fun x => withinV x 0 999999999) = 0 := by rw [he, ← hq]; rfl
        have hval : ∀ x ∈ l, ∀ y ∈ x, 0 ≤ y ∧ y ≤ 999999999 := fun x hx y hy => by
          rw [fstV_zero] at he0
          exact within_zero.1 (he0 _ (List.mem_map_of_mem (f := fun x => withinV x 0 999999999) (List.mem_flatten.2 ⟨x, hx, hy⟩)))
        refine E.exit ?_ -- 2
        refine E.seq ?_
        refine E.reg hr (by simp; rfl) ?_ -- region 17
        refine E.seq ?_
        refine E.seq ?_
        refine E.reg hr (by simp; rfl) ?_ -- region 18
        refine E.block ?_ -- 6
        refine E.loop ?_
        refine EL.ind (fun t : Nat => { fr := [(0, .slice oa p.length c), (2, .slice ob l.length d), (4, .pointer (some ⟨n, 0, none⟩)), (12, iv (bestV l t 0)), (13, iv t)], sz := 152, H := HX, n := n + 1, marks := [], vs := [0, 1, 2, 4, 6, 7, 8, 9, 10, 11, 12, 13, 14, 15, 20, 24, 37, 41, 50, 62, 67, 76, 93, 107, 139, 141] }) (fun t => l.length - t) (fun t => t ≤ l.length ∧ ∀ t' k, t' < t → k < len0 p → badAt p l up dn t' k = false) 0 (.keep rfl rfl rfl (by simp [bestV]) (Sub.refl _)) ⟨Nat.zero_le _, fun t' k h => by omega⟩ (fun _ => rfl) ?_
        rintro t ⟨ht, hg⟩
        have hwt : IntKind.i64.wrap ((t : Int) + 1) = (t : Int) + 1 := W_in (by omega) (by omega)
        refine E.seq ?_
        refine E.seq ?_
        refine E.reg hr (by simp; rfl) ?_ -- region 19
        by_cases htl : t < l.length
        · have htp : t < p.length := by omega
          obtain ⟨a, r, rfl, hfa, hca, hva⟩ := hrow t htp
          obtain ⟨b, r', rfl, hfb, hcb, hvb⟩ := hrow2 t htl
          obtain ⟨oc, cr, rfl, _, _, hcp⟩ := intV_form hva
          obtain ⟨oc', cr', rfl, _, _, hcl⟩ := intV_form hvb
          obtain ⟨a1, a2, a3⟩ := hRd hca
          obtain ⟨b1, b2, b3⟩ := hRd hcb
          have hll := hlr t htl
          have hpp := hpL t htp
          refine E.cond (t := true) (by simp [htl]) (fun _ => ?_) (fun h => by cases h)
          refine E.skip ?_
          refine E.seq ?_
          refine E.block ?_ -- 7
          refine E.seq ?_
          refine E.reg hr (by simp; rfl) ?_ -- region 21
          refine E.block ?_ -- 8
          refine E.loop ?_
          refine EL.ind (fun k : Nat => { fr := [(0, .slice (some a) p.length c), (2, .slice (some b) l.length d), (4, .pointer (some ⟨n, 0, none⟩)), (12, iv (bestV l t k)), (13, iv t), (14, iv k)], sz := 152, H := HX, n := n + 1, marks := [], vs := [0, 1, 2, 4, 6, 7, 8, 9, 10, 11, 12, 13, 14, 15, 20, 24, 37, 41, 50, 62, 67, 76, 93, 107, 139, 141] }) (fun k => l[t].length - k) (fun k => k ≤ l[t].length ∧ ∀ k', k' < k → badAt p l up dn t k' = false) 0 (.keep rfl rfl rfl (by simp) (Sub.refl _)) ⟨Nat.zero_le _, fun k' h => by omega⟩ (fun _ => rfl) ?_
          rintro k ⟨hk, hq⟩
          have hwk : IntKind.i64.wrap ((k : Int) + 1) = (k : Int) + 1 := W_in (by omega) (by omega)
          refine E.seq ?_
          refine E.seq ?_
          refine E.reg hr (by simp [-cellA, -flat, htl, hfb, b2]; rfl) ?_ -- region 22
          by_cases hkl : k < l[t].length
          · have hkp : k < p[t].length := by omega
            obtain ⟨f, rfl, hff, hcf⟩ := hcl k hkl
            obtain ⟨g, rfl, hfg, hcg⟩ := hcp k hkp
            obtain ⟨f1, f2, f3⟩ := hRd hcf
            obtain ⟨g1, g2, g3⟩ := hRd hcg
            have hv1 := hval _ (List.getElem_mem htl) _ (List.getElem_mem hkl)
            have hv2 := q6 _ (List.getElem_mem htp) _ (List.getElem_mem hkp)
            have e1 := at2_eq htl hkl
            have e2 := at2_eq htp hkp
            have hbadE : badAt p l up dn t k = (decide (l[t][k] - p[t][k] < 0) || (decide (t + 1 < l.length) && (alw up dn k 0 (l.getD (t + 1) [])).any fun m => decide (l[t][k] - p[t][k] < m))) := by
              unfold badAt; rw [e1, e2]
            obtain ⟨x, hx⟩ : ∃ x, l[t][k] = x := ⟨_, rfl⟩
            obtain ⟨y, hy⟩ : ∃ y, p[t][k] = y := ⟨_, rfl⟩
            rw [hx] at f1 f2 hv1 hbadE
            rw [hy] at g1 g2 hv2 hbadE
            refine E.cond (t := true) (by simp [hkl]) (fun _ => ?_) (fun h => by cases h)
            refine E.skip ?_
            refine E.seq ?_
            refine E.block ?_ -- 9
            refine E.seq ?_
            refine E.seq ?_
            refine E.drawU mixed hr [] [] [3, 6, 10, 13] (by kernel_rfl) (by simp [-cellA, -flat, -readA, hnm, htl, htp, hfa, hfb, a1, a3, b1, b3, hkl, hkp, hff, f1, f3, hfg, g1, g3]; rfl) ?_ -- region 24
            by_cases hneg : x < y
            · have hb : badAt p l up dn t k = true := by
                rw [hbadE, decide_eq_true (by omega), Bool.true_or]
              have hres := cpR_bad hchk hlp hlr2 he0 htl hkl hb
              refine E.cond (t := true) (by simp [hneg]) (fun _ => ?_) (fun h => by cases h)
              refine E.seq ?_
              refine E.reg hr (by simp; rfl) ?_ -- region 25
              refine E.ret ?_
              exact pureK.ret rfl rfl (by rw [hres]; simp) hS
            · rw [decide_eq_false (by omega), Bool.false_or] at hbadE
              refine E.cond (t := false) (by simp [hneg]) (fun h => by cases h) (fun _ => ?_)
              refine E.skip ?_
              refine E.seq ?_
              refine E.seq ?_
              refine E.reg hr (by simp; rfl) ?_ -- region 26
              refine E.block ?_ -- 10
              refine E.loop ?_
              obtain ⟨nx, hnx⟩ : ∃ nx, l.getD (t + 1) [] = nx := ⟨_, rfl⟩
              rw [hnx] at hbadE
              have hnl : nx.length = if t + 1 < l.length then l[t].length else 0 := by
                rw [← hnx]
                split
                · rename_i h; rw [getD_at h, hlr _ h, hll]
                · rw [List.getD_eq_getElem?_getD, List.getElem?_eq_none (by omega)]; rfl
              have hnl2 : nx.length ≤ 16 := by rw [hnl]; split <;> omega
              refine EL.ind (fun j : Nat => { fr := [(0, .slice (some a) p.length c), (2, .slice (some b) l.length d), (4, .pointer (some ⟨n, 0, none⟩)), (12, iv (bestV l t k)), (13, iv t), (14, iv k), (15, iv j)], sz := 152, H := HX, n := n + 1, marks := [], vs := [0, 1, 2, 4, 6, 7, 8, 9, 10, 11, 12, 13, 14, 15, 20, 24, 37, 41, 50, 62, 67, 76, 93, 107, 139, 141] }) (fun j => nx.length - j) (fun j => j ≤ nx.length ∧ (decide (t + 1 < l.length) && (alw up dn k j (nx.drop j)).any fun m => decide (x - y < m)) = badAt p l up dn t k) 0 (.keep rfl rfl rfl (by simp) (Sub.refl _)) ⟨Nat.zero_le _, hbadE.symm⟩ (fun _ => rfl) ?_
              rintro j ⟨hj, hs⟩
              have hwj : IntKind.i64.wrap ((j : Int) + 1) = (j : Int) + 1 := W_in (by omega) (by omega)
              refine E.seq ?_
              refine E.seq ?_
              by_cases hjl : j < nx.length
              · have ht1 : t + 1 < l.length := by
                  rcases Nat.lt_or_ge (t + 1) l.length with h | h
                  · exact h
                  · rw [if_neg (by omega)] at hnl; omega
                have htI : (t : Int) + 1 < l.length := by omega
                rw [if_pos ht1] at hnl
                have hjt : j < l[t].length := by omega
                obtain ⟨b', r2, e', _, hcb', hvb'⟩ := hrow2 (t + 1) ht1
                injection e' with e'
                subst e'
                obtain ⟨oc2, cr2, rfl, _, _, hcl2⟩ := intV_form hvb'
                have hnx2 : l[t + 1] = nx := by rw [← hnx, getD_at ht1]
                have hj2 : j < l[t + 1].length := by rw [hnx2]; exact hjl
                obtain ⟨h0, rfl, hfh, hch⟩ := hcl2 j hj2
                obtain ⟨h1, h2, h3⟩ := hRd hch
                obtain ⟨c1, c2, c3⟩ := hRd hcb'
                have hv3 := hval _ (List.getElem_mem ht1) _ (List.getElem_mem hj2)
                have hzz : l[t + 1][j] = nx[j] := by simp only [hnx2]
                obtain ⟨z, hz⟩ : ∃ z, nx[j] = z := ⟨_, rfl⟩
                rw [hzz, hz] at h1 h2 hv3
                have hwz : IntKind.i64.wrap (y + z) = y + z := W_in (by omega) (by omega)
                have hgm := gMay_eq (up := up) (dn := dn) (show k < 2147483648 by omega) (show j < 2147483648 by omega)
                rw [List.drop_eq_getElem_cons hjl, alw, hz] at hs
                refine E.reg hr (by simp [-cellA, -flat, hwt, htI, htl, hfb, b2, hjt, yieldedA]; rfl) ?_ -- region 27
                refine E.cond (t := true) (by simp) (fun _ => ?_) (fun h => by cases h)
                refine E.skip ?_
                refine E.seq ?_
                refine E.block ?_ -- 11
                refine E.seq ?_
                refine E.lead { fr := [(0, .slice (some a) p.length c), (2, .slice (some b) l.length d), (4, .pointer (some ⟨n, 0, none⟩)), (12, iv (bestV l t k)), (13, iv t), (14, iv k), (15, iv j)], sz := 152, H := HX, n := n + 1, marks := [], vs := [0, 1, 2, 4, 6, 7, 8, 9, 10, 11, 12, 13, 14, 15, 20, 24, 37, 41, 50, 62, 67, 76, 93, 107, 139, 141] } (.keep rfl rfl rfl (by simp) (Sub.refl _)) ?_
                by_cases hmay : mayB up dn k j = true
                · rw [if_pos hmay, List.any_cons] at hs
                  rw [hmay] at hgm
                  have hwk2 : IntKind.i64.wrap ((t : Int) + 1) = (t : Int) + 1 := hwt
                  refine E.drawU mixed hr [3] [3] [0, 3, 8, 11, 15, 18, 23, 26] (by kernel_rfl) (r31t _ rfl hnm hld hnn hgm htl htp hfa hfb a1 a3 b1 b3 hkl hkp hff f1 f3 hfg g1 g3 hwt htI c1 hj2 hfh h1 h3 hwz) ?_ -- region 29
                  by_cases hlow : x < y + z
                  · have hb : badAt p l up dn t k = true := by
                      rw [← hs, decide_eq_true ht1, decide_eq_true (show x - y < z by omega)]; rfl
                    have hres := cpR_bad hchk hlp hlr2 he0 htl hkl hb
                    refine E.cond (t := true) (by simp [hlow]) (fun _ => ?_) (fun h => by cases h)
                    refine E.seq ?_
                    refine E.reg hr (by simp; rfl) ?_ -- region 30
                    refine E.ret ?_
                    exact pureK.ret rfl rfl (by rw [hres]; simp) hS
                  · rw [decide_eq_false (show ¬ x - y < z by omega), Bool.false_or] at hs
                    refine E.cond (t := false) (by simp [hlow]) (fun h => by cases h) (fun _ => ?_)
                    refine E.skip ?_
                    refine E.reg hr (by simp [hwj]; rfl) ?_ -- region 28
                    exact ⟨j + 1, .keep rfl rfl rfl (by simp) (Sub.refl _), ⟨hjl, hs⟩, by dsimp only; omega⟩
                · rw [if_neg hmay] at hs
                  rw [show mayB up dn k j = false by simpa using hmay] at hgm
                  refine E.drawU mixed hr [3] [3] [0, 3, 8, 11, 15, 18, 23, 26] (by kernel_rfl) (r31f _ rfl hnm hld hnn hgm) ?_ -- region 29
                  refine E.cond (t := false) (by simp) (fun h => by cases h) (fun _ => ?_)
                  refine E.skip ?_
                  refine E.reg hr (by simp [hwj]; rfl) ?_ -- region 28
                  exact ⟨j + 1, .keep rfl rfl rfl (by simp) (Sub.refl _), ⟨hjl, hs⟩, by dsimp only; omega⟩
              · rw [List.drop_eq_nil_of_le (by omega), alw, List.any_nil, Bool.and_false] at hs
                have hq2 : ∀ k', k' < k + 1 → badAt p l up dn t k' = false := fun k' h => by
                  rcases Nat.lt_or_ge k' k with h' | h'
                  · exact hq k' h'
                  · have : k' = k := by omega
                    rw [this]; exact hs.symm
                rcases Nat.lt_or_ge (t + 1) l.length with ht1 | ht1
                case' inl =>
                  have htI : (t : Int) + 1 < l.length := by omega
                  rw [if_pos ht1] at hnl
                  have hjt : ¬ j < l[t].length := by omega
                  refine E.reg hr (by simp [-cellA, -flat, hwt, htI, htl, hfb, b2, hjt, yieldedA]; rfl) ?_ -- region 27
                  refine E.cond (t := false) (by simp) (fun h => by cases h) (fun _ => ?_)
                case' inr =>
                  have htI : ¬ (t : Int) + 1 < l.length := by omega
                  refine E.reg hr (by simp [-cellA, -flat, hwt, htI, yieldedA, undefV]; rfl) ?_ -- region 27
                  refine E.cond (t := false) (by simp) (fun h => by cases h) (fun _ => ?_)
                all_goals
                  refine E.exit ?_ -- 10
                  refine E.lead { fr := [(0, .slice (some a) p.length c), (2, .slice (some b) l.length d), (4, .pointer (some ⟨n, 0, none⟩)), (12, iv (bestV l t k)), (13, iv t), (14, iv k)], sz := 152, H := HX, n := n + 1, marks := [], vs := [0, 1, 2, 4, 6, 7, 8, 9, 10, 11, 12, 13, 14, 15, 20, 24, 37, 41, 50, 62, 67, 76, 93, 107, 139, 141] } (.keep rfl rfl rfl (by simp) (Sub.refl _)) ?_
                  refine E.seq ?_
                  refine E.reg hr (by simp; rfl) ?_ -- region 31
                  by_cases ht0 : t = 0
                  · have hbv : max (bestV l t k) x = bestV l t (k + 1) := by
                      subst ht0
                      rw [← hx]
                      exact bestV_step rfl htl hkl
                    refine E.cond (t := true) (by simp [ht0]) (fun _ => ?_) (fun h => by cases h)
                    refine E.reg hr (by simp [-cellA, -flat, htl, hfb, b2, hkl, hff, f2, max33, hbv]; rfl) ?_ -- region 32
                    refine E.reg hr (by simp [hwk]; rfl) ?_ -- region 23
                    exact ⟨k + 1, .keep rfl rfl rfl (by simp) (Sub.refl _), ⟨hkl, hq2⟩, by dsimp only; omega⟩
                  · have hbm : bestV l t (k + 1) = bestV l t k := (bestV_more ht0).symm
                    refine E.cond (t := false) (by simp [ht0]) (fun h => by cases h) (fun _ => ?_)
                    refine E.skip ?_
                    refine E.reg hr (by simp [hwk]; rfl) ?_ -- region 23
                    exact ⟨k + 1, .keep rfl rfl rfl (by simp [hbm]) (Sub.refl _), ⟨hkl, hq2⟩, by dsimp only; omega⟩
          · refine E.cond (t := false) (by simp [hkl]) (fun h => by cases h) (fun _ => ?_)
            have hbv := bestV_row (l := l) (t := t) (k := k) (by rw [getD_at htl]; omega) (by omega)
            refine E.exit ?_ -- 8
            refine E.reg hr (by simp [hwt]; rfl) ?_ -- region 20
            exact ⟨t + 1, .keep rfl rfl rfl (by simp [hbv]) (Sub.refl _), ⟨htl, fun t' k' h h' => by
              rcases Nat.lt_or_ge t' t with h2 | h2
              · exact hg t' k' h2 h'
              · have : t' = t := by omega
                rw [this]; exact hq k' (by omega)⟩, by dsimp only; omega⟩
        · refine E.cond (t := false) (by simp [htl]) (fun h => by cases h) (fun _ => ?_)
          have hres := cpR_good hchk hlp hlr2 he0 (fun t' k' h h' => hg t' k' (by omega) h')
          have hbv : bestV l t 0 = maxV (l.headD []) := by
            unfold bestV
            rw [if_neg (by omega)]
            have hh : l.headD [] ∈ l := by
              cases l with
              | nil => simp at hlp; omega
              | cons x xs => exact List.mem_cons_self ..
            exact maxV_zero (fun y hy => (hval _ hh y hy).1) (fun e => by have := hlr2 _ hh; rw [e] at this; simp at this; omega)
          refine E.exit ?_ -- 6
          refine E.seq ?_
          refine E.reg hr (by simp; rfl) ?_ -- region 33
          refine E.ret ?_
          exact pureK.ret rfl rfl (by rw [hres, hbv]; simp) hS
  · have hlpI : ¬ (l.length : Int) = (p.length : Int) := by omega
    have hres := cpR_len hchk hlp
    refine E.cond (t := true) (by simp [hlpI]) (fun _ => ?_) (fun h => by cases h)
    refine E.seq ?_
    refine E.reg hr (by simp; rfl) ?_ -- region 2
    refine E.ret ?_
    exact pureK.ret rfl rfl (by rw [hres]; simp) hS
def g31 (args : List Value) (H : Heap) (n : Nat) : R := match args with
  | [v, .agg ⟨[.int .i64 up, .int .i64 dn]⟩, u] => match nestV H v, nestV H u with
    | some p, some l => if chkE p up dn = 0 then some (two (cpR p l up dn).1 (cpR p l up dn).2, H, n) else none
    | _, _ => none
  | _ => none
theorem ok31 : EntOk Tryz.prog (31, g31) := by
  intro args H n v H' n' h
  simp only [g31] at h
  split at h
  · split at h
    · rename_i h1 h2
      split at h
      · rename_i h3
        injection h with h; injection h with e1 e2; injection e2 with e2 e3; subst e1 e2 e3
        exact w31 _ _ h1 h2 h3
      · cases h
    · cases h
  · cases h
end Go.Proofs.YtkongcnmkiihjaaGreatDoor
