/-
The walks of a stable sort of guns by insertion, of the reference's order by volumes, of copied lists and of how long handed steps are (each a contract: no condition but those in its statement).
-/
import Derived.Test.YtndlfijfjglkdaaGreatDoorGd
import Derived.Test.YtndlfijfjglkdaaGreatDoorGz
namespace Go.Proofs.YtndlfijfjglkdaaGreatDoor
open Go Go.Ab Go.Proofs
abbrev gAgg (g : Gun) : Value := .agg ⟨[.string g.name, iv g.v, iv g.x, iv g.y, iv g.d, iv g.lo, iv g.hi]⟩
def cmpI (a b : Int) : Int := if a < b then -1 else if b < a then 1 else 0
theorem w242 {n : Nat} (a : Int) : AC Tryz.prog 242 [iv a] [] n (.bool false) [] n := by
  have hr := recT_ok (P := Tryz.prog) (l := []) (by simp)
  refine AC.pure Tryz.func242 rfl (by kernel_rfl) rfl [2, 0] rfl ?_
  refine E.seq ?_
  refine E.reg hr (by simp; rfl) ?_
  refine E.seq ?_
  refine E.reg hr (by simp; rfl) ?_
  refine E.ret ?_
  exact pureK.ret rfl rfl (by simp) (by simp)
def g242 (args : List Value) (H : Heap) (n : Nat) : R := match args with
  | [.int .i64 _] => some (.bool false, H, n)
  | _ => none
theorem ok242 : EntOk Tryz.prog (242, g242) := by
  intro args H n v H' n' h
  simp only [g242] at h
  split at h
  · injection h with h; injection h with e1 e2; injection e2 with e2 e3; subst e1 e2 e3
    exact AC.frame0 (w242 _) (by simp)
  · cases h
theorem w201 {n : Nat} (a b : Int) : AC Tryz.prog 201 [iv a, iv b] [] n (iv (cmpI a b)) [] n := by
  have hr := recT_ok (P := Tryz.prog) (l := [(242, g242)]) (by simp [ok242])
  refine AC.pure Tryz.func201 rfl (by kernel_rfl) rfl [4, 19, 16, 13, 12, 6, 11, 5, 1, 0] rfl ?_
  refine E.seq ?_
  refine E.reg hr (by simp; rfl) ?_
  refine E.seq ?_
  refine E.reg hr (by simp [g242]; rfl) ?_
  refine E.seq ?_
  refine E.reg hr (by simp [g242]; rfl) ?_
  refine E.seq ?_
  refine E.seq ?_
  refine E.reg hr (by simp; rfl) ?_
  refine E.cond (t := false) (by simp) (fun h => by cases h) (fun _ => ?_)
  refine E.skip ?_
  refine E.seq ?_
  refine E.seq ?_
  refine E.reg hr (by simp; rfl) ?_
  refine E.cond (t := false) (by simp) (fun h => by cases h) (fun _ => ?_)
  refine E.skip ?_
  refine E.seq ?_
  refine E.seq ?_
  refine E.reg hr (by simp; rfl) ?_
  by_cases h1 : a < b
  · refine E.cond (t := true) (by simp [h1]) (fun _ => ?_) (fun h => by cases h)
    refine E.seq ?_
    refine E.reg hr (by simp; rfl) ?_
    refine E.ret ?_
    exact pureK.ret rfl rfl (by simp [cmpI, h1]) (by simp)
  · refine E.cond (t := false) (by simp [h1]) (fun h => by cases h) (fun _ => ?_)
    refine E.skip ?_
    refine E.seq ?_
    refine E.seq ?_
    refine E.reg hr (by simp; rfl) ?_
    by_cases h2 : b < a
    · refine E.cond (t := true) (by simp [h2]) (fun _ => ?_) (fun h => by cases h)
      refine E.seq ?_
      refine E.reg hr (by simp; rfl) ?_
      refine E.ret ?_
      exact pureK.ret rfl rfl (by simp [cmpI, h1, h2]) (by simp)
    · refine E.cond (t := false) (by simp [h2]) (fun h => by cases h) (fun _ => ?_)
      refine E.skip ?_
      refine E.seq ?_
      refine E.reg hr (by simp; rfl) ?_
      refine E.ret ?_
      exact pureK.ret rfl rfl (by simp [cmpI, h1, h2]) (by simp)
def g201 (args : List Value) (H : Heap) (n : Nat) : R := match args with
  | [.int .i64 a, .int .i64 b] => some (iv (cmpI a b), H, n)
  | _ => none
theorem ok201 : EntOk Tryz.prog (201, g201) := by
  intro args H n v H' n' h
  simp only [g201] at h
  split at h
  · injection h with h; injection h with e1 e2; injection e2 with e2 e3; subst e1 e2 e3
    exact AC.frame0 (w201 _ _) (by simp)
  · cases h
theorem w144 {n : Nat} (a b : Gun) : AC Tryz.prog 144 [gAgg a, gAgg b] [] n (iv (cmpI a.v b.v)) [] n := by
  have hr := recT_ok (P := Tryz.prog) (l := [(201, g201)]) (by simp [ok201])
  refine AC.pure Tryz.func144 rfl (by kernel_rfl) rfl [4, 3, 2, 1, 0] rfl ?_
  refine E.seq ?_
  refine E.reg hr (by simp; rfl) ?_
  refine E.seq ?_
  refine E.reg hr (by simp [g201]; rfl) ?_
  refine E.ret ?_
  exact pureK.ret rfl rfl (by simp) (by simp)
def g144 (args : List Value) (H : Heap) (n : Nat) : R := match args with
  | [.agg ⟨[.string _, .int .i64 a, .int .i64 _, .int .i64 _, .int .i64 _, .int .i64 _, .int .i64 _]⟩, .agg ⟨[.string _, .int .i64 b, .int .i64 _, .int .i64 _, .int .i64 _, .int .i64 _, .int .i64 _]⟩] => some (iv (cmpI a b), H, n)
  | _ => none
theorem ok144 : EntOk Tryz.prog (144, g144) := by
  intro args H n v H' n' h
  simp only [g144] at h
  split at h
  · rename_i s1 a x1 y1 f1 l1 h1 s2 b x2 y2 f2 l2 h2
    injection h with h; injection h with e1 e2; injection e2 with e2 e3; subst e1 e2 e3
    exact AC.frame0 (w144 ⟨s1, a, x1, y1, f1, l1, h1⟩ ⟨s2, b, x2, y2, f2, l2, h2⟩) (by simp)
  · cases h
end Go.Proofs.YtndlfijfjglkdaaGreatDoor

namespace Go.Proofs.YtndlfijfjglkdaaGreatDoor
open Go Go.Ab Go.Proofs Go.Soft
theorem gcs_lenB : ∀ l : List Gun, (gcs l).length = l.length * 7
  | [] => rfl
  | g :: l => by
    have := gcs_lenB l
    unfold gcs at this ⊢
    rw [List.flatMap_cons, List.length_append, this, List.length_cons]
    show 7 + l.length * 7 = (l.length + 1) * 7
    omega
theorem gcs_appendB (a b : List Gun) : gcs (a ++ b) = gcs a ++ gcs b := by simp [gcs]
theorem gcs_atB {l : List Gun} {j : Nat} (hj : j < l.length) : ((gcs l).drop (j * 7)).take 7 = Gun.cells l[j] := by
  have e : l = l.take j ++ l[j] :: l.drop (j + 1) := by rw [← List.drop_eq_getElem_cons hj, List.take_append_drop]
  have hlen : (gcs (l.take j)).length = j * 7 := by rw [gcs_lenB, List.length_take]; congr 1; omega
  have h1 : gcs l = gcs (l.take j) ++ (Gun.cells l[j] ++ gcs (l.drop (j + 1))) := by
    conv => lhs; rw [e, gcs_appendB]
    rfl
  rw [h1, List.drop_left' hlen]
  exact List.take_left' rfl
theorem gcs_putB {l : List Gun} {j : Nat} (hj : j < l.length) (x : Gun) : (gcs l).take (j * 7) ++ Gun.cells x ++ (gcs l).drop (j * 7 + 7) = gcs (l.set j x) := by
  have e : l = l.take j ++ l[j] :: l.drop (j + 1) := by rw [← List.drop_eq_getElem_cons hj, List.take_append_drop]
  have hlen : (gcs (l.take j)).length = j * 7 := by rw [gcs_lenB, List.length_take]; congr 1; omega
  have h1 : gcs l = gcs (l.take j) ++ (Gun.cells l[j] ++ gcs (l.drop (j + 1))) := by
    conv => lhs; rw [e, gcs_appendB]
    rfl
  have h2 : gcs (l.set j x) = gcs (l.take j) ++ (Gun.cells x ++ gcs (l.drop (j + 1))) := by
    rw [List.set_eq_take_append_cons_drop, if_pos hj, gcs_appendB]
    rfl
  rw [h2, h1, List.take_left' hlen, List.append_assoc]
  congr 2
  rw [← List.drop_drop, List.drop_left' hlen]
  exact List.drop_left' rfl
theorem gcs_afB : ∀ l : List Gun, afL (gcs l) = true
  | [] => rfl
  | g :: l => by
    have := gcs_afB l
    unfold gcs at this ⊢
    simp [List.flatMap_cons, Gun.cells, afL, af, this]
section
variable {H : Heap} {m : Nat} {l : List Gun}
theorem row_at (h : hget H m = some (.ext (gcs l) 95 7)) {j : Nat} (hj : j < l.length) : cellsA H m (j * 7) 7 = some (Gun.cells l[j]) := by
  rw [cellsA_eq, h]
  have hl := gcs_lenB l
  have : j * 7 + 7 ≤ l.length * 7 := by omega
  simp [cellsB, this, gcs_atB hj]
theorem row_put (h : hget H m = some (.ext (gcs l) 95 7)) {j : Nat} (hj : j < l.length) (x : Gun) : storeA H m (j * 7) (Gun.cells x) = some (hset H m (.ext (gcs (l.set j x)) 95 7)) := by
  have hl := gcs_lenB l
  have hx : (Gun.cells x).length = 7 := rfl
  have : j * 7 + 7 ≤ (gcs l).length := by omega
  unfold storeA
  rw [h]
  simp only [putL, hx]
  rw [if_pos this, gcs_putB hj]
end
/-- one that is put in, on its way: 'c' of the greater ones lie behind it -/
def arr (R : List Gun) (x : Gun) (c : Nat) (rest : List Gun) : List Gun := (R.drop c).reverse ++ x :: ((R.take c).reverse ++ rest)
theorem arr_len {R rest : List Gun} {x : Gun} {c : Nat} : (arr R x c rest).length = R.length + 1 + rest.length := by
  unfold arr
  simp
  omega
theorem arr_x {R rest : List Gun} {x : Gun} {c : Nat} (_hc : c ≤ R.length) : (arr R x c rest)[R.length - c]? = some x := by
  unfold arr
  rw [List.getElem?_append_right (by simp), List.length_reverse, List.length_drop, Nat.sub_self]
  rfl
theorem arr_step {R rest : List Gun} {x : Gun} {c : Nat} (hc : c < R.length) : arr R x c rest = (R.drop (c + 1)).reverse ++ R[c] :: x :: ((R.take c).reverse ++ rest) := by
  unfold arr
  rw [List.drop_eq_getElem_cons hc, List.reverse_cons, List.append_assoc]
  rfl
theorem arr_y {R rest : List Gun} {x : Gun} {c : Nat} (hc : c < R.length) : (arr R x c rest)[R.length - c - 1]? = some R[c] := by
  rw [arr_step hc, List.getElem?_append_right (by simp; omega), List.length_reverse, List.length_drop, show R.length - c - 1 - (R.length - (c + 1)) = 0 by omega]
  rfl
theorem arr_swap {R rest : List Gun} {x : Gun} {c : Nat} (hc : c < R.length) : ((arr R x c rest).set (R.length - c) R[c]).set (R.length - c - 1) x = arr R x (c + 1) rest := by
  have hlen : (R.drop (c + 1)).reverse.length = R.length - c - 1 := by rw [List.length_reverse, List.length_drop]; omega
  rw [arr_step hc, List.set_append_right _ _ (by omega), hlen, show R.length - c - (R.length - c - 1) = 1 by omega, List.set_cons_succ, List.set_cons_zero, List.set_append_right _ _ (by omega), hlen, Nat.sub_self, List.set_cons_zero]
  unfold arr
  rw [List.take_succ_eq_append_getElem hc, List.reverse_append]
  rfl
theorem insR_split {vol : Gun → Int} {x : Gun} : ∀ {R : List Gun} {c : Nat}, c ≤ R.length → (∀ k (hk : k < R.length), k < c → vol x < vol R[k]) → (∀ hc : c < R.length, ¬ vol x < vol R[c]) → insR vol x R = R.take c ++ x :: R.drop c
  | [], c, h, _, _ => by
    obtain rfl : c = 0 := by simpa using h
    rfl
  | y :: ys, 0, _, _, h => by
    have := h (by simp)
    rw [insR, if_neg (by simpa using this)]
    rfl
  | y :: ys, c + 1, h, h1, h2 => by
    have h0 := h1 0 (by simp) (by omega)
    rw [insR, if_pos (by simpa using h0), insR_split (c := c) (by simpa using h) (fun k hk hkc => by
      have := h1 (k + 1) (by simpa using hk) (by omega)
      simpa using this) (fun hc => by
      have := h2 (by simpa using hc)
      simpa using this)]
    rfl
theorem srtR_snoc {vol : Gun → Int} (l : List Gun) (x : Gun) : srtR vol (l ++ [x]) = insR vol x (srtR vol l) := by simp [srtR]
end Go.Proofs.YtndlfijfjglkdaaGreatDoor

namespace Go.Proofs.YtndlfijfjglkdaaGreatDoor
open Go Go.Ab Go.Proofs Go.Soft
theorem load95 {H : Heap} {m o : Nat} {s : Option Nat} {g : Gun} (h : cellsA H m o 7 = some (Gun.cells g)) : loadA Tryz.prog 95 H (.pointer (some ⟨m, o, s⟩)) = some (gAgg g) := by
  simp only [loadA, ag95, sz95, h, Option.map_some]
theorem cmpI_lt {a b : Int} : cmpI a b < 0 ↔ a < b := by
  unfold cmpI
  split
  · simp [*]
  · split
    · simp [*]
    · simp [*]
set_option maxHeartbeats 600000 in
set_option maxRecDepth 50000 in
theorem w240 {m n : Nat} (hm : m < n) (G : List Gun) (hG : G.length < 2147483648) : AC Tryz.prog 240 [.slice (some ⟨m, 0, some 0⟩) G.length 0, iv 0, iv G.length, .func (.func 144) #[] #[]] [(m, .ext (gcs G) 95 7)] n (.tuple #[]) [(m, .ext (gcs (srtR Gun.v G).reverse) 95 7)] n := by
  have hr := recT_ok (P := Tryz.prog) (l := [(144, g144)]) (by simp [ok144])
  refine AC.wrote Tryz.func240 rfl (by kernel_rfl) rfl [0, 1, 2, 3, 8, 9, 14, 34] rfl (fun k b hk => ?_) ?_
  · rw [hget_cons] at hk
    split at hk
    · rename_i e; subst e; injection hk with hk; subst hk
      exact ⟨hm, .inr ⟨⟨_, by rw [hget_cons, if_pos rfl]⟩, scL_af _ _ (gcs_afB _)⟩⟩
    · cases hk
  have hw1 : IntKind.i64.wrap 1 = 1 := by decide
  refine E.seq ?_
  refine E.reg hr (by simp [hw1]; rfl) ?_
  refine E.block ?_
  refine E.loop ?_
  refine EL.ind (fun x : Nat × Heap => { fr := [(0, .slice (some ⟨m, 0, some 0⟩) G.length 0), (1, iv 0), (2, iv G.length), (3, .func (.func 144) #[] #[]), (8, iv x.1)], sz := 53, H := x.2, n := n, marks := [], vs := [0, 1, 2, 3, 8, 9, 14, 34] }) (fun x => G.length - x.1) (fun x => (1 ≤ x.1 ∧ (x.1 ≤ G.length ∨ x.1 = 1)) ∧ hget x.2 m = some (.ext (gcs ((srtR Gun.v (G.take x.1)).reverse ++ G.drop x.1)) 95 7) ∧ namesOk n x.2 = true) (1, [(m, .ext (gcs G) 95 7)]) (.keep rfl rfl rfl (by simp) (Sub.refl _)) ⟨⟨Nat.le_refl _, .inr rfl⟩, ?_, namesOk_put hm rfl⟩ (fun _ => rfl) ?_
  · rw [hget_cons, if_pos rfl]
    have : (srtR Gun.v (G.take 1)).reverse ++ G.drop 1 = G := by
      cases G with
      | nil => rfl
      | cons g G => rfl
    dsimp only
    rw [this]
  rintro ⟨i, Hx⟩ ⟨⟨hi1, hi2⟩, hX, hnm⟩
  dsimp only at hi1 hi2 hX hnm ⊢
  have hw : IntKind.i64.wrap ((i : Int) + 1) = (i : Int) + 1 := W_in (by omega) (by omega)
  refine E.seq ?_
  refine E.seq ?_
  refine E.reg hr (by simp; rfl) ?_
  by_cases hil : i < G.length
  · obtain ⟨R, hR⟩ : ∃ R, srtR Gun.v (G.take i) = R := ⟨_, rfl⟩
    have hRl : R.length = i := by rw [← hR, srtR_len, List.length_take]; omega
    obtain ⟨x, hx⟩ : ∃ x, G[i] = x := ⟨_, rfl⟩
    obtain ⟨rest, hrest⟩ : ∃ rest, G.drop (i + 1) = rest := ⟨_, rfl⟩
    have hsn : srtR Gun.v (G.take (i + 1)) = insR Gun.v x R := by rw [List.take_succ_eq_append_getElem hil, srtR_snoc, hR, hx]
    have hrl : rest.length = G.length - (i + 1) := by rw [← hrest, List.length_drop]
    have h0 : (srtR Gun.v (G.take i)).reverse ++ G.drop i = arr R x 0 rest := by
      rw [hR, List.drop_eq_getElem_cons hil, hx, hrest]
      rfl
    rw [h0] at hX
    refine E.cond (t := true) (by simp [hil]) (fun _ => ?_) (fun h => by cases h)
    refine E.skip ?_
    refine E.seq ?_
    refine E.block ?_
    refine E.seq ?_
    refine E.reg hr (by simp; rfl) ?_
    refine E.block ?_
    refine E.loop ?_
    refine EL.ind (fun y : Nat × Heap => { fr := [(0, .slice (some ⟨m, 0, some 0⟩) G.length 0), (1, iv 0), (2, iv G.length), (3, .func (.func 144) #[] #[]), (8, iv i), (9, iv ((i - y.1 : Nat) : Int))], sz := 53, H := y.2, n := n, marks := [], vs := [0, 1, 2, 3, 8, 9, 14, 34] }) (fun y => i - y.1) (fun y => y.1 ≤ i ∧ (∀ k (hk : k < R.length), k < y.1 → x.v < R[k].v) ∧ hget y.2 m = some (.ext (gcs (arr R x y.1 rest)) 95 7) ∧ namesOk n y.2 = true) (0, Hx) (.keep rfl rfl rfl (by simp) (Sub.refl _)) ⟨Nat.zero_le _, fun k hk h => by omega, hX, hnm⟩ (fun _ => rfl) ?_
    clear hX hnm
    rintro ⟨c, Hy⟩ ⟨hc, hgt, hY, hnm⟩
    dsimp only at hc hgt hY hnm ⊢
    obtain ⟨j, hj⟩ : ∃ j, i - c = j := ⟨_, rfl⟩
    rw [hj]
    have hjl : j < G.length := by omega
    have hal : (arr R x c rest).length = G.length := by rw [arr_len]; omega
    have hax := arr_x (x := x) (rest := rest) (show c ≤ R.length by omega)
    rw [hRl, hj] at hax
    have hcx : cellsA Hy m (j * 7) 7 = some (Gun.cells x) := by
      have h1 := row_at hY (j := j) (by omega)
      rw [List.getElem?_eq_getElem (by omega)] at hax
      injection hax with hax
      rw [hax] at h1
      exact h1
    have hrd : ∀ {o : Nat} {g : Gun}, cellsA Hy m o 7 = some (Gun.cells g) → loadA Tryz.prog 95 (readA [m] Hy) (.pointer (some ⟨m, o, none⟩)) = some (gAgg g) := fun h => load95 (by rw [cellsA_eq, hget_readA, if_pos (by simp), ← cellsA_eq]; exact h)
    have fin : ∀ (c0 : Nat), c0 = c → (∀ hc : c < R.length, ¬ x.v < R[c].v) → hget Hy m = some (.ext (gcs ((srtR Gun.v (G.take (i + 1))).reverse ++ G.drop (i + 1))) 95 7) := fun c0 _ hst => by
      rw [hsn, insR_split (show c ≤ R.length by omega) hgt hst, hrest, List.reverse_append, List.reverse_cons, List.append_assoc, List.append_assoc]
      exact hY
    refine E.seq ?_
    refine E.seq ?_
    by_cases hj0 : j = 0
    · have hj0' : ¬ 0 < j := by omega
      refine E.drawU mixed hr [14] [14] [8, 13, 14] (by kernel_rfl) (by simp [hnm, hj0', yieldedA, undefV]; rfl) ?_
      refine E.cond (t := false) (by simp) (fun h => by cases h) (fun _ => ?_)
      refine E.exit ?_
      refine E.reg hr (by simp [hw]; rfl) ?_
      exact ⟨(i + 1, Hy), .keep rfl rfl rfl (by simp) (Sub.refl _), ⟨⟨by dsimp only; omega, .inl hil⟩, fin c rfl (fun h => by omega), hnm⟩, by dsimp only; omega⟩
    · have hcR : c < R.length := by omega
      have hj1 : 0 < j := by omega
      obtain ⟨q, hq⟩ : ∃ q, j = q + 1 := ⟨j - 1, by omega⟩
      have hjq : (j : Int) - 1 = q := by omega
      have hwj : IntKind.i64.wrap ((j : Int) - 1) = q := by rw [W_in (by omega) (by omega)]; exact hjq
      have hql : q < G.length := by omega
      obtain ⟨y, hy⟩ : ∃ y, R[c] = y := ⟨_, rfl⟩
      have hay := arr_y (x := x) (rest := rest) hcR
      rw [hRl, hj, show j - 1 = q by omega, hy] at hay
      have hcy : cellsA Hy m (q * 7) 7 = some (Gun.cells y) := by
        have h1 := row_at hY (j := q) (by omega)
        rw [List.getElem?_eq_getElem (by omega)] at hay
        injection hay with hay
        rw [hay] at h1
        exact h1
      have hlx := hrd hcx
      have hly := hrd hcy
      have hg : ∀ H n, g144 [gAgg x, gAgg y] H n = some (iv (cmpI x.v y.v), H, n) := fun _ _ => rfl
      have hmn : m < n := hm
      refine E.drawU mixed hr [14] [14] [8, 13, 14] (by kernel_rfl) (by simp [-readA, -loadA, flat, hnm, hj1, hmn, hjl, hql, hwj, hlx, hly, run_vcall_tmp, vcallF, target, hg, yieldedA]; rfl) ?_
      by_cases hlt : x.v < y.v
      · have hlt' := cmpI_lt.2 hlt
        have hp1 := row_put hY (j := j) (by omega) y
        obtain ⟨H1, hH1⟩ : ∃ H1, hset Hy m (.ext (gcs ((arr R x c rest).set j y)) 95 7) = H1 := ⟨_, rfl⟩
        rw [hH1] at hp1
        have hX1 : hget H1 m = some (.ext (gcs ((arr R x c rest).set j y)) 95 7) := by rw [← hH1, hget_set, if_pos rfl, hY]; rfl
        have hp2 := row_put hX1 (j := q) (by rw [List.length_set]; omega) x
        have hsw := arr_swap (x := x) (rest := rest) hcR
        rw [hRl, hj, show j - 1 = q by omega, hy] at hsw
        rw [hsw] at hp2
        obtain ⟨H2, hH2⟩ : ∃ H2, hset H1 m (.ext (gcs (arr R x (c + 1) rest)) 95 7) = H2 := ⟨_, rfl⟩
        rw [hH2] at hp2
        have hX2 : hget H2 m = some (.ext (gcs (arr R x (c + 1) rest)) 95 7) := by rw [← hH2, hget_set, if_pos rfl, hX1]; rfl
        have hn1 : namesOk n H1 = true := by rw [← hH1]; exact namesOk_hset hnm
        have hn2 : namesOk n H2 = true := by rw [← hH2]; exact namesOk_hset hn1
        refine E.cond (t := true) (by simp [hlt']) (fun _ => ?_) (fun h => by cases h)
        refine E.skip ?_
        refine E.lead { fr := [(0, .slice (some ⟨m, 0, some 0⟩) G.length 0), (1, iv 0), (2, iv G.length), (3, .func (.func 144) #[] #[]), (8, iv i), (9, iv j)], sz := 53, H := Hy, n := n, marks := [], vs := [0, 1, 2, 3, 8, 9, 14, 34] } (.keep rfl rfl rfl (by simp) (Sub.refl _)) ?_
        refine E.seq ?_
        refine E.block ?_
        have hgx : Gun.cells x = [.string x.name, iv x.v, iv x.x, iv x.y, iv x.d, iv x.lo, iv x.hi] := rfl
        have hgy : Gun.cells y = [.string y.name, iv y.v, iv y.x, iv y.y, iv y.d, iv y.lo, iv y.hi] := rfl
        rw [hgy] at hp1
        rw [hgx] at hp2
        refine E.drawU mixed hr [15, 17] [15, 17] [9, 13, 15, 17] (by kernel_rfl) (by simp [-readA, -loadA, -storeA, flat, hnm, hmn, hjl, hql, hwj, hlx, hly, hp1, hp2, hn1, hn2]; rfl) ?_
        refine E.reg hr (by simp [hwj]; rfl) ?_
        have hcj : i - (c + 1) = q := by omega
        refine ⟨(c + 1, H2), .keep rfl rfl rfl (by simp [hcj]) (Sub.refl _), ⟨by dsimp only; omega, fun k hk h => ?_, hX2, hn2⟩, by dsimp only; omega⟩
        dsimp only at h
        rcases Nat.lt_or_ge k c with h' | h'
        · exact hgt k hk h'
        · have : k = c := by omega
          subst this
          rw [hy]
          exact hlt
      · have hlt' : ¬ cmpI x.v y.v < 0 := fun h => hlt (cmpI_lt.1 h)
        refine E.cond (t := false) (by simp [hlt']) (fun h => by cases h) (fun _ => ?_)
        refine E.exit ?_
        refine E.reg hr (by simp [hw]; rfl) ?_
        exact ⟨(i + 1, Hy), .keep rfl rfl rfl (by simp) (Sub.refl _), ⟨⟨by dsimp only; omega, .inl hil⟩, fin c rfl (fun h => by rw [hy]; exact hlt), hnm⟩, by dsimp only; omega⟩
  · refine E.cond (t := false) (by simp [hil]) (fun h => by cases h) (fun _ => ?_)
    refine E.exit ?_
    refine ⟨.inl rfl, rfl, ⟨_, rfl, rfl⟩, fun k b hk => ?_⟩
    rw [hget_cons] at hk
    split at hk
    · rename_i e; subst e; injection hk with hk; subst hk
      dsimp only
      rw [hX, List.take_of_length_le (by omega), List.drop_eq_nil_of_le (by omega), List.append_nil]
    · cases hk
end Go.Proofs.YtndlfijfjglkdaaGreatDoor

namespace Go.Proofs.YtndlfijfjglkdaaGreatDoor
open Go Go.Ab Go.Proofs Go.Soft
theorem gcs_injB : ∀ {a b : List Gun}, gcs a = gcs b → a = b
  | [], [], _ => rfl
  | [], g :: b, h => by have := congrArg List.length h; rw [gcs_lenB, gcs_lenB] at this; simp at this
  | g :: a, [], h => by have := congrArg List.length h; rw [gcs_lenB, gcs_lenB] at this; simp at this
  | g :: a, g' :: b, h => by
    have e1 : gcs (g :: a) = Gun.cells g ++ gcs a := rfl
    have e2 : gcs (g' :: b) = Gun.cells g' ++ gcs b := rfl
    rw [e1, e2] at h
    obtain ⟨h1, h2⟩ := List.append_inj h rfl
    obtain ⟨s, v, x, y, f, l, u⟩ := g
    obtain ⟨s', v', x', y', f', l', u'⟩ := g'
    simp only [Gun.cells, List.cons.injEq, Value.string.injEq, Value.int.injEq, true_and, and_true] at h1
    obtain ⟨rfl, rfl, rfl, rfl, rfl, rfl, rfl⟩ := h1
    rw [gcs_injB h2]
abbrev sorted (l : List Gun) : List Gun := (srtR Gun.v l).reverse
abbrev cmpF : Value := .func (.func 144) #[] #[]
/-- a call that puts one row of guns in order, told of the whole heap -/
theorem AC.inOrder {f : FuncId} {args : List Value} {m n : Nat} {l : List Gun} (h : AC Tryz.prog f args [(m, .ext (gcs l) 95 7)] n (.tuple #[]) [(m, .ext (gcs (sorted l)) 95 7)] n) {H : Heap} (hm : hget H m = some (.ext (gcs l) 95 7)) : AC Tryz.prog f args H n (.tuple #[]) (hset H m (.ext (gcs (sorted l)) 95 7)) n := by
  refine h.frame (fun k b hk => ?_) fun k b hk => ?_
  · rw [hget_cons] at hk
    split at hk
    · rename_i e; subst e; injection hk with hk; subst hk; exact hm
    · cases hk
  · rw [hget_set] at hk
    by_cases e : m = k
    · subst e
      rw [if_pos rfl, hm] at hk
      injection hk with hk
      subst hk
      exact .inl (by rw [hget_cons, if_pos rfl])
    · rw [if_neg e] at hk
      exact .inr ⟨hk, by rw [hget_cons, if_neg e]; rfl⟩
open Classical in
noncomputable def gOrd (_args : List Value) (H : Heap) (n : Nat) (a : Addr) (L : Nat) : R :=
  if h : (∃ l, hget H a.block = some (.ext (gcs l) 95 7) ∧ l.length = L ∧ L < 20) ∧ a = ⟨a.block, 0, some 0⟩ then some (.tuple #[], hset H a.block (.ext (gcs (sorted (Classical.choose h.1))) 95 7), n) else none
theorem gOrd_at {args : List Value} {H : Heap} {n m : Nat} {l : List Gun} (hm : hget H m = some (.ext (gcs l) 95 7)) (hl : l.length < 20) : gOrd args H n ⟨m, 0, some 0⟩ l.length = some (.tuple #[], hset H m (.ext (gcs (sorted l)) 95 7), n) := by
  have hex : (∃ l', hget H m = some (.ext (gcs l') 95 7) ∧ l'.length = l.length ∧ l.length < 20) ∧ (⟨m, 0, some 0⟩ : Addr) = ⟨m, 0, some 0⟩ := ⟨⟨l, hm, rfl, hl⟩, rfl⟩
  unfold gOrd
  rw [dif_pos hex]
  have h1 := (Classical.choose_spec hex.1).1
  have h2 : some (Blk.ext (gcs (Classical.choose hex.1)) 95 7) = some (.ext (gcs l) 95 7) := h1.symm.trans hm
  injection h2 with h2
  injection h2 with h2
  rw [gcs_injB h2]
noncomputable def g240 (args : List Value) (H : Heap) (n : Nat) : R := match args with
  | [.slice (some a) L 0, .int .i64 0, .int .i64 L', .func (.func 144) ⟨[]⟩ ⟨[]⟩] => if L' = L then gOrd args H n a L else none
  | _ => none
theorem ok_ord {f : FuncId} {args : List Value} {H : Heap} {n : Nat} {a : Addr} {L : Nat} {v : Value} {H' : Heap} {n' : Nat} (hw : ∀ (m : Nat) (l : List Gun), m < n → l.length = L → l.length < 20 → a = ⟨m, 0, some 0⟩ → AC Tryz.prog f args [(m, .ext (gcs l) 95 7)] n (.tuple #[]) [(m, .ext (gcs (sorted l)) 95 7)] n) (h : gOrd args H n a L = some (v, H', n')) : AC Tryz.prog f args H n v H' n' := by
  unfold gOrd at h
  split at h
  · rename_i hc
    injection h with h; injection h with e1 e2; injection e2 with e2 e3; subst e1 e2 e3
    obtain ⟨h1, h2, h3⟩ := Classical.choose_spec hc.1
    refine AC.given fun hold _ _ => AC.inOrder (hw _ _ (hold _ _ h1).1 h2 (by omega) hc.2) h1
  · cases h
theorem ok240 : EntOk Tryz.prog (240, g240) := by
  intro args H n v H' n' h
  simp only [g240] at h
  split at h
  · rename_i a L L'
    split at h
    · rename_i hL
      subst hL
      refine ok_ord (fun m l hm hl hlt ha => ?_) h
      subst ha hl
      exact w240 hm l (by omega)
    · cases h
  · cases h
theorem w200 {m n : Nat} (hm : m < n) (l : List Gun) (hl : l.length < 20) : AC Tryz.prog 200 [.slice (some ⟨m, 0, some 0⟩) l.length 0, iv l.length, cmpF] [(m, .ext (gcs l) 95 7)] n (.tuple #[]) [(m, .ext (gcs (sorted l)) 95 7)] n := by
  have hr := recT_ok (P := Tryz.prog) (l := [(240, g240)]) (by simp [ok240])
  have hg : g240 [.slice (some ⟨m, 0, some 0⟩) l.length 0, iv 0, iv l.length, cmpF] [(m, .ext (gcs l) 95 7)] n = some (.tuple #[], [(m, .ext (gcs (sorted l)) 95 7)], n) := by
    simp only [g240, if_true]
    rw [gOrd_at (by rw [hget_cons, if_pos rfl]) hl]
    simp [hset]
  have h20 : ¬ (20 : Int) ≤ l.length := by omega
  have h20' : ¬ (20 : Int) < l.length := by omega
  refine AC.wrote Tryz.func200 rfl (by kernel_rfl) rfl [0, 1, 2, 6, 7, 8, 9, 13, 30, 35, 54] rfl (fun k b hk => ?_) ?_
  · rw [hget_cons] at hk
    split at hk
    · rename_i e; subst e; injection hk with hk; subst hk
      exact ⟨hm, .inr ⟨⟨_, by rw [hget_cons, if_pos rfl]⟩, scL_af _ _ (gcs_afB _)⟩⟩
    · cases hk
  refine E.seq ?_
  refine E.reg hr (by simp; rfl) ?_
  refine E.seq ?_
  refine E.reg hr (by simp; rfl) ?_
  refine E.seq ?_
  refine E.block ?_
  refine E.loop ?_
  refine EL.ind (fun i : Nat => { fr := [(0, .slice (some ⟨m, 0, some 0⟩) l.length 0), (1, iv l.length), (2, cmpF), (6, iv 20), (7, iv 0), (8, iv 20)], sz := 63, H := [(m, .ext (gcs l) 95 7)], n := n, marks := [], vs := [0, 1, 2, 6, 7, 8, 9, 13, 30, 35, 54] }) (fun i => 0 - i) (fun _ => True) 0 (.keep rfl rfl rfl (by simp) (Sub.refl _)) trivial (fun _ => rfl) ?_
  rintro i -
  refine E.seq ?_
  refine E.seq ?_
  refine E.reg hr (by simp; rfl) ?_
  refine E.cond (t := false) (by simp [h20]) (fun h => by cases h) (fun _ => ?_)
  refine E.exit ?_
  refine E.seq ?_
  refine E.reg hr (by simp [hg]; rfl) ?_
  refine E.block ?_
  refine E.loop ?_
  refine EL.ind (fun i : Nat => { fr := [(0, .slice (some ⟨m, 0, some 0⟩) l.length 0), (1, iv l.length), (2, cmpF), (6, iv 20)], sz := 63, H := [(m, .ext (gcs (sorted l)) 95 7)], n := n, marks := [], vs := [0, 1, 2, 6, 7, 8, 9, 13, 30, 35, 54] }) (fun i => 0 - i) (fun _ => True) 0 (.keep rfl rfl rfl (by simp) (Sub.refl _)) trivial (fun _ => rfl) ?_
  rintro i -
  refine E.seq ?_
  refine E.seq ?_
  refine E.reg hr (by simp; rfl) ?_
  refine E.cond (t := false) (by simp [h20']) (fun h => by cases h) (fun _ => ?_)
  refine E.exit ?_
  exact ⟨.inl rfl, rfl, ⟨_, rfl, rfl⟩, fun k b hk => hk⟩
noncomputable def g200 (args : List Value) (H : Heap) (n : Nat) : R := match args with
  | [.slice (some a) L 0, .int .i64 L', .func (.func 144) ⟨[]⟩ ⟨[]⟩] => if L' = L then gOrd args H n a L else none
  | _ => none
theorem ok200 : EntOk Tryz.prog (200, g200) := by
  intro args H n v H' n' h
  simp only [g200] at h
  split at h
  · rename_i a L L'
    split at h
    · rename_i hL
      subst hL
      refine ok_ord (fun m l hm hl hlt ha => ?_) h
      subst ha hl
      exact w200 hm l hlt
    · cases h
  · cases h
theorem w143 {m n : Nat} (hm : m < n) (l : List Gun) (hl : l.length < 20) : AC Tryz.prog 143 [.slice (some ⟨m, 0, some 0⟩) l.length 0, cmpF] [(m, .ext (gcs l) 95 7)] n (.tuple #[]) [(m, .ext (gcs (sorted l)) 95 7)] n := by
  have hr := recT_ok (P := Tryz.prog) (l := [(200, g200)]) (by simp [ok200])
  have hg : g200 [.slice (some ⟨m, 0, some 0⟩) l.length 0, iv l.length, cmpF] [(m, .ext (gcs l) 95 7)] n = some (.tuple #[], [(m, .ext (gcs (sorted l)) 95 7)], n) := by
    simp only [g200, if_true]
    rw [gOrd_at (by rw [hget_cons, if_pos rfl]) hl]
    simp [hset]
  refine AC.wrote Tryz.func143 rfl (by kernel_rfl) rfl [0, 1] rfl (fun k b hk => ?_) ?_
  · rw [hget_cons] at hk
    split at hk
    · rename_i e; subst e; injection hk with hk; subst hk
      exact ⟨hm, .inr ⟨⟨_, by rw [hget_cons, if_pos rfl]⟩, scL_af _ _ (gcs_afB _)⟩⟩
    · cases hk
  refine E.reg hr (by simp [hg]; rfl) ?_
  exact ⟨.inl rfl, rfl, ⟨_, rfl, rfl⟩, fun k b hk => hk⟩
noncomputable def g143 (args : List Value) (H : Heap) (n : Nat) : R := match args with
  | [.slice (some a) L 0, .func (.func 144) ⟨[]⟩ ⟨[]⟩] => gOrd args H n a L
  | _ => none
theorem ok143 : EntOk Tryz.prog (143, g143) := by
  intro args H n v H' n' h
  simp only [g143] at h
  split at h
  · rename_i a L
    refine ok_ord (fun m l hm hl hlt ha => ?_) h
    subst ha hl
    exact w143 hm l hlt
  · cases h
end Go.Proofs.YtndlfijfjglkdaaGreatDoor

namespace Go.Proofs.YtndlfijfjglkdaaGreatDoor
open Go Go.Ab Go.Proofs Go.Soft
/-- guns that a value names in a heap -/
def GunsAt (H : Heap) (v : Value) (l : List Gun) : Prop := ∃ a c, v = .slice (some a) l.length c ∧ flat a = true ∧ cellsA H a.block a.off (l.length * 7) = some (gcs l) ∧ 0 < l.length ∧ l.length < 2147483648
theorem GunsAt.mono {H H' : Heap} (hs : Sub H H') {v : Value} {l : List Gun} (h : GunsAt H v l) : GunsAt H' v l := by
  obtain ⟨a, c, e, h1, h2, h3⟩ := h
  exact ⟨a, c, e, h1, hs.cells h2, h3⟩
theorem GunsAt.tidy {H : Heap} {n : Nat} (hl : ∀ k b, hget H k = some b → k < n) {v : Value} {l : List Gun} (h : GunsAt H v l) : GunsAt (Ab.tidy n H) v l := by
  obtain ⟨a, c, e, h1, h2, h3⟩ := h
  exact ⟨a, c, e, h1, cellsA_tidy hl h2, h3⟩
theorem z95 : Tryz.prog.info? 95 = some Tryz.t95 := by kernel_rfl
theorem b95 : Tryz.t95.bytes ≤ 128 := by decide +kernel
theorem s95 : Tryz.t95.size = 7 := by kernel_rfl
theorem o95 : zeroOk Tryz.t95 = true := by kernel_rfl
theorem app_guns {H : Heap} {n m : Nat} {l : List Gun} {v : Value} (h : GunsAt H v l) (h0 : cellsA H n 0 0 = some []) : builtinA Tryz.prog .append #[30, 30] H m [.slice (some ⟨n, 0, none⟩) 0 0, v] = some (.slice (some ⟨m, 0, some 0⟩) l.length 0, (m, .ext (gcs l) 95 7) :: H, m + 1) := by
  obtain ⟨a, c, rfl, hf, hc, hp, hlt⟩ := h
  have h1 : ¬ l.length = 0 := by omega
  have h2 : ¬ l.length * 7 = 0 := by omega
  have hb := b95
  have hsm : smallA Tryz.t95.bytes l.length = true := by
    unfold smallA
    rw [Bool.and_eq_true]
    refine ⟨decide_eq_true ?_, decide_eq_true ?_⟩
    · have := Nat.mul_le_mul_left l.length hb
      omega
    · omega
  show appendA Tryz.prog #[30, 30] H m (.slice (some ⟨n, 0, none⟩) 0 0) (.slice (some a) l.length c) = _
  unfold appendA
  have hu : Tryz.prog.underlying 30 = some (.slice 95) := Tryz.underlying30
  simp only [List.getElem?_toArray, List.getElem?_cons_zero, List.getElem?_cons_succ, hu, z95, lenX, lenV, srcX, srcA, s95, if_neg h2, hf, if_true, hc, gcs_lenB, oneL_gcs, Nat.beq_refl, Bool.and_self]
  unfold appendTo
  simp only [Nat.zero_add, Nat.le_zero, h1, if_false, Nat.zero_mul, s95, h0, hsm, o95, Bool.and_self, if_true, List.nil_append]
  rfl
end Go.Proofs.YtndlfijfjglkdaaGreatDoor

namespace Go.Proofs.YtndlfijfjglkdaaGreatDoor
open Go Go.Ab Go.Proofs Go.Soft
set_option maxRecDepth 20000 in
theorem w142 {H : Heap} {n : Nat} {v : Value} {l : List Gun} (hG : GunsAt H v l) : AC Tryz.prog 142 [v] H n (.slice (some ⟨n, 0, some 0⟩) l.length 0) ([(n, .ext (gcs l) 95 7)] ++ H) (n + 1) := by
  refine AC.given fun hold hsc hgn => AC.tidied (fun x hx => ?_) ?_
  · rw [List.mem_singleton] at hx; subst hx; exact Nat.le_refl _
  replace hG := GunsAt.tidy (fun k b h => (hold k b h).1) hG
  have hr := recT_ok (P := Tryz.prog) (l := []) (by simp)
  have hS : Sub (tidy n H) ((n, .cells [] 95) :: tidy n H) := Sub.cons (by simp) (Sub.refl _)
  have happ := app_guns (m := n + 1) (hG.mono hS) (n := n) (by rw [cellsA_eq, hget_cons, if_pos rfl]; rfl)
  obtain ⟨a, c, rfl, hf, hc, hp, hlt⟩ := hG
  refine AC.fresh Tryz.func142 rfl (by kernel_rfl) rfl [0, 2, 4] (by omega) (by show n < n + 1; omega) (fun ρ => rfl) ?_
  refine E.seq ?_
  refine E.reg hr (by simp; rfl) ?_
  refine E.seq ?_
  refine E.seq ?_
  refine E.reg hr (by simp; rfl) ?_
  refine E.cond (t := false) (by simp) (fun h => by cases h) (fun _ => ?_)
  refine E.skip ?_
  refine E.seq ?_
  refine E.reg hr (by simp [-builtinA, happ]; rfl) ?_
  refine E.ret ?_
  refine outK.ret rfl rfl ⟨fun k => if k = n then n + 1 else k, fun k hk => if_neg (by omega), by simp [ren], fun k b hk => ?_, fun j b k c hj hk _ => ?_, hS.trans (Sub.cons (by simp) (Sub.refl _))⟩
  · rw [hget_cons] at hk
    split at hk
    · rename_i e; subst e; injection hk with hk; subst hk
      refine ⟨Nat.le_refl _, Nat.lt_succ_self _, by simp, ?_, scL_af _ _ (gcs_afB _), trivial, rfl⟩
      have hren : ∀ (ρ : Nat → Nat) (l : List Gun), renL ρ (gcs l) = gcs l := fun ρ l => by
        rw [renL_eq]
        conv => rhs; rw [← List.map_id (gcs l)]
        refine List.map_congr_left fun v hv => ?_
        unfold gcs at hv
        obtain ⟨g, _, hv⟩ := List.mem_flatMap.1 hv
        simp only [Gun.cells, List.mem_cons, List.not_mem_nil, or_false] at hv
        rcases hv with rfl | rfl | rfl | rfl | rfl | rfl | rfl <;> rfl
      simp [renB, hren]
    · cases hk
  · rw [hget_cons] at hj hk
    split at hj
    · split at hk
      · omega
      · cases hk
    · cases hj
theorem w145 {n : Nat} (g : Gun) : AC Tryz.prog 145 [gAgg g] [] n (sv g.name) [] n := by
  have hr := recT_ok (P := Tryz.prog) (l := []) (by simp)
  refine AC.pure Tryz.func145 rfl (by kernel_rfl) rfl [0, 1, 2] rfl ?_
  refine E.seq ?_
  refine E.reg hr (by simp; rfl) ?_
  refine E.seq ?_
  refine E.reg hr (by simp; rfl) ?_
  refine E.ret ?_
  exact pureK.ret rfl rfl (by simp) (by simp)
def g145 (args : List Value) (H : Heap) (n : Nat) : R := match args with
  | [.agg ⟨[.string s, .int .i64 _, .int .i64 _, .int .i64 _, .int .i64 _, .int .i64 _, .int .i64 _]⟩] => some (.string s, H, n)
  | _ => none
theorem ok145 : EntOk Tryz.prog (145, g145) := by
  intro args H n v H' n' h
  simp only [g145] at h
  split at h
  · rename_i s a x y f l u
    injection h with h; injection h with e1 e2; injection e2 with e2 e3; subst e1 e2 e3
    exact AC.frame0 (w145 ⟨s, a, x, y, f, l, u⟩) (by simp)
  · cases h
end Go.Proofs.YtndlfijfjglkdaaGreatDoor

namespace Go.Proofs.YtndlfijfjglkdaaGreatDoor
open Go Go.Ab Go.Proofs Go.Soft
def svs (l : List Gun) : List Value := l.map fun g => sv g.name
theorem svs_af : ∀ l : List Gun, afL (svs l) = true
  | [] => rfl
  | g :: l => by
    have := svs_af l
    unfold svs at this ⊢
    simp [af, this]
theorem svs_snoc (l : List Gun) (g : Gun) : svs (l ++ [g]) = svs l ++ [sv g.name] := by simp [svs]
theorem svs_len (l : List Gun) : (svs l).length = l.length := by simp [svs]
theorem app102 {H : Heap} {o k m : Nat} {cs : List Value} {x : ByteArray} (hk : cellsA H k 0 1 = some [sv x]) (ho : cs ≠ [] → hget H o = some (.ext cs 9 1)) (hl : cs.length < 2147483648) :
    builtinA Tryz.prog .append #[102, 102] H m [outC o cs, .slice (some ⟨k, 0, none⟩) 1 1] = some (outC m (cs ++ [sv x]), (m, .ext (cs ++ [sv x]) 9 1) :: (if cs = [] then H else hdel H o), m + 1) := by
  have hne : cs ++ [sv x] ≠ [] := by simp
  have hsm : (cs.length + 1) * 16 ≤ 1099511627776 ∧ cs.length + 1 ≤ 1099511627776 := by omega
  rw [outC_ne hne]
  by_cases h : cs = []
  · subst h
    simp [-cellsA, hk]
  · rw [outC_ne h, if_neg h]
    simp [-cellsA, hk, ho h, hsm]
set_option maxRecDepth 20000 in
theorem w146 {H : Heap} {n : Nat} {v : Value} {l : List Gun} (hG : GunsAt H v l) : AC Tryz.prog 146 [v, .func (.func 145) #[] #[]] H n (outC n (svs l)) (outCB n 9 (svs l) ++ H) (n + 1) := by
  have hne : svs l ≠ [] := fun e => by
    obtain ⟨_, _, _, _, _, hp, _⟩ := hG
    have := svs_len l
    rw [e] at this
    simp at this
    omega
  refine AC.given fun hold hsc hgn => AC.tidied (fun x hx => ?_) ?_
  · rw [outCB_ne hne, List.mem_singleton] at hx; subst hx; exact Nat.le_refl _
  replace hG := GunsAt.tidy (fun k b h => (hold k b h).1) hG
  replace hold := tidy_old hold
  have hr := recT_ok (P := Tryz.prog) (l := [(145, g145)]) (by simp [ok145])
  obtain ⟨a, c, rfl, hf, hc, hp, hlt⟩ := hG
  have hsc : sc (· < n) (.slice (some a) l.length c) := hsc.1
  have hS : Sub (tidy n H) (tidy n H) := Sub.refl _
  refine AC.outList Tryz.func146 rfl (by kernel_rfl) rfl [0, 1, 4, 5, 7, 8, 9, 10, 11] hne ?_
  refine E.seq ?_
  refine E.reg hr (by simp; rfl) ?_
  refine E.seq ?_
  refine E.reg hr (by simp; rfl) ?_
  refine E.seq ?_
  refine E.seq ?_
  refine E.reg hr (by simp; rfl) ?_
  refine E.block ?_
  refine E.loop ?_
  refine EL.ind (fun i : Nat => { fr := [(1, .func (.func 145) #[] #[]), (5, outC n (svs (l.take i))), (8, .slice (some a) l.length c), (9, iv l.length), (10, iv i)], sz := 22, H := outCB n 9 (svs (l.take i)) ++ tidy n H, n := n + 1, marks := [], vs := [0, 1, 4, 5, 7, 8, 9, 10, 11] }) (fun i => l.length - i) (fun i => i ≤ l.length) 0 (Leads.outC0 hold hS rfl rfl rfl ⟨rfl, rfl⟩ (by simp [-sc, hsc, svs]; simp [sc, scL])) (Nat.zero_le _) (fun _ => rfl) ?_
  intro i hi
  have hw : IntKind.i64.wrap ((i : Int) + 1) = (i : Int) + 1 := W_in (by omega) (by omega)
  refine E.seq ?_
  refine E.reg hr (by simp; rfl) ?_
  refine E.seq ?_
  by_cases hil : i < l.length
  · obtain ⟨cs, hcs⟩ : ∃ cs, svs (l.take i) = cs := ⟨_, rfl⟩
    have haf : afL cs = true := by rw [← hcs]; exact svs_af _
    have hcl : cs.length = i := by rw [← hcs, svs_len, List.length_take]; omega
    have hts : svs (l.take (i + 1)) = cs ++ [sv l[i].name] := by rw [List.take_succ_eq_append_getElem hil, svs_snoc, hcs]
    rw [hcs]
    obtain ⟨HX, hHX⟩ : ∃ HX, outCB n 9 cs ++ tidy n H = HX := ⟨_, rfl⟩
    rw [hHX]
    have hSX : Sub (tidy n H) HX := by rw [← hHX]; exact sub_outC (by simp)
    have hc1 := cells_part (sz := 7) (i := i) hc hil
    rw [gcs_atB hil] at hc1
    have hld := load95 (s := none) (hSX.cells hc1)
    have hoX : cs ≠ [] → hget HX n = some (.ext cs 9 1) := fun h => by rw [← hHX, outCB_ne h, List.singleton_append, hget_cons, if_pos rfl]
    obtain ⟨g, hg⟩ : ∃ g, l[i] = g := ⟨_, rfl⟩
    rw [hg] at hld hts
    obtain ⟨Hb, hHb⟩ : ∃ Hb, ((n + 1 + 1, Blk.cells [sv g.name] 9) :: (n + 1, .cells [.string g.name, iv g.v, iv g.x, iv g.y, iv g.d, iv g.lo, iv g.hi] 95) :: HX) = Hb := ⟨_, rfl⟩
    have happ := app102 (H := Hb) (o := n) (k := n + 1 + 1) (m := n + 1 + 1 + 1) (cs := cs) (x := g.name) (by rw [cellsA_eq, ← hHb, hget_cons, if_pos rfl]; rfl) (fun h => by rw [← hHb, hget_cons, if_neg (by omega), hget_cons, if_neg (by omega)]; exact hoX h) (by omega)
    have hg145 : ∀ H n, g145 [gAgg g] H n = some (.string g.name, H, n) := fun _ _ => rfl
    obtain ⟨Hd, hHd⟩ : ∃ Hd, (if cs = [] then Hb else hdel Hb n) = Hd := ⟨_, rfl⟩
    rw [hHd] at happ
    have hSd : Sub (tidy n H) Hd := fun k b hk => by
      have h1 := tidy_lt k b hk
      have h2 : hget Hb k = some b := by rw [← hHb, hget_cons, if_neg (by omega), hget_cons, if_neg (by omega)]; exact hSX k b hk
      rw [← hHd]
      split
      · exact h2
      · rw [hget_hdel, if_neg (by omega)]; exact h2
    refine E.cond (t := true) (by simp [hil]) (fun _ => ?_) (fun h => by cases h)
    refine E.skip ?_
    refine E.seq ?_
    refine E.block ?_
    refine E.seq ?_
    refine E.reg hr (by simp [-loadA, -flat, hil, hf, hld]; rfl) ?_
    refine E.reg hr (by simp [-builtinA, run_vcall_tmp, vcallF, target, hg145, hHb, happ]; rfl) ?_
    refine E.reg hr (by simp [hw]; rfl) ?_
    refine ⟨i + 1, Leads.outC1 (m := n + 1 + 1 + 1) (l := svs (l.take (i + 1))) (t := 9) (svs_af _) hold ?_ (by rw [hts]; simp) rfl (by omega) ?_ rfl rfl ⟨rfl, rfl⟩ (by simp [-sc, hsc, hts]; simp [sc, scL]), by omega, by dsimp only; omega⟩
    · intro k b hk
      have := tidy_lt k b hk
      dsimp only
      rw [hget_cons, if_neg (by omega)]
      exact hSd k b hk
    · dsimp only
      rw [hget_cons, if_pos rfl, hts]
  · refine E.cond (t := false) (by simp [hil]) (fun h => by cases h) (fun _ => ?_)
    have hti : l.take i = l := List.take_of_length_le (by omega)
    rw [hti]
    refine E.exit ?_
    refine E.seq ?_
    refine E.reg hr (by simp; rfl) ?_
    refine E.ret ?_
    refine outK.ret rfl rfl (outK_outC (m := n) (svs_af _) rfl (Nat.le_refl _) (fun h => ?_) (sub_outC tidy_new))
    dsimp only
    rw [outCB_ne h, List.singleton_append, hget_cons, if_pos rfl]
end Go.Proofs.YtndlfijfjglkdaaGreatDoor

namespace Go.Proofs.YtndlfijfjglkdaaGreatDoor
open Go Go.Ab Go.Proofs Go.Soft
theorem GunsAt.one {H : Heap} {v : Value} {l k : List Gun} (h : GunsAt H v l) (h' : GunsAt H v k) : l = k := by
  obtain ⟨a, c, rfl, _, h1, _⟩ := h
  obtain ⟨a', c', e, _, h1', _⟩ := h'
  injection e with e1 e2 e3
  injection e1 with e1
  subst e1
  rw [← e2, h1] at h1'
  injection h1' with h1'
  exact gcs_injB h1'
open Classical in
noncomputable def gunsOfB (H : Heap) (v : Value) : Option (List Gun) := if h : ∃ l, GunsAt H v l then some (Classical.choose h) else none
theorem gunsOf_atB {H : Heap} {v : Value} {l : List Gun} (h : GunsAt H v l) : gunsOfB H v = some l := by
  have hc : ∃ l, GunsAt H v l := ⟨l, h⟩
  unfold gunsOfB
  rw [dif_pos hc, (Classical.choose_spec hc).one h]
theorem gunsOf_specB {H : Heap} {v : Value} {l : List Gun} (h : gunsOfB H v = some l) : GunsAt H v l := by
  unfold gunsOfB at h
  split at h
  · rename_i hc
    injection h with h
    rw [← h]
    exact Classical.choose_spec hc
  · cases h
noncomputable def g142 (args : List Value) (H : Heap) (n : Nat) : R := match args with
  | [v] => (gunsOfB H v).map fun l => (.slice (some ⟨n, 0, some 0⟩) l.length 0, (n, .ext (gcs l) 95 7) :: H, n + 1)
  | _ => none
theorem ok142 : EntOk Tryz.prog (142, g142) := by
  intro args H n v H' n' h
  simp only [g142] at h
  split at h
  · rw [Option.map_eq_some_iff] at h
    obtain ⟨l, h1, h⟩ := h
    injection h with e1 e2; injection e2 with e2 e3; subst e1 e2 e3
    exact w142 (gunsOf_specB h1)
  · cases h
noncomputable def g146 (args : List Value) (H : Heap) (n : Nat) : R := match args with
  | [v, .func (.func 145) ⟨[]⟩ ⟨[]⟩] => (gunsOfB H v).map fun l => (outC n (svs l), outCB n 9 (svs l) ++ H, n + 1)
  | _ => none
theorem ok146 : EntOk Tryz.prog (146, g146) := by
  intro args H n v H' n' h
  simp only [g146] at h
  split at h
  · rw [Option.map_eq_some_iff] at h
    obtain ⟨l, h1, h⟩ := h
    injection h with e1 e2; injection e2 with e2 e3; subst e1 e2 e3
    exact w146 (gunsOf_specB h1)
  · cases h
/-- the guns of a row, some of them -/
theorem guns_part {H : Heap} {m : Nat} {l : List Gun} (h : hget H m = some (.ext (gcs l) 95 7)) {i j c : Nat} (hij : i < j) (hj : j ≤ l.length) (hl : l.length < 2147483648) : GunsAt H (.slice (some ⟨m, i * 7, some 0⟩) (j - i) c) ((l.take j).drop i) := by
  have hlen : ((l.take j).drop i).length = j - i := by rw [List.length_drop, List.length_take]; omega
  refine ⟨⟨m, i * 7, some 0⟩, c, by rw [hlen], rfl, ?_, by omega, by omega⟩
  rw [cellsA_eq, h, hlen]
  have hg := gcs_lenB l
  have h1 : i * 7 + (j - i) * 7 ≤ l.length * 7 := by omega
  have h2 : ((gcs l).drop (i * 7)).take ((j - i) * 7) = gcs ((l.take j).drop i) := by
    have e : l = l.take i ++ ((l.take j).drop i ++ l.drop j) := by
      have e1 : l.take i = (l.take j).take i := by rw [List.take_take, Nat.min_eq_left (by omega)]
      rw [← List.append_assoc, e1, List.take_append_drop, List.take_append_drop]
    have hlen2 : (gcs (l.take i)).length = i * 7 := by rw [gcs_lenB, List.length_take]; congr 1; omega
    conv => lhs; rw [e, gcs_appendB, gcs_appendB]
    rw [List.drop_left' hlen2]
    exact List.take_left' (by rw [gcs_lenB, hlen])
  simp [cellsB, h1, h2]
end Go.Proofs.YtndlfijfjglkdaaGreatDoor

namespace Go.Proofs.YtndlfijfjglkdaaGreatDoor
open Go Go.Ab Go.Proofs Go.Soft
def volAt (l : List Gun) (j : Nat) : Int := match l[j]? with
  | some g => g.v
  | none => 0
theorem app45 {H : Heap} {o k m : Nat} {cs : List Value} {x : Int} (hk : cellsA H k 0 1 = some [iv x]) (ho : cs ≠ [] → hget H o = some (.ext cs 3 1)) (hl : cs.length < 2147483648) :
    builtinA Tryz.prog .append #[45, 45] H m [outC o cs, .slice (some ⟨k, 0, none⟩) 1 1] = some (outC m (cs ++ [iv x]), (m, .ext (cs ++ [iv x]) 3 1) :: (if cs = [] then H else hdel H o), m + 1) := by
  have hne : cs ++ [iv x] ≠ [] := by simp
  have hsm : (cs.length + 1) * 8 ≤ 1099511627776 ∧ cs.length + 1 ≤ 1099511627776 := by omega
  rw [outC_ne hne]
  by_cases h : cs = []
  · subst h
    simp [-cellsA, hk]
  · rw [outC_ne h, if_neg h]
    simp [-cellsA, hk, ho h, hsm]
/-- a list on its way, beside a box -/
structure OI (n : Nat) (H : Heap) (v : Value) (cs : List Value) (Hx : Heap) (N o : Nat) : Prop where
  box : hget Hx n = some (.cells [v] 24)
  out : cs ≠ [] → hget Hx o = some (.ext cs 3 1) ∧ n < o ∧ o < N
  sub : Sub (tidy n H) Hx
  nm : namesOk N Hx = true
  big : n < N
  low : n ≤ o
theorem OI.more {n N o : Nat} {H Hx : Heap} {v : Value} {cs : List Value} (h : OI n H v cs Hx N o) (hl : cs.length < 2147483648) (x : Int) :
    ∃ Hz, builtinA Tryz.prog .append #[45, 45] ((N, .cells [iv x] 3) :: Hx) (N + 1) [outC o cs, .slice (some ⟨N, 0, none⟩) 1 1] = some (outC (N + 1) (cs ++ [iv x]), Hz, N + 1 + 1) ∧ OI n H v (cs ++ [iv x]) Hz (N + 1 + 1) (N + 1) := by
  have hb := h.big
  have ho : cs ≠ [] → hget ((N, Blk.cells [iv x] 3) :: Hx) o = some (.ext cs 3 1) := fun hne => by
    obtain ⟨h1, h2, h3⟩ := h.out hne
    rw [hget_cons, if_neg (by omega), h1]
  have happ := app45 (m := N + 1) (x := x) (k := N) (by rw [cellsA_eq, hget_cons, if_pos rfl]; rfl) ho hl
  obtain ⟨Hd, hHd⟩ : ∃ Hd, (if cs = [] then (N, Blk.cells [iv x] 3) :: Hx else hdel ((N, .cells [iv x] 3) :: Hx) o) = Hd := ⟨_, rfl⟩
  rw [hHd] at happ
  have hg : ∀ k, k ≤ n → hget Hd k = hget Hx k := fun k hk => by
    rw [← hHd]
    split
    · rw [hget_cons, if_neg (by omega)]
    · rename_i hne
      have := (h.out hne).2.1
      rw [hget_hdel, if_neg (by omega), hget_cons, if_neg (by omega)]
  have hn1 : namesOk (N + 1) ((N, Blk.cells [iv x] 3) :: Hx) = true := namesOk_put (by omega) (namesOk_mono (by omega) _ h.nm)
  have hn2 : namesOk (N + 1) Hd = true := by
    rw [← hHd]
    split
    · exact hn1
    · exact namesOk_hdel hn1
  refine ⟨_, happ, ⟨?_, fun _ => ⟨by rw [hget_cons, if_pos rfl], by omega, by omega⟩, fun k b hk => ?_, namesOk_put (by omega) (namesOk_mono (by omega) _ hn2), by omega, by omega⟩⟩
  · rw [hget_cons, if_neg (by omega), hg n (Nat.le_refl _)]; exact h.box
  · have := tidy_lt k b hk
    rw [hget_cons, if_neg (by omega), hg k (by omega)]
    exact h.sub k b hk
end Go.Proofs.YtndlfijfjglkdaaGreatDoor

namespace Go.Proofs.YtndlfijfjglkdaaGreatDoor
open Go Go.Ab Go.Proofs Go.Soft
end Go.Proofs.YtndlfijfjglkdaaGreatDoor

namespace Go.Proofs.YtndlfijfjglkdaaGreatDoor
open Go Go.Ab Go.Proofs Go.Soft
def enS : En ByteArray decS where
  to := fun s => sv s
  ren := fun _ _ => rfl
  sc := fun _ _ => trivial
  one := fun _ _ => rfl
abbrev kS : RowK ByteArray decS := kCp enS 9
theorem strV_src {H : Heap} {v : Value} {l : List ByteArray} (h : Ab.strV H v = some l) (hne : l.length ≠ 0) : ∃ a c, v = .slice (some a) l.length c ∧ flat a = true ∧ cellsA H a.block a.off l.length = some (l.map enS.to) := by
  obtain ⟨oa, c, e, hlt, _, hrow⟩ := strV_form h
  obtain ⟨a, rfl, hf, _⟩ := hrow 0 (by omega)
  refine ⟨a, c, e, hf, ?_⟩
  subst e
  unfold Ab.strV listV at h
  simp only [if_pos hlt, if_neg hne, hf, if_true, Nat.mul_one] at h
  obtain ⟨cs, hc, hm⟩ := Option.bind_eq_some_iff.1 h
  rw [hc]
  have hl := mapO_get hm
  have hcl : cs.length = l.length := by
    have := hl.1
    rw [chunks_len] at this
    have := cellsA_cell hc (i := 0) (by omega)
    exact this.2
  congr 1
  apply List.ext_getElem?
  intro i
  by_cases hi : i < l.length
  · obtain ⟨a', e', _, hci⟩ := hrow i hi
    injection e' with e'
    subst e'
    have := (cellsA_cell hc (i := i) hi).1
    rw [← this, hci, List.getElem?_map, List.getElem?_eq_getElem hi]
    rfl
  · rw [List.getElem?_eq_none (by omega), List.getElem?_eq_none (by simp; omega)]
theorem oneL_svs : ∀ l : List ByteArray, oneL (l.map enS.to) = true
  | [] => rfl
  | x :: l => by
    have := oneL_svs l
    show oneL (sv x :: l.map enS.to) = true
    simp [oneL, this]
theorem app_words {H : Heap} {n m : Nat} {l : List ByteArray} {v : Value} (h : Ab.strV H v = some l) (hne : l.length ≠ 0) (h0 : cellsA H n 0 0 = some []) :
    builtinA Tryz.prog .append #[102, 102] H m [.slice (some ⟨n, 0, none⟩) 0 0, v] = some (.slice (some ⟨m, 0, some 0⟩) l.length 0, (m, .ext (l.map enS.to) 9 1) :: H, m + 1) := by
  have hlt : l.length < 2147483648 := by
    obtain ⟨_, _, _, hlt, _⟩ := strV_form h
    exact hlt
  obtain ⟨a, c, rfl, hf, hc⟩ := strV_src h hne
  have hsm : l.length * 16 ≤ 1099511627776 ∧ l.length ≤ 1099511627776 := by omega
  simp [-cellsA, -flat, hf, hc, hne, hsm, h0, oneL_svs]
end Go.Proofs.YtndlfijfjglkdaaGreatDoor

namespace Go.Proofs.YtndlfijfjglkdaaGreatDoor
open Go Go.Ab Go.Proofs Go.Soft
set_option maxRecDepth 20000 in
theorem w94 {H : Heap} {n : Nat} {v : Value} {l : List ByteArray} (hl : Ab.strV H v = some l) : AC Tryz.prog 94 [v] H n (kS.val n l) ([(n, kS.blk l)] ++ H) (n + 1) := by
  refine AC.given fun hold hsc hgn => AC.tidied (fun x hx => ?_) ?_
  · rw [List.mem_singleton] at hx; subst hx; exact Nat.le_refl _
  replace hl : Ab.strV (tidy n H) v = some l := listV_tidy decS_tidy (fun k b h => (hold k b h).1) hl
  have hr := recT_ok (P := Tryz.prog) (l := []) (by simp)
  have hS : Sub (tidy n H) ((n, .cells [] 9) :: tidy n H) := Sub.cons (by simp) (Sub.refl _)
  have hl' := listV_mono decS_mono hS hl
  refine AC.fresh Tryz.func94 rfl (by kernel_rfl) rfl [0, 2] (by omega) (kS.sc _ _ _ (by omega)) (fun ρ => by rw [kS.ren]; simp only [kS, kCp]; split <;> rfl) ?_
  refine E.seq ?_
  refine E.reg hr (by simp; rfl) ?_
  by_cases hne : l.length = 0
  · obtain rfl := List.length_eq_zero_iff.1 hne
    obtain ⟨oa, c, rfl, _, _, _⟩ := strV_form hl
    have hfin : Fresh n (n + 1) (tidy n H) (kS.val n []) [(n, kS.blk [])] (.slice (some ⟨n, 0, none⟩) 0 0) ((n, .cells [] 9) :: tidy n H) := by
      refine ⟨id, fun _ _ => rfl, rfl, fun k b hk => ?_, fun j b k c hj hk e => e, hS⟩
      rw [hget_cons] at hk
      split at hk
      · rename_i e; subst e; injection hk with hk; subst hk
        refine ⟨Nat.le_refl _, Nat.lt_succ_self _, Nat.le_refl _, ?_, kS.scB _ _, kS.car _, kS.own _⟩
        rw [kS.fix, id, hget_cons, if_pos rfl]
        rfl
      · cases hk
    cases oa with
    | none =>
      refine E.seq ?_
      refine E.reg hr (by simp; rfl) ?_
      refine E.ret ?_
      exact outK.ret rfl rfl hfin
    | some a =>
      refine E.seq ?_
      refine E.reg hr (by simp; rfl) ?_
      refine E.ret ?_
      exact outK.ret rfl rfl hfin
  · have hnn : ¬ l = [] := fun e => hne (by rw [e]; rfl)
    have happ := app_words (n := n) (m := n + 1) hl' hne (by rw [cellsA_eq, hget_cons, if_pos rfl]; rfl)
    refine E.seq ?_
    refine E.reg hr (by simp [-builtinA, happ]; rfl) ?_
    refine E.ret ?_
    refine outK.ret rfl rfl ⟨fun k => if k = n then n + 1 else k, fun k hk => if_neg (by omega), ?_, fun k b hk => ?_, fun j b k c hj hk _ => ?_, hS.trans (Sub.cons (by simp) (Sub.refl _))⟩
    · rw [kS.ren]
      simp [kS, kCp, hnn]
    · rw [hget_cons] at hk
      split at hk
      · rename_i e; subst e; injection hk with hk; subst hk
        refine ⟨Nat.le_refl _, Nat.lt_succ_self _, by simp, ?_, kS.scB _ _, kS.car _, kS.own _⟩
        rw [kS.fix]
        simp [kS, kCp, hnn]
      · cases hk
    · rw [hget_cons] at hj hk
      split at hj
      · split at hk
        · omega
        · cases hk
      · cases hj
def g94 (args : List Value) (H : Heap) (n : Nat) : R := match args with
  | [v] => (Ab.strV H v).map fun l => (kS.val n l, (n, kS.blk l) :: H, n + 1)
  | _ => none
theorem ok94 : EntOk Tryz.prog (94, g94) := by
  intro args H n v H' n' h
  simp only [g94] at h
  split at h
  · rw [Option.map_eq_some_iff] at h
    obtain ⟨ls, h1, h⟩ := h
    injection h with e1 e2; injection e2 with e2 e3; subst e1 e2 e3
    exact w94 h1
  · cases h
end Go.Proofs.YtndlfijfjglkdaaGreatDoor

namespace Go.Proofs.YtndlfijfjglkdaaGreatDoor
open Go Go.Ab Go.Proofs Go.Soft
end Go.Proofs.YtndlfijfjglkdaaGreatDoor

namespace Go.Proofs.YtndlfijfjglkdaaGreatDoor
open Go Go.Ab Go.Proofs Go.Soft
theorem app_nil122 {H : Heap} {k m : Nat} {x : Value} (hk : cellsA H k 0 1 = some [x]) (h1 : oneL [x] = true) : builtinA Tryz.prog .append #[122, 122] H m [.slice none 0 0, .slice (some ⟨k, 0, none⟩) 1 1] = some (.slice (some ⟨m, 0, some 0⟩) 1 0, (m, .ext [x] 102 1) :: H, m + 1) := by
  simp [-cellsA, inf102, hk, h1]
theorem app_ext122 {H : Heap} {o k m : Nat} {cs : List Value} {x : Value} (hk : cellsA H k 0 1 = some [x]) (h1 : oneL [x] = true) (ho : hget H o = some (.ext cs 102 1)) (hl : cs.length < 2147483648) :
    builtinA Tryz.prog .append #[122, 122] H m [.slice (some ⟨o, 0, some 0⟩) cs.length 0, .slice (some ⟨k, 0, none⟩) 1 1] = some (.slice (some ⟨m, 0, some 0⟩) (cs.length + 1) 0, (m, .ext (cs ++ [x]) 102 1) :: hdel H o, m + 1) := by
  have hsm : (cs.length + 1) * 24 ≤ 1099511627776 ∧ cs.length + 1 ≤ 1099511627776 := by omega
  simp [-cellsA, inf102, hk, h1, ho, hsm]
def nm3 (n i : Nat) : List Nat := (List.range i).map fun j => n + 3 * j
theorem nm3_len (n i : Nat) : (nm3 n i).length = i := by simp [nm3]
theorem nm3_succ (n i : Nat) : nm3 n (i + 1) = nm3 n i ++ [n + 3 * i] := by simp [nm3, List.range_succ]
theorem nm3_at {n i j m : Nat} (h : (nm3 n i)[j]? = some m) : m = n + 3 * j ∧ j < i := by
  have hj : j < (nm3 n i).length := (List.getElem?_eq_some_iff.1 h).1
  rw [nm3_len] at hj
  unfold nm3 at h
  rw [List.getElem?_map, List.getElem?_range hj] at h
  simp at h
  omega
theorem nm3_mem {n i m : Nat} (h : m ∈ nm3 n i) : ∃ j, j < i ∧ m = n + 3 * j := by
  obtain ⟨j, hj, e⟩ := List.mem_map.1 h
  exact ⟨j, List.mem_range.1 hj, e.symm⟩
theorem nm3_nodup (n i : Nat) : (nm3 n i).Nodup := by
  rw [List.nodup_iff_pairwise_ne]
  unfold nm3
  rw [List.pairwise_map]
  exact List.Pairwise.imp (fun h e => by omega) (List.pairwise_lt_range (n := i))
theorem kS_form (m : Nat) (l : List ByteArray) : ∃ s, kS.val m l = .slice (some ⟨m, 0, s⟩) l.length 0 := by
  by_cases h : l = []
  · exact ⟨none, by simp [kS, kCp, h]⟩
  · exact ⟨some 0, by simp [kS, kCp, h]⟩
structure LI (n : Nat) (H : Heap) (p : List (List ByteArray)) (i : Nat) (Hx : Heap) : Prop where
  row : ∀ j l, j < i → p[j]? = some l → hget Hx (n + 3 * j) = some (kS.blk l)
  out : 0 < i → hget Hx (n + 3 * i - 1) = some (.ext (kvs kS (nm3 n i) (p.take i)) 102 1)
  sub : Sub (tidy n H) Hx
  new : ∀ j, n + 3 * i ≤ j → hget Hx j = none
def lsV (n i : Nat) : Value := if i = 0 then .slice none 0 0 else .slice (some ⟨n + 3 * i - 1, 0, some 0⟩) i 0
theorem kvs_take_len {K : RowK ByteArray decS} {n i : Nat} {p : List (List ByteArray)} (hi : i ≤ p.length) : (kvs K (nm3 n i) (p.take i)).length = i := by
  rw [kvs_len _ _ _ (by rw [nm3_len, List.length_take]; omega), List.length_take]; omega
theorem LI.more {n i : Nat} {H Hx : Heap} {p : List (List ByteArray)} {s : Option Nat} (h : LI n H p i Hx) (hi : i < p.length) (hl : p.length < 2147483648) (hs : kS.val (n + 3 * i) p[i] = .slice (some ⟨n + 3 * i, 0, s⟩) p[i].length 0) :
    ∃ Hz, builtinA Tryz.prog .append #[122, 122] ((n + 3 * i + 1, .cells [.slice (some ⟨n + 3 * i, 0, s⟩) p[i].length 0] 102) :: (n + 3 * i, kS.blk p[i]) :: Hx) (n + 3 * i + 1 + 1) [lsV n i, .slice (some ⟨n + 3 * i + 1, 0, none⟩) 1 1] = some (lsV n (i + 1), Hz, n + 3 * i + 1 + 1 + 1) ∧ LI n H p (i + 1) Hz := by
  obtain ⟨q, hq⟩ : ∃ q, n + 3 * i = q := ⟨_, rfl⟩
  rw [hq] at hs ⊢
  have hk : cellsA ((q + 1, .cells [.slice (some ⟨q, 0, s⟩) p[i].length 0] 102) :: (q, kS.blk p[i]) :: Hx) (q + 1) 0 1 = some [.slice (some ⟨q, 0, s⟩) p[i].length 0] := by
    rw [cellsA_eq, hget_cons, if_pos rfl]; rfl
  have hts : p.take (i + 1) = p.take i ++ [p[i]] := List.take_succ_eq_append_getElem hi
  have hkv : kvs kS (nm3 n (i + 1)) (p.take (i + 1)) = kvs kS (nm3 n i) (p.take i) ++ [.slice (some ⟨q, 0, s⟩) p[i].length 0] := by
    rw [hts, nm3_succ, kvs_snoc _ _ _ (by rw [nm3_len, List.length_take]; omega), hq, hs]
  have hlv : lsV n (i + 1) = .slice (some ⟨q + 1 + 1, 0, some 0⟩) (i + 1) 0 := by
    unfold lsV
    rw [if_neg (by omega), show n + 3 * (i + 1) - 1 = q + 1 + 1 by omega]
  rw [hlv]
  by_cases h0 : i = 0
  · subst h0
    refine ⟨_, app_nil122 hk rfl, ⟨fun j l hj hl => ?_, fun _ => ?_, ?_, fun j hj => ?_⟩⟩
    · obtain rfl : j = 0 := by omega
      rw [List.getElem?_eq_getElem hi] at hl
      injection hl with hl
      rw [hget_cons, if_neg (by omega), hget_cons, if_neg (by omega), hget_cons, if_pos (by omega), hl]
    · rw [hget_cons, if_pos (by omega), hkv]; rfl
    · refine Sub.trans h.sub (Sub.cons ?_ (Sub.cons ?_ (Sub.cons ?_ (Sub.refl _))))
      · exact h.new _ (by omega)
      · exact h.new _ (by omega)
      · exact h.new _ (by omega)
    · rw [hget_cons, if_neg (by omega), hget_cons, if_neg (by omega), hget_cons, if_neg (by omega)]
      exact h.new j (by omega)
  · have hout := h.out (by omega)
    obtain ⟨o, ho⟩ : ∃ o, n + 3 * i - 1 = o := ⟨_, rfl⟩
    rw [ho] at hout
    have hlv0 : lsV n i = .slice (some ⟨o, 0, some 0⟩) (kvs kS (nm3 n i) (p.take i)).length 0 := by
      unfold lsV
      rw [if_neg h0, ho, kvs_take_len (by omega)]
    have hox : hget ((q + 1, Blk.cells [.slice (some ⟨q, 0, s⟩) p[i].length 0] 102) :: (q, kS.blk p[i]) :: Hx) o = some (.ext (kvs kS (nm3 n i) (p.take i)) 102 1) := by
      rw [hget_cons, if_neg (by omega), hget_cons, if_neg (by omega), hout]
    have happ := app_ext122 (m := q + 1 + 1) hk rfl hox (by rw [kvs_take_len (by omega)]; omega)
    rw [← hlv0, kvs_take_len (by omega)] at happ
    refine ⟨_, happ, ⟨fun j l hj hl => ?_, fun _ => ?_, ?_, fun j hj => ?_⟩⟩
    · by_cases e : j = i
      · subst e
        rw [List.getElem?_eq_getElem hi] at hl
        injection hl with hl
        rw [hget_cons, if_neg (by omega), hget_hdel, if_neg (by omega), hget_cons, if_neg (by omega), hget_cons, if_pos (by omega), hl]
      · rw [hget_cons, if_neg (by omega), hget_hdel, if_neg (by omega), hget_cons, if_neg (by omega), hget_cons, if_neg (by omega)]
        exact h.row j l (by omega) hl
    · rw [hget_cons, if_pos (by omega), hkv]
    · intro k b hk
      have := tidy_lt k b hk
      rw [hget_cons, if_neg (by omega), hget_hdel, if_neg (by omega), hget_cons, if_neg (by omega), hget_cons, if_neg (by omega)]
      exact h.sub k b hk
    · rw [hget_cons, if_neg (by omega), hget_hdel, if_neg (by omega), hget_cons, if_neg (by omega), hget_cons, if_neg (by omega)]
      exact h.new j (by omega)
def lisV (n : Nat) (p : List (List ByteArray)) : Value := if p = [] then .slice none 0 0 else ndV (oEx 102) n p
def lisB (n : Nat) (p : List (List ByteArray)) : Heap := if p = [] then [] else ndB kS (oEx 102) n p
def lisN (n : Nat) (p : List (List ByteArray)) : Nat := if p = [] then n else n + 1 + p.length
set_option maxRecDepth 20000 in
theorem w74 {H : Heap} {n : Nat} {v : Value} {p : List (List ByteArray)} (hP : nestS H v = some p) : AC Tryz.prog 74 [v] H n (lisV n p) (lisB n p ++ H) (lisN n p) := by
  refine AC.given fun hold hsc hgn => AC.tidied (fun x hx => ?_) ?_
  · unfold lisB at hx
    split at hx
    · cases hx
    · exact (ndB_names x hx).1
  replace hP := listV_tidy (decL_tidy decS_tidy) (fun k b h => (hold k b h).1) hP
  replace hold := tidy_old hold
  have hr := recT_ok (P := Tryz.prog) (l := [(94, g94)]) (by simp [ok94])
  obtain ⟨oa, c, rfl, hlt, _, hrow⟩ := nestS_form hP
  by_cases h0 : p = []
  · subst h0
    refine AC.pure Tryz.func74 rfl (by kernel_rfl) rfl [0, 2, 3, 5, 6, 7, 8, 9] rfl ?_
    refine E.seq ?_
    refine E.reg hr (by simp; rfl) ?_
    refine E.seq ?_
    refine E.reg hr (by simp; rfl) ?_
    refine E.seq ?_
    refine E.seq ?_
    refine E.reg hr (by simp; rfl) ?_
    refine E.block ?_
    refine E.loop ?_
    refine EL.ind (fun x : Nat => { fr := [(3, .slice none 0 0), (7, iv 0), (8, iv 0)], sz := 19, H := tidy n H, n := n, marks := [], vs := [0, 2, 3, 5, 6, 7, 8, 9] }) (fun x => 0 - x) (fun x => True) 0 (.keep rfl rfl rfl (by simp) (Sub.refl _)) trivial (fun _ => rfl) ?_
    rintro i -
    refine E.seq ?_
    refine E.reg hr (by simp; rfl) ?_
    refine E.seq ?_
    refine E.cond (t := false) (by simp) (fun h => by cases h) (fun _ => ?_)
    refine E.exit ?_
    refine E.seq ?_
    refine E.reg hr (by simp; rfl) ?_
    refine E.ret ?_
    exact pureK.ret rfl rfl (by simp [lisV]) (Sub.refl _)
  have hpos : 0 < p.length := List.length_pos_iff.2 h0
  rw [show lisV n p = ndV (oEx 102) n p from if_neg h0, show lisB n p = ndB kS (oEx 102) n p from if_neg h0, show lisN n p = n + 1 + p.length from if_neg h0]
  refine AC.fresh Tryz.func74 rfl (by kernel_rfl) rfl [0, 2, 3, 5, 6, 7, 8, 9] (by omega) ((oEx 102).sc _ _ _ (by omega)) (fun ρ => by rw [ndV, (oEx 102).ren]; exact (oEx 102).af _ _) ?_
  refine E.seq ?_
  refine E.reg hr (by simp; rfl) ?_
  refine E.seq ?_
  refine E.reg hr (by simp; rfl) ?_
  refine E.seq ?_
  refine E.seq ?_
  refine E.reg hr (by simp; rfl) ?_
  refine E.block ?_
  refine E.loop ?_
  refine EL.ind (fun x : Nat × Heap => { fr := [(3, lsV n x.1), (6, .slice oa p.length c), (7, iv p.length), (8, iv x.1)], sz := 19, H := x.2, n := n + 3 * x.1, marks := [], vs := [0, 2, 3, 5, 6, 7, 8, 9] }) (fun x => p.length - x.1) (fun x => x.1 ≤ p.length ∧ LI n H p x.1 x.2) (0, tidy n H) (.keep rfl rfl rfl (by simp [lsV]) (Sub.refl _)) ⟨Nat.zero_le _, ⟨fun j l hj => by omega, fun h => by omega, Sub.refl _, fun j hj => ?_⟩⟩ (fun _ => rfl) ?_
  · have := (no_new (tidy_lt (n := n) (H := H))).2 (j - n)
    rwa [show n + (j - n) = j by omega] at this
  rintro ⟨i, Hx⟩ ⟨hi, hI⟩
  dsimp only at hi hI ⊢
  have hw : IntKind.i64.wrap ((i : Int) + 1) = (i : Int) + 1 := W_in (by omega) (by omega)
  refine E.seq ?_
  refine E.reg hr (by simp; rfl) ?_
  refine E.seq ?_
  by_cases hil : i < p.length
  · obtain ⟨a, r, rfl, hf, hc, hv⟩ := hrow i hil
    have hc2 := hI.sub.cell hc
    have hv2 := listV_mono decS_mono hI.sub hv
    obtain ⟨s, hs⟩ := kS_form (n + 3 * i) p[i]
    obtain ⟨Hz, happ, hIz⟩ := hI.more hil hlt hs
    obtain ⟨q, hq⟩ : ∃ q, n + 3 * i = q := ⟨_, rfl⟩
    rw [hq] at happ hs ⊢
    have hg94 : g94 [r] Hx q = some (.slice (some ⟨q, 0, s⟩) p[i].length 0, (q, kS.blk p[i]) :: Hx, q + 1) := by
      simp only [g94]
      rw [show Ab.strV Hx r = some p[i] from hv2, Option.map_some, hs]
    obtain ⟨lv, hlv⟩ : ∃ lv, lsV n i = lv := ⟨_, rfl⟩
    rw [hlv] at happ ⊢
    refine E.cond (t := true) (by simp [hil]) (fun _ => ?_) (fun h => by cases h)
    refine E.skip ?_
    refine E.seq ?_
    refine E.block ?_
    refine E.seq ?_
    refine E.reg hr (by simp [-cellA, -flat, hil, hf, hc2]; rfl) ?_
    refine E.reg hr (by simp [-builtinA, hg94, happ]; rfl) ?_
    refine E.reg hr (by simp [hw]; rfl) ?_
    exact ⟨(i + 1, Hz), .keep (by dsimp only; omega) rfl rfl (by simp) (Sub.refl _), ⟨hil, hIz⟩, by dsimp only; omega⟩
  · obtain rfl : i = p.length := by omega
    refine E.cond (t := false) (by simp) (fun h => by cases h) (fun _ => ?_)
    refine E.exit ?_
    refine E.seq ?_
    refine E.reg hr (by simp; rfl) ?_
    refine E.ret ?_
    refine outK.ret rfl rfl ?_
    refine outK_nd (o := n + 3 * p.length - 1) (ms := nm3 n p.length) ?_ (nm3_len _ _) (by omega) (fun m hm => ?_) (nm3_nodup _ _) ?_ (fun i m l h1 h2 => ?_) hI.sub
    · unfold lsV
      rw [if_neg (by omega)]
      rfl
    · obtain ⟨j, hj, rfl⟩ := nm3_mem hm
      omega
    · have := hI.out hpos
      rwa [List.take_length] at this
    · obtain ⟨rfl, hi⟩ := nm3_at h1
      exact hI.row i l hi h2
def g74 (args : List Value) (H : Heap) (n : Nat) : R := match args with
  | [v] => (nestS H v).map fun p => (lisV n p, lisB n p ++ H, lisN n p)
  | _ => none
theorem ok74 : EntOk Tryz.prog (74, g74) := by
  intro args H n v H' n' h
  simp only [g74] at h
  split at h
  · rw [Option.map_eq_some_iff] at h
    obtain ⟨ls, h1, h⟩ := h
    injection h with e1 e2; injection e2 with e2 e3; subst e1 e2 e3
    exact w74 h1
  · cases h
end Go.Proofs.YtndlfijfjglkdaaGreatDoor
