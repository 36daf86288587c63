/-
The program's check of potentials, walked: the bound that potentials prove, or the first error.
-/
import Derived.Test.YtkongcnmkiihjaaGreatDoorZb
namespace Go.Proofs.YtkongcnmkiihjaaGreatDoor
open Go Go.Ab Go.Proofs
@[simp] theorem sne2 {n : Nat} : (n + 1 + 1 = n) = False := eq_false (by omega)
@[simp] theorem slt2 {n : Nat} : (n < n + 1 + 1) = True := eq_true (by omega)
@[simp] theorem sle2 {n : Nat} : (n ≤ n + 1 + 1) = True := eq_true (by omega)
@[simp] theorem snm2 {n : Nat} {H : Heap} : namesOk (n + 1 + 1) (tidy n H) = true := namesOk_mono (by omega) _ (namesOk_tidyL _).1
@[simp] theorem stk2 {n : Nat} {H : Heap} : takeNew (n + 1 + 1) (frzH (tidy n H)) = [] := takeNew_frz (namesOk_mono (by omega) _ (namesOk_tidyL _).1)
@[simp] theorem stn2 {n : Nat} {H : Heap} : hget (tidy n H) (n + 1 + 1) = none := (no_new tidy_lt).2 2
@[simp] theorem sne3 {n : Nat} : (n + 1 + 1 + 1 = n) = False := eq_false (by omega)
@[simp] theorem slt3 {n : Nat} : (n < n + 1 + 1 + 1) = True := eq_true (by omega)
@[simp] theorem sle3 {n : Nat} : (n ≤ n + 1 + 1 + 1) = True := eq_true (by omega)
@[simp] theorem snm3 {n : Nat} {H : Heap} : namesOk (n + 1 + 1 + 1) (tidy n H) = true := namesOk_mono (by omega) _ (namesOk_tidyL _).1
@[simp] theorem stk3 {n : Nat} {H : Heap} : takeNew (n + 1 + 1 + 1) (frzH (tidy n H)) = [] := takeNew_frz (namesOk_mono (by omega) _ (namesOk_tidyL _).1)
@[simp] theorem stn3 {n : Nat} {H : Heap} : hget (tidy n H) (n + 1 + 1 + 1) = none := (no_new tidy_lt).2 3
@[simp] theorem sne4 {n : Nat} : (n + 1 + 1 + 1 + 1 = n) = False := eq_false (by omega)
@[simp] theorem slt4 {n : Nat} : (n < n + 1 + 1 + 1 + 1) = True := eq_true (by omega)
@[simp] theorem sle4 {n : Nat} : (n ≤ n + 1 + 1 + 1 + 1) = True := eq_true (by omega)
@[simp] theorem snm4 {n : Nat} {H : Heap} : namesOk (n + 1 + 1 + 1 + 1) (tidy n H) = true := namesOk_mono (by omega) _ (namesOk_tidyL _).1
@[simp] theorem stk4 {n : Nat} {H : Heap} : takeNew (n + 1 + 1 + 1 + 1) (frzH (tidy n H)) = [] := takeNew_frz (namesOk_mono (by omega) _ (namesOk_tidyL _).1)
@[simp] theorem stn4 {n : Nat} {H : Heap} : hget (tidy n H) (n + 1 + 1 + 1 + 1) = none := (no_new tidy_lt).2 4
@[simp] theorem sne5 {n : Nat} : (n + 1 + 1 + 1 + 1 + 1 = n) = False := eq_false (by omega)
@[simp] theorem slt5 {n : Nat} : (n < n + 1 + 1 + 1 + 1 + 1) = True := eq_true (by omega)
@[simp] theorem sle5 {n : Nat} : (n ≤ n + 1 + 1 + 1 + 1 + 1) = True := eq_true (by omega)
@[simp] theorem snm5 {n : Nat} {H : Heap} : namesOk (n + 1 + 1 + 1 + 1 + 1) (tidy n H) = true := namesOk_mono (by omega) _ (namesOk_tidyL _).1
@[simp] theorem stk5 {n : Nat} {H : Heap} : takeNew (n + 1 + 1 + 1 + 1 + 1) (frzH (tidy n H)) = [] := takeNew_frz (namesOk_mono (by omega) _ (namesOk_tidyL _).1)
@[simp] theorem stn5 {n : Nat} {H : Heap} : hget (tidy n H) (n + 1 + 1 + 1 + 1 + 1) = none := (no_new tidy_lt).2 5
@[simp] theorem sne6 {n : Nat} : (n + 1 + 1 + 1 + 1 + 1 + 1 = n) = False := eq_false (by omega)
@[simp] theorem slt6 {n : Nat} : (n < n + 1 + 1 + 1 + 1 + 1 + 1) = True := eq_true (by omega)
@[simp] theorem sle6 {n : Nat} : (n ≤ n + 1 + 1 + 1 + 1 + 1 + 1) = True := eq_true (by omega)
@[simp] theorem snm6 {n : Nat} {H : Heap} : namesOk (n + 1 + 1 + 1 + 1 + 1 + 1) (tidy n H) = true := namesOk_mono (by omega) _ (namesOk_tidyL _).1
@[simp] theorem stk6 {n : Nat} {H : Heap} : takeNew (n + 1 + 1 + 1 + 1 + 1 + 1) (frzH (tidy n H)) = [] := takeNew_frz (namesOk_mono (by omega) _ (namesOk_tidyL _).1)
@[simp] theorem stn6 {n : Nat} {H : Heap} : hget (tidy n H) (n + 1 + 1 + 1 + 1 + 1 + 1) = none := (no_new tidy_lt).2 6
@[simp] theorem sne7 {n : Nat} : (n + 1 + 1 + 1 + 1 + 1 + 1 + 1 = n) = False := eq_false (by omega)
@[simp] theorem slt7 {n : Nat} : (n < n + 1 + 1 + 1 + 1 + 1 + 1 + 1) = True := eq_true (by omega)
@[simp] theorem sle7 {n : Nat} : (n ≤ n + 1 + 1 + 1 + 1 + 1 + 1 + 1) = True := eq_true (by omega)
@[simp] theorem snm7 {n : Nat} {H : Heap} : namesOk (n + 1 + 1 + 1 + 1 + 1 + 1 + 1) (tidy n H) = true := namesOk_mono (by omega) _ (namesOk_tidyL _).1
@[simp] theorem stk7 {n : Nat} {H : Heap} : takeNew (n + 1 + 1 + 1 + 1 + 1 + 1 + 1) (frzH (tidy n H)) = [] := takeNew_frz (namesOk_mono (by omega) _ (namesOk_tidyL _).1)
@[simp] theorem stn7 {n : Nat} {H : Heap} : hget (tidy n H) (n + 1 + 1 + 1 + 1 + 1 + 1 + 1) = none := (no_new tidy_lt).2 7
@[simp] theorem sne8 {n : Nat} : (n + 1 + 1 + 1 + 1 + 1 + 1 + 1 + 1 = n) = False := eq_false (by omega)
@[simp] theorem slt8 {n : Nat} : (n < n + 1 + 1 + 1 + 1 + 1 + 1 + 1 + 1) = True := eq_true (by omega)
@[simp] theorem sle8 {n : Nat} : (n ≤ n + 1 + 1 + 1 + 1 + 1 + 1 + 1 + 1) = True := eq_true (by omega)
@[simp] theorem snm8 {n : Nat} {H : Heap} : namesOk (n + 1 + 1 + 1 + 1 + 1 + 1 + 1 + 1) (tidy n H) = true := namesOk_mono (by omega) _ (namesOk_tidyL _).1
@[simp] theorem stk8 {n : Nat} {H : Heap} : takeNew (n + 1 + 1 + 1 + 1 + 1 + 1 + 1 + 1) (frzH (tidy n H)) = [] := takeNew_frz (namesOk_mono (by omega) _ (namesOk_tidyL _).1)
@[simp] theorem stn8 {n : Nat} {H : Heap} : hget (tidy n H) (n + 1 + 1 + 1 + 1 + 1 + 1 + 1 + 1) = none := (no_new tidy_lt).2 8
@[simp] theorem sne9 {n : Nat} : (n + 1 + 1 + 1 + 1 + 1 + 1 + 1 + 1 + 1 = n) = False := eq_false (by omega)
@[simp] theorem slt9 {n : Nat} : (n < n + 1 + 1 + 1 + 1 + 1 + 1 + 1 + 1 + 1) = True := eq_true (by omega)
@[simp] theorem sle9 {n : Nat} : (n ≤ n + 1 + 1 + 1 + 1 + 1 + 1 + 1 + 1 + 1) = True := eq_true (by omega)
@[simp] theorem snm9 {n : Nat} {H : Heap} : namesOk (n + 1 + 1 + 1 + 1 + 1 + 1 + 1 + 1 + 1) (tidy n H) = true := namesOk_mono (by omega) _ (namesOk_tidyL _).1
@[simp] theorem stk9 {n : Nat} {H : Heap} : takeNew (n + 1 + 1 + 1 + 1 + 1 + 1 + 1 + 1 + 1) (frzH (tidy n H)) = [] := takeNew_frz (namesOk_mono (by omega) _ (namesOk_tidyL _).1)
@[simp] theorem stn9 {n : Nat} {H : Heap} : hget (tidy n H) (n + 1 + 1 + 1 + 1 + 1 + 1 + 1 + 1 + 1) = none := (no_new tidy_lt).2 9
/-! ### the bound that potentials prove -/
def at2 (ls : List (List Int)) (t k : Nat) : Int := (ls.getD t []).getD k 0
theorem getD_at {ls : List (List Int)} {t : Nat} (ht : t < ls.length) : ls.getD t [] = ls[t] := by
  rw [List.getD_eq_getElem?_getD, List.getElem?_eq_getElem ht]
  rfl
theorem at2_eq {ls : List (List Int)} {t k : Nat} (ht : t < ls.length) (hk : k < ls[t].length) : at2 ls t k = ls[t][k] := by
  unfold at2
  rw [getD_at ht, List.getD_eq_getElem?_getD, List.getElem?_eq_getElem hk]
  rfl
def badAt (p l : List (List Int)) (up dn : Int) (t k : Nat) : Bool := decide (at2 l t k - at2 p t k < 0) || (decide (t + 1 < l.length) && (alw up dn k 0 (l.getD (t + 1) [])).any fun m => decide (at2 l t k - at2 p t k < m))
def anyBad (p l : List (List Int)) (up dn : Int) : Bool := (List.range l.length).any fun t => (List.range (l.getD t []).length).any fun k => badAt p l up dn t k
def cpE (p l : List (List Int)) (up dn : Int) : Int := firstV [chkE p up dn, whenV (!decide (l.length = p.length)) 2]
def cpR (p l : List (List Int)) (up dn : Int) : Int × Int :=
  if cpE p l up dn = 0 then
    (if (l.any fun x => !decide (x.length = len0 p)) = true then (0, 2)
    else if firstV (l.flatten.map fun x => withinV x 0 999999999) = 0 then (if anyBad p l up dn = true then (0, 19) else (maxV (l.headD []), 0))
    else (0, firstV (l.flatten.map fun x => withinV x 0 999999999)))
  else (0, cpE p l up dn)
abbrev two (a b : Int) : Value := .tuple #[iv a, iv b]
theorem fstV_zero {l : List Int} : firstV l = 0 ↔ ∀ x ∈ l, x = 0 := by
  induction l with
  | nil => simp [firstV]
  | cons a l ih =>
    rw [firstV_cons]
    by_cases h : a = 0
    · rw [if_pos h, ih]
      simp [h]
    · rw [if_neg h]
      simp [h]
theorem within_zero {x lo hi : Int} : withinV x lo hi = 0 ↔ lo ≤ x ∧ x ≤ hi := by
  unfold withinV
  split <;> omega
theorem when_zero {b : Bool} {e : Int} (he : e ≠ 0) : whenV b e = 0 ↔ b = false := by
  cases b <;> simp [whenV, he]
/-- what a valid panel is -/
theorem panE_zero {ls : List (List Int)} (h : panE ls = 0) : 0 < ls.length ∧ ls.length ≤ 64 ∧ 0 < len0 ls ∧ len0 ls ≤ 16 ∧ (∀ l ∈ ls, l.length = len0 ls) ∧ ∀ l ∈ ls, ∀ x ∈ l, 0 ≤ x ∧ x ≤ 1024 := by
  unfold panE at h
  split at h
  · rename_i ht
    have h1 : 0 < ls.length ∧ ls.length ≤ 64 := by
      unfold topE at ht
      rw [fstV_zero] at ht
      have a := (when_zero (by omega)).1 (ht (whenV (decide (ls.length = 0)) 12) (by simp))
      have b := (when_zero (by omega)).1 (ht (whenV (decide (64 < ls.length)) 5) (by simp))
      simp only [decide_eq_false_iff_not] at a b
      omega
    have key : ∀ (k0 : Nat) (xs : List (List Int)), rowsE k0 xs = 0 → ∀ l ∈ xs, (0 < l.length ∧ l.length ≤ 16 ∧ l.length = k0) ∧ ∀ x ∈ l, 0 ≤ x ∧ x ≤ 1024 := by
      intro k0 xs
      induction xs with
      | nil => intro _ l hl; cases hl
      | cons y xs ih =>
        intro hx l hl
        rw [rowsE] at hx
        split at hx
        · rename_i hr
          split at hx
          · rename_i hc
            rcases List.mem_cons.1 hl with rfl | hl
            · unfold rowE at hr
              rw [fstV_zero] at hr
              have a := (when_zero (by omega)).1 (hr (whenV (decide (l.length = 0)) 12) (by simp))
              have b := (when_zero (by omega)).1 (hr (whenV (decide (16 < l.length)) 5) (by simp))
              have c := (when_zero (by omega)).1 (hr (whenV (!decide (l.length = k0)) 2) (by simp))
              simp only [decide_eq_false_iff_not, Bool.not_eq_false', decide_eq_true_eq] at a b c
              refine ⟨by omega, fun x hx => ?_⟩
              unfold cellE at hc
              rw [fstV_zero] at hc
              exact within_zero.1 (hc _ (List.mem_map_of_mem (f := fun x => withinV x 0 1024) hx))
            · exact ih hx l hl
          · rename_i hc; exact absurd hx hc
        · rename_i hr; exact absurd hx hr
    have h2 := key _ _ h
    obtain ⟨x, xs, e⟩ : ∃ x xs, ls = x :: xs := by
      cases ls with
      | nil => simp at h1
      | cons x xs => exact ⟨x, xs, rfl⟩
    have h3 := (h2 x (by rw [e]; exact List.mem_cons_self ..)).1
    exact ⟨h1.1, h1.2, by omega, by omega, fun l hl => (h2 l hl).1.2.2, fun l hl => (h2 l hl).2⟩
  · rename_i ht; exact absurd h ht
theorem chkE_zero {ls : List (List Int)} {up dn : Int} (h : chkE ls up dn = 0) : panE ls = 0 ∧ (0 ≤ up ∧ up ≤ 16) ∧ 0 ≤ dn ∧ dn ≤ 16 := by
  unfold chkE at h
  rw [fstV_zero] at h
  have h1 := h (panE ls) (by simp)
  have h2 := h (limE up dn) (by simp)
  unfold limE at h2
  rw [fstV_zero] at h2
  exact ⟨h1, within_zero.1 (h2 _ (by simp)), within_zero.1 (h2 _ (by simp))⟩
theorem alw_ne {up dn : Int} (hu : 0 ≤ up) (hd : 0 ≤ dn) {k : Nat} : ∀ {l : List Int} {j : Nat}, j ≤ k → k < j + l.length → alw up dn k j l ≠ []
  | [], j, h1, h2 => by simp at h2; omega
  | x :: l, j, h1, h2 => by
    simp only [List.length_cons] at h2
    rw [alw]
    by_cases e : j = k
    · subst e
      have : mayB up dn (j : Nat) (j : Nat) = true := by simp [mayB, hu, hd]
      rw [if_pos this]
      simp
    · have := alw_ne hu hd (k := k) (l := l) (j := j + 1) (by omega) (by omega)
      split
      · simp
      · exact this
end Go.Proofs.YtkongcnmkiihjaaGreatDoor

namespace Go.Proofs.YtkongcnmkiihjaaGreatDoor
open Go Go.Ab Go.Proofs
/-- blocks that stay as they are, what is new beside them let go -/
theorem Leads.stay {P : Program} {n q : Nat} {s s2 : St} {H X : Heap} (hold : ∀ k b, hget H k = some b → k < n ∧ scB (· < n) b) (hkeep : Sub H s.H) (hs2 : s2.H = X ++ H) (hnq : n ≤ q) (hX : ∀ x ∈ X, n ≤ x.1 ∧ x.1 < q ∧ hget s.H x.1 = some x.2 ∧ scB (· < q) x.2 ∧ carried x.2 ∧ x.2.own = true) (hn : s2.n = q + 1) (hz : s2.sz = s.sz) (hm : s.marks = [] ∧ s2.marks = [])
    (hf : ∀ x ∈ s2.fr, lk s.fr x.1 = some x.2 ∧ sc (· < q) x.2) : Leads P n s s2 :=
  Leads.outX (l := []) (t := 3) (m := 0) hold hkeep (by simpa using hs2) hnq hX (fun h => absurd rfl h) hn hz hm fun x hx => .inl (hf x hx)
theorem cpE_zero {p l : List (List Int)} {up dn : Int} (h : cpE p l up dn = 0) : chkE p up dn = 0 ∧ l.length = p.length := by
  unfold cpE at h
  rw [fstV_zero] at h
  have h2 := (when_zero (by omega)).1 (h (whenV (!decide (l.length = p.length)) 2) (by simp))
  exact ⟨h _ (by simp), by simpa using h2⟩
theorem namesOk_out {m q t : Nat} {l : List Int} {X : Heap} (h : q < m) : namesOk m (outB q t l ++ X) = namesOk m X := by
  unfold outB
  split
  · rfl
  · show namesOk m ((q, _) :: X) = _
    rw [namesOk, (blt_iff _ _).2 h]
theorem sumL_const {k0 : Nat} : ∀ {l : List (List Int)}, (∀ x ∈ l, x.length = k0) → sumL l = l.length * k0
  | [], _ => by simp [sumL]
  | x :: l, h => by
    rw [sumL, sumL_const fun y hy => h y (List.mem_cons_of_mem _ hy), h x (List.mem_cons_self ..), List.length_cons, Nat.add_mul]
    omega
theorem load3 {H : Heap} {a : Addr} : loadA Tryz.prog 3 H (.pointer (some a)) = cellA H a.block a.off := by
  simp only [loadA, ag3]
theorem load24 {H : Heap} {a : Addr} : loadA Tryz.prog 24 H (.pointer (some a)) = cellA H a.block a.off := by
  simp only [loadA, ag24]
set_option maxRecDepth 50000 in
theorem w26 {H : Heap} {n : Nat} {v u : Value} {p l : List (List Int)} (up dn : Int) (hP : nestV H v = some p) (hL : nestV H u = some l) (h0 : hget H 0 = some (.inp 0 freeV)) (hl0 : l.length ≤ 66) : AC Tryz.prog 26 [v, limA up dn, u] H n (two (cpR p l up dn).1 (cpR p l up dn).2) H n := by
  refine AC.given fun hold hsc hgn => AC.tidied (B := []) (by simp) ?_
  rw [gsz] at hgn
  replace hP := nest_tidy hold hP
  replace hL := nest_tidy hold hL
  replace hold := tidy_old hold
  replace h0 := global_tidy hgn h0
  have hr := recT_ok (P := Tryz.prog) (l := [(100, g100), (96, g96), (90, g90)]) (by simp [ok100, ok96, ok90])
  have hr2 := recT_ok (P := Tryz.prog) (l := [(102, g102), (105, g105), (104, g104b), (90, g90v), (110, g110)]) (by simp [ok102, ok105, ok104b, ok90v, ok110])
  have hr3 := recT_ok (P := Tryz.prog) (l := [(108, g108), (107, g107)]) (by simp [ok108, ok107])
  have hn0 : (n = 0) = False := eq_false (by omega)
  have hf0 : hget (frzH (tidy n H)) 0 = some (.inp 0 freeV) := by rw [hget_frz, h0]; rfl
  have hS : Sub (tidy n H) (tidy n H) := Sub.refl _
  have hSf : Sub (frzH (tidy n H)) ((n + 1, .inp 0 [iv up, iv dn]) :: (n, .inp 0 [v]) :: frzH (tidy n H)) := Sub.cons (by rw [hget_frz]; simp) (Sub.cons (by rw [hget_frz]; simp) (Sub.refl _))
  have hPf : nestV ((n + 1, .inp 0 [iv up, iv dn]) :: (n, .inp 0 [v]) :: frzH (tidy n H)) v = some p := listV_mono decNI_mono hSf (by rw [listV_frz (decL_frz decI_frz)]; exact hP)
  obtain ⟨oa, c, rfl, hlt, _, hrow⟩ := nestV_form hP
  obtain ⟨ob, d, rfl, hlt2, _, hrow2⟩ := nestV_form hL
  have hscv : sc (· < n) (.slice oa p.length c) := hsc.1
  have hscu : sc (· < n) (.slice ob l.length d) := hsc.2.2.1
  refine AC.pure Tryz.func26 rfl (by kernel_rfl) rfl [2, 3, 4, 10, 11, 12, 13, 39, 40, 46, 47, 48] rfl ?_
  refine E.seq ?_
  refine E.reg hr (by simp; rfl) ?_ -- region 0
  refine E.seq ?_
  refine E.seq ?_
  have hE : firstV [chkE p up dn, whenV (!decide ((l.length : Int) = (p.length : Int))) 2] = cpE p l up dn := by
    have : decide ((l.length : Int) = (p.length : Int)) = decide (l.length = p.length) := by rw [decide_eq_decide]; omega
    rw [this]; rfl
  refine E.drawU mixed hr [8, 9, 10] [2, 8, 9, 10] [0, 1, 2, 8, 9, 10] (by kernel_rfl) (by simp [hn0, hf0, g100, hPf, g96, g90, intsAt, intsOf, hE]; rfl) ?_ -- region 1
  refine E.seq ?_
  refine E.reg hr (by simp; rfl) ?_ -- region 2
  by_cases hz : cpE p l up dn = 0
  · obtain ⟨hz1, hz2⟩ := cpE_zero hz
    obtain ⟨hp0, ⟨hu0, hu1⟩, hd0, hd1⟩ := chkE_zero hz1
    obtain ⟨q1, q2, q3, q4, q5, q6⟩ := panE_zero hp0
    have hscq : sc (· < n + 1 + 1) (.slice oa p.length c) := sc_mono (fun k hk => by show k < n + 1 + 1; have hk : k < n := hk; omega) _ hscv
    have hscq2 : sc (· < n + 1 + 1) (.slice ob l.length d) := sc_mono (fun k hk => by show k < n + 1 + 1; have hk : k < n := hk; omega) _ hscu
    have hS2 : Sub (tidy n H) ((n + 1, .cells [iv up, iv dn] 45) :: (n, .cells [.slice oa p.length c] 38) :: tidy n H) := Sub.cons (by simp) (Sub.cons (by simp) hS)
    have hP2 := listV_mono decNI_mono hS2 hP
    have hL2 := listV_mono decNI_mono hS2 hL
    refine E.cond (t := false) (by simp [hz]) (fun h => by cases h) (fun _ => ?_)
    refine E.skip ?_
    refine E.lead { fr := [(2, .slice ob l.length d), (3, .pointer (some ⟨n, 0, none⟩)), (4, .pointer (some ⟨n + 1, 0, none⟩))], sz := 89, H := [(n + 1, .cells [iv up, iv dn] 45), (n, .cells [.slice oa p.length c] 38)] ++ tidy n H, n := n + 1 + 1 + 1, marks := [], vs := [2, 3, 4, 10, 11, 12, 13, 39, 40, 46, 47, 48] } (Leads.stay hold (Sub.cons (by simp) hS2) rfl (by omega) (by simp [-sc, hscq]; simp [sc]) rfl rfl ⟨rfl, rfl⟩ (by simp [-sc, hscq2]; simp [sc])) ?_
    refine E.seq ?_
    refine E.seq ?_
    refine E.reg hr2 (by simp [opMakefunc, g102, hP2, hL2, q1]; rfl) ?_ -- region 4
    by_cases hrows : (l.any fun x => !decide (x.length = len0 p)) = true
    · refine E.cond (t := true) (by simp [-List.any_eq_true, hrows]) (fun _ => ?_) (fun h => by cases h)
      refine E.seq ?_
      refine E.reg hr (by simp; rfl) ?_ -- region 5
      refine E.ret ?_
      exact pureK.ret rfl rfl (by unfold cpR; rw [if_pos hz, if_pos hrows]; simp) hS2
    · have hrows' : (l.any fun x => !decide (x.length = len0 p)) = false := by simpa using hrows
      have hk0 : ∀ x ∈ l, x.length = len0 p := fun x hx => by
        have := List.any_eq_false.1 hrows' x hx
        simpa using this
      have hsum := sumL_const hk0
      have hsum1 : 0 < sumL l ∧ sumL l < 2147483648 := by
        rw [hsum]
        have h1 : l.length * len0 p ≤ 66 * 16 := Nat.mul_le_mul hl0 q4
        exact ⟨Nat.mul_pos (by omega) q3, by omega⟩
      have hfl := sumL_flatten l
      have hne : l.flatten ≠ [] := fun e => by rw [e] at hfl; simp at hfl; omega
      refine E.cond (t := false) (by simp [-List.any_eq_true, -List.any_eq_false, hrows']) (fun h => by cases h) (fun _ => ?_)
      refine E.skip ?_
      refine E.seq ?_
      refine E.seq ?_
      obtain ⟨N, hN⟩ : ∃ N, n + 1 + 1 + 1 = N := ⟨_, rfl⟩
      obtain ⟨H2, hH2⟩ : ∃ H2, (n + 1, Blk.cells [iv up, iv dn] 45) :: (n, .cells [.slice oa p.length c] 38) :: tidy n H = H2 := ⟨_, rfl⟩
      have hS3 : Sub (tidy n H) H2 := hH2 ▸ hS2
      have hNn : n < N ∧ n + 1 < N := by omega
      have hnoN : ∀ j, N ≤ j → hget H2 j = none := fun j hj => by
        rw [← hH2, hget_cons, if_neg (by omega), hget_cons, if_neg (by omega)]
        have := (no_new (tidy_lt (n := n) (H := H))).2 (j - n)
        rwa [show n + (j - n) = j by omega] at this
      rw [hH2] at hP2 hL2
      have hX2 : ∀ s : St, Sub H2 s.H → ∀ x ∈ [(n + 1, Blk.cells [iv up, iv dn] 45), (n, Blk.cells [.slice oa p.length c] 38)], n ≤ x.1 ∧ x.1 < n + 1 + 1 ∧ hget s.H x.1 = some x.2 ∧ scB (· < n + 1 + 1) x.2 ∧ carried x.2 ∧ x.2.own = true := fun s hs x hx => by
        have e1 := hs (n + 1) (.cells [iv up, iv dn] 45) (by rw [← hH2, hget_cons, if_pos rfl])
        have e2 := hs n (.cells [.slice oa p.length c] 38) (by rw [← hH2, hget_cons, if_neg (by omega), hget_cons, if_pos rfl])
        simp only [List.mem_cons, List.not_mem_nil, or_false] at hx
        rcases hx with rfl | rfl
        · exact ⟨by dsimp only; omega, by dsimp only; omega, e1, ⟨trivial, trivial, trivial⟩, trivial, rfl⟩
        · exact ⟨by dsimp only; omega, by dsimp only; omega, e2, ⟨hscq, trivial⟩, trivial, rfl⟩
      have hdrop : ∀ (s s2 : St), Sub H2 s.H → s2.H = H2 → s2.n = N → s2.sz = s.sz → s.marks = [] ∧ s2.marks = [] → (∀ x ∈ s2.fr, lk s.fr x.1 = some x.2 ∧ sc (· < n + 1 + 1) x.2) → Leads Tryz.prog n s s2 := fun s s2 g1 g2 g3 g4 g5 g6 =>
        Leads.stay hold (hS3.trans g1) (by rw [g2, ← hH2]; rfl) (by omega) (hX2 s g1) (by rw [g3, ← hN]) g4 g5 g6
      have hSn : ∀ A : Heap, (∀ x ∈ A, N ≤ x.1) → Sub H2 (A ++ H2) := fun A hA => Sub.app (fun x hx => hnoN _ (hA x hx)) (Sub.refl _)
      have hkN : ∀ {k o : Nat} {w : Value}, cellA (tidy n H) k o = some w → k < n := fun hc => cellA_lt tidy_lt hc
      rw [hH2, hN]
      obtain ⟨F, hF⟩ : ∃ F, l.flatten = F := ⟨_, rfl⟩
      rw [hF] at hfl hne
      have hi1 := intV_out (n := N) (t := 3) (l := F) (H := H2) (by omega)
      have hi2 := intV_out (n := N + 1) (t := 29) (l := F.map fun x => withinV x 0 999999999) (H := outB N 3 F ++ H2) (by rw [List.length_map]; omega)
      refine E.reg hr2 (by simp [-List.map_flatten, g105, hL2, hsum1, hF, g104b, hi1, hne, g90v, hi2]; rfl) ?_ -- region 6
      refine E.seq ?_
      refine E.reg hr (by simp; rfl) ?_ -- region 7
      by_cases hwr : firstV (F.map fun x => withinV x 0 999999999) = 0
      · have hval : ∀ x ∈ l, ∀ y ∈ x, 0 ≤ y ∧ y ≤ 999999999 := fun x hx y hy => by
          rw [fstV_zero] at hwr
          exact within_zero.1 (hwr _ (List.mem_map_of_mem (f := fun x => withinV x 0 999999999) (hF ▸ List.mem_flatten.2 ⟨x, hx, hy⟩)))
        refine E.cond (t := false) (by simp [-List.map_flatten, hwr]) (fun h => by cases h) (fun _ => ?_)
        refine E.skip ?_
        have hsub1 : Sub H2 (outB (N + 1) 29 (F.map fun x => withinV x 0 999999999) ++ (outB N 3 F ++ H2)) := (sub_out (hnoN N (by omega))).trans (sub_out (by rw [hget_out (by omega)]; exact hnoN _ (by omega)))
        refine E.lead { fr := [(2, .slice ob l.length d), (3, .pointer (some ⟨n, 0, none⟩)), (4, .pointer (some ⟨n + 1, 0, none⟩))], sz := 89, H := H2, n := N, marks := [], vs := [2, 3, 4, 10, 11, 12, 13, 39, 40, 46, 47, 48] } (hdrop _ _ hsub1 rfl rfl rfl ⟨rfl, rfl⟩ (by simp [-sc, hscq2]; simp [sc])) ?_
        refine E.seq ?_
        refine E.seq ?_
        refine E.reg hr (by simp; rfl) ?_ -- region 9
        refine E.block ?_ -- 0
        refine E.loop ?_
        refine EL.ind (fun i : Nat => { fr := [(2, .slice ob l.length d), (3, .pointer (some ⟨n, 0, none⟩)), (4, .pointer (some ⟨n + 1, 0, none⟩)), (39, iv l.length), (40, iv i)], sz := 89, H := H2, n := N, marks := [], vs := [2, 3, 4, 10, 11, 12, 13, 39, 40, 46, 47, 48] }) (fun i => l.length - i) (fun i => i ≤ l.length ∧ ∀ t k, t < i → k < len0 p → badAt p l up dn t k = false) 0 (.keep rfl rfl rfl (by simp) (Sub.refl _)) ⟨Nat.zero_le _, by omega⟩ (fun _ => rfl) ?_
        rintro i ⟨hi, hg⟩
        have hw : IntKind.i64.wrap ((i : Int) + 1) = (i : Int) + 1 := W_in (by omega) (by omega)
        refine E.seq ?_
        refine E.reg hr (by simp; rfl) ?_ -- region 10
        refine E.seq ?_
        by_cases hil : i < l.length
        · obtain ⟨b, r, rfl, hfb, hcb, hvb⟩ := hrow2 i hil
          obtain ⟨orr, cr, rfl, hlr, _, hcl⟩ := intV_form hvb
          obtain ⟨a, pr, rfl, hfa, hca, hva⟩ := hrow i (by omega)
          obtain ⟨opp, cpp, rfl, hlp, _, hcp⟩ := intV_form hva
          have hli : l[i].length = len0 p := hk0 _ (List.getElem_mem hil)
          have hpi : p[i].length = len0 p := q5 _ (List.getElem_mem (by omega))
          have hcb2 := hS3.cell hcb
          have hca2 := hS3.cell hca
          have hb3 : cellA H2 n 0 = some (.slice (some a) p.length c) := by rw [cellA_eq, ← hH2, hget_cons, if_neg (by omega), hget_cons, if_pos rfl]; rfl
          have hscr : sc (· < n + 1 + 1) (.slice orr l[i].length cr) := sc_mono (fun k hk => by show k < n + 1 + 1; have hk : k < n := hk; omega) _ (cellA_sc (fun k x hk => (hold k x hk).2) hcb)
          refine E.cond (t := true) (by simp [hil]) (fun _ => ?_) (fun h => by cases h)
          refine E.skip ?_
          refine E.seq ?_
          refine E.block ?_ -- 1
          refine E.seq ?_
          refine E.reg hr (by simp; rfl) ?_ -- region 11
          refine E.seq ?_
          refine E.reg hr (by simp [-cellA, -flat, hil, hfb, hcb2]; rfl) ?_ -- region 12
          refine E.block ?_ -- 2
          refine E.loop ?_
          refine EL.ind (fun k : Nat => { fr := [(2, .slice (some b) l.length d), (3, .pointer (some ⟨n, 0, none⟩)), (4, .pointer (some ⟨n + 1, 0, none⟩)), (10, iv i), (39, iv l.length), (40, iv i), (46, .slice orr l[i].length cr), (47, iv l[i].length), (48, iv k)], sz := 89, H := H2, n := N, marks := [], vs := [2, 3, 4, 10, 11, 12, 13, 39, 40, 46, 47, 48] }) (fun k => l[i].length - k) (fun k => k ≤ l[i].length ∧ ∀ j, j < k → badAt p l up dn i j = false) 0 (.keep rfl rfl rfl (by simp) (Sub.refl _)) ⟨Nat.zero_le _, by omega⟩ (fun _ => rfl) ?_
          rintro k ⟨hk, hq⟩
          have hw2 : IntKind.i64.wrap ((k : Int) + 1) = (k : Int) + 1 := W_in (by omega) (by omega)
          refine E.seq ?_
          refine E.reg hr (by simp; rfl) ?_ -- region 13
          refine E.seq ?_
          by_cases hkl : k < l[i].length
          · have hkp : k < p[i].length := by omega
            obtain ⟨rb, rfl, hfr, hcr⟩ := hcl k hkl
            obtain ⟨pb, rfl, hfp, hcpb⟩ := hcp k hkp
            have hcr2 := hS3.cell hcr
            have hcpb2 := hS3.cell hcpb
            have ha1 := at2_eq hil hkl
            have ha2 := at2_eq (show i < p.length by omega) hkp
            have hv1 := hval _ (List.getElem_mem hil) _ (List.getElem_mem hkl)
            have hv2 := q6 _ (List.getElem_mem (show i < p.length by omega)) _ (List.getElem_mem hkp)
            obtain ⟨rest, hrest⟩ : ∃ rest, l[i][k] - p[i][k] = rest := ⟨_, rfl⟩
            have hwd : IntKind.i64.wrap (l[i][k] - p[i][k]) = rest := by rw [W_in (by omega) (by omega), hrest]
            have hbad : badAt p l up dn i k = (decide (rest < 0) || (decide (i + 1 < l.length) && (alw up dn k 0 (l.getD (i + 1) [])).any fun m => decide (rest < m))) := by
              unfold badAt; rw [ha1, ha2, hrest]
            have hfin : badAt p l up dn i k = true → cpR p l up dn = (0, 19) := fun hb => by
              have : anyBad p l up dn = true := by
                unfold anyBad
                rw [List.any_eq_true]
                refine ⟨i, List.mem_range.2 hil, ?_⟩
                rw [List.any_eq_true]
                exact ⟨k, List.mem_range.2 (by rw [getD_at hil]; exact hkl), hb⟩
              unfold cpR
              rw [hF, if_pos hz, if_neg hrows, if_pos hwr, if_pos this]
            refine E.cond (t := true) (by simp [hkl]) (fun _ => ?_) (fun h => by cases h)
            refine E.skip ?_
            refine E.seq ?_
            refine E.block ?_ -- 3
            refine E.seq ?_
            refine E.reg hr (by simp [-cellA, -flat, hkl, hfr, hcr2]; rfl) ?_ -- region 14
            refine E.seq ?_
            have hil' : i < p.length := by omega
            refine E.reg hr (by simp [-cellA, -flat, hb3, hil', hfa, hca2, hkp, hfp, hcpb2, hwd]; rfl) ?_ -- region 15
            refine E.seq ?_
            obtain ⟨H3, hH3⟩ : ∃ H3, (N, Blk.cells [iv rest] 3) :: H2 = H3 := ⟨_, rfl⟩
            have hS4 : Sub H2 H3 := by rw [← hH3]; exact Sub.cons (hnoN N (Nat.le_refl _)) (Sub.refl _)
            have hnm : ∀ m, N ≤ m → namesOk m H2 = true := fun m hm => by
              rw [← hH2, namesOk, (blt_iff _ _).2 (by omega), namesOk, (blt_iff _ _).2 (by omega)]
              exact namesOk_mono (by omega) _ (namesOk_tidyL _).1
            have hnm3 : ∀ m, N < m → namesOk m H3 = true := fun m hm => by
              rw [← hH3, namesOk, (blt_iff _ _).2 hm]
              exact hnm m (by omega)
            have hnm4 := hnm3 (N + 1) (by omega)
            have hrd1 : cellA (readA [N] H3) N 0 = some (iv rest) := by
              rw [cell_read (by simp), cellA_eq, ← hH3, hget_cons, if_pos rfl]; rfl
            have hNN : N < N + 1 := by omega
            rw [hH3]
            by_cases hneg : rest < 0
            · have hb : badAt p l up dn i k = true := by rw [hbad]; simp [hneg]
              refine E.drawU mixed hr3 [16, 18] [16, 18] [0, 13, 14, 16, 18] (by kernel_rfl) (by simp [-cellA, -flat, -readA, hnm4, hrd1, hneg, hNN, yieldedA, undefV]; rfl) ?_ -- region 16
              refine E.cond (t := true) (by simp) (fun _ => ?_) (fun h => by cases h)
              refine E.seq ?_
              refine E.reg hr (by simp; rfl) ?_ -- region 17
              refine E.ret ?_
              exact pureK.ret rfl rfl (by rw [hfin hb]; simp) (hS3.trans hS4)
            · by_cases hil2 : i + 1 < l.length
              · obtain ⟨b', r', e', _, hcb', hvb'⟩ := hrow2 (i + 1) hil2
                injection e' with e'
                subst e'
                have hi2I : (i : Int) + 1 < l.length := by omega
                have hcb3 := (hS3.trans hS4).cell hcb'
                have hv3 := listV_mono decI_mono (hS3.trans hS4) hvb'
                have hbk : b.block < N + 1 := by have := hkN hcb'; omega
                have hn1 : n + 1 < N + 1 := by omega
                obtain ⟨A, hA⟩ : ∃ A, alw up dn k 0 l[i + 1] = A := ⟨_, rfl⟩
                have hAne : A ≠ [] := by
                  rw [← hA]
                  exact alw_ne hu0 hd0 (Nat.zero_le _) (by rw [hk0 _ (List.getElem_mem hil2)]; omega)
                have hAlen : A.length ≤ l[i + 1].length := by rw [← hA]; exact alw_len up dn k _ 0
                have hl1 : l[i + 1].length = len0 p := hk0 _ (List.getElem_mem hil2)
                have hnoN3 : ∀ j, N < j → hget H3 j = none := fun j hj => by
                  rw [← hH3, hget_cons, if_neg (by omega)]
                  exact hnoN j (by omega)
                have hrd2 : cellA (readA [b.block] H3) b.block (b.off + (i + 1)) = some r' := by rw [cell_read (by simp)]; exact hcb3
                have hrd3 : cellsA (readA [n + 1] H3) (n + 1) 0 2 = some [iv up, iv dn] := by
                  rw [cellsA_eq, hget_readA, if_pos (by simp), ← hH3, hget_cons, if_neg (by omega), ← hH2, hget_cons, if_pos rfl]
                  rfl
                have hld3 : loadA Tryz.prog 45 (readA [n + 1] H3) (.pointer (some ⟨n + 1, 0, none⟩)) = some (limA up dn) := by
                  simp only [loadA, ag45, sz45, hrd3, Option.map_some]
                have hg108 : g108 [r', limA up dn, iv k] H3 (N + 1) = some (outI (N + 1) A, outB (N + 1) 3 A ++ H3, N + 1 + 1) := by
                  have hc : (0 : Int) ≤ k ∧ (k : Int) < 2147483648 ∧ alw up dn (k : Int).toNat 0 l[i + 1] ≠ [] := ⟨by omega, by omega, by rw [Int.toNat_natCast, hA]; exact hAne⟩
                  simp only [g108]
                  rw [show intV H3 r' = some l[i + 1] from hv3]
                  simp only
                  rw [if_pos hc, Int.toNat_natCast, hA]
                have hiA := intV_out (n := N + 1) (t := 3) (l := A) (H := H3) (by omega)
                have hcA : cellA (outB (N + 1) 3 A ++ H3) N 0 = some (iv rest) := by
                  rw [cellA_eq, hget_out (by omega), ← hH3, hget_cons, if_pos rfl]; rfl
                obtain ⟨H5, hH5⟩ : ∃ H5, outB (N + 1) 3 A ++ H3 = H5 := ⟨_, rfl⟩
                have hnmA : namesOk (N + 1 + 1) H5 = true := by rw [← hH5, namesOk_out (by omega)]; exact hnm3 _ (by omega)
                have hS5 : Sub H3 H5 := by rw [← hH5]; exact sub_out (hnoN3 _ (by omega))
                rw [hH5] at hg108 hiA hcA
                have hg107 : g107 [outI (N + 1) A, .func (.func 109) #[] #[.pointer (some ⟨N, 0, none⟩)]] H5 (N + 1 + 1) = some (.bool (A.any fun m => decide (rest < m)), H5, N + 1 + 1) := by
                  simp only [g107]
                  rw [hiA, hcA]
                have hb : badAt p l up dn i k = A.any fun m => decide (rest < m) := by
                  rw [hbad, getD_at hil2, hA]
                  simp only [hneg, decide_false, Bool.false_or, hil2, decide_true, Bool.true_and]
                obtain ⟨B, hB⟩ : ∃ B, (A.any fun m => decide (rest < m)) = B := ⟨_, rfl⟩
                rw [hB] at hg107 hb
                refine E.drawU mixed hr3 [16, 18] [16, 18] [0, 13, 14, 16, 18] (by kernel_rfl) (by simp [-cellA, -flat, -readA, -loadA, load3, load24, hnm4, hrd1, hneg, hNN, yieldedA, hw, hi2I, hfb, hrd2, hbk, hn1, hld3, hg108, opMakefunc, hg107, hnmA]; rfl) ?_ -- region 16
                cases B with
                | true =>
                  refine E.cond (t := true) (by simp) (fun _ => ?_) (fun h => by cases h)
                  refine E.seq ?_
                  refine E.reg hr (by simp; rfl) ?_ -- region 17
                  refine E.ret ?_
                  exact pureK.ret rfl rfl (by rw [hfin hb]; simp) (hS3.trans (hS4.trans hS5))
                | false =>
                  refine E.cond (t := false) (by simp) (fun h => by cases h) (fun _ => ?_)
                  refine E.skip ?_
                  refine E.reg hr (by simp [hw2]; rfl) ?_ -- region 18
                  exact ⟨k + 1, hdrop _ _ (hS4.trans hS5) rfl rfl rfl ⟨rfl, rfl⟩ (by simp [-sc, hscq2, hscr]; simp [sc]), ⟨hkl, fun j hj => by
                    rcases Nat.lt_or_ge j k with h | h
                    · exact hq j h
                    · have : j = k := by omega
                      rw [this]; exact hb⟩, by dsimp only; omega⟩
              · have hi2I : ¬ (i : Int) + 1 < l.length := by omega
                have hb : badAt p l up dn i k = false := by rw [hbad]; simp [hneg, hil2]
                refine E.drawU mixed hr3 [16, 18] [16, 18] [0, 13, 14, 16, 18] (by kernel_rfl) (by simp [-cellA, -flat, -readA, hnm4, hrd1, hneg, hNN, yieldedA, undefV, hw, hi2I]; rfl) ?_ -- region 16
                refine E.cond (t := false) (by simp) (fun h => by cases h) (fun _ => ?_)
                refine E.skip ?_
                refine E.reg hr (by simp [hw2]; rfl) ?_ -- region 18
                exact ⟨k + 1, hdrop _ _ hS4 rfl rfl rfl ⟨rfl, rfl⟩ (by simp [-sc, hscq2, hscr]; simp [sc]), ⟨hkl, fun j hj => by
                  rcases Nat.lt_or_ge j k with h | h
                  · exact hq j h
                  · have : j = k := by omega
                    rw [this]; exact hb⟩, by dsimp only; omega⟩
          · refine E.cond (t := false) (by simp [hkl]) (fun h => by cases h) (fun _ => ?_)
            refine E.exit ?_ -- 2
            refine E.reg hr (by simp [hw]; rfl) ?_ -- region 19
            exact ⟨i + 1, .keep rfl rfl rfl (by simp) (Sub.refl _), ⟨hil, fun t j ht hj => by
              rcases Nat.lt_or_ge t i with h | h
              · exact hg t j h hj
              · have : t = i := by omega
                rw [this]; exact hq j (by omega)⟩, by dsimp only; omega⟩
        · refine E.cond (t := false) (by simp [hil]) (fun h => by cases h) (fun _ => ?_)
          have h00 : 0 < l.length := by omega
          obtain ⟨b, r, rfl, hfb, hcb, hvb⟩ := hrow2 0 h00
          rw [Nat.add_zero] at hcb
          have hcb2 := hS3.cell hcb
          have hv0 := listV_mono decI_mono hS3 hvb
          have hl0' : l[0] ≠ [] := fun e => by
            have := hk0 _ (List.getElem_mem h00)
            rw [e] at this
            simp at this
            omega
          have hh : l.headD [] = l[0] := by
            cases l with
            | nil => simp at h00
            | cons x xs => rfl
          have hnb : anyBad p l up dn = false := by
            unfold anyBad
            rw [List.any_eq_false]
            intro t ht
            rw [List.mem_range] at ht
            rw [Bool.not_eq_true, List.any_eq_false]
            intro k hk
            rw [List.mem_range, getD_at ht, hk0 _ (List.getElem_mem ht)] at hk
            rw [hg t k (by omega) hk]
            decide
          refine E.exit ?_ -- 0
          refine E.seq ?_
          refine E.reg hr2 (by simp [-cellA, -flat, h00, hfb, hcb2, g110, hv0, hl0']; rfl) ?_ -- region 20
          refine E.ret ?_
          exact pureK.ret rfl rfl (by unfold cpR; rw [hF, if_pos hz, if_neg hrows, if_pos hwr, if_neg (by rw [hnb]; decide), hh]; simp) hS3
      · refine E.cond (t := true) (by simp [-List.map_flatten, hwr]) (fun _ => ?_) (fun h => by cases h)
        refine E.seq ?_
        refine E.reg hr (by simp; rfl) ?_ -- region 8
        refine E.ret ?_
        have hsub1 : Sub H2 (outB (N + 1) 29 (F.map fun x => withinV x 0 999999999) ++ (outB N 3 F ++ H2)) := (sub_out (hnoN N (by omega))).trans (sub_out (by rw [hget_out (by omega)]; exact hnoN _ (by omega)))
        exact pureK.ret rfl rfl (by unfold cpR; rw [hF, if_pos hz, if_neg hrows, if_neg hwr]; simp [-List.map_flatten]) (hS3.trans hsub1)
  · refine E.cond (t := true) (by simp [hz]) (fun _ => ?_) (fun h => by cases h)
    refine E.seq ?_
    refine E.reg hr (by simp; rfl) ?_ -- region 3
    refine E.ret ?_
    exact pureK.ret rfl rfl (by simp [cpR, hz]) (Sub.cons (by simp) (Sub.cons (by simp) (Sub.cons (by simp) hS)))
open Classical in
noncomputable def g26 (args : List Value) (H : Heap) (n : Nat) : R := match args with
  | [v, .agg ⟨[.int .i64 up, .int .i64 dn]⟩, u] => match nestV H v, nestV H u with
    | some p, some l => if hget H 0 = some (.inp 0 freeV) ∧ l.length ≤ 66 then some (two (cpR p l up dn).1 (cpR p l up dn).2, H, n) else none
    | _, _ => none
  | _ => none
theorem ok26 : EntOk Tryz.prog (26, g26) := by
  intro args H n v H' n' h
  simp only [g26] at h
  split at h
  · split at h
    · rename_i h1 h2
      split at h
      · rename_i h3
        injection h with h; injection h with e1 e2; injection e2 with e2 e3; subst e1 e2 e3
        exact w26 _ _ h1 h2 h3.1 h3.2
      · cases h
    · cases h
  · cases h
end Go.Proofs.YtkongcnmkiihjaaGreatDoor
