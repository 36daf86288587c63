/-
Contracts and plain reckonings behind the law GunAccepts, part 4 of 6 (each under the conditions in its statement).
-/
import Derived.Test.YtndlfijfjglkdaaGreatDoorRc
import Derived.Test.YtndlfijfjglkdaaGreatDoorRb
import Derived.Test.YtndlfijfjglkdaaGreatDoorAf
import Derived.Test.YtndlfijfjglkdaaGreatDoorRa
namespace Go.Ab
open Go
theorem flat_at {α : Type} {c : α → List Value} {sz : Nat} (hc : ∀ x, (c x).length = sz) : ∀ (l : List α) (i : Nat) (h : i < l.length), ((l.flatMap c).drop (i * sz)).take sz = c l[i]
 | x :: l, 0, _ => by
   simp only [Nat.zero_mul, List.drop_zero, List.flatMap_cons, List.getElem_cons_zero]
   exact List.take_left' (hc x)
 | x :: l, i + 1, h => by
   rw [Nat.succ_mul, Nat.add_comm, ← List.drop_drop, List.flatMap_cons, List.drop_left' (hc x)]
   exact flat_at hc l i (by simpa using h)
theorem flat_len {α : Type} {c : α → List Value} {sz : Nat} (hc : ∀ x, (c x).length = sz) : ∀ l : List α, (l.flatMap c).length = l.length * sz
 | [] => by simp
 | x :: l => by
   rw [List.flatMap_cons, List.length_append, hc, flat_len hc l, List.length_cons, Nat.succ_mul, Nat.add_comm]
theorem listV_flat {α : Type} {c : α → List Value} {sz : Nat} {dec : Dec α} (hc : ∀ x, (c x).length = sz) {H : Heap} (hd : ∀ x, dec H (c x) = some x) {a : Addr} {cap : Nat} {l : List α} (hf : flat a = true) (hcs : cellsA H a.block a.off (l.length * sz) = some (l.flatMap c)) (hlt : l.length < 2147483648) : listV sz dec H (.slice (some a) l.length cap) = some l := by
 show (if l.length < 2147483648 then _ else _) = _
 rw [if_pos hlt]
 by_cases h0 : l.length = 0
 · rw [if_pos h0, List.length_eq_zero_iff.1 h0]
 · rw [if_neg h0, if_pos hf, hcs]
   refine mapO_of (chunks_len _ _ _) fun i x hx => ?_
   by_cases hi : i < l.length
   · rw [chunks_get _ _ _ _ hi] at hx
     injection hx with hx
     rw [← hx, flat_at hc l i hi, hd, List.getElem?_eq_getElem hi]
   · rw [List.getElem?_eq_none (by rw [chunks_len]; omega)] at hx
     cases hx
theorem listV_outS {α : Type} {c : α → List Value} {sz t : Nat} {dec : Dec α} (hc : ∀ x, (c x).length = sz) (hd : ∀ H x, dec H (c x) = some x) {N : Nat} {Z : Heap} {l : List α} (hlt : l.length < 2147483648) : listV sz dec (outSB N t sz l.length (l.flatMap c) ++ Z) (outS N l.length) = some l := by
 by_cases h0 : l.length = 0
 · rw [List.length_eq_zero_iff.1 h0]; rfl
 · rw [outS_ne h0, outSB, if_neg h0]
   refine listV_flat hc (hd _) rfl ?_ hlt
   show cellsA ((N, .ext (l.flatMap c) t sz) :: Z) N 0 _ = _
   rw [cellsA_eq, hget_cons, if_pos rfl]
   simp only [Option.bind_some, cellsB]
   rw [if_pos (by rw [flat_len hc]; omega), List.drop_zero, List.take_of_length_le (by rw [flat_len hc]; omega)]
theorem GL.list {α : Type} {c : α → List Value} {sz t n N o : Nat} {L Hx : Heap} {dec : Dec α} {l : List α} (h : GL L n t sz (l.flatMap c) l.length Hx N o) (hc : ∀ x, (c x).length = sz) (hd : ∀ H x, dec H (c x) = some x) (hlt : l.length < 2147483648) : listV sz dec Hx (outS o l.length) = some l := by
 by_cases h0 : l.length = 0
 · rw [List.length_eq_zero_iff.1 h0]; rfl
 · rw [outS_ne h0]
   refine listV_flat hc (hd _) rfl ?_ hlt
   rw [cellsA_eq, (h.out h0).1]
   simp only [Option.bind_some, cellsB]
   rw [if_pos (by rw [flat_len hc]; omega), List.drop_zero, List.take_of_length_le (by rw [flat_len hc]; omega)]
end Go.Ab

namespace Go.Proofs.YtndlfijfjglkdaaGreatDoor
open Go Go.Ab Go.Proofs Ieee
abbrev fl (b : Nat) : Value := .float .f32 b
def decFl : Dec Nat := fun _ cs => match cs with
 | [.float .f32 b] => some b
 | _ => none
theorem decFl_mono : DecMono decFl := fun _H _H' _cs _y _ h => h
theorem decFl_tidy : DecTidy decFl := fun _H _n _cs _y _ h => h
abbrev fltV (H : Heap) (v : Value) : Option (List Nat) := listV 1 decFl H v
theorem fltV_form {H : Heap} {v : Value} {l : List Nat} (h : fltV H v = some l) :
   ∃ oa c, v = .slice oa l.length c ∧ l.length < 2147483648 ∧ (oa = none → c = 0) ∧ ∀ i (hi : i < l.length), ∃ a, oa = some a ∧ flat a = true ∧ cellA H a.block (a.off + i) = some (fl l[i]) := by
 obtain ⟨oa, c, e, h1, h2, h3⟩ := listV_form h
 refine ⟨oa, c, e, h1, h2, fun i hi => ?_⟩
 obtain ⟨a, r, e1, e2, e3, e4⟩ := h3 i hi
 rw [Nat.mul_one] at e3
 obtain ⟨x, rfl, hx⟩ := cells_one e3
 refine ⟨a, e1, e2, ?_⟩
 rw [hx]
 unfold decFl at e4
 split at e4
 · rename_i b hb
   injection hb with hb
   injection e4 with e4
   rw [hb, e4]
 · cases e4
def errsL (l : List Nat) : List Value := l.flatMap fun b => [iv (err32 b)]
def sixL (l : List Nat) : List Value := l.flatMap fun b => [iv (six32 b)]
theorem errsL_eq (l : List Nat) : errsL l = (l.map err32).map iv := by
 induction l with
 | nil => rfl
 | cons b l ih => simp [errsL] at ih ⊢; exact ih
theorem sixL_eq (l : List Nat) : sixL l = (l.map six32).map iv := by
 induction l with
 | nil => rfl
 | cons b l ih => simp [sixL] at ih ⊢; exact ih
theorem ivs_ren (ρ : Nat → Nat) : ∀ l : List Int, renL ρ (l.map iv) = l.map iv
 | [] => rfl
 | x :: l => by simp only [List.map_cons, renL, ivs_ren ρ l]; rfl
theorem sz27i : Tryz.t27.size = 1 := by kernel_rfl
theorem by27 : Tryz.t27.bytes ≤ 128 := by decide +kernel
theorem zo27 : zeroOk Tryz.t27 = true := by kernel_rfl
theorem sz3i : Tryz.t3.size = 1 := by kernel_rfl
theorem by3 : Tryz.t3.bytes ≤ 128 := by decide +kernel
theorem zo3 : zeroOk Tryz.t3 = true := by kernel_rfl
set_option maxRecDepth 20000 in
theorem w205 {H : Heap} {n : Nat} {v : Value} {l : List Nat} (hV : fltV H v = some l) : AC Tryz.prog 205 [v, .func (.func 206) #[] #[]] H n (outS n l.length) (outSB n 27 1 l.length (errsL l) ++ H) (n + 1) := by
 refine AC.given fun hold hsc hgn => AC.tidied (fun x hx => outSB_ge x hx) ?_
 replace hV : fltV (tidy n H) v = some l := listV_tidy decFl_tidy (fun k b h => (hold k b h).1) hV
 have hr := recT_ok (P := Tryz.prog) (l := [(206, gFl fun b => iv (err32 b))]) (by simp [ok206])
 obtain ⟨oa, c, rfl, hlt, _, hrow⟩ := fltV_form hV
 refine AC.grown Tryz.func205 rfl (by kernel_rfl) rfl [1, 5, 8, 9, 10] ?_
 refine E.seq ?_
 refine E.reg hr (by simp; rfl) ?_
 refine E.seq ?_
 refine E.reg hr (by simp; rfl) ?_
 refine E.seq ?_
 refine E.seq ?_
 refine E.reg hr (by simp; rfl) ?_
 refine E.block ?_
 refine E.loop ?_
 refine EL.ind (fun x : Nat × Heap × Nat × Nat => { fr := [(1, .func (.func 206) #[] #[]), (5, outS x.2.2.2 x.1), (8, .slice oa l.length c), (9, iv l.length), (10, iv x.1)], sz := 22, H := x.2.1, n := x.2.2.1, marks := [], vs := [1, 5, 8, 9, 10] }) (fun x => l.length - x.1) (fun x => x.1 ≤ l.length ∧ GL (tidy n H) n 27 1 (errsL (l.take x.1)) x.1 x.2.1 x.2.2.1 x.2.2.2) (0, tidy n H, n, n) (.keep rfl rfl rfl (by simp) (Sub.refl _)) ⟨Nat.zero_le _, by simpa [errsL] using GL.start (t := 27) (sz := 1) (Sub.refl (tidy n H)) namesOk_tidy (Nat.le_refl n) (by simp)⟩ (fun _ => rfl) ?_
 rintro ⟨i, Hx, N, o⟩ ⟨hi, hG⟩
 dsimp only at hi hG ⊢
 have hw : IntKind.i64.wrap ((i : Int) + 1) = (i : Int) + 1 := W_in (by omega) (by omega)
 refine E.seq ?_
 refine E.reg hr (by simp; rfl) ?_
 refine E.seq ?_
 by_cases hil : i < l.length
 · obtain ⟨a, rfl, hf, hc⟩ := hrow i hil
   have htk : l.take (i + 1) = l.take i ++ [l[i]] := List.take_succ_eq_append_getElem hil
   have hsn : errsL (l.take i) ++ [iv (err32 l[i])] = errsL (l.take (i + 1)) := by rw [htk]; unfold errsL; rw [List.flatMap_append]; rfl
   obtain ⟨q, hq⟩ : ∃ q, l[i] = q := ⟨_, rfl⟩
   rw [hq] at hc hsn
   have hfl : ∀ H m, gFl (fun b => iv (err32 b)) [.float .f32 q] H m = some (iv (err32 q), H, m) := fun _ _ => rfl
   obtain ⟨Hz, happ, hGz⟩ := hG.app (P := Tryz.prog) (st := 206) (i := Tryz.t27) (new := [iv (err32 q)]) tidy_lt Tryz.underlying206 inf27 sz27i zo27 by27 (by omega) rfl (by omega) rfl rfl
   rw [hsn] at hGz
   refine E.cond (t := true) (by simp [hil]) (fun _ => ?_) (fun h => by cases h)
   refine E.skip ?_
   refine E.seq ?_
   refine E.block ?_
   refine E.seq ?_
   refine E.reg hr (by simp [-cellA, -flat, hil, hf, hG.sub.cell hc]; rfl) ?_
   refine E.reg hr (by simp [-builtinA, run_vcall_tmp, vcallF, target, hfl, happ]; rfl) ?_
   refine E.reg hr (by simp [hw]; rfl) ?_
   exact ⟨(i + 1, Hz, N + 1 + 1, N + 1), .keep rfl rfl rfl (by simp) (Sub.refl _), ⟨hil, hGz⟩, by dsimp only; omega⟩
 · have hil' : i = l.length := by omega
   subst hil'
   rw [List.take_length] at hG
   refine E.cond (t := false) (by simp) (fun h => by cases h) (fun _ => ?_)
   refine E.exit ?_
   refine E.seq ?_
   refine E.reg hr (by simp; rfl) ?_
   refine E.ret ?_
   exact outK.ret rfl rfl (hG.fresh (Nat.le_refl _) (by rw [errsL_eq]; exact afL_iv _) fun ρ => by rw [errsL_eq]; exact ivs_ren ρ _)
end Go.Proofs.YtndlfijfjglkdaaGreatDoor

namespace Go.Proofs.YtndlfijfjglkdaaGreatDoor
open Go Go.Ab Go.Proofs Ieee
def g205 (args : List Value) (H : Heap) (n : Nat) : R := match args with
 | [v, .func (.func 206) ⟨[]⟩ ⟨[]⟩] => (fltV H v).map fun l => (outS n l.length, outSB n 27 1 l.length (errsL l) ++ H, n + 1)
 | _ => none
theorem ok205 : EntOk Tryz.prog (205, g205) := by
 intro args H n v H' n' h
 simp only [g205] at h
 split at h
 · rw [Option.map_eq_some_iff] at h
   obtain ⟨l, h1, h⟩ := h
   injection h with e1 e2; injection e2 with e2 e3; subst e1 e2 e3
   exact w205 h1
 · cases h
theorem first_out {H : Heap} {n m : Nat} {l : List Nat} (hl : l.length < 2147483648) : g113' [outS n l.length] (outSB n 27 1 l.length (errsL l) ++ H) m = some (iv (firstV (l.map err32)), outSB n 27 1 l.length (errsL l) ++ H, m) := by
 by_cases h0 : l.length = 0
 · obtain rfl := List.length_eq_zero_iff.1 h0
   rfl
 · have hb : outSB n 27 1 l.length (errsL l) = [(n, .ext (errsL l) 27 1)] := if_neg h0
   rw [outS_ne h0, hb]
   have : intsAt ([(n, Blk.ext (errsL l) 27 1)] ++ H) ⟨n, 0, some 0⟩ l.length = some (l.map err32) := by
     refine intsAt_iv rfl ?_ hl
     rw [cellsA_eq, List.singleton_append, hget_cons, if_pos rfl]
     show cellsB 0 l.length (.ext (errsL l) 27 1) = _
     rw [errsL_eq]
     simp [cellsB]
     exact List.take_of_length_le (by simp)
   simp only [g113', this, Option.map_some]
def chkV (m : Int) (l : List Nat) : Int := if m < l.length then 5 else firstV (l.map err32)
theorem w155 {H : Heap} {n : Nat} {v : Value} {l : List Nat} (m : Int) (hV : fltV H v = some l) : AC Tryz.prog 155 [v, iv m] H n (iv (chkV m l)) H n := by
 refine AC.given fun hold hsc hgn => AC.tidied (B := []) (by simp) ?_
 replace hV : fltV (tidy n H) v = some l := listV_tidy decFl_tidy (fun k b h => (hold k b h).1) hV
 have hr := recT_ok (P := Tryz.prog) (l := [(205, g205), (113, g113')]) (by simp [ok205, ok113'])
 obtain ⟨oa, c, rfl, hlt, _, _⟩ := fltV_form hV
 have h205 : ∀ k, g205 [.slice oa l.length c, .func (.func 206) #[] #[]] (tidy n H) k = some (outS k l.length, outSB k 27 1 l.length (errsL l) ++ tidy n H, k + 1) := fun k => by
   simp only [g205, hV, Option.map_some]
 have h113 := first_out (H := tidy n H) (n := n) (m := n + 1) (l := l) hlt
 refine AC.pure Tryz.func155 rfl (by kernel_rfl) rfl [] rfl ?_
 refine E.seq ?_
 refine E.reg hr (by simp; rfl) ?_
 refine E.seq ?_
 refine E.seq ?_
 refine E.reg hr (by simp; rfl) ?_
 by_cases hm : m < l.length
 · refine E.cond (t := true) (by simp [hm]) (fun _ => ?_) (fun h => by cases h)
   refine E.seq ?_
   refine E.reg hr (by simp; rfl) ?_
   refine E.ret ?_
   exact pureK.ret rfl rfl (by simp [chkV, hm]) (Sub.refl _)
 · refine E.cond (t := false) (by simp [hm]) (fun h => by cases h) (fun _ => ?_)
   refine E.skip ?_
   refine E.seq ?_
   refine E.reg hr (by simp [h205, h113]; rfl) ?_
   refine E.ret ?_
   exact pureK.ret rfl rfl (by simp [chkV, hm]) (Sub.app (fun x hx => namesOk_none namesOk_tidy _ (outSB_ge x hx)) (Sub.refl _))
def g155 (args : List Value) (H : Heap) (n : Nat) : R := match args with
 | [v, .int .i64 m] => (fltV H v).map fun l => (iv (chkV m l), H, n)
 | _ => none
theorem ok155 : EntOk Tryz.prog (155, g155) := by
 intro args H n v H' n' h
 simp only [g155] at h
 split at h
 · rw [Option.map_eq_some_iff] at h
   obtain ⟨l, h1, h⟩ := h
   injection h with e1 e2; injection e2 with e2 e3; subst e1 e2 e3
   exact w155 _ h1
 · cases h
set_option maxRecDepth 20000 in
theorem w202 {H : Heap} {n : Nat} {v : Value} {l : List Nat} (hV : fltV H v = some l) (hS : ∀ b ∈ l, sm32 b = true) : AC Tryz.prog 202 [v, .func (.func 203) #[] #[]] H n (outS n l.length) (outSB n 3 1 l.length (sixL l) ++ H) (n + 1) := by
 refine AC.given fun hold hsc hgn => AC.tidied (fun x hx => outSB_ge x hx) ?_
 replace hV : fltV (tidy n H) v = some l := listV_tidy decFl_tidy (fun k b h => (hold k b h).1) hV
 have hr := recT_ok (P := Tryz.prog) (l := [(203, gSix)]) (by simp [ok203])
 obtain ⟨oa, c, rfl, hlt, _, hrow⟩ := fltV_form hV
 refine AC.grown Tryz.func202 rfl (by kernel_rfl) rfl [1, 5, 8, 9, 10] ?_
 refine E.seq ?_
 refine E.reg hr (by simp; rfl) ?_
 refine E.seq ?_
 refine E.reg hr (by simp; rfl) ?_
 refine E.seq ?_
 refine E.seq ?_
 refine E.reg hr (by simp; rfl) ?_
 refine E.block ?_
 refine E.loop ?_
 refine EL.ind (fun x : Nat × Heap × Nat × Nat => { fr := [(1, .func (.func 203) #[] #[]), (5, outS x.2.2.2 x.1), (8, .slice oa l.length c), (9, iv l.length), (10, iv x.1)], sz := 22, H := x.2.1, n := x.2.2.1, marks := [], vs := [1, 5, 8, 9, 10] }) (fun x => l.length - x.1) (fun x => x.1 ≤ l.length ∧ GL (tidy n H) n 3 1 (sixL (l.take x.1)) x.1 x.2.1 x.2.2.1 x.2.2.2) (0, tidy n H, n, n) (.keep rfl rfl rfl (by simp) (Sub.refl _)) ⟨Nat.zero_le _, by simpa [sixL] using GL.start (t := 3) (sz := 1) (Sub.refl (tidy n H)) namesOk_tidy (Nat.le_refl n) (by simp)⟩ (fun _ => rfl) ?_
 rintro ⟨i, Hx, N, o⟩ ⟨hi, hG⟩
 dsimp only at hi hG ⊢
 have hw : IntKind.i64.wrap ((i : Int) + 1) = (i : Int) + 1 := W_in (by omega) (by omega)
 refine E.seq ?_
 refine E.reg hr (by simp; rfl) ?_
 refine E.seq ?_
 by_cases hil : i < l.length
 · obtain ⟨a, rfl, hf, hc⟩ := hrow i hil
   have htk : l.take (i + 1) = l.take i ++ [l[i]] := List.take_succ_eq_append_getElem hil
   have hsn : sixL (l.take i) ++ [iv (six32 l[i])] = sixL (l.take (i + 1)) := by rw [htk]; unfold sixL; rw [List.flatMap_append]; rfl
   obtain ⟨q, hq⟩ : ∃ q, l[i] = q := ⟨_, rfl⟩
   rw [hq] at hc hsn
   have hfl : ∀ H m, gSix [.float .f32 q] H m = some (iv (six32 q), H, m) := fun _ _ => if_pos (hS q (hq ▸ List.getElem_mem hil))
   obtain ⟨Hz, happ, hGz⟩ := hG.app (P := Tryz.prog) (st := 45) (i := Tryz.t3) (new := [iv (six32 q)]) tidy_lt Tryz.underlying45 inf3 sz3i zo3 by3 (by omega) rfl (by omega) rfl rfl
   rw [hsn] at hGz
   refine E.cond (t := true) (by simp [hil]) (fun _ => ?_) (fun h => by cases h)
   refine E.skip ?_
   refine E.seq ?_
   refine E.block ?_
   refine E.seq ?_
   refine E.reg hr (by simp [-cellA, -flat, hil, hf, hG.sub.cell hc]; rfl) ?_
   refine E.reg hr (by simp [-builtinA, run_vcall_tmp, vcallF, target, hfl, happ]; rfl) ?_
   refine E.reg hr (by simp [hw]; rfl) ?_
   exact ⟨(i + 1, Hz, N + 1 + 1, N + 1), .keep rfl rfl rfl (by simp) (Sub.refl _), ⟨hil, hGz⟩, by dsimp only; omega⟩
 · have hil' : i = l.length := by omega
   subst hil'
   rw [List.take_length] at hG
   refine E.cond (t := false) (by simp) (fun h => by cases h) (fun _ => ?_)
   refine E.exit ?_
   refine E.seq ?_
   refine E.reg hr (by simp; rfl) ?_
   refine E.ret ?_
   exact outK.ret rfl rfl (hG.fresh (Nat.le_refl _) (by rw [sixL_eq]; exact afL_iv _) fun ρ => by rw [sixL_eq]; exact ivs_ren ρ _)
def allSm (l : List Nat) : Bool := l.all sm32
def g202 (args : List Value) (H : Heap) (n : Nat) : R := match args with
 | [v, .func (.func 203) ⟨[]⟩ ⟨[]⟩] => match fltV H v with
   | some l => if allSm l = true then some (outS n l.length, outSB n 3 1 l.length (sixL l) ++ H, n + 1) else none
   | none => none
 | _ => none
theorem ok202 : EntOk Tryz.prog (202, g202) := by
 intro args H n v H' n' h
 simp only [g202] at h
 split at h
 · split at h
   · rename_i h1
     split at h
     · rename_i h2
       injection h with h; injection h with e1 e2; injection e2 with e2 e3; subst e1 e2 e3
       exact w202 h1 (List.all_eq_true.1 h2)
     · cases h
   · cases h
 · cases h
theorem w153 {H : Heap} {n : Nat} {v : Value} {l : List Nat} (hV : fltV H v = some l) (hS : allSm l = true) : AC Tryz.prog 153 [v] H n (outS n l.length) (outSB n 3 1 l.length (sixL l) ++ H) (n + 1) := by
 refine AC.given fun hold hsc hgn => AC.tidied (fun x hx => outSB_ge x hx) ?_
 replace hV : fltV (tidy n H) v = some l := listV_tidy decFl_tidy (fun k b h => (hold k b h).1) hV
 have hr := recT_ok (P := Tryz.prog) (l := [(202, g202)]) (by simp [ok202])
 obtain ⟨oa, c, rfl, hlt, _, _⟩ := fltV_form hV
 have h202 : ∀ k, g202 [.slice oa l.length c, .func (.func 203) #[] #[]] (tidy n H) k = some (outS k l.length, outSB k 3 1 l.length (sixL l) ++ tidy n H, k + 1) := fun k => by
   simp only [g202, hV]
   rw [if_pos hS]
 refine AC.grown Tryz.func153 rfl (by kernel_rfl) rfl [] ?_
 refine E.seq ?_
 refine E.reg hr (by simp; rfl) ?_
 refine E.seq ?_
 refine E.reg hr (by simp [h202]; rfl) ?_
 refine E.ret ?_
 exact outK.ret rfl rfl (fresh_sb (by rw [sixL_eq]; exact afL_iv _) (fun ρ => by rw [sixL_eq]; exact ivs_ren ρ _) (Nat.le_refl _) (Sub.refl _) (by simp))
def g153 (args : List Value) (H : Heap) (n : Nat) : R := match args with
 | [v] => match fltV H v with
   | some l => if allSm l = true then some (outS n l.length, outSB n 3 1 l.length (sixL l) ++ H, n + 1) else none
   | none => none
 | _ => none
theorem ok153 : EntOk Tryz.prog (153, g153) := by
 intro args H n v H' n' h
 simp only [g153] at h
 split at h
 · split at h
   · rename_i h1
     split at h
     · rename_i h2
       injection h with h; injection h with e1 e2; injection e2 with e2 e3; subst e1 e2 e3
       exact w153 h1 h2
     · cases h
   · cases h
 · cases h
end Go.Proofs.YtndlfijfjglkdaaGreatDoor

namespace Go.Proofs.YtndlfijfjglkdaaGreatDoor
open Go Go.Ab Go.Proofs Ieee
end Go.Proofs.YtndlfijfjglkdaaGreatDoor

namespace Go.Ab
open Go
end Go.Ab

namespace Go.Proofs.YtndlfijfjglkdaaGreatDoor
open Go Go.Ab Go.Proofs Go.Soft
end Go.Proofs.YtndlfijfjglkdaaGreatDoor

namespace Go.Proofs.YtndlfijfjglkdaaGreatDoor
open Go Go.Ab Go.Proofs Go.Soft
end Go.Proofs.YtndlfijfjglkdaaGreatDoor

namespace Go.Proofs.YtndlfijfjglkdaaGreatDoor
open Go Go.Ab Go.Proofs Go.Soft
end Go.Proofs.YtndlfijfjglkdaaGreatDoor

namespace Go.Proofs.YtndlfijfjglkdaaGreatDoor
open Go Go.Ab Go.Proofs Go.Soft
theorem GunsAt.at {H : Heap} {a : Addr} {c : Nat} {l : List Gun} (h : GunsAt H (.slice (some a) l.length c) l) : gunsAt H a l.length = some l := by
 obtain ⟨a', c', e, hf, hc, h0, hlt⟩ := h
 injection e with e1 e2 e3
 injection e1 with e1
 subst e1
 have hb : Nat.blt l.length 9223372036854775808 = true := (blt_iff _ _).2 (by omega)
 unfold gunsAt
 rw [hf, hb]
 simp only [Bool.and_self, if_true]
 rw [hc]
 exact gunsOf_gcs l
end Go.Proofs.YtndlfijfjglkdaaGreatDoor

namespace Go.Proofs.YtndlfijfjglkdaaGreatDoor
open Go Go.Ab Go.Proofs Go.Soft
end Go.Proofs.YtndlfijfjglkdaaGreatDoor

namespace Go.Proofs.YtndlfijfjglkdaaGreatDoor
open Go Go.Ab Go.Proofs Go.Soft
def RowG (H : Heap) (m : Nat) (Z : List Gun) : Prop := hget H m = some (.ext (gcs Z) 95 7) ∨ hget H m = some (.row (gcs Z) 7)
end Go.Proofs.YtndlfijfjglkdaaGreatDoor

namespace Go.Proofs.YtndlfijfjglkdaaGreatDoor
open Go Go.Ab Go.Proofs Go.Soft
def Dis (l : List Gun) : Prop := ∀ i j (hi : i < l.length) (hj : j < l.length), l[i].name = l[j].name → i = j
theorem strE_zero {l : List Gun} (h : strE l = 0) : l ≠ [] ∧ l.length ≤ 8 ∧ Dis l ∧ ∀ g ∈ l, 1 ≤ g.v ∧ g.v ≤ 64 := by
 unfold strE at h
 split at h
 · cases h
 · rename_i h0
   split at h
   · cases h
   · rename_i h8
     have hz : ∀ i, i < l.length → gunChk l i = 0 := fun i hi => (firstV_zero _).1 h _ (List.mem_map.2 ⟨i, List.mem_range.2 hi, rfl⟩)
     have hg : ∀ i (hi : i < l.length), nameE l[i].name = 0 ∧ (if 0 ≤ atV l l[i].name i then (9 : Int) else 0) = 0 ∧ l[i].err = 0 := fun i hi => by
       have := hz i hi
       rw [gunChk_at hi] at this
       have h1 := (firstV_zero _).1 this
       exact ⟨h1 _ (by simp), h1 _ (by simp), h1 _ (by simp)⟩
     have hlt : ∀ i j (hi : i < l.length) (hj : j < l.length), i < j → l[i].name ≠ l[j].name := fun i j hi hj hij e => by
       have h2 := (hg j hj).2.1
       have hex : ∃ k, ∃ hk : k < j, (l[k]'(by omega)).name = l[j].name := ⟨i, hij, e⟩
       have h3 : 0 ≤ atV l l[j].name j := by
         apply Classical.byContradiction
         intro hn
         unfold atV at hn
         split at hn
         · omega
         · rename_i hf
           rw [List.findIdx?_eq_none_iff] at hf
           have hm : l[i] ∈ l.take j := by
             rw [List.mem_take_iff_getElem]
             exact ⟨i, by omega, rfl⟩
           have := hf _ hm
           simp [e] at this
       rw [if_pos h3] at h2
       cases h2
     refine ⟨fun e => h0 (by rw [e]; rfl), by omega, fun i j hi hj e => ?_, fun g hgm => ?_⟩
     · rcases Nat.lt_trichotomy i j with h | h | h
       · exact absurd e (hlt i j hi hj h)
       · exact h
       · exact absurd e.symm (hlt j i hj hi h)
     · obtain ⟨i, hi, rfl⟩ := List.getElem_of_mem hgm
       have h1 := (hg i hi).2.2
       unfold Gun.err at h1
       have h2 := (firstV_zero _).1 h1 (withinV l[i].v 1 64) (by simp)
       unfold withinV at h2
       split at h2
       · cases h2
       · omega
end Go.Proofs.YtndlfijfjglkdaaGreatDoor

namespace Go.Proofs.YtndlfijfjglkdaaGreatDoor
open Go Go.Ab Go.Proofs Go.Soft
def OwnG (H : Heap) (v : Value) (l : List Gun) : Prop := ∃ b, v = .slice (some ⟨b, 0, some 0⟩) l.length 0 ∧ RowG H b l ∧ 0 < l.length ∧ l.length < 2147483648
theorem OwnG.mono {H H' : Heap} (hs : Sub H H') {v : Value} {l : List Gun} (h : OwnG H v l) : OwnG H' v l := by
 obtain ⟨b, e, h1, h2⟩ := h
 refine ⟨b, e, ?_, h2⟩
 rcases h1 with h1 | h1
 · exact .inl (hs _ _ h1)
 · exact .inr (hs _ _ h1)
theorem OwnG.tidy {H : Heap} {n : Nat} (hl : ∀ k b, hget H k = some b → k < n) {v : Value} {l : List Gun} (h : OwnG H v l) : OwnG (Ab.tidy n H) v l := by
 obtain ⟨b, e, h1, h2⟩ := h
 refine ⟨b, e, ?_, h2⟩
 rcases h1 with h1 | h1
 · exact .inl (hget_tidy.2 ⟨h1, hl _ _ h1, rfl⟩)
 · exact .inr (hget_tidy.2 ⟨h1, hl _ _ h1, rfl⟩)
theorem OwnG.frz {H : Heap} {v : Value} {l : List Gun} (h : OwnG H v l) : OwnG (frzH H) v l := by
 obtain ⟨b, e, h1, h2⟩ := h
 refine ⟨b, e, .inr ?_, h2⟩
 rw [hget_frz]
 rcases h1 with h1 | h1 <;> rw [h1] <;> rfl
theorem OwnG.guns {H : Heap} {v : Value} {l : List Gun} (h : OwnG H v l) : GunsAt H v l := by
 obtain ⟨b, e, h1, h2, h3⟩ := h
 refine ⟨_, 0, e, rfl, ?_, h2, h3⟩
 have hg := gcs_length l
 rcases h1 with h1 | h1 <;> rw [cellsA_eq, h1] <;> simp [cellsB] <;> exact List.take_of_length_le (by omega)
theorem OwnG.check {H : Heap} {v : Value} {l : List Gun} (h : OwnG H v l) (n : Nat) : g31 [.agg ⟨[v]⟩] H n = some (iv (strE l), H, n) := by
 obtain ⟨b, rfl, h1, h2, h3⟩ := h
 have hr : rowOf H b = some (gcs l, 7) := by
   unfold rowOf
   rcases h1 with h1 | h1 <;> rw [h1]
 have hlt : l.length < 2 ^ 63 := by omega
 simp only [g31, hr, gunsOf_gcs]
 rw [if_pos ⟨trivial, hlt⟩]
end Go.Proofs.YtndlfijfjglkdaaGreatDoor

namespace Go.Proofs.YtndlfijfjglkdaaGreatDoor
open Go Go.Ab Go.Proofs Go.Soft
end Go.Proofs.YtndlfijfjglkdaaGreatDoor

namespace Go.Soft
end Go.Soft

namespace Go.Proofs.YtndlfijfjglkdaaGreatDoor
open Go Go.Ab Go.Proofs Go.Soft
end Go.Proofs.YtndlfijfjglkdaaGreatDoor

namespace Go.Proofs.YtndlfijfjglkdaaGreatDoor
open Go Go.Ab Go.Proofs Go.Soft
end Go.Proofs.YtndlfijfjglkdaaGreatDoor

namespace Go.Proofs.YtndlfijfjglkdaaGreatDoor
open Go Go.Ab Go.Proofs Go.Soft
theorem strAt_mono {H H' : Heap} (hs : Sub H H') {x : Value} {l : List Gun} (h : strAt H x = some l) : strAt H' x = some l := by
 unfold strAt at h ⊢
 split at h
 · exact h
 · unfold gunsAt at h ⊢
   split at h
   · rename_i hc
     rw [if_pos hc]
     obtain ⟨cs, h1, h2⟩ := Option.bind_eq_some_iff.1 h
     rw [hs.cells h1]
     exact h2
   · cases h
 · cases h
theorem strAt_tidy {H : Heap} {n : Nat} (hl : ∀ k b, hget H k = some b → k < n) {x : Value} {l : List Gun} (h : strAt H x = some l) : strAt (Ab.tidy n H) x = some l := by
 unfold strAt at h ⊢
 split at h
 · exact h
 · unfold gunsAt at h ⊢
   split at h
   · rename_i hc
     rw [if_pos hc]
     obtain ⟨cs, h1, h2⟩ := Option.bind_eq_some_iff.1 h
     rw [cellsA_tidy hl h1]
     exact h2
   · cases h
 · cases h
theorem strAt_guns {H : Heap} {v : Value} {l : List Gun} (h : strAt H (.agg ⟨[v]⟩) = some l) (hne : l ≠ []) (hlt : l.length < 2147483648) : GunsAt H v l := by
 unfold strAt at h
 split at h
 · injection h with h
   exact absurd h.symm hne
 · rename_i a len c e
   simp only [Value.agg.injEq, Array.mk.injEq, List.cons.injEq, and_true] at e
   subst e
   obtain ⟨hf, hc, hlen, _⟩ := gunsAt_ok h
   subst hlen
   exact ⟨a, c, rfl, hf, hc, List.length_pos_iff.2 hne, hlt⟩
 · cases h
theorem strAt_own {H : Heap} {n : Nat} {v : Value} {l : List Gun} (h : strAt H (.agg ⟨[v]⟩) = some l) (hne : l ≠ []) (hl : l.length ≤ 4096) : g21 [.agg ⟨[v]⟩] H n = some (.agg ⟨[.slice (some ⟨n, 0, some 0⟩) l.length 0]⟩, (n, .ext (gcs l) 95 7) :: H, n + 1) := by
 simp only [g21, h]
 rw [if_neg hne, if_pos hl]
theorem own_row {H : Heap} {n : Nat} {l : List Gun} (hne : l ≠ []) (hl : l.length ≤ 4096) : OwnG ((n, .ext (gcs l) 95 7) :: H) (.slice (some ⟨n, 0, some 0⟩) l.length 0) l :=
 ⟨n, rfl, .inl (by rw [hget_cons, if_pos rfl]), List.length_pos_iff.2 hne, by omega⟩
end Go.Proofs.YtndlfijfjglkdaaGreatDoor

namespace Go.Proofs.YtndlfijfjglkdaaGreatDoor
open Go Go.Ab Go.Proofs Ieee
theorem cellA_read {L : List Nat} {H : Heap} {a o : Nat} : cellA (readA L H) a o = if memN L a = true then cellA H a o else none := by
 rw [cellA_eq, cellA_eq, hget_readA]
 split <;> rfl
theorem cellsA_read {L : List Nat} {H : Heap} {a o k : Nat} : cellsA (readA L H) a o k = if memN L a = true then cellsA H a o k else none := by
 rw [cellsA_eq, cellsA_eq, hget_readA]
 split <;> rfl
end Go.Proofs.YtndlfijfjglkdaaGreatDoor

namespace Go.Proofs.YtndlfijfjglkdaaGreatDoor
open Go Go.Ab Go.Proofs Ieee
def OwnS (H : Heap) (x : Value) (l : List Gun) : Prop := (∃ v, x = .agg ⟨[v]⟩ ∧ OwnG H v l) ∨ (x = nilV ∧ l = [])
theorem OwnS.mono {H H' : Heap} (hs : Sub H H') {x : Value} {l : List Gun} (h : OwnS H x l) : OwnS H' x l := by
 rcases h with ⟨v, e, h⟩ | h
 · exact .inl ⟨v, e, h.mono hs⟩
 · exact .inr h
theorem OwnS.tidy {H : Heap} {n : Nat} (hl : ∀ k b, hget H k = some b → k < n) {x : Value} {l : List Gun} (h : OwnS H x l) : OwnS (Ab.tidy n H) x l := by
 rcases h with ⟨v, e, h⟩ | h
 · exact .inl ⟨v, e, h.tidy hl⟩
 · exact .inr h
theorem OwnS.box {H : Heap} {x : Value} {l : List Gun} (h : OwnS H x l) : ∃ v, x = .agg ⟨[v]⟩ := by
 rcases h with ⟨v, e, _⟩ | h
 · exact ⟨v, e⟩
 · exact ⟨_, h.1⟩
theorem OwnS.check {H : Heap} {x : Value} {l : List Gun} (h : OwnS H x l) (n : Nat) : g31 [x] H n = some (iv (strE l), H, n) := by
 rcases h with ⟨v, rfl, h⟩ | ⟨rfl, rfl⟩
 · exact h.check n
 · rfl
theorem OwnS.own {H : Heap} {x : Value} {l : List Gun} (h : OwnS H x l) (hst : strE l = 0) : ∃ v, x = .agg ⟨[v]⟩ ∧ OwnG H v l := by
 rcases h with h | ⟨rfl, rfl⟩
 · exact h
 · simp [strE] at hst
theorem OwnS.one {H : Heap} {x : Value} {l k : List Gun} (h : OwnS H x l) (h' : OwnS H x k) : l = k := by
 rcases h with ⟨v, rfl, h⟩ | ⟨rfl, rfl⟩ <;> rcases h' with ⟨u, e, h'⟩ | ⟨e, rfl⟩
 · injection e with e
   injection e with e
   injection e with e
   subst e
   exact h.guns.one h'.guns
 · injection e with e
   injection e with e
   injection e with e
   subst e
   obtain ⟨b, e, _⟩ := h
   cases e
 · injection e with e
   injection e with e
   injection e with e
   subst e
   obtain ⟨b, e, _⟩ := h'
   cases e
 · rfl
end Go.Proofs.YtndlfijfjglkdaaGreatDoor

namespace Go.Proofs.YtndlfijfjglkdaaGreatDoor
open Go Go.Ab Go.Proofs
end Go.Proofs.YtndlfijfjglkdaaGreatDoor

namespace Go.Proofs.YtndlfijfjglkdaaGreatDoor
open Go Go.Ab Go.Proofs
end Go.Proofs.YtndlfijfjglkdaaGreatDoor

namespace Go.Proofs.YtndlfijfjglkdaaGreatDoor
open Go Go.Ab Go.Proofs
end Go.Proofs.YtndlfijfjglkdaaGreatDoor

namespace Go.Ab
open Go
end Go.Ab

namespace Go.Ab
open Go
end Go.Ab

namespace Go.Proofs.YtndlfijfjglkdaaGreatDoor
open Go Go.Ab Go.Proofs
end Go.Proofs.YtndlfijfjglkdaaGreatDoor

namespace Go.Proofs.YtndlfijfjglkdaaGreatDoor
open Go Go.Ab Go.Proofs Ieee
theorem good_of {b : Nat} (h : err32 b = 0) : good32 b = true := by
 unfold err32 at h
 split at h
 · split at h
   · assumption
   · cases h
 · cases h
theorem allSm_of {fs : List Nat} (h : ∀ b ∈ fs, good32 b = true) : allSm fs = true := List.all_eq_true.2 fun b hb => sm_good (h b hb)
theorem OwnG.rows {H : Heap} {v : Value} {l : List Gun} (h : OwnG H v l) : ∃ b, v = .slice (some ⟨b, 0, some 0⟩) l.length 0 ∧ rowGuns H b l.length = some l ∧ 0 < l.length := by
 obtain ⟨b, e, h1, h2, h3⟩ := h
 refine ⟨b, e, ?_, h2⟩
 have hr : rowOf H b = some (gcs l, 7) := by
   unfold rowOf
   rcases h1 with h1 | h1 <;> rw [h1]
 unfold rowGuns
 rw [hr]
 simp [gunsOf_gcs, show l.length < 9223372036854775808 by omega]
theorem OwnG.arr {H : Heap} {v : Value} {l : List Gun} {d : ByteArray} (h : OwnG H v l) (hst : strE l = 0) (hd : hasW d dirs = true) (n : Nat) : g116 [.agg ⟨[v]⟩, sv d] H n = some (.slice (some ⟨n, 0, some 0⟩) (arrL d l).length 0, (n, .ext ((arrL d l).map iv) 3 1) :: H, n + 1) := by
 obtain ⟨b, rfl, h1, _⟩ := h.rows
 simp only [g116, h1]
 rw [if_pos ⟨hst, hd⟩]
end Go.Proofs.YtndlfijfjglkdaaGreatDoor

namespace Go.Proofs.YtndlfijfjglkdaaGreatDoor
open Go Go.Ab Go.Proofs Ieee
end Go.Proofs.YtndlfijfjglkdaaGreatDoor

namespace Go.Proofs.YtndlfijfjglkdaaGreatDoor
open Go Go.Ab Go.Proofs Ieee
end Go.Proofs.YtndlfijfjglkdaaGreatDoor

namespace Go.Proofs.YtndlfijfjglkdaaGreatDoor
open Go Go.Ab Go.Proofs Ieee
theorem OwnG.gun {H : Heap} {b : Nat} {l : List Gun} (h : OwnG H (.slice (some ⟨b, 0, some 0⟩) l.length 0) l) {i : Nat} (hi : i < l.length) : cellsA H b (i * 7) 7 = some l[i].cells := by
 obtain ⟨b', e, hr, _⟩ := h
 injection e with e
 injection e with e
 injection e with e
 subst e
 have hc : cellsA H b 0 (l.length * 7) = some (gcs l) := by
   have hg := gcs_length l
   rcases hr with h1 | h1 <;> rw [cellsA_eq, h1] <;> simp [cellsB] <;> exact List.take_of_length_le (by omega)
 have := cells_part (sz := 7) (i := i) hc hi
 rwa [gcs_atB hi, Nat.zero_add] at this
end Go.Proofs.YtndlfijfjglkdaaGreatDoor

namespace Go.Proofs.YtndlfijfjglkdaaGreatDoor
open Go Go.Ab Go.Proofs Ieee
end Go.Proofs.YtndlfijfjglkdaaGreatDoor

namespace Go.Proofs.YtndlfijfjglkdaaGreatDoor
open Go Go.Ab Go.Proofs Ieee
end Go.Proofs.YtndlfijfjglkdaaGreatDoor

namespace Go.Ab
open Go
end Go.Ab

namespace Go.Proofs.YtndlfijfjglkdaaGreatDoor
open Go Go.Ab Go.Proofs Ieee
theorem fltV_ext {H : Heap} {k c t : Nat} {l : List Nat} (h : hget H k = some (.ext (l.map fv) t 1)) (hl : l.length < 2147483648) : fltV H (.slice (some ⟨k, 0, some 0⟩) l.length c) = some l := by
 have e : ∀ l : List Nat, l.flatMap (fun b => [fv b]) = l.map fv := fun l => by
   induction l with
   | nil => rfl
   | cons x l ih => rw [List.flatMap_cons, ih]; rfl
 refine listV_flat (c := fun b : Nat => [fv b]) (fun _ => rfl) (fun _ => rfl) rfl ?_ hl
 show cellsA H k 0 _ = _
 rw [cellsA_eq, h, e]
 simp [cellsB]
 exact List.take_of_length_le (by simp)
end Go.Proofs.YtndlfijfjglkdaaGreatDoor

namespace Go.Proofs.YtndlfijfjglkdaaGreatDoor
open Go Go.Ab Go.Proofs Ieee
def okSh (l : List Gun) (sh : List Int) : Prop := ∀ j (h : j < sh.length), (gAt l j).lo ≤ sh[j] ∧ sh[j] ≤ (gAt l j).hi
theorem okSh_all {l : List Gun} {sh : List Int} (h : okSh l sh) (hl : sh.length = l.length) : shE l sh = 0 := by
 refine shE_ok hl fun j hj => ?_
 rw [shC_at hj (by omega)]
 have := h j (by omega)
 rw [gAt_at l hj] at this
 exact (withinV_zero _ _ _).2 this
end Go.Proofs.YtndlfijfjglkdaaGreatDoor

namespace Go.Proofs.YtndlfijfjglkdaaGreatDoor
open Go Go.Ab Go.Proofs Ieee
end Go.Proofs.YtndlfijfjglkdaaGreatDoor

namespace Go.Proofs.YtndlfijfjglkdaaGreatDoor
open Go Go.Ab Go.Proofs Ieee
theorem strAt_form {H : Heap} {x : Value} {l : List Gun} (h : strAt H x = some l) : ∃ oa c, x = .agg ⟨[.slice oa l.length c]⟩ := by
 unfold strAt at h
 split at h
 · injection h with h; subst h; exact ⟨none, 0, rfl⟩
 · obtain ⟨_, _, rfl, _⟩ := gunsAt_ok h
   exact ⟨_, _, rfl⟩
 · cases h
theorem w76 {H : Heap} {n : Nat} {x : Value} {l : List Gun} (hx : strAt H x = some l) : AC Tryz.prog 76 [x] H n (.bool (decide (l.length ≤ 4))) H n := by
 refine AC.given fun hold hsc hgn => AC.tidied (B := []) (by simp) ?_
 have hr := recT_ok (P := Tryz.prog) (l := []) (by simp)
 obtain ⟨oa, c, rfl⟩ := strAt_form hx
 refine AC.pure Tryz.func76 rfl (by kernel_rfl) rfl [0, 1, 2] rfl ?_
 refine E.seq ?_
 refine E.reg hr (by simp; rfl) ?_
 refine E.seq ?_
 refine E.reg hr (by simp; rfl) ?_
 refine E.ret ?_
 exact pureK.ret rfl rfl (by simp; omega) (Sub.cons (by simp) (Sub.refl _))
def g76 (args : List Value) (H : Heap) (n : Nat) : R := match args with
 | [x] => (strAt H x).map fun l => (.bool (decide (l.length ≤ 4)), H, n)
 | _ => none
theorem ok76 : EntOk Tryz.prog (76, g76) := by
 intro args H n v H' n' h
 simp only [g76] at h
 split at h
 · rw [Option.map_eq_some_iff] at h
   obtain ⟨l, h1, h⟩ := h
   injection h with e1 e2; injection e2 with e2 e3; subst e1 e2 e3
   exact w76 h1
 · cases h
end Go.Proofs.YtndlfijfjglkdaaGreatDoor

namespace Go.Proofs.YtndlfijfjglkdaaGreatDoor
open Go Go.Ab Go.Proofs Ieee
theorem samp_val {n : Int} (h1 : -4096 ≤ n) (h2 : n ≤ 4096) : fin32 (sampB n) = true ∧ 16 * val32 (sampB n) = n * UV := by
 obtain ⟨r, e, h3, h4⟩ := div16 (n := n) (by omega)
 have : sampB n = r := by
   unfold sampB sampQ
   rw [show FloatKind.f32.format = single from rfl, e]
   rfl
 rw [this]
 exact ⟨h3, h4⟩
end Go.Proofs.YtndlfijfjglkdaaGreatDoor

namespace Go.Proofs.YtndlfijfjglkdaaGreatDoor
open Go Go.Ab Go.Proofs Ieee
end Go.Proofs.YtndlfijfjglkdaaGreatDoor

namespace Go.Proofs.YtndlfijfjglkdaaGreatDoor
open Go Go.Ab Go.Proofs Ieee
def four (ns : List Int) (k : Nat) : Int × Int × Int :=
 ((ns.getD (4 * k) 0 + ns.getD (4 * k + 1) 0 + ns.getD (4 * k + 2) 0 + ns.getD (4 * k + 3) 0) * (ns.getD (4 * k) 0 + ns.getD (4 * k + 1) 0 + ns.getD (4 * k + 2) 0 + ns.getD (4 * k + 3) 0),
  (ns.getD (4 * k) 0 - ns.getD (4 * k + 2) 0) * (ns.getD (4 * k) 0 - ns.getD (4 * k + 2) 0) + (ns.getD (4 * k + 1) 0 - ns.getD (4 * k + 3) 0) * (ns.getD (4 * k + 1) 0 - ns.getD (4 * k + 3) 0),
  (ns.getD (4 * k) 0 - ns.getD (4 * k + 1) 0 + ns.getD (4 * k + 2) 0 - ns.getD (4 * k + 3) 0) * (ns.getD (4 * k) 0 - ns.getD (4 * k + 1) 0 + ns.getD (4 * k + 2) 0 - ns.getD (4 * k + 3) 0))
def bacc (ns : List Int) : Nat → Int × Int × Int
 | 0 => (0, 0, 0)
 | k + 1 => ((bacc ns k).1 + (four ns k).1, (bacc ns k).2.1 + (four ns k).2.1, (bacc ns k).2.2 + (four ns k).2.2)
def bandV (p : Int × Int × Int) : Value := .agg ⟨[iv p.1, iv p.2.1, iv p.2.2]⟩
theorem sq_bd {x B : Int} (h1 : -B ≤ x) (h2 : x ≤ B) : 0 ≤ x * x ∧ x * x ≤ B * B := by
 constructor
 · rcases Int.le_total 0 x with h | h
   · exact Int.mul_nonneg h h
   · have := Int.mul_nonneg (show 0 ≤ -x by omega) (show 0 ≤ -x by omega)
     rwa [Int.neg_mul_neg] at this
 · have h3 : 0 ≤ (B - x) * (B + x) := Int.mul_nonneg (by omega) (by omega)
   have h4 : (B - x) * (B + x) = B * B - x * x := by
     rw [Int.sub_mul, Int.mul_add, Int.mul_add, Int.mul_comm x B]
     omega
   omega
def inS (ns : List Int) : Prop := ∀ x ∈ ns, -16384 ≤ x ∧ x ≤ 16384
theorem inS_at {ns : List Int} (h : inS ns) (k : Nat) : -16384 ≤ ns.getD k 0 ∧ ns.getD k 0 ≤ 16384 := by
 rw [List.getD_eq_getElem?_getD]
 by_cases hk : k < ns.length
 · rw [List.getElem?_eq_getElem hk]
   exact h _ (List.getElem_mem hk)
 · rw [List.getElem?_eq_none (by omega)]
   simp
theorem four_bd {ns : List Int} (h : inS ns) (k : Nat) : (0 ≤ (four ns k).1 ∧ (four ns k).1 ≤ 4294967296) ∧ (0 ≤ (four ns k).2.1 ∧ (four ns k).2.1 ≤ 4294967296) ∧ 0 ≤ (four ns k).2.2 ∧ (four ns k).2.2 ≤ 4294967296 := by
 have a := inS_at h (4 * k)
 have b := inS_at h (4 * k + 1)
 have c := inS_at h (4 * k + 2)
 have d := inS_at h (4 * k + 3)
 have s1 := sq_bd (x := ns.getD (4 * k) 0 + ns.getD (4 * k + 1) 0 + ns.getD (4 * k + 2) 0 + ns.getD (4 * k + 3) 0) (B := 65536) (by omega) (by omega)
 have s2 := sq_bd (x := ns.getD (4 * k) 0 - ns.getD (4 * k + 2) 0) (B := 32768) (by omega) (by omega)
 have s3 := sq_bd (x := ns.getD (4 * k + 1) 0 - ns.getD (4 * k + 3) 0) (B := 32768) (by omega) (by omega)
 have s4 := sq_bd (x := ns.getD (4 * k) 0 - ns.getD (4 * k + 1) 0 + ns.getD (4 * k + 2) 0 - ns.getD (4 * k + 3) 0) (B := 65536) (by omega) (by omega)
 unfold four
 dsimp only
 omega
theorem bacc_bd {ns : List Int} (h : inS ns) : ∀ k : Nat, (0 ≤ (bacc ns k).1 ∧ (bacc ns k).1 ≤ 4294967296 * k) ∧ (0 ≤ (bacc ns k).2.1 ∧ (bacc ns k).2.1 ≤ 4294967296 * k) ∧ 0 ≤ (bacc ns k).2.2 ∧ (bacc ns k).2.2 ≤ 4294967296 * k
 | 0 => by simp [bacc]
 | k + 1 => by
   have h1 := bacc_bd h k
   have h2 := four_bd h k
   rw [bacc]
   dsimp only
   omega
instance decInS (ns : List Int) : Decidable (inS ns) := by unfold inS; infer_instance
end Go.Proofs.YtndlfijfjglkdaaGreatDoor

namespace Go.Proofs.YtndlfijfjglkdaaGreatDoor
open Go Go.Ab Go.Proofs Ieee
noncomputable def asg156 : Code := match rfOf (bodyOf' Tryz.f156) with
 | some x => x.1
 | none => .skip
noncomputable def bdy156 : Code := match rfOf (bodyOf' Tryz.f156) with
 | some x => x.2
 | none => .skip
abbrev fn247 : Value := .func (.func 247) #[] #[.pointer (some ⟨13, 0, none⟩), .pointer (some ⟨14, 0, none⟩)]
abbrev fr156 : Fr := [(11, fn247), (2, .pointer (some ⟨11, 0, none⟩)), (3, .pointer (some ⟨12, 0, none⟩))]
abbrev vs156 : List Nat := [2, 3, 4, 5, 6, 7, 8, 9, 11, 15, 21]
noncomputable abbrev H156 (ls : LoopState) (pe : Option Code) (ns : List Int) (p : Int × Int × Int) : Heap := [(16, .loop ls pe fr156 80 vs156 #[12] asg156 bdy156 15), (15, .defd), (14, .cells [iv 4] 3), (13, .cells [.slice (some ⟨10, 0, some 0⟩) ns.length 0] 45), (12, .cells [iv p.1, iv p.2.1, iv p.2.2] 50), (11, .cells [iv 0, iv 0, iv 0] 50), (10, .row (ns.map iv) 1)]
theorem yieldF_exit {r : Rec} {l : Nat} {args : List Value} {H : Heap} {n : Nat} {fr : Fr} {sz : Nat} {vs : List Nat} {ps : Array Tmp} {a b c : Code} {d : Nat} {s1 s2 : St} {e : Ex}
   (h0 : hget H l = some (.loop .ready none fr sz vs ps a b d)) (hlen : (Nat.beq args.length ps.size && ps.toList.all (fun t => Nat.blt t sz)) = true)
   (h1 : r.code (some l) a { fr := (ps.toList.zip args).foldl (fun fr (t, v) => (t, v) :: fr) fr, sz, H, n, marks := [], vs } = some (.normal, s1)) (hl1 : hget s1.H l = some (.loop .ready none fr sz vs ps a b d))
   (h2 : r.code (some l) b { s1 with H := hset s1.H l (.loop .busy none fr sz vs ps a b d) } = some (e, s2)) (he : Code.ex e = some c) (hl2 : hget s2.H l = some (.loop .busy none fr sz vs ps a b d)) :
   yieldF r l args H n = some (.bool false, hset s2.H l (.loop .done (some c) fr sz vs ps a b d), s2.n) := by
 unfold yieldF
 rw [h0]
 simp only [hlen, h1, hl1, h2, hl2, he]
 rfl
open Classical in
noncomputable def r156 (s1 : St) (e : Ex) (s2 : St) : Rec := recV Tryz.prog (fun _ c _ => match c with
 | .region _ _ _ => some (.normal, s1)
 | .block _ _ => some (e, s2)
 | _ => none) (fun _ _ _ _ => none)
set_option maxRecDepth 100000 in
theorem yield156x (ns : List Int) (p : Int × Int × Int) (i j : Nat) (hj : j < 4) :
   ∃ q, RecOk Tryz.prog q 0 ∧ yieldF q 16 [.slice (some ⟨10, i, none⟩) j j] (H156 .ready none ns p) 17 = some (.bool false, H156 .done (some (.exit 0)) ns p, 17) := by
 have hr := recT_ok (P := Tryz.prog) (l := []) (by simp)
 have hjI : (j : Int) < 4 := by omega
 let s1 : St := { fr := [(4, .slice (some ⟨10, i, none⟩) j j), (11, fn247), (2, .pointer (some ⟨11, 0, none⟩)), (3, .pointer (some ⟨12, 0, none⟩))], sz := 80, H := H156 .ready none ns p, n := 17, marks := [], vs := vs156 }
 let s2 : St := { fr := [], sz := 80, H := H156 .busy none ns p, n := 17, marks := [], vs := [] }
 refine ⟨r156 s1 (.exit 0) s2, recV_ok, ?_⟩
 have hA : AT Tryz.prog (some 16) asg156 { fr := (12, .slice (some ⟨10, i, none⟩) j j) :: fr156, sz := 80, H := H156 .ready none ns p, n := 17, marks := [], vs := vs156 } .normal s1 := by
   refine E.toATc ?_
   refine E.reg hr (by simp; rfl) ?_
   exact ⟨rfl, rfl, rfl, rfl, by simp [s1], by simp [s1]⟩
 have hB : AT Tryz.prog (some 16) bdy156 { s1 with H := H156 .busy none ns p } (.exit 0) s2 := by
   refine E.toATc ?_
   refine E.block ?_
   refine E.seq ?_
   refine E.seq ?_
   refine E.reg hr (by simp [s1]; rfl) ?_
   refine E.cond (t := true) (by simp [hjI]) (fun _ => ?_) (fun h => by cases h)
   refine E.exit ?_
   exact ⟨rfl, rfl, rfl, rfl, by simp [s2], by simp [s2]⟩
 have hh : hset s2.H 16 (.loop .done (some (.exit 0)) fr156 80 vs156 #[12] asg156 bdy156 15) = H156 .done (some (.exit 0)) ns p := by simp [s2]
 rw [← hh]
 refine yieldF_exit (s1 := s1) (s2 := s2) (fr := fr156) (sz := 80) (vs := vs156) (ps := #[12]) (a := asg156) (b := bdy156) (d := 15) (e := .exit 0) (by simp) rfl ?_ (by simp [s1]) ?_ rfl (by simp [s2])
 · exact recV_code (by intro b h; cases h) rfl hA
 · show (r156 s1 (.exit 0) s2).code (some 16) bdy156 { s1 with H := hset s1.H 16 _ } = _
   rw [show hset s1.H 16 (.loop .busy none fr156 80 vs156 #[12] asg156 bdy156 15) = H156 .busy none ns p by simp [s1]]
   exact recV_code (by intro b h; cases h) rfl hB
end Go.Proofs.YtndlfijfjglkdaaGreatDoor

namespace Go.Ab
open Go
section
variable {P : Program}
theorem runS_bind {α β : Type} (a : Sem α) (g : α → Sem β) : runP P (a >>= g) = (runP P a).bind fun x => runP P (g x) := by
 show runP P (Sem.bind a g) = _
 induction a with
 | program k ih => exact ih P
 | mark m k ih => exact ih
 | _ => rfl
theorem runS_pure {α : Type} (a : α) : runP P (pure a : Sem α) = some a := rfl
theorem runS_und {t : TypeId} {d : TypeDesc} (h : P.underlying t = some d) : runP P (underlying t) = some d := by
 show runP P (match P.underlying t with | some d => _ | none => _) = _
 rw [h]
 rfl
theorem runS_int (d : Nat) {t : TypeId} {k k' : IntKind} (n m : Int) (h : P.underlying t = some (.int k')) : runP P (Op.equalIn (d + 1) t (.int k n) (.int k m)) = some (n == m) := by
 simp only [Op.equalIn, runS_bind, runS_und h, Option.bind_some, if_true, runS_pure]
end
end Go.Ab

namespace Go.Ab
open Go
section
variable {P : Program}
theorem runA_eq (d : Nat) {t e : TypeId} {N n : Nat} (xs ys : Array Value) (q : Nat → Bool) (ht : P.underlying t = some (.array N e)) (hn : runP P (sizeOf e) = some n)
   (h : ∀ i, i < N → ∃ a b, runP P (part e xs (i * n)) = some a ∧ runP P (part e ys (i * n)) = some b ∧ runP P (Op.equalIn d e a b) = some (q i)) : runP P (Op.equalIn (d + 1) t (.agg xs) (.agg ys)) = some ((List.range' 0 N 1).all q) := by
 simp only [Op.equalIn, runS_bind, runS_und ht, Option.bind_some, hn]
 simp only [Std.Legacy.Range.forIn_eq_forIn_range', Std.Legacy.Range.size, Nat.sub_zero, Nat.add_one_sub_one, Nat.div_one]
 have hm : ∀ i ∈ List.range' 0 N 1, i < N := fun i hi => by
   rw [List.mem_range'_1] at hi
   omega
 generalize List.range' 0 N 1 = fl at hm
 induction fl with
 | nil => rfl
 | cons i fl ih =>
   obtain ⟨a, b, h1, h2, h3⟩ := h i (hm i (List.mem_cons_self ..))
   have ih := ih fun j hj => hm j (List.mem_cons_of_mem _ hj)
   simp only [List.forIn_cons, runS_bind]
   cases he : q i with
   | true =>
     simp only [h1, h2, h3, he, Option.bind_some, Bool.not_true, Bool.false_eq_true, if_false, runS_pure, List.all_cons, Bool.true_and]
     exact ih
   | false =>
     simp only [h1, h2, h3, he, Option.bind_some, Bool.not_false, if_true, runS_pure, List.all_cons, Bool.false_and]
end
end Go.Ab

namespace Go.Proofs.YtndlfijfjglkdaaGreatDoor
open Go Go.Ab Go.Proofs Ieee
theorem eq281v (a b c d a' b' c' d' : Int) : runP Tryz.prog (Op.equalIn 10000 281 (.agg ⟨[iv a, iv b, iv c, iv d]⟩) (.agg ⟨[iv a', iv b', iv c', iv d']⟩)) = some ((a == a') && ((b == b') && ((c == c') && ((d == d') && true)))) := by
 have := runA_eq (P := Tryz.prog) 9999 (t := 281) (e := 3) (N := 4) (n := 1) ⟨[iv a, iv b, iv c, iv d]⟩ ⟨[iv a', iv b', iv c', iv d']⟩ (fun i => match i with
   | 0 => a == a'
   | 1 => b == b'
   | 2 => c == c'
   | _ => d == d') Tryz.underlying281 (by kernel_rfl) fun i hi => ?_
 · exact this
 · rcases (show i = 0 ∨ i = 1 ∨ i = 2 ∨ i = 3 by omega) with rfl | rfl | rfl | rfl
   · exact ⟨iv a, iv a', by kernel_rfl, by kernel_rfl, runS_int _ _ _ Tryz.underlying3⟩
   · exact ⟨iv b, iv b', by kernel_rfl, by kernel_rfl, runS_int _ _ _ Tryz.underlying3⟩
   · exact ⟨iv c, iv c', by kernel_rfl, by kernel_rfl, runS_int _ _ _ Tryz.underlying3⟩
   · exact ⟨iv d, iv d', by kernel_rfl, by kernel_rfl, runS_int _ _ _ Tryz.underlying3⟩
theorem eq281 {x y : Operand} {H : Heap} {n : Nat} (a b c d a' b' c' d' : Int) : binV Tryz.prog .eql 281 x y (.agg ⟨[iv a, iv b, iv c, iv d]⟩) (.agg ⟨[iv a', iv b', iv c', iv d']⟩) H n = some (.bool ((a == a') && ((b == b') && ((c == c') && ((d == d') && true)))), H, n) := by
 have h : runP Tryz.prog (do eqGuard .eql 281 x y (.agg ⟨[iv a, iv b, iv c, iv d]⟩) (.agg ⟨[iv a', iv b', iv c', iv d']⟩); binOp .eql 281 (.agg ⟨[iv a, iv b, iv c, iv d]⟩) (.agg ⟨[iv a', iv b', iv c', iv d']⟩)) = some (.bool ((a == a') && ((b == b') && ((c == c') && ((d == d') && true))))) := by
   rw [runP_bind']
   have h1 : runP Tryz.prog (eqGuard .eql 281 x y (.agg ⟨[iv a, iv b, iv c, iv d]⟩) (.agg ⟨[iv a', iv b', iv c', iv d']⟩)) = some () := by kernel_rfl
   rw [h1, Option.bind_some]
   show runP Tryz.prog (Op.equalIn 10000 281 (.agg ⟨[iv a, iv b, iv c, iv d]⟩) (.agg ⟨[iv a', iv b', iv c', iv d']⟩) >>= fun b => pure (Value.bool b)) = _
   rw [runP_bind', eq281v]
   rfl
 have ha : afq (.agg ⟨[iv a, iv b, iv c, iv d]⟩) = true := rfl
 have hb : afq (.agg ⟨[iv a', iv b', iv c', iv d']⟩) = true := rfl
 unfold binV
 rw [ha, hb]
 simp only [Bool.and_self, if_true]
 rw [h]
 rfl
theorem eq50v (a b c a' b' c' : Int) : runP Tryz.prog (Op.equalIn 10000 50 (.agg ⟨[iv a, iv b, iv c]⟩) (.agg ⟨[iv a', iv b', iv c']⟩)) = some ((a == a') && ((b == b') && ((c == c') && true))) := by
 have := runA_eq (P := Tryz.prog) 9999 (t := 50) (e := 3) (N := 3) (n := 1) ⟨[iv a, iv b, iv c]⟩ ⟨[iv a', iv b', iv c']⟩ (fun i => match i with
   | 0 => a == a'
   | 1 => b == b'
   | _ => c == c') Tryz.underlying50 (by kernel_rfl) fun i hi => ?_
 · exact this
 · rcases (show i = 0 ∨ i = 1 ∨ i = 2 by omega) with rfl | rfl | rfl
   · exact ⟨iv a, iv a', by kernel_rfl, by kernel_rfl, runS_int _ _ _ Tryz.underlying3⟩
   · exact ⟨iv b, iv b', by kernel_rfl, by kernel_rfl, runS_int _ _ _ Tryz.underlying3⟩
   · exact ⟨iv c, iv c', by kernel_rfl, by kernel_rfl, runS_int _ _ _ Tryz.underlying3⟩
theorem eq50 {x y : Operand} {H : Heap} {n : Nat} (a b c a' b' c' : Int) : binV Tryz.prog .eql 50 x y (.agg ⟨[iv a, iv b, iv c]⟩) (.agg ⟨[iv a', iv b', iv c']⟩) H n = some (.bool ((a == a') && ((b == b') && ((c == c') && true))), H, n) := by
 have h : runP Tryz.prog (do eqGuard .eql 50 x y (.agg ⟨[iv a, iv b, iv c]⟩) (.agg ⟨[iv a', iv b', iv c']⟩); binOp .eql 50 (.agg ⟨[iv a, iv b, iv c]⟩) (.agg ⟨[iv a', iv b', iv c']⟩)) = some (.bool ((a == a') && ((b == b') && ((c == c') && true)))) := by
   rw [runP_bind']
   have h1 : runP Tryz.prog (eqGuard .eql 50 x y (.agg ⟨[iv a, iv b, iv c]⟩) (.agg ⟨[iv a', iv b', iv c']⟩)) = some () := by kernel_rfl
   rw [h1, Option.bind_some]
   show runP Tryz.prog (Op.equalIn 10000 50 (.agg ⟨[iv a, iv b, iv c]⟩) (.agg ⟨[iv a', iv b', iv c']⟩) >>= fun b => pure (Value.bool b)) = _
   rw [runP_bind', eq50v]
   rfl
 have ha : afq (.agg ⟨[iv a, iv b, iv c]⟩) = true := rfl
 have hb : afq (.agg ⟨[iv a', iv b', iv c']⟩) = true := rfl
 unfold binV
 rw [ha, hb]
 simp only [Bool.and_self, if_true]
 rw [h]
 rfl
end Go.Proofs.YtndlfijfjglkdaaGreatDoor

namespace Go.Proofs.YtndlfijfjglkdaaGreatDoor
open Go Go.Ab Go.Proofs Ieee
theorem run_s2ap {P : Program} {r : Rec} {st : St} {dst : Option Tmp} {arr : TypeId} {x : Operand} {ty : TypeId} {ps : String} {af : Array Edge} {g : Option (Nat × Bool)} : runOp P r ⟨dst, .sliceToArrayPointer arr x, ty, ps, af, g⟩ st = opSlicetoarraypointer P arr x st.fr st.H st.n := rfl
theorem build281 {fr : Fr} {H : Heap} {n : Nat} : opBuild Tryz.prog 281 #[] fr H n = some (.agg ⟨[iv 0, iv 0, iv 0, iv 0]⟩, H, n) := by kernel_rfl
theorem build50 {fr : Fr} {H : Heap} {n : Nat} : opBuild Tryz.prog 50 #[] fr H n = some (.agg ⟨[iv 0, iv 0, iv 0]⟩, H, n) := by kernel_rfl
set_option maxRecDepth 100000 in
set_option maxHeartbeats 1000000 in
theorem yield156 (ns : List Int) (k : Nat) (hk : 4 * k + 4 ≤ ns.length) (hl : ns.length ≤ 1024) (hb : inS ns) :
   ∃ q, RecOk Tryz.prog q 0 ∧ yieldF q 16 [.slice (some ⟨10, 4 * k, none⟩) 4 4] (H156 .ready none ns (bacc ns k)) 17 = some (.bool true, H156 .ready none ns (bacc ns (k + 1)), 18) := by
 have hr := recT_ok (P := Tryz.prog) (l := []) (by simp)
 have hAb := bacc_bd hb k
 obtain ⟨A0, hA0⟩ : ∃ A, (bacc ns k).1 = A := ⟨_, rfl⟩
 obtain ⟨A1, hA1⟩ : ∃ A, (bacc ns k).2.1 = A := ⟨_, rfl⟩
 obtain ⟨A2, hA2⟩ : ∃ A, (bacc ns k).2.2 = A := ⟨_, rfl⟩
 have hbs : bacc ns (k + 1) = (A0 + (four ns k).1, A1 + (four ns k).2.1, A2 + (four ns k).2.2) := by rw [bacc, hA0, hA1, hA2]
 have hbk : bacc ns k = (A0, A1, A2) := by rw [← hA0, ← hA1, ← hA2]
 rw [hA0, hA1, hA2] at hAb
 rw [hbk]
 obtain ⟨j, hj⟩ : ∃ j, 4 * k = j := ⟨_, rfl⟩
 unfold four at hbs
 dsimp only at hbs
 rw [hj] at hbs hk ⊢
 have ja := inS_at hb j
 have jb := inS_at hb (j + 1)
 have jc := inS_at hb (j + 2)
 have jd := inS_at hb (j + 3)
 have gd : ∀ i (h : i < ns.length), ns[i] = ns.getD i 0 := fun i h => by rw [List.getD_eq_getElem?_getD, List.getElem?_eq_getElem h]; rfl
 have hrow : ((ns.map iv).drop j).take 4 = [iv (ns.getD j 0), iv (ns.getD (j + 1) 0), iv (ns.getD (j + 2) 0), iv (ns.getD (j + 3) 0)] := by
   rw [← List.map_drop, ← List.map_take, List.drop_eq_getElem_cons (by omega), List.drop_eq_getElem_cons (by omega), List.drop_eq_getElem_cons (by omega), List.drop_eq_getElem_cons (by omega), gd, gd, gd, gd]
   rfl
 obtain ⟨a, ha⟩ : ∃ a, ns.getD j 0 = a := ⟨_, rfl⟩
 obtain ⟨b, hb'⟩ : ∃ a, ns.getD (j + 1) 0 = a := ⟨_, rfl⟩
 obtain ⟨c', hc'⟩ : ∃ a, ns.getD (j + 2) 0 = a := ⟨_, rfl⟩
 obtain ⟨d, hd'⟩ : ∃ a, ns.getD (j + 3) 0 = a := ⟨_, rfl⟩
 rw [ha, hb', hc', hd'] at hrow
 rw [ha] at ja hbs
 rw [hb'] at jb hbs
 rw [hc'] at jc hbs
 rw [hd'] at jd hbs
 have hjl : j + 4 ≤ ns.length := hk
 let s1 : St := { fr := [(4, .slice (some ⟨10, j, none⟩) 4 4), (11, fn247), (2, .pointer (some ⟨11, 0, none⟩)), (3, .pointer (some ⟨12, 0, none⟩))], sz := 80, H := H156 .ready none ns (A0, A1, A2), n := 17, marks := [], vs := vs156 }
 let s2 : St := { fr := [], sz := 80, H := H156 .busy none ns (bacc ns (k + 1)), n := 18, marks := [], vs := [] }
 refine ⟨r156 s1 .normal s2, recV_ok, ?_⟩
 have hA : AT Tryz.prog (some 16) asg156 { fr := (12, .slice (some ⟨10, j, none⟩) 4 4) :: fr156, sz := 80, H := H156 .ready none ns (A0, A1, A2), n := 17, marks := [], vs := vs156 } .normal s1 := by
   refine E.toATc ?_
   refine E.reg hr (by simp; rfl) ?_
   exact ⟨rfl, rfl, rfl, rfl, by simp [s1], by simp [s1]⟩
 have hB : AT Tryz.prog (some 16) bdy156 { s1 with H := H156 .busy none ns (A0, A1, A2) } .normal s2 := by
   refine E.toATc ?_
   refine E.block ?_
   refine E.seq ?_
   refine E.seq ?_
   refine E.reg hr (by simp [s1]; rfl) ?_
   refine E.cond (t := false) (by simp) (fun h => by cases h) (fun _ => ?_)
   refine E.skip ?_
   refine E.seq ?_
   refine E.reg hr (by simp [run_s2ap, opSlicetoarraypointer, hjl, hrow]; rfl) ?_
   refine E.seq ?_
   refine E.seq ?_
   by_cases hz : ((a == 0) && ((b == 0) && ((c' == 0) && ((d == 0) && true)))) = true
   · have hz2 := hz
     simp only [Bool.and_eq_true, beq_iff_eq] at hz2
     obtain ⟨rfl, rfl, rfl, rfl, _⟩ := hz2
     have hb0 : bacc ns (k + 1) = (A0, A1, A2) := by rw [hbs]; simp
     refine E.reg hr (by simp [build281, eq281]; rfl) ?_
     refine E.cond (t := true) (by simp) (fun _ => ?_) (fun h => by cases h)
     refine E.exit ?_
     exact ⟨rfl, rfl, rfl, rfl, by simp [s2], by simp [s2, hb0]⟩
   obtain ⟨zb, hzb⟩ : ∃ z, ((a == 0) && ((b == 0) && ((c' == 0) && ((d == 0) && true)))) = z := ⟨_, rfl⟩
   have hzf : zb = false := by
     cases zb with
     | false => rfl
     | true => exact absurd hzb hz
   subst hzf
   have h281 := fun (x y : Operand) (H : Heap) (n : Nat) => eq281 (x := x) (y := y) (H := H) (n := n) a b c' d 0 0 0 0
   rw [hzb] at h281
   have x1 : IntKind.i64.wrap (a + b) = a + b := W_in (by omega) (by omega)
   have x2 : IntKind.i64.wrap (a + b + c') = a + b + c' := W_in (by omega) (by omega)
   have x3 : IntKind.i64.wrap (a + b + c' + d) = a + b + c' + d := W_in (by omega) (by omega)
   have x4 : IntKind.i64.wrap (a - c') = a - c' := W_in (by omega) (by omega)
   have x5 : IntKind.i64.wrap (b - d) = b - d := W_in (by omega) (by omega)
   have x6 : IntKind.i64.wrap (a - b) = a - b := W_in (by omega) (by omega)
   have x7 : IntKind.i64.wrap (a - b + c') = a - b + c' := W_in (by omega) (by omega)
   have x8 : IntKind.i64.wrap (a - b + c' - d) = a - b + c' - d := W_in (by omega) (by omega)
   have s1' := sq_bd (x := a + b + c' + d) (B := 65536) (by omega) (by omega)
   have s2' := sq_bd (x := a - c') (B := 32768) (by omega) (by omega)
   have s3' := sq_bd (x := b - d) (B := 32768) (by omega) (by omega)
   have s4' := sq_bd (x := a - b + c' - d) (B := 65536) (by omega) (by omega)
   obtain ⟨P, hP⟩ : ∃ P, a + b + c' + d = P := ⟨_, rfl⟩
   obtain ⟨Q, hQ⟩ : ∃ Q, a - c' = Q := ⟨_, rfl⟩
   obtain ⟨R', hR'⟩ : ∃ R, b - d = R := ⟨_, rfl⟩
   obtain ⟨T, hT⟩ : ∃ T, a - b + c' - d = T := ⟨_, rfl⟩
   rw [hP] at x3 s1' hbs
   rw [hQ] at x4 s2' hbs
   rw [hR'] at x5 s3' hbs
   rw [hT] at x8 s4' hbs
   have y1 : IntKind.i64.wrap (P * P) = P * P := W_in (by omega) (by omega)
   have y2 : IntKind.i64.wrap (A0 + P * P) = A0 + P * P := W_in (by omega) (by omega)
   have y3 : IntKind.i64.wrap (Q * Q) = Q * Q := W_in (by omega) (by omega)
   have y5 : IntKind.i64.wrap (R' * R') = R' * R' := W_in (by omega) (by omega)
   have y4 : IntKind.i64.wrap (Q * Q + R' * R') = Q * Q + R' * R' := W_in (by omega) (by omega)
   have y6 : IntKind.i64.wrap (A1 + (Q * Q + R' * R')) = A1 + (Q * Q + R' * R') := W_in (by omega) (by omega)
   have y7 : IntKind.i64.wrap (T * T) = T * T := W_in (by omega) (by omega)
   have y8 : IntKind.i64.wrap (A2 + T * T) = A2 + T * T := W_in (by omega) (by omega)
   refine E.reg hr (by simp [build281, h281]; rfl) ?_
   refine E.cond (t := false) (by simp) (fun h => by cases h) (fun _ => ?_)
   refine E.skip ?_
   refine E.seq ?_
   refine E.drawC mixed hr [] [] [1, 3, 6, 9, 12, 14, 17, 19, 22, 24, 27, 30] (by kernel_rfl) (by simp [x1, x2, hP, x3, hQ, x4, hR', x5, x6, x7, hT, x8]; rfl) ?_
   refine E.seq ?_
   refine E.reg hr (by simp [y1, y2]; rfl) ?_
   refine E.seq ?_
   refine E.reg hr (by simp [y3, y4, y5, y6]; rfl) ?_
   refine E.reg hr (by simp [y7, y8]; rfl) ?_
   exact ⟨rfl, rfl, rfl, rfl, by simp [s2], by simp [s2, hbs]⟩
 have hh : hset s2.H 16 (.loop .ready none fr156 80 vs156 #[12] asg156 bdy156 15) = H156 .ready none ns (bacc ns (k + 1)) := by simp [s2]
 rw [← hh]
 refine yieldF_of (s1 := s1) (s2 := s2) (fr := fr156) (sz := 80) (vs := vs156) (ps := #[12]) (a := asg156) (b := bdy156) (d := 15) (by simp) rfl ?_ (by simp [s1]) ?_ (by simp [s2])
 · exact recV_code (by intro b h; cases h) rfl hA
 · show (r156 s1 .normal s2).code (some 16) bdy156 { s1 with H := hset s1.H 16 _ } = _
   rw [show hset s1.H 16 (.loop .busy none fr156 80 vs156 #[12] asg156 bdy156 15) = H156 .busy none ns (A0, A1, A2) by simp [s1]]
   exact recV_code (by intro b h; cases h) rfl hB
end Go.Proofs.YtndlfijfjglkdaaGreatDoor

namespace Go.Proofs.YtndlfijfjglkdaaGreatDoor
open Go Go.Ab Go.Proofs Ieee
section
variable {fr : Fr} {H : Heap} {n m L : Nat} {x y z u : Operand} {cs : List Value}
theorem used45 (h : hget H m = some (.row cs 1)) (o s : Nat) : usedA H 1 (some ⟨m, o, some 0⟩) s = cs.length - s := by
 simp [usedA, h]
theorem lo45 {i : Nat} (hg : hget H m = some (.row cs 1)) (_h0 : 0 < i) (hi : i < cs.length) (hx : evO Tryz.prog fr x = some (.slice (some ⟨m, 0, some 0⟩) cs.length 0)) (hy : evO Tryz.prog fr y = some (iv i)) :
   opSlice Tryz.prog 45 x (some y) none none fr H n = some (.slice (some ⟨m, i, some 0⟩) (cs.length - i) i, H, n) := by
 simp only [opSlice, hx, evI, hy, Tryz.underlying45, show szA Tryz.prog 3 = some 1 from by simp, used45 hg]
 have h1 : i ≤ cs.length := by omega
 simp [sliceA, boundA, h1, hi]
theorem lo45z (hg : hget H m = some (.row cs 1)) (hi : 0 < cs.length) (hx : evO Tryz.prog fr x = some (.slice (some ⟨m, 0, some 0⟩) cs.length 0)) (hy : evO Tryz.prog fr y = some (iv 0)) :
   opSlice Tryz.prog 45 x (some y) none none fr H n = some (.slice (some ⟨m, 0, some 0⟩) cs.length 0, H, n) := by
 simp only [opSlice, hx, evI, hy, Tryz.underlying45, show szA Tryz.prog 3 = some 1 from by simp, used45 hg]
 simp [sliceA, boundA, hi]
theorem max45 {i j : Nat} (hg : hget H m = some (.row cs 1)) (hij : i < j) (hj : j ≤ cs.length) (hx : evO Tryz.prog fr x = some (.slice (some ⟨m, 0, some 0⟩) cs.length 0)) (hy : evO Tryz.prog fr y = some (iv i)) (hz : evO Tryz.prog fr z = some (iv j)) (hu : evO Tryz.prog fr u = some (iv j)) :
   opSlice Tryz.prog 45 x (some y) (some z) (some u) fr H n = some (.slice (some ⟨m, i, none⟩) (j - i) (j - i), H, n) := by
 have h1 : i ≤ j := by omega
 have h2 : i < cs.length := by omega
 have h4 : (j : Int) ≤ cs.length := by omega
 have h5 : (i : Int) < j := by omega
 simp only [opSlice, hx, evI, hy, hz, hu, Tryz.underlying45, show szA Tryz.prog 3 = some 1 from by simp, used45 hg]
 simp [sliceA, boundA, h1, h2, h4, h5, hj]
end
theorem H156_old {ls : LoopState} {pe : Option Code} {ns : List Int} {p : Int × Int × Int} {k : Nat} {b : Blk} (h : hget (H156 ls pe ns p) k = some b) : k < 17 ∧ scB (· < 17) b := by
 have hm := hget_mem _ _ _ h
 simp only [H156, List.mem_cons, Prod.mk.injEq, List.not_mem_nil, or_false] at hm
 rcases hm with ⟨rfl, rfl⟩ | ⟨rfl, rfl⟩ | ⟨rfl, rfl⟩ | ⟨rfl, rfl⟩ | ⟨rfl, rfl⟩ | ⟨rfl, rfl⟩ | ⟨rfl, rfl⟩
 · refine ⟨by omega, ?_⟩
   rw [scB_loop (by omega) (by
     intro x hx
     simp only [fr156, List.mem_cons, List.not_mem_nil, or_false] at hx
     rcases hx with rfl | rfl | rfl <;> simp [sc, scL])]
   trivial
 · exact ⟨by omega, trivial⟩
 all_goals exact ⟨by omega, by simp [sc, scL]⟩
end Go.Proofs.YtndlfijfjglkdaaGreatDoor

namespace Go.Proofs.YtndlfijfjglkdaaGreatDoor
open Go Go.Ab Go.Proofs Ieee
noncomputable def S247 (ns : List Int) (k : Nat) : St := { fr := [(0, .func (.yield 16) #[] #[]), (1, .pointer (some ⟨13, 0, none⟩)), (2, .pointer (some ⟨14, 0, none⟩)), (4, iv ((4 * k : Nat) : Int))], sz := 31, H := H156 .ready none ns (bacc ns k), n := 17, marks := [], vs := [0, 1, 2, 4, 5, 9, 30] }
noncomputable def F247 (ns : List Int) : Heap := if ns.length % 4 = 0 then H156 .ready none ns (bacc ns (ns.length / 4)) else H156 .done (some (.exit 0)) ns (bacc ns (ns.length / 4))
set_option maxRecDepth 100000 in
set_option maxHeartbeats 1000000 in
theorem w247 (ns : List Int) (hl : ns.length ≤ 1024) (hb : inS ns) : AC Tryz.prog 247 [.func (.yield 16) #[] #[], .pointer (some ⟨13, 0, none⟩), .pointer (some ⟨14, 0, none⟩)] (H156 .ready none ns (0, 0, 0)) 17 (.tuple #[]) (F247 ns) 17 := by
 have hr := recT_ok (P := Tryz.prog) (l := []) (by simp)
 refine AC.body Tryz.func247 rfl (by kernel_rfl) rfl [0, 1, 2, 4, 5, 9, 30] ?_
 refine E.seq ?_
 refine E.reg hr (by simp; rfl) ?_
 refine E.block ?_
 refine E.loop ?_
 refine EL.ind (S247 ns) (fun k => ns.length / 4 + 1 - k) (fun k => 4 * k ≤ ns.length) 0 (.less rfl rfl rfl (by simp [S247]) (by simp [S247, bacc])) (Nat.zero_le _) (fun _ => rfl) ?_
 intro k hk
 obtain ⟨j, hj⟩ : ∃ j, 4 * k = j := ⟨_, rfl⟩
 have hjk : k = j / 4 := by omega
 refine E.seq ?_
 refine E.seq ?_
 by_cases hjl : j < ns.length
 case neg =>
   have hge : ¬ (j : Int) < ns.length := by omega
   have hke : k = ns.length / 4 := by omega
   refine E.reg hr (by simp [S247, hj]; rfl) ?_
   refine E.cond (t := false) (by simp; omega) (fun h => by cases h) (fun _ => ?_)
   refine E.exit ?_
   refine ⟨.inl rfl, ?_⟩
   rw [F247, if_pos (by omega), ← hke]
   simp [leaveF, shutA, resultsA, Tryz.results247, dropOk]
 have hjI : (j : Int) < ns.length := by omega
 have hlm : (ns.map iv).length = ns.length := List.length_map ..
 refine E.reg hr (by simp [S247, hj]; rfl) ?_
 refine E.cond (t := true) (by simp; omega) (fun _ => ?_) (fun h => by cases h)
 refine E.skip ?_
 refine E.seq ?_
 refine E.block ?_
 obtain ⟨w, hw⟩ : ∃ w : Nat, min 4 (ns.length - j) = w := ⟨_, rfl⟩
 have hw1 : 0 < w ∧ w ≤ 4 ∧ j + w ≤ ns.length := by omega
 refine E.cut { fr := [(0, .func (.yield 16) #[] #[]), (1, .pointer (some ⟨13, 0, none⟩)), (2, .pointer (some ⟨14, 0, none⟩)), (4, iv j), (5, iv w)], sz := 31, H := H156 .ready none ns (bacc ns k), n := 17, marks := [], vs := [0, 1, 2, 4, 5, 9, 30] } ?_ ?_
 · by_cases hj0 : j = 0
   · subst hj0
     have hlo : ∀ {fr : Fr} {H : Heap} {x y : Operand}, hget H 10 = some (.row (ns.map iv) 1) → evO Tryz.prog fr x = some (.slice (some ⟨10, 0, some 0⟩) ns.length 0) → evO Tryz.prog fr y = some (iv 0) → opSlice Tryz.prog 45 x (some y) none none fr H 17 = some (.slice (some ⟨10, 0, some 0⟩) ns.length 0, H, 17) := fun h1 h2 h3 => by
       rw [← hlm] at h2 ⊢
       exact lo45z h1 (by omega) h2 h3
     refine E.drawC mixed hr [] [] [0, 1, 3] (by kernel_rfl) (by simp [hlo]; rfl) ?_
     exact Leads.less rfl rfl rfl (by simp; omega) (by simp)
   · have hlo : ∀ {fr : Fr} {H : Heap} {x y : Operand}, hget H 10 = some (.row (ns.map iv) 1) → evO Tryz.prog fr x = some (.slice (some ⟨10, 0, some 0⟩) ns.length 0) → evO Tryz.prog fr y = some (iv j) → opSlice Tryz.prog 45 x (some y) none none fr H 17 = some (.slice (some ⟨10, j, some 0⟩) (ns.length - j) j, H, 17) := fun h1 h2 h3 => by
       rw [← hlm] at h2 ⊢
       exact lo45 h1 (by omega) (by omega) h2 h3
     refine E.drawC mixed hr [] [] [0, 1, 3] (by kernel_rfl) (by simp [hlo]; rfl) ?_
     exact Leads.less rfl rfl rfl (by simp; omega) (by simp)
 have hwi : IntKind.i64.wrap ((j : Int) + (w : Int)) = (j : Int) + (w : Int) := W_in (by omega) (by omega)
 have hmx : ∀ {fr : Fr} {H : Heap} {x y z u : Operand}, hget H 10 = some (.row (ns.map iv) 1) → evO Tryz.prog fr x = some (.slice (some ⟨10, 0, some 0⟩) ns.length 0) → evO Tryz.prog fr y = some (iv j) → evO Tryz.prog fr z = some (iv ((j : Int) + (w : Int))) → evO Tryz.prog fr u = some (iv ((j : Int) + (w : Int))) → opSlice Tryz.prog 45 x (some y) (some z) (some u) fr H 17 = some (.slice (some ⟨10, j, none⟩) w w, H, 17) := fun h1 h2 h3 h4 h5 => by
   rw [← hlm] at h2
   have := max45 (i := j) (j := j + w) (n := 17) h1 (by omega) (by omega) h2 h3 h4 h5
   rw [show j + w - j = w by omega] at this
   exact this
 refine E.seq ?_
 by_cases hfull : w = 4
 · subst hfull
   obtain ⟨q, hq, hy⟩ := yield156 ns k (by omega) hl hb
   rw [hj] at hy
   have hwi4 : IntKind.i64.wrap ((j : Int) + 4) = (j : Int) + 4 := W_in (by omega) (by omega)
   refine E.reg hq (by simp [hwi4, hmx, hy]; rfl) ?_
   refine E.cond (t := false) (by simp) (fun h => by cases h) (fun _ => ?_)
   refine E.skip ?_
   refine E.reg hr (by simp [hwi4]; rfl) ?_
   refine ⟨k + 1, ?_, by dsimp only; omega, by dsimp only; omega⟩
   have e4 : ((4 * (k + 1) : Nat) : Int) = (j : Int) + 4 := by omega
   refine Leads.renM id (fun _ _ => rfl) (Nat.le_refl 17) rfl ⟨rfl, rfl⟩ (fun t v hv => ?_) (fun b c hc => ?_) fun j b k c _ _ e => e
   · have := lk_mem _ _ _ hv
     simp only [S247, List.mem_cons, Prod.mk.injEq, List.not_mem_nil, or_false] at this
     rcases this with ⟨rfl, rfl⟩ | ⟨rfl, rfl⟩ | ⟨rfl, rfl⟩ | ⟨rfl, rfl⟩
     · exact .inl ⟨by simp, by simp [sc, scL]⟩
     · exact .inl ⟨by simp, by simp [sc]⟩
     · exact .inl ⟨by simp, by simp [sc]⟩
     · exact .inl ⟨by rw [e4]; simp, trivial⟩
   · obtain ⟨h1, h2⟩ := H156_old (show hget (H156 .ready none ns (bacc ns (k + 1))) b = some c from hc)
     exact .inl ⟨h1, h2, hc⟩
 · have hke : k = ns.length / 4 := by omega
   obtain ⟨q, hq, hy⟩ := yield156x ns (bacc ns k) j w (by omega)
   refine E.reg hq (by simp [hwi, hmx, hy]; rfl) ?_
   refine E.cond (t := true) (by simp) (fun _ => ?_) (fun h => by cases h)
   refine E.ret ?_
   refine ⟨.inr rfl, ?_⟩
   rw [F247, if_neg (by omega), ← hke]
   simp [leaveF, shutA, resultsA, Tryz.results247, dropOk]
end Go.Proofs.YtndlfijfjglkdaaGreatDoor

namespace Go.Ab
open Go Go.RowKit
theorem AC.bodyX {P : Program} {f : FuncId} {fn : Func} {c : Code} {args : List Value} {H : Heap} {n : Nat} {Q : Value → Heap → Nat → Prop} (hf : P.funcs[f]? = some fn) (hb : fn.body = some c) (he : enterable P f = true) (hlen : Nat.ble args.length fn.ntmps = true) (vs : List Nat)
   (h : E P n none c { fr := argsFr args 0, sz := fn.ntmps, H, n, marks := [], vs } fun e st => (e = .normal ∨ e = .ret) ∧ ∃ v H' n', leaveF P fn args n st = some (v, H', n') ∧ Q v H' n') : ∃ v H' n', AC P f args H n v H' n' ∧ Q v H' n' := by
 obtain ⟨e, st, hA, hen, v, H', n', hl, hq⟩ := h
 exact ⟨v, H', n', bodyAT_ok hf hb he (Nat.le_of_ble_eq_true hlen) hen (ATX.at hA) hl, hq⟩
end Go.Ab

namespace Go.Proofs.YtndlfijfjglkdaaGreatDoor
open Go Go.Ab Go.Proofs Ieee
theorem w207 {H : Heap} {n : Nat} {oa : Option Addr} {m c : Nat} : AC Tryz.prog 207 [.slice oa m c, iv 4] H n (.func (.func 247) #[] #[.pointer (some ⟨n, 0, none⟩), .pointer (some ⟨n + 1, 0, none⟩)]) ((n + 1, .cells [iv 4] 3) :: (n, .cells [.slice oa m c] 45) :: H) (n + 1 + 1) := by
 have hr := recT_ok (P := Tryz.prog) (l := []) (by simp)
 refine AC.body Tryz.func207 rfl (by kernel_rfl) rfl [0, 1, 2, 3, 4, 6] ?_
 refine E.seq ?_
 refine E.reg hr (by simp; rfl) ?_
 refine E.seq ?_
 refine E.seq ?_
 refine E.reg hr (by simp; rfl) ?_
 refine E.cond (t := false) (by simp) (fun h => by cases h) (fun _ => ?_)
 refine E.skip ?_
 refine E.seq ?_
 refine E.reg hr (by simp [opMakefunc]; rfl) ?_
 refine E.ret ?_
 refine ⟨.inr rfl, ?_⟩
 simp [leaveF, shutA, resultsA, resultA, Tryz.results207, dropOk]
def g207 (args : List Value) (H : Heap) (n : Nat) : R := match args with
 | [.slice oa m c, .int .i64 k] => if k = 4 then some (.func (.func 247) #[] #[.pointer (some ⟨n, 0, none⟩), .pointer (some ⟨n + 1, 0, none⟩)], (n + 1, .cells [iv 4] 3) :: (n, .cells [.slice oa m c] 45) :: H, n + 1 + 1) else none
 | _ => none
theorem ok207 : EntOk Tryz.prog (207, g207) := by
 intro args H n v H' n' h
 simp only [g207] at h
 split at h
 · split at h
   · rename_i hk
     subst hk
     injection h with h; injection h with e1 e2; injection e2 with e2 e3; subst e1 e2 e3
     exact w207
   · cases h
 · cases h
theorem ent247 : enterable Tryz.prog 247 = true := by kernel_rfl
theorem rangeF_exit {P : Program} {r : Rec} {f : Operand} {ps : Array Tmp} {x y : Code} {st : St} {g : FuncId} {first captured : Array Value} {v : Value} {H' : Heap} {k : Nat} {fr : Fr} {sz : Nat} {vs : List Nat} {d : Nat} {a b c : Code} {e : Ex} {st' : St}
   (hf : evO P st.fr f = some (.func (.func g) first captured)) (he : enterable P g = true)
   (hc : r.call g (first.toList ++ [.func (.yield (st.n + 1)) #[] #[]] ++ captured.toList) ((st.n + 1, .loop .ready none st.fr st.sz st.vs ps x y st.n) :: (st.n, .defd) :: st.H) (st.n + 2) = some (v, H', k))
   (hl : hget H' (st.n + 1) = some (.loop .done (some c) fr sz vs ps a b d))
   (h2 : r.code none c { st with H := hset H' (st.n + 1) (.loop .exhausted (some c) fr sz vs ps a b d), n := k, marks := st.n :: st.marks } = some (e, st')) :
   rangeF P r none f ps x y st = some (e, st') := by
 unfold rangeF
 rw [hf]
 simp only [he, hc, hl]
 exact h2
set_option maxRecDepth 100000 in
theorem w156 (ns : List Int) (hl : ns.length ≤ 1024) (hb : inS ns) : ∃ H1 n1, AC Tryz.prog 156 [.slice (some ⟨10, 0, some 0⟩) ns.length 0] [(10, .row (ns.map iv) 1)] 11 (bandV (bacc ns (ns.length / 4))) H1 n1 := by
 have hr := recT_ok (P := Tryz.prog) (l := [(207, g207)]) (by simp only [List.forall_mem_cons]; exact ⟨ok207, by simp⟩)
 have hAC := w247 ns hl hb
 obtain ⟨A, hA⟩ : ∃ A, bacc ns (ns.length / 4) = A := ⟨_, rfl⟩
 obtain ⟨A0, A1, A2⟩ := A
 rw [hA]
 have key : ∃ v H' n', AC Tryz.prog 156 [.slice (some ⟨10, 0, some 0⟩) ns.length 0] [(10, .row (ns.map iv) 1)] 11 v H' n' ∧ v = bandV (A0, A1, A2) := by
   refine AC.bodyX (Q := fun v _ _ => v = bandV (A0, A1, A2)) Tryz.func156 rfl (by kernel_rfl) rfl vs156 ?_
   refine E.seq ?_
   refine E.reg hr (by simp; rfl) ?_
   refine E.seq ?_
   refine E.reg hr (by simp; rfl) ?_
   refine E.seq ?_
   refine E.seq ?_
   refine E.reg hr (by simp [g207]; rfl) ?_
   refine E.block ?_
   refine E.lead { fr := fr156, sz := 80, H := (H156 .ready none ns (0, 0, 0)).drop 2, n := 15, marks := [], vs := vs156 } (.less rfl rfl rfl (by simp) (by simp)) ?_
   by_cases h4 : ns.length % 4 = 0
   · have hF : F247 ns = H156 .ready none ns (A0, A1, A2) := by rw [F247, if_pos h4, hA]
     rw [hF] at hAC
     refine E.range (r := recV Tryz.prog (fun _ _ _ => none) (fun _ _ _ _ => some (.tuple #[], H156 .ready none ns (A0, A1, A2), 17))) recV_ok (rangeF_of rfl ent247 (recV_call rfl hAC) rfl) ?_
     refine E.seq ?_
     refine E.reg hr (by simp; rfl) ?_
     refine E.ret ?_
     exact ⟨.inr rfl, _, _, _, by simp [leaveF, shutA, resultsA, resultA, Tryz.results156, dropOk]; exact ⟨rfl, rfl, rfl⟩, rfl⟩
   · have hF : F247 ns = H156 .done (some (.exit 0)) ns (A0, A1, A2) := by rw [F247, if_neg h4, hA]
     rw [hF] at hAC
     let sx : St := { fr := fr156, sz := 80, H := hset (H156 .done (some (.exit 0)) ns (A0, A1, A2)) 16 (.loop .exhausted (some (.exit 0)) fr156 80 vs156 #[12] asg156 bdy156 15), n := 17, marks := [15], vs := vs156 }
     refine E.range (r := recV Tryz.prog (fun _ c _ => match c with
       | .exit i => some (.exit i, sx)
       | _ => none) (fun _ _ _ _ => some (.tuple #[], H156 .done (some (.exit 0)) ns (A0, A1, A2), 17))) (e := .exit 0) (st' := sx) recV_ok (rangeF_exit rfl ent247 (recV_call rfl hAC) rfl (recV_code (by intro b h; cases h) rfl AT.exit)) ?_
     refine E.seq ?_
     refine E.reg hr (by simp [sx]; rfl) ?_
     refine E.ret ?_
     exact ⟨.inr rfl, _, _, _, by simp [leaveF, shutA, resultsA, resultA, Tryz.results156, dropOk]; exact ⟨rfl, rfl, rfl⟩, rfl⟩
 obtain ⟨v, H1, n1, h1, rfl⟩ := key
 exact ⟨H1, n1, h1⟩
end Go.Proofs.YtndlfijfjglkdaaGreatDoor

namespace Go.Proofs.YtndlfijfjglkdaaGreatDoor
open Go Go.Ab Go.Proofs
structure Rul where
 dir : ByteArray
 band : Int
 least : Int
 deriving DecidableEq
def Rul.cells (r : Rul) : List Value := [sv r.dir, iv r.band, iv r.least]
@[simp] theorem Rul.cells_length (r : Rul) : r.cells.length = 3 := rfl
def decR : Dec Rul := fun _ cs => match cs with
 | [.string d, .int .i64 b, .int .i64 l] => some ⟨d, b, l⟩
 | _ => none
theorem decR_mono : DecMono decR := fun _ _ _ _ _ h => h
theorem decR_tidy : DecTidy decR := fun _ _ _ _ _ h => h
theorem decR_frz : DecFrz decR := fun _ _ => rfl
theorem decR_cells (H : Heap) (r : Rul) : decR H r.cells = some r := rfl
theorem decR_ok {H : Heap} {cs : List Value} {r : Rul} (h : decR H cs = some r) : cs = r.cells := by
 unfold decR at h
 split at h
 · injection h with h; subst h; rfl
 · cases h
def rulV (H : Heap) (v : Value) : Option (List Rul) := listV 3 decR H v
theorem rulV_form {H : Heap} {v : Value} {l : List Rul} (h : rulV H v = some l) : ∃ oa c, v = .slice oa l.length c ∧ l.length < 2147483648 ∧ ∀ i (hi : i < l.length), ∃ a, oa = some a ∧ flat a = true ∧ cellsA H a.block (a.off + i * 3) 3 = some l[i].cells := by
 obtain ⟨oa, c, e, h1, _, h3⟩ := listV_form h
 refine ⟨oa, c, e, h1, fun i hi => ?_⟩
 obtain ⟨a, r, e1, e2, e3, e4⟩ := h3 i hi
 refine ⟨a, e1, e2, ?_⟩
 rw [e3, decR_ok e4]
theorem rul_cell {H : Heap} {b o : Nat} {r : Rul} (h : cellsA H b o 3 = some r.cells) : cellA H b o = some (sv r.dir) ∧ cellA H b (o + 1) = some (iv r.band) ∧ cellA H b (o + 2) = some (iv r.least) := by
 have h0 := (cellsA_cell h (i := 0) (by omega)).1
 have h1 := (cellsA_cell h (i := 1) (by omega)).1
 have h2 := (cellsA_cell h (i := 2) (by omega)).1
 exact ⟨h0, h1, h2⟩
def rulE (r : Rul) : Int := firstV [dirE r.dir, withinV r.band 0 2, withinV r.least 0 64]
def rulsE (l : List Rul) : Int := if 12 < l.length then 5 else firstV (l.map rulE)
def shortR (l : List Rul) : Bool := l.all (fun r => decide (r.dir.size ≤ 20)) && (decide (l.length ≤ 4) || decide (l.length = 13))
end Go.Proofs.YtndlfijfjglkdaaGreatDoor

namespace Go.Proofs.YtndlfijfjglkdaaGreatDoor
open Go Go.Ab Go.Proofs
set_option maxRecDepth 20000 in
theorem w177 {H : Heap} {n : Nat} (r : Rul) (g0 : hget H 0 = some (.inp 0 names0)) : AC Tryz.prog 177 [.agg ⟨[sv r.dir, iv r.band, iv r.least]⟩] H n (iv (rulE r)) H n := by
 refine AC.given fun hold hsc hgn => AC.tidied (B := []) (by simp) ?_
 have hn0 : 0 < n := (hold 0 _ g0).1
 replace g0 : hget (tidy n H) 0 = some (.inp 0 names0) := hget_tidy.2 ⟨g0, (hold 0 _ g0).1, rfl⟩
 have hr := recT_ok (P := Tryz.prog) (l := [(115, g115), (138, g138), (113, g113)]) (by simp only [List.forall_mem_cons]; exact ⟨ok115, ok138, ok113, by simp⟩)
 obtain ⟨z1, hz1⟩ : ∃ z, dirE r.dir = z := ⟨_, rfl⟩
 have h115 : ∀ X m, hget X 0 = some (.inp 0 names0) → g115 [sv r.dir] X m = some (iv z1, X, m) := fun X m h => by
   simp only [g115]
   rw [if_pos h, hz1]
 have h115a := fun m => h115 ((n, Blk.inp 0 [sv r.dir, iv r.band, iv r.least]) :: frzH (tidy n H)) m (by rw [hget_cons, if_neg (by omega), hget_frz, g0]; rfl)
 have e : rulE r = firstV [z1, withinV r.band 0 2, withinV r.least 0 64] := by rw [rulE, hz1]
 rw [e]
 refine AC.pure Tryz.func177 rfl (by kernel_rfl) rfl [1, 2] rfl ?_
 refine E.seq ?_
 refine E.reg hr (by simp; rfl) ?_
 refine E.seq ?_
 refine E.drawU mixed hr [8, 9, 10] [2, 5, 8, 9, 10] [1, 2, 5, 8, 9, 10] (by kernel_rfl) (by simp [h115a, g138, g113, intsAt, intsOf]; rfl) ?_
 refine E.ret ?_
 exact pureK.ret rfl rfl (by simp) (by repeat first | exact Sub.refl _ | refine Sub.cons (by simp) ?_)
open Classical in
noncomputable def g177 (args : List Value) (H : Heap) (n : Nat) : R := match args with
 | [.agg ⟨[.string d, .int .i64 b, .int .i64 l]⟩] => if hget H 0 = some (.inp 0 names0) then some (iv (rulE ⟨d, b, l⟩), H, n) else none
 | _ => none
theorem ok177 : EntOk Tryz.prog (177, g177) := by
 intro args H n v H' n' h
 simp only [g177] at h
 split at h
 · split at h
   · rename_i g0
     injection h with h; injection h with e1 e2; injection e2 with e2 e3; subst e1 e2 e3
     exact w177 ⟨_, _, _⟩ g0
   · cases h
 · cases h
def rulsL (l : List Rul) : List Value := l.flatMap fun b => [iv (rulE b)]
theorem rulsL_eq (l : List Rul) : rulsL l = (l.map rulE).map iv := by
 induction l with
 | nil => rfl
 | cons b l ih => simp [rulsL] at ih ⊢; exact ih
set_option maxRecDepth 20000 in
theorem w176 {H : Heap} {n : Nat} {v : Value} {l : List Rul} (g0 : hget H 0 = some (.inp 0 names0)) (hV : rulV H v = some l) : AC Tryz.prog 176 [v, .func (.func 177) #[] #[]] H n (outS n l.length) (outSB n 27 1 l.length (rulsL l) ++ H) (n + 1) := by
 refine AC.given fun hold hsc hgn => AC.tidied (fun x hx => outSB_ge x hx) ?_
 replace g0 : hget (tidy n H) 0 = some (.inp 0 names0) := hget_tidy.2 ⟨g0, (hold 0 _ g0).1, rfl⟩
 replace hV : rulV (tidy n H) v = some l := listV_tidy decR_tidy (fun k b h => (hold k b h).1) hV
 have hr := recT_ok (P := Tryz.prog) (l := [(177, g177)]) (by simp [ok177])
 obtain ⟨oa, c, rfl, hlt, hrow⟩ := rulV_form hV
 refine AC.grown Tryz.func176 rfl (by kernel_rfl) rfl [1, 5, 8, 9, 10] ?_
 refine E.seq ?_
 refine E.reg hr (by simp; rfl) ?_
 refine E.seq ?_
 refine E.reg hr (by simp; rfl) ?_
 refine E.seq ?_
 refine E.seq ?_
 refine E.reg hr (by simp; rfl) ?_
 refine E.block ?_
 refine E.loop ?_
 refine EL.ind (fun x : Nat × Heap × Nat × Nat => { fr := [(1, .func (.func 177) #[] #[]), (5, outS x.2.2.2 x.1), (8, .slice oa l.length c), (9, iv l.length), (10, iv x.1)], sz := 22, H := x.2.1, n := x.2.2.1, marks := [], vs := [1, 5, 8, 9, 10] }) (fun x => l.length - x.1) (fun x => x.1 ≤ l.length ∧ GL (tidy n H) n 27 1 (rulsL (l.take x.1)) x.1 x.2.1 x.2.2.1 x.2.2.2) (0, tidy n H, n, n) (.keep rfl rfl rfl (by simp) (Sub.refl _)) ⟨Nat.zero_le _, by simpa [rulsL] using GL.start (t := 27) (sz := 1) (Sub.refl (tidy n H)) namesOk_tidy (Nat.le_refl n) (by simp)⟩ (fun _ => rfl) ?_
 rintro ⟨i, Hx, N, o⟩ ⟨hi, hG⟩
 dsimp only at hi hG ⊢
 have hw : IntKind.i64.wrap ((i : Int) + 1) = (i : Int) + 1 := W_in (by omega) (by omega)
 refine E.seq ?_
 refine E.reg hr (by simp; rfl) ?_
 refine E.seq ?_
 by_cases hil : i < l.length
 · obtain ⟨a, rfl, hf, hc⟩ := hrow i hil
   have htk : l.take (i + 1) = l.take i ++ [l[i]] := List.take_succ_eq_append_getElem hil
   have hsn : rulsL (l.take i) ++ [iv (rulE l[i])] = rulsL (l.take (i + 1)) := by rw [htk]; unfold rulsL; rw [List.flatMap_append]; rfl
   obtain ⟨q, hq⟩ : ∃ q, l[i] = q := ⟨_, rfl⟩
   rw [hq] at hc hsn
   have hfl : ∀ H m, hget H 0 = some (.inp 0 names0) → g177 [.agg ⟨[sv q.dir, iv q.band, iv q.least]⟩] H m = some (iv (rulE q), H, m) := fun _ _ h => if_pos h
   have hG1 := hG.skip tidy_lt (.cells [sv q.dir, iv q.band, iv q.least] 182) rfl
   have hflx := fun m => hfl _ m (hG1.sub _ _ g0)
   obtain ⟨hc0, hc1, hc2⟩ := rul_cell hc
   obtain ⟨Hz, happ, hGz⟩ := hG1.app (P := Tryz.prog) (st := 206) (i := Tryz.t27) (new := [iv (rulE q)]) tidy_lt Tryz.underlying206 inf27 sz27i zo27 by27 (by omega) rfl (by omega) rfl rfl
   rw [hsn] at hGz
   refine E.cond (t := true) (by simp [hil]) (fun _ => ?_) (fun h => by cases h)
   refine E.skip ?_
   refine E.seq ?_
   refine E.block ?_
   refine E.seq ?_
   refine E.reg hr (by simp [-cellsA, -flat, hil, hf, hG.sub.cells hc, Rul.cells]; rfl) ?_
   refine E.reg hr (by simp [-builtinA, run_vcall_tmp, vcallF, target, hflx, happ]; rfl) ?_
   refine E.reg hr (by simp [hw]; rfl) ?_
   exact ⟨(i + 1, Hz, N + 1 + 1 + 1, N + 1 + 1), .keep rfl rfl rfl (by simp) (Sub.refl _), ⟨hil, hGz⟩, by dsimp only; omega⟩
 · have hil' : i = l.length := by omega
   subst hil'
   rw [List.take_length] at hG
   refine E.cond (t := false) (by simp) (fun h => by cases h) (fun _ => ?_)
   refine E.exit ?_
   refine E.seq ?_
   refine E.reg hr (by simp; rfl) ?_
   refine E.ret ?_
   exact outK.ret rfl rfl (hG.fresh (Nat.le_refl _) (by rw [rulsL_eq]; exact afL_iv _) fun ρ => by rw [rulsL_eq]; exact ivs_ren ρ _)
open Classical in
noncomputable def g176 (args : List Value) (H : Heap) (n : Nat) : R := match args with
 | [v, .func (.func 177) ⟨[]⟩ ⟨[]⟩] => if hget H 0 = some (.inp 0 names0) then (rulV H v).map fun l => (outS n l.length, outSB n 27 1 l.length (rulsL l) ++ H, n + 1) else none
 | _ => none
theorem ok176 : EntOk Tryz.prog (176, g176) := by
 intro args H n v H' n' h
 simp only [g176] at h
 split at h
 · split at h
   · rename_i g0
     rw [Option.map_eq_some_iff] at h
     obtain ⟨l, h1, h⟩ := h
     injection h with e1 e2; injection e2 with e2 e3; subst e1 e2 e3
     exact w176 g0 h1
   · cases h
 · cases h
theorem first_outR {H : Heap} {n m : Nat} {l : List Rul} (hl : l.length < 2147483648) : g113' [outS n l.length] (outSB n 27 1 l.length (rulsL l) ++ H) m = some (iv (firstV (l.map rulE)), outSB n 27 1 l.length (rulsL l) ++ H, m) := by
 by_cases h0 : l.length = 0
 · obtain rfl := List.length_eq_zero_iff.1 h0
   rfl
 · have hb : outSB n 27 1 l.length (rulsL l) = [(n, .ext (rulsL l) 27 1)] := if_neg h0
   rw [outS_ne h0, hb]
   have : intsAt ([(n, Blk.ext (rulsL l) 27 1)] ++ H) ⟨n, 0, some 0⟩ l.length = some (l.map rulE) := by
     refine intsAt_iv rfl ?_ hl
     rw [cellsA_eq, List.singleton_append, hget_cons, if_pos rfl]
     show cellsB 0 l.length (.ext (rulsL l) 27 1) = _
     rw [rulsL_eq]
     simp [cellsB]
     exact List.take_of_length_le (by simp)
   simp only [g113', this, Option.map_some]
theorem w102 {H : Heap} {n : Nat} {v : Value} {l : List Rul} (g0 : hget H 0 = some (.inp 0 names0)) (hV : rulV H v = some l) : AC Tryz.prog 102 [v] H n (iv (rulsE l)) H n := by
 refine AC.given fun hold hsc hgn => AC.tidied (B := []) (by simp) ?_
 replace g0 : hget (tidy n H) 0 = some (.inp 0 names0) := hget_tidy.2 ⟨g0, (hold 0 _ g0).1, rfl⟩
 replace hV : rulV (tidy n H) v = some l := listV_tidy decR_tidy (fun k b h => (hold k b h).1) hV
 have hr := recT_ok (P := Tryz.prog) (l := [(176, g176), (113, g113')]) (by simp [ok176, ok113'])
 obtain ⟨oa, c, rfl, hlt, _⟩ := rulV_form hV
 have h176 : ∀ k, g176 [.slice oa l.length c, .func (.func 177) #[] #[]] (tidy n H) k = some (outS k l.length, outSB k 27 1 l.length (rulsL l) ++ tidy n H, k + 1) := fun k => by
   simp only [g176, hV, Option.map_some]
   rw [if_pos g0]
 have h113 := first_outR (H := tidy n H) (n := n) (m := n + 1) (l := l) hlt
 refine AC.pure Tryz.func102 rfl (by kernel_rfl) rfl [] rfl ?_
 refine E.seq ?_
 refine E.reg hr (by simp; rfl) ?_
 refine E.seq ?_
 refine E.seq ?_
 refine E.reg hr (by simp; rfl) ?_
 by_cases hm : (12 : Int) < l.length
 · refine E.cond (t := true) (by simp [hm]; try omega) (fun _ => ?_) (fun h => by cases h)
   refine E.seq ?_
   refine E.reg hr (by simp; rfl) ?_
   refine E.ret ?_
   exact pureK.ret rfl rfl (by rw [rulsE, if_pos (by omega)]; rfl) (Sub.refl _)
 · refine E.cond (t := false) (by simp [hm]; try omega) (fun h => by cases h) (fun _ => ?_)
   refine E.skip ?_
   refine E.seq ?_
   refine E.reg hr (by simp [h176, h113]; rfl) ?_
   refine E.ret ?_
   exact pureK.ret rfl rfl (by rw [rulsE, if_neg (by omega)]; rfl) (Sub.app (fun x hx => namesOk_none namesOk_tidy _ (outSB_ge x hx)) (Sub.refl _))
open Classical in
noncomputable def g102 (args : List Value) (H : Heap) (n : Nat) : R := match args with
 | [v] => if hget H 0 = some (.inp 0 names0) then (rulV H v).map fun l => (iv (rulsE l), H, n) else none
 | _ => none
theorem ok102 : EntOk Tryz.prog (102, g102) := by
 intro args H n v H' n' h
 simp only [g102] at h
 split at h
 · split at h
   · rename_i g0
     rw [Option.map_eq_some_iff] at h
     obtain ⟨l, h1, h⟩ := h
     injection h with e1 e2; injection e2 with e2 e3; subst e1 e2 e3
     exact w102 g0 h1
   · cases h
 · cases h
end Go.Proofs.YtndlfijfjglkdaaGreatDoor

namespace Go.Proofs.YtndlfijfjglkdaaGreatDoor
open Go Go.Ab Go.Proofs
theorem firstV_consE (a : Int) (l : List Int) : firstV (a :: l) = if a = 0 then firstV l else a := rfl
theorem rulE_drop {l : List Rul} {i : Nat} (h : i < l.length) : firstV ((l.drop i).map rulE) = if rulE l[i] = 0 then firstV ((l.drop (i + 1)).map rulE) else rulE l[i] := by
 rw [List.drop_eq_getElem_cons h, List.map_cons]
 exact firstV_consE _ _
set_option maxRecDepth 20000 in
set_option maxHeartbeats 1000000 in
theorem w90 {H : Heap} {n : Nat} {v : Value} {l : List Rul} (hV : rulV H v = some l) : AC Tryz.prog 90 [v] H n (iv (rulsE l)) H n := by
 refine AC.given fun hold hsc hgn => AC.tidied (B := []) (by simp) ?_
 replace hV : rulV (tidy n H) v = some l := listV_tidy decR_tidy (fun k b h => (hold k b h).1) hV
 have hr := recT_ok (P := Tryz.prog) (l := [(29, gSI dirE), (62, g138), (27, g113)]) (by simp only [List.forall_mem_cons]; exact ⟨ok29, ok62, ok27, by simp⟩)
 obtain ⟨oa, c, rfl, hlt, hrow⟩ := rulV_form hV
 refine AC.pure Tryz.func90 rfl (by kernel_rfl) rfl [0, 3] rfl ?_
 refine E.seq ?_
 refine E.reg hr (by simp; rfl) ?_
 refine E.seq ?_
 refine E.seq ?_
 refine E.reg hr (by simp; rfl) ?_
 by_cases hm : (12 : Int) < l.length
 · refine E.cond (t := true) (by simp [hm]; try omega) (fun _ => ?_) (fun h => by cases h)
   refine E.seq ?_
   refine E.reg hr (by simp; rfl) ?_
   refine E.ret ?_
   exact pureK.ret rfl rfl (by rw [rulsE, if_pos (by omega)]; rfl) (Sub.refl _)
 have hE : rulsE l = firstV (l.map rulE) := by rw [rulsE, if_neg (by omega)]
 refine E.cond (t := false) (by simp [hm]; try omega) (fun h => by cases h) (fun _ => ?_)
 refine E.skip ?_
 refine E.seq ?_
 refine E.seq ?_
 refine E.reg hr (by simp; rfl) ?_
 refine E.block ?_
 refine E.loop ?_
 refine EL.ind (fun i : Nat => { fr := [(0, .slice oa l.length c), (3, iv i)], sz := 37, H := tidy n H, n := n, marks := [], vs := [0, 3] }) (fun i => l.length - i) (fun i => i ≤ l.length ∧ firstV (l.map rulE) = firstV ((l.drop i).map rulE)) 0 (.keep rfl rfl rfl (by simp) (Sub.refl _)) ⟨Nat.zero_le _, rfl⟩ (fun _ => rfl) ?_
 rintro i ⟨hi, hg⟩
 have hw : IntKind.i64.wrap ((i : Int) + 1) = (i : Int) + 1 := W_in (by omega) (by omega)
 refine E.seq ?_
 refine E.seq ?_
 refine E.reg hr (by simp; rfl) ?_
 by_cases hil : i < l.length
 · have hilI : (i : Int) < l.length := by omega
   obtain ⟨a, rfl, hf, hc⟩ := hrow i hil
   rw [rulE_drop hil] at hg
   obtain ⟨q, hq⟩ : ∃ q, l[i] = q := ⟨_, rfl⟩
   rw [hq] at hc hg
   obtain ⟨hc0, hc1, hc2⟩ := rul_cell hc
   have ha : a.block < n := cellA_lt (fun k b h => tidy_lt k b h) hc0
   obtain ⟨z1, hz1⟩ : ∃ z, dirE q.dir = z := ⟨_, rfl⟩
   obtain ⟨z2, hz2⟩ : ∃ z, withinV q.band 0 2 = z := ⟨_, rfl⟩
   obtain ⟨z3, hz3⟩ : ∃ z, withinV q.least 0 64 = z := ⟨_, rfl⟩
   have h29 : ∀ X m, gSI dirE [sv q.dir] X m = some (iv z1, X, m) := fun X m => by
     show some (iv (dirE q.dir), X, m) = _
     rw [hz1]
   have h62a : ∀ X m, g138 [iv q.band, iv 0, iv 2] X m = some (iv z2, X, m) := fun X m => by
     show some (iv (withinV q.band 0 2), X, m) = _
     rw [hz2]
   have h62b : ∀ X m, g138 [iv q.least, iv 0, iv 64] X m = some (iv z3, X, m) := fun X m => by
     show some (iv (withinV q.least 0 64), X, m) = _
     rw [hz3]
   have e : rulE q = firstV [z1, z2, z3] := by rw [rulE, hz1, hz2, hz3]
   obtain ⟨z, hz⟩ : ∃ z, firstV [z1, z2, z3] = z := ⟨_, rfl⟩
   rw [e, hz] at hg
   have hnt := namesOk_tidy (n := n) (H := H)
   refine E.cond (t := true) (by simp [hil]) (fun _ => ?_) (fun h => by cases h)
   refine E.skip ?_
   refine E.seq ?_
   refine E.block ?_
   refine E.seq ?_
   refine E.drawU mixed hr [17, 18, 19] [5, 11, 17, 18, 19] [4, 5, 11, 17, 18, 19] (by kernel_rfl) (by simp [-cellA, -readA, -flat, cellA_read, hil, hilI, hf, hc0, hc1, hc2, ha, h29, h62a, h62b, flat_n, g113, intsAt, intsOf, hz]; rfl) ?_
   refine E.seq ?_
   refine E.reg hr (by simp; rfl) ?_
   by_cases hz0 : z = 0
   · subst hz0
     rw [if_pos rfl] at hg
     refine E.cond (t := false) (by simp) (fun h => by cases h) (fun _ => ?_)
     refine E.skip ?_
     refine E.reg hr (by simp [hw]; rfl) ?_
     exact ⟨i + 1, .back rfl (fun k b hk => hold k b (hget_tidy.1 hk).1) (Sub.cons (by simp) (Sub.refl _)) rfl rfl ⟨rfl, rfl⟩ (by simp [ha]), ⟨hil, hg⟩, by dsimp only; omega⟩
   · rw [if_neg hz0] at hg
     refine E.cond (t := true) (by simp [hz0]) (fun _ => ?_) (fun h => by cases h)
     refine E.seq ?_
     refine E.reg hr (by simp; rfl) ?_
     refine E.ret ?_
     exact pureK.ret rfl rfl (by rw [hE, hg]; rfl) (by repeat first | exact Sub.refl _ | refine Sub.cons (by simp) ?_)
 · have e : i = l.length := by omega
   subst e
   rw [List.drop_length] at hg
   refine E.cond (t := false) (by simp) (fun h => by cases h) (fun _ => ?_)
   refine E.exit ?_
   refine E.seq ?_
   refine E.reg hr (by simp; rfl) ?_
   refine E.ret ?_
   exact pureK.ret rfl rfl (by rw [hE, hg]; rfl) (Sub.refl _)
def gRul (F : List Rul → Value) (args : List Value) (H : Heap) (n : Nat) : R := match args with
 | [v] => (rulV H v).map fun l => (F l, H, n)
 | _ => none
theorem ok90 : EntOk Tryz.prog (90, gRul fun l => iv (rulsE l)) := by
 intro args H n v H' n' h
 simp only [gRul] at h
 split at h
 · rw [Option.map_eq_some_iff] at h
   obtain ⟨l, h1, h⟩ := h
   injection h with e1 e2; injection e2 with e2 e3; subst e1 e2 e3
   exact w90 h1
 · cases h
def RulsV (H : Heap) (v : Value) (l : List Rul) : Prop := ∃ oa c, v = .slice oa l.length c ∧ l.length < 2 ^ 63 ∧ (oa = none → c = 0) ∧ ∀ i (hi : i < l.length), ∃ a, oa = some a ∧ flat a = true ∧ cellsA H a.block (a.off + i * 3) 3 = some l[i].cells
theorem RulsV.mono {H H' : Heap} (hs : Sub H H') {v : Value} {l : List Rul} (h : RulsV H v l) : RulsV H' v l := by
 obtain ⟨oa, c, e, h1, h2, h3⟩ := h
 refine ⟨oa, c, e, h1, h2, fun i hi => ?_⟩
 obtain ⟨a, e1, e2, e3⟩ := h3 i hi
 exact ⟨a, e1, e2, hs.cells e3⟩
theorem RulsV.tidy {H : Heap} {n : Nat} (hl : ∀ k b, hget H k = some b → k < n) {v : Value} {l : List Rul} (h : RulsV H v l) : RulsV (Ab.tidy n H) v l := by
 obtain ⟨oa, c, e, h1, h2, h3⟩ := h
 refine ⟨oa, c, e, h1, h2, fun i hi => ?_⟩
 obtain ⟨a, e1, e2, e3⟩ := h3 i hi
 exact ⟨a, e1, e2, cellsA_tidy hl e3⟩
theorem RulsV.one {H : Heap} {v : Value} {l k : List Rul} (h : RulsV H v l) (h' : RulsV H v k) : l = k := by
 obtain ⟨oa, c, rfl, _, _, h3⟩ := h
 obtain ⟨oa', c', e, _, _, h3'⟩ := h'
 injection e with e1 e2 e3
 subst e1
 refine List.ext_getElem e2 fun i h1 h2 => ?_
 obtain ⟨a, ea, _, ec⟩ := h3 i h1
 obtain ⟨b, eb, _, ed⟩ := h3' i h2
 rw [ea] at eb
 injection eb with eb
 subst eb
 rw [ec] at ed
 injection ed with ed
 have : ∀ r q : Rul, r.cells = q.cells → r = q := fun r q h => by
   obtain ⟨r1, r2, r3⟩ := r
   obtain ⟨q1, q2, q3⟩ := q
   simp only [Rul.cells, List.cons.injEq, Value.string.injEq, Value.int.injEq, true_and, and_true] at h
   obtain ⟨h1, h2, h3⟩ := h
   rw [h1, h2, h3]
 exact this _ _ ed
set_option maxRecDepth 20000 in
theorem w89 {H : Heap} {n : Nat} {v : Value} {l : List Rul} (hW : RulsV H v l) : AC Tryz.prog 89 [v] H n (.bool (shortR l)) H n := by
 refine AC.given fun hold _ _ => AC.tidied (B := []) (by simp) ?_
 replace hW := hW.tidy fun k b h => (hold k b h).1
 have hr := recT_ok (P := Tryz.prog) (l := []) (by simp)
 obtain ⟨oa, c, rfl, hlt, _, hrow⟩ := hW
 refine AC.pure Tryz.func89 rfl (by kernel_rfl) rfl [0, 3] rfl ?_
 refine E.seq ?_
 refine E.reg hr (by simp; rfl) ?_
 refine E.seq ?_
 refine E.seq ?_
 refine E.reg hr (by simp; rfl) ?_
 refine E.block ?_
 refine E.loop ?_
 refine EL.ind (fun i : Nat => { fr := [(0, .slice oa l.length c), (3, iv i)], sz := 25, H := tidy n H, n := n, marks := [], vs := [0, 3] }) (fun i => l.length - i) (fun i => i ≤ l.length ∧ ∀ j (h : j < l.length), j < i → l[j].dir.size ≤ 20) 0 (.keep rfl rfl rfl (by simp) (Sub.refl _)) ⟨Nat.zero_le _, fun j h hj => by omega⟩ (fun _ => rfl) ?_
 rintro i ⟨hi, hg⟩
 have hw : i < l.length → IntKind.i64.wrap ((i : Int) + 1) = (i : Int) + 1 := fun _ => W_in (by omega) (by omega)
 refine E.seq ?_
 refine E.seq ?_
 refine E.reg hr (by simp; rfl) ?_
 by_cases hil : i < l.length
 · obtain ⟨a, rfl, hf, hc⟩ := hrow i hil
   have hc0 := (rul_cell hc).1
   refine E.cond (t := true) (by simp [hil]) (fun _ => ?_) (fun h => by cases h)
   refine E.skip ?_
   refine E.seq ?_
   refine E.block ?_
   refine E.seq ?_
   refine E.reg hr (by simp [-cellA, -flat, hil, hf, hc0]; rfl) ?_
   by_cases h4 : l[i].dir.size ≤ 20
   · have h4' : ¬ (20 : Int) < l[i].dir.size := by omega
     refine E.cond (t := false) (by simp [h4']) (fun h => by cases h) (fun _ => ?_)
     refine E.skip ?_
     refine E.reg hr (by simp [hw hil]; rfl) ?_
     exact ⟨i + 1, .keep rfl rfl rfl (by simp) (Sub.refl _), ⟨hil, fun j h hj => if e : j = i then by subst e; exact h4 else hg j h (by omega)⟩, by dsimp only; omega⟩
   · have h4' : (20 : Int) < l[i].dir.size := by omega
     have hs : shortR l = false := by
       unfold shortR
       rw [show l.all (fun r => decide (r.dir.size ≤ 20)) = false from List.all_eq_false.2 ⟨l[i], List.getElem_mem hil, by simpa using h4⟩, Bool.false_and]
     refine E.cond (t := true) (by simp [h4']) (fun _ => ?_) (fun h => by cases h)
     refine E.seq ?_
     refine E.reg hr (by simp; rfl) ?_
     refine E.ret ?_
     exact pureK.ret rfl rfl (by simp [hs]) (Sub.refl _)
 · have hs : shortR l = (decide (l.length ≤ 4) || decide (l.length = 13)) := by
     unfold shortR
     rw [show l.all (fun r => decide (r.dir.size ≤ 20)) = true from List.all_eq_true.2 fun x hx => by
       obtain ⟨j, hj, rfl⟩ := List.getElem_of_mem hx
       simpa using hg j hj (by omega), Bool.true_and]
   rw [hs]
   refine E.cond (t := false) (by simp [hil]) (fun h => by cases h) (fun _ => ?_)
   refine E.exit ?_
   refine E.seq ?_
   by_cases h4 : l.length ≤ 4
   · have h4I : (l.length : Int) ≤ 4 := by omega
     refine E.reg hr (by simp [h4I, undefV]; rfl) ?_
     refine E.ret ?_
     exact pureK.ret rfl rfl (by simp [h4]) (Sub.refl _)
   · have h4I : ¬ (l.length : Int) ≤ 4 := by omega
     refine E.reg hr (by simp [h4I]; rfl) ?_
     refine E.ret ?_
     exact pureK.ret rfl rfl (by simp [h4]; try omega) (Sub.refl _)
open Classical in
noncomputable def g89 (args : List Value) (H : Heap) (n : Nat) : R := match args with
 | [v] => if h : ∃ l, RulsV H v l then some (.bool (shortR (Classical.choose h)), H, n) else none
 | _ => none
theorem g89_at {H : Heap} {n : Nat} {v : Value} {l : List Rul} (h : RulsV H v l) : g89 [v] H n = some (.bool (shortR l), H, n) := by
 have he : ∃ l, RulsV H v l := ⟨l, h⟩
 simp only [g89]
 rw [dif_pos he, (Classical.choose_spec he).one h]
theorem ok89 : EntOk Tryz.prog (89, g89) := by
 intro args H n v H' n' h
 simp only [g89] at h
 split at h
 · split at h
   · rename_i he
     injection h with h; injection h with e1 e2; injection e2 with e2 e3; subst e1 e2 e3
     exact w89 (Classical.choose_spec he)
   · cases h
 · cases h
end Go.Proofs.YtndlfijfjglkdaaGreatDoor

namespace Go.Proofs.YtndlfijfjglkdaaGreatDoor
open Go Go.Ab Go.Proofs
theorem sz182i : Tryz.t182.size = 3 := by kernel_rfl
theorem zo182 : zeroOk Tryz.t182 = true := by kernel_rfl
theorem by182 : Tryz.t182.bytes ≤ 128 := by decide
def rlsL (l : List Rul) : List Value := l.flatMap Rul.cells
theorem afL_rls : ∀ l : List Rul, afL (rlsL l) = true
 | [] => rfl
 | r :: l => by
   show afL (r.cells ++ rlsL l) = true
   rw [afL_append, afL_rls l]
   rfl
theorem rls_ren (ρ : Nat → Nat) (l : List Rul) : renL ρ (rlsL l) = rlsL l := renL_af ρ _ (afL_rls l)
theorem RulsV.small {H : Heap} {v : Value} {l : List Rul} (h : RulsV H v l) (_hl : l.length < 2147483648) : ∃ oa c, v = .slice oa l.length c ∧ ∀ i (hi : i < l.length), ∃ a, oa = some a ∧ flat a = true ∧ cellsA H a.block (a.off + i * 3) 3 = some l[i].cells := by
 obtain ⟨oa, c, e, _, _, h3⟩ := h
 exact ⟨oa, c, e, h3⟩
set_option maxRecDepth 20000 in
theorem w92 {H : Heap} {n : Nat} {v : Value} {l : List Rul} (hV : RulsV H v l) (hlt : l.length < 2147483648) : AC Tryz.prog 92 [v] H n (outS n l.length) (outSB n 182 3 l.length (rlsL l) ++ H) (n + 1) := by
 refine AC.given fun hold hsc hgn => AC.tidied (fun x hx => outSB_ge x hx) ?_
 replace hV := hV.tidy fun k b h => (hold k b h).1
 have hr := recT_ok (P := Tryz.prog) (l := []) (by simp)
 obtain ⟨oa, c, rfl, hrow⟩ := hV.small hlt
 refine AC.grown Tryz.func92 rfl (by kernel_rfl) rfl [3, 6, 7, 8] ?_
 refine E.seq ?_
 refine E.reg hr (by simp; rfl) ?_
 refine E.seq ?_
 refine E.reg hr (by simp; rfl) ?_
 refine E.seq ?_
 refine E.seq ?_
 refine E.reg hr (by simp; rfl) ?_
 refine E.block ?_
 refine E.loop ?_
 refine EL.ind (fun x : Nat × Heap × Nat × Nat => { fr := [(3, outS x.2.2.2 x.1), (6, .slice oa l.length c), (7, iv l.length), (8, iv x.1)], sz := 18, H := x.2.1, n := x.2.2.1, marks := [], vs := [3, 6, 7, 8] }) (fun x => l.length - x.1) (fun x => x.1 ≤ l.length ∧ GL (tidy n H) n 182 3 (rlsL (l.take x.1)) x.1 x.2.1 x.2.2.1 x.2.2.2) (0, tidy n H, n, n) (.keep rfl rfl rfl (by simp) (Sub.refl _)) ⟨Nat.zero_le _, by simpa [rlsL] using GL.start (t := 182) (sz := 3) (Sub.refl (tidy n H)) namesOk_tidy (Nat.le_refl n) (by simp)⟩ (fun _ => rfl) ?_
 rintro ⟨i, Hx, N, o⟩ ⟨hi, hG⟩
 dsimp only at hi hG ⊢
 have hw : IntKind.i64.wrap ((i : Int) + 1) = (i : Int) + 1 := W_in (by omega) (by omega)
 refine E.seq ?_
 refine E.reg hr (by simp; rfl) ?_
 refine E.seq ?_
 by_cases hil : i < l.length
 · obtain ⟨a, rfl, hf, hc⟩ := hrow i hil
   have htk : l.take (i + 1) = l.take i ++ [l[i]] := List.take_succ_eq_append_getElem hil
   have hsn : rlsL (l.take i) ++ l[i].cells = rlsL (l.take (i + 1)) := by rw [htk]; unfold rlsL; rw [List.flatMap_append]; simp
   obtain ⟨q, hq⟩ : ∃ q, l[i] = q := ⟨_, rfl⟩
   rw [hq] at hc hsn
   have hcx : cellsA Hx a.block (a.off + i * 3) 3 = some [sv q.dir, iv q.band, iv q.least] := hG.sub.cells hc
   have hG1 := hG.skip tidy_lt (.cells [sv q.dir, iv q.band, iv q.least] 159) rfl
   obtain ⟨Hz, happ, hGz⟩ := hG1.app (P := Tryz.prog) (st := 154) (i := Tryz.t182) (new := [sv q.dir, iv q.band, iv q.least]) tidy_lt Tryz.underlying154 inf182 sz182i zo182 by182 (by omega) rfl (by omega) rfl rfl
   rw [show [sv q.dir, iv q.band, iv q.least] = q.cells from rfl, hsn] at hGz
   refine E.cond (t := true) (by simp [hil]) (fun _ => ?_) (fun h => by cases h)
   refine E.skip ?_
   refine E.seq ?_
   refine E.block ?_
   refine E.seq ?_
   refine E.reg hr (by simp [-cellsA, -flat, hil, hf, hcx]; rfl) ?_
   refine E.reg hr (by simp [-builtinA, happ]; rfl) ?_
   refine E.reg hr (by simp [hw]; rfl) ?_
   exact ⟨(i + 1, Hz, N + 1 + 1 + 1, N + 1 + 1), .keep rfl rfl rfl (by simp) (Sub.refl _), ⟨hil, hGz⟩, by dsimp only; omega⟩
 · have hil' : i = l.length := by omega
   subst hil'
   rw [List.take_length] at hG
   refine E.cond (t := false) (by simp) (fun h => by cases h) (fun _ => ?_)
   refine E.exit ?_
   refine E.seq ?_
   refine E.reg hr (by simp; rfl) ?_
   refine E.ret ?_
   exact outK.ret rfl rfl (hG.fresh (Nat.le_refl _) (afL_rls _) fun ρ => rls_ren ρ _)
open Classical in
noncomputable def g92 (args : List Value) (H : Heap) (n : Nat) : R := match args with
 | [v] => if h : ∃ l, RulsV H v l ∧ l.length < 2147483648 then some (outS n (Classical.choose h).length, outSB n 182 3 (Classical.choose h).length (rlsL (Classical.choose h)) ++ H, n + 1) else none
 | _ => none
theorem g92_at {H : Heap} {n : Nat} {v : Value} {l : List Rul} (h : RulsV H v l) (hl : l.length < 2147483648) : g92 [v] H n = some (outS n l.length, outSB n 182 3 l.length (rlsL l) ++ H, n + 1) := by
 have he : ∃ l, RulsV H v l ∧ l.length < 2147483648 := ⟨l, h, hl⟩
 simp only [g92]
 rw [dif_pos he, (Classical.choose_spec he).1.one h]
theorem ok92 : EntOk Tryz.prog (92, g92) := by
 intro args H n v H' n' h
 simp only [g92] at h
 split at h
 · split at h
   · rename_i he
     injection h with h; injection h with e1 e2; injection e2 with e2 e3; subst e1 e2 e3
     exact w92 (Classical.choose_spec he).1 (Classical.choose_spec he).2
   · cases h
 · cases h
end Go.Proofs.YtndlfijfjglkdaaGreatDoor

namespace Go.Proofs.YtndlfijfjglkdaaGreatDoor
open Go Go.Ab Go.Proofs
def RowW (H : Heap) (m : Nat) (Z : List ByteArray) : Prop := hget H m = some (.ext (Z.map sv) 9 1) ∨ hget H m = some (.row (Z.map sv) 1)
theorem used_rowW {H : Heap} {m : Nat} {Z : List ByteArray} (h : RowW H m Z) (k : Nat) (s : Nat) : usedA H 1 (some ⟨m, k, some 0⟩) s = Z.length - s := by
 rcases h with h | h <;> simp [usedA, h]
theorem slice_hiW {fr : Fr} {H : Heap} {n m L : Nat} {x y : Operand} {Z : List ByteArray} {i : Nat} (hg : RowW H m Z) (hi : i ≤ Z.length) (h0 : 0 < Z.length) (hx : evO Tryz.prog fr x = some (.slice (some ⟨m, 0, some 0⟩) L 0)) (hy : evO Tryz.prog fr y = some (iv i)) :
   opSlice Tryz.prog 102 x none (some y) none fr H n = some (.slice (some ⟨m, 0, some 0⟩) i 0, H, n) := by
 simp only [opSlice, hx, evI, hy, Tryz.underlying102, show szA Tryz.prog 9 = some 1 from by simp, used_rowW hg]
 simp [sliceA, boundA, hi, h0]
theorem RowW.frz {H : Heap} {m : Nat} {Z : List ByteArray} (h : RowW H m Z) : RowW (frzH H) m Z := by
 refine .inr ?_
 rw [hget_frz]
 rcases h with h | h <;> rw [h] <;> rfl
theorem RowW.mono {H H' : Heap} (hs : Sub H H') {m : Nat} {Z : List ByteArray} (h : RowW H m Z) : RowW H' m Z := h.imp (hs _ _) (hs _ _)
theorem RowW.cells {H : Heap} {m k : Nat} {Z : List ByteArray} (h : RowW H m Z) (hk : k ≤ Z.length) : cellsA H m 0 k = some ((Z.take k).map sv) := by
 rcases h with h | h <;> rw [cellsA_eq, h] <;> simp [cellsB, List.map_take] <;> omega
theorem strsOf_map : ∀ l : List ByteArray, strsOf (l.map sv) = some l
 | [] => rfl
 | x :: l => by
   show (strsOf (l.map sv)).map (x :: ·) = _
   rw [strsOf_map l]
   rfl
theorem RowW.strs {H : Heap} {m k : Nat} {Z : List ByteArray} (h : RowW H m Z) (hk : k ≤ Z.length) (hl : Z.length < 2147483648) : strsAt H ⟨m, 0, some 0⟩ k = some (Z.take k) := by
 unfold strsAt
 rw [h.cells hk, if_pos (by simp [flat]; omega), Option.bind_some, strsOf_map]
def dropC (l : List Gun) (ws : List ByteArray) (i : Nat) : Int := match ws[i]? with
 | some s => firstV [whenV (decide (atV l s l.length < 0)) 10, whenV (hasW s (ws.take i)) 9]
 | none => 0
def dropE (l : List Gun) (ws : List ByteArray) : Int := firstV ((List.range ws.length).map (dropC l ws))
theorem dropC_at {l : List Gun} {ws : List ByteArray} {i : Nat} (h : i < ws.length) : dropC l ws i = firstV [whenV (decide (atV l ws[i] l.length < 0)) 10, whenV (hasW ws[i] (ws.take i)) 9] := by
 unfold dropC
 rw [List.getElem?_eq_getElem h]
theorem GunsAt.frzA {H : Heap} {v : Value} {l : List Gun} (h : GunsAt H v l) : GunsAt (frzH H) v l := by
 obtain ⟨a, c, e, h1, h2, h3⟩ := h
 exact ⟨a, c, e, h1, by rw [cellsA_frz]; exact h2, h3⟩
set_option maxRecDepth 20000 in
set_option maxHeartbeats 1000000 in
theorem w159 {H : Heap} {n b : Nat} {v : Value} {l : List Gun} {ws : List ByteArray} (hG : GunsAt H v l) (hW : RowW H b ws) (h0 : 0 < ws.length) (hlt : ws.length < 2147483648) : AC Tryz.prog 159 [.agg ⟨[v]⟩, .slice (some ⟨b, 0, some 0⟩) ws.length 0] H n (iv (dropE l ws)) H n := by
 refine AC.given fun hold hsc hgn => AC.tidied (B := []) (by simp) ?_
 have hlt0 := fun k b h => (hold k b h).1
 replace hG := hG.tidy hlt0
 have hbn : b < n := by rcases hW with h | h <;> exact hlt0 _ _ h
 replace hW : RowW (tidy n H) b ws := hW.imp (fun h => hget_tidy.2 ⟨h, hbn, rfl⟩) (fun h => hget_tidy.2 ⟨h, hbn, rfl⟩)
 have hr := recT_ok (P := Tryz.prog) (l := [(122, g122), (114, g114), (161, g161), (113, g113)]) (by simp only [List.forall_mem_cons]; exact ⟨ok122, ok114, ok161, ok113, by simp⟩)
 obtain ⟨ga, gc, rfl, hgf, hgc, hg0, hg31⟩ := hG
 obtain ⟨X0, hX0⟩ : ∃ X0, (n, Blk.cells [.slice (some ga) l.length gc] 32) :: tidy n H = X0 := ⟨_, rfl⟩
 have hS0 : Sub (tidy n H) X0 := by rw [← hX0]; exact Sub.cons (by simp) (Sub.refl _)
 have hnm : namesOk (n + 1) X0 = true := by rw [← hX0]; exact namesOk_put (by omega) (namesOk_mono (by omega) _ namesOk_tidy)
 have hpl : plainH X0 = true := by rw [← hX0]; simp [plainH, plainB2]
 have hb0 : cellA X0 n 0 = some (.slice (some ga) l.length gc) := by rw [← hX0, cellA_cons, if_pos rfl]; rfl
 have hWx : RowW X0 b ws := hW.mono hS0
 have hWf := hWx.frz
 have htk := takeNew_frz hnm
 have hbx : b < n + 1 := by omega
 refine AC.pure Tryz.func159 rfl (by kernel_rfl) rfl [1, 2, 8, 9, 10] rfl ?_
 refine E.seq ?_
 refine E.reg hr (by simp; rfl) ?_
 rw [hX0]
 refine E.seq ?_
 refine E.seq ?_
 refine E.reg hr (by simp; rfl) ?_
 refine E.block ?_
 refine E.loop ?_
 refine EL.ind (fun x : Nat × Heap × Nat => { fr := [(1, .slice (some ⟨b, 0, some 0⟩) ws.length 0), (2, .pointer (some ⟨n, 0, none⟩)), (8, .slice (some ⟨b, 0, some 0⟩) ws.length 0), (9, iv ws.length), (10, iv x.1)], sz := 33, H := x.2.1, n := x.2.2, marks := [], vs := [1, 2, 8, 9, 10] }) (fun x => ws.length - x.1) (fun x => x.1 ≤ ws.length ∧ (∀ j, j < x.1 → dropC l ws j = 0) ∧ Sub X0 x.2.1 ∧ n < x.2.2 ∧ namesOk x.2.2 x.2.1 = true ∧ plainH x.2.1 = true) (0, X0, n + 1) (.keep rfl rfl rfl (by simp) (Sub.refl _)) ⟨Nat.zero_le _, fun j hj => by omega, Sub.refl _, Nat.lt_succ_self _, hnm, hpl⟩ (fun _ => rfl) ?_
 rintro ⟨i, Z, N⟩ ⟨hi, hz, hSZ, hNn, hnZ, hpZ⟩
 dsimp only at hi hz hSZ hNn hnZ hpZ ⊢
 have hw : IntKind.i64.wrap ((i : Int) + 1) = (i : Int) + 1 := W_in (by omega) (by omega)
 refine E.seq ?_
 refine E.reg hr (by simp; rfl) ?_
 refine E.seq ?_
 by_cases hil : i < ws.length
 · have hilI : (i : Int) < ws.length := by omega
   have hWz : RowW Z b ws := hW.mono (hS0.trans hSZ)
   have hWzf := hWz.frz
   have hcw : cellA Z b i = some (sv ws[i]) := by
     rcases hWz with h | h <;> rw [cellA_eq, h] <;> simp [cellB, List.getElem?_map, List.getElem?_eq_getElem hil]
   have hbz := hSZ.cell hb0
   have hGz : GunsAt Z (.slice (some ga) l.length gc) l := ⟨ga, gc, rfl, hgf, hSZ.cells (hS0.cells hgc), hg0, hg31⟩
   have hGzf : gunsAt (frzH Z) ga l.length = some l := GunsAt.at (GunsAt.frzA hGz)
   have htz := takeNew_frz hnZ
   obtain ⟨s, hs⟩ : ∃ s, ws[i] = s := ⟨_, rfl⟩
   have hC := dropC_at (l := l) hil
   rw [hs] at hcw hC
   obtain ⟨q, hq⟩ : ∃ q, atV l s l.length = q := ⟨_, rfl⟩
   obtain ⟨hb, hhb⟩ : ∃ z, hasW s (ws.take i) = z := ⟨_, rfl⟩
   rw [hq, hhb] at hC
   have h122 : ∀ m, g122 [.slice (some ga) l.length gc, sv s] (frzH Z) m = some (iv q, frzH Z, m) := fun m => by
     simp only [g122, hGzf, Option.map_some, hq]
   have h161 : ∀ m, g161 [.slice (some ⟨b, 0, some 0⟩) i 0, sv s] (frzH Z) m = some (.bool hb, frzH Z, m) := fun m => by
     simp only [g161, hWzf.strs (Nat.le_of_lt hil) hlt, Option.map_some, hhb]
   have h161z : ∀ m, g161 [.slice (some ⟨b, 0, some 0⟩) i 0, sv s] Z m = some (.bool hb, Z, m) := fun m => by
     simp only [g161, hWz.strs (Nat.le_of_lt hil) hlt, Option.map_some, hhb]
   have hib : i ≤ ws.length := hi
   obtain ⟨z, hzz⟩ : ∃ z, firstV [whenV (decide (q < 0)) 10, whenV hb 9] = z := ⟨_, rfl⟩
   have hnN : n < N := hNn
   have hbN : b < N := by omega
   have hnZ1 := namesOk_mono (Nat.le_succ N) _ hnZ
   have hWr : RowW (readA [b] Z) b ws := hWz.imp (fun h => by rw [hget_readA, if_pos (by simp [memN]), h]) (fun h => by rw [hget_readA, if_pos (by simp [memN]), h])
   refine E.cond (t := true) (by simp [hil]) (fun _ => ?_) (fun h => by cases h)
   refine E.skip ?_
   refine E.seq ?_
   refine E.block ?_
   refine E.seq ?_
   refine E.reg hr (by simp [-cellA, hil, hilI, hcw]; rfl) ?_
   refine E.seq ?_
   refine E.drawU mixed hr [10, 11, 12, 13] [3, 5, 10, 11, 12, 13] [1, 3, 5, 10, 11, 12, 13] (by kernel_rfl) (by simp [-cellA, -readA, cellA_read, hnZ, hnZ1, hpZ, htz, hnN, hbz, h122, h161z, g114, hbN, slice_hiW (L := ws.length) hWr hib h0, g113, intsAt, intsOf, hzz]; rfl) ?_
   refine E.seq ?_
   refine E.reg hr (by simp; rfl) ?_
   rw [hzz] at hC
   by_cases hz0 : z = 0
   · refine E.cond (t := false) (by simp [hz0]) (fun h => by cases h) (fun _ => ?_)
     refine E.skip ?_
     refine E.reg hr (by simp [hw]; rfl) ?_
     exact ⟨(i + 1, (N, Blk.cells [iv (whenV (decide (q < 0)) 10), iv (whenV hb 9)] 27) :: Z, N + 1), .keep rfl rfl rfl (by simp) (Sub.refl _), ⟨hil, fun j hj => if e : j = i then by rw [e, hC, hz0] else hz j (by omega), hSZ.trans (Sub.cons (namesOk_none hnZ _ (Nat.le_refl _)) (Sub.refl _)), Nat.lt_succ_of_lt hNn, namesOk_put (Nat.lt_succ_self _) hnZ1, by simp [plainH, plainB2, hpZ]⟩, by dsimp only; omega⟩
   · have hd : dropE l ws = z := by rw [dropE, firstV_map_hit hil hz (by rw [hC]; exact hz0), hC]
     refine E.cond (t := true) (by simp [hz0]) (fun _ => ?_) (fun h => by cases h)
     refine E.seq ?_
     refine E.reg hr (by simp; rfl) ?_
     refine E.ret ?_
     exact pureK.ret rfl rfl (by rw [hd]; rfl) (hS0.trans (hSZ.trans (Sub.cons (namesOk_none hnZ _ (Nat.le_refl _)) (Sub.refl _))))
 · have e : i = ws.length := by omega
   subst e
   have hd : dropE l ws = 0 := by rw [dropE, firstV_map_zero hz]
   refine E.cond (t := false) (by simp) (fun h => by cases h) (fun _ => ?_)
   refine E.exit ?_
   refine E.seq ?_
   refine E.reg hr (by simp; rfl) ?_
   refine E.ret ?_
   exact pureK.ret rfl rfl (by rw [hd]; rfl) (hS0.trans hSZ)
theorem w159n {H : Heap} {n c : Nat} {oa : Option Addr} {v : Value} {l : List Gun} (_hG : GunsAt H v l) : AC Tryz.prog 159 [.agg ⟨[v]⟩, .slice oa 0 c] H n (iv 0) H n := by
 refine AC.given fun hold hsc hgn => AC.tidied (B := []) (by simp) ?_
 have hr := recT_ok (P := Tryz.prog) (l := []) (by simp)
 refine AC.pure Tryz.func159 rfl (by kernel_rfl) rfl [8, 9, 10] rfl ?_
 refine E.seq ?_
 refine E.reg hr (by simp; rfl) ?_
 refine E.seq ?_
 refine E.seq ?_
 refine E.reg hr (by simp; rfl) ?_
 refine E.block ?_
 refine E.loop ?_
 refine EL.ind (fun _ : Nat => { fr := [(8, .slice oa 0 c), (9, iv 0), (10, iv 0)], sz := 33, H := (n, .cells [v] 32) :: tidy n H, n := n + 1, marks := [], vs := [8, 9, 10] }) (fun i => i) (fun i => i = 0) 0 (.keep rfl rfl rfl (by simp) (Sub.refl _)) rfl (fun _ => rfl) ?_
 rintro i rfl
 refine E.seq ?_
 refine E.reg hr (by simp; rfl) ?_
 refine E.seq ?_
 refine E.cond (t := false) (by simp) (fun h => by cases h) (fun _ => ?_)
 refine E.exit ?_
 refine E.seq ?_
 refine E.reg hr (by simp; rfl) ?_
 refine E.ret ?_
 exact pureK.ret rfl rfl rfl (Sub.cons (by simp) (Sub.refl _))
def OwnW (H : Heap) (v : Value) (ws : List ByteArray) : Prop := (∃ b, v = .slice (some ⟨b, 0, some 0⟩) ws.length 0 ∧ RowW H b ws ∧ 0 < ws.length ∧ ws.length < 2147483648) ∨ (ws = [] ∧ ∃ oa c, v = .slice oa 0 c)
theorem OwnW.mono {H H' : Heap} (hs : Sub H H') {v : Value} {ws : List ByteArray} (h : OwnW H v ws) : OwnW H' v ws := by
 rcases h with ⟨b, e, h1, h2⟩ | h
 · exact .inl ⟨b, e, h1.mono hs, h2⟩
 · exact .inr h
theorem RowW.one {H : Heap} {b : Nat} {l k : List ByteArray} (h : RowW H b l) (h' : RowW H b k) : l = k := by
 have e : ∀ {l k : List ByteArray}, l.map sv = k.map sv → l = k := fun {l k} h => by
   have := congrArg strsOf h
   rw [strsOf_map, strsOf_map] at this
   injection this
 rcases h with h | h <;> rcases h' with h' | h' <;> rw [h] at h'
 · injection h' with h'; injection h' with h1; exact e h1
 · injection h' with h'; cases h'
 · injection h' with h'; cases h'
 · injection h' with h'; injection h' with h1; exact e h1
theorem OwnW.one {H : Heap} {v : Value} {l k : List ByteArray} (h : OwnW H v l) (h' : OwnW H v k) : l = k := by
 rcases h with ⟨b, rfl, h1, h2, _⟩ | ⟨rfl, oa, c, rfl⟩
 · rcases h' with ⟨b', e, h1', _⟩ | ⟨rfl, oa, c, e⟩
   · injection e with e
     injection e with e
     injection e with e
     subst e
     exact h1.one h1'
   · injection e with _ e
     omega
 · rcases h' with ⟨b', e, _, h2', _⟩ | ⟨rfl, _⟩
   · injection e with _ e
     omega
   · rfl
open Classical in
noncomputable def g159 (args : List Value) (H : Heap) (n : Nat) : R := match args with
 | [.agg ⟨[v]⟩, u] => if h : ∃ p : List Gun × List ByteArray, GunsAt H v p.1 ∧ OwnW H u p.2 then some (iv (dropE (Classical.choose h).1 (Classical.choose h).2), H, n) else none
 | _ => none
theorem g159_at {H : Heap} {n : Nat} {v u : Value} {l : List Gun} {ws : List ByteArray} (hG : GunsAt H v l) (hW : OwnW H u ws) : g159 [.agg ⟨[v]⟩, u] H n = some (iv (dropE l ws), H, n) := by
 have he : ∃ p : List Gun × List ByteArray, GunsAt H v p.1 ∧ OwnW H u p.2 := ⟨(l, ws), hG, hW⟩
 simp only [g159]
 rw [dif_pos he, (Classical.choose_spec he).1.one hG, (Classical.choose_spec he).2.one hW]
theorem ok159 : EntOk Tryz.prog (159, g159) := by
 intro args H n v H' n' h
 simp only [g159] at h
 split at h
 · split at h
   · rename_i he
     injection h with h; injection h with e1 e2; injection e2 with e2 e3; subst e1 e2 e3
     obtain ⟨h1, h2⟩ := Classical.choose_spec he
     generalize Classical.choose he = p at h1 h2 ⊢
     obtain ⟨l, ws⟩ := p
     dsimp only at h1 h2 ⊢
     rcases h2 with ⟨b, rfl, h3, h4, h5⟩ | ⟨rfl, oa, c, rfl⟩
     · exact w159 h1 h3 h4 h5
     · exact w159n h1
   · cases h
 · cases h
end Go.Proofs.YtndlfijfjglkdaaGreatDoor

namespace Go.Proofs.YtndlfijfjglkdaaGreatDoor
open Go Go.Ab Go.Proofs
theorem fresh_cells {n m k t : Nat} {cs : List Value} {H H1 : Heap} (haf : afL cs = true) (hm : n ≤ m) (hg : hget H1 m = some (.cells cs t)) (hs : Sub H H1) : Fresh n (n + 1) H (.slice (some ⟨n, 0, none⟩) k k) [(n, .cells cs t)] (.slice (some ⟨m, 0, none⟩) k k) H1 := by
 refine ⟨fun j => if j = n then m else j, fun j hj => if_neg (by omega), ?_, fun k b hk => ?_, fun j b k c hj hk _ => ?_, hs⟩
 · simp [Ab.ren]
 · rw [hget_cons] at hk
   split at hk
   · rename_i e; subst e; injection hk with hk; subst hk
     exact ⟨Nat.le_refl _, Nat.lt_succ_self _, by simpa using hm, by simp only [if_true, renB]; rw [renL_af _ _ haf]; exact hg, scL_af _ _ haf, trivial, rfl⟩
   · simp at hk
 · rw [hget_cons] at hj hk
   split at hj
   · split at hk
     · omega
     · simp at hk
   · simp at hj
theorem plainI {k : Nat} {b : Blk} (hb : plainB2 b = true) : ∀ {H : Heap}, plainH H = true → plainH (hset H k b) = true
 | [], _ => rfl
 | (j, c) :: H, h => by
   simp only [plainH, Bool.and_eq_true] at h
   unfold hset
   split
   · simp only [plainH, Bool.and_eq_true]
     exact ⟨hb, h.2⟩
   · simp only [plainH, Bool.and_eq_true]
     exact ⟨h.1, plainI hb h.2⟩
def sigF (b : Nat → Bool) (l : List Gun) (sh : List Int) (d : ByteArray) (W : Nat) : Nat → List Int
 | 0 => zeros W
 | i + 1 => if b i then addAll (sigF b l sh d W i) ((arrL d l).getD i 0) (vAt l i) (sh.getD i 0) else sigF b l sh d W i
@[simp] theorem sigF_length (b : Nat → Bool) (l : List Gun) (sh : List Int) (d : ByteArray) (W : Nat) : ∀ i, (sigF b l sh d W i).length = W
 | 0 => by simp [sigF]
 | i + 1 => by
   rw [sigF]
   split
   · simp [sigF_length b l sh d W i]
   · exact sigF_length b l sh d W i
structure FireOk (f : Nat) (cap : List Value) (K : Heap → Prop) (b : Nat → Bool) (L : Nat) : Prop where
 ok : ∀ (H : Heap) (n i : Nat), K H → i < L → AC Tryz.prog f (iv i :: cap) H n (.bool (b i)) H n
 mono : ∀ H H' : Heap, Sub H H' → K H → K H'
 tidy : ∀ (H : Heap) (n : Nat), (∀ k b, hget H k = some b → k < n) → K H → K (Ab.tidy n H)
open Classical in
noncomputable def gFire (cap : List Value) (K : Heap → Prop) (b : Nat → Bool) (L : Nat) (args : List Value) (H : Heap) (n : Nat) : R := match args with
 | .int .i64 i :: cs => if cs = cap ∧ K H ∧ 0 ≤ i ∧ i.toNat < L then some (.bool (b i.toNat), H, n) else none
 | _ => none
theorem okFire {f : Nat} {cap : List Value} {K : Heap → Prop} {b : Nat → Bool} {L : Nat} (h : FireOk f cap K b L) : EntOk Tryz.prog (f, gFire cap K b L) := by
 intro args H n v H' n' hh
 simp only [gFire] at hh
 split at hh
 · rename_i i cs
   split at hh
   · rename_i hc
     obtain ⟨rfl, h1, h2, h3⟩ := hc
     injection hh with hh; injection hh with e1 e2; injection e2 with e2 e3; subst e1 e2 e3
     obtain ⟨k, rfl⟩ := Int.eq_ofNat_of_zero_le h2
     exact h.ok H n k h1 h3
   · cases hh
 · cases hh
set_option maxRecDepth 20000 in
set_option maxHeartbeats 2000000 in
theorem w133F {H : Heap} {n f bsh W : Nat} {cap : Array Value} {K : Heap → Prop} {b : Nat → Bool} {v : Value} {l : List Gun} {sh : List Int} {d : ByteArray} {c : Nat} (hG : OwnG H v l) (hsv : intV H (.slice (some ⟨bsh, 0, some 0⟩) sh.length c) = some sh) (hF : FireOk f cap.toList K b l.length) (hK : K H) (hf1 : f ≠ 116) (hf2 : f ≠ 128) (hst : strE l = 0) (hd : hasW d dirs = true) (hsh : shE l sh = 0) (hW : 1 ≤ W ∧ W ≤ 64) :
   AC Tryz.prog 133 [.agg ⟨[v]⟩, .slice (some ⟨bsh, 0, some 0⟩) sh.length c, sv d, iv W, .func (.func f) #[] cap] H n (.slice (some ⟨n, 0, none⟩) W W) ([(n, .cells ((sigF b l sh d W l.length).map iv) 3)] ++ H) (n + 1) := by
 refine AC.given fun hold hsc hgn => AC.tidied (fun x hx => by rw [List.mem_singleton] at hx; subst hx; exact Nat.le_refl _) ?_
 have hlt0 := fun k b h => (hold k b h).1
 replace hG := hG.tidy hlt0
 replace hsv : intV (tidy n H) (.slice (some ⟨bsh, 0, some 0⟩) sh.length c) = some sh := listV_tidy decI_tidy hlt0 hsv
 replace hK := hF.tidy H n hlt0 hK
 have hr := recT_ok (P := Tryz.prog) (l := [(116, g116), (128, g128), (f, gFire cap.toList K b l.length)]) (by simp only [List.forall_mem_cons]; exact ⟨ok116, ok128, okFire hF, by simp⟩)
 obtain ⟨h1, h8⟩ := strE_len hst
 obtain ⟨hse, hsb⟩ := shE_zero hsh
 have hal := arrL_length d l
 obtain ⟨X0, hX0⟩ : ∃ X0, (n, Blk.cells [v] 32) :: tidy n H = X0 := ⟨_, rfl⟩
 have hS0 : Sub (tidy n H) X0 := by rw [← hX0]; exact Sub.cons (by simp) (Sub.refl _)
 have hnm0 : namesOk (n + 1) X0 = true := by rw [← hX0]; exact namesOk_put (by omega) (namesOk_mono (by omega) _ namesOk_tidy)
 have hpl0 : plainH X0 = true := by rw [← hX0]; simp [plainH, plainB2]
 have hb0 : hget X0 n = some (.cells [v] 32) := by rw [← hX0, hget_cons, if_pos rfl]
 have hb0' : cellsA X0 n 0 1 = some [v] := by rw [cellsA_eq, hb0]; rfl
 obtain ⟨X1, hX1⟩ : ∃ X1, (n + 1, Blk.cells (List.replicate W (iv 0)) 3) :: X0 = X1 := ⟨_, rfl⟩
 have hS1 : Sub X0 X1 := by rw [← hX1]; exact Sub.cons (namesOk_none hnm0 _ (Nat.le_refl _)) (Sub.refl _)
 have hnm1 : namesOk (n + 1 + 1) X1 = true := by rw [← hX1]; exact namesOk_put (by omega) (namesOk_mono (by omega) _ hnm0)
 have hpl1 : plainH X1 = true := by rw [← hX1]; simp [plainH, plainB2, hpl0]
 have hb1 : hget X1 (n + 1) = some (.cells ((zeros W).map iv) 3) := by
   rw [← hX1, hget_cons, if_pos rfl]
   simp [zeros]
 have h116 := (hG.mono (hS0.trans hS1)).arr (d := d) hst hd (n + 1 + 1)
 obtain ⟨X2, hX2⟩ : ∃ X2, (n + 1 + 1, Blk.ext ((arrL d l).map iv) 3 1) :: X1 = X2 := ⟨_, rfl⟩
 have hS2 : Sub X1 X2 := by rw [← hX2]; exact Sub.cons (namesOk_none hnm1 _ (Nat.le_refl _)) (Sub.refl _)
 have hnm2 : namesOk (n + 1 + 1 + 1) X2 = true := by rw [← hX2]; exact namesOk_put (by omega) (namesOk_mono (by omega) _ hnm1)
 have hpl2 : plainH X2 = true := by rw [← hX2]; simp [plainH, plainB2, hpl1]
 have hb2 : hget X2 (n + 1 + 1) = some (.ext ((arrL d l).map iv) 3 1) := by rw [← hX2, hget_cons, if_pos rfl]
 rw [hX2] at h116
 have hS02 := hS0.trans (hS1.trans hS2)
 obtain ⟨al, hal2⟩ : ∃ al, (arrL d l).length = al := ⟨_, rfl⟩
 rw [hal2] at h116
 refine AC.fresh Tryz.func133 rfl (by kernel_rfl) rfl [1, 4, 5, 11, 18, 19, 20] (by omega) (show n < n + 1 by omega) (fun ρ => rfl) ?_
 refine E.seq ?_
 refine E.reg hr (by simp; rfl) ?_
 rw [hX0]
 refine E.seq ?_
 refine E.reg hr (by simp [mk45 (w := (W : Int)) (by omega) (by omega)]; rfl) ?_
 rw [hX1]
 refine E.seq ?_
 refine E.seq ?_
 refine E.reg hr (by simp [-cellsA, hS1.cells hb0', h116]; rfl) ?_
 refine E.block ?_
 refine E.loop ?_
 refine EL.ind (fun x : Nat × Heap => { fr := [(1, .slice (some ⟨bsh, 0, some 0⟩) sh.length c), (4, .func (.func f) #[] cap), (5, .pointer (some ⟨n, 0, none⟩)), (11, .slice (some ⟨n + 1, 0, none⟩) W W), (18, .slice (some ⟨n + 1 + 1, 0, some 0⟩) al 0), (19, iv al), (20, iv x.1)], sz := 43, H := x.2, n := n + 1 + 1 + 1, marks := [], vs := [1, 4, 5, 11, 18, 19, 20] }) (fun x => al - x.1) (fun x => x.1 ≤ al ∧ (∀ k b, k ≠ n + 1 → hget X2 k = some b → hget x.2 k = some b) ∧ hget x.2 (n + 1) = some (.cells ((sigF b l sh d W x.1).map iv) 3) ∧ namesOk (n + 1 + 1 + 1) x.2 = true ∧ plainH x.2 = true) (0, X2) (.keep rfl rfl rfl (by simp) (Sub.refl _)) ⟨Nat.zero_le _, fun _ _ _ h => h, hS2 _ _ hb1, hnm2, hpl2⟩ (fun _ => rfl) ?_
 rintro ⟨i, Z⟩ ⟨hi, hkZ, hbZ, hnZ, hpZ⟩
 dsimp only at hi hkZ hbZ hnZ hpZ ⊢
 have hal8 : al = l.length := by rw [← hal2, hal]
 have hwi : IntKind.i64.wrap ((i : Int) + 1) = (i : Int) + 1 := W_in (by omega) (by omega)
 have hTZ : Sub (tidy n H) Z := fun k b hk => hkZ k b (by have := tidy_lt k b hk; omega) (hS02 _ _ hk)
 refine E.seq ?_
 refine E.reg hr (by simp; rfl) ?_
 refine E.seq ?_
 by_cases hil : i < al
 · have hilI : (i : Int) < al := by omega
   have hil' : i < l.length := by omega
   have his : i < sh.length := by omega
   have hisI : (i : Int) < sh.length := by omega
   have hilJ : (i : Int) < l.length := by omega
   have hia : i < (arrL d l).length := by omega
   have hab := arrL_bounds hst d _ (List.getElem_mem hia)
   have hca : cellA Z (n + 1 + 1) i = some (iv (arrL d l)[i]) := by
     rw [cellA_eq, hkZ _ _ (by omega) hb2]
     simp [cellB, List.getElem?_map, List.getElem?_eq_getElem hia]
   obtain ⟨a, ha⟩ : ∃ a, (arrL d l)[i] = a := ⟨_, rfl⟩
   rw [ha] at hca hab
   have hfire : ∀ m, gFire cap.toList K b l.length (iv i :: cap.toList) Z m = some (.bool (b i), Z, m) := fun m => by
     simp only [gFire]
     rw [if_pos ⟨rfl, hF.mono _ _ hTZ hK, by omega, by simpa using hil'⟩]
     rfl
   have hgF : (116 = f) = False := eq_false fun e => hf1 e.symm
   have hgF2 : (128 = f) = False := eq_false fun e => hf2 e.symm
   refine E.cond (t := true) (by simp [hil]) (fun _ => ?_) (fun h => by cases h)
   refine E.skip ?_
   refine E.seq ?_
   refine E.block ?_
   refine E.seq ?_
   refine E.reg hr (by simp [-cellA, hil, hilI, hca]; rfl) ?_
   refine E.seq ?_
   refine E.reg hr (by simp [run_vcall_tmp, vcallF, target, hgF, hgF2, hfire]; rfl) ?_
   cases hbi : b i with
   | false =>
     refine E.cond (t := false) (by simp) (fun h => by cases h) (fun _ => ?_)
     refine E.skip ?_
     refine E.reg hr (by simp [hwi]; rfl) ?_
     refine ⟨(i + 1, Z), .keep rfl rfl rfl (by simp) (Sub.refl _), ⟨hil, hkZ, ?_, hnZ, hpZ⟩, by dsimp only; omega⟩
     simp only [sigF, hbi]
     exact hbZ
   | true =>
     obtain ⟨ob, hov, hrow, hgl0, hgl1⟩ := hG
     subst hov
     have hob : ob < n := by rcases hrow with h | h <;> exact tidy_lt _ _ h
     have hgv : cellA Z ob (i * 7 + 1) = some (iv l[i].v) := by
       have h1 := hTZ.cells (OwnG.gun ⟨ob, rfl, hrow, hgl0, hgl1⟩ hil')
       have h2 := (cellsA_cell h1 (i := 1) (by omega)).1
       exact h2
     have hbsh : cellA Z bsh i = some (iv sh[i]) := by
       obtain ⟨oa, cc, e1, _, _, h3⟩ := intV_form hsv
       obtain ⟨a', e2, _, e4⟩ := h3 i his
       injection e1 with e1
       rw [← e1] at e2
       injection e2 with e2
       subst e2
       have := hTZ.cell e4
       rwa [show (0 : Nat) + i = i by omega] at this
     have hbshn : bsh < n := by
       obtain ⟨oa, cc, e1, _, _, h3⟩ := intV_form hsv
       obtain ⟨a', e2, _, e4⟩ := h3 i his
       injection e1 with e1
       rw [← e1] at e2
       injection e2 with e2
       subst e2
       exact cellA_lt (fun k b h => tidy_lt k b h) e4
     obtain ⟨hvb, _, _, _, hlo, hhi⟩ := gun_nums hst l[i] (List.getElem_mem hil')
     have hsi := hsb i hil' his
     have hbz0 : cellA Z n 0 = some (.slice (some ⟨ob, 0, some 0⟩) l.length 0) := by
       rw [cellA_eq, hkZ _ _ (by omega) (hS2 _ _ (hS1 _ _ hb0))]
       rfl
     obtain ⟨S, hS⟩ : ∃ S, sigF b l sh d W i = S := ⟨_, rfl⟩
     rw [hS] at hbZ
     have hSl : S.length = W := by rw [← hS]; simp
     obtain ⟨q, hq⟩ : ∃ q, l[i].v = q := ⟨_, rfl⟩
     obtain ⟨s, hs⟩ : ∃ s, sh[i] = s := ⟨_, rfl⟩
     rw [hq] at hgv hvb
     rw [hs] at hbsh hsi
     obtain ⟨Zn, hZn⟩ : ∃ Zn, hset Z (n + 1) (.cells ((addAll S a q s).map iv) 3) = Zn := ⟨_, rfl⟩
     have h128 : ∀ m, g128 [.slice (some ⟨n + 1, 0, none⟩) W W, iv a, iv q, iv s] Z m = some (.tuple #[], Zn, m) := fun m => by
       simp only [g128, hbZ, intsOf_iv]
       rw [if_pos ⟨hSl.symm, by omega, by omega, hvb, by omega⟩, hZn]
     have hnn : namesOk (n + 1 + 1 + 1) Zn = true := by rw [← hZn]; exact namesOk_hset hnZ
     have hx1 : n < n + 1 + 1 + 1 := by omega
     have hx2 : ob < n + 1 + 1 + 1 := by omega
     have hx3 : bsh < n + 1 + 1 + 1 := by omega
     refine E.cond (t := true) (by simp) (fun _ => ?_) (fun h => by cases h)
     refine E.drawU mixed hr [12] [12] [3, 7, 11, 12] (by kernel_rfl) (by simp [-cellA, -readA, cellA_read, hnZ, hx1, hx2, hx3, hbz0, hgv, hbsh, hisI, hilJ, h128, hnn]; rfl) ?_
     refine E.reg hr (by simp [hwi]; rfl) ?_
     refine ⟨(i + 1, Zn), .keep rfl rfl rfl (by simp) (Sub.refl _), ⟨hil, fun k b' hk hb' => ?_, ?_, hnn, ?_⟩, by dsimp only; omega⟩
     · rw [← hZn, hget_set, if_neg (fun e => hk e.symm)]
       exact hkZ k b' hk hb'
     · rw [← hZn, hget_set, if_pos rfl, hbZ]
       simp only [sigF, hbi, if_true, hS, Option.map_some]
       rw [List.getD_eq_getElem?_getD, List.getElem?_eq_getElem hia, Option.getD_some, ha, getD_at his, hs, vAt_at hil', hq]
     · rw [← hZn]
       exact plainI rfl hpZ
 · have e : i = al := by omega
   subst e
   refine E.cond (t := false) (by simp) (fun h => by cases h) (fun _ => ?_)
   refine E.exit ?_
   refine E.seq ?_
   refine E.reg hr (by simp; rfl) ?_
   refine E.ret ?_
   rw [hal8] at hbZ
   exact outK.ret rfl rfl (fresh_cells (m := n + 1) (afL_iv _) (by omega) hbZ hTZ)
end Go.Proofs.YtndlfijfjglkdaaGreatDoor
