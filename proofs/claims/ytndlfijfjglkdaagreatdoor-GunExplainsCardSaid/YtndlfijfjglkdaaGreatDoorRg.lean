/-
Contracts and plain reckonings behind the law GunExplains, part 7 of 8 (each under the conditions in its statement).
-/
import Derived.Deep.Slices
import Derived.Test.YtndlfijfjglkdaaGreatDoorRf
import Derived.Test.YtndlfijfjglkdaaGreatDoorAf
import Derived.Test.YtndlfijfjglkdaaGreatDoorRe
import Derived.Test.YtndlfijfjglkdaaGreatDoorRd
import Derived.Test.YtndlfijfjglkdaaGreatDoorRa
import Derived.Test.YtndlfijfjglkdaaGreatDoorRb
import Derived.Test.YtndlfijfjglkdaaGreatDoorFa
namespace Go.Proofs.YtndlfijfjglkdaaGreatDoor
open Go Go.Ab Go.Proofs Ieee
open Classical in
noncomputable def g157 (l : List Gun) (d : ByteArray) (fs : List Nat) (r : Nat) (args : List Value) (H : Heap) (n : Nat) : R := match args with
 | [x, shv, .string d', u] => match strAt H x, intV H shv, fltV H u with
   | some l', some sh, some fs' => if l' = l ∧ d' = d ∧ fs' = fs ∧ okSh l sh ∧ sh.length + r = l.length then (match r with
     | 0 => some (.tuple #[shv, .bool (sameF (refS l d sh fs.length) fs)], H, n)
     | r + 1 => some (refT n (refX l d fs (r + 1) sh), refH n (refX l d fs (r + 1) sh) ++ H, n + 1)) else none
   | _, _, _ => none
 | _ => none
theorem g157_z {l : List Gun} {d : ByteArray} {fs : List Nat} {H : Heap} {n : Nat} {x shv u : Value} {sh : List Int} (hx : strAt H x = some l) (hs : intV H shv = some sh) (hV : fltV H u = some fs) (ho : okSh l sh) (hl : sh.length + 0 = l.length) : g157 l d fs 0 [x, shv, sv d, u] H n = some (.tuple #[shv, .bool (sameF (refS l d sh fs.length) fs)], H, n) := by
 simp only [g157, hx, hs, hV]
 rw [if_pos ⟨rfl, rfl, rfl, ho, hl⟩]
theorem g157_s {l : List Gun} {d : ByteArray} {fs : List Nat} {r : Nat} {H : Heap} {n : Nat} {x shv u : Value} {sh : List Int} (hx : strAt H x = some l) (hs : intV H shv = some sh) (hV : fltV H u = some fs) (ho : okSh l sh) (hl : sh.length + (r + 1) = l.length) : g157 l d fs (r + 1) [x, shv, sv d, u] H n = some (refT n (refX l d fs (r + 1) sh), refH n (refX l d fs (r + 1) sh) ++ H, n + 1) := by
 simp only [g157, hx, hs, hV]
 rw [if_pos ⟨rfl, rfl, rfl, ho, hl⟩]
theorem g157_any {l : List Gun} {d : ByteArray} {fs : List Nat} {r : Nat} {H : Heap} {n q : Nat} {x u : Value} {sh : List Int} (hx : strAt H x = some l) (hV : fltV H u = some fs) (ho : okSh l sh) (hl : sh.length + r = l.length) (hq : hget H q = some (.ext (sh.map iv) 3 1)) (_hqn : q < n) (hn : namesOk n H = true) (h1 : 1 ≤ l.length) (h8 : l.length ≤ 8) :
   ∃ rv Hq Nq, g157 l d fs r [x, .slice (some ⟨q, 0, some 0⟩) sh.length 0, sv d, u] H n = some (.tuple #[rv, .bool (refX l d fs r sh).isSome], Hq, Nq) ∧ Sub H Hq ∧ n ≤ Nq ∧ namesOk Nq Hq = true ∧ ∀ ys, refX l d fs r sh = some ys → ∃ m, (m = q ∨ n ≤ m) ∧ rv = outS m ys.length ∧ (ys.length ≠ 0 → hget Hq m = some (.ext (ys.map iv) 3 1)) := by
 have hs : intV H (.slice (some ⟨q, 0, some 0⟩) sh.length 0) = some sh := intV_ext (t := 3) hq (by omega)
 cases r with
 | zero =>
   refine ⟨.slice (some ⟨q, 0, some 0⟩) sh.length 0, H, n, ?_, Sub.refl _, Nat.le_refl _, hn, fun ys hy => ?_⟩
   · rw [g157_z hx hs hV ho hl, refX]
     cases sameF (refS l d sh fs.length) fs <;> rfl
   · rw [refX] at hy
     split at hy
     · injection hy with hy
       subst hy
       exact ⟨q, .inl rfl, (outS_ne (by omega)).symm, fun _ => hq⟩
     · cases hy
 | succ r =>
   rw [g157_s hx hs hV ho hl]
   obtain ⟨o, hoo⟩ : ∃ o, refX l d fs (r + 1) sh = o := ⟨_, rfl⟩
   rw [hoo]
   cases o with
   | none => exact ⟨_, _, _, rfl, Sub.refl _, Nat.le_succ _, namesOk_mono (by omega) _ hn, fun ys hy => by cases hy⟩
   | some ys =>
     refine ⟨outS n ys.length, _, _, rfl, Sub.app (fun x hx => namesOk_none hn _ (outSB_ge x hx)) (Sub.refl _), Nat.le_succ _, ?_, fun zs hz => ?_⟩
     · refine namesOk_app (fun x hx => ?_) (namesOk_mono (by omega) _ hn)
       unfold refH outSB at hx
       simp only at hx
       split at hx
       · cases hx
       · rw [List.mem_singleton] at hx; subst hx; exact Nat.lt_succ_self _
     · injection hz with hz
       subst hz
       refine ⟨n, .inr (Nat.le_refl _), rfl, fun h0 => ?_⟩
       simp only [refH, outSB]
       rw [if_neg h0, List.cons_append, hget_cons, if_pos rfl]
set_option maxRecDepth 20000 in
set_option maxHeartbeats 1000000 in
theorem w157s {H : Heap} {n : Nat} {x shv u : Value} {l : List Gun} {d : ByteArray} {sh : List Int} {fs : List Nat} {r : Nat} (hst : strE l = 0) (ih : EntOk Tryz.prog (157, g157 l d fs r)) (hx : strAt H x = some l) (hsv : intV H shv = some sh) (hV : fltV H u = some fs) (hok : okSh l sh) (hrl : sh.length + (r + 1) = l.length) : AC Tryz.prog 157 [x, shv, sv d, u] H n (refT n (refX l d fs (r + 1) sh)) (refH n (refX l d fs (r + 1) sh) ++ H) (n + 1) := by
 refine AC.given fun hold hsc hgn => AC.tidied (fun x hx => ?_) ?_
 · unfold refH at hx
   split at hx
   · cases hx
   · exact outSB_ge x hx
 have hlt0 := fun k b h => (hold k b h).1
 replace hx := strAt_tidy hlt0 hx
 replace hV : fltV (tidy n H) u = some fs := listV_tidy decFl_tidy hlt0 hV
 replace hsv : intV (tidy n H) shv = some sh := listV_tidy decI_tidy hlt0 hsv
 have hl1 := (strE_len hst).1
 have hl8 := (strE_len hst).2
 obtain ⟨s0, rfl⟩ := strAt_box hx
 obtain ⟨sa, sc', rfl, hsf, hsc0, _, _⟩ := strAt_guns hx (fun e => by rw [e] at hl1; simp at hl1) (by omega)
 obtain ⟨oa, ca, rfl, hlts, _, _⟩ := intV_form hsv
 obtain ⟨i, hi⟩ : ∃ i, sh.length = i := ⟨_, rfl⟩
 have hil : i < l.length := by omega
 have hilI : (i : Int) < (l.length : Int) := by omega
 have hine : ¬ (i : Int) = (l.length : Int) := by omega
 have hr := recT_ok (P := Tryz.prog) (l := [(157, g157 l d fs r)]) (by simp only [List.forall_mem_cons]; exact ⟨ih, by simp⟩)
 obtain ⟨X0, hX0⟩ : ∃ X0, (n, Blk.cells [.slice (some sa) l.length sc'] 24) :: tidy n H = X0 := ⟨_, rfl⟩
 have hS0 : Sub (tidy n H) X0 := by rw [← hX0]; exact Sub.cons (by simp) (Sub.refl _)
 have hb0 : cellsA X0 n 0 1 = some [.slice (some sa) l.length sc'] := by rw [← hX0, cellsA_eq, hget_cons, if_pos rfl]; rfl
 have hb1 : cellA X0 n 0 = some (.slice (some sa) l.length sc') := by rw [← hX0, cellA_eq, hget_cons, if_pos rfl]; rfl
 have hnm0 : namesOk (n + 1) X0 = true := by rw [← hX0]; exact namesOk_put (by omega) (namesOk_mono (by omega) _ namesOk_tidy)
 obtain ⟨g, hg⟩ : ∃ g, l[i] = g := ⟨_, rfl⟩
 have hgat : gAt l i = g := by rw [gAt_at l hil, hg]
 have hgm : g ∈ l := hg ▸ List.getElem_mem hil
 obtain ⟨hvb, _, _, _, hlo, hhi⟩ := gun_nums hst g hgm
 have hor := gun_order hst g hgm
 have hspan : cellsA X0 sa.block (sa.off + i * 7 + 5) 2 = some [iv g.lo, iv g.hi] := by
   have hc1 := cells_part (sz := 7) (i := i) (hS0.cells hsc0) hil
   rw [gcs_atB hil, hg] at hc1
   have hc5 : cellA X0 sa.block (sa.off + i * 7 + 5) = some (iv g.lo) := (cellsA_cell hc1 (i := 5) (by omega)).1
   have hc6 : cellA X0 sa.block (sa.off + i * 7 + 6) = some (iv g.hi) := (cellsA_cell hc1 (i := 6) (by omega)).1
   have := cells_all (H := X0) (k := sa.block) (o := sa.off + i * 7 + 5) (n := 2) (f := fun j => if j = 0 then iv g.lo else iv g.hi) (fun j hj => by
     have : j = 0 ∨ j = 1 := by omega
     rcases this with rfl | rfl
     · exact hc5
     · exact hc6) (by omega)
   rw [this]
   rfl
 obtain ⟨m, hm⟩ : ∃ m, (g.hi - g.lo + 1).toNat = m := ⟨_, rfl⟩
 obtain ⟨f, hf⟩ : ∃ f : Int → Option (List Int), (fun s => refX l d fs r (sh ++ [s])) = f := ⟨_, rfl⟩
 have hex : refX l d fs (r + 1) sh = firstS f g.lo m := by rw [refX, show l.length - (r + 1) = i by omega, hgat, hm, hf]
 rw [hex]
 refine AC.refx Tryz.func157 rfl (by kernel_rfl) rfl [0, 1, 2, 3, 4, 8, 9, 10, 11, 12, 13, 14, 20, 43, 60] ?_
 refine E.seq ?_
 refine E.reg hr (by simp; rfl) ?_
 rw [hX0, hi]
 refine E.seq ?_
 refine E.seq ?_
 refine E.reg hr (by simp [-cellA, hb1]; rfl) ?_
 refine E.cond (t := false) (by simp [hine]) (fun h => by cases h) (fun _ => ?_)
 refine E.skip ?_
 refine E.seq ?_
 refine E.reg hr (by simp [-cellA, -cellsA, -flat, hb1, hil, hsf, hspan]; rfl) ?_
 obtain ⟨X1, hX1⟩ : ∃ X1, (n + 1, Blk.cells [iv g.lo, iv g.hi] 92) :: X0 = X1 := ⟨_, rfl⟩
 have hn1 : hget X0 (n + 1) = none := namesOk_none hnm0 _ (Nat.le_refl _)
 have hS1 : Sub X0 X1 := by rw [← hX1]; exact Sub.cons hn1 (Sub.refl _)
 have hnm1 : namesOk (n + 1 + 1) X1 = true := by rw [← hX1]; exact namesOk_put (by omega) (namesOk_mono (by omega) _ hnm0)
 have hg5 : cellA X1 (n + 1) 0 = some (iv g.lo) := by rw [← hX1, cellA_cons, if_pos rfl]; rfl
 have hg6 : cellA X1 (n + 1) 1 = some (iv g.hi) := by rw [← hX1, cellA_cons, if_pos rfl]; rfl
 have hST := hS0.trans hS1
 rw [hX1]
 refine E.seq ?_
 refine E.seq ?_
 refine E.reg hr (by simp [-cellA, hg5]; rfl) ?_
 refine E.block ?_
 refine E.loop ?_
 refine EL.ind (fun x : Nat × Heap × Nat => { fr := [(1, .slice oa i ca), (2, sv d), (3, u), (4, .pointer (some ⟨n, 0, none⟩)), (8, .slice none 0 0), (9, .bool false), (10, .pointer (some ⟨n + 1, 0, none⟩)), (11, iv (g.lo + x.1))], sz := 62, H := x.2.1, n := x.2.2, marks := [], vs := [0, 1, 2, 3, 4, 8, 9, 10, 11, 12, 13, 14, 20, 43, 60] }) (fun x => m - x.1) (fun x => x.1 ≤ m ∧ firstS f g.lo m = firstS f (g.lo + x.1) (m - x.1) ∧ Sub X1 x.2.1 ∧ namesOk x.2.2 x.2.1 = true ∧ n + 1 + 1 ≤ x.2.2) (0, X1, n + 1 + 1) (.keep rfl rfl rfl (by simp) (Sub.refl _)) ⟨Nat.zero_le _, by simp, Sub.refl _, hnm1, Nat.le_refl _⟩ (fun _ => rfl) ?_
 rintro ⟨k, Hx, N⟩ ⟨hkm, hfs, hSx, hnx, hnN⟩
 dsimp only at hkm hfs hSx hnx hnN ⊢
 have hSH := hST.trans hSx
 have hg6x := hSx.cell hg6
 refine E.seq ?_
 refine E.seq ?_
 by_cases hkl : k < m
 case neg =>
   have hkm' : k = m := by omega
   subst hkm'
   have hgt : ¬ g.lo + (k : Int) ≤ g.hi := by omega
   rw [Nat.sub_self, firstS_none] at hfs
   refine E.reg hr (by simp [-cellA, hg6x]; rfl) ?_
   refine E.cond (t := false) (by simp [hgt]) (fun h => by cases h) (fun _ => ?_)
   refine E.exit ?_
   refine E.seq ?_
   refine E.reg hr (by simp; rfl) ?_
   refine E.ret ?_
   rw [hfs]
   exact outK.ret rfl rfl (refFreshN hSH)
 have hle : g.lo + (k : Int) ≤ g.hi := by omega
 obtain ⟨s, hs⟩ : ∃ s : Int, g.lo + (k : Int) = s := ⟨_, rfl⟩
 have hsb : 0 ≤ s ∧ s ≤ 4 := by have := hlo.1; have := hhi.2; omega
 have hws : IntKind.i64.wrap (s + 1) = s + 1 := W_in (by omega) (by omega)
 have hstep := firstS_step (f := f) (s := g.lo) hkl
 rw [hs] at hstep hfs
 rw [hstep] at hfs
 rw [hs] at hle ⊢
 have hfsv : f s = refX l d fs r (sh ++ [s]) := by rw [← hf]
 refine E.reg hr (by simp [-cellA, hg6x]; rfl) ?_
 refine E.cond (t := true) (by simp [hle]) (fun _ => ?_) (fun h => by cases h)
 refine E.skip ?_
 refine E.seq ?_
 refine E.block ?_
 refine E.seq ?_
 have hLx : intV Hx (.slice oa i ca) = some sh := by rw [← hi]; exact listV_mono decI_mono hSH hsv
 obtain ⟨v1, Y1, N1, q, Yq, Nq, hap1, hap2, hq1, hq2, hq3, hq4, hq5, hq6⟩ := app_shifts s hLx (by omega) hnx
 refine E.reg hr (by simp [-builtinA, hap1, hap2]; rfl) ?_
 have hSq := hSH.trans hq5
 have hbq := (hS1.trans (hSx.trans hq5)).cells hb0
 obtain ⟨rv, Hr, Nr, h157, hsub, hler, hnmr, hys⟩ := g157_any (d := d) (r := r) (q := q) (n := Nq) (sh := sh ++ [s]) (strAt_mono hSq hx) (listV_mono decFl_mono hSq hV) (okSh_more hok (by rw [hi, hgat]; omega)) (by rw [List.length_append, List.length_singleton]; omega) hq1 hq3 hq6 hl1 hl8
 rw [List.length_append, List.length_singleton] at h157
 obtain ⟨oo, hoo⟩ : ∃ oo, refX l d fs r (sh ++ [s]) = oo := ⟨_, rfl⟩
 rw [hoo] at h157 hys hfsv
 refine E.seq ?_
 cases oo with
 | none =>
   rw [hfsv] at hfs
   rw [Option.isSome_none] at h157
   refine E.reg hr (by simp [-cellsA, hbq, h157]; rfl) ?_
   refine E.seq ?_
   refine E.reg hr (by simp; rfl) ?_
   refine E.cond (t := false) (by simp) (fun h => by cases h) (fun _ => ?_)
   refine E.skip ?_
   refine E.reg hr (by simp [hws]; rfl) ?_
   exact ⟨(k + 1, Hr, Nr), .keep rfl rfl rfl (by simp; omega) (Sub.refl _), ⟨hkl, hfs, hSx.trans (hq5.trans hsub), hnmr, by dsimp only; omega⟩, by dsimp only; omega⟩
 | some ys =>
   rw [hfsv] at hfs
   rw [Option.isSome_some] at h157
   obtain ⟨mm, hmm, rfl, hgm'⟩ := hys ys rfl
   obtain ⟨rv, hrv⟩ : ∃ rv, outS mm ys.length = rv := ⟨_, rfl⟩
   rw [hrv] at h157
   refine E.reg hr (by simp [-cellsA, hbq, h157]; rfl) ?_
   refine E.seq ?_
   refine E.reg hr (by simp; rfl) ?_
   refine E.cond (t := true) (by simp) (fun _ => ?_) (fun h => by cases h)
   refine E.seq ?_
   refine E.reg hr (by simp; rfl) ?_
   refine E.ret ?_
   rw [hfs]
   exact outK.ret rfl rfl (by rw [← hrv]; exact refFresh (by omega) hgm' (hSq.trans hsub))
theorem ok157 {l : List Gun} {d : ByteArray} {fs : List Nat} (hst : strE l = 0) (hd : hasW d dirs = true) (hW : 1 ≤ fs.length ∧ fs.length ≤ 64) : ∀ r, EntOk Tryz.prog (157, g157 l d fs r) := by
 intro r
 induction r with
 | zero =>
   intro args H n v H' n' h
   simp only [g157] at h
   split at h
   · split at h
     · rename_i h1 h2 h3
       split at h
       · rename_i hc
         obtain ⟨rfl, rfl, rfl, h4, h5⟩ := hc
         injection h with h; injection h with e1 e2; injection e2 with e2 e3; subst e1 e2 e3
         exact w157z hst hd hW h1 h2 (okSh_all h4 (by omega)) h3
       · cases h
     · cases h
   · cases h
 | succ r ih =>
   intro args H n v H' n' h
   simp only [g157] at h
   split at h
   · split at h
     · rename_i h1 h2 h3
       split at h
       · rename_i hc
         obtain ⟨rfl, rfl, rfl, h4, h5⟩ := hc
         injection h with h; injection h with e1 e2; injection e2 with e2 e3; subst e1 e2 e3
         exact w157s hst ih h1 h2 h3 h4 h5
       · cases h
     · cases h
   · cases h
end Go.Proofs.YtndlfijfjglkdaaGreatDoor

namespace Go.Proofs.YtndlfijfjglkdaaGreatDoor
open Go Go.Ab Go.Proofs Ieee
def refK (l : List Gun) (d : ByteArray) (fs : List Nat) : List Int × Int := ansE (refX l d fs l.length [])
theorem freshU {ys : List Int} {e : Int} {m n : Nat} {H H1 : Heap} (hm : n ≤ m) (hg : ys.length ≠ 0 → hget H1 m = some (.ext (ys.map iv) 3 1)) (hs : Sub H H1) : Fresh n (n + 1) H (.tuple #[outS n ys.length, .int .i64 e]) (outSB n 3 1 ys.length (ys.map iv)) (.tuple #[outS m ys.length, .int .i64 e]) H1 := by
 refine ⟨fun j => if j = n then m else j, fun j hj => if_neg (by omega), ?_, fun k b hk => ?_, fun j b k c hj hk _ => ?_, hs⟩
 · simp [Ab.ren, Ab.renL, ren_outS (ρ := fun j => if j = n then m else j) (o := n) (m := m) (k := ys.length) (by simp)]
 · simp only [outSB] at hk
   split at hk
   · cases hk
   · rename_i hne
     rw [hget_cons] at hk
     split at hk
     · rename_i e; subst e; injection hk with hk; subst hk
       exact ⟨Nat.le_refl _, Nat.lt_succ_self _, by simpa using hm, by simp only [if_true, renB, ivs_ren]; exact hg hne, scL_af _ _ (afL_iv _), trivial, rfl⟩
     · simp at hk
 · simp only [outSB] at hj hk
   split at hj
   · cases hj
   · rename_i hne
     rw [if_neg hne, hget_cons] at hk
     rw [hget_cons] at hj
     split at hj
     · split at hk
       · omega
       · simp at hk
     · simp at hj
set_option maxRecDepth 20000 in
theorem w84 {H : Heap} {n : Nat} {x u : Value} {l : List Gun} {d : ByteArray} {fs : List Nat} (hst : strE l = 0) (hd : hasW d dirs = true) (hW : 1 ≤ fs.length ∧ fs.length ≤ 64) (hx : strAt H x = some l) (hV : fltV H u = some fs) : AC Tryz.prog 84 [x, sv d, u] H n (.tuple #[outS n (refK l d fs).1.length, .int .i64 (refK l d fs).2]) (outSB n 3 1 (refK l d fs).1.length ((refK l d fs).1.map iv) ++ H) (n + 1) := by
 refine AC.given fun hold hsc hgn => AC.tidied (fun x hx => outSB_ge x hx) ?_
 have hlt0 := fun k b h => (hold k b h).1
 replace hx := strAt_tidy hlt0 hx
 replace hV : fltV (tidy n H) u = some fs := listV_tidy decFl_tidy hlt0 hV
 have hl1 := (strE_len hst).1
 obtain ⟨r, hrl⟩ : ∃ r, l.length = r + 1 := ⟨l.length - 1, by omega⟩
 obtain ⟨s, rfl⟩ := strAt_box hx
 have hr := recT_ok (P := Tryz.prog) (l := [(157, g157 l d fs (r + 1))]) (by simp only [List.forall_mem_cons]; exact ⟨ok157 hst hd hW _, by simp⟩)
 obtain ⟨X0, hX0⟩ : ∃ X0, (n, Blk.cells [s] 24) :: tidy n H = X0 := ⟨_, rfl⟩
 have hS0 : Sub (tidy n H) X0 := by rw [← hX0]; exact Sub.cons (by simp) (Sub.refl _)
 have hb0 : cellsA X0 n 0 1 = some [s] := by rw [← hX0, cellsA_eq, hget_cons, if_pos rfl]; rfl
 have hnm0 : namesOk (n + 1) X0 = true := by rw [← hX0]; exact namesOk_put (by omega) (namesOk_mono (by omega) _ namesOk_tidy)
 obtain ⟨oo, hoo⟩ : ∃ oo, refX l d fs (r + 1) [] = oo := ⟨_, rfl⟩
 have hk : refK l d fs = ansE oo := by rw [refK, hrl, hoo]
 rw [hk]
 have h157 : g157 l d fs (r + 1) [.agg ⟨[s]⟩, .slice none 0 0, sv d, u] X0 (n + 1) = some (refT (n + 1) oo, refH (n + 1) oo ++ X0, n + 1 + 1) := by
   have := g157_s (r := r) (n := n + 1) (d := d) (sh := []) (strAt_mono hS0 hx) (show intV X0 (.slice none 0 0) = some [] from rfl) (listV_mono decFl_mono hS0 hV) (fun j hj => by simp at hj) (by simp [hrl])
   rw [hoo] at this
   exact this
 refine AC.grownE Tryz.func84 rfl (by kernel_rfl) rfl [0, 1, 2, 3, 6, 7, 8, 9, 18] ?_
 refine E.seq ?_
 refine E.reg hr (by simp; rfl) ?_
 rw [hX0]
 refine E.seq ?_
 cases oo with
 | none =>
   have hx1 : refT (n + 1) none = .tuple #[.slice none 0 0, .bool false] := rfl
   have hx0 : refH (n + 1) none ++ X0 = X0 := rfl
   rw [hx1, hx0] at h157
   refine E.reg hr (by simp [-cellsA, hb0, h157]; rfl) ?_
   refine E.seq ?_
   refine E.seq ?_
   refine E.reg hr (by simp; rfl) ?_
   refine E.cond (t := true) (by simp) (fun _ => ?_) (fun h => by cases h)
   refine E.seq ?_
   refine E.reg hr (by simp; rfl) ?_
   refine E.ret ?_
   exact outK.ret rfl rfl (freshU (ys := []) (m := n) (Nat.le_refl _) (fun h => absurd rfl h) hS0)
 | some ys =>
   obtain ⟨Hz, hHz⟩ : ∃ Hz, refH (n + 1) (some ys) ++ X0 = Hz := ⟨_, rfl⟩
   have hSz : Sub X0 Hz := by
     rw [← hHz]
     exact Sub.app (fun x hx => namesOk_none hnm0 _ (outSB_ge x hx)) (Sub.refl _)
   have hzm : ys.length ≠ 0 → hget Hz (n + 1) = some (.ext (ys.map iv) 3 1) := fun hne => by
     rw [← hHz]
     simp only [refH, outSB]
     rw [if_neg hne, List.cons_append, hget_cons, if_pos rfl]
   have hx1 : refT (n + 1) (some ys) = .tuple #[outS (n + 1) ys.length, .bool true] := rfl
   rw [hx1, hHz] at h157
   obtain ⟨ev, hev⟩ : ∃ ev, outS (n + 1) ys.length = ev := ⟨_, rfl⟩
   rw [hev] at h157
   refine E.reg hr (by simp [-cellsA, hb0, h157]; rfl) ?_
   refine E.seq ?_
   refine E.seq ?_
   refine E.reg hr (by simp; rfl) ?_
   refine E.cond (t := false) (by simp) (fun h => by cases h) (fun _ => ?_)
   refine E.skip ?_
   refine E.seq ?_
   refine E.reg hr (by simp; rfl) ?_
   refine E.ret ?_
   exact outK.ret rfl rfl (by rw [← hev]; exact freshU (m := n + 1) (by omega) hzm (hS0.trans hSz))
def g84 (args : List Value) (H : Heap) (n : Nat) : R := match args with
 | [x, .string d, u] => match strAt H x, fltV H u with
   | some l, some fs => if strE l = 0 ∧ hasW d dirs = true ∧ 1 ≤ fs.length ∧ fs.length ≤ 64 then some (.tuple #[outS n (refK l d fs).1.length, .int .i64 (refK l d fs).2], outSB n 3 1 (refK l d fs).1.length ((refK l d fs).1.map iv) ++ H, n + 1) else none
   | _, _ => none
 | _ => none
theorem ok84 : EntOk Tryz.prog (84, g84) := by
 intro args H n v H' n' h
 simp only [g84] at h
 split at h
 · split at h
   · rename_i h1 h2
     split at h
     · rename_i hc
       injection h with h; injection h with e1 e2; injection e2 with e2 e3; subst e1 e2 e3
       exact w84 hc.1 hc.2.1 hc.2.2 h1 h2
     · cases h
   · cases h
 · cases h
theorem strAt_form {H : Heap} {x : Value} {l : List Gun} (h : strAt H x = some l) : ∃ oa c, x = .agg ⟨[.slice oa l.length c]⟩ := by
 unfold strAt at h
 split at h
 · injection h with h; subst h; exact ⟨none, 0, rfl⟩
 · obtain ⟨_, _, rfl, _⟩ := gunsAt_ok h
   exact ⟨_, _, rfl⟩
 · cases h
theorem w76 {H : Heap} {n : Nat} {x : Value} {l : List Gun} (hx : strAt H x = some l) : AC Tryz.prog 76 [x] H n (.bool (decide (l.length ≤ 4))) H n := by
 refine AC.given fun hold hsc hgn => AC.tidied (B := []) (by simp) ?_
 have hr := recT_ok (P := Tryz.prog) (l := []) (by simp)
 obtain ⟨oa, c, rfl⟩ := strAt_form hx
 refine AC.pure Tryz.func76 rfl (by kernel_rfl) rfl [0, 1, 2] rfl ?_
 refine E.seq ?_
 refine E.reg hr (by simp; rfl) ?_
 refine E.seq ?_
 refine E.reg hr (by simp; rfl) ?_
 refine E.ret ?_
 exact pureK.ret rfl rfl (by simp; omega) (Sub.cons (by simp) (Sub.refl _))
def g76 (args : List Value) (H : Heap) (n : Nat) : R := match args with
 | [x] => (strAt H x).map fun l => (.bool (decide (l.length ≤ 4)), H, n)
 | _ => none
theorem ok76 : EntOk Tryz.prog (76, g76) := by
 intro args H n v H' n' h
 simp only [g76] at h
 split at h
 · rw [Option.map_eq_some_iff] at h
   obtain ⟨l, h1, h⟩ := h
   injection h with e1 e2; injection e2 with e2 e3; subst e1 e2 e3
   exact w76 h1
 · cases h
end Go.Proofs.YtndlfijfjglkdaaGreatDoor

namespace Go.Proofs.YtndlfijfjglkdaaGreatDoor
open Go Go.Ab Go.Proofs Ieee
theorem samp_val {n : Int} (h1 : -4096 ≤ n) (h2 : n ≤ 4096) : fin32 (sampB n) = true ∧ 16 * val32 (sampB n) = n * UV := by
 obtain ⟨r, e, h3, h4⟩ := div16 (n := n) (by omega)
 have : sampB n = r := by
   unfold sampB sampQ
   rw [show FloatKind.f32.format = single from rfl, e]
   rfl
 rw [this]
 exact ⟨h3, h4⟩
theorem val_six {a b n m u : Int} (hu : 0 < u) (ha : 16 * a = n * u) (hb : 16 * b = m * u) : a = b ↔ n = m := by
 constructor
 · intro e
   subst e
   rw [ha] at hb
   exact Int.eq_of_mul_eq_mul_right (by omega) hb
 · intro e
   subst e
   omega
theorem good_fin {b : Nat} (h : good32 b = true) : fin32 b = true := by
 unfold good32 at h
 simp only [Bool.and_eq_true] at h
 exact h.1.1
theorem eqF_samp {n : Int} {b : Nat} (h1 : -4096 ≤ n) (h2 : n ≤ 4096) (hb : good32 b = true) : eqF (sampB n) b = decide (n = six32 b) := by
 obtain ⟨h3, h4⟩ := samp_val h1 h2
 obtain ⟨h5, _⟩ := good_six hb
 unfold eqF
 rw [show FloatKind.f32.format = single from rfl, ord32 h3 (good_fin hb), cmp_eq]
 have hu : (0 : Int) < (UV : Int) := by have := UV_pos; omega
 have := val_six hu h4 h5
 by_cases e : n = six32 b
 · rw [decide_eq_true e, decide_eq_true (this.2 e)]
 · rw [decide_eq_false e, decide_eq_false fun h => e (this.1 h)]
theorem sameF_samp : ∀ (ns : List Int) (fs : List Nat), (∀ x ∈ ns, -4096 ≤ x ∧ x ≤ 4096) → (∀ b ∈ fs, good32 b = true) → sameF (ns.map sampB) fs = decide (ns = fs.map six32)
 | [], [], _, _ => rfl
 | [], b :: fs, _, _ => by simp [sameF]
 | n :: ns, [], _, _ => by simp [sameF]
 | n :: ns, b :: fs, h1, h2 => by
   obtain ⟨ha, hb⟩ := h1 n (List.mem_cons_self ..)
   have hg := h2 b (List.mem_cons_self ..)
   have ih := sameF_samp ns fs (fun x hx => h1 x (List.mem_cons_of_mem _ hx)) fun x hx => h2 x (List.mem_cons_of_mem _ hx)
   rw [List.map_cons, List.map_cons, sameF, ih, eqF_samp ha hb hg]
   by_cases e : n = six32 b <;> by_cases e2 : ns = fs.map six32 <;> simp [e, e2]
theorem firstS_in {β : Type} {f : Int → Option β} {y : β} : ∀ (m : Nat) (s : Int), firstS f s m = some y → ∃ k : Nat, k < m ∧ f (s + k) = some y
 | 0, _, h => by cases h
 | m + 1, s, h => by
   rw [firstS] at h
   split at h
   · rename_i z hz
     injection h with h
     exact ⟨0, by omega, by rw [← h]; simpa using hz⟩
   · obtain ⟨k, hk, he⟩ := firstS_in m _ h
     exact ⟨k + 1, by omega, by rw [← he]; congr 1; omega⟩
theorem firstS_map {β γ : Type} {f : Int → Option β} {g : Int → Option γ} {h : γ → β} : ∀ (m : Nat) (s : Int), (∀ k : Nat, k < m → f (s + k) = (g (s + k)).map h) → firstS f s m = (firstS g s m).map h
 | 0, _, _ => rfl
 | m + 1, s, hh => by
   have h0 := hh 0 (by omega)
   have ih := firstS_map (f := f) (g := g) (h := h) m (s + 1) fun k hk => by
     have := hh (k + 1) (by omega)
     rw [show s + ((k + 1 : Nat) : Int) = s + 1 + k by omega] at this
     exact this
   rw [show s + ((0 : Nat) : Int) = s by omega] at h0
   rw [firstS, firstS, h0, ih]
   cases g s <;> rfl
theorem mnF_le {P : Nat → Int} : ∀ (n t : Nat), t ≤ n → mnF P n ≤ P t
 | 0, t, h => by
   obtain rfl : t = 0 := by omega
   exact Int.le_refl _
 | n + 1, t, h => by
   rw [mnF]
   by_cases e : t = n + 1
   · subst e; omega
   · have := mnF_le (P := P) n t (by omega); omega
theorem le_mxF {P : Nat → Int} : ∀ (n t : Nat), t ≤ n → P t ≤ mxF P n
 | 0, t, h => by
   obtain rfl : t = 0 := by omega
   exact Int.le_refl _
 | n + 1, t, h => by
   rw [mxF]
   by_cases e : t = n + 1
   · subst e; omega
   · have := le_mxF (P := P) n t (by omega); omega
theorem pulse_in {g : Gun} {s q : Int} (h : g.lo ≤ s ∧ s ≤ g.hi) : gMn g q ≤ pulseV g.v s q ∧ pulseV g.v s q ≤ gMx g q := by
 have e : gP g q (s - g.lo).toNat = pulseV g.v s q := by
   unfold gP
   congr 1
   omega
 rw [← e]
 have hk : (s - g.lo).toNat ≤ gK g := by unfold gK; omega
 exact ⟨mnF_le _ _ hk, le_mxF _ _ hk⟩
theorem sumP_app {l : List Gun} {d : ByteArray} {j : Int} {sh t : List Int} : ∀ i, i ≤ sh.length → sumP l (sh ++ t) d j i = sumP l sh d j i
 | 0, _ => rfl
 | i + 1, h => by
   have e : (sh ++ t).getD i 0 = sh.getD i 0 := by rw [List.getD_eq_getElem?_getD, List.getD_eq_getElem?_getD, List.getElem?_append_left (by omega)]
   rw [sumP, sumP, sumP_app i (by omega), e]
theorem enc_in {l : List Gun} {d : ByteArray} {zs : List Int} (hz : okSh l zs) (hl : zs.length = l.length) (j : Int) : ∀ r, r ≤ l.length → (encT l d j r).1 ≤ sumP l zs d j l.length - sumP l zs d j (l.length - r) ∧ sumP l zs d j l.length - sumP l zs d j (l.length - r) ≤ (encT l d j r).2
 | 0, _ => by simp [encT]
 | r + 1, h => by
   obtain ⟨h1, h2⟩ := enc_in (d := d) hz hl j r (by omega)
   have e : l.length - r = (l.length - (r + 1)) + 1 := by omega
   rw [e, sumP] at h1 h2
   have hi : l.length - (r + 1) < l.length := by omega
   have hb := hz (l.length - (r + 1)) (by omega)
   have hp := pulse_in (q := j - (arrL d l).getD (l.length - (r + 1)) 0) hb
   have hv : vAt l (l.length - (r + 1)) = (gAt l (l.length - (r + 1))).v := by rw [vAt_at hi, gAt_at l hi]
   have hs : zs.getD (l.length - (r + 1)) 0 = zs[l.length - (r + 1)]'(by omega) := getD_at (by omega)
   rw [hv, hs] at h1 h2
   rw [encT]
   dsimp only
   omega
end Go.Proofs.YtndlfijfjglkdaaGreatDoor

namespace Go.Proofs.YtndlfijfjglkdaaGreatDoor
open Go Go.Ab Go.Proofs Ieee
theorem refX_spec {l : List Gun} {d : ByteArray} {fs : List Nat} (hst : strE l = 0) : ∀ (r : Nat) (sh zs : List Int), okSh l sh → sh.length + r = l.length → refX l d fs r sh = some zs → (∃ ys, zs = sh ++ ys) ∧ okSh l zs ∧ zs.length = l.length ∧ sameF (refS l d zs fs.length) fs = true
 | 0, sh, zs, ho, hl, h => by
   rw [refX] at h
   split at h
   · rename_i hs
     injection h with h
     subst h
     exact ⟨⟨[], by simp⟩, ho, by omega, hs⟩
   · cases h
 | r + 1, sh, zs, ho, hl, h => by
   rw [refX] at h
   obtain ⟨k, hk, he⟩ := firstS_in _ _ h
   have hi : sh.length < l.length := by omega
   have hor := gun_order hst l[sh.length] (List.getElem_mem hi)
   have e : l.length - (r + 1) = sh.length := by omega
   rw [e] at hk he
   rw [gAt_at l hi] at hk he
   have hb : (gAt l sh.length).lo ≤ l[sh.length].lo + k ∧ l[sh.length].lo + k ≤ (gAt l sh.length).hi := by
     rw [gAt_at l hi]
     omega
   obtain ⟨⟨ys, h1⟩, h2⟩ := refX_spec hst r _ zs (okSh_more ho hb) (by rw [List.length_append, List.length_singleton]; omega) he
   exact ⟨⟨_ :: ys, by rw [h1, List.append_assoc]; rfl⟩, h2⟩
theorem hit_sum {l : List Gun} {d : ByteArray} {fs : List Nat} {zs : List Int} (hst : strE l = 0) (hg : ∀ b ∈ fs, good32 b = true) (hW : 1 ≤ fs.length ∧ fs.length ≤ 64) (ho : okSh l zs) (hl : zs.length = l.length) : sameF (refS l d zs fs.length) fs = decide (∀ j, j < fs.length → sumP l zs d j l.length = (fs.map six32).getD j 0) := by
 have hsh := okSh_all ho hl
 have hsamp : sampAll (sigN l zs d fs.length l.length) := by
   have := sig_samp hst hsh d (w := (fs.length : Int)) (by omega)
   rwa [Int.toNat_natCast] at this
 rw [refS, sameF_samp _ _ hsamp.2.2 hg]
 congr 1
 apply propext
 have hat : ∀ j, j < fs.length → (sigN l zs d fs.length l.length)[j]? = some (sumP l zs d j l.length) := fun j hj => sigN_get hst hsh d hj _ (Nat.le_refl _)
 have hsx : ∀ j, j < fs.length → (fs.map six32)[j]? = some ((fs.map six32).getD j 0) := fun j hj => by
   rw [List.getD_eq_getElem?_getD, List.getElem?_eq_getElem (by simpa using hj)]
   rfl
 constructor
 · intro e j hj
   have h1 := hat j hj
   rw [e, hsx j hj] at h1
   injection h1 with h1
   exact h1.symm
 · intro h
   apply List.ext_getElem?
   intro j
   by_cases hj : j < fs.length
   · rw [hat j hj, hsx j hj, h j hj]
   · rw [List.getElem?_eq_none (by rw [sigN_length]; omega), List.getElem?_eq_none (by simp; omega)]
theorem outP_rl {ns : List Int} {f : Nat → Int × Int} {W j : Nat} (hj : j < W) : outP ns (rl f W) j = (decide (ns.getD j 0 < (f j).1) || decide ((f j).2 < ns.getD j 0)) := by
 unfold outP
 rw [List.getD_eq_getElem?_getD (l := rl f W), List.getElem?_eq_getElem (by simpa using hj), rl_getElem]
 rfl
theorem outV_in {ns : List Int} {f : Nat → Int × Int} {W : Nat} (hl : ns.length = W) (h : ∀ j, j < W → (f j).1 ≤ ns.getD j 0 ∧ ns.getD j 0 ≤ (f j).2) : outV ns (rl f W) = -1 := by
 unfold outV
 rw [firstOut_none fun j hj => ?_]
 have hj' : j < W := by omega
 obtain ⟨h1, h2⟩ := h j hj'
 rw [outP_rl hj', decide_eq_false (by omega), decide_eq_false (by omega)]
 rfl
theorem outV_neg {ns : List Int} {f : Nat → Int × Int} {W : Nat} (hl : ns.length = W) (h : ¬ 0 ≤ outV ns (rl f W)) : ∀ j, j < W → (f j).1 ≤ ns.getD j 0 ∧ ns.getD j 0 ≤ (f j).2 := by
 intro j hj
 unfold outV at h
 split at h
 · rename_i i _
   exact absurd (Int.natCast_nonneg i) h
 · rename_i hn
   unfold firstOut at hn
   rw [List.find?_range_eq_none] at hn
   have := hn j (by omega)
   rw [outP_rl hj] at this
   simp [-List.getD_eq_getElem?_getD] at this
   omega
theorem search_eq {l : List Gun} {d : ByteArray} {fs : List Nat} (hst : strE l = 0) (hg : ∀ b ∈ fs, good32 b = true) (hW : 1 ≤ fs.length ∧ fs.length ≤ 64) : ∀ (r : Nat) (sh left : List Int), okSh l sh → sh.length + r = l.length → left.length = fs.length → (∀ j : Nat, j < fs.length → left.getD j 0 = (fs.map six32).getD j 0 - sumP l sh d j sh.length) → refX l d fs r sh = (expl l d fs.length r left).map (sh ++ ·) := by
 intro r
 induction r with
 | zero =>
   intro sh left ho hl hlen hleft
   have hl' : sh.length = l.length := by omega
   rw [refX, expl, hit_sum hst hg hW ho hl']
   by_cases hh : ∀ j, j < fs.length → sumP l sh d j l.length = (fs.map six32).getD j 0
   · have ho1 : outV left (rl (encR l d 0) fs.length) = -1 := outV_in hlen fun j hj => by
       rw [hleft j hj, hl', hh j hj]
       show (0 : Int) ≤ _ ∧ _ ≤ (0 : Int)
       omega
     rw [decide_eq_true hh, if_pos rfl, ho1, if_neg (by omega)]
     simp
   · rw [decide_eq_false hh]
     by_cases hp : 0 ≤ outV left (rl (encR l d 0) fs.length)
     · rw [if_pos hp]
       rfl
     · refine absurd (fun j hj => ?_) hh
       have h2 := outV_neg hlen hp j hj
       rw [hleft j hj, hl'] at h2
       have h3 : (0 : Int) ≤ (fs.map six32).getD j 0 - sumP l sh d j l.length ∧ (fs.map six32).getD j 0 - sumP l sh d j l.length ≤ (0 : Int) := h2
       omega
 | succ r ih =>
   intro sh left ho hl hlen hleft
   have hi : sh.length < l.length := by omega
   have e : l.length - (r + 1) = sh.length := by omega
   rw [expl]
   by_cases hp : 0 ≤ outV left (rl (encR l d (r + 1)) fs.length)
   · rw [if_pos hp]
     cases hx : refX l d fs (r + 1) sh with
     | none => rfl
     | some zs =>
       obtain ⟨⟨ys, hz⟩, h2, h3, h4⟩ := refX_spec hst _ _ _ ho hl hx
       rw [hit_sum hst hg hW h2 h3] at h4
       have h5 := of_decide_eq_true h4
       have : outV left (rl (encR l d (r + 1)) fs.length) = -1 := outV_in hlen fun j hj => by
         have hb := enc_in (d := d) h2 h3 j (r + 1) (by omega)
         rw [h5 j hj, e, hz, sumP_app _ (Nat.le_refl _)] at hb
         rw [hleft j hj]
         exact hb
       omega
   · rw [if_neg hp, refX, e]
     refine firstS_map _ _ fun k hk => ?_
     have hor := gun_order hst l[sh.length] (List.getElem_mem hi)
     obtain ⟨s, hs⟩ : ∃ s : Int, (gAt l sh.length).lo + (k : Int) = s := ⟨_, rfl⟩
     have hsb : (gAt l sh.length).lo ≤ s ∧ s ≤ (gAt l sh.length).hi := by
       rw [gAt_at l hi] at hs hk ⊢
       omega
     rw [hs]
     rw [ih (sh ++ [s]) (nextL l d fs.length sh.length left s) (okSh_more ho hsb) (by rw [List.length_append, List.length_singleton]; omega) ?_ ?_]
     · rw [Option.map_map]
       congr 1
       funext y
       simp
     · rw [nextL, subW_length, bubA_length, hlen, Nat.min_self]
     · intro j hj
       obtain ⟨hvb, _, _, _, hlo, hhi⟩ := gun_nums hst l[sh.length] (List.getElem_mem hi)
       have hb := arr_bd hst d hi
       have hs4 : 0 ≤ s ∧ s ≤ 4 := by
         rw [gAt_at l hi] at hsb
         omega
       have hv : (gAt l sh.length).v = l[sh.length].v := by rw [gAt_at l hi]
       have hbub : (bubA (gAt l sh.length).v ((arrL d l).getD sh.length 0) s fs.length)[j]? = some (pulseV l[sh.length].v s (j - (arrL d l).getD sh.length 0)) := by
         have := addAll_get (l := zeros fs.length) (v := l[sh.length].v) (s := s) (b := (arrL d l).getD sh.length 0) hvb hs4 hb (j := j) (by simpa [zeros] using hj) (x := 0) (by simp [zeros, hj]) (by omega)
         rw [bubA, hv, this]
         simp
       have hpl := pulse256 (s := s) (i := (j : Int) - (arrL d l).getD sh.length 0) hvb
       have hsm := sum_bound (sh := sh) hst d j sh.length (by omega)
       have hsix : ((fs.map six32).getD j 0).natAbs ≤ 16384 := by
         rw [List.getD_eq_getElem?_getD, List.getElem?_map, List.getElem?_eq_getElem hj]
         exact (good_six (hg _ (List.getElem_mem hj))).2
       have h8 := (strE_len hst).2
       have hlj := hleft j hj
       have hlj' : left[j]? = some (left.getD j 0) := by
         rw [List.getD_eq_getElem?_getD, List.getElem?_eq_getElem (by omega)]
         rfl
       have hn : (nextL l d fs.length sh.length left s)[j]? = some (IntKind.i64.wrap (left.getD j 0 - pulseV l[sh.length].v s (j - (arrL d l).getD sh.length 0))) := by
         rw [nextL, subW, List.getElem?_zipWith, hlj', hbub]
       rw [List.getD_eq_getElem?_getD, hn, Option.getD_some, List.length_append, List.length_singleton, sumP, sumP_app _ (Nat.le_refl _), vAt_at hi]
       have hgs : (sh ++ [s]).getD sh.length 0 = s := by
         rw [List.getD_eq_getElem?_getD, List.getElem?_append_right (Nat.le_refl _), Nat.sub_self]
         rfl
       rw [hgs, W_in (by omega) (by omega), hlj]
       omega
theorem expl_ref {l : List Gun} {d : ByteArray} {fs : List Nat} (hst : strE l = 0) (hg : ∀ b ∈ fs, good32 b = true) (hW : 1 ≤ fs.length ∧ fs.length ≤ 64) : refX l d fs l.length [] = expl l d fs.length l.length (fs.map six32) := by
 have := search_eq (d := d) hst hg hW l.length [] (fs.map six32) (fun j hj => by simp at hj) (by simp) (by simp) (fun j hj => by simp [sumP])
 rw [this]
 cases expl l d fs.length l.length (fs.map six32) <;> simp
end Go.Proofs.YtndlfijfjglkdaaGreatDoor

namespace Go.Proofs.YtndlfijfjglkdaaGreatDoor
open Go Go.Ab Go.Proofs Ieee
def four (ns : List Int) (k : Nat) : Int × Int × Int :=
 ((ns.getD (4 * k) 0 + ns.getD (4 * k + 1) 0 + ns.getD (4 * k + 2) 0 + ns.getD (4 * k + 3) 0) * (ns.getD (4 * k) 0 + ns.getD (4 * k + 1) 0 + ns.getD (4 * k + 2) 0 + ns.getD (4 * k + 3) 0),
  (ns.getD (4 * k) 0 - ns.getD (4 * k + 2) 0) * (ns.getD (4 * k) 0 - ns.getD (4 * k + 2) 0) + (ns.getD (4 * k + 1) 0 - ns.getD (4 * k + 3) 0) * (ns.getD (4 * k + 1) 0 - ns.getD (4 * k + 3) 0),
  (ns.getD (4 * k) 0 - ns.getD (4 * k + 1) 0 + ns.getD (4 * k + 2) 0 - ns.getD (4 * k + 3) 0) * (ns.getD (4 * k) 0 - ns.getD (4 * k + 1) 0 + ns.getD (4 * k + 2) 0 - ns.getD (4 * k + 3) 0))
def bacc (ns : List Int) : Nat → Int × Int × Int
 | 0 => (0, 0, 0)
 | k + 1 => ((bacc ns k).1 + (four ns k).1, (bacc ns k).2.1 + (four ns k).2.1, (bacc ns k).2.2 + (four ns k).2.2)
def bandV (p : Int × Int × Int) : Value := .agg ⟨[iv p.1, iv p.2.1, iv p.2.2]⟩
theorem sq_bd {x B : Int} (h1 : -B ≤ x) (h2 : x ≤ B) : 0 ≤ x * x ∧ x * x ≤ B * B := by
 constructor
 · rcases Int.le_total 0 x with h | h
   · exact Int.mul_nonneg h h
   · have := Int.mul_nonneg (show 0 ≤ -x by omega) (show 0 ≤ -x by omega)
     rwa [Int.neg_mul_neg] at this
 · have h3 : 0 ≤ (B - x) * (B + x) := Int.mul_nonneg (by omega) (by omega)
   have h4 : (B - x) * (B + x) = B * B - x * x := by
     rw [Int.sub_mul, Int.mul_add, Int.mul_add, Int.mul_comm x B]
     omega
   omega
def inS (ns : List Int) : Prop := ∀ x ∈ ns, -16384 ≤ x ∧ x ≤ 16384
theorem inS_at {ns : List Int} (h : inS ns) (k : Nat) : -16384 ≤ ns.getD k 0 ∧ ns.getD k 0 ≤ 16384 := by
 rw [List.getD_eq_getElem?_getD]
 by_cases hk : k < ns.length
 · rw [List.getElem?_eq_getElem hk]
   exact h _ (List.getElem_mem hk)
 · rw [List.getElem?_eq_none (by omega)]
   simp
theorem four_bd {ns : List Int} (h : inS ns) (k : Nat) : (0 ≤ (four ns k).1 ∧ (four ns k).1 ≤ 4294967296) ∧ (0 ≤ (four ns k).2.1 ∧ (four ns k).2.1 ≤ 4294967296) ∧ 0 ≤ (four ns k).2.2 ∧ (four ns k).2.2 ≤ 4294967296 := by
 have a := inS_at h (4 * k)
 have b := inS_at h (4 * k + 1)
 have c := inS_at h (4 * k + 2)
 have d := inS_at h (4 * k + 3)
 have s1 := sq_bd (x := ns.getD (4 * k) 0 + ns.getD (4 * k + 1) 0 + ns.getD (4 * k + 2) 0 + ns.getD (4 * k + 3) 0) (B := 65536) (by omega) (by omega)
 have s2 := sq_bd (x := ns.getD (4 * k) 0 - ns.getD (4 * k + 2) 0) (B := 32768) (by omega) (by omega)
 have s3 := sq_bd (x := ns.getD (4 * k + 1) 0 - ns.getD (4 * k + 3) 0) (B := 32768) (by omega) (by omega)
 have s4 := sq_bd (x := ns.getD (4 * k) 0 - ns.getD (4 * k + 1) 0 + ns.getD (4 * k + 2) 0 - ns.getD (4 * k + 3) 0) (B := 65536) (by omega) (by omega)
 unfold four
 dsimp only
 omega
theorem bacc_bd {ns : List Int} (h : inS ns) : ∀ k : Nat, (0 ≤ (bacc ns k).1 ∧ (bacc ns k).1 ≤ 4294967296 * k) ∧ (0 ≤ (bacc ns k).2.1 ∧ (bacc ns k).2.1 ≤ 4294967296 * k) ∧ 0 ≤ (bacc ns k).2.2 ∧ (bacc ns k).2.2 ≤ 4294967296 * k
 | 0 => by simp [bacc]
 | k + 1 => by
   have h1 := bacc_bd h k
   have h2 := four_bd h k
   rw [bacc]
   dsimp only
   omega
set_option maxRecDepth 20000 in
set_option maxHeartbeats 1000000 in
theorem w86 {H : Heap} {n : Nat} {v : Value} {ns : List Int} (hV : intV H v = some ns) (hl : ns.length ≤ 1024) (hb : inS ns) : AC Tryz.prog 86 [v] H n (bandV (bacc ns (ns.length / 4))) H n := by
 refine AC.given fun hold hsc hgn => AC.tidied (B := []) (by simp) ?_
 have hlt0 := fun k b h => (hold k b h).1
 replace hV : intV (tidy n H) v = some ns := listV_tidy decI_tidy hlt0 hV
 have hr := recT_ok (P := Tryz.prog) (l := []) (by simp)
 obtain ⟨oa, c, rfl, hlt, _, hrow⟩ := intV_form hV
 refine AC.pure Tryz.func86 rfl (by kernel_rfl) rfl [0, 2, 3, 4, 5, 6, 7, 8, 13] rfl ?_
 refine E.seq ?_
 refine E.reg hr (by simp; rfl) ?_
 refine E.seq ?_
 refine E.reg hr (by simp; rfl) ?_
 refine E.seq ?_
 refine E.seq ?_
 refine E.reg hr (by simp; rfl) ?_
 refine E.block ?_
 refine E.loop ?_
 refine EL.ind (fun k : Nat => { fr := [(0, .slice oa ns.length c), (2, .pointer (some ⟨n, 0, none⟩)), (3, .pointer (some ⟨n + 1, 0, none⟩)), (4, iv ((4 * k : Nat) : Int))], sz := 93, H := (n + 1, .cells [iv (bacc ns k).1, iv (bacc ns k).2.1, iv (bacc ns k).2.2] 50) :: (n, .cells [iv 0, iv 0, iv 0] 50) :: tidy n H, n := n + 1 + 1, marks := [], vs := [0, 2, 3, 4, 5, 6, 7, 8, 13] }) (fun k => ns.length / 4 - k) (fun k => k ≤ ns.length / 4) 0 (.keep rfl rfl rfl (by simp) (by simp [bacc]; exact Sub.refl _)) (Nat.zero_le _) (fun _ => rfl) ?_
 intro k hk
 have hAb := bacc_bd hb k
 obtain ⟨A0, hA0⟩ : ∃ A, (bacc ns k).1 = A := ⟨_, rfl⟩
 obtain ⟨A1, hA1⟩ : ∃ A, (bacc ns k).2.1 = A := ⟨_, rfl⟩
 obtain ⟨A2, hA2⟩ : ∃ A, (bacc ns k).2.2 = A := ⟨_, rfl⟩
 have hbs : bacc ns (k + 1) = (A0 + (four ns k).1, A1 + (four ns k).2.1, A2 + (four ns k).2.2) := by rw [bacc, hA0, hA1, hA2]
 rw [hA0, hA1, hA2] at hAb ⊢
 obtain ⟨j, hj⟩ : ∃ j, 4 * k = j := ⟨_, rfl⟩
 unfold four at hbs
 dsimp only at hbs
 rw [hj] at hbs ⊢
 have ja := inS_at hb j
 have jb := inS_at hb (j + 1)
 have jc := inS_at hb (j + 2)
 have jd := inS_at hb (j + 3)
 have hw4 : IntKind.i64.wrap ((j : Int) + 4) = (j : Int) + 4 := W_in (by omega) (by omega)
 refine E.seq ?_
 refine E.seq ?_
 by_cases hk4 : k < ns.length / 4
 case neg =>
   have hkk : k = ns.length / 4 := by omega
   have hgt : ¬ (j : Int) + 4 ≤ ns.length := by omega
   refine E.reg hr (by simp [hw4]; rfl) ?_
   refine E.cond (t := false) (by simp [hgt]) (fun h => by cases h) (fun _ => ?_)
   refine E.exit ?_
   refine E.seq ?_
   refine E.reg hr (by simp; rfl) ?_
   refine E.ret ?_
   exact pureK.ret rfl (by simp [resultsA, resultA]; rfl) (by rw [← hkk, bandV, hA0, hA1, hA2]; rfl) (Sub.cons (by simp) (Sub.cons (by simp) (Sub.refl _)))
 have hlt4 : (j : Int) + 4 ≤ ns.length := by omega
 have gd : ∀ i (h : i < ns.length), ns.getD i 0 = ns[i] := fun i h => by rw [List.getD_eq_getElem?_getD, List.getElem?_eq_getElem h]; rfl
 obtain ⟨aa, rfl, hfa, hc0⟩ := hrow j (by omega)
 obtain ⟨_, e1, _, hc1⟩ := hrow (j + 1) (by omega)
 obtain ⟨_, e2, _, hc2⟩ := hrow (j + 2) (by omega)
 obtain ⟨_, e3, _, hc3⟩ := hrow (j + 3) (by omega)
 injection e1 with e1
 injection e2 with e2
 injection e3 with e3
 subst e1 e2 e3
 rw [← gd] at hc0 hc1 hc2 hc3
 obtain ⟨a, ha⟩ : ∃ a, ns.getD j 0 = a := ⟨_, rfl⟩
 obtain ⟨b, hb'⟩ : ∃ a, ns.getD (j + 1) 0 = a := ⟨_, rfl⟩
 obtain ⟨c', hc'⟩ : ∃ a, ns.getD (j + 2) 0 = a := ⟨_, rfl⟩
 obtain ⟨d, hd'⟩ : ∃ a, ns.getD (j + 3) 0 = a := ⟨_, rfl⟩
 rw [ha] at hc0 ja hbs
 rw [hb'] at hc1 jb hbs
 rw [hc'] at hc2 jc hbs
 rw [hd'] at hc3 jd hbs
 have i1 : (j : Int) < ns.length := by omega
 have i2 : (j : Int) + 1 < ns.length := by omega
 have i3 : (j : Int) + 2 < ns.length := by omega
 have i4 : (j : Int) + 3 < ns.length := by omega
 have n1 : j < ns.length := by omega
 have n2 : j + 1 < ns.length := by omega
 have n3 : j + 2 < ns.length := by omega
 have n4 : j + 3 < ns.length := by omega
 have v1 : IntKind.i64.wrap ((j : Int) + 1) = (j : Int) + 1 := W_in (by omega) (by omega)
 have v2 : IntKind.i64.wrap ((j : Int) + 2) = (j : Int) + 2 := W_in (by omega) (by omega)
 have p2 : (0 : Int) ≤ (j : Int) + 2 := by omega
 have p3 : (0 : Int) ≤ (j : Int) + 3 := by omega
 have t2 : ((j : Int) + 2).toNat = j + 2 := by omega
 have t3 : ((j : Int) + 3).toNat = j + 3 := by omega
 have v3 : IntKind.i64.wrap ((j : Int) + 3) = (j : Int) + 3 := W_in (by omega) (by omega)
 refine E.reg hr (by simp [hw4]; rfl) ?_
 refine E.cond (t := true) (by simp [hlt4]) (fun _ => ?_) (fun h => by cases h)
 have hnm : namesOk (n + 1 + 1) ((n + 1, Blk.cells [iv A0, iv A1, iv A2] 50) :: (n, Blk.cells [iv 0, iv 0, iv 0] 50) :: tidy n H) = true := namesOk_put (by omega) (namesOk_put (by omega) (namesOk_mono (by omega) _ namesOk_tidy))
 have hab : aa.block < n := cellA_lt tidy_lt hc0
 have q1 : ¬ n + 1 = aa.block := by omega
 have q2 : ¬ n = aa.block := by omega
 have hra : ∀ o, cellA (readA [aa.block] ((n + 1, Blk.cells [iv A0, iv A1, iv A2] 50) :: (n, Blk.cells [iv 0, iv 0, iv 0] 50) :: tidy n H)) aa.block o = cellA (tidy n H) aa.block o := fun o => by
   rw [cellA_read, if_pos (by simp), cellA_cons, if_neg q1, cellA_cons, if_neg q2]
 have hab2 : aa.block < n + 1 + 1 := by omega
 obtain ⟨X, hX⟩ : ∃ X, (n + 1, Blk.cells [iv A0, iv A1, iv A2] 50) :: (n, Blk.cells [iv 0, iv 0, iv 0] 50) :: tidy n H = X := ⟨_, rfl⟩
 rw [hX] at hnm hra ⊢
 refine E.skip ?_
 refine E.seq ?_
 refine E.block ?_
 refine E.seq ?_
 refine E.drawU mixed hr [] [] [3, 8, 13, 18] (by kernel_rfl) (by simp [-cellA, -flat, -readA, hnm, hra, hab2, i1, i2, i3, i4, v1, v2, v3, p2, p3, t2, t3, hfa, hc0, hc1, hc2, hc3]; rfl) ?_
 rw [← hX]
 have x1 : IntKind.i64.wrap (a + b) = a + b := W_in (by omega) (by omega)
 have x2 : IntKind.i64.wrap (a + b + c') = a + b + c' := W_in (by omega) (by omega)
 have x3 : IntKind.i64.wrap (a + b + c' + d) = a + b + c' + d := W_in (by omega) (by omega)
 have x4 : IntKind.i64.wrap (a - c') = a - c' := W_in (by omega) (by omega)
 have x5 : IntKind.i64.wrap (b - d) = b - d := W_in (by omega) (by omega)
 have x6 : IntKind.i64.wrap (a - b) = a - b := W_in (by omega) (by omega)
 have x7 : IntKind.i64.wrap (a - b + c') = a - b + c' := W_in (by omega) (by omega)
 have x8 : IntKind.i64.wrap (a - b + c' - d) = a - b + c' - d := W_in (by omega) (by omega)
 have s1 := sq_bd (x := a + b + c' + d) (B := 65536) (by omega) (by omega)
 have s2 := sq_bd (x := a - c') (B := 32768) (by omega) (by omega)
 have s3 := sq_bd (x := b - d) (B := 32768) (by omega) (by omega)
 have s4 := sq_bd (x := a - b + c' - d) (B := 65536) (by omega) (by omega)
 obtain ⟨P, hP⟩ : ∃ P, a + b + c' + d = P := ⟨_, rfl⟩
 obtain ⟨Q, hQ⟩ : ∃ Q, a - c' = Q := ⟨_, rfl⟩
 obtain ⟨R', hR'⟩ : ∃ R, b - d = R := ⟨_, rfl⟩
 obtain ⟨T, hT⟩ : ∃ T, a - b + c' - d = T := ⟨_, rfl⟩
 rw [hP] at x3 s1 hbs
 rw [hQ] at x4 s2 hbs
 rw [hR'] at x5 s3 hbs
 rw [hT] at x8 s4 hbs
 have y1 : IntKind.i64.wrap (P * P) = P * P := W_in (by omega) (by omega)
 have y2 : IntKind.i64.wrap (A0 + P * P) = A0 + P * P := W_in (by omega) (by omega)
 have y3 : IntKind.i64.wrap (Q * Q) = Q * Q := W_in (by omega) (by omega)
 have y4 : IntKind.i64.wrap (A1 + Q * Q) = A1 + Q * Q := W_in (by omega) (by omega)
 have y5 : IntKind.i64.wrap (R' * R') = R' * R' := W_in (by omega) (by omega)
 have y6 : IntKind.i64.wrap (A1 + Q * Q + R' * R') = A1 + Q * Q + R' * R' := W_in (by omega) (by omega)
 have y7 : IntKind.i64.wrap (T * T) = T * T := W_in (by omega) (by omega)
 have y8 : IntKind.i64.wrap (A2 + T * T) = A2 + T * T := W_in (by omega) (by omega)
 rw [← Int.add_assoc] at hbs
 refine E.seq ?_
 refine E.reg hr (by simp [x1, x2, x3, hP, y1, y2]; rfl) ?_
 refine E.seq ?_
 refine E.reg hr (by simp [x4, x5, hQ, hR', y3, y4, y5, y6]; rfl) ?_
 refine E.reg hr (by simp [x6, x7, x8, hT, y7, y8]; rfl) ?_
 refine E.reg hr (by simp [hw4]; rfl) ?_
 exact ⟨k + 1, .keep rfl rfl rfl (by simp; omega) (by dsimp only; rw [hbs]; exact Sub.refl _), hk4, by dsimp only; omega⟩
instance decInS (ns : List Int) : Decidable (inS ns) := by unfold inS; infer_instance
def g86 (args : List Value) (H : Heap) (n : Nat) : R := match args with
 | [v] => match intV H v with
   | some ns => if ns.length ≤ 1024 ∧ inS ns then some (bandV (bacc ns (ns.length / 4)), H, n) else none
   | none => none
 | _ => none
theorem ok86 : EntOk Tryz.prog (86, g86) := by
 intro args H n v H' n' h
 simp only [g86] at h
 split at h
 · split at h
   · rename_i h1
     split at h
     · rename_i hc
       injection h with h; injection h with e1 e2; injection e2 with e2 e3; subst e1 e2 e3
       exact w86 h1 hc.1 hc.2
     · cases h
   · cases h
 · cases h
end Go.Proofs.YtndlfijfjglkdaaGreatDoor

namespace Go.Proofs.YtndlfijfjglkdaaGreatDoor
open Go Go.Ab Go.Proofs Ieee
noncomputable def asg156 : Code := match rfOf (bodyOf' Tryz.f156) with
 | some x => x.1
 | none => .skip
noncomputable def bdy156 : Code := match rfOf (bodyOf' Tryz.f156) with
 | some x => x.2
 | none => .skip
abbrev fn247 : Value := .func (.func 247) #[] #[.pointer (some ⟨13, 0, none⟩), .pointer (some ⟨14, 0, none⟩)]
abbrev fr156 : Fr := [(11, fn247), (2, .pointer (some ⟨11, 0, none⟩)), (3, .pointer (some ⟨12, 0, none⟩))]
abbrev vs156 : List Nat := [2, 3, 4, 5, 6, 7, 8, 9, 11, 15, 21]
noncomputable abbrev H156 (ls : LoopState) (pe : Option Code) (ns : List Int) (p : Int × Int × Int) : Heap := [(16, .loop ls pe fr156 80 vs156 #[12] asg156 bdy156 15), (15, .defd), (14, .cells [iv 4] 3), (13, .cells [.slice (some ⟨10, 0, some 0⟩) ns.length 0] 45), (12, .cells [iv p.1, iv p.2.1, iv p.2.2] 50), (11, .cells [iv 0, iv 0, iv 0] 50), (10, .row (ns.map iv) 1)]
theorem yieldF_exit {r : Rec} {l : Nat} {args : List Value} {H : Heap} {n : Nat} {fr : Fr} {sz : Nat} {vs : List Nat} {ps : Array Tmp} {a b c : Code} {d : Nat} {s1 s2 : St} {e : Ex}
   (h0 : hget H l = some (.loop .ready none fr sz vs ps a b d)) (hlen : (Nat.beq args.length ps.size && ps.toList.all (fun t => Nat.blt t sz)) = true)
   (h1 : r.code (some l) a { fr := (ps.toList.zip args).foldl (fun fr (t, v) => (t, v) :: fr) fr, sz, H, n, marks := [], vs } = some (.normal, s1)) (hl1 : hget s1.H l = some (.loop .ready none fr sz vs ps a b d))
   (h2 : r.code (some l) b { s1 with H := hset s1.H l (.loop .busy none fr sz vs ps a b d) } = some (e, s2)) (he : Code.ex e = some c) (hl2 : hget s2.H l = some (.loop .busy none fr sz vs ps a b d)) :
   yieldF r l args H n = some (.bool false, hset s2.H l (.loop .done (some c) fr sz vs ps a b d), s2.n) := by
 unfold yieldF
 rw [h0]
 simp only [hlen, h1, hl1, h2, hl2, he]
 rfl
open Classical in
noncomputable def r156 (s1 : St) (e : Ex) (s2 : St) : Rec := recV Tryz.prog (fun _ c _ => match c with
 | .region _ _ _ => some (.normal, s1)
 | .block _ _ => some (e, s2)
 | _ => none) (fun _ _ _ _ => none)
set_option maxRecDepth 100000 in
theorem yield156x (ns : List Int) (p : Int × Int × Int) (i j : Nat) (hj : j < 4) :
   ∃ q, RecOk Tryz.prog q 0 ∧ yieldF q 16 [.slice (some ⟨10, i, none⟩) j j] (H156 .ready none ns p) 17 = some (.bool false, H156 .done (some (.exit 0)) ns p, 17) := by
 have hr := recT_ok (P := Tryz.prog) (l := []) (by simp)
 have hjI : (j : Int) < 4 := by omega
 let s1 : St := { fr := [(4, .slice (some ⟨10, i, none⟩) j j), (11, fn247), (2, .pointer (some ⟨11, 0, none⟩)), (3, .pointer (some ⟨12, 0, none⟩))], sz := 80, H := H156 .ready none ns p, n := 17, marks := [], vs := vs156 }
 let s2 : St := { fr := [], sz := 80, H := H156 .busy none ns p, n := 17, marks := [], vs := [] }
 refine ⟨r156 s1 (.exit 0) s2, recV_ok, ?_⟩
 have hA : AT Tryz.prog (some 16) asg156 { fr := (12, .slice (some ⟨10, i, none⟩) j j) :: fr156, sz := 80, H := H156 .ready none ns p, n := 17, marks := [], vs := vs156 } .normal s1 := by
   refine E.toATc ?_
   refine E.reg hr (by simp; rfl) ?_
   exact ⟨rfl, rfl, rfl, rfl, by simp [s1], by simp [s1]⟩
 have hB : AT Tryz.prog (some 16) bdy156 { s1 with H := H156 .busy none ns p } (.exit 0) s2 := by
   refine E.toATc ?_
   refine E.block ?_
   refine E.seq ?_
   refine E.seq ?_
   refine E.reg hr (by simp [s1]; rfl) ?_
   refine E.cond (t := true) (by simp [hjI]) (fun _ => ?_) (fun h => by cases h)
   refine E.exit ?_
   exact ⟨rfl, rfl, rfl, rfl, by simp [s2], by simp [s2]⟩
 have hh : hset s2.H 16 (.loop .done (some (.exit 0)) fr156 80 vs156 #[12] asg156 bdy156 15) = H156 .done (some (.exit 0)) ns p := by simp [s2]
 rw [← hh]
 refine yieldF_exit (s1 := s1) (s2 := s2) (fr := fr156) (sz := 80) (vs := vs156) (ps := #[12]) (a := asg156) (b := bdy156) (d := 15) (e := .exit 0) (by simp) rfl ?_ (by simp [s1]) ?_ rfl (by simp [s2])
 · exact recV_code (by intro b h; cases h) rfl hA
 · show (r156 s1 (.exit 0) s2).code (some 16) bdy156 { s1 with H := hset s1.H 16 _ } = _
   rw [show hset s1.H 16 (.loop .busy none fr156 80 vs156 #[12] asg156 bdy156 15) = H156 .busy none ns p by simp [s1]]
   exact recV_code (by intro b h; cases h) rfl hB
end Go.Proofs.YtndlfijfjglkdaaGreatDoor

namespace Go.Ab
open Go
section
variable {P : Program}
theorem runS_bind {α β : Type} (a : Sem α) (g : α → Sem β) : runP P (a >>= g) = (runP P a).bind fun x => runP P (g x) := by
 show runP P (Sem.bind a g) = _
 induction a with
 | program k ih => exact ih P
 | mark m k ih => exact ih
 | _ => rfl
theorem runS_pure {α : Type} (a : α) : runP P (pure a : Sem α) = some a := rfl
theorem runS_und {t : TypeId} {d : TypeDesc} (h : P.underlying t = some d) : runP P (underlying t) = some d := by
 show runP P (match P.underlying t with | some d => _ | none => _) = _
 rw [h]
 rfl
theorem runS_int (d : Nat) {t : TypeId} {k k' : IntKind} (n m : Int) (h : P.underlying t = some (.int k')) : runP P (Op.equalIn (d + 1) t (.int k n) (.int k m)) = some (n == m) := by
 simp only [Op.equalIn, runS_bind, runS_und h, Option.bind_some, if_true, runS_pure]
end
end Go.Ab

namespace Go.Ab
open Go
section
variable {P : Program}
theorem runA_eq (d : Nat) {t e : TypeId} {N n : Nat} (xs ys : Array Value) (q : Nat → Bool) (ht : P.underlying t = some (.array N e)) (hn : runP P (sizeOf e) = some n)
   (h : ∀ i, i < N → ∃ a b, runP P (part e xs (i * n)) = some a ∧ runP P (part e ys (i * n)) = some b ∧ runP P (Op.equalIn d e a b) = some (q i)) : runP P (Op.equalIn (d + 1) t (.agg xs) (.agg ys)) = some ((List.range' 0 N 1).all q) := by
 simp only [Op.equalIn, runS_bind, runS_und ht, Option.bind_some, hn]
 simp only [Std.Legacy.Range.forIn_eq_forIn_range', Std.Legacy.Range.size, Nat.sub_zero, Nat.add_one_sub_one, Nat.div_one]
 have hm : ∀ i ∈ List.range' 0 N 1, i < N := fun i hi => by
   rw [List.mem_range'_1] at hi
   omega
 generalize List.range' 0 N 1 = fl at hm
 induction fl with
 | nil => rfl
 | cons i fl ih =>
   obtain ⟨a, b, h1, h2, h3⟩ := h i (hm i (List.mem_cons_self ..))
   have ih := ih fun j hj => hm j (List.mem_cons_of_mem _ hj)
   simp only [List.forIn_cons, runS_bind]
   cases he : q i with
   | true =>
     simp only [h1, h2, h3, he, Option.bind_some, Bool.not_true, Bool.false_eq_true, if_false, runS_pure, List.all_cons, Bool.true_and]
     exact ih
   | false =>
     simp only [h1, h2, h3, he, Option.bind_some, Bool.not_false, if_true, runS_pure, List.all_cons, Bool.false_and]
end
end Go.Ab

namespace Go.Proofs.YtndlfijfjglkdaaGreatDoor
open Go Go.Ab Go.Proofs Ieee
theorem eq281v (a b c d a' b' c' d' : Int) : runP Tryz.prog (Op.equalIn 10000 281 (.agg ⟨[iv a, iv b, iv c, iv d]⟩) (.agg ⟨[iv a', iv b', iv c', iv d']⟩)) = some ((a == a') && ((b == b') && ((c == c') && ((d == d') && true)))) := by
 have := runA_eq (P := Tryz.prog) 9999 (t := 281) (e := 3) (N := 4) (n := 1) ⟨[iv a, iv b, iv c, iv d]⟩ ⟨[iv a', iv b', iv c', iv d']⟩ (fun i => match i with
   | 0 => a == a'
   | 1 => b == b'
   | 2 => c == c'
   | _ => d == d') Tryz.underlying281 (by kernel_rfl) fun i hi => ?_
 · exact this
 · rcases (show i = 0 ∨ i = 1 ∨ i = 2 ∨ i = 3 by omega) with rfl | rfl | rfl | rfl
   · exact ⟨iv a, iv a', by kernel_rfl, by kernel_rfl, runS_int _ _ _ Tryz.underlying3⟩
   · exact ⟨iv b, iv b', by kernel_rfl, by kernel_rfl, runS_int _ _ _ Tryz.underlying3⟩
   · exact ⟨iv c, iv c', by kernel_rfl, by kernel_rfl, runS_int _ _ _ Tryz.underlying3⟩
   · exact ⟨iv d, iv d', by kernel_rfl, by kernel_rfl, runS_int _ _ _ Tryz.underlying3⟩
theorem eq281 {x y : Operand} {H : Heap} {n : Nat} (a b c d a' b' c' d' : Int) : binV Tryz.prog .eql 281 x y (.agg ⟨[iv a, iv b, iv c, iv d]⟩) (.agg ⟨[iv a', iv b', iv c', iv d']⟩) H n = some (.bool ((a == a') && ((b == b') && ((c == c') && ((d == d') && true)))), H, n) := by
 have h : runP Tryz.prog (do eqGuard .eql 281 x y (.agg ⟨[iv a, iv b, iv c, iv d]⟩) (.agg ⟨[iv a', iv b', iv c', iv d']⟩); binOp .eql 281 (.agg ⟨[iv a, iv b, iv c, iv d]⟩) (.agg ⟨[iv a', iv b', iv c', iv d']⟩)) = some (.bool ((a == a') && ((b == b') && ((c == c') && ((d == d') && true))))) := by
   rw [runP_bind']
   have h1 : runP Tryz.prog (eqGuard .eql 281 x y (.agg ⟨[iv a, iv b, iv c, iv d]⟩) (.agg ⟨[iv a', iv b', iv c', iv d']⟩)) = some () := by kernel_rfl
   rw [h1, Option.bind_some]
   show runP Tryz.prog (Op.equalIn 10000 281 (.agg ⟨[iv a, iv b, iv c, iv d]⟩) (.agg ⟨[iv a', iv b', iv c', iv d']⟩) >>= fun b => pure (Value.bool b)) = _
   rw [runP_bind', eq281v]
   rfl
 have ha : afq (.agg ⟨[iv a, iv b, iv c, iv d]⟩) = true := rfl
 have hb : afq (.agg ⟨[iv a', iv b', iv c', iv d']⟩) = true := rfl
 unfold binV
 rw [ha, hb]
 simp only [Bool.and_self, if_true]
 rw [h]
 rfl
theorem eq50v (a b c a' b' c' : Int) : runP Tryz.prog (Op.equalIn 10000 50 (.agg ⟨[iv a, iv b, iv c]⟩) (.agg ⟨[iv a', iv b', iv c']⟩)) = some ((a == a') && ((b == b') && ((c == c') && true))) := by
 have := runA_eq (P := Tryz.prog) 9999 (t := 50) (e := 3) (N := 3) (n := 1) ⟨[iv a, iv b, iv c]⟩ ⟨[iv a', iv b', iv c']⟩ (fun i => match i with
   | 0 => a == a'
   | 1 => b == b'
   | _ => c == c') Tryz.underlying50 (by kernel_rfl) fun i hi => ?_
 · exact this
 · rcases (show i = 0 ∨ i = 1 ∨ i = 2 by omega) with rfl | rfl | rfl
   · exact ⟨iv a, iv a', by kernel_rfl, by kernel_rfl, runS_int _ _ _ Tryz.underlying3⟩
   · exact ⟨iv b, iv b', by kernel_rfl, by kernel_rfl, runS_int _ _ _ Tryz.underlying3⟩
   · exact ⟨iv c, iv c', by kernel_rfl, by kernel_rfl, runS_int _ _ _ Tryz.underlying3⟩
theorem eq50 {x y : Operand} {H : Heap} {n : Nat} (a b c a' b' c' : Int) : binV Tryz.prog .eql 50 x y (.agg ⟨[iv a, iv b, iv c]⟩) (.agg ⟨[iv a', iv b', iv c']⟩) H n = some (.bool ((a == a') && ((b == b') && ((c == c') && true))), H, n) := by
 have h : runP Tryz.prog (do eqGuard .eql 50 x y (.agg ⟨[iv a, iv b, iv c]⟩) (.agg ⟨[iv a', iv b', iv c']⟩); binOp .eql 50 (.agg ⟨[iv a, iv b, iv c]⟩) (.agg ⟨[iv a', iv b', iv c']⟩)) = some (.bool ((a == a') && ((b == b') && ((c == c') && true)))) := by
   rw [runP_bind']
   have h1 : runP Tryz.prog (eqGuard .eql 50 x y (.agg ⟨[iv a, iv b, iv c]⟩) (.agg ⟨[iv a', iv b', iv c']⟩)) = some () := by kernel_rfl
   rw [h1, Option.bind_some]
   show runP Tryz.prog (Op.equalIn 10000 50 (.agg ⟨[iv a, iv b, iv c]⟩) (.agg ⟨[iv a', iv b', iv c']⟩) >>= fun b => pure (Value.bool b)) = _
   rw [runP_bind', eq50v]
   rfl
 have ha : afq (.agg ⟨[iv a, iv b, iv c]⟩) = true := rfl
 have hb : afq (.agg ⟨[iv a', iv b', iv c']⟩) = true := rfl
 unfold binV
 rw [ha, hb]
 simp only [Bool.and_self, if_true]
 rw [h]
 rfl
end Go.Proofs.YtndlfijfjglkdaaGreatDoor

namespace Go.Proofs.YtndlfijfjglkdaaGreatDoor
open Go Go.Ab Go.Proofs Ieee
theorem run_s2ap {P : Program} {r : Rec} {st : St} {dst : Option Tmp} {arr : TypeId} {x : Operand} {ty : TypeId} {ps : String} {af : Array Edge} {g : Option (Nat × Bool)} : runOp P r ⟨dst, .sliceToArrayPointer arr x, ty, ps, af, g⟩ st = opSlicetoarraypointer P arr x st.fr st.H st.n := rfl
theorem build281 {fr : Fr} {H : Heap} {n : Nat} : opBuild Tryz.prog 281 #[] fr H n = some (.agg ⟨[iv 0, iv 0, iv 0, iv 0]⟩, H, n) := by kernel_rfl
theorem build50 {fr : Fr} {H : Heap} {n : Nat} : opBuild Tryz.prog 50 #[] fr H n = some (.agg ⟨[iv 0, iv 0, iv 0]⟩, H, n) := by kernel_rfl
set_option maxRecDepth 100000 in
set_option maxHeartbeats 1000000 in
theorem yield156 (ns : List Int) (k : Nat) (hk : 4 * k + 4 ≤ ns.length) (hl : ns.length ≤ 1024) (hb : inS ns) :
   ∃ q, RecOk Tryz.prog q 0 ∧ yieldF q 16 [.slice (some ⟨10, 4 * k, none⟩) 4 4] (H156 .ready none ns (bacc ns k)) 17 = some (.bool true, H156 .ready none ns (bacc ns (k + 1)), 18) := by
 have hr := recT_ok (P := Tryz.prog) (l := []) (by simp)
 have hAb := bacc_bd hb k
 obtain ⟨A0, hA0⟩ : ∃ A, (bacc ns k).1 = A := ⟨_, rfl⟩
 obtain ⟨A1, hA1⟩ : ∃ A, (bacc ns k).2.1 = A := ⟨_, rfl⟩
 obtain ⟨A2, hA2⟩ : ∃ A, (bacc ns k).2.2 = A := ⟨_, rfl⟩
 have hbs : bacc ns (k + 1) = (A0 + (four ns k).1, A1 + (four ns k).2.1, A2 + (four ns k).2.2) := by rw [bacc, hA0, hA1, hA2]
 have hbk : bacc ns k = (A0, A1, A2) := by rw [← hA0, ← hA1, ← hA2]
 rw [hA0, hA1, hA2] at hAb
 rw [hbk]
 obtain ⟨j, hj⟩ : ∃ j, 4 * k = j := ⟨_, rfl⟩
 unfold four at hbs
 dsimp only at hbs
 rw [hj] at hbs hk ⊢
 have ja := inS_at hb j
 have jb := inS_at hb (j + 1)
 have jc := inS_at hb (j + 2)
 have jd := inS_at hb (j + 3)
 have gd : ∀ i (h : i < ns.length), ns[i] = ns.getD i 0 := fun i h => by rw [List.getD_eq_getElem?_getD, List.getElem?_eq_getElem h]; rfl
 have hrow : ((ns.map iv).drop j).take 4 = [iv (ns.getD j 0), iv (ns.getD (j + 1) 0), iv (ns.getD (j + 2) 0), iv (ns.getD (j + 3) 0)] := by
   rw [← List.map_drop, ← List.map_take, List.drop_eq_getElem_cons (by omega), List.drop_eq_getElem_cons (by omega), List.drop_eq_getElem_cons (by omega), List.drop_eq_getElem_cons (by omega), gd, gd, gd, gd]
   rfl
 obtain ⟨a, ha⟩ : ∃ a, ns.getD j 0 = a := ⟨_, rfl⟩
 obtain ⟨b, hb'⟩ : ∃ a, ns.getD (j + 1) 0 = a := ⟨_, rfl⟩
 obtain ⟨c', hc'⟩ : ∃ a, ns.getD (j + 2) 0 = a := ⟨_, rfl⟩
 obtain ⟨d, hd'⟩ : ∃ a, ns.getD (j + 3) 0 = a := ⟨_, rfl⟩
 rw [ha, hb', hc', hd'] at hrow
 rw [ha] at ja hbs
 rw [hb'] at jb hbs
 rw [hc'] at jc hbs
 rw [hd'] at jd hbs
 have hjl : j + 4 ≤ ns.length := hk
 let s1 : St := { fr := [(4, .slice (some ⟨10, j, none⟩) 4 4), (11, fn247), (2, .pointer (some ⟨11, 0, none⟩)), (3, .pointer (some ⟨12, 0, none⟩))], sz := 80, H := H156 .ready none ns (A0, A1, A2), n := 17, marks := [], vs := vs156 }
 let s2 : St := { fr := [], sz := 80, H := H156 .busy none ns (bacc ns (k + 1)), n := 18, marks := [], vs := [] }
 refine ⟨r156 s1 .normal s2, recV_ok, ?_⟩
 have hA : AT Tryz.prog (some 16) asg156 { fr := (12, .slice (some ⟨10, j, none⟩) 4 4) :: fr156, sz := 80, H := H156 .ready none ns (A0, A1, A2), n := 17, marks := [], vs := vs156 } .normal s1 := by
   refine E.toATc ?_
   refine E.reg hr (by simp; rfl) ?_
   exact ⟨rfl, rfl, rfl, rfl, by simp [s1], by simp [s1]⟩
 have hB : AT Tryz.prog (some 16) bdy156 { s1 with H := H156 .busy none ns (A0, A1, A2) } .normal s2 := by
   refine E.toATc ?_
   refine E.block ?_
   refine E.seq ?_
   refine E.seq ?_
   refine E.reg hr (by simp [s1]; rfl) ?_
   refine E.cond (t := false) (by simp) (fun h => by cases h) (fun _ => ?_)
   refine E.skip ?_
   refine E.seq ?_
   refine E.reg hr (by simp [run_s2ap, opSlicetoarraypointer, hjl, hrow]; rfl) ?_
   refine E.seq ?_
   refine E.seq ?_
   by_cases hz : ((a == 0) && ((b == 0) && ((c' == 0) && ((d == 0) && true)))) = true
   · have hz2 := hz
     simp only [Bool.and_eq_true, beq_iff_eq] at hz2
     obtain ⟨rfl, rfl, rfl, rfl, _⟩ := hz2
     have hb0 : bacc ns (k + 1) = (A0, A1, A2) := by rw [hbs]; simp
     refine E.reg hr (by simp [build281, eq281]; rfl) ?_
     refine E.cond (t := true) (by simp) (fun _ => ?_) (fun h => by cases h)
     refine E.exit ?_
     exact ⟨rfl, rfl, rfl, rfl, by simp [s2], by simp [s2, hb0]⟩
   obtain ⟨zb, hzb⟩ : ∃ z, ((a == 0) && ((b == 0) && ((c' == 0) && ((d == 0) && true)))) = z := ⟨_, rfl⟩
   have hzf : zb = false := by
     cases zb with
     | false => rfl
     | true => exact absurd hzb hz
   subst hzf
   have h281 := fun (x y : Operand) (H : Heap) (n : Nat) => eq281 (x := x) (y := y) (H := H) (n := n) a b c' d 0 0 0 0
   rw [hzb] at h281
   have x1 : IntKind.i64.wrap (a + b) = a + b := W_in (by omega) (by omega)
   have x2 : IntKind.i64.wrap (a + b + c') = a + b + c' := W_in (by omega) (by omega)
   have x3 : IntKind.i64.wrap (a + b + c' + d) = a + b + c' + d := W_in (by omega) (by omega)
   have x4 : IntKind.i64.wrap (a - c') = a - c' := W_in (by omega) (by omega)
   have x5 : IntKind.i64.wrap (b - d) = b - d := W_in (by omega) (by omega)
   have x6 : IntKind.i64.wrap (a - b) = a - b := W_in (by omega) (by omega)
   have x7 : IntKind.i64.wrap (a - b + c') = a - b + c' := W_in (by omega) (by omega)
   have x8 : IntKind.i64.wrap (a - b + c' - d) = a - b + c' - d := W_in (by omega) (by omega)
   have s1' := sq_bd (x := a + b + c' + d) (B := 65536) (by omega) (by omega)
   have s2' := sq_bd (x := a - c') (B := 32768) (by omega) (by omega)
   have s3' := sq_bd (x := b - d) (B := 32768) (by omega) (by omega)
   have s4' := sq_bd (x := a - b + c' - d) (B := 65536) (by omega) (by omega)
   obtain ⟨P, hP⟩ : ∃ P, a + b + c' + d = P := ⟨_, rfl⟩
   obtain ⟨Q, hQ⟩ : ∃ Q, a - c' = Q := ⟨_, rfl⟩
   obtain ⟨R', hR'⟩ : ∃ R, b - d = R := ⟨_, rfl⟩
   obtain ⟨T, hT⟩ : ∃ T, a - b + c' - d = T := ⟨_, rfl⟩
   rw [hP] at x3 s1' hbs
   rw [hQ] at x4 s2' hbs
   rw [hR'] at x5 s3' hbs
   rw [hT] at x8 s4' hbs
   have y1 : IntKind.i64.wrap (P * P) = P * P := W_in (by omega) (by omega)
   have y2 : IntKind.i64.wrap (A0 + P * P) = A0 + P * P := W_in (by omega) (by omega)
   have y3 : IntKind.i64.wrap (Q * Q) = Q * Q := W_in (by omega) (by omega)
   have y5 : IntKind.i64.wrap (R' * R') = R' * R' := W_in (by omega) (by omega)
   have y4 : IntKind.i64.wrap (Q * Q + R' * R') = Q * Q + R' * R' := W_in (by omega) (by omega)
   have y6 : IntKind.i64.wrap (A1 + (Q * Q + R' * R')) = A1 + (Q * Q + R' * R') := W_in (by omega) (by omega)
   have y7 : IntKind.i64.wrap (T * T) = T * T := W_in (by omega) (by omega)
   have y8 : IntKind.i64.wrap (A2 + T * T) = A2 + T * T := W_in (by omega) (by omega)
   refine E.reg hr (by simp [build281, h281]; rfl) ?_
   refine E.cond (t := false) (by simp) (fun h => by cases h) (fun _ => ?_)
   refine E.skip ?_
   refine E.seq ?_
   refine E.drawC mixed hr [] [] [1, 3, 6, 9, 12, 14, 17, 19, 22, 24, 27, 30] (by kernel_rfl) (by simp [x1, x2, hP, x3, hQ, x4, hR', x5, x6, x7, hT, x8]; rfl) ?_
   refine E.seq ?_
   refine E.reg hr (by simp [y1, y2]; rfl) ?_
   refine E.seq ?_
   refine E.reg hr (by simp [y3, y4, y5, y6]; rfl) ?_
   refine E.reg hr (by simp [y7, y8]; rfl) ?_
   exact ⟨rfl, rfl, rfl, rfl, by simp [s2], by simp [s2, hbs]⟩
 have hh : hset s2.H 16 (.loop .ready none fr156 80 vs156 #[12] asg156 bdy156 15) = H156 .ready none ns (bacc ns (k + 1)) := by simp [s2]
 rw [← hh]
 refine yieldF_of (s1 := s1) (s2 := s2) (fr := fr156) (sz := 80) (vs := vs156) (ps := #[12]) (a := asg156) (b := bdy156) (d := 15) (by simp) rfl ?_ (by simp [s1]) ?_ (by simp [s2])
 · exact recV_code (by intro b h; cases h) rfl hA
 · show (r156 s1 .normal s2).code (some 16) bdy156 { s1 with H := hset s1.H 16 _ } = _
   rw [show hset s1.H 16 (.loop .busy none fr156 80 vs156 #[12] asg156 bdy156 15) = H156 .busy none ns (A0, A1, A2) by simp [s1]]
   exact recV_code (by intro b h; cases h) rfl hB
end Go.Proofs.YtndlfijfjglkdaaGreatDoor

namespace Go.Proofs.YtndlfijfjglkdaaGreatDoor
open Go Go.Ab Go.Proofs Ieee
section
variable {fr : Fr} {H : Heap} {n m L : Nat} {x y z u : Operand} {cs : List Value}
theorem used45 (h : hget H m = some (.row cs 1)) (o s : Nat) : usedA H 1 (some ⟨m, o, some 0⟩) s = cs.length - s := by
 simp [usedA, h]
theorem lo45 {i : Nat} (hg : hget H m = some (.row cs 1)) (_h0 : 0 < i) (hi : i < cs.length) (hx : evO Tryz.prog fr x = some (.slice (some ⟨m, 0, some 0⟩) cs.length 0)) (hy : evO Tryz.prog fr y = some (iv i)) :
   opSlice Tryz.prog 45 x (some y) none none fr H n = some (.slice (some ⟨m, i, some 0⟩) (cs.length - i) i, H, n) := by
 simp only [opSlice, hx, evI, hy, Tryz.underlying45, show szA Tryz.prog 3 = some 1 from by simp, used45 hg]
 have h1 : i ≤ cs.length := by omega
 simp [sliceA, boundA, h1, hi]
theorem lo45z (hg : hget H m = some (.row cs 1)) (hi : 0 < cs.length) (hx : evO Tryz.prog fr x = some (.slice (some ⟨m, 0, some 0⟩) cs.length 0)) (hy : evO Tryz.prog fr y = some (iv 0)) :
   opSlice Tryz.prog 45 x (some y) none none fr H n = some (.slice (some ⟨m, 0, some 0⟩) cs.length 0, H, n) := by
 simp only [opSlice, hx, evI, hy, Tryz.underlying45, show szA Tryz.prog 3 = some 1 from by simp, used45 hg]
 simp [sliceA, boundA, hi]
theorem max45 {i j : Nat} (hg : hget H m = some (.row cs 1)) (hij : i < j) (hj : j ≤ cs.length) (hx : evO Tryz.prog fr x = some (.slice (some ⟨m, 0, some 0⟩) cs.length 0)) (hy : evO Tryz.prog fr y = some (iv i)) (hz : evO Tryz.prog fr z = some (iv j)) (hu : evO Tryz.prog fr u = some (iv j)) :
   opSlice Tryz.prog 45 x (some y) (some z) (some u) fr H n = some (.slice (some ⟨m, i, none⟩) (j - i) (j - i), H, n) := by
 have h1 : i ≤ j := by omega
 have h2 : i < cs.length := by omega
 have h4 : (j : Int) ≤ cs.length := by omega
 have h5 : (i : Int) < j := by omega
 simp only [opSlice, hx, evI, hy, hz, hu, Tryz.underlying45, show szA Tryz.prog 3 = some 1 from by simp, used45 hg]
 simp [sliceA, boundA, h1, h2, h4, h5, hj]
end
theorem H156_old {ls : LoopState} {pe : Option Code} {ns : List Int} {p : Int × Int × Int} {k : Nat} {b : Blk} (h : hget (H156 ls pe ns p) k = some b) : k < 17 ∧ scB (· < 17) b := by
 have hm := hget_mem _ _ _ h
 simp only [H156, List.mem_cons, Prod.mk.injEq, List.not_mem_nil, or_false] at hm
 rcases hm with ⟨rfl, rfl⟩ | ⟨rfl, rfl⟩ | ⟨rfl, rfl⟩ | ⟨rfl, rfl⟩ | ⟨rfl, rfl⟩ | ⟨rfl, rfl⟩ | ⟨rfl, rfl⟩
 · refine ⟨by omega, ?_⟩
   rw [scB_loop (by omega) (by
     intro x hx
     simp only [fr156, List.mem_cons, List.not_mem_nil, or_false] at hx
     rcases hx with rfl | rfl | rfl <;> simp [sc, scL])]
   trivial
 · exact ⟨by omega, trivial⟩
 all_goals exact ⟨by omega, by simp [sc, scL]⟩
end Go.Proofs.YtndlfijfjglkdaaGreatDoor

namespace Go.Proofs.YtndlfijfjglkdaaGreatDoor
open Go Go.Ab Go.Proofs Ieee
noncomputable def S247 (ns : List Int) (k : Nat) : St := { fr := [(0, .func (.yield 16) #[] #[]), (1, .pointer (some ⟨13, 0, none⟩)), (2, .pointer (some ⟨14, 0, none⟩)), (4, iv ((4 * k : Nat) : Int))], sz := 31, H := H156 .ready none ns (bacc ns k), n := 17, marks := [], vs := [0, 1, 2, 4, 5, 9, 30] }
noncomputable def F247 (ns : List Int) : Heap := if ns.length % 4 = 0 then H156 .ready none ns (bacc ns (ns.length / 4)) else H156 .done (some (.exit 0)) ns (bacc ns (ns.length / 4))
set_option maxRecDepth 100000 in
set_option maxHeartbeats 1000000 in
theorem w247 (ns : List Int) (hl : ns.length ≤ 1024) (hb : inS ns) : AC Tryz.prog 247 [.func (.yield 16) #[] #[], .pointer (some ⟨13, 0, none⟩), .pointer (some ⟨14, 0, none⟩)] (H156 .ready none ns (0, 0, 0)) 17 (.tuple #[]) (F247 ns) 17 := by
 have hr := recT_ok (P := Tryz.prog) (l := []) (by simp)
 refine AC.body Tryz.func247 rfl (by kernel_rfl) rfl [0, 1, 2, 4, 5, 9, 30] ?_
 refine E.seq ?_
 refine E.reg hr (by simp; rfl) ?_
 refine E.block ?_
 refine E.loop ?_
 refine EL.ind (S247 ns) (fun k => ns.length / 4 + 1 - k) (fun k => 4 * k ≤ ns.length) 0 (.less rfl rfl rfl (by simp [S247]) (by simp [S247, bacc])) (Nat.zero_le _) (fun _ => rfl) ?_
 intro k hk
 obtain ⟨j, hj⟩ : ∃ j, 4 * k = j := ⟨_, rfl⟩
 have hjk : k = j / 4 := by omega
 refine E.seq ?_
 refine E.seq ?_
 by_cases hjl : j < ns.length
 case neg =>
   have hge : ¬ (j : Int) < ns.length := by omega
   have hke : k = ns.length / 4 := by omega
   refine E.reg hr (by simp [S247, hj]; rfl) ?_
   refine E.cond (t := false) (by simp; omega) (fun h => by cases h) (fun _ => ?_)
   refine E.exit ?_
   refine ⟨.inl rfl, ?_⟩
   rw [F247, if_pos (by omega), ← hke]
   simp [leaveF, shutA, resultsA, Tryz.results247, dropOk]
 have hjI : (j : Int) < ns.length := by omega
 have hlm : (ns.map iv).length = ns.length := List.length_map ..
 refine E.reg hr (by simp [S247, hj]; rfl) ?_
 refine E.cond (t := true) (by simp; omega) (fun _ => ?_) (fun h => by cases h)
 refine E.skip ?_
 refine E.seq ?_
 refine E.block ?_
 obtain ⟨w, hw⟩ : ∃ w : Nat, min 4 (ns.length - j) = w := ⟨_, rfl⟩
 have hw1 : 0 < w ∧ w ≤ 4 ∧ j + w ≤ ns.length := by omega
 refine E.cut { fr := [(0, .func (.yield 16) #[] #[]), (1, .pointer (some ⟨13, 0, none⟩)), (2, .pointer (some ⟨14, 0, none⟩)), (4, iv j), (5, iv w)], sz := 31, H := H156 .ready none ns (bacc ns k), n := 17, marks := [], vs := [0, 1, 2, 4, 5, 9, 30] } ?_ ?_
 · by_cases hj0 : j = 0
   · subst hj0
     have hlo : ∀ {fr : Fr} {H : Heap} {x y : Operand}, hget H 10 = some (.row (ns.map iv) 1) → evO Tryz.prog fr x = some (.slice (some ⟨10, 0, some 0⟩) ns.length 0) → evO Tryz.prog fr y = some (iv 0) → opSlice Tryz.prog 45 x (some y) none none fr H 17 = some (.slice (some ⟨10, 0, some 0⟩) ns.length 0, H, 17) := fun h1 h2 h3 => by
       rw [← hlm] at h2 ⊢
       exact lo45z h1 (by omega) h2 h3
     refine E.drawC mixed hr [] [] [0, 1, 3] (by kernel_rfl) (by simp [hlo]; rfl) ?_
     exact Leads.less rfl rfl rfl (by simp; omega) (by simp)
   · have hlo : ∀ {fr : Fr} {H : Heap} {x y : Operand}, hget H 10 = some (.row (ns.map iv) 1) → evO Tryz.prog fr x = some (.slice (some ⟨10, 0, some 0⟩) ns.length 0) → evO Tryz.prog fr y = some (iv j) → opSlice Tryz.prog 45 x (some y) none none fr H 17 = some (.slice (some ⟨10, j, some 0⟩) (ns.length - j) j, H, 17) := fun h1 h2 h3 => by
       rw [← hlm] at h2 ⊢
       exact lo45 h1 (by omega) (by omega) h2 h3
     refine E.drawC mixed hr [] [] [0, 1, 3] (by kernel_rfl) (by simp [hlo]; rfl) ?_
     exact Leads.less rfl rfl rfl (by simp; omega) (by simp)
 have hwi : IntKind.i64.wrap ((j : Int) + (w : Int)) = (j : Int) + (w : Int) := W_in (by omega) (by omega)
 have hmx : ∀ {fr : Fr} {H : Heap} {x y z u : Operand}, hget H 10 = some (.row (ns.map iv) 1) → evO Tryz.prog fr x = some (.slice (some ⟨10, 0, some 0⟩) ns.length 0) → evO Tryz.prog fr y = some (iv j) → evO Tryz.prog fr z = some (iv ((j : Int) + (w : Int))) → evO Tryz.prog fr u = some (iv ((j : Int) + (w : Int))) → opSlice Tryz.prog 45 x (some y) (some z) (some u) fr H 17 = some (.slice (some ⟨10, j, none⟩) w w, H, 17) := fun h1 h2 h3 h4 h5 => by
   rw [← hlm] at h2
   have := max45 (i := j) (j := j + w) (n := 17) h1 (by omega) (by omega) h2 h3 h4 h5
   rw [show j + w - j = w by omega] at this
   exact this
 refine E.seq ?_
 by_cases hfull : w = 4
 · subst hfull
   obtain ⟨q, hq, hy⟩ := yield156 ns k (by omega) hl hb
   rw [hj] at hy
   have hwi4 : IntKind.i64.wrap ((j : Int) + 4) = (j : Int) + 4 := W_in (by omega) (by omega)
   refine E.reg hq (by simp [hwi4, hmx, hy]; rfl) ?_
   refine E.cond (t := false) (by simp) (fun h => by cases h) (fun _ => ?_)
   refine E.skip ?_
   refine E.reg hr (by simp [hwi4]; rfl) ?_
   refine ⟨k + 1, ?_, by dsimp only; omega, by dsimp only; omega⟩
   have e4 : ((4 * (k + 1) : Nat) : Int) = (j : Int) + 4 := by omega
   refine Leads.renM id (fun _ _ => rfl) (Nat.le_refl 17) rfl ⟨rfl, rfl⟩ (fun t v hv => ?_) (fun b c hc => ?_) fun j b k c _ _ e => e
   · have := lk_mem _ _ _ hv
     simp only [S247, List.mem_cons, Prod.mk.injEq, List.not_mem_nil, or_false] at this
     rcases this with ⟨rfl, rfl⟩ | ⟨rfl, rfl⟩ | ⟨rfl, rfl⟩ | ⟨rfl, rfl⟩
     · exact .inl ⟨by simp, by simp [sc, scL]⟩
     · exact .inl ⟨by simp, by simp [sc]⟩
     · exact .inl ⟨by simp, by simp [sc]⟩
     · exact .inl ⟨by rw [e4]; simp, trivial⟩
   · obtain ⟨h1, h2⟩ := H156_old (show hget (H156 .ready none ns (bacc ns (k + 1))) b = some c from hc)
     exact .inl ⟨h1, h2, hc⟩
 · have hke : k = ns.length / 4 := by omega
   obtain ⟨q, hq, hy⟩ := yield156x ns (bacc ns k) j w (by omega)
   refine E.reg hq (by simp [hwi, hmx, hy]; rfl) ?_
   refine E.cond (t := true) (by simp) (fun _ => ?_) (fun h => by cases h)
   refine E.ret ?_
   refine ⟨.inr rfl, ?_⟩
   rw [F247, if_neg (by omega), ← hke]
   simp [leaveF, shutA, resultsA, Tryz.results247, dropOk]
end Go.Proofs.YtndlfijfjglkdaaGreatDoor

namespace Go.Ab
open Go Go.RowKit
theorem AC.bodyX {P : Program} {f : FuncId} {fn : Func} {c : Code} {args : List Value} {H : Heap} {n : Nat} {Q : Value → Heap → Nat → Prop} (hf : P.funcs[f]? = some fn) (hb : fn.body = some c) (he : enterable P f = true) (hlen : Nat.ble args.length fn.ntmps = true) (vs : List Nat)
   (h : E P n none c { fr := argsFr args 0, sz := fn.ntmps, H, n, marks := [], vs } fun e st => (e = .normal ∨ e = .ret) ∧ ∃ v H' n', leaveF P fn args n st = some (v, H', n') ∧ Q v H' n') : ∃ v H' n', AC P f args H n v H' n' ∧ Q v H' n' := by
 obtain ⟨e, st, hA, hen, v, H', n', hl, hq⟩ := h
 exact ⟨v, H', n', bodyAT_ok hf hb he (Nat.le_of_ble_eq_true hlen) hen (ATX.at hA) hl, hq⟩
end Go.Ab

namespace Go.Proofs.YtndlfijfjglkdaaGreatDoor
open Go Go.Ab Go.Proofs Ieee
theorem w207 {H : Heap} {n : Nat} {oa : Option Addr} {m c : Nat} : AC Tryz.prog 207 [.slice oa m c, iv 4] H n (.func (.func 247) #[] #[.pointer (some ⟨n, 0, none⟩), .pointer (some ⟨n + 1, 0, none⟩)]) ((n + 1, .cells [iv 4] 3) :: (n, .cells [.slice oa m c] 45) :: H) (n + 1 + 1) := by
 have hr := recT_ok (P := Tryz.prog) (l := []) (by simp)
 refine AC.body Tryz.func207 rfl (by kernel_rfl) rfl [0, 1, 2, 3, 4, 6] ?_
 refine E.seq ?_
 refine E.reg hr (by simp; rfl) ?_
 refine E.seq ?_
 refine E.seq ?_
 refine E.reg hr (by simp; rfl) ?_
 refine E.cond (t := false) (by simp) (fun h => by cases h) (fun _ => ?_)
 refine E.skip ?_
 refine E.seq ?_
 refine E.reg hr (by simp [opMakefunc]; rfl) ?_
 refine E.ret ?_
 refine ⟨.inr rfl, ?_⟩
 simp [leaveF, shutA, resultsA, resultA, Tryz.results207, dropOk]
def g207 (args : List Value) (H : Heap) (n : Nat) : R := match args with
 | [.slice oa m c, .int .i64 k] => if k = 4 then some (.func (.func 247) #[] #[.pointer (some ⟨n, 0, none⟩), .pointer (some ⟨n + 1, 0, none⟩)], (n + 1, .cells [iv 4] 3) :: (n, .cells [.slice oa m c] 45) :: H, n + 1 + 1) else none
 | _ => none
theorem ok207 : EntOk Tryz.prog (207, g207) := by
 intro args H n v H' n' h
 simp only [g207] at h
 split at h
 · split at h
   · rename_i hk
     subst hk
     injection h with h; injection h with e1 e2; injection e2 with e2 e3; subst e1 e2 e3
     exact w207
   · cases h
 · cases h
theorem ent247 : enterable Tryz.prog 247 = true := by kernel_rfl
theorem rangeF_exit {P : Program} {r : Rec} {f : Operand} {ps : Array Tmp} {x y : Code} {st : St} {g : FuncId} {first captured : Array Value} {v : Value} {H' : Heap} {k : Nat} {fr : Fr} {sz : Nat} {vs : List Nat} {d : Nat} {a b c : Code} {e : Ex} {st' : St}
   (hf : evO P st.fr f = some (.func (.func g) first captured)) (he : enterable P g = true)
   (hc : r.call g (first.toList ++ [.func (.yield (st.n + 1)) #[] #[]] ++ captured.toList) ((st.n + 1, .loop .ready none st.fr st.sz st.vs ps x y st.n) :: (st.n, .defd) :: st.H) (st.n + 2) = some (v, H', k))
   (hl : hget H' (st.n + 1) = some (.loop .done (some c) fr sz vs ps a b d))
   (h2 : r.code none c { st with H := hset H' (st.n + 1) (.loop .exhausted (some c) fr sz vs ps a b d), n := k, marks := st.n :: st.marks } = some (e, st')) :
   rangeF P r none f ps x y st = some (e, st') := by
 unfold rangeF
 rw [hf]
 simp only [he, hc, hl]
 exact h2
set_option maxRecDepth 100000 in
theorem w156 (ns : List Int) (hl : ns.length ≤ 1024) (hb : inS ns) : ∃ H1 n1, AC Tryz.prog 156 [.slice (some ⟨10, 0, some 0⟩) ns.length 0] [(10, .row (ns.map iv) 1)] 11 (bandV (bacc ns (ns.length / 4))) H1 n1 := by
 have hr := recT_ok (P := Tryz.prog) (l := [(207, g207)]) (by simp only [List.forall_mem_cons]; exact ⟨ok207, by simp⟩)
 have hAC := w247 ns hl hb
 obtain ⟨A, hA⟩ : ∃ A, bacc ns (ns.length / 4) = A := ⟨_, rfl⟩
 obtain ⟨A0, A1, A2⟩ := A
 rw [hA]
 have key : ∃ v H' n', AC Tryz.prog 156 [.slice (some ⟨10, 0, some 0⟩) ns.length 0] [(10, .row (ns.map iv) 1)] 11 v H' n' ∧ v = bandV (A0, A1, A2) := by
   refine AC.bodyX (Q := fun v _ _ => v = bandV (A0, A1, A2)) Tryz.func156 rfl (by kernel_rfl) rfl vs156 ?_
   refine E.seq ?_
   refine E.reg hr (by simp; rfl) ?_
   refine E.seq ?_
   refine E.reg hr (by simp; rfl) ?_
   refine E.seq ?_
   refine E.seq ?_
   refine E.reg hr (by simp [g207]; rfl) ?_
   refine E.block ?_
   refine E.lead { fr := fr156, sz := 80, H := (H156 .ready none ns (0, 0, 0)).drop 2, n := 15, marks := [], vs := vs156 } (.less rfl rfl rfl (by simp) (by simp)) ?_
   by_cases h4 : ns.length % 4 = 0
   · have hF : F247 ns = H156 .ready none ns (A0, A1, A2) := by rw [F247, if_pos h4, hA]
     rw [hF] at hAC
     refine E.range (r := recV Tryz.prog (fun _ _ _ => none) (fun _ _ _ _ => some (.tuple #[], H156 .ready none ns (A0, A1, A2), 17))) recV_ok (rangeF_of rfl ent247 (recV_call rfl hAC) rfl) ?_
     refine E.seq ?_
     refine E.reg hr (by simp; rfl) ?_
     refine E.ret ?_
     exact ⟨.inr rfl, _, _, _, by simp [leaveF, shutA, resultsA, resultA, Tryz.results156, dropOk]; exact ⟨rfl, rfl, rfl⟩, rfl⟩
   · have hF : F247 ns = H156 .done (some (.exit 0)) ns (A0, A1, A2) := by rw [F247, if_neg h4, hA]
     rw [hF] at hAC
     let sx : St := { fr := fr156, sz := 80, H := hset (H156 .done (some (.exit 0)) ns (A0, A1, A2)) 16 (.loop .exhausted (some (.exit 0)) fr156 80 vs156 #[12] asg156 bdy156 15), n := 17, marks := [15], vs := vs156 }
     refine E.range (r := recV Tryz.prog (fun _ c _ => match c with
       | .exit i => some (.exit i, sx)
       | _ => none) (fun _ _ _ _ => some (.tuple #[], H156 .done (some (.exit 0)) ns (A0, A1, A2), 17))) (e := .exit 0) (st' := sx) recV_ok (rangeF_exit rfl ent247 (recV_call rfl hAC) rfl (recV_code (by intro b h; cases h) rfl AT.exit)) ?_
     refine E.seq ?_
     refine E.reg hr (by simp [sx]; rfl) ?_
     refine E.ret ?_
     exact ⟨.inr rfl, _, _, _, by simp [leaveF, shutA, resultsA, resultA, Tryz.results156, dropOk]; exact ⟨rfl, rfl, rfl⟩, rfl⟩
 obtain ⟨v, H1, n1, h1, rfl⟩ := key
 exact ⟨H1, n1, h1⟩
end Go.Proofs.YtndlfijfjglkdaaGreatDoor

namespace Go.Proofs.YtndlfijfjglkdaaGreatDoor
open Go Go.Ab Go.Proofs Ieee
noncomputable abbrev H156n (ls : LoopState) : Heap := [(16, .loop ls none fr156 80 vs156 #[12] asg156 bdy156 15), (15, .defd), (14, .cells [iv 4] 3), (13, .cells [.slice none 0 0] 45), (12, .cells [iv 0, iv 0, iv 0] 50), (11, .cells [iv 0, iv 0, iv 0] 50)]
set_option maxRecDepth 100000 in
theorem w247n : AC Tryz.prog 247 [.func (.yield 16) #[] #[], .pointer (some ⟨13, 0, none⟩), .pointer (some ⟨14, 0, none⟩)] (H156n .ready) 17 (.tuple #[]) (H156n .ready) 17 := by
 have hr := recT_ok (P := Tryz.prog) (l := []) (by simp)
 refine AC.body Tryz.func247 rfl (by kernel_rfl) rfl [0, 1, 2, 4, 5, 9, 30] ?_
 refine E.seq ?_
 refine E.reg hr (by simp; rfl) ?_
 refine E.block ?_
 refine E.loop ?_
 refine EL.ind (fun _ : Nat => { fr := [(0, .func (.yield 16) #[] #[]), (1, .pointer (some ⟨13, 0, none⟩)), (2, .pointer (some ⟨14, 0, none⟩)), (4, iv 0)], sz := 31, H := H156n .ready, n := 17, marks := [], vs := [0, 1, 2, 4, 5, 9, 30] }) (fun k => k) (fun _ => True) 0 (.less rfl rfl rfl (by simp) (by simp)) trivial (fun _ => rfl) ?_
 intro k _
 refine E.seq ?_
 refine E.seq ?_
 refine E.reg hr (by simp; rfl) ?_
 refine E.cond (t := false) (by simp) (fun h => by cases h) (fun _ => ?_)
 refine E.exit ?_
 refine ⟨.inl rfl, ?_⟩
 simp [leaveF, shutA, resultsA, Tryz.results247, dropOk]
set_option maxRecDepth 100000 in
theorem w156n : ∃ H1 n1, AC Tryz.prog 156 [.slice none 0 0] [] 10 (bandV (0, 0, 0)) H1 n1 := by
 have hr := recT_ok (P := Tryz.prog) (l := [(207, g207)]) (by simp only [List.forall_mem_cons]; exact ⟨ok207, by simp⟩)
 have hAC := w247n
 have key : ∃ v H' n', AC Tryz.prog 156 [.slice none 0 0] [] 10 v H' n' ∧ v = bandV (0, 0, 0) := by
   refine AC.bodyX (Q := fun v _ _ => v = bandV (0, 0, 0)) Tryz.func156 rfl (by kernel_rfl) rfl vs156 ?_
   refine E.lead { fr := [(0, .slice none 0 0)], sz := 80, H := [], n := 11, marks := [], vs := vs156 } (Leads.renM id (fun _ _ => rfl) (by show 10 ≤ 11; omega) rfl ⟨rfl, rfl⟩ (fun t v hv => .inl ?_) (fun k b hk => by cases hk) fun j b k c _ _ e => e) ?_
   · have := lk_mem _ _ _ hv
     simp only [List.mem_cons, Prod.mk.injEq, List.not_mem_nil, or_false] at this
     obtain ⟨rfl, rfl⟩ := this
     exact ⟨by rfl, trivial⟩
   refine E.seq ?_
   refine E.reg hr (by simp; rfl) ?_
   refine E.seq ?_
   refine E.reg hr (by simp; rfl) ?_
   refine E.seq ?_
   refine E.seq ?_
   refine E.reg hr (by simp [g207]; rfl) ?_
   refine E.block ?_
   refine E.lead { fr := fr156, sz := 80, H := (H156n .ready).drop 2, n := 15, marks := [], vs := vs156 } (.less rfl rfl rfl (by simp) (by simp)) ?_
   refine E.range (r := recV Tryz.prog (fun _ _ _ => none) (fun _ _ _ _ => some (.tuple #[], H156n .ready, 17))) recV_ok (rangeF_of rfl ent247 (recV_call rfl hAC) rfl) ?_
   refine E.seq ?_
   refine E.reg hr (by simp; rfl) ?_
   refine E.ret ?_
   exact ⟨.inr rfl, _, _, _, by simp [leaveF, shutA, resultsA, resultA, Tryz.results156, dropOk]; exact ⟨rfl, rfl, rfl⟩, rfl⟩
 obtain ⟨v, H1, n1, h1, rfl⟩ := key
 exact ⟨H1, n1, h1⟩
def g156 (args : List Value) (H : Heap) (n : Nat) : R := match args with
 | [.slice (some ⟨b, 0, some 0⟩) len 0] => match rowOf H b with
   | some (cs, 1) => match intsOf cs with
     | some ns => if len = ns.length ∧ ns.length ≤ 1024 ∧ inS ns then some (bandV (bacc ns (ns.length / 4)), H, n) else none
     | none => none
   | _ => none
 | [.slice none 0 0] => some (bandV (0, 0, 0), H, n)
 | _ => none
theorem ok156 : EntOk Tryz.prog (156, g156) := by
 intro args H n v H' n' h'
 simp only [g156] at h'
 split at h'
 · split at h'
   · rename_i cs hb
     split at h'
     · rename_i ns hn
       split at h'
       · rename_i hc
         obtain ⟨rfl, h2, h3⟩ := hc
         injection h' with h'; injection h' with e1 e2; injection e2 with e2 e3; subst e1 e2 e3
         have := intsOf_ok _ _ hn
         subst this
         exact AC.liftP rfl (Part.row (fun x => [x]) (by intro φ φ0 s s0 h; simp [denL, h]) (by intro p s h; exact ⟨h, trivial⟩) hb (afL_iv ns) gsz (w156 ns h2 h3))
       · cases h'
     · cases h'
   · cases h'
 · injection h' with h'; injection h' with e1 e2; injection e2 with e2 e3; subst e1 e2 e3
   exact AC.liftP rfl (Part.plain (by simp) [] (by simp [Seen]) gsz w156n)
 · cases h'
end Go.Proofs.YtndlfijfjglkdaaGreatDoor

namespace Go.Proofs.YtndlfijfjglkdaaGreatDoor
open Go Go.Ab Go.Proofs Ieee
def sixN (fs : List Nat) : Int × Int × Int := bacc (fs.map six32) (fs.length / 4)
def bandE (fs : List Nat) : Value := if chkV 1024 fs = 0 then .tuple #[bandV (sixN fs), iv 0] else .tuple #[bandV (0, 0, 0), iv (chkV 1024 fs)]
theorem chkV_zero {m : Int} {fs : List Nat} (h : chkV m fs = 0) : (fs.length : Int) ≤ m ∧ ∀ b ∈ fs, good32 b = true := by
 unfold chkV at h
 split at h
 · cases h
 · rename_i h1
   exact ⟨by omega, fun b hb => good_of ((firstV_zero _).1 h _ (List.mem_map.2 ⟨b, hb, rfl⟩))⟩
theorem six_in {fs : List Nat} (h : ∀ b ∈ fs, good32 b = true) : inS (fs.map six32) := fun x hx => by
 obtain ⟨b, hb, rfl⟩ := List.mem_map.1 hx
 have := (good_six (h b hb)).2
 omega
theorem g156_out {X : Heap} {N m : Nat} {fs : List Nat} (hl : fs.length ≤ 1024) (h : ∀ b ∈ fs, good32 b = true) : g156 [outS N fs.length] (outSB N 3 1 fs.length (sixL fs) ++ X) m = some (bandV (sixN fs), outSB N 3 1 fs.length (sixL fs) ++ X, m) := by
 by_cases h0 : fs.length = 0
 · have : fs = [] := List.length_eq_zero_iff.1 h0
   subst this
   rfl
 · have hr : rowOf (outSB N 3 1 fs.length (sixL fs) ++ X) N = some ((fs.map six32).map iv, 1) := by
     rw [outSB, if_neg h0, List.cons_append, rowOf, hget_cons, if_pos rfl, sixL_eq]
   rw [outS_ne h0]
   simp only [g156, hr, intsOf_iv]
   rw [if_pos ⟨by rw [List.length_map], by rw [List.length_map]; exact hl, six_in h⟩, sixN, List.length_map]
set_option maxRecDepth 20000 in
theorem w80 {H : Heap} {n : Nat} {u : Value} {fs : List Nat} (hV : fltV H u = some fs) : AC Tryz.prog 80 [u] H n (bandE fs) H n := by
 refine AC.given fun hold hsc hgn => AC.tidied (B := []) (by simp) ?_
 have hlt0 := fun k b h => (hold k b h).1
 replace hV : fltV (tidy n H) u = some fs := listV_tidy decFl_tidy hlt0 hV
 have hr := recT_ok (P := Tryz.prog) (l := [(155, g155), (153, g153), (156, g156)]) (by simp only [List.forall_mem_cons]; exact ⟨ok155, ok153, ok156, by simp⟩)
 obtain ⟨oa, c, rfl, hlt, _, _⟩ := fltV_form hV
 obtain ⟨X0, hX0⟩ : ∃ X0, (n, Blk.cells [iv 0, iv 0, iv 0] 50) :: tidy n H = X0 := ⟨_, rfl⟩
 have hS0 : Sub (tidy n H) X0 := by rw [← hX0]; exact Sub.cons (by simp) (Sub.refl _)
 have hnm0 : namesOk (n + 1) X0 = true := by rw [← hX0]; exact namesOk_put (by omega) (namesOk_mono (by omega) _ namesOk_tidy)
 have hV0 : fltV X0 (.slice oa fs.length c) = some fs := listV_mono decFl_mono hS0 hV
 obtain ⟨e, he⟩ : ∃ e, chkV 1024 fs = e := ⟨_, rfl⟩
 have h155 : ∀ m, g155 [.slice oa fs.length c, iv 1024] X0 m = some (iv e, X0, m) := fun m => by simp only [g155, hV0]; rw [← he]; rfl
 have hres : bandE fs = if e = 0 then .tuple #[bandV (sixN fs), iv 0] else .tuple #[bandV (0, 0, 0), iv e] := by rw [bandE, he]
 rw [hres]
 refine AC.pure Tryz.func80 rfl (by kernel_rfl) rfl [0, 2, 3, 4, 8] (by split <;> rfl) ?_
 refine E.seq ?_
 refine E.reg hr (by simp; rfl) ?_
 rw [hX0]
 refine E.seq ?_
 refine E.seq ?_
 refine E.reg hr (by simp [h155]; rfl) ?_
 refine E.seq ?_
 refine E.reg hr (by simp; rfl) ?_
 by_cases hz : e = 0
 case neg =>
   rw [if_neg hz]
   refine E.cond (t := true) (by simp [hz]) (fun _ => ?_) (fun h => by cases h)
   refine E.seq ?_
   rw [← hX0]
   refine E.reg hr (by simp [build50]; rfl) ?_
   refine E.ret ?_
   exact pureK.ret rfl (by simp [resultsA, resultA]; rfl) rfl (Sub.cons (by simp) (Sub.refl _))
 rw [if_pos hz]
 obtain ⟨hl, hg⟩ := chkV_zero (he.trans hz)
 have hSm := allSm_of hg
 have h153 : g153 [.slice oa fs.length c] X0 (n + 1) = some (outS (n + 1) fs.length, outSB (n + 1) 3 1 fs.length (sixL fs) ++ X0, n + 1 + 1) := by
   simp only [g153, hV0]
   rw [if_pos hSm]
 have h156 := fun m => g156_out (X := X0) (N := n + 1) (m := m) (fs := fs) (by omega) hg
 obtain ⟨ov, hov⟩ : ∃ v, outS (n + 1) fs.length = v := ⟨_, rfl⟩
 rw [hov] at h153 h156
 obtain ⟨X1, hX1⟩ : ∃ X1, outSB (n + 1) 3 1 fs.length (sixL fs) ++ X0 = X1 := ⟨_, rfl⟩
 rw [hX1] at h153 h156
 have hS1 : Sub X0 X1 := by rw [← hX1]; exact Sub.app (fun x hx => namesOk_none hnm0 _ (outSB_ge x hx)) (Sub.refl _)
 have hn : hget X1 n = some (.cells [iv 0, iv 0, iv 0] 50) := hS1 _ _ (by rw [← hX0, hget_cons, if_pos rfl])
 obtain ⟨p, hp⟩ : ∃ p, sixN fs = p := ⟨_, rfl⟩
 obtain ⟨p0, p1, p2⟩ := p
 rw [hp] at h156
 rw [hp]
 have hst : storeA X1 n 0 [iv p0, iv p1, iv p2] = some (hset X1 n (.cells [iv p0, iv p1, iv p2] 50)) := by
   unfold storeA
   rw [hn]
   rfl
 have hrd : cellsA (hset X1 n (.cells [iv p0, iv p1, iv p2] 50)) n 0 3 = some [iv p0, iv p1, iv p2] := by
   rw [cellsA_eq, hget_set, if_pos rfl, hn]
   rfl
 refine E.cond (t := false) (by simp [hz]) (fun h => by cases h) (fun _ => ?_)
 refine E.skip ?_
 refine E.seq ?_
 refine E.reg hr (by simp [-storeA, h153, h156, bandV, hst]; rfl) ?_
 refine E.ret ?_
 refine pureK.ret rfl (by simp [-cellsA, resultsA, resultA, hrd]; rfl) rfl fun k b hk => ?_
 have := tidy_lt k b hk
 rw [hget_set, if_neg (by omega)]
 exact hS1 _ _ (hS0 _ _ hk)
def g80 (args : List Value) (H : Heap) (n : Nat) : R := match args with
 | [u] => (fltV H u).map fun fs => (bandE fs, H, n)
 | _ => none
theorem ok80 : EntOk Tryz.prog (80, g80) := by
 intro args H n v H' n' h
 simp only [g80] at h
 split at h
 · rw [Option.map_eq_some_iff] at h
   obtain ⟨l, h1, h⟩ := h
   injection h with e1 e2; injection e2 with e2 e3; subst e1 e2 e3
   exact w80 h1
 · cases h
end Go.Proofs.YtndlfijfjglkdaaGreatDoor

namespace Go.Proofs.YtndlfijfjglkdaaGreatDoor
open Go Go.Ab Go.Proofs Go.Soft
end Go.Proofs.YtndlfijfjglkdaaGreatDoor

namespace Go.Proofs.YtndlfijfjglkdaaGreatDoor
open Go Go.Ab Go.Proofs Go.Soft
end Go.Proofs.YtndlfijfjglkdaaGreatDoor

namespace Go.Proofs.YtndlfijfjglkdaaGreatDoor
open Go Go.Ab Go.Proofs Go.Soft Ieee
def goOn (l : List Gun) (d : ByteArray) (m : Nat) : Prop := shortS l = true ∧ (l.length ≤ 4 ∨ 8 < l.length) ∧ d.size ≤ 20 ∧ (m ≤ 32 ∨ m = 65)
set_option maxRecDepth 20000 in
set_option maxHeartbeats 2000000 in
theorem w12e {H : Heap} {n m c : Nat} {v : Value} {oa : Option Addr} {l : List Gun} {d : ByteArray} (g0 : hget H 0 = some (.inp 0 names0)) (g3 : hget H 3 = some (.inp 0 tab3)) (hs : strAt H (.agg ⟨[v]⟩) = some l) (hno : ¬ goOn l d m) : AC Tryz.prog 12 [.agg ⟨[v]⟩, sv d, .slice oa m c] H n (.bool true) H n := by
 refine AC.given fun hold _ _ => AC.tidied (B := []) (by simp) ?_
 have hlt0 := fun k b h => (hold k b h).1
 replace g0 : hget (tidy n H) 0 = some (.inp 0 names0) := hget_tidy.2 ⟨g0, hlt0 _ _ g0, rfl⟩
 replace g3 : hget (tidy n H) 3 = some (.inp 0 tab3) := hget_tidy.2 ⟨g3, hlt0 _ _ g3, rfl⟩
 replace hs := strAt_tidy hlt0 hs
 have hr := recT_ok (P := Tryz.prog) (l := [(18, g18), (19, gStr fun l => .bool (shortS l)), (76, g76)]) (by simp only [List.forall_mem_cons]; exact ⟨ok18, ok19, ok76, by simp⟩)
 obtain ⟨X0, hX0⟩ : ∃ X0, (n, Blk.cells [v] 24) :: tidy n H = X0 := ⟨_, rfl⟩
 have hS0 : Sub (tidy n H) X0 := by rw [← hX0]; exact Sub.cons (by simp) (Sub.refl _)
 have hb0 : hget X0 n = some (.cells [v] 24) := by rw [← hX0, hget_cons, if_pos rfl]
 have h18 : ∀ m, g18 [] X0 m = some (.bool true, X0, m) := fun m => by
   unfold g18
   rw [if_pos ⟨rfl, hS0 _ _ g3, hS0 _ _ g0⟩]
 have hc0 : cellsA X0 n 0 1 = some [v] := by rw [cellsA_eq, hb0]; rfl
 have hs0 := strAt_mono hS0 hs
 have h19 : ∀ m, gStr (fun l => .bool (shortS l)) [.agg ⟨[v]⟩] X0 m = some (.bool (shortS l), X0, m) := fun m => by
   simp only [gStr, hs0, Option.map_some]
 have h76 : ∀ m, g76 [.agg ⟨[v]⟩] X0 m = some (.bool (decide (l.length ≤ 4)), X0, m) := fun m => by
   simp only [g76, hs0, Option.map_some]
 obtain ⟨oa', c', ev⟩ := strAt_form hs
 injection ev with ev
 injection ev with ev
 injection ev with ev
 subst ev
 have hc1 : cellA X0 n 0 = some (.slice oa' l.length c') := by rw [cellA_eq, hb0]; rfl
 refine AC.pure Tryz.func12 rfl (by kernel_rfl) rfl [0, 1, 2, 3, 6, 56] rfl ?_
 refine E.seq ?_
 refine E.reg hr (by simp; rfl) ?_
 rw [hX0]
 refine E.seq ?_
 refine E.seq ?_
 cases hsh : shortS l with
 | false =>
   rw [hsh] at h19
   refine E.reg hr (by simp [-cellsA, h18, hc0, h19, undefV]; rfl) ?_
   refine E.cond (t := true) (by simp) (fun _ => ?_) (fun h => by cases h)
   refine E.seq ?_
   refine E.reg hr (by simp [h18]; rfl) ?_
   refine E.ret ?_
   exact pureK.ret rfl rfl (by simp) hS0
 | true =>
 rw [hsh] at h19
 by_cases hin : l.length ≤ 4 ∨ 8 < l.length
 case neg =>
   have h8 : l.length ≤ 8 := by omega
   have h8I : (l.length : Int) ≤ 8 := by omega
   rw [decide_eq_false (by omega)] at h76
   refine E.reg hr (by simp [-cellsA, -cellA, h18, hc0, hc1, h19, h76, h8I, undefV]; rfl) ?_
   refine E.cond (t := true) (by simp; try omega) (fun _ => ?_) (fun h => by cases h)
   refine E.seq ?_
   refine E.reg hr (by simp [h18]; rfl) ?_
   refine E.ret ?_
   exact pureK.ret rfl rfl (by simp) hS0
 obtain ⟨fb, hfb⟩ : ∃ fb, decide (l.length ≤ 4) = fb := ⟨_, rfl⟩
 rw [hfb] at h76
 by_cases hd : d.size ≤ 20
 case neg =>
   have hd' : (20 : Int) < d.size := by omega
   have hd2 : 20 < d.size := by omega
   cases fb with
   | true =>
     refine E.reg hr (by simp [-cellsA, -cellA, h18, hc0, h19, h76, hd', undefV]; rfl) ?_
     refine E.cond (t := true) (by simp; try omega) (fun _ => ?_) (fun h => by cases h)
     refine E.seq ?_
     refine E.reg hr (by simp [h18]; rfl) ?_
     refine E.ret ?_
     exact pureK.ret rfl rfl (by simp) hS0
   | false =>
     have h8 : ¬ l.length ≤ 8 := by have := of_decide_eq_false hfb; omega
     have h8I : ¬ (l.length : Int) ≤ 8 := by omega
     refine E.reg hr (by simp [-cellsA, -cellA, h18, hc0, hc1, h19, h76, h8I, hd', undefV]; rfl) ?_
     refine E.cond (t := true) (by simp; try omega) (fun _ => ?_) (fun h => by cases h)
     refine E.seq ?_
     refine E.reg hr (by simp [h18]; rfl) ?_
     refine E.ret ?_
     exact pureK.ret rfl rfl (by simp) hS0
 have hm : ¬ (m ≤ 32 ∨ m = 65) := fun h => hno ⟨hsh, hin, hd, h⟩
 have hd' : ¬ (20 : Int) < d.size := by omega
 have hd2 : ¬ 20 < d.size := by omega
 have hm1 : 32 < m := by omega
 have hm1I : (32 : Int) < m := by omega
 have hm2 : ¬ m = 65 := by omega
 have hm2I : ¬ (m : Int) = 65 := by omega
 cases fb with
 | true =>
   refine E.reg hr (by simp [-cellsA, -cellA, h18, hc0, h19, h76, hd', hm1I, hm2I, undefV]; rfl) ?_
   refine E.cond (t := true) (by simp; try omega) (fun _ => ?_) (fun h => by cases h)
   refine E.seq ?_
   refine E.reg hr (by simp [h18]; rfl) ?_
   refine E.ret ?_
   exact pureK.ret rfl rfl (by simp) hS0
 | false =>
   have h8 : ¬ l.length ≤ 8 := by have := of_decide_eq_false hfb; omega
   have h8I : ¬ (l.length : Int) ≤ 8 := by omega
   refine E.reg hr (by simp [-cellsA, -cellA, h18, hc0, hc1, h19, h76, h8I, hd', hm1I, hm2I]; rfl) ?_
   refine E.cond (t := true) (by simp; try omega) (fun _ => ?_) (fun h => by cases h)
   refine E.seq ?_
   refine E.reg hr (by simp [h18]; rfl) ?_
   refine E.ret ?_
   exact pureK.ret rfl rfl (by simp) hS0
end Go.Proofs.YtndlfijfjglkdaaGreatDoor

namespace Go.Proofs.YtndlfijfjglkdaaGreatDoor
open Go Go.Ab Go.Proofs Go.Soft Ieee
def outI (l : List Gun) (d : ByteArray) (fs : List Nat) : Int × Bool := match firstOut (fs.map six32) (encL l d fs.length) with
 | some i => (i, true)
 | none => (0, false)
theorem outE_zero {l : List Gun} {d : ByteArray} {fs : List Nat} (h : listE l d fs = 0) : outE l d fs = .tuple #[iv (outI l d fs).1, .bool (outI l d fs).2, iv 0] := by
 rw [outE, if_pos h, outI, outV]
 cases firstOut (fs.map six32) (encL l d fs.length) with
 | none => rfl
 | some i =>
   have h1 : max (0 : Int) (i : Int) = i := by omega
   have h2 : decide ((0 : Int) ≤ (i : Int)) = true := decide_eq_true (by omega)
   simp only [h1, h2]
theorem outR_eq (l : List Gun) (d : ByteArray) (fs : List Nat) : outR (firstOut (fs.map six32) (encL l d fs.length)) = .tuple #[iv (outI l d fs).1, .bool (outI l d fs).2] := by
 rw [outI]
 cases firstOut (fs.map six32) (encL l d fs.length) <;> rfl
theorem outE_err {l : List Gun} {d : ByteArray} {fs : List Nat} (h : listE l d fs ≠ 0) : outE l d fs = .tuple #[iv 0, .bool false, iv (listE l d fs)] := by
 rw [outE, if_neg h]
theorem explE_zero {l : List Gun} {d : ByteArray} {fs : List Nat} (h : listE l d fs = 0) : explE l d fs = refK l d fs := by
 obtain ⟨h1, _, h3, h4⟩ := listE_zero h
 rw [explE, if_pos h, refK, expl_ref h1 h4 h3]
theorem explE_err {l : List Gun} {d : ByteArray} {fs : List Nat} (h : listE l d fs ≠ 0) : explE l d fs = ([], listE l d fs) := by
 rw [explE, if_neg h]
theorem refK_len {l : List Gun} {d : ByteArray} {fs : List Nat} (h : listE l d fs = 0) : ((refK l d fs).2 = 0 ∧ (refK l d fs).1.length = l.length) ∨ ((refK l d fs).2 = 18 ∧ (refK l d fs).1 = []) := by
 rw [← explE_zero h, explE, if_pos h]
 cases hx : expl l d fs.length l.length (fs.map six32) with
 | none => exact .inr ⟨rfl, rfl⟩
 | some ys => exact .inl ⟨rfl, expl_len _ _ _ hx⟩
theorem bandE_zero {fs : List Nat} (h : chkV 1024 fs = 0) : bandE fs = .tuple #[bandV (sixN fs), iv 0] := by rw [bandE, if_pos h]
theorem bandE_err {fs : List Nat} (h : chkV 1024 fs ≠ 0) : bandE fs = .tuple #[bandV (0, 0, 0), iv (chkV 1024 fs)] := by rw [bandE, if_neg h]
end Go.Proofs.YtndlfijfjglkdaaGreatDoor

namespace Go.Proofs.YtndlfijfjglkdaaGreatDoor
open Go Go.Ab Go.Proofs Go.Soft Ieee
theorem E.seqP {P : Program} {n0 : Nat} {ro : Option Nat} {a b : Code} {st : St} {K : Ex → St → Prop} (Q : St → Prop) (h1 : E P n0 ro a st fun e st' => e = .normal ∧ Q st') (h2 : ∀ st', Q st' → E P n0 ro b st' K) : E P n0 ro (.seq a b) st K :=
 E.seq (h1.mono fun e st' hh => by
   obtain ⟨he, hq⟩ := hh
   subst he
   exact h2 st' hq)
theorem own_str {H : Heap} {n : Nat} {v : Value} {l : List Gun} (h : strAt H (.agg ⟨[v]⟩) = some l) (hl : l.length ≤ 4096) (hn : namesOk n H = true) (hp : plainH H = true) : ∃ x Y N, g21 [.agg ⟨[v]⟩] H n = some (x, Y, N) ∧ OwnS Y x l ∧ Sub H Y ∧ n ≤ N ∧ namesOk N Y = true ∧ plainH Y = true := by
 by_cases h0 : l = []
 · subst h0
   exact ⟨_, _, _, strAt_nil h, .inr ⟨rfl, rfl⟩, Sub.refl _, Nat.le_refl _, hn, hp⟩
 · refine ⟨_, _, _, strAt_own h h0 hl, .inl ⟨_, rfl, own_row h0 hl⟩, Sub.cons (namesOk_none hn _ (Nat.le_refl _)) (Sub.refl _), Nat.le_succ _, namesOk_put (by omega) (namesOk_mono (by omega) _ hn), by rw [plainH, hp]; rfl⟩
theorem own_flt {H : Heap} {n : Nat} {u : Value} {fs : List Nat} (h : fltV H u = some fs) (hn : namesOk n H = true) (hp : plainH H = true) : ∃ x Y N, g78 [u] H n = some (x, Y, N) ∧ fltV Y x = some fs ∧ Sub H Y ∧ n ≤ N ∧ namesOk N Y = true ∧ plainH Y = true := by
 have hlt : fs.length < 2147483648 := by
   obtain ⟨_, _, _, h1, _⟩ := fltV_form h
   exact h1
 have e : g78 [u] H n = some (kF.val n fs, (n, kF.blk fs) :: H, n + 1) := by simp only [g78, h]; rfl
 refine ⟨_, _, _, e, kF.see _ n fs (by rw [hget_cons, if_pos rfl]) hlt, Sub.cons (namesOk_none hn _ (Nat.le_refl _)) (Sub.refl _), Nat.le_succ _, namesOk_put (by omega) (namesOk_mono (by omega) _ hn), ?_⟩
 rw [plainH, hp, Bool.and_true]
 show plainB2 (if fs.length = 0 then _ else _) = true
 split <;> rfl
end Go.Proofs.YtndlfijfjglkdaaGreatDoor

namespace Go.Proofs.YtndlfijfjglkdaaGreatDoor
open Go Go.Ab Go.Proofs Go.Soft Ieee
theorem eq_bool {x y : Operand} (b : Bool) (H : Heap) (n : Nat) : binV Tryz.prog .eql 4 x y (.bool b) (.bool b) H n = some (.bool true, H, n) := by
 cases b <;> kernel_rfl
set_option maxRecDepth 20000 in
set_option maxHeartbeats 4000000 in
theorem w12m {H : Heap} {n : Nat} {v u : Value} {l : List Gun} {d : ByteArray} {fs : List Nat} (g0 : hget H 0 = some (.inp 0 names0)) (g3 : hget H 3 = some (.inp 0 tab3)) (hs : strAt H (.agg ⟨[v]⟩) = some l) (hV : fltV H u = some fs) (hgo : goOn l d fs.length) : AC Tryz.prog 12 [.agg ⟨[v]⟩, sv d, u] H n (.bool true) H n := by
 refine AC.given fun hold _ _ => AC.tidied (B := []) (by simp) ?_
 have hlt0 := fun k b h => (hold k b h).1
 replace g0 : hget (tidy n H) 0 = some (.inp 0 names0) := hget_tidy.2 ⟨g0, hlt0 _ _ g0, rfl⟩
 replace g3 : hget (tidy n H) 3 = some (.inp 0 tab3) := hget_tidy.2 ⟨g3, hlt0 _ _ g3, rfl⟩
 replace hs := strAt_tidy hlt0 hs
 replace hV : fltV (tidy n H) u = some fs := listV_tidy decFl_tidy hlt0 hV
 obtain ⟨hsh, hin, hd, hm⟩ := hgo
 have hr := recT_ok (P := Tryz.prog) (l := [(18, g18), (19, gStr fun l => .bool (shortS l)), (76, g76), (21, g21), (78, g78), (77, g77), (79, g79), (80, g80), (24, gStr fun l => iv (strE l)), (29, gSI dirE), (81, gErr lstV), (27, g113), (82, gErr (chkV 1024)), (83, g83), (84, g84), (85, gSix), (86, g86), (32, g32), (51, g51)]) (by simp only [List.forall_mem_cons]; exact ⟨ok18, ok19, ok76, ok21, ok78, ok77, ok79, ok80, ok24, ok29, ok81, ok27, ok82, ok83, ok84, ok85, ok86, ok32, ok51, by simp⟩)
 obtain ⟨X0, hX0⟩ : ∃ X0, (n, Blk.cells [v] 24) :: tidy n H = X0 := ⟨_, rfl⟩
 have hS0 : Sub (tidy n H) X0 := by rw [← hX0]; exact Sub.cons (by simp) (Sub.refl _)
 have hn0 : namesOk (n + 1) X0 = true := by rw [← hX0]; exact namesOk_put (Nat.lt_succ_self n) (by simp)
 have hp0 : plainH X0 = true := by rw [← hX0]; simp [plainH]
 have hb0 : hget X0 n = some (.cells [v] 24) := by rw [← hX0, hget_cons, if_pos rfl]
 have h18 : ∀ m, g18 [] X0 m = some (.bool true, X0, m) := fun m => by
   unfold g18
   rw [if_pos ⟨rfl, hS0 _ _ g3, hS0 _ _ g0⟩]
 have hc0 : cellsA X0 n 0 1 = some [v] := by rw [cellsA_eq, hb0]; rfl
 have hs0 := strAt_mono hS0 hs
 have h19 : ∀ m, gStr (fun l => .bool (shortS l)) [.agg ⟨[v]⟩] X0 m = some (.bool true, X0, m) := fun m => by
   simp only [gStr, hs0, Option.map_some, hsh]
 have h76 : ∀ m, g76 [.agg ⟨[v]⟩] X0 m = some (.bool (decide (l.length ≤ 4)), X0, m) := fun m => by
   simp only [g76, hs0, Option.map_some]
 obtain ⟨oa', c', ev⟩ := strAt_form hs
 injection ev with ev
 injection ev with ev
 injection ev with ev
 subst ev
 obtain ⟨oa, c, rfl, hlt, _, hrow⟩ := fltV_form hV
 have hl9 := shortS_small hsh
 have hc1 : cellA X0 n 0 = some (.slice oa' l.length c') := by rw [cellA_eq, hb0]; rfl
 have hV0 : fltV X0 (.slice oa fs.length c) = some fs := listV_mono decFl_mono hS0 hV
 -- Outside, of the program
 obtain ⟨x1, Y1, N1, a1, a2, a3, a4, a5, a6⟩ := own_str hs0 (by omega) hn0 hp0
 obtain ⟨u1, Y2, N2, b1, b2, b3, b4, b5, b6⟩ := own_flt (listV_mono decFl_mono a3 hV0) a5 a6
 have hT2 : Sub (tidy n H) Y2 := hS0.trans (a3.trans b3)
 have c1 : ∀ m, g77 [x1, sv d, u1] Y2 m = some (outE l d fs, Y2, m) := fun m => g77_at (hT2 _ _ g0) (a2.mono b3) b2
 -- Explain, of the program
 have hs2 := strAt_mono hT2 hs
 obtain ⟨x3, Y3, N3, d1, d2, d3, d4, d5, d6⟩ := own_str hs2 (by omega) b5 b6
 obtain ⟨u4, Y4, N4, e1, e2, e3, e4, e5, e6⟩ := own_flt (listV_mono decFl_mono (hT2.trans d3) hV) d5 d6
 have hT4 : Sub (tidy n H) Y4 := hT2.trans (d3.trans e3)
 obtain ⟨Y5, hY5⟩ : ∃ Y5, exK N4 (explE l d fs).1 ++ Y4 = Y5 := ⟨_, rfl⟩
 have f1 : g79 [x3, sv d, u4] Y4 N4 = some (exU N4 (explE l d fs).1 (explE l d fs).2, Y5, N4 + 1) := by
   rw [← hY5]
   exact g79_at (hT4 _ _ g0) (d2.mono e3) e2
 have f2 : Sub Y4 Y5 := by
   rw [← hY5]
   unfold exK
   split
   · exact Sub.refl _
   · exact Sub.cons (namesOk_none e5 _ (Nat.le_refl _)) (Sub.refl _)
 have hb : ∀ {X : Heap}, Sub X0 X → cellsA X n 0 1 = some [.slice oa' l.length c'] := fun h => h.cells hc0
 have hc2 := hb (a3.trans b3)
 refine AC.pure Tryz.func12 rfl (by kernel_rfl) rfl [0, 1, 2, 3, 6, 7, 8, 9, 10, 11, 12, 13, 14, 15, 16, 17, 18, 19, 20, 21, 23, 56, 95, 111, 112, 113, 114, 115] rfl ?_
 refine E.seq ?_
 refine E.reg hr (by simp; rfl) ?_
 rw [hX0]
 refine E.seq ?_
 have hd' : ¬ (20 : Int) < d.size := by omega
 have hd2 : ¬ 20 < d.size := by omega
 refine E.cut { fr := [(1, sv d), (2, .slice oa fs.length c), (3, .pointer (some ⟨n, 0, none⟩)), (6, .bool false), (56, .bool false)], sz := 153, H := X0, n := n + 1, marks := [], vs := [0, 1, 2, 3, 6, 7, 8, 9, 10, 11, 12, 13, 14, 15, 16, 17, 18, 19, 20, 21, 23, 56, 95, 111, 112, 113, 114, 115] } ?_ ?_
 · obtain ⟨fb, hfb⟩ : ∃ fb, decide (l.length ≤ 4) = fb := ⟨_, rfl⟩
   rw [hfb] at h76
   by_cases hm1 : fs.length ≤ 32
   · have hm2 : ¬ 32 < fs.length := by omega
     have hm2I : ¬ (32 : Int) < fs.length := by omega
     cases fb with
     | true =>
       refine E.reg hr (by simp [-cellsA, -cellA, h18, hc0, h19, h76, hd', hm2I, undefV]; rfl) ?_
       exact .keep rfl rfl rfl (by simp; try omega) (Sub.refl _)
     | false =>
       have h8 : ¬ l.length ≤ 8 := by have := of_decide_eq_false hfb; omega
       have h8I : ¬ (l.length : Int) ≤ 8 := by omega
       refine E.reg hr (by simp [-cellsA, -cellA, h18, hc0, hc1, h19, h76, h8I, hd', hm2I, undefV]; rfl) ?_
       exact .keep rfl rfl rfl (by simp; try omega) (Sub.refl _)
   · have hm2 : 32 < fs.length := by omega
     have hm2I : (32 : Int) < fs.length := by omega
     have hm3 : fs.length = 65 := by omega
     have hm3I : (fs.length : Int) = 65 := by omega
     cases fb with
     | true =>
       refine E.reg hr (by simp [-cellsA, -cellA, h18, hc0, h19, h76, hd', hm2I, undefV]; rfl) ?_
       exact .keep rfl rfl rfl (by simp; try omega) (Sub.refl _)
     | false =>
       have h8 : ¬ l.length ≤ 8 := by have := of_decide_eq_false hfb; omega
       have h8I : ¬ (l.length : Int) ≤ 8 := by omega
       refine E.reg hr (by simp [-cellsA, -cellA, h18, hc0, hc1, h19, h76, h8I, hd', hm2I]; rfl) ?_
       exact .keep rfl rfl rfl (by simp; try omega) (Sub.refl _)
 refine E.cond (t := false) (by simp) (fun h => by cases h) (fun _ => ?_)
 refine E.skip ?_
 have outv : ∃ (i : Int) (b : Bool) (e : Int), outE l d fs = .tuple #[iv i, .bool b, iv e] := by
   by_cases h : listE l d fs = 0
   · exact ⟨_, _, _, outE_zero h⟩
   · exact ⟨_, _, _, outE_err h⟩
 obtain ⟨oi, ob, oe, ho⟩ := outv
 rw [ho] at c1
 refine E.seq ?_
 refine E.reg hr (by simp [-cellsA, hc0, a1, b1, c1]; rfl) ?_
 obtain ⟨xs, hxs⟩ : ∃ xs, (explE l d fs).1 = xs := ⟨_, rfl⟩
 obtain ⟨xe, hxe⟩ : ∃ xe, (explE l d fs).2 = xe := ⟨_, rfl⟩
 rw [hxs, hxe] at f1
 rw [hxs] at hY5
 obtain ⟨xv, hxv⟩ : ∃ xv, exV N4 xs.length = xv := ⟨_, rfl⟩
 rw [exU, hxv] at f1
 refine E.seq ?_
 refine E.reg hr (by simp [-cellsA, hc2, d1, e1, f1]; rfl) ?_
 -- Bands, of the program
 have e7 : N4 ≤ N4 + 1 := Nat.le_succ _
 have f3 : namesOk (N4 + 1) Y5 = true := by
   rw [← hY5]
   unfold exK
   split
   · exact namesOk_mono e7 _ e5
   · exact namesOk_put (by omega) (namesOk_mono e7 _ e5)
 have f4 : plainH Y5 = true := by
   rw [← hY5]
   unfold exK
   split
   · exact e6
   · show (plainB2 (exB xs) && plainH Y4) = true
     rw [(exB_ok xs).2.2.2.2, e6]
     rfl
 have hT5 : Sub (tidy n H) Y5 := hT4.trans f2
 obtain ⟨u6, Y6, N6, i1, i2, i3, i4, i5, i6⟩ := own_flt (listV_mono decFl_mono hT5 hV) f3 f4
 have bv : ∃ (p0 p1 p2 e : Int), bandE fs = .tuple #[.agg ⟨[iv p0, iv p1, iv p2]⟩, iv e] := by
   by_cases h : chkV 1024 fs = 0
   · exact ⟨_, _, _, _, bandE_zero h⟩
   · exact ⟨_, _, _, _, bandE_err h⟩
 obtain ⟨p0, p1, p2, be, hbe⟩ := bv
 have j1 : ∀ m, g80 [u6] Y6 m = some (.tuple #[.agg ⟨[iv p0, iv p1, iv p2]⟩, iv be], Y6, m) := fun m => by
   simp only [g80, i2, Option.map_some, hbe]
 refine E.seq ?_
 refine E.reg hr (by simp [i1, j1]; rfl) ?_
 obtain ⟨Y7, hY7⟩ : ∃ Y7, (N6, Blk.cells [iv p0, iv p1, iv p2] 50) :: Y6 = Y7 := ⟨_, rfl⟩
 have k1 : Sub Y6 Y7 := by rw [← hY7]; exact Sub.cons (namesOk_none i5 _ (Nat.le_refl _)) (Sub.refl _)
 have k2 : namesOk (N6 + 1) Y7 = true := by rw [← hY7]; exact namesOk_put (by omega) (namesOk_mono (by omega) _ i5)
 have hX7 : Sub X0 Y7 := a3.trans (b3.trans (d3.trans (e3.trans (f2.trans (i3.trans k1)))))
 have hT7 : Sub (tidy n H) Y7 := hS0.trans hX7
 have hc7 := hb hX7
 have hs7 := strAt_mono hT7 hs
 have hV7 : fltV Y7 (.slice oa fs.length c) = some fs := listV_mono decFl_mono hT7 hV
 have h24 : ∀ m, gStr (fun l => iv (strE l)) [.agg ⟨[.slice oa' l.length c']⟩] Y7 m = some (iv (strE l), Y7, m) := fun m => by simp only [gStr, hs7, Option.map_some]
 have h81 : ∀ m, gErr lstV [.slice oa fs.length c] Y7 m = some (iv (lstV fs), Y7, m) := fun m => by simp only [gErr, hV7]; rfl
 have h82 : ∀ X m, Sub Y7 X → gErr (chkV 1024) [.slice oa fs.length c] X m = some (iv (chkV 1024 fs), X, m) := fun X m h => by
   have : fltV X (.slice oa fs.length c) = some fs := listV_mono decFl_mono h hV7
   simp only [gErr, this]; rfl
 have h29 : ∀ m, gSI dirE [sv d] Y7 m = some (iv (dirE d), Y7, m) := fun m => rfl
 obtain ⟨z1, hz1⟩ : ∃ z, strE l = z := ⟨_, rfl⟩
 obtain ⟨z2, hz2⟩ : ∃ z, dirE d = z := ⟨_, rfl⟩
 obtain ⟨z3, hz3⟩ : ∃ z, lstV fs = z := ⟨_, rfl⟩
 have hE : listE l d fs = firstV [z1, z2, z3] := by rw [listE, hz1, hz2, hz3]
 rw [hz1] at h24
 rw [hz2] at h29
 rw [hz3] at h81
 have hcc : cellsA ((N6 + 1, Blk.cells [iv z1, iv z2, iv z3] 3) :: Y7) (N6 + 1) 0 3 = some [iv z1, iv z2, iv z3] := by rw [cellsA_cons, if_pos rfl]; rfl
 obtain ⟨E0, hE0⟩ : ∃ E0, firstV [z1, z2, z3] = E0 := ⟨_, rfl⟩
 have h27 : ∀ m, g113 [.slice (some ⟨N6 + 1, 0, none⟩) 3 3] ((N6 + 1, Blk.cells [iv z1, iv z2, iv z3] 3) :: Y7) m = some (iv E0, (N6 + 1, Blk.cells [iv z1, iv z2, iv z3] 3) :: Y7, m) := fun m => by
   have : intsAt ((N6 + 1, Blk.cells [iv z1, iv z2, iv z3] 3) :: Y7) ⟨N6 + 1, 0, none⟩ 3 = some [z1, z2, z3] := intsAt_iv rfl hcc (by omega)
   simp only [g113, this, Option.map_some, hE0]
 rw [hE0] at hE
 rw [hY7]
 refine E.seq ?_
 refine E.reg hr (by simp [-cellsA, hc7, h24, h29, h81, h27]; rfl) ?_
 obtain ⟨Y8, hY8⟩ : ∃ Y8, (N6 + 1, Blk.cells [iv z1, iv z2, iv z3] 3) :: Y7 = Y8 := ⟨_, rfl⟩
 have k3 : Sub Y7 Y8 := by rw [← hY8]; exact Sub.cons (namesOk_none k2 _ (Nat.le_refl _)) (Sub.refl _)
 have h82' := fun m => h82 Y8 m k3
 obtain ⟨E1, hE1⟩ : ∃ z, chkV 1024 fs = z := ⟨_, rfl⟩
 rw [hE1] at h82'
 rw [hY8]
 refine E.seq ?_
 refine E.reg hr (by simp [h82']; rfl) ?_
 refine E.seq ?_
 refine E.reg hr (by simp; rfl) ?_
 refine E.seq ?_
 refine E.reg hr (by simp; rfl) ?_
 refine E.seq ?_
 refine E.reg hr (by simp; rfl) ?_
 refine E.seq ?_
 refine E.reg hr (by simp; rfl) ?_
 have k4 : namesOk (N6 + 1 + 1) Y8 = true := by rw [← hY8]; exact namesOk_put (by omega) (namesOk_mono (by omega) _ k2)
 obtain ⟨Y9, hY9⟩ : ∃ Y9, (N6 + 1 + 1, Blk.cells [iv 0, iv 0, iv 0] 50) :: Y8 = Y9 := ⟨_, rfl⟩
 have k5 : Sub Y8 Y9 := by rw [← hY9]; exact Sub.cons (namesOk_none k4 _ (Nat.le_refl _)) (Sub.refl _)
 have k6 : namesOk (N6 + 1 + 1 + 1) Y9 = true := by rw [← hY9]; exact namesOk_put (by omega) (namesOk_mono (by omega) _ k4)
 rw [hY9]
 have k7 : plainH Y9 = true := by
   rw [← hY9, ← hY8, ← hY7]
   simp [plainH, plainB2, i6]
 let S : Int → Bool → Value → Int → Heap → Nat → St := fun ri rb rl re Z N => { fr := [(1, sv d), (2, .slice oa fs.length c), (3, .pointer (some ⟨n, 0, none⟩)), (6, .bool false), (7, iv oi), (8, .bool ob), (9, iv oe), (10, xv), (11, iv xe), (12, .pointer (some ⟨N6, 0, none⟩)), (13, iv be), (14, iv E0), (15, iv re), (16, iv E1), (17, iv ri), (18, .bool rb), (19, rl), (20, .pointer (some ⟨N6 + 1 + 1, 0, none⟩))], sz := 153, H := Z, n := N, marks := [], vs := [0, 1, 2, 3, 6, 7, 8, 9, 10, 11, 12, 13, 14, 15, 16, 17, 18, 19, 20, 21, 23, 56, 95, 111, 112, 113, 114, 115] }
 refine E.seqP (fun st' => ∃ ri rb rl re Z N, Leads Tryz.prog n st' (S ri rb rl re Z N) ∧ Sub Y9 Z ∧ N6 + 1 + 1 + 1 ≤ N ∧ namesOk N Z = true ∧ plainH Z = true ∧ ((E0 ≠ 0 ∧ ri = 0 ∧ rb = false ∧ rl = .slice none 0 0 ∧ re = E0) ∨ (E0 = 0 ∧ ri = (outI l d fs).1 ∧ rb = (outI l d fs).2 ∧ re = (refK l d fs).2 ∧ ∃ k, rl = outS k (refK l d fs).1.length ∧ ((refK l d fs).1.length ≠ 0 → hget Z k = some (.ext ((refK l d fs).1.map iv) 3 1))))) ?_ ?_
 · refine E.seq ?_
   refine E.reg hr (by simp; rfl) ?_
   by_cases hz : E0 = 0
   · refine E.cond (t := true) (by simp [hz]) (fun _ => ?_) (fun h => by cases h)
     obtain ⟨hst, hdw, hW, hgood⟩ := listE_zero (hE.trans hz)
     have hX9 : Sub X0 Y9 := hX7.trans (k3.trans k5)
     have hT9 : Sub (tidy n H) Y9 := hS0.trans hX9
     have hc9 := hb hX9
     have hs9 := strAt_mono hT9 hs
     have hV9 : fltV Y9 (.slice oa fs.length c) = some fs := listV_mono decFl_mono hT9 hV
     have h83 : ∀ m, g83 [.agg ⟨[.slice oa' l.length c']⟩, sv d, .slice oa fs.length c] Y9 m = some (.tuple #[iv (outI l d fs).1, .bool (outI l d fs).2], Y9, m) := fun m => by
       simp only [g83, hs9, hV9]
       rw [if_pos ⟨hst, hdw, hW, allSm_of hgood⟩, outR_eq]
     obtain ⟨oi2, hoi2⟩ : ∃ z, (outI l d fs).1 = z := ⟨_, rfl⟩
     obtain ⟨ob2, hob2⟩ : ∃ z, (outI l d fs).2 = z := ⟨_, rfl⟩
     rw [hoi2, hob2] at h83
     obtain ⟨N9, hN9⟩ : ∃ z, N6 + 1 + 1 + 1 = z := ⟨_, rfl⟩
     rw [hN9] at k6 ⊢
     obtain ⟨Z, hZ⟩ : ∃ Z, outSB N9 3 1 (refK l d fs).1.length ((refK l d fs).1.map iv) ++ Y9 = Z := ⟨_, rfl⟩
     have h84 : g84 [.agg ⟨[.slice oa' l.length c']⟩, sv d, .slice oa fs.length c] Y9 N9 = some (.tuple #[outS N9 (refK l d fs).1.length, .int .i64 (refK l d fs).2], Z, N9 + 1) := by
       simp only [g84, hs9, hV9]
       rw [if_pos ⟨hst, hdw, hW.1, hW.2⟩, hZ]
     obtain ⟨rv, hrv⟩ : ∃ z, outS N9 (refK l d fs).1.length = z := ⟨_, rfl⟩
     obtain ⟨re, hre⟩ : ∃ z, (refK l d fs).2 = z := ⟨_, rfl⟩
     rw [hrv, hre] at h84
     have hZs : Sub Y9 Z := by rw [← hZ]; exact Sub.app (fun x hx => namesOk_none k6 _ (outSB_ge x hx)) (Sub.refl _)
     have hZn : namesOk (N9 + 1) Z = true := by
       rw [← hZ]
       refine namesOk_app (fun x hx => ?_) (namesOk_mono (by omega) _ k6)
       unfold outSB at hx
       split at hx
       · cases hx
       · rw [List.mem_singleton] at hx; subst hx; exact Nat.lt_succ_self _
     have hZp : plainH Z = true := by
       rw [← hZ]
       refine plainH_app ?_ k7
       unfold outSB
       split
       · rfl
       · rfl
     refine E.seq ?_
     refine E.reg hr (by simp [-cellsA, hc9, h83]; rfl) ?_
     refine E.reg hr (by simp [-cellsA, hc9, h84]; rfl) ?_
     refine ⟨rfl, oi2, ob2, rv, re, Z, N9 + 1, .keep rfl rfl rfl (by simp [S]) (Sub.refl _), hZs, by omega, hZn, hZp, .inr ⟨hz, hoi2.symm, hob2.symm, hre.symm, N9, hrv.symm, fun h0 => ?_⟩⟩
     rw [← hZ, outSB, if_neg h0, List.cons_append, hget_cons, if_pos rfl]
   · refine E.cond (t := false) (by simp [hz]) (fun h => by cases h) (fun _ => ?_)
     refine E.skip ?_
     exact ⟨rfl, 0, false, .slice none 0 0, E0, Y9, N6 + 1 + 1 + 1, .keep rfl rfl rfl (by simp [S]) (Sub.refl _), Sub.refl _, Nat.le_refl _, k6, k7, .inl ⟨hz, rfl, rfl, rfl, rfl⟩⟩
 rintro st' ⟨ri, rb, rl, re, Z, N, hlead, hZ, hNN, hZn, hZp, hways⟩
 refine E.lead _ hlead ?_
 refine E.seqP (fun st' => ∃ p Z' N', Leads Tryz.prog n st' (S ri rb rl re Z' N') ∧ Sub Y8 Z' ∧ cellsA Z' (N6 + 1 + 1) 0 3 = some [iv p.1, iv p.2.1, iv p.2.2] ∧ (∀ k b, k ≠ N6 + 1 + 1 → hget Z k = some b → hget Z' k = some b) ∧ ((E1 ≠ 0 ∧ p = (0, 0, 0)) ∨ (E1 = 0 ∧ p = sixN fs))) ?_ ?_
 · refine E.seq ?_
   refine E.reg hr (by simp [S]; rfl) ?_
   by_cases hz : E1 = 0
   · refine E.cond (t := true) (by simp [hz]) (fun _ => ?_) (fun h => by cases h)
     obtain ⟨hl1, hg1⟩ := chkV_zero (hE1.trans hz)
     have hltZ : ∀ k b, hget Z k = some b → k < N := fun k b hb => by
       rcases Nat.lt_or_ge k N with h | h
       · exact h
       · rw [namesOk_none hZn k h] at hb
         cases hb
     have hl1' : fs.length ≤ 1024 := by omega
     refine E.seq ?_
     refine E.reg hr (by simp; rfl) ?_
     refine E.seq ?_
     refine E.seq ?_
     refine E.reg hr (by simp; rfl) ?_
     refine E.block ?_
     refine E.loop ?_
     refine EL.ind (fun x : Nat × Heap × Nat × Nat => { fr := [(1, sv d), (2, .slice oa fs.length c), (3, .pointer (some ⟨n, 0, none⟩)), (6, .bool false), (7, iv oi), (8, .bool ob), (9, iv oe), (10, xv), (11, iv xe), (12, .pointer (some ⟨N6, 0, none⟩)), (13, iv be), (14, iv E0), (15, iv re), (16, iv E1), (17, iv ri), (18, .bool rb), (19, rl), (20, .pointer (some ⟨N6 + 1 + 1, 0, none⟩)), (21, outS x.2.2.2 x.1), (112, .slice oa fs.length c), (113, iv fs.length), (114, iv x.1)], sz := 153, H := x.2.1, n := x.2.2.1, marks := [], vs := [0, 1, 2, 3, 6, 7, 8, 9, 10, 11, 12, 13, 14, 15, 16, 17, 18, 19, 20, 21, 23, 56, 95, 111, 112, 113, 114, 115] }) (fun x => fs.length - x.1) (fun x => x.1 ≤ fs.length ∧ GL Z N 3 1 (sixL (fs.take x.1)) x.1 x.2.1 x.2.2.1 x.2.2.2) (0, Z, N, N) (.keep rfl rfl rfl (by simp) (Sub.refl _)) ⟨Nat.zero_le _, by simpa [sixL] using GL.start (t := 3) (sz := 1) (Sub.refl Z) hZn (Nat.le_refl N) hZp⟩ (fun _ => rfl) ?_
     rintro ⟨i, Hx, Nx, o⟩ ⟨hi, hG⟩
     dsimp only at hi hG ⊢
     have hw : IntKind.i64.wrap ((i : Int) + 1) = (i : Int) + 1 := W_in (by omega) (by omega)
     refine E.seq ?_
     refine E.reg hr (by simp; rfl) ?_
     refine E.seq ?_
     by_cases hil : i < fs.length
     · obtain ⟨a, rfl, hf, hc⟩ := hrow i hil
       have htk : fs.take (i + 1) = fs.take i ++ [fs[i]] := List.take_succ_eq_append_getElem hil
       have hsn : sixL (fs.take i) ++ [iv (six32 fs[i])] = sixL (fs.take (i + 1)) := by rw [htk]; unfold sixL; rw [List.flatMap_append]; rfl
       obtain ⟨q, hq⟩ : ∃ q, fs[i] = q := ⟨_, rfl⟩
       rw [hq] at hc hsn
       have hfl : ∀ H m, gSix [.float .f32 q] H m = some (iv (six32 q), H, m) := fun _ _ => if_pos (List.all_eq_true.1 (allSm_of hg1) q (hq ▸ List.getElem_mem hil))
       obtain ⟨Hz, happ, hGz⟩ := hG.app (P := Tryz.prog) (st := 45) (i := Tryz.t3) (new := [iv (six32 q)]) hltZ Tryz.underlying45 inf3 sz3i zo3 by3 (by omega) rfl (by omega) rfl rfl
       rw [hsn] at hGz
       have hcx := hG.sub.cell (hZ.cell (k5.cell (k3.cell (hX7.cell (hS0.cell hc)))))
       refine E.cond (t := true) (by simp [hil]) (fun _ => ?_) (fun h => by cases h)
       refine E.skip ?_
       refine E.seq ?_
       refine E.block ?_
       refine E.seq ?_
       refine E.reg hr (by simp [-cellA, -flat, hil, hf, hcx]; rfl) ?_
       refine E.reg hr (by simp [-builtinA, hfl, happ]; rfl) ?_
       refine E.reg hr (by simp [hw]; rfl) ?_
       exact ⟨(i + 1, Hz, Nx + 1 + 1, Nx + 1), .keep rfl rfl rfl (by simp) (Sub.refl _), ⟨hil, hGz⟩, by dsimp only; omega⟩
     · have hil' : i = fs.length := by omega
       subst hil'
       rw [List.take_length] at hG
       refine E.cond (t := false) (by simp) (fun h => by cases h) (fun _ => ?_)
       refine E.exit ?_
       have hbox : hget Z (N6 + 1 + 1) = some (.cells [iv 0, iv 0, iv 0] 50) := hZ _ _ (by rw [← hY9, hget_cons, if_pos rfl])
       have hboxx := hG.sub _ _ hbox
       have hI : intV Hx (outS o fs.length) = some (fs.map six32) := by
         have h1 : sixL fs = (fs.map six32).flatMap fun z => [iv z] := by rw [sixL_eq]; exact List.map_eq_flatMap
         have h2 : (fs.map six32).length = fs.length := List.length_map ..
         rw [h1] at hG
         have := GL.list (dec := decI) (l := fs.map six32) (c := fun z => [iv z]) (by rw [h2]; exact hG) (fun _ => rfl) (fun _ _ => rfl) (by rw [h2]; exact hlt)
         rw [h2] at this
         exact this
       have h86 : ∀ m, g86 [outS o fs.length] Hx m = some (bandV (sixN fs), Hx, m) := fun m => by
         simp only [g86, hI]
         rw [if_pos ⟨by rw [List.length_map]; exact hl1', six_in hg1⟩, sixN, List.length_map]
       obtain ⟨⟨q0, q1, q2⟩, hq⟩ : ∃ p, sixN fs = p := ⟨_, rfl⟩
       rw [hq] at h86
       have hst : storeA Hx (N6 + 1 + 1) 0 [iv q0, iv q1, iv q2] = some (hset Hx (N6 + 1 + 1) (.cells [iv q0, iv q1, iv q2] 50)) := by
         unfold storeA
         rw [hboxx]
         rfl
       refine E.reg hr (by simp [-storeA, h86, bandV, hst]; rfl) ?_
       refine ⟨rfl, (q0, q1, q2), hset Hx (N6 + 1 + 1) (.cells [iv q0, iv q1, iv q2] 50), Nx, .keep rfl rfl rfl (by simp [S]) (Sub.refl _), fun k b hb => ?_, ?_, fun k b hk hb => ?_, .inr ⟨hz, hq.symm⟩⟩
       · have hne : N6 + 1 + 1 ≠ k := fun e => by
           rw [← e, namesOk_none k4 _ (Nat.le_refl _)] at hb
           cases hb
         rw [hget_set, if_neg hne]
         exact hG.sub _ _ (hZ _ _ (k5 _ _ hb))
       · rw [cellsA_eq, hget_set, if_pos rfl, hboxx]
         rfl
       · rw [hget_set, if_neg (fun e => hk e.symm)]
         exact hG.sub _ _ hb
   · refine E.cond (t := false) (by simp [hz]) (fun h => by cases h) (fun _ => ?_)
     refine E.skip ?_
     refine ⟨rfl, (0, 0, 0), Z, N, .keep rfl rfl rfl (by simp [S]) (Sub.refl _), k5.trans hZ, ?_, fun _ _ _ h => h, .inl ⟨hz, rfl⟩⟩
     have h0 : hget Z (N6 + 1 + 1) = some (.cells [iv 0, iv 0, iv 0] 50) := hZ _ _ (by rw [← hY9, hget_cons, if_pos rfl])
     rw [cellsA_eq, h0]
     rfl
 rintro st' ⟨p, Z', N', hlead, hZ8, hpc, hkeep, hp⟩
 refine E.lead _ hlead ?_
 have hE' : listE l d fs = E0 := hE
 have hnum : oe = E0 ∧ (E0 ≠ 0 → oi = 0) ∧ (E0 = 0 → oi = ri) ∧ ob = rb := by
   rcases hways with ⟨h0, h1, h2, _, _⟩ | ⟨h0, h1, h2, _, _⟩
   · have e := ho.symm.trans (outE_err (hE' ▸ h0))
     simp only [Value.tuple.injEq, Array.mk.injEq, List.cons.injEq, Value.int.injEq, Value.bool.injEq, true_and, and_true] at e
     obtain ⟨e1, e2, e3⟩ := e
     exact ⟨e3.trans hE', fun _ => e1, fun h => absurd h h0, by rw [e2, h2]⟩
   · have e := ho.symm.trans (outE_zero (hE'.trans h0))
     simp only [Value.tuple.injEq, Array.mk.injEq, List.cons.injEq, Value.int.injEq, Value.bool.injEq, true_and, and_true] at e
     obtain ⟨e1, e2, e3⟩ := e
     exact ⟨e3.trans h0.symm, fun h => absurd h0 h, fun _ => by rw [e1, h1], by rw [e2, h2]⟩
 obtain ⟨hn1, hn2, hn3, hn4⟩ := hnum
 have h32 : ∀ m, g32 [iv oi, iv oe, iv E0, iv ri] Z' m = some (.bool true, Z', m) := fun m => if_pos ⟨hn1, fun h => hn2 (hn1 ▸ h), fun h => hn3 (hn1 ▸ h)⟩
 have hx8 : xs ≠ [] → hget Z' N4 = some (exB xs) := fun h => by
   refine hZ8 _ _ (k3 _ _ (k1 _ _ (i3 _ _ ?_)))
   rw [← hY5, exK, if_neg h, List.cons_append, hget_cons, if_pos rfl]
 have h51 : ∀ m, g51 [xv, iv xe, iv re, rl] Z' m = some (.bool true, Z', m) := fun m => by
   rcases hways with ⟨h0, _, _, h3, h4⟩ | ⟨h0, _, _, h3, k, h4, h5⟩
   · have e := explE_err (l := l) (d := d) (fs := fs) (hE' ▸ h0)
     rw [e] at hxs hxe
     dsimp only at hxs hxe
     subst hxs
     rw [← hxv, h3, h4, ← hxe, hE']
     exact if_pos ⟨rfl, h0⟩
   · have hz0 := hE'.trans h0
     have e := explE_zero (l := l) (d := d) (fs := fs) hz0
     rw [e] at hxs hxe
     rcases refK_len hz0 with ⟨e1, e2⟩ | ⟨e1, e2⟩
     · have hl0 : l.length ≠ 0 := by have := strE_len (listE_zero hz0).1; omega
       have hx0 : xs.length ≠ 0 := by rw [← hxs, e2]; exact hl0
       have hxn : xs ≠ [] := fun h => hx0 (by rw [h]; rfl)
       obtain ⟨s, cc, hv, hfl⟩ := exV_ne (n := N4) hx0
       have hk : k ≠ N6 + 1 + 1 := fun hk => by
         have h6 := h5 (by rw [e2]; exact hl0)
         have h7 : hget Z (N6 + 1 + 1) = some (.cells [iv 0, iv 0, iv 0] 50) := hZ _ _ (by rw [← hY9, hget_cons, if_pos rfl])
         rw [hk, h7] at h6
         cases h6
       have h6 := hkeep _ _ hk (h5 (by rw [e2]; exact hl0))
       rw [hxs] at h6
       have i1 : intsAt Z' ⟨N4, 0, s⟩ xs.length = some xs := intsAt_iv hfl (exB_cells (hx8 hxn)) (by rw [← hxs, e2]; omega)
       have c2 : cellsA Z' k 0 xs.length = some (xs.map iv) := by
         rw [cellsA_eq, h6]
         simp only [Option.bind_some, cellsB]
         rw [if_pos (by rw [List.length_map]; omega), List.drop_zero, List.take_of_length_le (by rw [List.length_map]; exact Nat.le_refl _)]
       have i2 : intsAt Z' ⟨k, 0, some 0⟩ xs.length = some xs := intsAt_iv rfl c2 (by rw [← hxs, e2]; omega)
       rw [← hxv, h4, hxs, hv, outS_ne hx0, ← hxe, h3, e1]
       simp only [g51, i1, i2]
       simp
     · have hx0 : xs = [] := hxs.symm.trans e2
       rw [← hxv, h4, h3, ← hxe, e1, hx0, e2]
       rfl
 have hb8 : cellsA Z' N6 0 3 = some [iv p0, iv p1, iv p2] := by
   have h1 : hget Z' N6 = some (.cells [iv p0, iv p1, iv p2] 50) := hZ8 _ _ (k3 _ _ (by rw [← hY7, hget_cons, if_pos rfl]))
   rw [cellsA_eq, h1]
   rfl
 obtain ⟨r0, r1, r2⟩ := p
 have hbp : p0 = r0 ∧ p1 = r1 ∧ p2 = r2 ∧ be = E1 := by
   rcases hp with ⟨h0, h1⟩ | ⟨h0, h1⟩
   · have e := hbe.symm.trans (bandE_err (hE1 ▸ h0))
     simp only [bandV, Value.tuple.injEq, Value.agg.injEq, Array.mk.injEq, List.cons.injEq, Value.int.injEq, true_and, and_true] at e
     obtain ⟨⟨e1, e2, e3⟩, e4⟩ := e
     simp only [Prod.mk.injEq] at h1
     obtain ⟨f1, f2, f3⟩ := h1
     exact ⟨by rw [e1, f1], by rw [e2, f2], by rw [e3, f3], e4.trans hE1⟩
   · have e := hbe.symm.trans (bandE_zero (hE1.trans h0))
     rw [← h1] at e
     simp only [bandV, Value.tuple.injEq, Value.agg.injEq, Array.mk.injEq, List.cons.injEq, Value.int.injEq, true_and, and_true] at e
     obtain ⟨⟨e1, e2, e3⟩, e4⟩ := e
     exact ⟨e1, e2, e3, e4.trans h0.symm⟩
 obtain ⟨rfl, rfl, rfl, rfl⟩ := hbp
 subst hn4
 refine E.seq ?_
 cases ob with
 | true =>
   refine E.reg hr (by simp [S, -cellsA, h32, h51, hb8, hpc, eq50, eq_bool]; rfl) ?_
   refine E.ret ?_
   exact pureK.ret rfl rfl (by simp) (hX7.trans (k3.trans hZ8) |> hS0.trans)
 | false =>
   refine E.reg hr (by simp [S, -cellsA, h32, h51, hb8, hpc, eq50, eq_bool]; rfl) ?_
   refine E.ret ?_
   exact pureK.ret rfl rfl (by simp) (hX7.trans (k3.trans hZ8) |> hS0.trans)
end Go.Proofs.YtndlfijfjglkdaaGreatDoor

namespace Go.Ab
open Go Go.ChangeShapes Go.WideShapes
end Go.Ab

namespace Go.Ab
open Go
end Go.Ab

namespace Go.Proofs.YtndlfijfjglkdaaGreatDoor
open Go Go.Ab Go.Proofs Go.ChangeShapes Go.WideShapes Go.ChangeAt Go.RowKit
namespace gunLines
end gunLines
end Go.Proofs.YtndlfijfjglkdaaGreatDoor

namespace Go.Proofs.YtndlfijfjglkdaaGreatDoor
open Go Go.Ab Go.Proofs Go.ChangeShapes Go.WideShapes Go.ChangeAt Go.RowKit
theorem leafs94 : leafs Tryz.prog 6 94 = some [.str, .int .i64, .int .i64, .int .i64, .int .i64, .int .i64, .int .i64] := by kernel_rfl
theorem fits_cons {a : Leaf} {bs : List Leaf} {r : List Value} (h : fitsL (a :: bs) r) : ∃ v vs, r = v :: vs ∧ a.fits v ∧ fitsL bs vs := by
 cases r with
 | nil => exact h.elim
 | cons v vs => exact ⟨v, vs, rfl, h.1, h.2⟩
theorem fits_nil {r : List Value} (h : fitsL [] r) : r = [] := by
 cases r with
 | nil => rfl
 | cons v vs => exact h.elim
theorem fits_gun {r : List Value} (h : fitsL [.str, .int .i64, .int .i64, .int .i64, .int .i64, .int .i64, .int .i64] r) : ∃ g : Gun, r = g.cells := by
 obtain ⟨_, _, rfl, ⟨s, rfl, _⟩, h1⟩ := fits_cons h
 obtain ⟨_, _, rfl, ⟨v, rfl, _⟩, h2⟩ := fits_cons h1
 obtain ⟨_, _, rfl, ⟨x, rfl, _⟩, h3⟩ := fits_cons h2
 obtain ⟨_, _, rfl, ⟨y, rfl, _⟩, h4⟩ := fits_cons h3
 obtain ⟨_, _, rfl, ⟨t, rfl, _⟩, h5⟩ := fits_cons h4
 obtain ⟨_, _, rfl, ⟨lo, rfl, _⟩, h6⟩ := fits_cons h5
 obtain ⟨_, _, rfl, ⟨hi, rfl, _⟩, h7⟩ := fits_cons h6
 obtain rfl := fits_nil h7
 exact ⟨⟨s, v, x, y, t, lo, hi⟩, rfl⟩
theorem fits_guns : ∀ rows : List (List Value), (∀ r ∈ rows, fitsL [.str, .int .i64, .int .i64, .int .i64, .int .i64, .int .i64, .int .i64] r) → ∃ l : List Gun, rows.flatten = gcs l ∧ l.length = rows.length
 | [], _ => ⟨[], rfl, rfl⟩
 | r :: rows, h => by
   obtain ⟨g, rfl⟩ := fits_gun (h r (List.mem_cons_self ..))
   obtain ⟨l, h1, h2⟩ := fits_guns rows fun r hr => h r (List.mem_cons_of_mem _ hr)
   exact ⟨g :: l, by rw [List.flatten_cons, h1]; rfl, by simp [h2]⟩
set_option maxRecDepth 100000 in
theorem open_str {H : Type} {enc : TypeId × Value → H} {W : World} {base : Nat} {v : Value} {d : DataW H} {p : List MemPlace} (hv : Value.okWide Tryz.prog W .any base 24 v) (h : DataW.Trod enc Tryz.prog W 0 (fun _ => true) true 24 v d p) :
   v = nilV ∨ ∃ (b o c : Nat) (l : List Gun), v = .agg ⟨[.slice (some ⟨b, o, none⟩) l.length c]⟩ ∧ l.length < 2 ^ 63 ∧ ∃ cs t fz, W.heap[b]? = some (.cells cs t fz) ∧ ∀ i, i < (gcs l).length → cs[o + i]? = (gcs l)[i]? := by
 rcases handed_str (d := 6) Tryz.underlying24 (f := ⟨"Guns", 22, 0, false, "", "", 0⟩) rfl rfl rfl (by kernel_rfl) (by kernel_rfl) (by kernel_rfl) Tryz.underlying22 leafs94 (by kernel_rfl) (by simp) hv h with rfl | ⟨b, o, len, cap, rows, rfl, h1, h2, h3, h4, cs, t, fz, hw, hc⟩
 · exact .inl rfl
 · obtain ⟨l, e1, e2⟩ := fits_guns rows h4
   have : len = l.length := by omega
   subst this
   rw [e1] at hc
   refine .inr ⟨b, o, cap, l, rfl, ?_, cs, t, fz, hw, hc⟩
   have : maxLen < 2 ^ 63 := by decide
   omega
end Go.Proofs.YtndlfijfjglkdaaGreatDoor
