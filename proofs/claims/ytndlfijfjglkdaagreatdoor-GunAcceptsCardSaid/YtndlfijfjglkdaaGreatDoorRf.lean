/-
The law GunAccepts holds of the given program for every input that its card allows: no drop-outs are refused by no rule, nor are the largest; no larger drop-outs are accepted; a rule with the least share 0 refuses nothing; four equal samples have the band 0 alone, four of alternating sign the band 2 alone.
-/
import Derived.Deep.Slices
import Derived.Test.YtndlfijfjglkdaaGreatDoorRe
import Derived.Test.YtndlfijfjglkdaaGreatDoorRd
import Derived.Test.YtndlfijfjglkdaaGreatDoorKa
import Derived.Test.YtndlfijfjglkdaaGreatDoorRc
import Derived.Test.YtndlfijfjglkdaaGreatDoorRa
import Derived.Test.YtndlfijfjglkdaaGreatDoorRb
import Derived.Test.YtndlfijfjglkdaaGreatDoorFa
import Derived.Test.YtndlfijfjglkdaaGreatDoorPa
namespace Go.Proofs.YtndlfijfjglkdaaGreatDoor
open Go Go.Ab Go.Proofs
open Classical in
noncomputable def g171 (ps : Nat) (l : List Gun) (args : List Value) (H : Heap) (n : Nat) : R := match args with
 | [v, fv] => if fv = cl172 ps ∧ KStr ps l H then (intV H v).bind fun zs => if ∀ z ∈ zs, 0 ≤ z ∧ z.toNat < l.length then some (outS n zs.length, outSB n 9 1 zs.length (nmsC l zs) ++ H, n + 1) else none else none
 | _ => none
theorem g171_at {H : Heap} {n ps : Nat} {l : List Gun} {zs : List Int} {v : Value} (hK : KStr ps l H) (hV : intV H v = some zs) (hz : ∀ z ∈ zs, 0 ≤ z ∧ z.toNat < l.length) : g171 ps l [v, cl172 ps] H n = some (outS n zs.length, outSB n 9 1 zs.length (nmsC l zs) ++ H, n + 1) := by
 simp only [g171]
 rw [if_pos ⟨rfl, hK⟩, hV, Option.bind_some, if_pos hz]
theorem ok171 {ps : Nat} {l : List Gun} : EntOk Tryz.prog (171, g171 ps l) := by
 intro args H n v H' n' h
 simp only [g171] at h
 split at h
 · split at h
   · rename_i hc
     obtain ⟨rfl, h1⟩ := hc
     obtain ⟨zs, h4, h5⟩ := Option.bind_eq_some_iff.1 h
     split at h5
     · rename_i h6
       injection h5 with h; injection h with e1 e2; injection e2 with e2 e3; subst e1 e2 e3
       exact w171 h1 h4 h6
     · cases h5
   · cases h
 · cases h
def lrgE (l : List Gun) (rs : List Rul) (w : Int) : Int := firstV [strE l, rulsE rs, withinV w 1 64]
def lrgI (l : List Gun) (rs : List Rul) (W : Nat) : Int := fstT (freeAt l rs W (setsOf l.length)) (setsOf l.length).length
def lrgS (l : List Gun) (rs : List Rul) (W : Nat) : List Int := match (setsOf l.length)[(lrgI l rs W).toNat]? with
 | some zs => zs
 | none => []
def lrgZ (l : List Gun) (rs : List Rul) (w : Int) : List Int := if lrgE l rs w = 0 then lrgS l rs w.toNat else []
theorem setsOf_lt {k : Nat} (h : 1 ≤ k) (h4 : k ≤ 4) : (∀ zs ∈ setsOf k, ∀ z ∈ zs, 0 ≤ z ∧ z.toNat < k) ∧ ∃ i, ∃ hi : i < (setsOf k).length, (setsOf k)[i] = [] := by
 match k, h, h4 with
 | 1, _, _ => exact ⟨by decide, 1, by decide, rfl⟩
 | 2, _, _ => exact ⟨by decide, 3, by decide, rfl⟩
 | 3, _, _ => exact ⟨by decide, 7, by decide, rfl⟩
 | 4, _, _ => exact ⟨by decide, 15, by decide, rfl⟩
theorem outB_nil : outB [] = fun _ => true := by
 funext i
 simp [outB]
theorem bandAt_nonneg {b : Nat → Bool} {l : List Gun} {d : ByteArray} {W : Nat} {k : Int} (hst : strE l = 0) (hW : W ≤ 64) : 0 ≤ bandAt (bandF b l d W) k := by
 obtain ⟨h1, h2, h3⟩ := bandF_bd (b := b) (d := d) hst hW
 unfold bandAt
 split
 · exact h1.1
 · split
   · exact h2.1
   · exact h3.1
theorem refB_none {l : List Gun} {q : Rul} {W : Nat} (hst : strE l = 0) (hrz : rulE q = 0) (hW : W ≤ 64) : refB (outB []) l q W = false := by
 obtain ⟨_, _, h1, h2⟩ := rulE_zero hrz
 have hb := bandAt_nonneg (b := fun _ => true) (d := q.dir) (k := q.band) hst hW
 rw [outB_nil]
 unfold refB
 rw [decide_eq_false_iff_not, Int.not_lt]
 exact Int.mul_le_mul_of_nonneg_right h2 hb
theorem anyB_none {l : List Gun} {rs : List Rul} {W : Nat} (hst : strE l = 0) (hrz : rulsE rs = 0) (hW : W ≤ 64) : anyB (outB []) l rs W = false := by
 have : fstT (refAt (outB []) l rs W) rs.length = -1 := fstT_miss fun j hj => by
   rw [refAt_at hj]
   exact refB_none hst ((rulsE_zero hrz).2 j hj) hW
 rw [anyB, this]
 rfl
theorem lrg_at {l : List Gun} {rs : List Rul} {W : Nat} (hst : strE l = 0) (h4 : l.length ≤ 4) (hrz : rulsE rs = 0) (hW : W ≤ 64) : ∃ i, ∃ hi : i < (setsOf l.length).length, lrgI l rs W = i ∧ lrgS l rs W = (setsOf l.length)[i] := by
 obtain ⟨h1, i, hi, he⟩ := setsOf_lt (k := l.length) (by have := strE_len hst; omega) h4
 rcases fstT_cases (freeAt l rs W (setsOf l.length)) (setsOf l.length).length with ⟨j, h2, h3, _, h5⟩ | ⟨h2, _⟩
 · refine ⟨j, h2, h5, ?_⟩
   rw [lrgS, lrgI, h5, Int.toNat_natCast, List.getElem?_eq_getElem h2]
 · have := h2 i hi
   rw [freeAt_at hi, he, anyB_none hst hrz hW] at this
   cases this
end Go.Proofs.YtndlfijfjglkdaaGreatDoor

namespace Go.Proofs.YtndlfijfjglkdaaGreatDoor
open Go Go.Ab Go.Proofs
set_option maxRecDepth 20000 in
set_option maxHeartbeats 2000000 in
theorem w93c {H : Heap} {rv : Value} {l : List Gun} {rs : List Rul} {w : Int} (g0 : hget H 0 = some (.inp 0 names0)) (hG : OwnG H (.slice (some ⟨10, 0, some 0⟩) l.length 0) l) (hR : rulV H rv = some rs) (h4 : l.length ≤ 4) :
   AC Tryz.prog 93 [.agg ⟨[.slice (some ⟨10, 0, some 0⟩) l.length 0]⟩, rv, iv w] H 12 (.tuple #[outS 12 (lrgZ l rs w).length, iv (lrgE l rs w)]) (outSB 12 9 1 (lrgZ l rs w).length (nmsC l (lrgZ l rs w)) ++ H) (12 + 1) := by
 refine AC.given fun hold hsc hgn => AC.tidied (fun x hx => outSB_ge x hx) ?_
 have hlt0 := fun k b h => (hold k b h).1
 replace g0 : hget (tidy 12 H) 0 = some (.inp 0 names0) := hget_tidy.2 ⟨g0, (hold 0 _ g0).1, rfl⟩
 replace hG := hG.tidy hlt0
 replace hR : rulV (tidy 12 H) rv = some rs := listV_tidy decR_tidy hlt0 hR
 obtain ⟨oa, c, rfl, hlt, hrow⟩ := rulV_form hR
 obtain ⟨rv, hrv⟩ : ∃ rv, Value.slice oa rs.length c = rv := ⟨_, rfl⟩
 obtain ⟨v, hv⟩ : ∃ v, Value.slice (some ⟨10, 0, some 0⟩) l.length 0 = v := ⟨_, rfl⟩
 rw [hrv] at hR
 rw [hv] at hG
 have hr := recT_ok (P := Tryz.prog) (l := [(31, g31), (102, g102), (113, g113), (127, g1 fun a => withinV a 1 64), (165, g165 13 12 14 l rs w.toNat), (171, g171 12 l)]) (by simp only [List.forall_mem_cons]; exact ⟨ok31, ok102, ok113, ok127, ok165, ok171, by simp⟩)
 obtain ⟨X0, hX0⟩ : ∃ X0, (14, Blk.cells [iv w] 3) :: (13, Blk.cells [rv] 154) :: (12, .cells [v] 32) :: tidy 12 H = X0 := ⟨_, rfl⟩
 have hno : ∀ k, 12 ≤ k → hget (tidy 12 H) k = none := fun k hk => namesOk_none namesOk_tidy k hk
 have hS0 : Sub (tidy 12 H) X0 := by rw [← hX0]; exact Sub.cons (hno 14 (by omega)) (Sub.cons (hno 13 (by omega)) (Sub.cons (hno 12 (by omega)) (Sub.refl _)))
 have hm0 : namesOk 15 X0 = true := by rw [← hX0]; exact namesOk_put (by omega) (namesOk_put (by omega) (namesOk_put (by omega) (namesOk_mono (by omega) _ namesOk_tidy)))
 have hp0 : plainH X0 = true := by rw [← hX0]; simp [plainH, plainB2]
 have hb0 : hget X0 12 = some (.cells [v] 32) := by rw [← hX0, hget_cons, if_neg (by omega), hget_cons, if_neg (by omega), hget_cons, if_pos rfl]
 have hb1 : hget X0 13 = some (.cells [rv] 154) := by rw [← hX0, hget_cons, if_neg (by omega), hget_cons, if_pos rfl]
 have hb2 : hget X0 14 = some (.cells [iv w] 3) := by rw [← hX0, hget_cons, if_pos rfl]
 have c0 : cellsA X0 12 0 1 = some [v] := by rw [cellsA_eq, hb0]; rfl
 have c1 : cellA X0 13 0 = some rv := by rw [cellA_eq, hb1]; rfl
 have c2 : cellA X0 14 0 = some (iv w) := by rw [cellA_eq, hb2]; rfl
 have c0f : cellsA (frzH X0) 12 0 1 = some [v] := by rw [cellsA_frz, c0]
 have c1f : cellA (frzH X0) 13 0 = some rv := by rw [cellA_frz, c1]
 have c2f : cellA (frzH X0) 14 0 = some (iv w) := by rw [cellA_frz, c2]
 obtain ⟨z1, hz1⟩ : ∃ z, strE l = z := ⟨_, rfl⟩
 obtain ⟨z2, hz2⟩ : ∃ z, rulsE rs = z := ⟨_, rfl⟩
 obtain ⟨z3, hz3⟩ : ∃ z, withinV w 1 64 = z := ⟨_, rfl⟩
 have hGx := hG.mono hS0
 have hRx : rulV X0 rv = some rs := listV_mono decR_mono hS0 hR
 have h31 : ∀ m, g31 [.agg ⟨[v]⟩] X0 m = some (iv z1, X0, m) := fun m => by rw [← hz1]; exact hGx.check m
 have h31f : ∀ m, g31 [.agg ⟨[v]⟩] (frzH X0) m = some (iv z1, frzH X0, m) := fun m => by rw [← hz1]; exact hGx.frz.check m
 have h102 : ∀ m, g102 [rv] X0 m = some (iv z2, X0, m) := fun m => by
   simp only [g102, hRx, Option.map_some, hz2]
   rw [if_pos (hS0 _ _ g0)]
 have h102f : ∀ m, g102 [rv] (frzH X0) m = some (iv z2, frzH X0, m) := fun m => by
   have e : rulV (frzH X0) rv = some rs := by rw [← hRx]; exact listV_frz decR_frz X0 rv
   simp only [g102, e, Option.map_some, hz2]
   rw [if_pos (by rw [hget_frz, hS0 _ _ g0]; rfl)]
 obtain ⟨z, hz⟩ : ∃ z, firstV [z1, z2, z3] = z := ⟨_, rfl⟩
 have hE : lrgE l rs w = z := by rw [lrgE, hz1, hz2, hz3, hz]
 have htk := takeNew_frz hm0
 obtain ⟨X1, hX1⟩ : ∃ X1, (15, Blk.cells [iv z1, iv z2, iv z3] 27) :: X0 = X1 := ⟨_, rfl⟩
 have hS1 : Sub X0 X1 := by rw [← hX1]; exact Sub.cons (namesOk_none hm0 _ (Nat.le_refl _)) (Sub.refl _)
 have hm1 : namesOk 16 X1 = true := by rw [← hX1]; exact namesOk_put (by omega) (namesOk_mono (by omega) _ hm0)
 have hp1 : plainH X1 = true := by rw [← hX1]; simp [plainH, plainB2, hp0]
 have h113 : ∀ m, g113 [.slice (some ⟨15, 0, none⟩) 3 3] X1 m = some (iv z, X1, m) := fun m => by
   have : intsAt X1 ⟨15, 0, none⟩ 3 = some [z1, z2, z3] := intsAt_iv rfl (by rw [← hX1, cellsA_cons, if_pos rfl]; rfl) (by omega)
   simp only [g113, this, Option.map_some, hz]
 have hm0' : namesOk 16 X0 = true := namesOk_mono (by omega) _ hm0
 refine AC.grownE Tryz.func93 rfl (by kernel_rfl) rfl [3, 4, 5, 6, 7, 8, 9, 10, 11, 12, 13, 28, 29, 34, 35] ?_
 refine E.seq ?_
 refine E.reg hr (by simp; rfl) ?_
 rw [hrv, hv, hX0]
 refine E.seq ?_
 refine E.seq ?_
 refine E.drawU mixed hr [5, 6, 7] [1, 3, 5, 6, 7] [0, 1, 3, 5, 6, 7] (by kernel_rfl) (by simp [-cellsA, -cellA, -readA, cellA_read, cellsA_read, hm0, hp0, htk, c0, c1, c2, h31f, h102f, g1, hz3, hX1, h113, hm1]; rfl) ?_
 refine E.seq ?_
 refine E.reg hr (by simp; rfl) ?_
 by_cases hz0 : z = 0
 case neg =>
   have hL : lrgZ l rs w = [] := by rw [lrgZ, if_neg (by rw [hE]; exact hz0)]
   rw [hL, hE]
   refine E.cond (t := true) (by simp [hz0]) (fun _ => ?_) (fun h => by cases h)
   refine E.seq ?_
   refine E.reg hr (by simp; rfl) ?_
   refine E.ret ?_
   exact outK.ret rfl rfl ((fresh_none (hS0.trans hS1)).pair z)
 refine E.cond (t := false) (by simp [hz0]) (fun h => by cases h) (fun _ => ?_)
 refine E.skip ?_
 subst hz0
 have hst : strE l = 0 := by rw [hz1]; exact (firstV_zero _).1 hz z1 (by simp)
 have hrs : rulsE rs = 0 := by rw [hz2]; exact (firstV_zero _).1 hz z2 (by simp)
 have hww : 1 ≤ w ∧ w ≤ 64 := (withinV_zero _ _ _).1 (by rw [hz3]; exact (firstV_zero _).1 hz z3 (by simp))
 obtain ⟨W, rfl⟩ := Int.eq_ofNat_of_zero_le (show 0 ≤ w by omega)
 rw [Int.toNat_natCast] at hr
 have hWW : 1 ≤ W ∧ W ≤ 64 := by omega
 rw [lrgZ, if_pos hE, hE, Int.toNat_natCast]
 obtain ⟨Z, hZ⟩ : ∃ Z, (15, Blk.cells [iv z1, iv z2, iv z3] 27) :: (14, Blk.cells [iv W] 3) :: (13, Blk.cells [rv] 154) :: tidy 12 H = Z := ⟨_, rfl⟩
 have hZl : ∀ j b, hget Z j = some b → j < 16 ∧ j ≠ 12 := fun j b hb => by
   rw [← hZ, hget_cons, hget_cons, hget_cons] at hb
   by_cases e1 : 15 = j
   · omega
   by_cases e2 : 14 = j
   · omega
   by_cases e3 : 13 = j
   · omega
   rw [if_neg e1, if_neg e2, if_neg e3] at hb
   rcases Nat.lt_or_ge j 12 with h | h
   · omega
   · rw [hno j h] at hb; cases hb
 have hZt : Sub (tidy 12 H) Z := by rw [← hZ]; exact Sub.cons (hno 15 (by omega)) (Sub.cons (hno 14 (by omega)) (Sub.cons (hno 13 (by omega)) (Sub.refl _)))
 have hSX : Sub (hS l.length ++ Z) X1 := fun j b hb => by
   rw [hget_append] at hb
   rw [← hX1, ← hX0, hget_cons, hget_cons, hget_cons, hget_cons]
   by_cases e : 12 = j
   · subst e
     rw [show hget (hS l.length) 12 = some (.cells [v] 32) by rw [← hv]; simp [hS]] at hb
     injection hb with hb
     subst hb
     rfl
   · rw [show hget (hS l.length) j = none by simp [hS, e]] at hb
     dsimp only at hb
     rw [← hZ, hget_cons, hget_cons, hget_cons] at hb
     rw [if_neg e]
     exact hb
 obtain ⟨s4, s5, s, a4, a5, a6, q1, q2, q3, q4, q5, q6, q7, q8, u9, q9, q10⟩ := sets_run (k := l.length) (by have := strE_len hst; omega) h4 hZl
 refine E.lead { sS l.length with H := hS l.length ++ Z } (.keep rfl rfl rfl (by simp [sS, fS]) hSX) ?_
 refine E.seq (E.at a4 ?_)
 refine E.seq (E.at a5 ?_)
 refine E.seq (E.at a6 ?_)
 obtain ⟨N, hN⟩ : ∃ N, s.n = N := ⟨_, rfl⟩
 obtain ⟨Y, hY⟩ : ∃ Y, s.H ++ Z = Y := ⟨_, rfl⟩
 have hYs : Sub s.H Y := fun j b hb => by rw [← hY, hget_append, hb]
 have hYz : Sub Z Y := fun j b hb => by
   rw [← hY, hget_append]
   cases hc : hget s.H j with
   | none => exact hb
   | some c' =>
     have h1 := q8 j c' hc
     have h2 := hZl j b hb
     omega
 have hYt := hZt.trans hYz
 have hbs : hget Y 12 = some (.cells [v] 32) := by rw [← hv]; exact hYs _ _ q4
 have hbr : hget Y 13 = some (.cells [rv] 154) := hYz _ _ (by rw [← hZ, hget_cons, if_neg (by omega), hget_cons, if_neg (by omega), hget_cons, if_pos rfl])
 have hbw : hget Y 14 = some (.cells [iv W] 3) := hYz _ _ (by rw [← hZ, hget_cons, if_neg (by omega), hget_cons, if_pos rfl])
 have hK : K166 13 12 14 l rs W Y := ⟨⟨v, hbs, hG.mono hYt⟩, hbw, rv, hbr, listV_mono decR_mono hYt hR⟩
 have hKs : KStr 12 l Y := ⟨v, hbs, hG.mono hYt⟩
 have hnest : nestV Y u9 = some (setsOf l.length) := listV_mono (decL_mono decI_mono) hYs q10
 obtain ⟨i, hi, hI, hSS⟩ := lrg_at (rs := rs) (W := W) hst h4 hrs hWW.2
 have hlen : (setsOf l.length).length < 100 := by
   have : 1 ≤ l.length := by have := strE_len hst; omega
   match l.length, this, h4 with
   | 1, _, _ => decide
   | 2, _, _ => decide
   | 3, _, _ => decide
   | 4, _, _ => decide
 obtain ⟨oa9, c9, he9, _, _, hrow9⟩ := nestV_form hnest
 obtain ⟨a, u, rfl, hf, hc, hu⟩ := hrow9 i hi
 have h165 : ∀ m, g165 13 12 14 l rs W [u9, cl166 13 12 14] Y m = some (iv i, Y, m) := fun m => by
   rw [g165_at hK hst hrs hWW hnest, ← lrgI, hI]
 rw [hSS]
 have hin := (setsOf_lt (k := l.length) (by have := strE_len hst; omega) h4).1 _ (List.getElem_mem hi)
 have h171 := fun m => g171_at (n := m) hKs hu hin
 rw [he9] at h165
 obtain ⟨zs, hzs⟩ : ∃ zs, (setsOf l.length)[i] = zs := ⟨_, rfl⟩
 rw [hzs] at hin h171 hu ⊢
 have hiI : (i : Int) < (setsOf l.length).length := by omega
 obtain ⟨L9, hL9⟩ : ∃ L, (setsOf l.length).length = L := ⟨_, rfl⟩
 rw [hL9] at hi hiI h165 he9
 have hl9 := q9
 rw [he9] at hl9
 refine E.lead { fr := [(3, .pointer (some ⟨12, 0, none⟩)), (4, .pointer (some ⟨13, 0, none⟩)), (5, .pointer (some ⟨14, 0, none⟩)), (6, .slice none 0 0), (7, iv 0), (9, .slice (some a) L9 c9)], sz := 64, H := Y, n := N, marks := [], vs := [3, 4, 5, 6, 7, 9, 13] } (.keep hN.symm q1.symm q2.symm (fun x hx => ?_) (by rw [hY]; exact Sub.refl _)) ?_
 · simp only [List.mem_cons, List.not_mem_nil, or_false] at hx
   rcases hx with rfl | rfl | rfl | rfl | rfl | rfl
   · exact q3 _ _ (by simp [fS])
   · exact q3 _ _ (by simp [fS])
   · exact q3 _ _ (by simp [fS])
   · exact q3 _ _ (by simp [fS])
   · exact q3 _ _ (by simp [fS])
   · exact hl9
 refine E.seq ?_
 refine E.reg hr (by simp [opMakefunc, h165]; rfl) ?_
 refine E.seq ?_
 refine E.reg hr (by simp [-cellA, -flat, opMakefunc, hiI, hf, hc, h171]; rfl) ?_
 refine E.ret ?_
 have hN12 : 12 ≤ N := by omega
 exact outK.ret rfl rfl ((fresh_sb (afL_sv _) (fun ρ => renL_af ρ _ (afL_sv _)) hN12 hYt (hno N hN12)).pair 0)
end Go.Proofs.YtndlfijfjglkdaaGreatDoor

namespace Go.Proofs.YtndlfijfjglkdaaGreatDoor
open Go Go.Ab Go.Proofs
def RulA (H : Heap) (rv : Value) (rs : List Rul) : Prop := (rs = [] ∧ rv = .slice none 0 0) ∨ ∃ a c, rv = .slice (some a) rs.length c ∧ flat a = true ∧ cellsA H a.block a.off (rs.length * 3) = some (rlsL rs) ∧ rs.length < 2147483648
theorem RulA.mono {H H' : Heap} (hs : Sub H H') {rv : Value} {rs : List Rul} (h : RulA H rv rs) : RulA H' rv rs := by
 rcases h with h | ⟨a, c, h1, h2, h3, h4⟩
 · exact .inl h
 · exact .inr ⟨a, c, h1, h2, hs.cells h3, h4⟩
theorem RulA.out {N : Nat} {Z : Heap} {l : List Rul} (hlt : l.length < 2147483648) : RulA (outSB N 182 3 l.length (rlsL l) ++ Z) (outS N l.length) l := by
 by_cases h0 : l.length = 0
 · rw [List.length_eq_zero_iff.1 h0]
   exact .inl ⟨rfl, rfl⟩
 · rw [outS_ne h0, outSB, if_neg h0]
   refine .inr ⟨_, _, rfl, rfl, ?_, hlt⟩
   show cellsA ((N, .ext (rlsL l) 182 3) :: Z) N 0 _ = _
   have hl : (rlsL l).length = l.length * 3 := flat_len (fun r => Rul.cells_length r) l
   rw [cellsA_eq, hget_cons, if_pos rfl]
   simp only [Option.bind_some, cellsB]
   rw [if_pos (by omega), List.drop_zero, List.take_of_length_le (by omega)]
theorem RulA.rul {H : Heap} {rv : Value} {rs : List Rul} (h : RulA H rv rs) : rulV H rv = some rs := by
 rcases h with ⟨rfl, rfl⟩ | ⟨a, c, rfl, h2, h3, h4⟩
 · rfl
 · exact listV_flat (dec := decR) (fun r => Rul.cells_length r) (fun r => decR_cells H r) h2 h3 h4
theorem lrgE_zero {l : List Gun} {rs : List Rul} {W : Nat} (hst : strE l = 0) (hrs : rulsE rs = 0) (hW : 1 ≤ W ∧ W ≤ 64) : lrgE l rs W = 0 := by
 unfold lrgE
 refine (firstV_zero _).2 fun x hx => ?_
 simp only [List.mem_cons, List.not_mem_nil, or_false] at hx
 rcases hx with rfl | rfl | rfl
 · exact hst
 · exact hrs
 · exact (withinV_zero _ _ _).2 (by omega)
theorem w93 {H : Heap} {n : Nat} {v rv : Value} {l : List Gun} {rs : List Rul} {W : Nat} (g0 : hget H 0 = some (.inp 0 names0)) (hG : OwnG H v l) (hR : RulA H rv rs) (h4 : l.length ≤ 4) (hst : strE l = 0) (hrs : rulsE rs = 0) (hW : 1 ≤ W ∧ W ≤ 64) :
   AC Tryz.prog 93 [.agg ⟨[v]⟩, rv, iv W] H n (.tuple #[outS n (lrgS l rs W).length, iv 0]) (outSB n 9 1 (lrgS l rs W).length (nmsC l (lrgS l rs W)) ++ H) (n + 1) := by
 obtain ⟨b, rfl, hrow, hl0, hlt⟩ := hG
 have hb : rowOf H b = some (gcs l, 7) := by
   unfold rowOf
   rcases hrow with h | h <;> rw [h]
 have hZ : lrgZ l rs W = lrgS l rs W := by rw [lrgZ, if_pos (lrgE_zero hst hrs hW), Int.toNat_natCast]
 have key : ∀ (H0 : Heap) (rv0 : Value), hget H0 0 = some (.inp 0 names0) → hget H0 10 = some (.row (gcs l) 7) → rulV H0 rv0 = some rs → AC Tryz.prog 93 [.agg ⟨[.slice (some ⟨10, 0, some 0⟩) l.length 0]⟩, rv0, iv W] H0 12 (.tuple #[outS 12 (lrgS l rs W).length, iv 0]) (outSB 12 9 1 (lrgS l rs W).length (nmsC l (lrgS l rs W)) ++ H0) (12 + 1) := fun H0 rv0 h1 h2 h3 => by
   have := w93c (w := W) h1 ⟨10, rfl, .inr h2, hl0, hlt⟩ h3 h4
   rw [hZ, lrgE_zero hst hrs hW] at this
   exact this
 have part : ∀ R : List Value → Heap → Nat → Prop, (∀ H0 rv0, hget H0 0 = some (.inp 0 names0) → hget H0 10 = some (.row (gcs l) 7) → rulV H0 rv0 = some rs → R [.agg ⟨[.slice (some ⟨10, 0, some 0⟩) l.length 0]⟩, rv0, iv W] H0 12) → Part Tryz.prog [.agg ⟨[.slice (some ⟨b, 0, some 0⟩) l.length 0]⟩, rv, iv W] H n R := fun R hR' => by
   rcases hR with ⟨rfl, rfl⟩ | ⟨a, c, rfl, hf, hc, hlt2⟩
   · refine Part.rowOneG (P := Tryz.prog) (H := H) (n := n) (R := R) (fun x _ => [.agg ⟨[x]⟩, .slice none 0 0, iv W]) (by intro φ φ0 s s0 u u0 h h2; simp [denL, den, h]) (by intro p s u h h2; exact ⟨⟨h, trivial⟩, trivial, trivial, trivial⟩) hb (afL_gcs l) (len := l.length) (skip := 0) (a2 := ⟨0, 0, none⟩) (len2 := 0) (cap2 := 0) (m2 := 0) (cs2 := []) rfl (by rw [cellsA_eq, g0]; rfl) rfl [(0, .inp 0 names0)] (seen0 g0) gsz fun c2 => ?_
     exact hR' _ _ (by simp) (by simp) rfl
   · refine Part.rowOneG (P := Tryz.prog) (H := H) (n := n) (R := R) (fun x y => [.agg ⟨[x]⟩, y, iv W]) (by intro φ φ0 s s0 u u0 h h2; simp [denL, den, h, h2]) (by intro p s u h h2; exact ⟨⟨h, trivial⟩, h2, trivial, trivial⟩) hb (afL_gcs l) (len := l.length) (skip := 0) (len2 := rs.length) (cap2 := c) hf hc (afL_rls rs) [(0, .inp 0 names0)] (seen0 g0) gsz fun c2 => ?_
     refine hR' _ _ (by simp) (by simp) (listV_flat (dec := decR) (fun r => Rul.cells_length r) (fun r => decR_cells _ r) rfl ?_ hlt2)
     have hl : (rlsL rs).length = rs.length * 3 := flat_len (fun r => Rul.cells_length r) rs
     rw [cellsA_eq]
     simp only [hget_cons, if_true, Option.bind_some, cellsB]
     rw [if_pos ⟨Nat.le_refl _, by omega⟩, Nat.sub_self, List.drop_zero, List.take_of_length_le (by omega)]
     rfl
 by_cases hk : (lrgS l rs W).length = 0
 · have h0 : AC Tryz.prog 93 [.agg ⟨[.slice (some ⟨b, 0, some 0⟩) l.length 0]⟩, rv, iv W] H n (.tuple #[.slice none 0 0, iv 0]) H n := AC.liftP rfl (part _ fun H0 rv0 h1 h2 h3 => by
     have := key H0 rv0 h1 h2 h3
     rw [hk] at this
     exact ⟨_, _, this⟩)
   rw [hk]
   exact h0.wider rfl ⟨trivial, trivial, trivial⟩
 · rw [outS_ne hk, outSB, if_neg hk]
   refine AC.liftF (vf := fun m => .tuple #[.slice (some ⟨m, 0, some 0⟩) (lrgS l rs W).length 0, iv 0]) (names_tx _ _ _) (.inr ⟨_, _, _, rfl, afL_sv _⟩) (part _ fun H0 rv0 h1 h2 h3 => ?_)
   have := key H0 rv0 h1 h2 h3
   rw [outS_ne hk, outSB, if_neg hk] at this
   exact ⟨12, _, _, Nat.le_refl _, by simp, this⟩
open Classical in
noncomputable def g93 (args : List Value) (H : Heap) (n : Nat) : R := match args with
 | [.agg ⟨[v]⟩, rv, .int .i64 w] => if h : ∃ p : List Gun × List Rul, OwnG H v p.1 ∧ RulA H rv p.2 then (if hget H 0 = some (.inp 0 names0) ∧ (Classical.choose h).1.length ≤ 4 ∧ strE (Classical.choose h).1 = 0 ∧ rulsE (Classical.choose h).2 = 0 ∧ 1 ≤ w ∧ w ≤ 64 then some (.tuple #[outS n (lrgS (Classical.choose h).1 (Classical.choose h).2 w.toNat).length, iv 0], outSB n 9 1 (lrgS (Classical.choose h).1 (Classical.choose h).2 w.toNat).length (nmsC (Classical.choose h).1 (lrgS (Classical.choose h).1 (Classical.choose h).2 w.toNat)) ++ H, n + 1) else none) else none
 | _ => none
theorem g93_at {H : Heap} {n : Nat} {v rv : Value} {l : List Gun} {rs : List Rul} {W : Nat} (g0 : hget H 0 = some (.inp 0 names0)) (hG : OwnG H v l) (hR : RulA H rv rs) (h4 : l.length ≤ 4) (hst : strE l = 0) (hrs : rulsE rs = 0) (hW : 1 ≤ W ∧ W ≤ 64) :
   g93 [.agg ⟨[v]⟩, rv, iv W] H n = some (.tuple #[outS n (lrgS l rs W).length, iv 0], outSB n 9 1 (lrgS l rs W).length (nmsC l (lrgS l rs W)) ++ H, n + 1) := by
 have he : ∃ p : List Gun × List Rul, OwnG H v p.1 ∧ RulA H rv p.2 := ⟨(l, rs), hG, hR⟩
 simp only [g93]
 rw [dif_pos he]
 obtain ⟨e1, e2⟩ := Classical.choose_spec he
 have e1 := e1.one hG
 have e2 := Option.some.inj (e2.rul.symm.trans hR.rul)
 rw [e1, e2, if_pos ⟨g0, h4, hst, hrs, by omega, by omega⟩, Int.toNat_natCast]
theorem ok93 : EntOk Tryz.prog (93, g93) := by
 intro args H n v H' n' h
 simp only [g93] at h
 split at h
 · rename_i w
   split at h
   · rename_i he
     split at h
     · rename_i hc
       obtain ⟨h1, h2, h3, h4, h5, h6⟩ := hc
       obtain ⟨s1, s2⟩ := Classical.choose_spec he
       generalize Classical.choose he = p at s1 s2 h h2 h3 h4
       injection h with h; injection h with e1 e2; injection e2 with e2 e3; subst e1 e2 e3
       obtain ⟨k, rfl⟩ := Int.eq_ofNat_of_zero_le (show 0 ≤ w by omega)
       exact w93 h1 s1 s2 h2 h3 h4 (by omega)
     · cases h
   · cases h
 · cases h
end Go.Proofs.YtndlfijfjglkdaaGreatDoor

namespace Go.Proofs.YtndlfijfjglkdaaGreatDoor
open Go Go.Ab Go.Proofs Ieee
theorem intV_src {H : Heap} {v : Value} {l : List Int} (h : intV H v = some l) (hne : l.length ≠ 0) : ∃ a c, v = .slice (some a) l.length c ∧ flat a = true ∧ l.length < 2147483648 ∧ cellsA H a.block a.off l.length = some (l.map iv) := by
 obtain ⟨oa, c, e, hlt, _, hrow⟩ := intV_form h
 obtain ⟨a, rfl, hf, _⟩ := hrow 0 (by omega)
 refine ⟨a, c, e, hf, hlt, ?_⟩
 subst e
 unfold intV listV at h
 simp only [if_pos hlt, if_neg hne, hf, if_true, Nat.mul_one] at h
 obtain ⟨cs, hc, hm⟩ := Option.bind_eq_some_iff.1 h
 rw [hc]
 have hl := mapO_get hm
 have hcl : cs.length = l.length := by
   have := hl.1
   rw [chunks_len] at this
   have h2 := cellsA_cell hc (i := 0) (by omega)
   exact h2.2
 congr 1
 refine List.ext_getElem? fun i => ?_
 by_cases hi : i < l.length
 · obtain ⟨a', e1, _, h3⟩ := hrow i hi
   injection e1 with e1
   subst e1
   have h4 := (cellsA_cell hc hi).1
   rw [← h4, h3, List.getElem?_map, List.getElem?_eq_getElem hi]
   rfl
 · rw [List.getElem?_eq_none (by omega), List.getElem?_eq_none (by simp; omega)]
set_option maxRecDepth 20000 in
theorem w95 {H : Heap} {n : Nat} {v : Value} {ns : List Int} (hV : intV H v = some ns) (hs : sampAll ns) :
   AC Tryz.prog 95 [v] H n (outS n ns.length) (outSB n 98 1 ns.length ((ns.map sampB).map fv) ++ H) (n + 1) := by
 refine AC.given fun hold hsc hgn => AC.tidied (fun x hx => outSB_ge x hx) ?_
 replace hV := int_tidy hold hV
 have hne : ns.length ≠ 0 := fun h => hs.1 (List.length_eq_zero_iff.1 h)
 obtain ⟨a, c, rfl, hf, hlt, hc⟩ := intV_src hV hne
 have hr := recT_ok (P := Tryz.prog) (l := [(131, g131)]) (by simp [ok131])
 have h131 : g131 [.slice (some a) ns.length c] (tidy n H) n = some (.slice (some ⟨n, 0, some 0⟩) ns.length 0, (n, .ext ((ns.map sampB).map fv) 98 1) :: tidy n H, n + 1) := by
   simp only [g131, intsAt_iv hf hc hlt]
   rw [if_pos hs, gFlts, if_neg (by simpa using hs.1), List.length_map]
 refine AC.grown Tryz.func95 rfl (by kernel_rfl) rfl [0, 2] ?_
 refine E.seq ?_
 refine E.reg hr (by simp; rfl) ?_
 refine E.seq ?_
 refine E.reg hr (by simp [-List.map_map, h131]; rfl) ?_
 refine E.ret ?_
 have := fresh_sb (n := n) (m := n) (t := 98) (sz := 1) (k := ns.length) (cs := (ns.map sampB).map fv) (H := tidy n H) (Z := tidy n H) (afL_fv _) (fun ρ => renL_af ρ _ (afL_fv _)) (Nat.le_refl _) (Sub.refl _) (by simp)
 rw [outS_ne hne, outSB, if_neg hne] at this ⊢
 exact outK.ret rfl rfl this
theorem bands_same (v : Int) : bacc [v, v, v, v] 1 = (16 * v * v, 0, 0) := by
 have : (v + v + v + v) * (v + v + v + v) = 16 * v * v := by
   rw [show v + v + v + v = 4 * v by omega, Int.mul_assoc 16, Int.mul_assoc 4, Int.mul_left_comm v 4 v, ← Int.mul_assoc 4 4]
   rfl
 simp [bacc, four, this]
theorem bands_turn (v : Int) : bacc [v, -v, v, -v] 1 = (0, 0, 16 * v * v) := by
 have : (v + v + v + v) * (v + v + v + v) = 16 * v * v := by
   rw [show v + v + v + v = 4 * v by omega, Int.mul_assoc 16, Int.mul_assoc 4, Int.mul_left_comm v 4 v, ← Int.mul_assoc 4 4]
   rfl
 have h0 : (v + -v + v + -v) * (v + -v + v + -v) = 0 := by
   rw [show v + -v + v + -v = 0 by omega]
   rfl
 simp [bacc, four, this, h0]
end Go.Proofs.YtndlfijfjglkdaaGreatDoor

namespace Go.Proofs.YtndlfijfjglkdaaGreatDoor
open Go Go.Ab Go.Proofs Go.Soft Ieee
end Go.Proofs.YtndlfijfjglkdaaGreatDoor

namespace Go.Proofs.YtndlfijfjglkdaaGreatDoor
open Go Go.Ab Go.Proofs Ieee
def MemOk (N : Nat) (X : Heap) : Prop := namesOk N X = true ∧ plainH X = true
theorem MemOk.none {N : Nat} {X : Heap} (h : MemOk N X) {k : Nat} (hk : N ≤ k) : hget X k = none := namesOk_none h.1 k hk
theorem MemOk.put {N : Nat} {X : Heap} (h : MemOk N X) {b : Blk} (hb : plainB2 b = true) : MemOk (N + 1) ((N, b) :: X) ∧ Sub X ((N, b) :: X) :=
 ⟨⟨namesOk_put (Nat.lt_succ_self _) (namesOk_mono (Nat.le_succ _) _ h.1), by rw [plainH, hb, h.2]; rfl⟩, Sub.cons (h.none (Nat.le_refl _)) (Sub.refl _)⟩
theorem MemOk.lt {N : Nat} {X : Heap} (h : MemOk N X) {k : Nat} {b : Blk} (hb : hget X k = some b) : k < N := by
 rcases Nat.lt_or_ge k N with h1 | h1
 · exact h1
 · rw [h.none h1] at hb; cases hb
theorem MemOk.own {X : Heap} {N : Nat} {v : Value} {l : List Gun} (hm : MemOk N X) (hs : strAt X (.agg ⟨[v]⟩) = some l) (hl : 1 ≤ l.length ∧ l.length ≤ 8) :
   ∃ x Y, g21 [.agg ⟨[v]⟩] X N = some (.agg ⟨[x]⟩, Y, N + 1) ∧ OwnG Y x l ∧ Sub X Y ∧ MemOk (N + 1) Y := by
 have hne : l ≠ [] := fun e => by rw [e] at hl; simp at hl
 obtain ⟨h1, h2⟩ := hm.put (b := .ext (gcs l) 95 7) rfl
 exact ⟨_, _, strAt_own hs hne (by omega), own_row hne (by omega), h2, h1⟩
theorem valid_ok {l : List Gun} (h : validB l = true) : shortS l = true ∧ l.length ≤ 6 ∧ strE l = 0 := by
 unfold validB at h
 simp only [Bool.and_eq_true, decide_eq_true_eq] at h
 exact ⟨h.1.1, h.1.2, h.2⟩
end Go.Proofs.YtndlfijfjglkdaaGreatDoor

namespace Go.Proofs.YtndlfijfjglkdaaGreatDoor
open Go Go.Ab Go.Proofs Ieee
end Go.Proofs.YtndlfijfjglkdaaGreatDoor

namespace Go.Proofs.YtndlfijfjglkdaaGreatDoor
open Go Go.Ab Go.Proofs Ieee
theorem take_two {α : Type} (cs : List α) (o n m : Nat) : (cs.drop o).take (n + m) = (cs.drop o).take n ++ (cs.drop (o + n)).take m := by
 rw [List.take_add, List.drop_drop]
theorem cellsB_add {o n m : Nat} {b : Blk} {x y : List Value} (h1 : cellsB o n b = some x) (h2 : cellsB (o + n) m b = some y) : cellsB o (n + m) b = some (x ++ y) := by
 cases b with
 | cells cs t =>
   simp only [cellsB] at h1 h2 ⊢
   split at h1 <;> split at h2 <;> first | cases h1; done | cases h2; done | skip
   injection h1 with h1; injection h2 with h2; subst h1 h2
   rw [if_pos (by omega), take_two]
 | ext cs t sz =>
   simp only [cellsB] at h1 h2 ⊢
   split at h1 <;> split at h2 <;> first | cases h1; done | cases h2; done | skip
   injection h1 with h1; injection h2 with h2; subst h1 h2
   rw [if_pos (by omega), take_two]
 | row cs sz =>
   simp only [cellsB] at h1 h2 ⊢
   split at h1 <;> split at h2 <;> first | cases h1; done | cases h2; done | skip
   injection h1 with h1; injection h2 with h2; subst h1 h2
   rw [if_pos (by omega), take_two]
 | inp o' cs =>
   simp only [cellsB] at h1 h2 ⊢
   split at h1 <;> split at h2 <;> first | cases h1; done | cases h2; done | skip
   injection h1 with h1; injection h2 with h2; subst h1 h2
   rw [if_pos (by omega), take_two, show o + n - o' = o - o' + n by omega]
 | _ => cases h1
theorem cellsA_add {H : Heap} {k o n m : Nat} {x y : List Value} (h1 : cellsA H k o n = some x) (h2 : cellsA H k (o + n) m = some y) : cellsA H k o (n + m) = some (x ++ y) := by
 rw [cellsA_eq] at h1 h2 ⊢
 cases hb : hget H k with
 | none => rw [hb] at h1; cases h1
 | some b =>
   rw [hb] at h1 h2
   exact cellsB_add h1 h2
theorem RulsV.rul {H : Heap} {v : Value} {l : List Rul} (h : RulsV H v l) (hl : l.length < 2147483648) : rulV H v = some l := by
 obtain ⟨oa, c, rfl, h1, h2, h3⟩ := h
 by_cases h0 : l.length = 0
 · rw [h0, List.length_eq_zero_iff.1 h0]
   cases oa with
   | none => rw [h2 rfl]; rfl
   | some a => rfl
 · obtain ⟨a, rfl, hf, hc0⟩ := h3 0 (by omega)
   have hall : ∀ k, k + 1 ≤ l.length → cellsA H a.block a.off ((k + 1) * 3) = some (rlsL (l.take (k + 1))) := fun k => by
     induction k with
     | zero =>
       intro hk
       obtain ⟨a', e, _, h4⟩ := h3 0 (by omega)
       injection e with e
       subst e
       rw [Nat.zero_mul, Nat.add_zero] at h4
       rw [show l.take (0 + 1) = [l[0]] by rw [List.take_succ_eq_append_getElem (by omega)]; rfl]
       simpa [rlsL] using h4
     | succ k ih =>
       intro hk
       obtain ⟨a', e, _, h4⟩ := h3 (k + 1) (by omega)
       injection e with e
       subst e
       have := cellsA_add (ih (by omega)) h4
       rw [List.take_succ_eq_append_getElem (by omega : k + 1 < l.length), show (k + 1 + 1) * 3 = (k + 1) * 3 + 3 by omega, this]
       congr 1
       unfold rlsL
       rw [List.flatMap_append, List.flatMap_cons, List.flatMap_nil, List.append_nil]
   have := hall (l.length - 1) (by omega)
   rw [show l.length - 1 + 1 = l.length by omega, List.take_length] at this
   exact listV_flat (dec := decR) (fun r => Rul.cells_length r) (fun r => decR_cells H r) hf this hl
def goOn14 (l : List Gun) (rs : List Rul) : Prop := validB l = true ∧ l.length ≤ 4 ∧ shortR rs = true ∧ rs.length ≤ 4 ∧ rulsE rs = 0
set_option maxRecDepth 20000 in
set_option maxHeartbeats 2000000 in
theorem w14e {H : Heap} {n : Nat} {v rv : Value} {l : List Gun} {rs : List Rul} {x0 x1 : Int} (g0 : hget H 0 = some (.inp 0 names0)) (g3 : hget H 3 = some (.inp 0 tab3)) (hs : strAt H (.agg ⟨[v]⟩) = some l) (hR : RulsV H rv rs) (hno : ¬ goOn14 l rs) : AC Tryz.prog 14 [.agg ⟨[v]⟩, rv, .agg ⟨[bv x0, bv x1]⟩] H n (.bool true) H n := by
 refine AC.given fun hold _ _ => AC.tidied (B := []) (by simp) ?_
 have hlt0 := fun k b h => (hold k b h).1
 replace g0 : hget (tidy n H) 0 = some (.inp 0 names0) := hget_tidy.2 ⟨g0, hlt0 _ _ g0, rfl⟩
 replace g3 : hget (tidy n H) 3 = some (.inp 0 tab3) := hget_tidy.2 ⟨g3, hlt0 _ _ g3, rfl⟩
 replace hs := strAt_tidy hlt0 hs
 replace hR := hR.tidy hlt0
 have hr := recT_ok (P := Tryz.prog) (l := [(18, g18), (52, gStr fun l => .bool (validB l)), (76, g76), (89, g89), (90, gRul fun l => iv (rulsE l))]) (by simp only [List.forall_mem_cons]; exact ⟨ok18, ok52, ok76, ok89, ok90, by simp⟩)
 have hM : MemOk n (tidy n H) := ⟨namesOk_tidy, by simp⟩
 obtain ⟨hM1, hS1⟩ := hM.put (b := Blk.cells [v] 24) rfl
 obtain ⟨hM2, hS2⟩ := hM1.put (b := Blk.cells [bv x0, bv x1] 150) rfl
 obtain ⟨X0, hX0⟩ : ∃ X0, (n + 1, Blk.cells [bv x0, bv x1] 150) :: (n, Blk.cells [v] 24) :: tidy n H = X0 := ⟨_, rfl⟩
 rw [hX0] at hM2 hS2
 have hS0 := hS1.trans hS2
 have hb0 : hget X0 n = some (.cells [v] 24) := hS2 _ _ (by rw [hget_cons, if_pos rfl])
 have h18 : ∀ m, g18 [] X0 m = some (.bool true, X0, m) := fun m => by
   unfold g18
   rw [if_pos ⟨rfl, hS0 _ _ g3, hS0 _ _ g0⟩]
 have hc0 : cellsA X0 n 0 1 = some [v] := by rw [cellsA_eq, hb0]; rfl
 have hs0 := strAt_mono hS0 hs
 have hRx := hR.mono hS0
 have h52 : ∀ m, gStr (fun l => .bool (validB l)) [.agg ⟨[v]⟩] X0 m = some (.bool (validB l), X0, m) := fun m => by
   simp only [gStr, hs0, Option.map_some]
 have h76 : ∀ m, g76 [.agg ⟨[v]⟩] X0 m = some (.bool (decide (l.length ≤ 4)), X0, m) := fun m => by
   simp only [g76, hs0, Option.map_some]
 have h89 : ∀ m, g89 [rv] X0 m = some (.bool (shortR rs), X0, m) := fun m => g89_at hRx
 obtain ⟨oa, c, hrv, _⟩ : ∃ oa c, rv = .slice oa rs.length c ∧ True := by
   obtain ⟨oa, c, e, _⟩ := hRx
   exact ⟨oa, c, e, trivial⟩
 obtain ⟨vb, hvb⟩ : ∃ z, validB l = z := ⟨_, rfl⟩
 obtain ⟨fb, hfb⟩ : ∃ z, decide (l.length ≤ 4) = z := ⟨_, rfl⟩
 obtain ⟨sb, hsb⟩ : ∃ z, shortR rs = z := ⟨_, rfl⟩
 unfold goOn14 at hno
 rw [hvb] at h52 hno
 rw [hfb] at h76
 rw [hsb] at h89 hno
 rw [hrv] at h89
 refine AC.pure Tryz.func14 rfl (by kernel_rfl) rfl [1, 3, 5, 6, 53] rfl ?_
 refine E.seq ?_
 refine E.reg hr (by simp; rfl) ?_
 rw [hX0, hrv]
 refine E.seq ?_
 refine E.seq ?_
 cases vb with
 | false =>
   refine E.reg hr (by simp [-cellsA, h18, hc0, h52, undefV]; rfl) ?_
   refine E.cond (t := true) (by simp) (fun _ => ?_) (fun h => by cases h)
   refine E.seq ?_
   refine E.reg hr (by simp [h18]; rfl) ?_
   refine E.ret ?_
   exact pureK.ret rfl rfl (by simp) hS0
 | true =>
 cases fb with
 | false =>
   refine E.reg hr (by simp [-cellsA, h18, hc0, h52, h76, undefV]; rfl) ?_
   refine E.cond (t := true) (by simp) (fun _ => ?_) (fun h => by cases h)
   refine E.seq ?_
   refine E.reg hr (by simp [h18]; rfl) ?_
   refine E.ret ?_
   exact pureK.ret rfl rfl (by simp) hS0
 | true =>
 cases sb with
 | false =>
   refine E.reg hr (by simp [-cellsA, h18, hc0, h52, h76, h89, undefV]; rfl) ?_
   refine E.cond (t := true) (by simp) (fun _ => ?_) (fun h => by cases h)
   refine E.seq ?_
   refine E.reg hr (by simp [h18]; rfl) ?_
   refine E.ret ?_
   exact pureK.ret rfl rfl (by simp) hS0
 | true =>
 by_cases hl4 : rs.length ≤ 4
 · have hl4I : ¬ (4 : Int) < rs.length := by omega
   have hrz : rulsE rs ≠ 0 := fun h => hno ⟨rfl, of_decide_eq_true hfb, rfl, hl4, h⟩
   have hRv : rulV X0 (.slice oa rs.length c) = some rs := by rw [← hrv]; exact hRx.rul (by omega)
   have h90 : ∀ m, gRul (fun l => iv (rulsE l)) [.slice oa rs.length c] X0 m = some (iv (rulsE rs), X0, m) := fun m => by
     simp only [gRul, hRv, Option.map_some]
   obtain ⟨q, hq⟩ : ∃ q, rulsE rs = q := ⟨_, rfl⟩
   rw [hq] at h90 hrz
   refine E.reg hr (by simp [-cellsA, h18, hc0, h52, h76, h89, h90, hl4I, hrz]; rfl) ?_
   refine E.cond (t := true) (by simp) (fun _ => ?_) (fun h => by cases h)
   refine E.seq ?_
   refine E.reg hr (by simp [h18]; rfl) ?_
   refine E.ret ?_
   exact pureK.ret rfl rfl (by simp) hS0
 · have hl4I : (4 : Int) < rs.length := by omega
   refine E.reg hr (by simp [-cellsA, h18, hc0, h52, h76, h89, hl4I, undefV]; rfl) ?_
   refine E.cond (t := true) (by simp) (fun _ => ?_) (fun h => by cases h)
   refine E.seq ?_
   refine E.reg hr (by simp [h18]; rfl) ?_
   refine E.ret ?_
   exact pureK.ret rfl rfl (by simp) hS0
end Go.Proofs.YtndlfijfjglkdaaGreatDoor

namespace Go.Proofs.YtndlfijfjglkdaaGreatDoor
open Go Go.Ab Go.Proofs
theorem sigF_congr {b b' : Nat → Bool} {l : List Gun} {sh : List Int} {d : ByteArray} {W : Nat} : ∀ k, (∀ i, i < k → b i = b' i) → sigF b l sh d W k = sigF b' l sh d W k
 | 0, _ => rfl
 | k + 1, h => by
   rw [sigF, sigF, h k (Nat.lt_succ_self _), sigF_congr k fun i hi => h i (by omega)]
theorem refB_congr {b b' : Nat → Bool} {l : List Gun} {q : Rul} {W : Nat} (h : ∀ i, i < l.length → b i = b' i) : refB b l q W = refB b' l q W := by
 unfold refB bandF
 rw [sigF_congr l.length h]
theorem refIdx_congr {b b' : Nat → Bool} {l : List Gun} {rs : List Rul} {W : Nat} (h : ∀ i, i < l.length → b i = b' i) : ∀ k, refIdx b l rs W k = refIdx b' l rs W k
 | 0 => rfl
 | k + 1 => by
   rw [refIdx, refIdx, refIdx_congr h k]
   cases rs[k]? with
   | none => rfl
   | some q => simp only [refB_congr (q := q) (W := W) h]
theorem refIdx_nil {b : Nat → Bool} {l : List Gun} {rs : List Rul} {W : Nat} : ∀ k, k ≤ rs.length → (refIdx b l rs W k = [] ↔ ∀ i (_ : i < k), refAt b l rs W i = false)
 | 0, _ => ⟨fun _ i hi => absurd hi (Nat.not_lt_zero i), fun _ => rfl⟩
 | k + 1, hk => by
   have ih := refIdx_nil (b := b) (l := l) (rs := rs) (W := W) k (by omega)
   have hkl : k < rs.length := hk
   rw [refIdx, List.getElem?_eq_getElem hkl]
   dsimp only
   have ha := refAt_at (b := b) (l := l) (W := W) hkl
   constructor
   · intro h
     obtain ⟨h1, h2⟩ := List.append_eq_nil_iff.1 h
     intro i hi
     by_cases e : i = k
     · subst e
       rw [ha]
       cases hc : refB b l rs[i] W
       · rfl
       · rw [hc] at h2; cases h2
     · exact ih.1 h1 i (by omega)
   · intro h
     rw [ih.2 fun i hi => h i (by omega), ← ha, h k (Nat.lt_succ_self _)]
     rfl
theorem anyB_false {b : Nat → Bool} {l : List Gun} {rs : List Rul} {W : Nat} : anyB b l rs W = false ↔ refIdx b l rs W rs.length = [] := by
 rw [refIdx_nil _ (Nat.le_refl _), anyB]
 rcases fstT_cases (refAt b l rs W) rs.length with ⟨i, h1, h2, _, h4⟩ | ⟨h1, h2⟩
 · rw [h4]
   constructor
   · intro h
     have := of_decide_eq_false h
     omega
   · intro h
     rw [h i h1] at h2
     cases h2
 · rw [h2]
   exact ⟨fun _ => h1, fun _ => by decide⟩
theorem hasW_nms {l : List Gun} {zs : List Int} (hst : strE l = 0) (hz : ∀ z ∈ zs, 0 ≤ z ∧ z.toNat < l.length) {i : Nat} (hi : i < l.length) : hasW l[i].name (nmsL l zs) = decide ((i : Int) ∈ zs) := by
 have hd := (strE_zero hst).2.2.1
 rw [Bool.eq_iff_iff, hasW_iff, decide_eq_true_iff, nmsL, List.mem_map]
 constructor
 · rintro ⟨z, h1, h2⟩
   obtain ⟨h3, h4⟩ := hz z h1
   rw [gnmAt_at h4] at h2
   have := hd _ _ h4 hi h2
   rw [show (i : Int) = z by omega]
   exact h1
 · intro h
   exact ⟨i, h, by rw [Int.toNat_natCast, gnmAt_at hi]⟩
theorem stays_nms {l : List Gun} {zs : List Int} (hst : strE l = 0) (hz : ∀ z ∈ zs, 0 ≤ z ∧ z.toNat < l.length) : ∀ i, i < l.length → staysB l (nmsL l zs) i = outB zs i := fun i hi => by
 unfold staysB outB
 rw [List.getElem?_eq_getElem hi]
 dsimp only
 rw [hasW_nms hst hz hi]
theorem dropE_nms {l : List Gun} {zs : List Int} (hst : strE l = 0) (hz : ∀ z ∈ zs, 0 ≤ z ∧ z.toNat < l.length) (hnd : zs.Nodup) : dropE l (nmsL l zs) = 0 := by
 have hd := (strE_zero hst).2.2.1
 have hln : (nmsL l zs).length = zs.length := List.length_map ..
 refine (firstV_zero _).2 fun x hx => ?_
 obtain ⟨i, hi, rfl⟩ := List.mem_map.1 hx
 rw [List.mem_range] at hi
 have hiz : i < zs.length := by omega
 obtain ⟨h1, h2⟩ := hz zs[i] (List.getElem_mem hiz)
 have hn : (nmsL l zs)[i] = l[zs[i].toNat].name := by
   simp only [nmsL, List.getElem_map]
   exact gnmAt_at h2
 rw [dropC_at hi, hn]
 have ha : atV l l[zs[i].toNat].name l.length = zs[i].toNat := atV_hit (Nat.le_refl _) h2 rfl fun j hj e => by
   have := hd j _ (by omega) h2 e
   omega
 have hw : hasW l[zs[i].toNat].name ((nmsL l zs).take i) = false := by
   rw [Bool.eq_false_iff]
   intro h
   rw [hasW_iff, nmsL, ← List.map_take, List.mem_map] at h
   obtain ⟨z, h3, h4⟩ := h
   obtain ⟨h5, h6⟩ := hz z (List.mem_of_mem_take h3)
   rw [gnmAt_at h6] at h4
   have := hd _ _ h6 h2 h4
   have hzz : z = zs[i] := by omega
   subst hzz
   obtain ⟨j, hj, e⟩ := List.getElem_of_mem h3
   rw [List.length_take] at hj
   rw [List.getElem_take] at e
   have := (List.getElem_inj hnd).1 e
   omega
 rw [ha, hw]
 rw [show decide ((zs[i].toNat : Int) < 0) = false by rw [decide_eq_false_iff_not]; omega]
 rfl
theorem refdE_nms {l : List Gun} {rs : List Rul} {zs : List Int} {W : Nat} (hst : strE l = 0) (hrs : rulsE rs = 0) (hW : 1 ≤ W ∧ W ≤ 64) (hz : ∀ z ∈ zs, 0 ≤ z ∧ z.toNat < l.length) (hnd : zs.Nodup) : refdE l rs (nmsL l zs) W = 0 := by
 unfold refdE
 rw [hst, hrs, if_pos (by decide), dropE_nms hst hz hnd]
 refine (firstV_zero _).2 fun x hx => ?_
 simp only [List.mem_cons, List.not_mem_nil, or_false] at hx
 rcases hx with rfl | rfl
 · rfl
 · exact (withinV_zero _ _ _).2 (by omega)
theorem refdL_nms {l : List Gun} {rs : List Rul} {zs : List Int} {W : Nat} (hst : strE l = 0) (hrs : rulsE rs = 0) (hW : 1 ≤ W ∧ W ≤ 64) (hz : ∀ z ∈ zs, 0 ≤ z ∧ z.toNat < l.length) (hnd : zs.Nodup) : refdL l rs (nmsL l zs) W = refIdx (outB zs) l rs W rs.length := by
 unfold refdL
 rw [if_pos (refdE_nms hst hrs hW hz hnd), Int.toNat_natCast]
 exact refIdx_congr (stays_nms hst hz) _
theorem refIdx_mem {b : Nat → Bool} {l : List Gun} {rs : List Rul} {W : Nat} {z : Int} : ∀ k, z ∈ refIdx b l rs W k → ∃ i, ∃ hi : i < rs.length, i < k ∧ z = i ∧ refB b l rs[i] W = true
 | 0, h => by cases h
 | k + 1, h => by
   rw [refIdx, List.mem_append] at h
   rcases h with h | h
   · obtain ⟨i, h1, h2, h3⟩ := refIdx_mem k h
     exact ⟨i, h1, by omega, h3⟩
   · by_cases hk : k < rs.length
     · rw [List.getElem?_eq_getElem hk] at h
       dsimp only at h
       split at h
       · rename_i hb
         rw [List.mem_singleton] at h
         exact ⟨k, hk, Nat.lt_succ_self _, h, hb⟩
       · cases h
     · rw [List.getElem?_eq_none (by omega)] at h
       cases h
theorem refB_least {b : Nat → Bool} {l : List Gun} {q : Rul} {W : Nat} (hst : strE l = 0) (hW : W ≤ 64) (h : refB b l q W = true) : q.least ≠ 0 := fun e => by
 have h1 := bandAt_nonneg (b := b) (d := q.dir) (k := q.band) hst hW
 have h2 := of_decide_eq_true h
 rw [e, Int.zero_mul] at h2
 omega
end Go.Proofs.YtndlfijfjglkdaaGreatDoor

namespace Go.Proofs.YtndlfijfjglkdaaGreatDoor
open Go Go.Ab Go.Proofs
def maskS (k m : Nat) : List Int := ((List.range k).filter fun i => decide ((m >>> i) &&& 1 = 1)).map Int.ofNat
theorem setsOf_facts {k : Nat} (h : 1 ≤ k) (h4 : k ≤ 4) : (∀ m, m < 2 ^ k → maskS k m ∈ setsOf k) ∧ (∀ zs ∈ setsOf k, zs.Nodup ∧ zs.length ≤ k) ∧ ∀ j, j < (setsOf k).length → ∀ i, i ≤ j → ((setsOf k).getD j []).length ≤ ((setsOf k).getD i []).length := by
 match k, h, h4 with
 | 1, _, _ => exact ⟨by decide, by decide, by decide⟩
 | 2, _, _ => exact ⟨by decide, by decide, by decide⟩
 | 3, _, _ => exact ⟨by decide, by decide, by decide⟩
 | 4, _, _ => exact ⟨by decide, by decide, by decide⟩
theorem lrg_free {l : List Gun} {rs : List Rul} {W : Nat} (hst : strE l = 0) (h4 : l.length ≤ 4) (hrs : rulsE rs = 0) (hW : W ≤ 64) : lrgS l rs W ∈ setsOf l.length ∧ anyB (outB (lrgS l rs W)) l rs W = false ∧ ∀ zs ∈ setsOf l.length, anyB (outB zs) l rs W = false → zs.length ≤ (lrgS l rs W).length := by
 obtain ⟨i, hi, hI, hS⟩ := lrg_at hst h4 hrs hW
 have hf := setsOf_facts (k := l.length) (by have := strE_len hst; omega) h4
 rcases fstT_cases (freeAt l rs W (setsOf l.length)) (setsOf l.length).length with ⟨j, h2, h3, h5, h6⟩ | ⟨_, h2⟩
 · have hij : i = j := by
     have : lrgI l rs W = (j : Int) := h6
     omega
   subst hij
   rw [freeAt_at hi] at h3
   rw [hS]
   refine ⟨List.getElem_mem hi, by simpa using h3, fun zs hz hfree => ?_⟩
   obtain ⟨m, hm, e⟩ := List.getElem_of_mem hz
   have hmi : i ≤ m := by
     rcases Nat.lt_or_ge m i with h | h
     · have := h5 m h
       rw [freeAt_at hm, e, hfree] at this
       cases this
     · exact h
   have := hf.2.2 m hm i hmi
   rw [List.getD_eq_getElem?_getD, List.getD_eq_getElem?_getD, List.getElem?_eq_getElem hm, List.getElem?_eq_getElem hi] at this
   simpa [e] using this
 · have : lrgI l rs W = -1 := h2
   omega
end Go.Proofs.YtndlfijfjglkdaaGreatDoor

namespace Go.Proofs.YtndlfijfjglkdaaGreatDoor
open Go Go.Ab Go.Proofs
open Classical in
noncomputable def g95 (args : List Value) (H : Heap) (n : Nat) : R := match args with
 | [v] => match intV H v with
   | some ns => if sampAll ns then some (outS n ns.length, outSB n 98 1 ns.length ((ns.map sampB).map fv) ++ H, n + 1) else none
   | none => none
 | _ => none
theorem g95_at {H : Heap} {n : Nat} {v : Value} {ns : List Int} (hV : intV H v = some ns) (hs : sampAll ns) : g95 [v] H n = some (outS n ns.length, outSB n 98 1 ns.length ((ns.map sampB).map fv) ++ H, n + 1) := by
 simp only [g95, hV]
 rw [if_pos hs]
theorem ok95 : EntOk Tryz.prog (95, g95) := by
 intro args H n v H' n' h
 simp only [g95] at h
 split at h
 · split at h
   · rename_i ns hV
     split at h
     · rename_i hs
       injection h with h; injection h with e1 e2; injection e2 with e2 e3; subst e1 e2 e3
       exact w95 hV hs
     · cases h
   · cases h
 · cases h
theorem intV_out {N : Nat} {Z : Heap} {l : List Int} (hlt : l.length < 2147483648) : intV (outSB N 3 1 l.length (l.map iv) ++ Z) (outS N l.length) = some l := by
 rw [List.map_eq_flatMap]
 exact listV_outS (dec := decI) (c := fun z => [iv z]) (fun _ => rfl) (fun _ _ => rfl) hlt
theorem strV_out {N : Nat} {Z : Heap} {l : List ByteArray} (hlt : l.length < 2147483648) : Ab.strV (outSB N 9 1 l.length (l.map sv) ++ Z) (outS N l.length) = some l := by
 rw [List.map_eq_flatMap]
 exact listV_outS (dec := decS) (c := fun z => [sv z]) (fun _ => rfl) (fun _ _ => rfl) hlt
theorem refdL_len (l : List Gun) (rs : List Rul) (ws : List ByteArray) (w : Int) : (refdL l rs ws w).length ≤ rs.length := by
 unfold refdL
 split
 · exact refIdx_len _ _ _ _ _
 · simp
section
variable {X : Heap} {N : Nat}
theorem MemOk.sb (hm : MemOk N X) {t sz k : Nat} {cs : List Value} (hp : plainB2 (.ext cs t sz) = true) : MemOk (N + 1) (outSB N t sz k cs ++ X) ∧ Sub X (outSB N t sz k cs ++ X) := by
 by_cases h : k = 0
 · rw [outSB, if_pos h]
   exact ⟨⟨namesOk_mono (Nat.le_succ _) _ hm.1, hm.2⟩, Sub.refl _⟩
 · rw [outSB, if_neg h]
   exact hm.put hp
theorem MemOk.rules (hm : MemOk N X) {rv : Value} {rs : List Rul} (hR : RulsV X rv rs) (hl : rs.length < 2147483648) : ∃ r Y, g92 [rv] X N = some (r, Y, N + 1) ∧ RulA Y r rs ∧ Sub X Y ∧ MemOk (N + 1) Y := by
 obtain ⟨h1, h2⟩ := hm.sb (t := 182) (sz := 3) (k := rs.length) (cs := rlsL rs) rfl
 exact ⟨_, _, g92_at hR hl, RulA.out hl, h2, h1⟩
theorem MemOk.refused (hm : MemOk N X) (g0 : hget X 0 = some (.inp 0 names0)) {x r u : Value} {l : List Gun} {rs : List Rul} {ws : List ByteArray} {W : Nat} (hG : OwnG X x l) (hR : RulA X r rs) (hl : rs.length < 2147483648) (hW : OwnW X u ws) :
   ∃ Y, g91 [.agg ⟨[x]⟩, r, u, iv W] X N = some (.tuple #[outS N (refdL l rs ws W).length, iv (refdE l rs ws W)], Y, N + 1) ∧ intV Y (outS N (refdL l rs ws W).length) = some (refdL l rs ws W) ∧ Sub X Y ∧ MemOk (N + 1) Y := by
 obtain ⟨h1, h2⟩ := hm.sb (t := 3) (sz := 1) (k := (refdL l rs ws W).length) (cs := (refdL l rs ws W).map iv) rfl
 refine ⟨_, g91_at g0 (.inl ⟨_, rfl, hG⟩) hR.rul hW, intV_out (by have := refdL_len l rs ws W; omega), h2, h1⟩
theorem MemOk.largest (hm : MemOk N X) (g0 : hget X 0 = some (.inp 0 names0)) {x r : Value} {l : List Gun} {rs : List Rul} {W : Nat} (hG : OwnG X x l) (hR : RulA X r rs) (h4 : l.length ≤ 4) (hst : strE l = 0) (hrs : rulsE rs = 0) (hW : 1 ≤ W ∧ W ≤ 64) :
   ∃ Y, g93 [.agg ⟨[x]⟩, r, iv W] X N = some (.tuple #[outS N (lrgS l rs W).length, iv 0], Y, N + 1) ∧ Ab.strV Y (outS N (lrgS l rs W).length) = some (nmsL l (lrgS l rs W)) ∧ Sub X Y ∧ MemOk (N + 1) Y := by
 obtain ⟨h1, h2⟩ := hm.sb (t := 9) (sz := 1) (k := (lrgS l rs W).length) (cs := nmsC l (lrgS l rs W)) rfl
 refine ⟨_, g93_at g0 hG hR h4 hst hrs hW, ?_, h2, h1⟩
 have hf := (setsOf_facts (k := l.length) (by have := strE_len hst; omega) h4).2.1 _ (lrg_free hst h4 hrs hW.2).1
 have hl : (nmsL l (lrgS l rs W)).length = (lrgS l rs W).length := List.length_map ..
 have := strV_out (N := N) (Z := X) (l := nmsL l (lrgS l rs W)) (by omega)
 rw [hl] at this
 exact this
end
end Go.Proofs.YtndlfijfjglkdaaGreatDoor

namespace Go.Proofs.YtndlfijfjglkdaaGreatDoor
open Go Go.Ab Go.Proofs Ieee
theorem bandE_samp {ns : List Int} (h : ∀ x ∈ ns, -4096 ≤ x ∧ x ≤ 4096) (hl : ns.length = 4) : bandE (ns.map sampB) = .tuple #[bandV (bacc ns 1), iv 0] := by
 obtain ⟨h1, h2⟩ := samps_good h
 have hz : chkV 1024 (ns.map sampB) = 0 := by
   unfold chkV
   rw [if_neg (by rw [List.length_map, hl]; decide)]
   refine (firstV_zero _).2 fun x hx => ?_
   obtain ⟨b, hb, rfl⟩ := List.mem_map.1 hx
   have hg := h1 b hb
   have hf : fin32 b = true := by
     unfold good32 at hg
     simp only [Bool.and_eq_true] at hg
     exact hg.1.1
   unfold err32
   rw [if_pos hf, if_pos hg]
 unfold bandE
 rw [if_pos hz, sixN, h2, List.length_map, hl]
theorem samp4 {v : Int} (h : 0 ≤ v ∧ v ≤ 255) : sampAll [v, v, v, v] ∧ sampAll [v, -v, v, -v] := by
 constructor
 · refine ⟨by simp, by simp, fun x hx => ?_⟩
   simp only [List.mem_cons, List.not_mem_nil, or_false] at hx
   omega
 · refine ⟨by simp, by simp, fun x hx => ?_⟩
   simp only [List.mem_cons, List.not_mem_nil, or_false] at hx
   omega
section
variable {X : Heap} {N : Nat}
theorem samp_call (_hm : MemOk N X) {ns : List Int} (hs : sampAll ns) (hl : ns.length = 4) :
   g95 [.slice (some ⟨N, 0, none⟩) 4 4] ((N, .cells (ns.map iv) 3) :: X) (N + 1) = some (.slice (some ⟨N + 1, 0, some 0⟩) 4 0, (N + 1, .ext ((ns.map sampB).map fv) 98 1) :: (N, .cells (ns.map iv) 3) :: X, N + 1 + 1) ∧
   ∀ m, g80 [.slice (some ⟨N + 1, 0, some 0⟩) 4 0] ((N + 1, .ext ((ns.map sampB).map fv) 98 1) :: (N, .cells (ns.map iv) 3) :: X) m = some (.tuple #[bandV (bacc ns 1), iv 0], (N + 1, .ext ((ns.map sampB).map fv) 98 1) :: (N, .cells (ns.map iv) 3) :: X, m) := by
 refine ⟨?_, fun m => ?_⟩
 · have hV : intV ((N, .cells (ns.map iv) 3) :: X) (.slice (some ⟨N, 0, none⟩) ns.length 4) = some ns := intV_cells (t := 3) (by rw [hget_cons, if_pos rfl]) (by omega)
   have := g95_at (n := N + 1) hV hs
   rw [hl, outS_ne (by decide), outSB, if_neg (by decide)] at this
   exact this
 · have hV := fltV_ext (H := (N + 1, .ext ((ns.map sampB).map fv) 98 1) :: (N, .cells (ns.map iv) 3) :: X) (k := N + 1) (c := 0) (t := 98) (l := ns.map sampB) (by rw [hget_cons, if_pos rfl]) (by rw [List.length_map]; omega)
   rw [List.length_map, hl] at hV
   simp only [g80, hV, Option.map_some]
   rw [bandE_samp hs.2.2 hl]
end
end Go.Proofs.YtndlfijfjglkdaaGreatDoor

namespace Go.Proofs.YtndlfijfjglkdaaGreatDoor
open Go Go.Ab Go.Proofs
theorem build50a {fr : Fr} {H : Heap} {n t : Nat} {a : Int} (h : evO Tryz.prog fr (.tmp t) = some (iv a)) : opBuild Tryz.prog 50 #[(0, .tmp t), (1, .const (.int .i64 0)), (2, .const (.int .i64 0))] fr H n = some (.agg ⟨[iv a, iv 0, iv 0]⟩, H, n) := by
 unfold opBuild
 simp [h]
 rfl
theorem build50c {fr : Fr} {H : Heap} {n t : Nat} {a : Int} (h : evO Tryz.prog fr (.tmp t) = some (iv a)) : opBuild Tryz.prog 50 #[(0, .const (.int .i64 0)), (1, .const (.int .i64 0)), (2, .tmp t)] fr H n = some (.agg ⟨[iv 0, iv 0, iv a]⟩, H, n) := by
 unfold opBuild
 simp [h]
 rfl
set_option maxRecDepth 20000 in
set_option maxHeartbeats 4000000 in
theorem w14z {T X : Heap} {n N : Nat} {v x0 : Int} (hm : MemOk N X) (hS : Sub T X) (hb : hget X (n + 1) = some (.cells [bv x0, bv v] 150)) (hv : 0 ≤ v ∧ v ≤ 255) :
   E Tryz.prog n none (cFrom (bodyOf Tryz.f14) 9) { fr := [(5, .pointer (some ⟨n + 1, 0, none⟩)), (6, .bool false)], sz := 239, H := X, n := N, marks := [], vs := [5, 6, 22, 23, 24, 25, 26] } (pureK Tryz.prog Tryz.f14 T (.bool true)) := by
 have hr := recT_ok (P := Tryz.prog) (l := [(95, g95), (80, g80)]) (by simp only [List.forall_mem_cons]; exact ⟨ok95, ok80, by simp⟩)
 have hc : cellA X (n + 1) 1 = some (bv v) := by rw [cellA_eq, hb]; rfl
 have hw8 : IntKind.i64.wrap v = v := W_in (by omega) (by omega)
 have hwn : IntKind.i64.wrap (-v) = -v := W_in (by omega) (by omega)
 have hw16 : IntKind.i64.wrap (16 * v) = 16 * v := W_in (by omega) (by omega)
 have hvv : 0 ≤ 16 * v * v ∧ 16 * v * v ≤ 1040400 := by
   have h1 := Int.mul_nonneg (show 0 ≤ 16 * v by omega) hv.1
   have h2 := Int.mul_le_mul (show 16 * v ≤ 4080 by omega) hv.2 hv.1 (by omega)
   omega
 have hwvv : IntKind.i64.wrap (16 * v * v) = 16 * v * v := W_in (by omega) (by omega)
 obtain ⟨s1, s2⟩ := samp4 hv
 obtain ⟨a1, a2⟩ := samp_call hm s1 rfl
 rw [bands_same] at a2
 simp only [List.map_cons, List.map_nil] at a1 a2
 refine E.seq ?_
 refine E.reg hr (by simp [-cellA, hc]; rfl) ?_
 refine E.seq ?_
 refine E.reg hr (by simp [hw8, a1, a2, bandV]; rfl) ?_
 obtain ⟨Z, hZ⟩ : ∃ Z, (N + 1 + 1, Blk.cells [iv (16 * v * v), iv 0, iv 0] 50) :: (N + 1, .ext [fv (sampB v), fv (sampB v), fv (sampB v), fv (sampB v)] 98 1) :: (N, .cells [iv v, iv v, iv v, iv v] 3) :: X = Z := ⟨_, rfl⟩
 obtain ⟨p1, p2⟩ := hm.put (b := .cells [iv v, iv v, iv v, iv v] 3) rfl
 obtain ⟨p3, p4⟩ := p1.put (b := .ext [fv (sampB v), fv (sampB v), fv (sampB v), fv (sampB v)] 98 1) rfl
 obtain ⟨p5, p6⟩ := p3.put (b := .cells [iv (16 * v * v), iv 0, iv 0] 50) rfl
 rw [hZ] at p5 p6
 have hz : hget Z (N + 1 + 1) = some (.cells [iv (16 * v * v), iv 0, iv 0] 50) := by rw [← hZ, hget_cons, if_pos rfl]
 have hSZ := hS.trans (p2.trans (p4.trans p6))
 refine E.lead { fr := [(6, .bool false), (22, iv v), (23, .pointer (some ⟨N + 1 + 1, 0, none⟩)), (24, iv 0)], sz := 239, H := Z, n := N + 1 + 1 + 1, marks := [], vs := [5, 6, 22, 23, 24, 25, 26] } (.keep rfl rfl rfl (by simp) (by rw [← hZ]; exact Sub.refl _)) ?_
 clear a1 a2
 obtain ⟨a1, a2⟩ := samp_call p5 s2 rfl
 rw [bands_turn] at a2
 simp only [List.map_cons, List.map_nil] at a1 a2
 refine E.seq ?_
 refine E.reg hr (by simp [hwn, a1, a2, bandV]; rfl) ?_
 obtain ⟨M, hM⟩ : ∃ M, N + 1 + 1 + 1 = M := ⟨_, rfl⟩
 rw [hM] at p5 ⊢
 have hzM : N + 1 + 1 < M := by omega
 obtain ⟨Y, hY⟩ : ∃ Y, (M + 1 + 1, Blk.cells [iv 0, iv 0, iv (16 * v * v)] 50) :: (M + 1, .ext [fv (sampB v), fv (sampB (-v)), fv (sampB v), fv (sampB (-v))] 98 1) :: (M, .cells [iv v, iv (-v), iv v, iv (-v)] 3) :: Z = Y := ⟨_, rfl⟩
 obtain ⟨q1, q2⟩ := p5.put (b := .cells [iv v, iv (-v), iv v, iv (-v)] 3) rfl
 obtain ⟨q3, q4⟩ := q1.put (b := .ext [fv (sampB v), fv (sampB (-v)), fv (sampB v), fv (sampB (-v))] 98 1) rfl
 obtain ⟨q5, q6⟩ := q3.put (b := .cells [iv 0, iv 0, iv (16 * v * v)] 50) rfl
 rw [hY] at q5 q6
 have hSY := hSZ.trans (q2.trans (q4.trans q6))
 have c1 : cellsA Y (N + 1 + 1) 0 3 = some [iv (16 * v * v), iv 0, iv 0] := by rw [cellsA_eq, (q2.trans (q4.trans q6)) _ _ hz]; rfl
 have c2 : cellsA Y (M + 1 + 1) 0 3 = some [iv 0, iv 0, iv (16 * v * v)] := by rw [cellsA_eq, ← hY, hget_cons, if_pos rfl]; rfl
 refine E.lead { fr := [(6, .bool false), (22, iv v), (23, .pointer (some ⟨N + 1 + 1, 0, none⟩)), (24, iv 0), (25, .pointer (some ⟨M + 1 + 1, 0, none⟩)), (26, iv 0)], sz := 239, H := Y, n := M + 1 + 1 + 1, marks := [], vs := [5, 6, 22, 23, 24, 25, 26] } (.keep rfl rfl rfl (by simp) (by rw [← hY]; exact Sub.refl _)) ?_
 refine E.seq ?_
 refine E.reg hr (by simp [-cellsA, hw16, hwvv, c1, c2, build50a, build50c, eq50]; rfl) ?_
 refine E.ret ?_
 exact pureK.ret rfl rfl (by simp) hSY
end Go.Proofs.YtndlfijfjglkdaaGreatDoor

namespace Go.Proofs.YtndlfijfjglkdaaGreatDoor
open Go Go.Ab Go.Proofs
structure M14 (T X : Heap) (n N : Nat) (v rv : Value) (x0 x1 : Int) (l : List Gun) (rs : List Rul) : Prop where
 sub : Sub T X
 mem : MemOk N X
 g0 : hget X 0 = some (.inp 0 names0)
 box0 : hget X n = some (.cells [v] 24)
 box1 : hget X (n + 1) = some (.cells [bv x0, bv x1] 150)
 str : strAt X (.agg ⟨[v]⟩) = some l
 rul : RulsV X rv rs
theorem M14.more {T X Y : Heap} {n N M : Nat} {v rv : Value} {x0 x1 : Int} {l : List Gun} {rs : List Rul} (h : M14 T X n N v rv x0 x1 l rs) (hs : Sub X Y) (hm : MemOk M Y) : M14 T Y n M v rv x0 x1 l rs :=
 ⟨h.sub.trans hs, hm, hs _ _ h.g0, hs _ _ h.box0, hs _ _ h.box1, strAt_mono hs h.str, h.rul.mono hs⟩
abbrev vs14 : List Nat := [1, 3, 5, 6, 7, 8, 9, 10, 11, 12, 13, 14, 15, 16, 17, 18, 19, 21, 22, 23, 24, 25, 26, 118, 119, 123, 124, 125, 166, 167, 168]
theorem refd_group {X : Heap} {N : Nat} {v rv u : Value} {l : List Gun} {rs : List Rul} {ws : List ByteArray} {W : Nat} (hm : MemOk N X) (g0 : hget X 0 = some (.inp 0 names0)) (hs : strAt X (.agg ⟨[v]⟩) = some l) (hl : 1 ≤ l.length ∧ l.length ≤ 8) (hR : RulsV X rv rs) (hr : rs.length < 2147483648) (hW : OwnW X u ws) :
   ∃ x Y1 r Y2 Y3, g21 [.agg ⟨[v]⟩] X N = some (.agg ⟨[x]⟩, Y1, N + 1) ∧ g92 [rv] Y1 (N + 1) = some (r, Y2, N + 1 + 1) ∧ g91 [.agg ⟨[x]⟩, r, u, iv W] Y2 (N + 1 + 1) = some (.tuple #[outS (N + 1 + 1) (refdL l rs ws W).length, iv (refdE l rs ws W)], Y3, N + 1 + 1 + 1) ∧ intV Y3 (outS (N + 1 + 1) (refdL l rs ws W).length) = some (refdL l rs ws W) ∧ Sub X Y3 ∧ MemOk (N + 1 + 1 + 1) Y3 := by
 obtain ⟨x, Y1, h1, hG, s1, m1⟩ := hm.own hs hl
 obtain ⟨r, Y2, h2, hA, s2, m2⟩ := m1.rules (hR.mono s1) hr
 obtain ⟨Y3, h3, h4, s3, m3⟩ := m2.refused ((s1.trans s2) _ _ g0) (hG.mono s2) hA hr (W := W) (hW.mono (s1.trans s2))
 exact ⟨x, Y1, r, Y2, Y3, h1, h2, h3, h4, s1.trans (s2.trans s3), m3⟩
theorem lrg_group {X : Heap} {N : Nat} {v rv : Value} {l : List Gun} {rs : List Rul} {W : Nat} (hm : MemOk N X) (g0 : hget X 0 = some (.inp 0 names0)) (hs : strAt X (.agg ⟨[v]⟩) = some l) (h4 : l.length ≤ 4) (hst : strE l = 0) (hrs : rulsE rs = 0) (hW : 1 ≤ W ∧ W ≤ 64) (hR : RulsV X rv rs) :
   ∃ x Y1 r Y2 Y3, g21 [.agg ⟨[v]⟩] X N = some (.agg ⟨[x]⟩, Y1, N + 1) ∧ g92 [rv] Y1 (N + 1) = some (r, Y2, N + 1 + 1) ∧ g93 [.agg ⟨[x]⟩, r, iv W] Y2 (N + 1 + 1) = some (.tuple #[outS (N + 1 + 1) (lrgS l rs W).length, iv 0], Y3, N + 1 + 1 + 1) ∧ Ab.strV Y3 (outS (N + 1 + 1) (lrgS l rs W).length) = some (nmsL l (lrgS l rs W)) ∧ Sub X Y3 ∧ MemOk (N + 1 + 1 + 1) Y3 := by
 have hr := (rulsE_zero hrs).1
 have hln := strE_len hst
 obtain ⟨x, Y1, h1, hG, s1, m1⟩ := hm.own hs (by omega)
 obtain ⟨r, Y2, h2, hA, s2, m2⟩ := m1.rules (hR.mono s1) (by omega)
 obtain ⟨Y3, h3, h5, s3, m3⟩ := m2.largest ((s1.trans s2) _ _ g0) (hG.mono s2) hA h4 hst hrs hW
 exact ⟨x, Y1, r, Y2, Y3, h1, h2, h3, h5, s1.trans (s2.trans s3), m3⟩
end Go.Proofs.YtndlfijfjglkdaaGreatDoor

namespace Go.Proofs.YtndlfijfjglkdaaGreatDoor
open Go Go.Ab Go.Proofs
theorem fdiv_shr (m i : Nat) : ((m : Int)).fdiv (2 ^ i) = ((m >>> i : Nat) : Int) := by
 rw [Int.fdiv_eq_ediv_of_nonneg _ (by exact_mod_cast Nat.zero_le (2 ^ i)), Nat.shiftRight_eq_div_pow]
 norm_cast
theorem bin_shrN {P : Program} {t : TypeId} {x y : Operand} {H : Heap} {k m i : Nat} (hi : i ≤ 64) : binV P .shr t x y (.int .i64 (m : Int)) (.int .i64 (i : Int)) H k = some (.int .i64 ((m >>> i : Nat) : Int), H, k) := by
 have h0 : ¬ (i : Int) < 0 := by omega
 have h1 : min ((i : Int).toNat) (IntKind.bits .i64) = i := by
   rw [Int.toNat_natCast]
   exact Nat.min_eq_left hi
 have : runP P (do eqGuard .shr t x y (.int .i64 (m : Int)) (.int .i64 (i : Int)); binOp .shr t (.int .i64 (m : Int)) (.int .i64 (i : Int))) = some (.int .i64 ((m >>> i : Nat) : Int)) := by
   have e : Op.shift .shr .i64 (m : Int) .i64 (i : Int) = pure (.int .i64 ((m >>> i : Nat) : Int)) := by
     simp only [Op.shift, if_neg h0, h1, fdiv_shr]
   show runP P (Op.shift .shr .i64 (m : Int) .i64 (i : Int)) = _
   rw [e]
   rfl
 simp [binV, this]
theorem and_one : ∀ q : Nat, q < 16 → IntKind.i64.wrap ((BitVec.ofInt 64 (q : Int) &&& BitVec.ofInt 64 1).toNat) = ((q &&& 1 : Nat) : Int) := by decide
theorem bin_andN {P : Program} {t : TypeId} {x y : Operand} {H : Heap} {k q : Nat} (hq : q < 16) : binV P .and t x y (.int .i64 (q : Int)) (.int .i64 1) H k = some (.int .i64 ((q &&& 1 : Nat) : Int), H, k) := by
 have : runP P (do eqGuard .and t x y (.int .i64 (q : Int)) (.int .i64 1); binOp .and t (.int .i64 (q : Int)) (.int .i64 1)) = some (.int .i64 ((q &&& 1 : Nat) : Int)) := by
   show some (Value.int .i64 (IntKind.i64.wrap ((BitVec.ofInt 64 (q : Int) &&& BitVec.ofInt 64 1).toNat))) = _
   rw [and_one q hq]
 simp [binV, this]
theorem bin_shl1 {P : Program} {t : TypeId} {x y : Operand} {H : Heap} {k : Nat} : ∀ i : Nat, i ≤ 4 → binV P .shl t x y (.int .i64 1) (.int .i64 (i : Int)) H k = some (.int .i64 ((2 ^ i : Nat) : Int), H, k) := by
 intro i hi
 match i, hi with
 | 0, _ => rfl
 | 1, _ => rfl
 | 2, _ => rfl
 | 3, _ => rfl
 | 4, _ => rfl
theorem maskS_succ (k m : Nat) : maskS (k + 1) m = maskS k m ++ (if (m >>> k) &&& 1 = 1 then [(k : Int)] else []) := by
 unfold maskS
 rw [List.range_succ, List.filter_append, List.map_append]
 congr 1
 by_cases h : (m >>> k) &&& 1 = 1
 · rw [if_pos h, List.filter_cons, if_pos (decide_eq_true h)]; rfl
 · rw [if_neg h, List.filter_cons, if_neg (by rw [decide_eq_false h]; decide)]; rfl
theorem maskS_lt {k m : Nat} : ∀ z ∈ maskS k m, 0 ≤ z ∧ z.toNat < k := fun z hz => by
 unfold maskS at hz
 obtain ⟨i, hi, rfl⟩ := List.mem_map.1 hz
 have := List.mem_range.1 (List.mem_filter.1 hi).1
 exact ⟨Int.natCast_nonneg _, by simpa using this⟩
theorem maskS_len {k m : Nat} : (maskS k m).length ≤ k := by
 unfold maskS
 rw [List.length_map]
 exact Nat.le_trans (List.length_filter_le _ _) (by rw [List.length_range]; exact Nat.le_refl _)
theorem nmsL_one {l : List Gun} {zs : List Int} {i : Nat} (h : i < l.length) : nmsL l (zs ++ [(i : Int)]) = nmsL l zs ++ [l[i].name] := by
 simp [nmsL, gnmAt_at h]
theorem mask_said {l : List Gun} {rs : List Rul} {W m : Nat} (hst : strE l = 0) (h4 : l.length ≤ 4) (hrs : rulsE rs = 0) (hW : 1 ≤ W ∧ W ≤ 64) (hm : m < 2 ^ l.length) :
   refdE l rs (nmsL l (maskS l.length m)) W = 0 ∧ (refdL l rs (nmsL l (maskS l.length m)) W = [] → (maskS l.length m).length ≤ (lrgS l rs W).length) ∧ ∀ z ∈ refdL l rs (nmsL l (maskS l.length m)) W, ∃ i, ∃ h : i < rs.length, z = i ∧ rs[i].least ≠ 0 := by
 have hf := setsOf_facts (k := l.length) (by have := strE_len hst; omega) h4
 have hin := hf.1 m hm
 have hnd := (hf.2.1 _ hin).1
 refine ⟨refdE_nms hst hrs hW maskS_lt hnd, fun h => ?_, fun z hz => ?_⟩
 · rw [refdL_nms hst hrs hW maskS_lt hnd] at h
   exact (lrg_free hst h4 hrs hW.2).2.2 _ hin (anyB_false.2 h)
 · rw [refdL_nms hst hrs hW maskS_lt hnd] at hz
   obtain ⟨i, hi, _, e, hb⟩ := refIdx_mem _ hz
   exact ⟨i, hi, e, refB_least hst hW.2 hb⟩
theorem none_said {l : List Gun} {rs : List Rul} {W : Nat} (hst : strE l = 0) (hrs : rulsE rs = 0) (hW : 1 ≤ W ∧ W ≤ 64) : refdE l rs [] W = 0 ∧ refdL l rs [] W = [] := by
 have hz : ∀ z ∈ ([] : List Int), 0 ≤ z ∧ z.toNat < l.length := fun z hz => by cases hz
 have h1 := refdE_nms (W := W) hst hrs hW hz List.nodup_nil
 have h2 := refdL_nms (W := W) hst hrs hW hz List.nodup_nil
 rw [anyB_false.1 (anyB_none hst hrs hW.2)] at h2
 exact ⟨h1, h2⟩
theorem best_said {l : List Gun} {rs : List Rul} {W : Nat} (hst : strE l = 0) (h4 : l.length ≤ 4) (hrs : rulsE rs = 0) (hW : 1 ≤ W ∧ W ≤ 64) : refdE l rs (nmsL l (lrgS l rs W)) W = 0 ∧ refdL l rs (nmsL l (lrgS l rs W)) W = [] ∧ (lrgS l rs W).length ≤ l.length := by
 have hf := setsOf_facts (k := l.length) (by have := strE_len hst; omega) h4
 have hlt := setsOf_lt (k := l.length) (by have := strE_len hst; omega) h4
 obtain ⟨h1, h2, _⟩ := lrg_free hst h4 hrs hW.2
 obtain ⟨h5, h6⟩ := hf.2.1 _ h1
 have hz := hlt.1 _ h1
 refine ⟨refdE_nms hst hrs hW hz h5, ?_, h6⟩
 rw [refdL_nms hst hrs hW hz h5]
 exact anyB_false.1 h2
section
variable {X : Heap} {N : Nat}
theorem MemOk.words (hm : MemOk N X) {u : Value} {ws : List ByteArray} (h : Ab.strV X u = some ws) : ∃ y Y, g94 [u] X N = some (y, Y, N + 1) ∧ OwnW Y y ws ∧ Sub X Y ∧ MemOk (N + 1) Y := by
 have hlt : ws.length < 2147483648 := by
   obtain ⟨_, _, _, h1, _⟩ := strV_form h
   exact h1
 have hp : plainB2 (kS.blk ws) = true := by
   show plainB2 (if ws.length = 0 then _ else _) = true
   split <;> rfl
 obtain ⟨h1, h2⟩ := hm.put hp
 have e : g94 [u] X N = some (kS.val N ws, (N, kS.blk ws) :: X, N + 1) := by simp only [g94, h]; rfl
 refine ⟨_, _, e, ?_, h2, h1⟩
 by_cases h0 : ws.length = 0
 · refine .inr ⟨List.length_eq_zero_iff.1 h0, some ⟨N, 0, Option.none⟩, 0, ?_⟩
   show (if ws.length = 0 then _ else _) = _
   rw [if_pos h0]
 · refine .inl ⟨N, ?_, .inl ?_, by omega, hlt⟩
   · show (if ws.length = 0 then _ else _) = _
     rw [if_neg h0]
   · rw [hget_cons, if_pos rfl]
     show some (if ws.length = 0 then _ else _) = _
     rw [if_neg h0]
     rfl
end
theorem refw_group {X : Heap} {N : Nat} {v rv u : Value} {l : List Gun} {rs : List Rul} {ws : List ByteArray} {W : Nat} (hm : MemOk N X) (g0 : hget X 0 = some (.inp 0 names0)) (hs : strAt X (.agg ⟨[v]⟩) = some l) (hl : 1 ≤ l.length ∧ l.length ≤ 8) (hR : RulsV X rv rs) (hr : rs.length < 2147483648) (hu : Ab.strV X u = some ws) :
   ∃ x Y1 r Y2 y Y3 Y4, g21 [.agg ⟨[v]⟩] X N = some (.agg ⟨[x]⟩, Y1, N + 1) ∧ g92 [rv] Y1 (N + 1) = some (r, Y2, N + 1 + 1) ∧ g94 [u] Y2 (N + 1 + 1) = some (y, Y3, N + 1 + 1 + 1) ∧ g91 [.agg ⟨[x]⟩, r, y, iv W] Y3 (N + 1 + 1 + 1) = some (.tuple #[outS (N + 1 + 1 + 1) (refdL l rs ws W).length, iv (refdE l rs ws W)], Y4, N + 1 + 1 + 1 + 1) ∧ intV Y4 (outS (N + 1 + 1 + 1) (refdL l rs ws W).length) = some (refdL l rs ws W) ∧ Sub X Y4 ∧ MemOk (N + 1 + 1 + 1 + 1) Y4 := by
 obtain ⟨x, Y1, h1, hG, s1, m1⟩ := hm.own hs hl
 obtain ⟨r, Y2, h2, hA, s2, m2⟩ := m1.rules (hR.mono s1) hr
 obtain ⟨y, Y3, h5, hW, s3, m3⟩ := m2.words (listV_mono decS_mono (s1.trans s2) hu)
 obtain ⟨Y4, h3, h4, s4, m4⟩ := m3.refused ((s1.trans (s2.trans s3)) _ _ g0) (hG.mono (s2.trans s3)) (hA.mono s3) hr (W := W) hW
 exact ⟨x, Y1, r, Y2, y, Y3, Y4, h1, h2, h5, h3, h4, s1.trans (s2.trans (s3.trans s4)), m4⟩
end Go.Proofs.YtndlfijfjglkdaaGreatDoor

namespace Go.Proofs.YtndlfijfjglkdaaGreatDoor
open Go Go.Ab Go.Proofs
abbrev F14 (rv : Value) (n W : Nat) (ob : Option Addr) (lb cb : Nat) : Fr := [(1, rv), (3, .pointer (some ⟨n, 0, none⟩)), (5, .pointer (some ⟨n + 1, 0, none⟩)), (6, .bool false), (7, iv W), (10, .slice ob lb cb)]
set_option maxRecDepth 20000 in
set_option maxHeartbeats 4000000 in
theorem w14l {T X : Heap} {n N W : Nat} {ga : Addr} {c' : Nat} {rv : Value} {x0 x1 : Int} {l : List Gun} {rs : List Rul} {ob : Option Addr} {cb : Nat} (hm : M14 T X n N (.slice (some ga) l.length c') rv x0 x1 l rs) (hgf : flat ga = true) (hgun : ∀ {i : Nat} (hi : i < l.length), cellsA T ga.block (ga.off + i * 7) 7 = some l[i].cells) (hst : strE l = 0) (h4 : l.length ≤ 4) (hrs : rulsE rs = 0) (hW : 1 ≤ W ∧ W ≤ 64) (hx : 0 ≤ x1 ∧ x1 ≤ 255) :
   E Tryz.prog n none (cFrom (bodyOf Tryz.f14) 8) { fr := F14 rv n W ob (lrgS l rs W).length cb, sz := 239, H := X, n := N, marks := [], vs := vs14 } (pureK Tryz.prog Tryz.f14 T (.bool true)) := by
 have hr := recT_ok (P := Tryz.prog) (l := [(21, g21), (92, g92), (94, g94), (91, g91)]) (by simp only [List.forall_mem_cons]; exact ⟨ok21, ok92, ok94, ok91, by simp⟩)
 have hln := strE_len hst
 have hr12 := (rulsE_zero hrs).1
 obtain ⟨orr, cr, hrv⟩ : ∃ orr cr, rv = .slice orr rs.length cr := by
   obtain ⟨a, b, e, _⟩ := hm.rul
   exact ⟨a, b, e⟩
 obtain ⟨K, hK⟩ : ∃ K, 2 ^ l.length = K := ⟨_, rfl⟩
 have hK16 : K ≤ 16 := by
   rw [← hK]
   exact Nat.pow_le_pow_right (show 0 < 2 by omega) h4
 have hshl : ∀ {t x y H k}, binV Tryz.prog .shl t x y (iv 1) (iv l.length) H k = some (iv K, H, k) := fun {t x y H k} => by rw [← hK]; exact bin_shl1 _ h4
 obtain ⟨lb, hlb⟩ : ∃ k, (lrgS l rs W).length = k := ⟨_, rfl⟩
 rw [hlb]
 have hcb : ∀ {Z M}, M14 T Z n M (.slice (some ga) l.length c') rv x0 x1 l rs → cellA Z n 0 = some (.slice (some ga) l.length c') ∧ cellsA Z n 0 1 = some [.slice (some ga) l.length c'] := fun h => ⟨by rw [cellA_eq, h.box0]; rfl, by rw [cellsA_eq, h.box0]; rfl⟩
 obtain ⟨hc0, _⟩ := hcb hm
 subst hrv
 refine E.seq ?_
 refine E.seq ?_
 refine E.reg hr (by simp [-cellA, hc0, hshl]; rfl) ?_
 refine E.block ?_
 refine E.loop ?_
 refine EL.ind (fun x : Nat × Heap × Nat => { fr := F14 (.slice orr rs.length cr) n W ob lb cb ++ [(118, iv K), (119, iv x.1)], sz := 239, H := x.2.1, n := x.2.2, marks := [], vs := vs14 }) (fun x => K - x.1) (fun x => x.1 ≤ K ∧ M14 T x.2.1 n x.2.2 (.slice (some ga) l.length c') (.slice orr rs.length cr) x0 x1 l rs) (0, X, N) (.keep rfl rfl rfl (by simp) (Sub.refl _)) ⟨Nat.zero_le _, hm⟩ (fun _ => rfl) ?_
 rintro ⟨m, Z, M⟩ ⟨hmK, hmZ⟩
 dsimp only at hmK hmZ ⊢
 have hwm : IntKind.i64.wrap ((m : Int) + 1) = (m : Int) + 1 := W_in (by omega) (by omega)
 refine E.seq ?_
 refine E.reg hr (by simp; rfl) ?_
 refine E.seq ?_
 by_cases hmk : m < K
 case neg =>
   refine E.cond (t := false) (by simp [hmk]) (fun h => by cases h) (fun _ => ?_)
   refine E.exit ?_
   refine E.lead { fr := [(5, .pointer (some ⟨n + 1, 0, none⟩)), (6, .bool false)], sz := 239, H := Z, n := M, marks := [], vs := [5, 6, 22, 23, 24, 25, 26] } (.keep rfl rfl rfl (by simp) (Sub.refl _)) ?_
   exact w14z hmZ.mem hmZ.sub hmZ.box1 hx
 have hmkI : (m : Int) < K := by omega
 obtain ⟨hc0, _⟩ := hcb hmZ
 refine E.cond (t := true) (by simp [hmk]) (fun _ => ?_) (fun h => by cases h)
 refine E.skip ?_
 refine E.seq ?_
 refine E.block ?_
 refine E.seq ?_
 refine E.reg hr (by simp; rfl) ?_
 refine E.seq ?_
 refine E.reg hr (by simp; rfl) ?_
 refine E.seq ?_
 refine E.seq ?_
 refine E.reg hr (by simp [-cellA, hc0]; rfl) ?_
 have hltZ : ∀ k b, hget Z k = some b → k < M := fun k b hb => hmZ.mem.lt hb
 refine E.block ?_
 refine E.loop ?_
 refine EL.ind (fun x : Nat × Heap × Nat × Nat => { fr := F14 (.slice orr rs.length cr) n W ob lb cb ++ [(14, iv m), (15, outS x.2.2.2 (maskS x.1 m).length), (118, iv K), (119, iv m), (123, .slice (some ga) l.length c'), (124, iv l.length), (125, iv x.1)], sz := 239, H := x.2.1, n := x.2.2.1, marks := [], vs := vs14 }) (fun x => l.length - x.1) (fun x => x.1 ≤ l.length ∧ GL Z M 9 1 ((nmsL l (maskS x.1 m)).map sv) (maskS x.1 m).length x.2.1 x.2.2.1 x.2.2.2) (0, Z, M, M) (.keep rfl rfl rfl (by simp [maskS]) (Sub.refl _)) ⟨Nat.zero_le _, by simpa [maskS, nmsL] using GL.start (t := 9) (sz := 1) (Sub.refl Z) hmZ.mem.1 (Nat.le_refl _) hmZ.mem.2⟩ (fun _ => rfl) ?_
 rintro ⟨i, Hx, Nx, o⟩ ⟨hi, hG⟩
 dsimp only at hi hG ⊢
 have hwi : IntKind.i64.wrap ((i : Int) + 1) = (i : Int) + 1 := W_in (by omega) (by omega)
 refine E.seq ?_
 refine E.reg hr (by simp; rfl) ?_
 refine E.seq ?_
 by_cases hil : i < l.length
 · have hilI : (i : Int) < l.length := by omega
   have hgn := hG.sub.cells (hmZ.sub.cells (hgun hil))
   have hnx := maskS_succ i m
   have hsh := fun {t x y H k} => bin_shrN (P := Tryz.prog) (t := t) (x := x) (y := y) (H := H) (k := k) (m := m) (i := i) (by omega)
   have hq16 : m >>> i < 16 := by
     rw [Nat.shiftRight_eq_div_pow]
     have := Nat.div_le_self m (2 ^ i)
     omega
   obtain ⟨q, hq⟩ : ∃ q, m >>> i = q := ⟨_, rfl⟩
   rw [hq] at hnx hsh hq16
   have han := fun {t x y H k} => bin_andN (P := Tryz.prog) (t := t) (x := x) (y := y) (H := H) (k := k) hq16
   obtain ⟨r, hrr⟩ : ∃ r, q &&& 1 = r := ⟨_, rfl⟩
   rw [hrr] at hnx han
   have hone := nmsL_one (zs := maskS i m) hil
   obtain ⟨g, hg⟩ : ∃ g, l[i] = g := ⟨_, rfl⟩
   rw [hg] at hgn hone
   have hG1 := hG.skip hltZ (.cells g.cells 94) rfl
   obtain ⟨Hy, hHy⟩ : ∃ Hy, (Nx, Blk.cells g.cells 94) :: Hx = Hy := ⟨_, rfl⟩
   rw [hHy] at hG1
   have hcy : cellA Hy Nx 0 = some (sv g.name) := by rw [← hHy, cellA_cons, if_pos rfl]; rfl
   refine E.cond (t := true) (by simp [hil]) (fun _ => ?_) (fun h => by cases h)
   refine E.skip ?_
   refine E.seq ?_
   refine E.block ?_
   refine E.seq ?_
   refine E.reg hr (by simp [-cellsA, -flat, hil, hilI, hgf, hgn, hHy]; rfl) ?_
   refine E.seq ?_
   refine E.reg hr (by simp [hsh, han]; rfl) ?_
   by_cases hr1 : r = 1
   · rw [if_pos hr1] at hnx
     have hk := maskS_len (k := i) (m := m)
     obtain ⟨Hz, happ, hGz⟩ := hG1.app (P := Tryz.prog) (st := 102) (i := Tryz.t9) (new := [sv g.name]) hltZ Tryz.underlying102 inf9 sz9i zo9 by9 (by omega) rfl (by omega) rfl rfl
     have hnl : (maskS (i + 1) m).length = (maskS i m).length + 1 := by rw [hnx]; simp
     have hnm : (nmsL l (maskS (i + 1) m)).map sv = (nmsL l (maskS i m)).map sv ++ [sv g.name] := by rw [hnx, hone]; simp
     refine E.cond (t := true) (by simp [hr1]) (fun _ => ?_) (fun h => by cases h)
     refine E.reg hr (by simp [-builtinA, -cellA, hcy, happ]; rfl) ?_
     refine E.reg hr (by simp [hwi]; rfl) ?_
     exact ⟨(i + 1, Hz, Nx + 1 + 1 + 1, Nx + 1 + 1), .keep rfl rfl rfl (by simp [hnl]) (Sub.refl _), ⟨hil, by dsimp only; rw [hnl, hnm]; exact hGz⟩, by dsimp only; omega⟩
   · rw [if_neg hr1, List.append_nil] at hnx
     have hr1I : ¬ (r : Int) = 1 := by omega
     refine E.cond (t := false) (by simp [hr1I]) (fun h => by cases h) (fun _ => ?_)
     refine E.skip ?_
     refine E.reg hr (by simp [hwi]; rfl) ?_
     exact ⟨(i + 1, Hy, Nx + 1, o), .keep rfl rfl rfl (by simp [hnx]) (Sub.refl _), ⟨hil, by dsimp only; rw [hnx]; exact hG1⟩, by dsimp only; omega⟩
 · have hil' : i = l.length := by omega
   subst hil'
   refine E.cond (t := false) (by simp) (fun h => by cases h) (fun _ => ?_)
   refine E.exit ?_
   obtain ⟨hsE, hsN, hsL⟩ := mask_said (m := m) hst h4 hrs hW (by rw [hK]; exact hmk)
   have hzl := maskS_len (k := l.length) (m := m)
   obtain ⟨zs, hzs⟩ : ∃ zs, maskS l.length m = zs := ⟨_, rfl⟩
   rw [hzs] at hG hsE hsN hsL hzl ⊢
   obtain ⟨zl, hzl'⟩ : ∃ k, zs.length = k := ⟨_, rfl⟩
   have hstr : Ab.strV Hx (outS o (nmsL l zs).length) = some (nmsL l zs) := by
     have hl' : (nmsL l zs).length = zs.length := List.length_map ..
     have hG' : GL Z M 9 1 ((nmsL l zs).flatMap fun z => [sv z]) (nmsL l zs).length Hx Nx o := by rw [← List.map_eq_flatMap, hl']; exact hG
     exact hG'.list (dec := decS) (c := fun z => [sv z]) (fun _ => rfl) (fun _ _ => rfl) (by rw [hl']; omega)
   have hnl' : (nmsL l zs).length = zl := by rw [← hzl']; exact List.length_map ..
   rw [hnl'] at hstr
   rw [hzl'] at hzl hsN ⊢
   obtain ⟨ow, cw, hov⟩ : ∃ ow cw, outS o zl = .slice ow zl cw := by
     by_cases h : zl = 0
     · rw [h]; exact ⟨none, 0, rfl⟩
     · rw [outS_ne h]; exact ⟨_, _, rfl⟩
   rw [hov] at hstr ⊢
   have hmX := hmZ.more hG.sub ⟨hG.nm, hG.pl⟩
   obtain ⟨x, Y1, r, Y2, y, Y3, Y4, a1, a2, a3, a4, a5, a6, a7⟩ := refw_group (W := W) hmX.mem hmX.g0 hmX.str (by omega) hmX.rul (by omega) hstr
   rw [hsE] at a4
   obtain ⟨R, hR⟩ : ∃ R, refdL l rs (nmsL l zs) W = R := ⟨_, rfl⟩
   rw [hR] at a4 a5 hsN hsL
   obtain ⟨oa, cc, hv, hRl, _, hrow⟩ := intV_form a5
   rw [hv] at a4
   have hmY := hmX.more a6 a7
   have hcs := (hcb hmX).2
   obtain ⟨rl, hrl⟩ : ∃ k, R.length = k := ⟨_, rfl⟩
   have hRn : R = [] ↔ rl = 0 := by rw [← hrl]; exact List.length_eq_zero_iff.symm
   rw [hrl] at a4 hRl
   refine E.seq ?_
   refine E.reg hr (by simp [-cellsA, -cellA, hcs, a1, a2, a3, a4]; rfl) ?_
   refine E.lead { fr := F14 (.slice orr rs.length cr) n W ob lb cb ++ [(15, .slice ow zl cw), (18, .slice oa rl cc), (19, iv 0), (118, iv K), (119, iv m)], sz := 239, H := Y4, n := Nx + 1 + 1 + 1 + 1, marks := [], vs := vs14 } (.keep rfl rfl rfl (by simp) (Sub.refl _)) ?_
   refine E.cut { fr := F14 (.slice orr rs.length cr) n W ob lb cb ++ [(18, .slice oa rl cc), (118, iv K), (119, iv m)], sz := 239, H := Y4, n := Nx + 1 + 1 + 1 + 1, marks := [], vs := vs14 } ?_ ?_
   · by_cases hlt : lb < zl
     · have hltI : (lb : Int) < zl := by omega
       have hrl0 : ¬ rl = 0 := fun h => by have := hsN (hRn.2 h); omega
       have hrl0I : ¬ (rl : Int) = 0 := by omega
       refine E.seq ?_
       refine E.reg hr (by simp [hltI, hrl0]; rfl) ?_
       refine E.cond (t := false) (by simp) (fun h => by cases h) (fun _ => ?_)
       refine E.skip ?_
       exact .keep rfl rfl rfl (by simp) (Sub.refl _)
     · have hltI : ¬ (lb : Int) < zl := by omega
       refine E.seq ?_
       refine E.reg hr (by simp [hltI, undefV]; rfl) ?_
       refine E.cond (t := false) (by simp) (fun h => by cases h) (fun _ => ?_)
       refine E.skip ?_
       exact .keep rfl rfl rfl (by simp) (Sub.refl _)
   · obtain ⟨or2, cr2, erv, _, _, hrow2⟩ := hmY.rul
     injection erv with e1 e2 e3
     subst e1 e3
     refine E.seq ?_
     refine E.reg hr (by simp; rfl) ?_
     refine E.block ?_
     refine E.loop ?_
     refine EL.ind (fun j : Nat => { fr := F14 (.slice orr rs.length cr) n W ob lb cb ++ [(118, iv K), (119, iv m), (166, .slice oa rl cc), (167, iv rl), (168, iv j)], sz := 239, H := Y4, n := Nx + 1 + 1 + 1 + 1, marks := [], vs := vs14 }) (fun j => rl - j) (fun j => j ≤ rl) 0 (.keep rfl rfl rfl (by simp) (Sub.refl _)) (Nat.zero_le _) (fun _ => rfl) ?_
     intro j hj
     have hwj : IntKind.i64.wrap ((j : Int) + 1) = (j : Int) + 1 := W_in (by omega) (by omega)
     refine E.seq ?_
     refine E.reg hr (by simp; rfl) ?_
     refine E.seq ?_
     by_cases hjl : j < rl
     · have hjI : (j : Int) < rl := by omega
       obtain ⟨a, rfl, hf, hca⟩ := hrow j (by omega)
       obtain ⟨p, hp, hpe, hpn⟩ := hsL R[j] (List.getElem_mem (by omega))
       obtain ⟨b, rfl, hfb, hcb⟩ := hrow2 p hp
       rw [hpe] at hca
       have hcl : cellA Y4 b.block (b.off + p * 3 + 2) = some (iv rs[p].least) := (cellsA_cell hcb (i := 2) (by omega)).1
       obtain ⟨q, hq⟩ : ∃ q, rs[p].least = q := ⟨_, rfl⟩
       rw [hq] at hcl hpn
       have hp0 : ¬ (p : Int) < 0 := by omega
       have hpr : ¬ (rs.length : Int) ≤ p := by omega
       have hprN : ¬ rs.length ≤ p := by omega
       have hpI : (p : Int) < rs.length := by omega
       refine E.cond (t := true) (by simp [hjl]) (fun _ => ?_) (fun h => by cases h)
       refine E.skip ?_
       refine E.seq ?_
       refine E.block ?_
       refine E.seq ?_
       refine E.reg hr (by simp [-cellA, -flat, hjl, hjI, hf, hca]; rfl) ?_
       refine E.seq ?_
       refine E.reg hr (by simp [-cellA, -flat, hp0, hpr, hpI, hfb, hcl, hpn]; rfl) ?_
       refine E.cond (t := false) (by simp) (fun h => by cases h) (fun _ => ?_)
       refine E.skip ?_
       refine E.reg hr (by simp [hwj]; rfl) ?_
       exact ⟨j + 1, .keep rfl rfl rfl (by simp) (Sub.refl _), hjl, by dsimp only; omega⟩
     · refine E.cond (t := false) (by simp [hjl]) (fun h => by cases h) (fun _ => ?_)
       refine E.exit ?_
       refine E.reg hr (by simp [hwm]; rfl) ?_
       exact ⟨(m + 1, Y4, Nx + 1 + 1 + 1 + 1), .keep rfl rfl rfl (by simp) (Sub.refl _), ⟨hmk, hmY⟩, by dsimp only; omega⟩
end Go.Proofs.YtndlfijfjglkdaaGreatDoor

namespace Go.Proofs.YtndlfijfjglkdaaGreatDoor
open Go Go.Ab Go.Proofs
set_option maxRecDepth 20000 in
set_option maxHeartbeats 4000000 in
theorem w14m {H : Heap} {n : Nat} {v rv : Value} {l : List Gun} {rs : List Rul} {x0 x1 : Int} (g0 : hget H 0 = some (.inp 0 names0)) (g3 : hget H 3 = some (.inp 0 tab3)) (hs : strAt H (.agg ⟨[v]⟩) = some l) (hR : RulsV H rv rs) (hx0 : 0 ≤ x0 ∧ x0 ≤ 255) (hx1 : 0 ≤ x1 ∧ x1 ≤ 255) (hgo : goOn14 l rs) : AC Tryz.prog 14 [.agg ⟨[v]⟩, rv, .agg ⟨[bv x0, bv x1]⟩] H n (.bool true) H n := by
 refine AC.given fun hold _ _ => AC.tidied (B := []) (by simp) ?_
 have hlt0 := fun k b h => (hold k b h).1
 replace g0 : hget (tidy n H) 0 = some (.inp 0 names0) := hget_tidy.2 ⟨g0, hlt0 _ _ g0, rfl⟩
 replace g3 : hget (tidy n H) 3 = some (.inp 0 tab3) := hget_tidy.2 ⟨g3, hlt0 _ _ g3, rfl⟩
 replace hs := strAt_tidy hlt0 hs
 replace hR := hR.tidy hlt0
 obtain ⟨hvl, h4, hsr, hr4, hrs⟩ := hgo
 obtain ⟨_, h6, hst⟩ := valid_ok hvl
 have hln := strE_len hst
 have hr := recT_ok (P := Tryz.prog) (l := [(18, g18), (52, gStr fun l => .bool (validB l)), (76, g76), (89, g89), (90, gRul fun l => iv (rulsE l)), (21, g21), (92, g92), (91, g91), (93, g93), (94, g94)]) (by simp only [List.forall_mem_cons]; exact ⟨ok18, ok52, ok76, ok89, ok90, ok21, ok92, ok91, ok93, ok94, by simp⟩)
 obtain ⟨oa', c', ev⟩ := strAt_form hs
 injection ev with ev
 injection ev with ev
 injection ev with ev
 subst ev
 have hne : l ≠ [] := fun e => by rw [e] at hln; simp at hln
 obtain ⟨ga, gc, gv, hgf, hgc, _, _⟩ := strAt_guns hs hne (by omega)
 injection gv with gv1 gv2 gv3
 subst gv1 gv3
 have hgunT : ∀ {i : Nat} (hi : i < l.length), cellsA (tidy n H) ga.block (ga.off + i * 7) 7 = some l[i].cells := fun {i} hi => by
   have := cells_part hgc hi
   rwa [gcs_atB hi] at this
 obtain ⟨orr, cr, hrv⟩ : ∃ orr cr, rv = .slice orr rs.length cr := by
   obtain ⟨a, b, e, _⟩ := hR
   exact ⟨a, b, e⟩
 subst hrv
 have hM : MemOk n (tidy n H) := ⟨namesOk_tidy, by simp⟩
 obtain ⟨hM1, hS1⟩ := hM.put (b := Blk.cells [.slice (some ga) l.length c'] 24) rfl
 obtain ⟨hM2, hS2⟩ := hM1.put (b := Blk.cells [bv x0, bv x1] 150) rfl
 obtain ⟨X0, hX0⟩ : ∃ X0, (n + 1, Blk.cells [bv x0, bv x1] 150) :: (n, Blk.cells [.slice (some ga) l.length c'] 24) :: tidy n H = X0 := ⟨_, rfl⟩
 rw [hX0] at hM2 hS2
 have hS0 := hS1.trans hS2
 have hb0 : hget X0 n = some (.cells [.slice (some ga) l.length c'] 24) := hS2 _ _ (by rw [hget_cons, if_pos rfl])
 have hb1 : hget X0 (n + 1) = some (.cells [bv x0, bv x1] 150) := by rw [← hX0, hget_cons, if_pos rfl]
 have h18 : ∀ m, g18 [] X0 m = some (.bool true, X0, m) := fun m => by
   unfold g18
   rw [if_pos ⟨rfl, hS0 _ _ g3, hS0 _ _ g0⟩]
 have hs0 := strAt_mono hS0 hs
 have hRx := hR.mono hS0
 have hm : M14 (tidy n H) X0 n (n + 1 + 1) (.slice (some ga) l.length c') (.slice orr rs.length cr) x0 x1 l rs := ⟨hS0, hM2, hS0 _ _ g0, hb0, hb1, hs0, hRx⟩
 have hcb : ∀ {Z M}, M14 (tidy n H) Z n M (.slice (some ga) l.length c') (.slice orr rs.length cr) x0 x1 l rs → cellA Z n 0 = some (.slice (some ga) l.length c') ∧ cellsA Z n 0 1 = some [.slice (some ga) l.length c'] := fun h => ⟨by rw [cellA_eq, h.box0]; rfl, by rw [cellsA_eq, h.box0]; rfl⟩
 have h52 : ∀ m, gStr (fun l => .bool (validB l)) [.agg ⟨[.slice (some ga) l.length c']⟩] X0 m = some (.bool true, X0, m) := fun m => by
   simp only [gStr, hs0, Option.map_some, hvl]
 have h76 : ∀ m, g76 [.agg ⟨[.slice (some ga) l.length c']⟩] X0 m = some (.bool true, X0, m) := fun m => by
   simp only [g76, hs0, Option.map_some, decide_eq_true h4]
 have h89 : ∀ m, g89 [.slice orr rs.length cr] X0 m = some (.bool true, X0, m) := fun m => by rw [g89_at hRx, hsr]
 have hRv : rulV X0 (.slice orr rs.length cr) = some rs := hRx.rul (by omega)
 have h90 : ∀ m, gRul (fun l => iv (rulsE l)) [.slice orr rs.length cr] X0 m = some (iv 0, X0, m) := fun m => by
   simp only [gRul, hRv, Option.map_some, hrs]
 have hl4I : ¬ (4 : Int) < rs.length := by omega
 have hl4N : ¬ 4 < rs.length := by omega
 obtain ⟨W, hWd⟩ : ∃ W : Nat, (W : Int) = 1 + x0 % 32 := ⟨(1 + x0 % 32).toNat, by omega⟩
 have hW1 : 1 ≤ W ∧ W ≤ 64 := by omega
 have hwn : IntKind.i64.wrap x0 = x0 := W_in (by omega) (by omega)
 have hmod : x0.tmod 32 = x0 % 32 := Int.tmod_eq_emod_of_nonneg hx0.1
 have hww : IntKind.i64.wrap (1 + x0 % 32) = (W : Int) := by rw [W_in (by omega) (by omega)]; omega
 have hcx : cellA X0 (n + 1) 0 = some (bv x0) := by rw [cellA_eq, hb1]; rfl
 refine AC.pure Tryz.func14 rfl (by kernel_rfl) rfl vs14 rfl ?_
 refine E.seq ?_
 refine E.reg hr (by simp; rfl) ?_
 rw [hX0]
 refine E.seq ?_
 refine E.seq ?_
 refine E.reg hr (by simp [-cellsA, h18, (hcb hm).2, h52, h76, h89, h90, hl4I]; rfl) ?_
 refine E.cond (t := false) (by simp) (fun h => by cases h) (fun _ => ?_)
 refine E.skip ?_
 refine E.seq ?_
 refine E.reg hr (by simp [-cellA, hcx, opConvert, cv53, hwn, bin_rem (show (32 : Int) ≠ 0 by decide), hmod, hww]; rfl) ?_
 -- nobody drops out
 obtain ⟨e1, e2⟩ := none_said (W := W) hst hrs hW1
 obtain ⟨x, Y1, r, Y2, Y3, a1, a2, a3, _, a5, a6⟩ := refd_group (W := W) hM2 hm.g0 hs0 (by omega) hRx (by omega) (u := .slice none 0 0) (ws := []) (.inr ⟨rfl, none, 0, rfl⟩)
 rw [e1, e2] at a3
 have hmY := hm.more a5 a6
 refine E.seq ?_
 refine E.reg hr (by simp [-cellsA, -cellA, (hcb hm).2, a1, a2, a3]; rfl) ?_
 -- the largest drop-outs
 obtain ⟨x', Z1, r', Z2, Z3, b1, b2, b3, b4, b5, b6⟩ := lrg_group (W := W) hmY.mem hmY.g0 hmY.str h4 hst hrs hW1 hmY.rul
 obtain ⟨f1, f2, f3⟩ := best_said (W := W) hst h4 hrs hW1
 obtain ⟨ob, cb, hov⟩ : ∃ ob cb, outS (n + 1 + 1 + 1 + 1 + 1 + 1 + 1) (lrgS l rs W).length = .slice ob (lrgS l rs W).length cb := by
   by_cases h : (lrgS l rs W).length = 0
   · rw [h]; exact ⟨none, 0, rfl⟩
   · rw [outS_ne h]; exact ⟨_, _, rfl⟩
 rw [hov] at b3 b4
 have hmZ := hmY.more b5 b6
 refine E.seq ?_
 refine E.reg hr (by simp [-cellsA, -cellA, (hcb hmY).2, b1, b2, b3]; rfl) ?_
 have hlI : ¬ (l.length : Int) < (lrgS l rs W).length := by omega
 have hlN : ¬ l.length < (lrgS l rs W).length := by omega
 refine E.seq ?_
 refine E.seq ?_
 refine E.reg hr (by simp [-cellsA, -cellA, (hcb hmZ).1, hlI]; rfl) ?_
 refine E.cond (t := false) (by simp) (fun h => by cases h) (fun _ => ?_)
 refine E.skip ?_
 -- they are refused by no rule
 obtain ⟨x2, V1, r2, V2, y2, V3, V4, d1, d2, d3, d4, _, d6, d7⟩ := refw_group (W := W) hmZ.mem hmZ.g0 hmZ.str (by omega) hmZ.rul (by omega) b4
 rw [f1, f2] at d4
 have hmV := hmZ.more d6 d7
 refine E.seq ?_
 refine E.reg hr (by simp [-cellsA, -cellA, (hcb hmZ).2, d1, d2, d3, d4]; rfl) ?_
 refine E.seq ?_
 refine E.seq ?_
 refine E.reg hr (by simp; rfl) ?_
 refine E.cond (t := false) (by simp) (fun h => by cases h) (fun _ => ?_)
 refine E.skip ?_
 refine E.lead { fr := F14 (.slice orr rs.length cr) n W ob (lrgS l rs W).length cb, sz := 239, H := V4, n := _, marks := [], vs := vs14 } (.keep rfl rfl rfl (by simp) (Sub.refl _)) ?_
 exact w14l hmV hgf hgunT hst h4 hrs hW1 hx1
theorem w14 {H : Heap} {n : Nat} {v rv : Value} {l : List Gun} {rs : List Rul} {x0 x1 : Int} (g0 : hget H 0 = some (.inp 0 names0)) (g3 : hget H 3 = some (.inp 0 tab3)) (hs : strAt H (.agg ⟨[v]⟩) = some l) (hR : RulsV H rv rs) (hx0 : 0 ≤ x0 ∧ x0 ≤ 255) (hx1 : 0 ≤ x1 ∧ x1 ≤ 255) : AC Tryz.prog 14 [.agg ⟨[v]⟩, rv, .agg ⟨[bv x0, bv x1]⟩] H n (.bool true) H n := by
 by_cases h : goOn14 l rs
 · exact w14m g0 g3 hs hR hx0 hx1 h
 · exact w14e g0 g3 hs hR h
end Go.Proofs.YtndlfijfjglkdaaGreatDoor

namespace Go.Proofs.YtndlfijfjglkdaaGreatDoor
open Go Go.Ab Go.Proofs Go.Soft Ieee
end Go.Proofs.YtndlfijfjglkdaaGreatDoor

namespace Go.Ab
open Go Go.ChangeShapes Go.WideShapes
end Go.Ab

namespace Go.Ab
open Go
end Go.Ab

namespace Go.Proofs.YtndlfijfjglkdaaGreatDoor
open Go Go.Ab Go.Proofs Go.ChangeShapes Go.WideShapes Go.ChangeAt Go.RowKit
namespace gunLines
end gunLines
end Go.Proofs.YtndlfijfjglkdaaGreatDoor

namespace Go.Proofs.YtndlfijfjglkdaaGreatDoor
open Go Go.Ab Go.Proofs Go.ChangeShapes Go.WideShapes Go.ChangeAt Go.RowKit
theorem leafs94 : leafs Tryz.prog 6 94 = some [.str, .int .i64, .int .i64, .int .i64, .int .i64, .int .i64, .int .i64] := by kernel_rfl
theorem fits_cons {a : Leaf} {bs : List Leaf} {r : List Value} (h : fitsL (a :: bs) r) : ∃ v vs, r = v :: vs ∧ a.fits v ∧ fitsL bs vs := by
 cases r with
 | nil => exact h.elim
 | cons v vs => exact ⟨v, vs, rfl, h.1, h.2⟩
theorem fits_nil {r : List Value} (h : fitsL [] r) : r = [] := by
 cases r with
 | nil => rfl
 | cons v vs => exact h.elim
theorem fits_gun {r : List Value} (h : fitsL [.str, .int .i64, .int .i64, .int .i64, .int .i64, .int .i64, .int .i64] r) : ∃ g : Gun, r = g.cells := by
 obtain ⟨_, _, rfl, ⟨s, rfl, _⟩, h1⟩ := fits_cons h
 obtain ⟨_, _, rfl, ⟨v, rfl, _⟩, h2⟩ := fits_cons h1
 obtain ⟨_, _, rfl, ⟨x, rfl, _⟩, h3⟩ := fits_cons h2
 obtain ⟨_, _, rfl, ⟨y, rfl, _⟩, h4⟩ := fits_cons h3
 obtain ⟨_, _, rfl, ⟨t, rfl, _⟩, h5⟩ := fits_cons h4
 obtain ⟨_, _, rfl, ⟨lo, rfl, _⟩, h6⟩ := fits_cons h5
 obtain ⟨_, _, rfl, ⟨hi, rfl, _⟩, h7⟩ := fits_cons h6
 obtain rfl := fits_nil h7
 exact ⟨⟨s, v, x, y, t, lo, hi⟩, rfl⟩
theorem fits_guns : ∀ rows : List (List Value), (∀ r ∈ rows, fitsL [.str, .int .i64, .int .i64, .int .i64, .int .i64, .int .i64, .int .i64] r) → ∃ l : List Gun, rows.flatten = gcs l ∧ l.length = rows.length
 | [], _ => ⟨[], rfl, rfl⟩
 | r :: rows, h => by
   obtain ⟨g, rfl⟩ := fits_gun (h r (List.mem_cons_self ..))
   obtain ⟨l, h1, h2⟩ := fits_guns rows fun r hr => h r (List.mem_cons_of_mem _ hr)
   exact ⟨g :: l, by rw [List.flatten_cons, h1]; rfl, by simp [h2]⟩
set_option maxRecDepth 100000 in
theorem open_str {H : Type} {enc : TypeId × Value → H} {W : World} {base : Nat} {v : Value} {d : DataW H} {p : List MemPlace} (hv : Value.okWide Tryz.prog W .any base 24 v) (h : DataW.Trod enc Tryz.prog W 0 (fun _ => true) true 24 v d p) :
   v = nilV ∨ ∃ (b o c : Nat) (l : List Gun), v = .agg ⟨[.slice (some ⟨b, o, none⟩) l.length c]⟩ ∧ l.length < 2 ^ 63 ∧ ∃ cs t fz, W.heap[b]? = some (.cells cs t fz) ∧ ∀ i, i < (gcs l).length → cs[o + i]? = (gcs l)[i]? := by
 rcases handed_str (d := 6) Tryz.underlying24 (f := ⟨"Guns", 22, 0, false, "", "", 0⟩) rfl rfl rfl (by kernel_rfl) (by kernel_rfl) (by kernel_rfl) Tryz.underlying22 leafs94 (by kernel_rfl) (by simp) hv h with rfl | ⟨b, o, len, cap, rows, rfl, h1, h2, h3, h4, cs, t, fz, hw, hc⟩
 · exact .inl rfl
 · obtain ⟨l, e1, e2⟩ := fits_guns rows h4
   have : len = l.length := by omega
   subst this
   rw [e1] at hc
   refine .inr ⟨b, o, cap, l, rfl, ?_, cs, t, fz, hw, hc⟩
   have : maxLen < 2 ^ 63 := by decide
   omega
end Go.Proofs.YtndlfijfjglkdaaGreatDoor

namespace Go.Proofs.YtndlfijfjglkdaaGreatDoor
open Go Go.Ab Go.Proofs Go.ChangeShapes Go.WideShapes Go.ChangeAt Go.RowKit
theorem repG {W : World} (h0 : Lies W 0 names0) {v : Value} (h : v = nilV ∨ ∃ (b o c : Nat) (l : List Gun), v = .agg ⟨[.slice (some ⟨b, o, none⟩) l.length c]⟩ ∧ l.length < 2 ^ 63 ∧ ∃ cs t fz, W.heap[b]? = some (.cells cs t fz) ∧ ∀ i, i < (gcs l).length → cs[o + i]? = (gcs l)[i]?) :
   ∃ (b o : Nat) (cs : List Value) (sl : Value) (l : List Gun), afL cs = true ∧ (∃ c t fz, W.heap[b]? = some (.cells c t fz) ∧ ∀ i, i < cs.length → c[o + i]? = cs[i]?) ∧ (∀ φ : Vl, φ.loc 10 = b → den φ (.agg ⟨[sl]⟩) = v) ∧
     (∀ G : Heap, hget G 10 = some (.inp o cs) → strAt G (.agg ⟨[sl]⟩) = some l) ∧ (∀ p : Nat → Prop, p 10 → sc p sl) := by
 rcases h with rfl | ⟨b, o, c, l, rfl, hl, cs, t, fz, hw, hc⟩
 · obtain ⟨c, t, fz, e1, _⟩ := h0
   exact ⟨0, 0, [], .slice none 0 0, [], rfl, ⟨c, t, fz, e1, fun i hi => by simp at hi⟩, fun φ _ => by simp [den, denL], fun G _ => rfl, fun _ _ => trivial⟩
 · refine ⟨b, o, gcs l, .slice (some ⟨10, o, none⟩) l.length c, l, afL_gcs l, ⟨cs, t, fz, hw, hc⟩, fun φ hφ => by simp [den, denL, hφ], fun G hG => ?_, fun p hp => hp⟩
   unfold strAt gunsAt
   simp [hG, List.take_of_length_le, gunsOf_gcs, show l.length < 9223372036854775808 by omega]
end Go.Proofs.YtndlfijfjglkdaaGreatDoor

namespace Go.Proofs.YtndlfijfjglkdaaGreatDoor
open Go Go.Ab Go.Proofs Go.ChangeShapes Go.WideShapes Go.ChangeAt Go.RowKit
theorem lawS2 {f : FuncId} (he : enterable Tryz.prog f = true) {W : World} (h0 : Lies W 0 names0) (h3 : Lies W 3 tab3) {b0 o0 b1 o1 : Nat} {cs0 cs1 : List Value} {sl v0 : Value} {us ws : List Value} {l : List Gun} (haf : afL cs0 = true) (hcs : ∃ c t fz, W.heap[b0]? = some (.cells c t fz) ∧ ∀ i, i < cs0.length → c[o0 + i]? = cs0[i]?) (haf1 : afL cs1 = true) (hcs1 : ∃ c t fz, W.heap[b1]? = some (.cells c t fz) ∧ ∀ i, i < cs1.length → c[o1 + i]? = cs1[i]?)
   (hden : ∀ φ : Vl, φ.loc 10 = b0 → den φ (.agg ⟨[sl]⟩) = v0) (hstr : ∀ G : Heap, hget G 10 = some (.inp o0 cs0) → strAt G (.agg ⟨[sl]⟩) = some l) (hsl : ∀ p : Nat → Prop, p 10 → sc p sl) (hden1 : ∀ φ : Vl, φ.loc 11 = b1 → denL φ us = ws) (hsc1 : ∀ p : Nat → Prop, p 11 → scL p us)
   (wk : ∀ H : Heap, hget H 0 = some (.inp 0 names0) → hget H 3 = some (.inp 0 tab3) → strAt H (.agg ⟨[sl]⟩) = some l → hget H 11 = some (.inp o1 cs1) → AC Tryz.prog f (.agg ⟨[sl]⟩ :: us) H 12 (.bool true) H 12) :
   Calls Tryz.prog f (v0 :: ws).toArray W fun e W' => e = .returned (.bool true) ∧ Below W.heap.size W W' := by
 refine lawCalls he h0 h3 [⟨b0, o0, cs0⟩, ⟨b1, o1, cs1⟩] ?_ (args0 := .agg ⟨[sl]⟩ :: us) ?_ ?_ (wk _ rfl rfl (hstr _ rfl) rfl)
 · intro v hv
   rcases List.mem_cons.1 hv with rfl | hv
   · refine ⟨scL_af _ _ haf, ?_⟩
     obtain ⟨c, t, fz, e1, e2⟩ := hcs
     exact ⟨c, t, fz, e1, fun i hi => by rw [denL_af _ _ haf]; exact e2 i hi⟩
   · rw [List.mem_singleton] at hv
     subst hv
     refine ⟨scL_af _ _ haf1, ?_⟩
     obtain ⟨c, t, fz, e1, e2⟩ := hcs1
     exact ⟨c, t, fz, e1, fun i hi => by rw [denL_af _ _ haf1]; exact e2 i hi⟩
 · exact ⟨⟨hsl _ (by simp), trivial⟩, hsc1 _ (by simp)⟩
 · simp only [denL, hden (wloc [⟨b0, o0, cs0⟩, ⟨b1, o1, cs1⟩]) rfl, hden1 (wloc [⟨b0, o0, cs0⟩, ⟨b1, o1, cs1⟩]) rfl]
theorem laid_met3d (os : Os) (a b c : Value) : laidMet Tryz.prog laidAll ((laidWorld os).forCall (fun _ _ => 0) ⟨#[], #[a, b, c], []⟩).memory :=
 laidMet_of_run' 8 (by kernel_rfl) (by kernel_rfl)
namespace gunExplains
end gunExplains
end Go.Proofs.YtndlfijfjglkdaaGreatDoor

namespace Go.Proofs.YtndlfijfjglkdaaGreatDoor
open Go Go.Ab Go.Proofs Go.ChangeShapes Go.WideShapes Go.ChangeAt Go.RowKit
namespace gunStrings
end gunStrings
end Go.Proofs.YtndlfijfjglkdaaGreatDoor

namespace Go.Proofs.YtndlfijfjglkdaaGreatDoor
open Go Go.Ab Go.Proofs
end Go.Proofs.YtndlfijfjglkdaaGreatDoor

namespace Go.Proofs.YtndlfijfjglkdaaGreatDoor
open Go Go.Ab Go.Proofs Go.ChangeShapes Go.WideShapes Go.ChangeAt Go.RowKit
namespace gunReaches
end gunReaches
end Go.Proofs.YtndlfijfjglkdaaGreatDoor

namespace Go.Proofs.YtndlfijfjglkdaaGreatDoor
open Go Go.Ab Go.Proofs Go.ChangeShapes Go.WideShapes Go.ChangeAt Go.RowKit
theorem wf_u8 {n : Int} (h : (Lit.int .u8 n).wf = true) : 0 ≤ n ∧ n ≤ 255 := by
 simp [Lit.wf, IntKind.min, IntKind.max, IntKind.signed, IntKind.bits] at h
 omega
end Go.Proofs.YtndlfijfjglkdaaGreatDoor

namespace Go.Proofs.YtndlfijfjglkdaaGreatDoor
open Go Go.Ab Go.Proofs Go.ChangeShapes Go.WideShapes Go.ChangeAt Go.RowKit
namespace gunMoves
end gunMoves
end Go.Proofs.YtndlfijfjglkdaaGreatDoor

namespace Go.Proofs.YtndlfijfjglkdaaGreatDoor
open Go Go.Ab Go.Proofs Go.ChangeShapes Go.WideShapes Go.ChangeAt Go.RowKit
theorem leafs159 : leafs Tryz.prog 6 159 = some [.str, .int .i64, .int .i64] := by kernel_rfl
theorem fits_ruls : ∀ rows : List (List Value), (∀ r ∈ rows, fitsL [.str, .int .i64, .int .i64] r) → ∃ l : List Rul, rows.flatten = rlsL l ∧ l.length = rows.length
 | [], _ => ⟨[], rfl, rfl⟩
 | r :: rows, h => by
   obtain ⟨_, _, e1, ⟨s, rfl, _⟩, h1⟩ := fits_cons (h r (List.mem_cons_self ..))
   obtain ⟨_, _, rfl, ⟨v, rfl, _⟩, h2⟩ := fits_cons h1
   obtain ⟨_, _, rfl, ⟨w, rfl, _⟩, h3⟩ := fits_cons h2
   obtain rfl := fits_nil h3
   obtain ⟨l, h4, h5⟩ := fits_ruls rows fun r hr => h r (List.mem_cons_of_mem _ hr)
   exact ⟨⟨s, v, w⟩ :: l, by rw [List.flatten_cons, h4, e1]; rfl, by simp [h5]⟩
set_option maxRecDepth 100000 in
theorem open_ruls {H : Type} {enc : TypeId × Value → H} {W : World} {base : Nat} {v : Value} {d : DataW H} {p : List MemPlace} (hv : Value.okWide Tryz.prog W .any base 149 v) (h : DataW.Trod enc Tryz.prog W 0 (fun _ => true) true 149 v d p) :
   v = .slice none 0 0 ∨ ∃ (b o c : Nat) (l : List Rul), v = .slice (some ⟨b, o, none⟩) l.length c ∧ l.length < 2 ^ 63 ∧ ∃ cs t fz, W.heap[b]? = some (.cells cs t fz) ∧ ∀ i, i < (rlsL l).length → cs[o + i]? = (rlsL l)[i]? := by
 simp only [Value.okWide, Tryz.underlying149] at hv
 obtain ⟨a, len, cap, rfl⟩ : ∃ a len cap, v = .slice a len cap := okWide_slice (P := Tryz.prog) (w := W) (r := .any) (base := base) Tryz.underlying149 (by simp only [Value.okWide, Tryz.underlying149]; exact hv)
 obtain ⟨fuel, hf⟩ := h
 rcases handed_slice (d := 6) Tryz.underlying149 leafs159 (by kernel_rfl) (by simp) hv (fuel := fuel) (x := (d, p)) hf with h0 | ⟨b, o, len', cap', rows, e, h1, h2, h3, h4, cs, t, fz, hw, hc⟩
 · exact .inl h0
 · obtain ⟨l, e1, e2⟩ := fits_ruls rows h4
   have : len' = l.length := by omega
   subst this
   rw [e1] at hc
   refine .inr ⟨b, o, cap', l, e, ?_, cs, t, fz, hw, hc⟩
   have : maxLen < 2 ^ 63 := by decide
   omega
theorem rlsL_len (l : List Rul) : (rlsL l).length = l.length * 3 := flat_len (c := Rul.cells) (fun r => r.cells_length) l
theorem RulsV.inp {H : Heap} {k o c : Nat} {l : List Rul} (h : hget H k = some (.inp o (rlsL l))) (hl : l.length < 2 ^ 63) : RulsV H (.slice (some ⟨k, o, none⟩) l.length c) l := by
 refine ⟨some ⟨k, o, none⟩, c, rfl, hl, (fun e => nomatch e), fun i hi => ⟨⟨k, o, none⟩, rfl, rfl, ?_⟩⟩
 rw [cellsA_eq, h]
 simp only [Option.bind_some, cellsB]
 rw [if_pos ⟨Nat.le_add_right _ _, by rw [rlsL_len]; omega⟩, Nat.add_sub_cancel_left]
 exact congrArg some (flat_at (c := Rul.cells) (fun r => r.cells_length) l i hi)
theorem RulsV.nil {H : Heap} : RulsV H (.slice none 0 0) [] := ⟨none, 0, rfl, by decide, fun _ => rfl, fun i hi => absurd hi (Nat.not_lt_zero i)⟩
theorem repR {W : World} (h0 : Lies W 0 names0) {v : Value} (h : v = .slice none 0 0 ∨ ∃ (b o c : Nat) (l : List Rul), v = .slice (some ⟨b, o, none⟩) l.length c ∧ l.length < 2 ^ 63 ∧ ∃ cs t fz, W.heap[b]? = some (.cells cs t fz) ∧ ∀ i, i < (rlsL l).length → cs[o + i]? = (rlsL l)[i]?) :
   ∃ (b o : Nat) (cs : List Value) (sl : Value) (l : List Rul), afL cs = true ∧ (∃ c t fz, W.heap[b]? = some (.cells c t fz) ∧ ∀ i, i < cs.length → c[o + i]? = cs[i]?) ∧ (∀ φ : Vl, φ.loc 11 = b → den φ sl = v) ∧
     (∀ G : Heap, hget G 11 = some (.inp o cs) → RulsV G sl l) ∧ (∀ p : Nat → Prop, p 11 → sc p sl) := by
 rcases h with rfl | ⟨b, o, c, l, rfl, hl, cs, t, fz, hw, hc⟩
 · obtain ⟨c, t, fz, e1, _⟩ := h0
   exact ⟨0, 0, [], .slice none 0 0, [], rfl, ⟨c, t, fz, e1, fun i hi => by simp at hi⟩, fun φ _ => by simp [den], fun G _ => RulsV.nil, fun _ _ => trivial⟩
 · exact ⟨b, o, rlsL l, .slice (some ⟨11, o, none⟩) l.length c, l, afL_rls l, ⟨cs, t, fz, hw, hc⟩, fun φ hφ => by simp [den, hφ], fun G hG => RulsV.inp hG hl, fun p hp => hp⟩
theorem leafs150 : leafs Tryz.prog 6 150 = some [.int .u8, .int .u8] := by kernel_rfl
set_option maxRecDepth 100000 in
theorem open_two {H : Type} {enc : TypeId × Value → H} {W : World} {base : Nat} {v : Value} {d : DataW H} {p : List MemPlace} (hv : Value.okWide Tryz.prog W .any base 150 v) (h : DataW.Trod enc Tryz.prog W 0 (fun _ => true) true 150 v d p) :
   ∃ x0 x1 : Int, v = .agg ⟨[bv x0, bv x1]⟩ ∧ (0 ≤ x0 ∧ x0 ≤ 255) ∧ (0 ≤ x1 ∧ x1 ≤ 255) := by
 simp only [Value.okWide, Tryz.underlying150] at hv
 obtain ⟨cs, rfl, _⟩ := hv
 obtain ⟨fuel, hf⟩ := h
 have hl := leafs_ok 6 150 _ fuel _ (d, p) leafs150 hf
 obtain ⟨cl⟩ := cs
 have hl : fitsL [.int .u8, .int .u8] cl := by simpa [Value.cells] using hl
 obtain ⟨_, _, rfl, ⟨x, rfl, hx⟩, h1⟩ := fits_cons hl
 obtain ⟨_, _, rfl, ⟨y, rfl, hy⟩, h2⟩ := fits_cons h1
 obtain rfl := fits_nil h2
 exact ⟨x, y, rfl, wf_u8 hx, wf_u8 hy⟩
theorem params14 : Tryz.f14.params = #[24, 149, 150] := by kernel_rfl
namespace gunAccepts
set_option maxRecDepth 100000 in
theorem contract (H : Type) (enc : TypeId × Value → H) (W : World) (base : Nat) (args : Array Value) (ds gs : List (DataW H)) (before : List MemPlace)
   (hval : ∀ (j : Nat) t v, Tryz.f14.params[j]? = some t → args[j]? = some v → Value.okWide Tryz.prog W .any base t v)
   (hW : DataW.Whole enc Tryz.prog Tryz.f14.params.toList Rows.gunAcceptsSpec.vars false W args.toList ds gs before) (hL : laidMetH Tryz.prog Rows.gunAcceptsRow.laid W) :
   Calls Tryz.prog 14 args W fun e W' => ∃ v, e = .returned v ∧ Rows.gunAcceptsSpec.post enc Tryz.prog Tryz.f14 false true false false W args v W' := by
 have hW' := hW
 obtain ⟨p, q, hA0, hV, rfl, hfz, hnd⟩ := hW
 have hA : DataW.TrodAll enc Tryz.prog W 0 (fun _ => true) true Tryz.f14.params.toList args.toList ds p := hA0
 rw [params14] at hA hval
 obtain ⟨v0, vs0, d0, ds0, p0, q0, hargs, rfl, rfl, h0, r0⟩ := trodAll_cons hA
 obtain ⟨v1, vs1, d1, ds1, p1, q1, rfl, rfl, rfl, h1, r1⟩ := trodAll_cons r0
 obtain ⟨v2, vs2, d2, ds2, p2, q2, rfl, rfl, rfl, h2, r2⟩ := trodAll_cons r1
 obtain ⟨rfl, rfl, rfl⟩ := trodAll_nil r2
 obtain rfl : args = #[v0, v1, v2] := by cases args; simp_all
 obtain ⟨b0, o0, cs0, sl, l, a1, a2, a3, a4, a5⟩ := repG (lies0 hL) (open_str (hval 0 24 v0 rfl rfl) h0)
 obtain ⟨b1, o1, cs1, rl, rs, e1, e2, e3, e4, e5⟩ := repR (lies0 hL) (open_ruls (hval 1 149 v1 rfl rfl) h1)
 obtain ⟨x0, x1, rfl, hx0, hx1⟩ := open_two (hval 2 150 v2 rfl rfl) h2
 have hc : Calls Tryz.prog 14 #[v0, v1, .agg ⟨[bv x0, bv x1]⟩] W fun e W' => e = .returned (.bool true) ∧ Below W.heap.size W W' := by
   refine lawS2 (f := 14) (by kernel_rfl) (lies0 hL) (lies3 hL) (ws := [v1, .agg ⟨[bv x0, bv x1]⟩]) (us := [rl, .agg ⟨[bv x0, bv x1]⟩]) a1 a2 e1 e2 a3 a4 a5 (fun φ hφ => by simp only [denL, e3 φ hφ]; rfl) (fun p hp => ⟨e5 p hp, ⟨trivial, trivial, trivial⟩, trivial⟩) fun H g0 g3 hs hH => ?_
   exact w14 g0 g3 hs (e4 H hH) hx0 hx1
 refine hc.mono fun e W' ⟨he, hb⟩ => ⟨_, he, ?_⟩
 refine lawPost ?_ rfl rfl rfl hW' hb
 intro t ht
 rw [params14] at ht
 simp at ht
 rcases ht with rfl | rfl | rfl
 · exact ⟨by kernel_rfl, by rw [show Tryz.prog.types.size = 405 by kernel_rfl]; decide⟩
 · exact ⟨by kernel_rfl, by rw [show Tryz.prog.types.size = 405 by kernel_rfl]; decide⟩
 · exact ⟨by kernel_rfl, by rw [show Tryz.prog.types.size = 405 by kernel_rfl]; decide⟩
abbrev wit : Array Value := #[.agg #[.slice none 0 0], .slice none 0 0, .agg #[bv 0, bv 0]]
theorem reads (os : Os) {H : Type} (enc : TypeId × Value → H) : ∃ ds places, DataW.whole enc Tryz.prog ((laidWorld os).forCall (fun _ _ => 0) ⟨#[], wit, []⟩).memory Tryz.f14.params.toList Rows.gunAcceptsSpec.vars false wit.toList 8 = some (ds, [], places) :=
 ⟨[.agg [.nil], .nil, .agg [.lit (.int .u8 0), .lit (.int .u8 0)]], [], by kernel_rfl⟩
set_option maxRecDepth 100000 in
theorem lifted (os : Os) (started : os.Started) (H : Type) (enc : TypeId × Value → H) (F : Stop.Interp) :
   ReturnsInHanded {} Tryz.checked os 14 .any ((OpenSpec.ofChange Rows.gunAcceptsSpec).preRow enc Tryz.prog Tryz.f14 Rows.gunAcceptsRow.domain false Rows.gunAcceptsRow.laid) (((OpenSpec.ofChange Rows.gunAcceptsSpec).at F).post enc Tryz.prog Tryz.f14 false true false false) := by
 obtain ⟨ds, places, hx⟩ := reads os enc
 refine returnsInHanded_of_row (C := Tryz.checked) (s := OpenSpec.ofChange Rows.gunAcceptsSpec) own started (by kernel_rfl) Tryz.func14
   (witness_row_at (enc := enc) (C := Tryz.checked) false (laidWorld os) wit rfl (by kernel_rfl) (by kernel_rfl) (by kernel_rfl)
     (OpenSpec.preRow_of_cond 8 hx (by kernel_rfl) (fun k hk => by cases hk) (by kernel_rfl) (laid_met3d os _ _ _))) ?_
 intro W base args ds gs before hval hW _ _ _ hL _ _
 exact contract H enc W base args ds gs before hval hW hL
end gunAccepts
end Go.Proofs.YtndlfijfjglkdaaGreatDoor

namespace Go.Proofs.YtndlfijfjglkdaaGreatDoor
open Go
namespace gunAccepts
theorem jf0 : OpenClaim.wf (OpenSpec.ofChange Rows.gunAcceptsSpec) Rows.gunAcceptsRow = true := by kernel_rfl
theorem jf1 : laidOutB Tryz.prog = true := jfp1
theorem jf2 : mapsRowed Tryz.prog = true := jfp2
theorem jf3 : Tryz.f14.params.all (Tryz.prog.readableRec ·) = true := by kernel_rfl
theorem jf4 : namedTie Tryz.prog Rows.gunAcceptsRow.named Rows.gunAcceptsSpec.vars = true := by kernel_rfl
theorem jf5 : (Rows.gunAcceptsRow.stops == []) = true := by kernel_rfl
theorem jf6 : (Tryz.prog.stops == []) = true := jfp6
theorem jf7 : (Rows.gunAcceptsRow.knobs == []) = true := by kernel_rfl
theorem jf8 : (Tryz.prog.stopKnobs == []) = true := jfp8
theorem jf9 : (Rows.gunAcceptsRow.inPlace == Tryz.prog.inPlace 14) = true := by kernel_rfl
theorem jf10 : (Rows.gunAcceptsRow.unfollowed == Tryz.prog.unfollowed 14) = true := by kernel_rfl
theorem jf11 : (Rows.gunAcceptsRow.recurses == Tryz.prog.recurses 14) = true := by kernel_rfl
theorem jf12 : (Rows.gunAcceptsRow.named == Tryz.prog.varsNamed 14) = true := by kernel_rfl
theorem jf13 : (Rows.gunAcceptsRow.maps == (Tryz.f14.params.toList ++ Rows.gunAcceptsSpec.plain.varTypes Tryz.prog).any (Tryz.prog.mapsRec ·)) = true := by kernel_rfl
theorem jf14 : (Rows.gunAcceptsRow.ifaces == (Tryz.f14.params.toList ++ Rows.gunAcceptsSpec.plain.varTypes Tryz.prog).any (Tryz.prog.ifacesRec ·)) = true := by kernel_rfl
theorem jf15 : (Rows.gunAcceptsRow.mapsOut == Tryz.prog.mapsAmong Tryz.f14.resultTypes.toList) = true := by kernel_rfl
theorem jf16 : (Rows.gunAcceptsRow.loops == (Tryz.f14.params.toList ++ Rows.gunAcceptsSpec.plain.varTypes Tryz.prog).any (Tryz.prog.loopsFrom ·)) = true := by kernel_rfl
theorem jf17 : (Rows.gunAcceptsRow.wideKeys == (Tryz.f14.params.toList ++ Rows.gunAcceptsSpec.plain.varTypes Tryz.prog ++ Tryz.f14.resultTypes.toList).any (Tryz.prog.wideKeysFrom ·)) = true := by kernel_rfl
theorem jf18 : Rows.gunAcceptsSpec.vars.all (Tryz.prog.varReadable ·) = true := by kernel_rfl
theorem jf19 : Tryz.f14.resultTypes.all (fun t => Tryz.prog.readableRec t && decide (t < Tryz.prog.types.size)) = true := by kernel_rfl
theorem jf20 : (Rows.gunAcceptsRow.ifacesOut == Tryz.f14.resultTypes.toList.any (Tryz.prog.ifacesRec ·)) = true := by kernel_rfl
theorem jf21 : (Rows.gunAcceptsRow.loopsOut == Tryz.f14.resultTypes.toList.any (Tryz.prog.loopsFrom ·)) = true := by kernel_rfl
theorem jf22 : (Rows.gunAcceptsRow.plainKeys == Tryz.prog.plainKeys) = true := jfp22
theorem jf23 : Rows.gunAcceptsRow.shortTexts.isNone = true := by kernel_rfl
theorem jf24 : Tryz.prog.stopsHeard = true := jfp24
theorem jf25 : Tryz.prog.mayEnter = true := jfp25
theorem jf26 : (Rows.gunAcceptsRow.lifted == Tryz.prog.liftsFinal) = true := jfp26
theorem jf27 : (Tryz.prog.make == some Rows.gunAcceptsRow.make) = true := jfp27
theorem jf28 : (Rows.gunAcceptsRow.kinds == (if Rows.gunAcceptsRow.domain.isEmpty then [] else Tryz.f14.params.toList.map fun t => match Tryz.prog.underlying t with | some (.int k) => some k | _ => none)) = true := by kernel_rfl
theorem jf29 : (Rows.gunAcceptsRow.pinned == Rows.gunAcceptsRow.pinnedBy) = true := by kernel_rfl
theorem jf30 : (Rows.gunAcceptsRow.veiled == (Tryz.f14.params.toList ++ Rows.gunAcceptsSpec.plain.varTypes Tryz.prog ++ Tryz.f14.resultTypes.toList).any (Tryz.prog.veiledRec ·)) = true := by kernel_rfl
theorem jf31 : OpenClaim.veiledFits Rows.gunAcceptsRow Tryz.prog Tryz.f14.params.toList (Tryz.f14.params.toList ++ Rows.gunAcceptsSpec.plain.varTypes Tryz.prog ++ Tryz.f14.resultTypes.toList) = true := by kernel_rfl
set_option maxRecDepth 100000 in
theorem facts : joinedFacts Tryz.prog 14 Tryz.f14 Rows.gunAcceptsSpec Rows.gunAcceptsRow = true := by
 unfold joinedFacts
 exact (and2 (and2 (and2 (and2 (and2 (and2 (and2 (and2 (and2 (and2 (and2 (and2 (and2 (and2 (and2 (and2 (and2 (and2 (and2 (and2 (and2 (and2 (and2 (and2 (and2 (and2 (and2 (and2 (and2 (and2 (and2 jf0 jf1) jf2) jf3) jf4) jf5) jf6) jf7) jf8) jf9) jf10) jf11) jf12) jf13) jf14) jf15) jf16) jf17) jf18) jf19) jf20) jf21) jf22) jf23) jf24) jf25) jf26) jf27) jf28) jf29) jf30) jf31)
end gunAccepts
end Go.Proofs.YtndlfijfjglkdaaGreatDoor

namespace Go.Proofs.YtndlfijfjglkdaaGreatDoor
open Go Go.Ab Go.Proofs Go.ChangeShapes Go.WideShapes Go.ChangeAt Go.RowKit
namespace gunAccepts
theorem fnum : Tryz.prog.funcNamed "moveout/moveoutlaw03.GunAccepts" = some 14 := by kernel_rfl
theorem inst : Tryz.f14.isInstance Tryz.prog Rows.gunAcceptsRow.origin Rows.gunAcceptsRow.targs := of_decide_eq_true (by kernel_rfl)
theorem wrapper : Tryz.f14.isWrapper Tryz.prog Rows.gunAcceptsRow.wrapper Rows.gunAcceptsRow.mainSum := by unfold Func.isWrapper; first | (rw [if_pos (by decide +kernel)]; kernel_rfl) | (rw [if_neg (by decide +kernel)]; exact ⟨rfl, rfl⟩)
set_option maxRecDepth 100000 in
theorem said : Rows.GunAcceptsSaid :=
 OpenClaim.holds_of_cond 14 Tryz.f14 rfl rfl rfl rfl rfl rfl rfl ⟨rfl, rfl, rfl, rfl, rfl⟩ rfl rfl rfl rfl rfl fnum Tryz.func14 facts inst wrapper
   (fun os started H enc _ F => by rw [OpenClaim.pre_eq_preRow]; exact lifted os started H enc F)
theorem looks : true = Tryz.prog.looks [] := by kernel_rfl
theorem standIn : ∀ t, t = 24 ∨ t = 149 ∨ t = 150 → Tryz.prog.wantsStandIn t = false := by
 rintro t (rfl | rfl | rfl) <;> kernel_rfl
theorem plain (f : FuncId) (fn : Func) (hf : Tryz.pinned.checked.prog.funcNamed "moveout/moveoutlaw03.GunAccepts" = some f) (hfn : Tryz.pinned.checked.prog.funcs[f]? = some fn) :
   true = Tryz.pinned.checked.prog.looks [] ∧ ∀ (j : Nat) t, fn.params[j]? = some t → Tryz.pinned.checked.prog.wantsStandIn t = false := by
 obtain rfl : f = 14 := Option.some.inj (fnum.symm.trans hf) |>.symm
 obtain rfl : fn = Tryz.f14 := (Option.some.inj (Tryz.func14.symm.trans hfn)).symm
 refine ⟨looks, fun j t ht => ?_⟩
 rw [params14] at ht
 exact standIn t (by simpa using Array.mem_of_getElem? ht)
theorem wf : OpenClaim.wfByText (OpenSpec.ofChange Rows.gunAcceptsSpec) Rows.gunAcceptsRow = true := by kernel_rfl
theorem main : Tryz.prog.mainIs = some ("e00eecd8ca05e183972abfbf043f5ed2bc813bd519e3ebd189d9b51d2f935a9d" |> fun s => (true, s.toList)) := by kernel_rfl
theorem goes : false = Rows.gunAcceptsRow.goesBy Tryz.prog := by kernel_rfl
set_option maxRecDepth 100000 in
theorem card : Rows.GunAcceptsCardSaid :=
 Claim7.holds_tied_plain_at .later [] _ _ _ _ said (fun _ h => by cases h) wf (fun _ h => by cases h) gunAccepts_row_tie rfl ⟨rfl, rfl⟩ main rfl plain goes
end gunAccepts
end Go.Proofs.YtndlfijfjglkdaaGreatDoor
