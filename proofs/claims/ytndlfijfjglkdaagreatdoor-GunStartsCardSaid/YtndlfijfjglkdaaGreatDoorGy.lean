/-
The law GunStarts, walked: it returns true for every string of guns and all steps of names.
-/
import Derived.Test.YtndlfijfjglkdaaGreatDoorGx
import Derived.Test.YtndlfijfjglkdaaGreatDoorGw
namespace Go.Proofs.YtndlfijfjglkdaaGreatDoor
open Go Go.Ab Go.Proofs Go.Soft
theorem lisB_ok {n : Nat} {p : List (List ByteArray)} : ∀ x ∈ lisB n p, n ≤ x.1 := by
  intro x hx
  unfold lisB at hx
  split at hx
  · cases hx
  · exact (ndB_names x hx).1
theorem sub_app {A H : Heap} {n : Nat} (hA : ∀ x ∈ A, n ≤ x.1) (hH : namesOk n H = true) : Sub H (A ++ H) :=
  Sub.app (fun x hx => namesOk_none hH _ (hA x hx)) (Sub.refl _)
set_option maxRecDepth 20000 in
set_option maxHeartbeats 2000000 in
theorem w10 {H : Heap} {n : Nat} {v u : Value} {l : List Gun} {ls : List (List ByteArray)} (g0 : hget H 0 = some (.inp 0 names0)) (g3 : hget H 3 = some (.inp 0 tab3)) (hs : strAt H (.agg ⟨[v]⟩) = some l) (hU : StpV H u ls) : AC Tryz.prog 10 [.agg ⟨[v]⟩, u] H n (.bool true) H n := by
  refine AC.given fun hold _ _ => AC.tidied (B := []) (by simp) ?_
  have hlt0 := fun k b h => (hold k b h).1
  replace g0 : hget (tidy n H) 0 = some (.inp 0 names0) := hget_tidy.2 ⟨g0, hlt0 _ _ g0, rfl⟩
  replace g3 : hget (tidy n H) 3 = some (.inp 0 tab3) := hget_tidy.2 ⟨g3, hlt0 _ _ g3, rfl⟩
  replace hs := strAt_tidy hlt0 hs
  replace hU := hU.tidy hlt0
  have hr := recT_ok (P := Tryz.prog) (l := [(18, g18), (19, gStr fun l => .bool (shortS l)), (68, g68), (21, g21), (69, g69), (24, gStr fun l => iv (strE l)), (70, g70), (71, g71), (72, g72), (74, g74), (73, g73)]) (by simp only [List.forall_mem_cons]; exact ⟨ok18, ok19, ok68, ok21, ok69, ok24, ok70, ok71, ok72, ok74, ok73, by simp⟩)
  obtain ⟨X0, hX0⟩ : ∃ X0, (n, Blk.cells [v] 24) :: tidy n H = X0 := ⟨_, rfl⟩
  have hS0 : Sub (tidy n H) X0 := by rw [← hX0]; exact Sub.cons (by simp) (Sub.refl _)
  have hn0 : namesOk (n + 1) X0 = true := by rw [← hX0]; exact namesOk_put (Nat.lt_succ_self n) (by simp)
  have hp0 : plainH X0 = true := by rw [← hX0]; simp [plainH]
  have hb0 : hget X0 n = some (.cells [v] 24) := by rw [← hX0, hget_cons, if_pos rfl]
  have h18 : ∀ X m, Sub (tidy n H) X → g18 [] X m = some (.bool true, X, m) := fun X m hX => by
    unfold g18
    rw [if_pos ⟨rfl, hX _ _ g3, hX _ _ g0⟩]
  have hbx : ∀ X, hget X n = some (.cells [v] 24) → cellsA X n 0 1 = some [v] := fun X hX => by rw [cellsA_eq, hX]; rfl
  have hbr : ∀ X, hget X n = some (.cells [v] 24) → cellsA (readA [n] X) n 0 1 = some [v] := fun X hX => by rw [cellsA_eq, hget_readA, if_pos (by simp), hX]; rfl
  have h19 : ∀ m, gStr (fun l => .bool (shortS l)) [.agg ⟨[v]⟩] X0 m = some (.bool (shortS l), X0, m) := fun m => by
    simp only [gStr, strAt_mono hS0 hs, Option.map_some]
  have h68 : ∀ m, g68 [u] X0 m = some (.bool (shortP ls), X0, m) := fun m => g68_at (hU.mono hS0)
  have h180 := fun m => h18 X0 m hS0
  have hc0 := hbx X0 hb0
  refine AC.pure Tryz.func10 rfl (by kernel_rfl) rfl [] rfl ?_
  refine E.seq ?_
  refine E.reg hr (by simp; rfl) ?_
  rw [hX0]
  refine E.seq ?_
  refine E.seq ?_
  cases hsh : shortS l with
  | false =>
    rw [hsh] at h19
    refine E.reg hr (by simp [-cellsA, h180, hc0, h19, undefV]; rfl) ?_
    refine E.cond (t := true) (by simp) (fun _ => ?_) (fun h => by cases h)
    refine E.seq ?_
    refine E.reg hr (by simp [h180]; rfl) ?_
    refine E.ret ?_
    exact pureK.ret rfl rfl (by simp) hS0
  | true =>
  rw [hsh] at h19
  cases hsp : shortP ls with
  | false =>
    rw [hsp] at h68
    refine E.reg hr (by simp [-cellsA, h180, hc0, h19, h68]; rfl) ?_
    refine E.cond (t := true) (by simp) (fun _ => ?_) (fun h => by cases h)
    refine E.seq ?_
    refine E.reg hr (by simp [h180]; rfl) ?_
    refine E.ret ?_
    exact pureK.ret rfl rfl (by simp) hS0
  | true =>
  rw [hsp] at h68
  have hl9 := shortS_small hsh
  obtain ⟨hs9, hr9, hf81⟩ := shortP_small hsp
  have hN : nestS (tidy n H) u = some ls := hU.small (by omega) fun r hr => by have := hr9 r hr; omega
  have hlis : ∀ m X, nestS (lisB m ls ++ X) (lisV m ls) = some ls := fun m X => lis_nest (by omega) fun r hr => by have := hr9 r hr; omega
  have h74 : ∀ X m, Sub (tidy n H) X → g74 [u] X m = some (lisV m ls, lisB m ls ++ X, lisN m ls) := fun X m hX => by
    simp only [g74, show nestS X u = some ls from listV_mono (decL_mono decS_mono) hX hN, Option.map_some]
  have h24 : ∀ X m, Sub (tidy n H) X → gStr (fun l => iv (strE l)) [.agg ⟨[v]⟩] X m = some (iv (strE l), X, m) := fun X m hX => by
    simp only [gStr, strAt_mono hX hs, Option.map_some]
  refine E.reg hr (by simp [-cellsA, h180, hc0, h19, h68]; rfl) ?_
  refine E.cond (t := false) (by simp) (fun h => by cases h) (fun _ => ?_)
  refine E.skip ?_
  refine E.seq ?_
  by_cases hne : l = []
  · subst hne
    have h21 : ∀ X m, Sub (tidy n H) X → g21 [.agg ⟨[v]⟩] X m = some (nilV, X, m) := fun X m hX => strAt_nil (strAt_mono hX hs)
    have h69 : ∀ X m, g69 [nilV] X m = some (.tuple #[.slice none 0 0, iv 12], X, m) := fun _ _ => rfl
    have a1 := h21 X0 (n + 1) hS0
    have a2 := h69 X0 (n + 1)
    have a3 := h24 X0 (n + 1) hS0
    have a4 : g72 [.slice none 0 0, .slice none 0 0] X0 (n + 1) = some (.bool true, X0, n + 1) := by
      simp only [g72]
      rw [if_pos ⟨[], rfl, rfl, fun l hl => by cases hl⟩]
    have a5 := h74 X0 (n + 1) hS0
    have a6 : ∀ X m w, g73 [nilV, w] X m = some (iv 12, X, m) := fun _ _ _ => rfl
    have h12 : strE [] = 12 := rfl
    rw [h12] at a3
    refine E.reg hr (by simp [-cellsA, hc0, a1, a2]; rfl) ?_
    refine E.seq ?_
    refine E.reg hr (by simp [-cellsA, hc0, a3]; rfl) ?_
    refine E.seq ?_
    refine E.reg hr (by simp; rfl) ?_
    refine E.seq ?_
    refine E.reg hr (by simp; rfl) ?_
    refine E.seq ?_
    refine E.seq ?_
    refine E.reg hr (by simp; rfl) ?_
    refine E.cond (t := false) (by simp) (fun h => by cases h) (fun _ => ?_)
    refine E.skip ?_
    refine E.seq ?_
    obtain ⟨lv, hlv⟩ : ∃ lv, lisV (n + 1) ls = lv := ⟨_, rfl⟩
    obtain ⟨X1, hX1⟩ : ∃ X1, lisB (n + 1) ls ++ X0 = X1 := ⟨_, rfl⟩
    rw [hlv, hX1] at a5
    refine E.reg hr (by simp [-cellsA, hc0, a4, a1, a5, a6]; rfl) ?_
    refine E.ret ?_
    exact pureK.ret rfl rfl (by simp) (by rw [← hX1]; exact hS0.trans (sub_app lisB_ok hn0))
  have hG := strAt_guns hs hne (by omega)
  have h21 : ∀ X m, Sub (tidy n H) X → g21 [.agg ⟨[v]⟩] X m = some (.agg ⟨[.slice (some ⟨m, 0, some 0⟩) l.length 0]⟩, (m, .ext (gcs l) 95 7) :: X, m + 1) := fun X m hX => strAt_own (strAt_mono hX hs) hne (by omega)
  have a1 := h21 X0 (n + 1) hS0
  have hO1 := own_row (n := n + 1) (H := X0) hne (by omega)
  obtain ⟨X1, hX1⟩ : ∃ X1, (n + 1, Blk.ext (gcs l) 95 7) :: X0 = X1 := ⟨_, rfl⟩
  have hS1 : Sub X0 X1 := by rw [← hX1]; exact Sub.cons (namesOk_none hn0 _ (Nat.le_refl _)) (Sub.refl _)
  have hn1 : namesOk (n + 1 + 1) X1 = true := by rw [← hX1]; exact namesOk_put (Nat.lt_succ_self _) (namesOk_mono (by omega) _ hn0)
  have hp1 : plainH X1 = true := by rw [← hX1]; simp [plainH, hp0]
  have hb1 : hget X1 n = some (.cells [v] 24) := hS1 _ _ hb0
  rw [hX1] at a1 hO1
  obtain ⟨W, hW⟩ : ∃ W, Value.slice (some ⟨n + 1, 0, some 0⟩) l.length 0 = W := ⟨_, rfl⟩
  rw [hW] at a1 hO1
  have a2 := g69_own (n := n + 1 + 1) hO1
  /- the last region's calls -/
  have hlast : ∀ X m, Sub (tidy n H) X → namesOk m X = true → ∃ w ow Xa Xb m1 m2, g21 [.agg ⟨[v]⟩] X m = some (.agg ⟨[w]⟩, Xa, m1) ∧ g74 [u] Xa m1 = some (ow, Xb, m2) ∧ g73 [.agg ⟨[w]⟩, ow] Xb m2 = some (iv (startE l ls), Xb, m2) ∧ Sub X Xb := fun X m hX hm => by
    have q1 := h21 X m hX
    have hm1 : namesOk (m + 1) ((m, Blk.ext (gcs l) 95 7) :: X) = true := namesOk_put (Nat.lt_succ_self _) (namesOk_mono (by omega) _ hm)
    have hS' : Sub X ((m, Blk.ext (gcs l) 95 7) :: X) := Sub.cons (namesOk_none hm _ (Nat.le_refl _)) (Sub.refl _)
    have hS'' := sub_app (lisB_ok (n := m + 1) (p := ls)) hm1
    exact ⟨_, _, _, _, _, _, q1, h74 _ _ (hX.trans hS'), g73_at ((own_row hne (by omega)).mono hS'') (hlis _ _) (by omega), hS'.trans hS''⟩
  by_cases hE : strE l = 0
  · rw [if_pos hE] at a2
    have hsn := soft_nest (l := l) (n := n + 1 + 1) (H := X1) (by omega)
    obtain ⟨hd1, hd2, hd3⟩ := ndbD_ok (n := n + 1 + 1) (ds := softD l)
    obtain ⟨x5, hx5⟩ : ∃ x, ndvD oT (n + 1 + 1) (softD l) = x := ⟨_, rfl⟩
    obtain ⟨N2, hN2⟩ : ∃ N2, n + 1 + 1 + 1 + (softD l).length = N2 := ⟨_, rfl⟩
    obtain ⟨X2, hX2⟩ : ∃ X2, ndbD kT oT (n + 1 + 1) (softD l) ++ X1 = X2 := ⟨_, rfl⟩
    have hS2 : Sub X1 X2 := by rw [← hX2]; exact sub_app hd1 hn1
    have hn2 : namesOk N2 X2 = true := by
      rw [← hX2, ← hN2]
      refine namesOk_app (fun x hx => ?_) (namesOk_mono (by omega) _ hn1)
      have := (ndbD_names x hx).2
      omega
    have hp2 : plainH X2 = true := by rw [← hX2]; exact plainH_app hd3 hp1
    have hb2 : hget X2 n = some (.cells [v] 24) := hS2 _ _ hb1
    rw [hx5, hN2, hX2] at a2
    rw [hx5, hX2] at hsn
    have hT2 : Sub (tidy n H) X2 := hS0.trans (hS1.trans hS2)
    have a3 := h24 X2 N2 hT2
    rw [hE] at a3
    have hGf : GunsAt (frzH X2) v l := by
      obtain ⟨a', c', e, q1, q2, q3⟩ := hG.mono hT2
      exact ⟨a', c', e, q1, by rw [cellsA_frz]; exact q2, q3⟩
    have a4 : g70 [.agg ⟨[v]⟩] (frzH X2) N2 = some (ndvD oT N2 (refD l), ndbD kT oT N2 (refD l) ++ frzH X2, N2 + 1 + (refD l).length) := by
      simp only [g70, gunsOf_atB hGf]
      rw [if_pos hE]
    have hrn := ref_nest (l := l) (n := N2) (H := X2) (by omega)
    obtain ⟨hd4, hd5, hd6⟩ := ndbD_ok (n := N2) (ds := refD l)
    have htk : takeNew N2 (ndbD kT oT N2 (refD l) ++ frzH X2) = ndbD kT oT N2 (refD l) := by rw [takeNew_app hd4, takeNew_frz hn2, List.append_nil]
    obtain ⟨x9, hx9⟩ : ∃ x, ndvD oT N2 (refD l) = x := ⟨_, rfl⟩
    obtain ⟨B, hB⟩ : ∃ B, ndbD kT oT N2 (refD l) = B := ⟨_, rfl⟩
    obtain ⟨N3, hN3⟩ : ∃ N3, N2 + 1 + (refD l).length = N3 := ⟨_, rfl⟩
    have hle : N2 ≤ N3 := by omega
    have hnN : n < N2 := by omega
    have hnN3 : n < N3 := by omega
    rw [hx9, hB, hN3] at a4
    rw [hx9, hB] at hrn
    rw [hB] at htk hd4 hd5 hd6
    rw [hN3] at hd5
    obtain ⟨X3, hX3⟩ : ∃ X3, B ++ X2 = X3 := ⟨_, rfl⟩
    have hS3 : Sub X2 X3 := by rw [← hX3]; exact sub_app hd4 hn2
    have hn3 : namesOk N3 X3 = true := by
      rw [← hX3]
      exact namesOk_app (fun x hx => namesOk_iff.1 hd5 x hx) (namesOk_mono hle _ hn2)
    have hb3 : hget X3 n = some (.cells [v] 24) := hS3 _ _ hb2
    have hT3 : Sub (tidy n H) X3 := hT2.trans hS3
    rw [hX3] at hrn
    have a5 : ∀ m, g71 [.agg ⟨[v]⟩, u] X3 m = some (iv (refStartE l ls), X3, m) := fun m => g71_at (hG.mono hT3) (listV_mono (decL_mono decS_mono) hT3 hN) hE (by omega)
    have a6 : ∀ m, g72 [x5, x9] X3 m = some (.bool true, X3, m) := fun m => by
      simp only [g72]
      rw [if_pos ⟨softL l, listV_mono (decL_mono decS_mono) hS3 hsn, hrn, fun r hr => (softL_row hr).1⟩]
    obtain ⟨w, ow, Xa, Xb, m1, m2, q1, q2, q3, q4⟩ := hlast X3 N3 hT3 hn3
    have heq : startE l ls = refStartE l ls := by
      obtain ⟨_, _, hd, _⟩ := strE_zero hE
      unfold startE refStartE
      rw [if_pos hE]
      by_cases hz : stpP l [] ls = 0
      · rw [if_pos hz, if_pos hz, rule_eq hd hz]
      · rw [if_neg hz, if_neg hz]
    rw [heq] at q3
    obtain ⟨res, hres⟩ : ∃ res, refStartE l ls = res := ⟨_, rfl⟩
    rw [hres] at a5 q3
    have c2 := hbx X2 hb2
    have c3 := hbx X3 hb3
    have d2 := hbr X2 hb2
    have d3 := hbr X3 hb3
    refine E.reg hr (by simp [-cellsA, hc0, a1, a2]; rfl) ?_
    refine E.seq ?_
    refine E.reg hr (by simp [-cellsA, c2, a3]; rfl) ?_
    refine E.seq ?_
    refine E.reg hr (by simp; rfl) ?_
    refine E.seq ?_
    refine E.reg hr (by simp; rfl) ?_
    refine E.seq ?_
    refine E.seq ?_
    refine E.reg hr (by simp; rfl) ?_
    refine E.cond (t := true) (by simp) (fun _ => ?_) (fun h => by cases h)
    refine E.drawU mixed hr [4] [1, 4] [0, 1, 4] (by kernel_rfl) (by simp [-cellsA, -readA, hn2, hp2, hnN, hnN3, hle, d2, d3, a4, htk, hd5, hX3, hn3, a5]; rfl) ?_
    refine E.seq ?_
    refine E.reg hr (by simp [-cellsA, a6, c3, q1, q2, q3]; rfl) ?_
    refine E.ret ?_
    exact pureK.ret rfl rfl (by simp) (hT3.trans q4)
  · rw [if_neg hE] at a2
    have hT1 : Sub (tidy n H) X1 := hS0.trans hS1
    have a3 := h24 X1 (n + 1 + 1) hT1
    have a4 : g72 [.slice none 0 0, .slice none 0 0] X1 (n + 1 + 1) = some (.bool true, X1, n + 1 + 1) := by
      simp only [g72]
      rw [if_pos ⟨[], rfl, rfl, fun l hl => by cases hl⟩]
    obtain ⟨w, ow, Xa, Xb, m1, m2, q1, q2, q3, q4⟩ := hlast X1 (n + 1 + 1) hT1 hn1
    have heq : startE l ls = strE l := by unfold startE; rw [if_neg hE]
    rw [heq] at q3
    obtain ⟨e, he⟩ : ∃ e, strE l = e := ⟨_, rfl⟩
    rw [he] at hE a2 a3 q3
    have c1 := hbx X1 hb1
    refine E.reg hr (by simp [-cellsA, hc0, a1, a2]; rfl) ?_
    refine E.seq ?_
    refine E.reg hr (by simp [-cellsA, c1, a3]; rfl) ?_
    refine E.seq ?_
    refine E.reg hr (by simp; rfl) ?_
    refine E.seq ?_
    refine E.reg hr (by simp; rfl) ?_
    refine E.seq ?_
    refine E.seq ?_
    refine E.reg hr (by simp; rfl) ?_
    refine E.cond (t := false) (by simp [hE]) (fun h => by cases h) (fun _ => ?_)
    refine E.skip ?_
    refine E.seq ?_
    refine E.reg hr (by simp [-cellsA, a4, c1, q1, q2, q3]; rfl) ?_
    refine E.ret ?_
    exact pureK.ret rfl rfl (by simp) (hT1.trans q4)
end Go.Proofs.YtndlfijfjglkdaaGreatDoor
