/-
GunDrops: what is left, refused and largest without guns, is told by program and reference alike.
-/
import Derived.Deep.Slices
import Derived.Test.YtndlfijfjglkdaaGreatDoorRg
import Derived.Test.YtndlfijfjglkdaaGreatDoorRc
import Derived.Test.YtndlfijfjglkdaaGreatDoorRa
import Derived.Test.YtndlfijfjglkdaaGreatDoorRd
import Derived.Test.YtndlfijfjglkdaaGreatDoorRb
import Derived.Test.YtndlfijfjglkdaaGreatDoorFa
import Derived.Test.YtndlfijfjglkdaaGreatDoorRe
import Derived.Test.YtndlfijfjglkdaaGreatDoorRf
import Derived.Test.YtndlfijfjglkdaaGreatDoorPa
namespace Go.Proofs.YtndlfijfjglkdaaGreatDoor
open Go Go.Ab Go.Proofs
theorem HandW.frz {H : Heap} {u : Value} {ws : List ByteArray} (h : HandW H u ws) : HandW (frzH H) u ws := by
 rcases h with ⟨b, o, c, e, h1, h⟩ | h
 · exact .inl ⟨b, o, c, e, h1, strsAt_frz h⟩
 · exact .inr h
set_option maxRecDepth 20000 in
set_option maxHeartbeats 4000000 in
theorem w15v {T W X : Heap} {n N N0 p q : Nat} {v rv uw u7 u9 u11 : Value} {w z13 : Int} {l : List Gun} {rs : List Rul} {ws : List ByteArray} (hB : B15 T W n N0 p v rv uw w l rs ws u7 u9 u11) (hS : Sub W X) (hm : MemOk N X) (hq : hget X q = some (.cells [.slice none 0 0] 24)) (hW0 : hget W q = none) (h6 : strE l = 0 → l.length ≤ 6) (h9 : l.length ≤ 9) (hr13 : rs.length ≤ 13) :
   E Tryz.prog n none (cFrom (bodyOf Tryz.f15) 11) { fr := F15 rv n p q (wioE l ws) u9 (refdE l rs ws w) u11 (lrgE l rs w) z13 (rulsE rs) (wioA l ws) (firstV [strE l, rulsE rs]) (lrgE l rs w) (.slice none 0 0) (.slice none 0 0), sz := 160, H := X, n := N, marks := [], vs := vs15 } (pureK Tryz.prog Tryz.f15 T (.bool true)) := by
 have hr := recT_ok (P := Tryz.prog) (l := [(98, g98), (37, g1 fun a => withinV a 1 64), (27, g113)]) (by simp only [List.forall_mem_cons]; exact ⟨ok98, ok37, ok27, by simp⟩)
 have hM := hB.mem.more hS hm
 obtain ⟨r1, r2, r3⟩ := hM.reads
 obtain ⟨orr, cr, hrv⟩ : ∃ orr cr, rv = .slice orr rs.length cr := by
   obtain ⟨a, b, e, _⟩ := hM.rul
   exact ⟨a, b, e⟩
 by_cases h0 : firstV [strE l, rulsE rs] = 0
 · have hst : strE l = 0 := (firstV_zero _).1 h0 _ (by simp)
   have hE : refdE l rs ws w = firstV [dropE l ws, withinV w 1 64] := by rw [refdE, if_pos h0]
   obtain ⟨y1, hy1⟩ : ∃ z, dropE l ws = z := ⟨_, rfl⟩
   obtain ⟨y2, hy2⟩ : ∃ z, withinV w 1 64 = z := ⟨_, rfl⟩
   obtain ⟨y, hy⟩ : ∃ z, firstV [y1, y2] = z := ⟨_, rfl⟩
   rw [hy1, hy2, hy] at hE
   have h98 : ∀ m, g98 [.agg ⟨[v]⟩, uw] (frzH X) m = some (iv y1, frzH X, m) := fun m => by rw [← hy1]; exact g98_at (strAt_frz hM.str) hM.wds.frz hst
   have r1f : cellsA (frzH X) n 0 1 = some [v] := by rw [cellsA_frz, r1]
   have r2f : cellA (frzH X) (n + 1) 0 = some uw := by rw [cellA_frz, r2]
   have r3f : cellA (frzH X) (n + 1) 1 = some (iv w) := by rw [cellA_frz, r3]
   obtain ⟨m1, s1⟩ := hm.put (b := Blk.cells [iv y1, iv y2] 3) rfl
   obtain ⟨X1, hX1⟩ : ∃ X1, (N, Blk.cells [iv y1, iv y2] 3) :: X = X1 := ⟨_, rfl⟩
   rw [hX1] at m1 s1
   have h27 : ∀ m, g113 [.slice (some ⟨N, 0, none⟩) 2 2] X1 m = some (iv y, X1, m) := fun m => by
     have : intsAt X1 ⟨N, 0, none⟩ 2 = some [y1, y2] := intsAt_iv rfl (by rw [← hX1, cellsA_cons, if_pos rfl]; rfl) (by omega)
     simp only [g113, this, Option.map_some, hy]
   have x1 : n < N := hm.lt hM.box0
   have x2 : n + 1 < N := hm.lt hM.box1
   have htk := takeNew_frz hm.1
   have key := w15w (z13 := z13) hB (hS.trans s1) m1 (s1 _ _ hq) hW0 h6 h9 hr13
   rw [hE] at key ⊢
   rw [h0]
   subst hrv
   refine E.seq (E.seq (E.reg hr (by simp; rfl) ?_))
   refine E.cond (t := true) (by simp) (fun _ => ?_) (fun h => by cases h)
   refine E.drawU mixed hr [6, 7, 8] [3, 6, 7, 8] [0, 2, 3, 6, 7, 8] (by kernel_rfl) (by simp [-cellsA, -cellA, -readA, cellA_read, cellsA_read, hm.1, hm.2, m1.1, htk, x1, x2, r1, r2, r3, h98, g1, hy2, hX1, h27]; rfl) ?_
   refine E.lead _ ?_ key
   exact .keep rfl rfl rfl (by simp) (Sub.refl _)
 · have hE : refdE l rs ws w = firstV [strE l, rulsE rs] := by rw [refdE, if_neg h0]
   have key := w15w (z13 := z13) hB hS hm hq hW0 h6 h9 hr13
   rw [hE] at key ⊢
   obtain ⟨e, he⟩ : ∃ z, firstV [strE l, rulsE rs] = z := ⟨_, rfl⟩
   rw [he] at key h0 ⊢
   refine E.seq (E.seq (E.reg hr (by simp; rfl) ?_))
   refine E.cond (t := false) (by simp [h0]) (fun h => by cases h) (fun _ => ?_)
   refine E.skip ?_
   refine E.lead _ ?_ key
   exact .keep rfl rfl rfl (by simp) (Sub.refl _)
set_option maxRecDepth 20000 in
set_option maxHeartbeats 4000000 in
theorem w15u {T W X : Heap} {n N N0 p q : Nat} {v rv uw u7 u9 u11 : Value} {w : Int} {l : List Gun} {rs : List Rul} {ws : List ByteArray} (hB : B15 T W n N0 p v rv uw w l rs ws u7 u9 u11) (hS : Sub W X) (hm : MemOk N X) (hq : hget X q = some (.cells [.slice none 0 0] 24)) (hW0 : hget W q = none) (h6 : strE l = 0 → l.length ≤ 6) (h9 : l.length ≤ 9) (hr13 : rs.length ≤ 13) :
   E Tryz.prog n none (cFrom (bodyOf Tryz.f15) 10) { fr := F15 rv n p q (wioE l ws) u9 (refdE l rs ws w) u11 (lrgE l rs w) (strE l) (rulsE rs) (strE l) (firstV [strE l, rulsE rs]) (lrgE l rs w) (.slice none 0 0) (.slice none 0 0), sz := 160, H := X, n := N, marks := [], vs := vs15 } (pureK Tryz.prog Tryz.f15 T (.bool true)) := by
 have hr := recT_ok (P := Tryz.prog) (l := [(98, g98)]) (by simp only [List.forall_mem_cons]; exact ⟨ok98, by simp⟩)
 have hM := hB.mem.more hS hm
 obtain ⟨r1, r2, r3⟩ := hM.reads
 have key := w15v (z13 := strE l) hB hS hm hq hW0 h6 h9 hr13
 obtain ⟨f1, hf1⟩ : ∃ z, firstV [strE l, rulsE rs] = z := ⟨_, rfl⟩
 rw [hf1] at key ⊢
 by_cases h0 : strE l = 0
 · have hA : wioA l ws = dropE l ws := by rw [wioA, if_pos h0]
   obtain ⟨y1, hy1⟩ : ∃ z, dropE l ws = z := ⟨_, rfl⟩
   have h98 : ∀ m, g98 [.agg ⟨[v]⟩, uw] X m = some (iv y1, X, m) := fun m => by rw [← hy1]; exact g98_at hM.str hM.wds h0
   rw [hA, hy1] at key
   rw [h0] at key ⊢
   refine E.seq (E.seq (E.reg hr (by simp; rfl) ?_))
   refine E.cond (t := true) (by simp) (fun _ => ?_) (fun h => by cases h)
   refine E.reg hr (by simp [-cellsA, -cellA, r1, r2, h98]; rfl) ?_
   refine E.lead _ ?_ key
   exact .keep rfl rfl rfl (by simp) (Sub.refl _)
 · have hA : wioA l ws = strE l := by rw [wioA, if_neg h0]
   rw [hA] at key
   obtain ⟨e, he⟩ : ∃ z, strE l = z := ⟨_, rfl⟩
   rw [he] at key h0 ⊢
   refine E.seq (E.seq (E.reg hr (by simp; rfl) ?_))
   refine E.cond (t := false) (by simp [h0]) (fun h => by cases h) (fun _ => ?_)
   refine E.skip ?_
   refine E.lead _ ?_ key
   exact .keep rfl rfl rfl (by simp) (Sub.refl _)
abbrev G15 (rv : Value) (n p : Nat) (e8 : Int) (u9 : Value) (e10 : Int) (u11 : Value) (e12 : Int) : Fr := [(1, rv), (3, .pointer (some ⟨n, 0, none⟩)), (5, .pointer (some ⟨n + 1, 0, none⟩)), (6, .bool false), (7, .pointer (some ⟨p, 0, none⟩)), (8, iv e8), (9, u9), (10, iv e10), (11, u11), (12, iv e12)]
set_option maxRecDepth 20000 in
set_option maxHeartbeats 4000000 in
theorem w15t {T X : Heap} {n N p : Nat} {v rv uw u7 u9 u11 : Value} {w : Int} {l : List Gun} {rs : List Rul} {ws : List ByteArray} (hB : B15 T X n N p v rv uw w l rs ws u7 u9 u11) (h6 : strE l = 0 → l.length ≤ 6) (h9 : l.length ≤ 9) (hr13 : rs.length ≤ 13) :
   E Tryz.prog n none (cFrom (bodyOf Tryz.f15) 5) { fr := G15 rv n p (wioE l ws) u9 (refdE l rs ws w) u11 (lrgE l rs w), sz := 160, H := X, n := N, marks := [], vs := vs15 } (pureK Tryz.prog Tryz.f15 T (.bool true)) := by
 have hr := recT_ok (P := Tryz.prog) (l := [(24, gStr fun l => iv (strE l)), (90, gRul fun l => iv (rulsE l)), (37, g1 fun a => withinV a 1 64), (27, g113)]) (by simp only [List.forall_mem_cons]; exact ⟨ok24, ok90, ok37, ok27, by simp⟩)
 have hM := hB.mem
 have hm := hM.mem
 obtain ⟨r1, r2, r3⟩ := hM.reads
 obtain ⟨orr, cr, hrv⟩ : ∃ orr cr, rv = .slice orr rs.length cr := by
   obtain ⟨a, b, e, _⟩ := hM.rul
   exact ⟨a, b, e⟩
 obtain ⟨z1, hz1⟩ : ∃ z, strE l = z := ⟨_, rfl⟩
 obtain ⟨z2, hz2⟩ : ∃ z, rulsE rs = z := ⟨_, rfl⟩
 obtain ⟨z3, hz3⟩ : ∃ z, withinV w 1 64 = z := ⟨_, rfl⟩
 obtain ⟨m1, s1⟩ := hm.put (b := Blk.cells [iv z1, iv z2] 3) rfl
 obtain ⟨m2, s2⟩ := m1.put (b := Blk.cells [iv z1, iv z2, iv z3] 3) rfl
 obtain ⟨m3, s3⟩ := m2.put (b := Blk.cells [.slice none 0 0] 24) rfl
 have hSX := s1.trans (s2.trans s3)
 have key := w15u hB hSX m3 (by rw [hget_cons, if_pos rfl]) (hm.none (by omega)) h6 h9 hr13
 have hlE : firstV [strE l, rulsE rs, withinV w 1 64] = lrgE l rs w := rfl
 have h24 : ∀ m, gStr (fun l => iv (strE l)) [.agg ⟨[v]⟩] X m = some (iv (strE l), X, m) := fun m => by simp only [gStr, hM.str, Option.map_some]
 have hRv := hM.rul.rul (by omega)
 have h90 : ∀ m, gRul (fun l => iv (rulsE l)) [rv] X m = some (iv (rulsE rs), X, m) := fun m => by simp only [gRul, hRv, Option.map_some]
 obtain ⟨f1, hf1⟩ : ∃ z, firstV [z1, z2] = z := ⟨_, rfl⟩
 obtain ⟨f2, hf2⟩ : ∃ z, lrgE l rs w = z := ⟨_, rfl⟩
 rw [hz1, hz2] at key
 rw [hz1] at h24
 rw [hz2] at h90
 rw [hf2] at key hlE ⊢
 rw [hz1, hz2, hz3] at hlE
 rw [hf1] at key
 obtain ⟨X1, hX1⟩ : ∃ X1, (N, Blk.cells [iv z1, iv z2] 3) :: X = X1 := ⟨_, rfl⟩
 rw [hX1] at m1 s1 m2 s2 m3 s3 key
 obtain ⟨X2, hX2⟩ : ∃ X2, (N + 1, Blk.cells [iv z1, iv z2, iv z3] 3) :: X1 = X2 := ⟨_, rfl⟩
 rw [hX2] at m2 s2 m3 s3 key
 obtain ⟨X3, hX3⟩ : ∃ X3, (N + 1 + 1, Blk.cells [.slice none 0 0] 24) :: X2 = X3 := ⟨_, rfl⟩
 rw [hX3] at m3 s3 key
 have c1 : intsAt X1 ⟨N, 0, none⟩ 2 = some [z1, z2] := intsAt_iv rfl (by rw [← hX1, cellsA_cons, if_pos rfl]; rfl) (by omega)
 have c1f : intsAt (frzH X1) ⟨N, 0, none⟩ 2 = some [z1, z2] := intsAt_iv rfl (by rw [cellsA_frz, ← hX1, cellsA_cons, if_pos rfl]; rfl) (by omega)
 have h27a : ∀ m, g113 [.slice (some ⟨N, 0, none⟩) 2 2] (frzH X1) m = some (iv f1, frzH X1, m) := fun m => by
   simp only [g113, c1f, Option.map_some, hf1]
 have c2 : intsAt X2 ⟨N + 1, 0, none⟩ 3 = some [z1, z2, z3] := intsAt_iv rfl (by rw [← hX2, cellsA_cons, if_pos rfl]; rfl) (by omega)
 have h27b : ∀ m, g113 [.slice (some ⟨N + 1, 0, none⟩) 3 3] X2 m = some (iv f2, X2, m) := fun m => by
   simp only [g113, c2, Option.map_some, hlE]
 have htk := takeNew_frz hm.1
 have htk1 := takeNew_frz m1.1
 have x2 : n + 1 < N := hm.lt hM.box1
 have r3x : cellA X1 (n + 1) 1 = some (iv w) := s1.cell r3
 subst hrv
 refine E.seq (E.reg hr (by simp [-cellsA, -cellA, r1, h24, h90]; rfl) ?_)
 refine E.seq (E.drawU mixed hr [9, 10, 11] [3, 4, 9, 10, 11] [3, 4, 9, 10, 11] (by kernel_rfl) (by simp [-cellsA, -cellA, -readA, cellA_read, handA_nil, hm.1, m1.1, m1.2, m2.1, htk1, x2, r3x, g1, hz3, hX1, hX2, h27a, h27b]; rfl) ?_)
 refine E.seq (E.reg hr (by simp; rfl) ?_)
 rw [hX3]
 refine E.seq (E.reg hr (by simp; rfl) ?_)
 refine E.seq (E.reg hr (by simp; rfl) ?_)
 refine E.lead _ ?_ key
 exact .keep rfl rfl rfl (by simp) (Sub.refl _)
section
variable {X : Heap} {N : Nat}
theorem MemOk.refusedN (hm : MemOk N X) (g0 : hget X 0 = some (.inp 0 names0)) {x r u : Value} {l : List Gun} {rs : List Rul} {ws : List ByteArray} {w : Int} (hx : OwnS X x l) (hR : RulA X r rs) (hl : rs.length < 2147483648) (hW : OwnW X u ws) :
   ∃ oa c Y, g91 [x, r, u, iv w] X N = some (.tuple #[.slice oa (refdL l rs ws w).length c, iv (refdE l rs ws w)], Y, N + 1) ∧ OutI Y (.slice oa (refdL l rs ws w).length c) (refdL l rs ws w) ∧ Sub X Y ∧ MemOk (N + 1) Y := by
 obtain ⟨m1, s1⟩ := hm.sb (t := 3) (sz := 1) (k := (refdL l rs ws w).length) (cs := (refdL l rs ws w).map iv) rfl
 have h1 := g91_at (n := N) (w := w) g0 hx hR.rul hW
 have h2 : OutI (outSB N 3 1 (refdL l rs ws w).length ((refdL l rs ws w).map iv) ++ X) (outS N (refdL l rs ws w).length) (refdL l rs ws w) := OutI.sb (by have := refdL_len l rs ws w; omega)
 obtain ⟨oa, c, e⟩ : ∃ oa c, outS N (refdL l rs ws w).length = .slice oa (refdL l rs ws w).length c := by
   by_cases h : (refdL l rs ws w).length = 0
   · rw [h]; exact ⟨Option.none, 0, rfl⟩
   · rw [outS_ne h]; exact ⟨_, _, rfl⟩
 rw [e] at h1 h2
 exact ⟨oa, c, _, h1, h2, s1, m1⟩
theorem MemOk.largestN (hm : MemOk N X) (g0 : hget X 0 = some (.inp 0 names0)) {x r : Value} {l : List Gun} {rs : List Rul} {w : Int} (hx : OwnS X x l) (hR : RulA X r rs) (h6 : strE l = 0 → l.length ≤ 6) :
   ∃ oa c Y, g93D [x, r, iv w] X N = some (.tuple #[.slice oa (lrgZ l rs w).length c, iv (lrgE l rs w)], Y, N + 1) ∧ OutW Y (.slice oa (lrgZ l rs w).length c) (nmsL l (lrgZ l rs w)) ∧ Sub X Y ∧ MemOk (N + 1) Y := by
 obtain ⟨m1, s1⟩ := hm.sb (t := 9) (sz := 1) (k := (lrgZ l rs w).length) (cs := nmsC l (lrgZ l rs w)) rfl
 have h1 := g93D_at (n := N) (w := w) g0 hx hR h6
 have hl : (nmsL l (lrgZ l rs w)).length = (lrgZ l rs w).length := List.length_map ..
 have h2 : OutW (outSB N 9 1 (nmsL l (lrgZ l rs w)).length ((nmsL l (lrgZ l rs w)).map sv) ++ X) (outS N (nmsL l (lrgZ l rs w)).length) (nmsL l (lrgZ l rs w)) := OutW.sb (by have := lrgZ_facts (rs := rs) (w := w) h6; omega)
 rw [hl] at h2
 obtain ⟨oa, c, e⟩ : ∃ oa c, outS N (lrgZ l rs w).length = .slice oa (lrgZ l rs w).length c := by
   by_cases h : (lrgZ l rs w).length = 0
   · rw [h]; exact ⟨Option.none, 0, rfl⟩
   · rw [outS_ne h]; exact ⟨_, _, rfl⟩
 rw [e] at h1 h2
 exact ⟨oa, c, _, h1, h2, s1, m1⟩
end
set_option maxRecDepth 20000 in
set_option maxHeartbeats 4000000 in
theorem w15s {T X : Heap} {n N p : Nat} {v rv uw u7 u9 : Value} {w : Int} {l : List Gun} {rs : List Rul} {ws : List ByteArray} (hM : M15 T X n N v rv uw w l rs ws) (hb7 : hget X p = some (.cells [u7] 32)) (hs7 : strAt X (.agg ⟨[u7]⟩) = some (wantG l ws)) (o9 : OutI X u9 (refdL l rs ws w)) (h6 : strE l = 0 → l.length ≤ 6) (h9 : l.length ≤ 9) (hr13 : rs.length ≤ 13) :
   E Tryz.prog n none (cFrom (bodyOf Tryz.f15) 4) { fr := [(1, rv), (3, .pointer (some ⟨n, 0, none⟩)), (5, .pointer (some ⟨n + 1, 0, none⟩)), (6, .bool false), (7, .pointer (some ⟨p, 0, none⟩)), (8, iv (wioE l ws)), (9, u9), (10, iv (refdE l rs ws w))], sz := 160, H := X, n := N, marks := [], vs := vs15 } (pureK Tryz.prog Tryz.f15 T (.bool true)) := by
 have hr := recT_ok (P := Tryz.prog) (l := [(21, g21), (92, g92), (93, g93D)]) (by simp only [List.forall_mem_cons]; exact ⟨ok21, ok92, ok93D, by simp⟩)
 have hm := hM.mem
 obtain ⟨r1, r2, r3⟩ := hM.reads
 obtain ⟨orr, cr, hrv⟩ : ∃ orr cr, rv = .slice orr rs.length cr := by
   obtain ⟨a, b, e, _⟩ := hM.rul
   exact ⟨a, b, e⟩
 obtain ⟨x, Z1, B1, Y1, N1, a1, a2, a3, a4, a5, s1, m1, a6⟩ := hm.ownF hM.str (by omega)
 obtain ⟨r, Z2, B2, Y2, b1, b2, b3, b4, b5, s2, m2⟩ := m1.rulesF (hM.rul.mono s1) (by omega)
 obtain ⟨oa, c, Y3, c1, c2, s3, m3⟩ := m2.largestN (w := w) ((s1.trans s2) _ _ hM.g0) (a5.mono s2) b5 h6
 have hSX := s1.trans (s2.trans s3)
 have key := w15t ⟨hM.more hSX m3, hSX _ _ hb7, strAt_mono hSX hs7, o9.mono hSX, c2⟩ h6 h9 hr13
 have x1 : n < N := hm.lt hM.box0
 have x2 : n + 1 < N := hm.lt hM.box1
 have r1f : cellsA (frzH X) n 0 1 = some [v] := by rw [cellsA_frz, r1]
 have r3y : cellA Y2 (n + 1) 1 = some (iv w) := s2.cell (s1.cell r3)
 obtain ⟨e8, he8⟩ : ∃ z, wioE l ws = z := ⟨_, rfl⟩
 obtain ⟨e10, he10⟩ : ∃ z, refdE l rs ws w = z := ⟨_, rfl⟩
 obtain ⟨e12, he12⟩ : ∃ z, lrgE l rs w = z := ⟨_, rfl⟩
 rw [he8, he10, he12] at key
 rw [he12] at c1
 rw [he8, he10]
 have htk := takeNew_frz hm.1
 subst hrv
 refine E.seq (E.drawU mixed hr [6] [1, 3, 6] [0, 1, 3, 6] (by kernel_rfl) (by simp [-cellsA, -cellA, -readA, cellA_read, cellsA_read, hm.1, hm.2, m1.2, m3.1, x1, x2, r1, r3y, a1, a2, a3, a4, a6, b1, b2, b3, b4, c1]; rfl) ?_)
 refine E.lead _ ?_ key
 exact .keep rfl rfl rfl (by simp) (Sub.refl _)
set_option maxRecDepth 20000 in
set_option maxHeartbeats 4000000 in
theorem w15r {T X : Heap} {n N p : Nat} {v rv uw u7 : Value} {w : Int} {l : List Gun} {rs : List Rul} {ws : List ByteArray} (hM : M15 T X n N v rv uw w l rs ws) (hb7 : hget X p = some (.cells [u7] 32)) (hs7 : strAt X (.agg ⟨[u7]⟩) = some (wantG l ws)) (h6 : strE l = 0 → l.length ≤ 6) (h9 : l.length ≤ 9) (hr13 : rs.length ≤ 13) :
   E Tryz.prog n none (cFrom (bodyOf Tryz.f15) 3) { fr := [(1, rv), (3, .pointer (some ⟨n, 0, none⟩)), (5, .pointer (some ⟨n + 1, 0, none⟩)), (6, .bool false), (7, .pointer (some ⟨p, 0, none⟩)), (8, iv (wioE l ws))], sz := 160, H := X, n := N, marks := [], vs := vs15 } (pureK Tryz.prog Tryz.f15 T (.bool true)) := by
 have hr := recT_ok (P := Tryz.prog) (l := [(21, g21), (92, g92), (94, g94), (91, g91)]) (by simp only [List.forall_mem_cons]; exact ⟨ok21, ok92, ok94, ok91, by simp⟩)
 have hm := hM.mem
 obtain ⟨r1, r2, r3⟩ := hM.reads
 obtain ⟨orr, cr, hrv⟩ : ∃ orr cr, rv = .slice orr rs.length cr := by
   obtain ⟨a, b, e, _⟩ := hM.rul
   exact ⟨a, b, e⟩
 obtain ⟨x, Z1, B1, Y1, N1, a1, a2, a3, a4, a5, s1, m1, a6⟩ := hm.ownF hM.str (by omega)
 obtain ⟨r, Z2, B2, Y2, b1, b2, b3, b4, b5, s2, m2⟩ := m1.rulesF (hM.rul.mono s1) (by omega)
 obtain ⟨y, Z3, B3, Y3, c1, c2, c3, c4, c5, s3, m3⟩ := m2.wordsF (listV_mono decS_mono (s1.trans s2) hM.wds.str)
 obtain ⟨oa, c, Y4, d1, d2, s4, m4⟩ := m3.refusedN (w := w) ((s1.trans (s2.trans s3)) _ _ hM.g0) (a5.mono (s2.trans s3)) (b5.mono s3) (by omega) c5
 have hSX := s1.trans (s2.trans (s3.trans s4))
 have key := w15s (hM.more hSX m4) (hSX _ _ hb7) (strAt_mono hSX hs7) d2 h6 h9 hr13
 have x1 : n < N := hm.lt hM.box0
 have x2 : n + 1 < N := hm.lt hM.box1
 have r1f : cellsA (frzH X) n 0 1 = some [v] := by rw [cellsA_frz, r1]
 have r2y : cellA Y2 (n + 1) 0 = some uw := s2.cell (s1.cell r2)
 have r3y : cellA Y3 (n + 1) 1 = some (iv w) := s3.cell (s2.cell (s1.cell r3))
 obtain ⟨e8, he8⟩ : ∃ z, wioE l ws = z := ⟨_, rfl⟩
 obtain ⟨e10, he10⟩ : ∃ z, refdE l rs ws w = z := ⟨_, rfl⟩
 rw [he8, he10] at key
 rw [he10] at d1
 rw [he8]
 have htk := takeNew_frz hm.1
 subst hrv
 refine E.seq (E.drawU mixed hr [9] [1, 3, 6, 9] [0, 1, 3, 6, 9] (by kernel_rfl) (by simp [-cellsA, -cellA, -readA, cellA_read, cellsA_read, hm.1, hm.2, m1.2, m2.2, m4.1, x1, x2, r1, r2y, r3y, a1, a2, a3, a4, a6, b1, b2, b3, b4, c1, c2, c3, c4, d1]; rfl) ?_)
 refine E.lead _ ?_ key
 exact .keep rfl rfl rfl (by simp) (Sub.refl _)
def goOn15 (l : List Gun) (rs : List Rul) (ws : List ByteArray) : Prop := shortS l = true ∧ shortR rs = true ∧ shortW ws = true
theorem shortS_six {l : List Gun} (h : shortS l = true) : (strE l = 0 → l.length ≤ 6) ∧ l.length ≤ 9 := by
 unfold shortS at h
 simp only [Bool.and_eq_true, Bool.or_eq_true, decide_eq_true_eq] at h
 refine ⟨fun hst => ?_, by omega⟩
 have := strE_len hst
 omega
theorem shortR_len {rs : List Rul} (h : shortR rs = true) : rs.length ≤ 13 := by
 unfold shortR at h
 simp only [Bool.and_eq_true, Bool.or_eq_true, decide_eq_true_eq] at h
 omega
set_option maxRecDepth 20000 in
set_option maxHeartbeats 4000000 in
theorem w15 {H : Heap} {n : Nat} {v rv uw : Value} {w : Int} {l : List Gun} {rs : List Rul} {ws : List ByteArray} (g0 : hget H 0 = some (.inp 0 names0)) (g3 : hget H 3 = some (.inp 0 tab3)) (hs : strAt H (.agg ⟨[v]⟩) = some l) (hR : RulsV H rv rs) (hW : WdsV H uw ws) (hH : ws.length < 2147483648 → HandW H uw ws) : AC Tryz.prog 15 [.agg ⟨[v]⟩, rv, .agg ⟨[uw, iv w]⟩] H n (.bool true) H n := by
 refine AC.given fun hold _ _ => AC.tidied (B := []) (by simp) ?_
 have hlt0 := fun k b h => (hold k b h).1
 replace g0 : hget (tidy n H) 0 = some (.inp 0 names0) := hget_tidy.2 ⟨g0, hlt0 _ _ g0, rfl⟩
 replace g3 : hget (tidy n H) 3 = some (.inp 0 tab3) := hget_tidy.2 ⟨g3, hlt0 _ _ g3, rfl⟩
 replace hs := strAt_tidy hlt0 hs
 replace hR := hR.tidy hlt0
 replace hW := hW.tidy hlt0
 have hH' : ws.length < 2147483648 → HandW (tidy n H) uw ws := fun h => (hH h).tidy hlt0
 have hr := recT_ok (P := Tryz.prog) (l := [(18, g18), (19, gStr fun l => .bool (shortS l)), (89, g89), (96, g96), (21, g21), (94, g94), (97, g97)]) (by simp only [List.forall_mem_cons]; exact ⟨ok18, ok19, ok89, ok96, ok21, ok94, ok97, by simp⟩)
 have hM : MemOk n (tidy n H) := ⟨namesOk_tidy, by simp⟩
 obtain ⟨hM1, hS1⟩ := hM.put (b := Blk.cells [v] 24) rfl
 obtain ⟨hM2, hS2⟩ := hM1.put (b := Blk.cells [uw, iv w] 163) rfl
 obtain ⟨X0, hX0⟩ : ∃ X0, (n + 1, Blk.cells [uw, iv w] 163) :: (n, Blk.cells [v] 24) :: tidy n H = X0 := ⟨_, rfl⟩
 rw [hX0] at hM2 hS2
 have hS0 := hS1.trans hS2
 have hb0 : hget X0 n = some (.cells [v] 24) := hS2 _ _ (by rw [hget_cons, if_pos rfl])
 have hb1 : hget X0 (n + 1) = some (.cells [uw, iv w] 163) := by rw [← hX0, hget_cons, if_pos rfl]
 have h18 : ∀ m, g18 [] X0 m = some (.bool true, X0, m) := fun m => by
   unfold g18
   rw [if_pos ⟨rfl, hS0 _ _ g3, hS0 _ _ g0⟩]
 have r1 : cellsA X0 n 0 1 = some [v] := by rw [cellsA_eq, hb0]; rfl
 have r2 : cellA X0 (n + 1) 0 = some uw := by rw [cellA_eq, hb1]; rfl
 have hs0 := strAt_mono hS0 hs
 have h19 : ∀ m, gStr (fun l => .bool (shortS l)) [.agg ⟨[v]⟩] X0 m = some (.bool (shortS l), X0, m) := fun m => by
   simp only [gStr, hs0, Option.map_some]
 have h89 : ∀ m, g89 [rv] X0 m = some (.bool (shortR rs), X0, m) := fun m => g89_at (hR.mono hS0)
 have h96 : ∀ m, g96 [uw] X0 m = some (.bool (shortW ws), X0, m) := fun m => g96_at (hW.mono hS0)
 obtain ⟨orr, cr, hrv⟩ : ∃ orr cr, rv = .slice orr rs.length cr := by
   obtain ⟨a, b, e, _⟩ := hR
   exact ⟨a, b, e⟩
 refine AC.pure Tryz.func15 rfl (by kernel_rfl) rfl vs15 rfl ?_
 refine E.seq (E.reg hr (by simp; rfl) ?_)
 rw [hX0]
 by_cases hgo : goOn15 l rs ws
 case neg =>
   obtain ⟨sb, hsb⟩ : ∃ z, shortS l = z := ⟨_, rfl⟩
   obtain ⟨rb, hrb⟩ : ∃ z, shortR rs = z := ⟨_, rfl⟩
   obtain ⟨wb, hwb⟩ : ∃ z, shortW ws = z := ⟨_, rfl⟩
   unfold goOn15 at hgo
   rw [hsb, hrb, hwb] at hgo
   rw [hsb] at h19
   rw [hrb] at h89
   rw [hwb] at h96
   subst hrv
   refine E.seq (E.seq ?_)
   cases sb with
   | false =>
     refine E.reg hr (by simp [-cellsA, -cellA, h18, r1, h19, undefV]; rfl) ?_
     refine E.cond (t := true) (by simp) (fun _ => ?_) (fun h => by cases h)
     refine E.seq (E.reg hr (by simp [h18]; rfl) ?_)
     refine E.ret ?_
     exact pureK.ret rfl rfl (by simp) hS0
   | true =>
   cases rb with
   | false =>
     refine E.reg hr (by simp [-cellsA, -cellA, h18, r1, h19, h89, undefV]; rfl) ?_
     refine E.cond (t := true) (by simp) (fun _ => ?_) (fun h => by cases h)
     refine E.seq (E.reg hr (by simp [h18]; rfl) ?_)
     refine E.ret ?_
     exact pureK.ret rfl rfl (by simp) hS0
   | true =>
   cases wb with
   | true => exact absurd ⟨rfl, rfl, rfl⟩ hgo
   | false =>
     refine E.reg hr (by simp [-cellsA, -cellA, h18, r1, r2, h19, h89, h96]; rfl) ?_
     refine E.cond (t := true) (by simp) (fun _ => ?_) (fun h => by cases h)
     refine E.seq (E.reg hr (by simp [h18]; rfl) ?_)
     refine E.ret ?_
     exact pureK.ret rfl rfl (by simp) hS0
 obtain ⟨hsh, hsr, hsw⟩ := hgo
 obtain ⟨h6, h9⟩ := shortS_six hsh
 have hr13 := shortR_len hsr
 have hw9 : ws.length ≤ 9 := by
   unfold shortW at hsw
   simp only [Bool.and_eq_true, decide_eq_true_eq] at hsw
   exact hsw.2
 have hM15 : M15 (tidy n H) X0 n (n + 1 + 1) v rv uw w l rs ws := ⟨hS0, hM2, hS0 _ _ g0, hb0, hb1, hs0, hR.mono hS0, (hH' (by omega)).mono hS0⟩
 rw [hsh] at h19
 rw [hsr] at h89
 rw [hsw] at h96
 obtain ⟨x, Z1, B1, Y1, N1, a1, a2, a3, a4, a5, s1, m1, a6⟩ := hM2.ownF hM15.str (by omega)
 obtain ⟨y, Z2, B2, Y2, b1, b2, b3, b4, b5, s2, m2⟩ := m1.wordsF (listV_mono decS_mono s1 hM15.wds.str)
 obtain ⟨Z3, B3, Y3, c1, c2, c3, c4, c5, s3, m3⟩ := m2.withoutF (a5.mono s2) b5 (by omega)
 obtain ⟨oa, k, c, e7⟩ : ∃ oa k c, outS (N1 + 1) (wioK l ws) = .slice oa k c := by
   by_cases h : wioK l ws = 0
   · rw [h]; exact ⟨none, 0, 0, rfl⟩
   · rw [outS_ne h]; exact ⟨_, _, _, rfl⟩
 rw [e7] at c1 c5
 obtain ⟨m4, s4⟩ := m3.put (b := Blk.cells [.slice oa k c] 32) rfl
 have hSX := s1.trans (s2.trans (s3.trans s4))
 have key := w15r (hM15.more hSX m4) (p := N1 + 1 + 1) (by rw [hget_cons, if_pos rfl]) (strAt_mono s4 c5) h6 h9 hr13
 have x1 : n < n + 1 + 1 := by omega
 have x2 : n + 1 < n + 1 + 1 := by omega
 have r1f : cellsA (frzH X0) n 0 1 = some [v] := by rw [cellsA_frz, r1]
 have r2y : cellA Y1 (n + 1) 0 = some uw := s1.cell r2
 obtain ⟨e8, he8⟩ : ∃ z, wioE l ws = z := ⟨_, rfl⟩
 rw [he8] at key c1
 have htk := takeNew_frz hM2.1
 have hm3' : namesOk (N1 + 1 + 1 + 1) Y3 = true := namesOk_mono (by omega) _ m3.1
 subst hrv
 refine E.seq (E.seq (E.reg hr (by simp [-cellsA, -cellA, h18, r1, r2, h19, h89, h96]; rfl) ?_))
 refine E.cond (t := false) (by simp) (fun h => by cases h) (fun _ => ?_)
 refine E.skip (E.seq ?_)
 refine E.drawU mixed hr [10] [1, 4, 5, 9, 10] [0, 1, 4, 5, 10] (by kernel_rfl) (by simp [-cellsA, -cellA, -readA, cellA_read, cellsA_read, handA_nil, hM2.1, hM2.2, m1.2, m2.2, hm3', x1, x2, r1, r2y, a1, a2, a3, a4, a6, b1, b2, b3, b4, c1, c2, c3, c4]; rfl) ?_
 refine E.lead _ ?_ key
 exact .keep rfl rfl rfl (by simp) (Sub.refl _)
end Go.Proofs.YtndlfijfjglkdaaGreatDoor
namespace Go.Ab
section
open Go Go.ChangeShapes Go.WideShapes
end
section
open Go
end
end Go.Ab
namespace Go.Proofs.YtndlfijfjglkdaaGreatDoor
section
open Go Go.Ab Go.Proofs Go.ChangeShapes Go.WideShapes Go.ChangeAt Go.RowKit
namespace gunLines
end gunLines
theorem leafs94 : leafs Tryz.prog 6 94 = some [.str, .int .i64, .int .i64, .int .i64, .int .i64, .int .i64, .int .i64] := by kernel_rfl
theorem fits_cons {a : Leaf} {bs : List Leaf} {r : List Value} (h : fitsL (a :: bs) r) : ∃ v vs, r = v :: vs ∧ a.fits v ∧ fitsL bs vs := by
 cases r with
 | nil => exact h.elim
 | cons v vs => exact ⟨v, vs, rfl, h.1, h.2⟩
theorem fits_nil {r : List Value} (h : fitsL [] r) : r = [] := by
 cases r with
 | nil => rfl
 | cons v vs => exact h.elim
theorem fits_gun {r : List Value} (h : fitsL [.str, .int .i64, .int .i64, .int .i64, .int .i64, .int .i64, .int .i64] r) : ∃ g : Gun, r = g.cells := by
 obtain ⟨_, _, rfl, ⟨s, rfl, _⟩, h1⟩ := fits_cons h
 obtain ⟨_, _, rfl, ⟨v, rfl, _⟩, h2⟩ := fits_cons h1
 obtain ⟨_, _, rfl, ⟨x, rfl, _⟩, h3⟩ := fits_cons h2
 obtain ⟨_, _, rfl, ⟨y, rfl, _⟩, h4⟩ := fits_cons h3
 obtain ⟨_, _, rfl, ⟨t, rfl, _⟩, h5⟩ := fits_cons h4
 obtain ⟨_, _, rfl, ⟨lo, rfl, _⟩, h6⟩ := fits_cons h5
 obtain ⟨_, _, rfl, ⟨hi, rfl, _⟩, h7⟩ := fits_cons h6
 obtain rfl := fits_nil h7
 exact ⟨⟨s, v, x, y, t, lo, hi⟩, rfl⟩
theorem fits_guns : ∀ rows : List (List Value), (∀ r ∈ rows, fitsL [.str, .int .i64, .int .i64, .int .i64, .int .i64, .int .i64, .int .i64] r) → ∃ l : List Gun, rows.flatten = gcs l ∧ l.length = rows.length
 | [], _ => ⟨[], rfl, rfl⟩
 | r :: rows, h => by
   obtain ⟨g, rfl⟩ := fits_gun (h r (List.mem_cons_self ..))
   obtain ⟨l, h1, h2⟩ := fits_guns rows fun r hr => h r (List.mem_cons_of_mem _ hr)
   exact ⟨g :: l, by rw [List.flatten_cons, h1]; rfl, by simp [h2]⟩
set_option maxRecDepth 100000 in
theorem open_str {H : Type} {enc : TypeId × Value → H} {W : World} {base : Nat} {v : Value} {d : DataW H} {p : List MemPlace} (hv : Value.okWide Tryz.prog W .any base 24 v) (h : DataW.Trod enc Tryz.prog W 0 (fun _ => true) true 24 v d p) :
   v = nilV ∨ ∃ (b o c : Nat) (l : List Gun), v = .agg ⟨[.slice (some ⟨b, o, none⟩) l.length c]⟩ ∧ l.length < 2 ^ 63 ∧ ∃ cs t fz, W.heap[b]? = some (.cells cs t fz) ∧ ∀ i, i < (gcs l).length → cs[o + i]? = (gcs l)[i]? := by
 rcases handed_str (d := 6) Tryz.underlying24 (f := ⟨"Guns", 22, 0, false, "", "", 0⟩) rfl rfl rfl (by kernel_rfl) (by kernel_rfl) (by kernel_rfl) Tryz.underlying22 leafs94 (by kernel_rfl) (by simp) hv h with rfl | ⟨b, o, len, cap, rows, rfl, h1, h2, h3, h4, cs, t, fz, hw, hc⟩
 · exact .inl rfl
 · obtain ⟨l, e1, e2⟩ := fits_guns rows h4
   have : len = l.length := by omega
   subst this
   rw [e1] at hc
   refine .inr ⟨b, o, cap, l, rfl, ?_, cs, t, fz, hw, hc⟩
   have : maxLen < 2 ^ 63 := by decide
   omega
theorem repG {W : World} (h0 : Lies W 0 names0) {v : Value} (h : v = nilV ∨ ∃ (b o c : Nat) (l : List Gun), v = .agg ⟨[.slice (some ⟨b, o, none⟩) l.length c]⟩ ∧ l.length < 2 ^ 63 ∧ ∃ cs t fz, W.heap[b]? = some (.cells cs t fz) ∧ ∀ i, i < (gcs l).length → cs[o + i]? = (gcs l)[i]?) :
   ∃ (b o : Nat) (cs : List Value) (sl : Value) (l : List Gun), afL cs = true ∧ (∃ c t fz, W.heap[b]? = some (.cells c t fz) ∧ ∀ i, i < cs.length → c[o + i]? = cs[i]?) ∧ (∀ φ : Vl, φ.loc 10 = b → den φ (.agg ⟨[sl]⟩) = v) ∧
     (∀ G : Heap, hget G 10 = some (.inp o cs) → strAt G (.agg ⟨[sl]⟩) = some l) ∧ (∀ p : Nat → Prop, p 10 → sc p sl) := by
 rcases h with rfl | ⟨b, o, c, l, rfl, hl, cs, t, fz, hw, hc⟩
 · obtain ⟨c, t, fz, e1, _⟩ := h0
   exact ⟨0, 0, [], .slice none 0 0, [], rfl, ⟨c, t, fz, e1, fun i hi => by simp at hi⟩, fun φ _ => by simp [den, denL], fun G _ => rfl, fun _ _ => trivial⟩
 · refine ⟨b, o, gcs l, .slice (some ⟨10, o, none⟩) l.length c, l, afL_gcs l, ⟨cs, t, fz, hw, hc⟩, fun φ hφ => by simp [den, denL, hφ], fun G hG => ?_, fun p hp => hp⟩
   unfold strAt gunsAt
   simp [hG, List.take_of_length_le, gunsOf_gcs, show l.length < 9223372036854775808 by omega]
theorem laid_met3d (os : Os) (a b c : Value) : laidMet Tryz.prog laidAll ((laidWorld os).forCall (fun _ _ => 0) ⟨#[], #[a, b, c], []⟩).memory :=
 laidMet_of_run' 8 (by kernel_rfl) (by kernel_rfl)
namespace gunExplains
end gunExplains
namespace gunStrings
end gunStrings
end
section
open Go Go.Ab Go.Proofs
end
section
open Go Go.Ab Go.Proofs Go.ChangeShapes Go.WideShapes Go.ChangeAt Go.RowKit
namespace gunReaches
end gunReaches
namespace gunMoves
end gunMoves
theorem leafs159 : leafs Tryz.prog 6 159 = some [.str, .int .i64, .int .i64] := by kernel_rfl
theorem fits_ruls : ∀ rows : List (List Value), (∀ r ∈ rows, fitsL [.str, .int .i64, .int .i64] r) → ∃ l : List Rul, rows.flatten = rlsL l ∧ l.length = rows.length
 | [], _ => ⟨[], rfl, rfl⟩
 | r :: rows, h => by
   obtain ⟨_, _, e1, ⟨s, rfl, _⟩, h1⟩ := fits_cons (h r (List.mem_cons_self ..))
   obtain ⟨_, _, rfl, ⟨v, rfl, _⟩, h2⟩ := fits_cons h1
   obtain ⟨_, _, rfl, ⟨w, rfl, _⟩, h3⟩ := fits_cons h2
   obtain rfl := fits_nil h3
   obtain ⟨l, h4, h5⟩ := fits_ruls rows fun r hr => h r (List.mem_cons_of_mem _ hr)
   exact ⟨⟨s, v, w⟩ :: l, by rw [List.flatten_cons, h4, e1]; rfl, by simp [h5]⟩
set_option maxRecDepth 100000 in
theorem open_ruls {H : Type} {enc : TypeId × Value → H} {W : World} {base : Nat} {v : Value} {d : DataW H} {p : List MemPlace} (hv : Value.okWide Tryz.prog W .any base 149 v) (h : DataW.Trod enc Tryz.prog W 0 (fun _ => true) true 149 v d p) :
   v = .slice none 0 0 ∨ ∃ (b o c : Nat) (l : List Rul), v = .slice (some ⟨b, o, none⟩) l.length c ∧ l.length < 2 ^ 63 ∧ ∃ cs t fz, W.heap[b]? = some (.cells cs t fz) ∧ ∀ i, i < (rlsL l).length → cs[o + i]? = (rlsL l)[i]? := by
 simp only [Value.okWide, Tryz.underlying149] at hv
 obtain ⟨a, len, cap, rfl⟩ : ∃ a len cap, v = .slice a len cap := okWide_slice (P := Tryz.prog) (w := W) (r := .any) (base := base) Tryz.underlying149 (by simp only [Value.okWide, Tryz.underlying149]; exact hv)
 obtain ⟨fuel, hf⟩ := h
 rcases handed_slice (d := 6) Tryz.underlying149 leafs159 (by kernel_rfl) (by simp) hv (fuel := fuel) (x := (d, p)) hf with h0 | ⟨b, o, len', cap', rows, e, h1, h2, h3, h4, cs, t, fz, hw, hc⟩
 · exact .inl h0
 · obtain ⟨l, e1, e2⟩ := fits_ruls rows h4
   have : len' = l.length := by omega
   subst this
   rw [e1] at hc
   refine .inr ⟨b, o, cap', l, e, ?_, cs, t, fz, hw, hc⟩
   have : maxLen < 2 ^ 63 := by decide
   omega
theorem rlsL_len (l : List Rul) : (rlsL l).length = l.length * 3 := flat_len (c := Rul.cells) (fun r => r.cells_length) l
theorem RulsV.inp {H : Heap} {k o c : Nat} {l : List Rul} (h : hget H k = some (.inp o (rlsL l))) (hl : l.length < 2 ^ 63) : RulsV H (.slice (some ⟨k, o, none⟩) l.length c) l := by
 refine ⟨some ⟨k, o, none⟩, c, rfl, hl, (fun e => nomatch e), fun i hi => ⟨⟨k, o, none⟩, rfl, rfl, ?_⟩⟩
 rw [cellsA_eq, h]
 simp only [Option.bind_some, cellsB]
 rw [if_pos ⟨Nat.le_add_right _ _, by rw [rlsL_len]; omega⟩, Nat.add_sub_cancel_left]
 exact congrArg some (flat_at (c := Rul.cells) (fun r => r.cells_length) l i hi)
theorem RulsV.nil {H : Heap} : RulsV H (.slice none 0 0) [] := ⟨none, 0, rfl, by decide, fun _ => rfl, fun i hi => absurd hi (Nat.not_lt_zero i)⟩
theorem repR {W : World} (h0 : Lies W 0 names0) {v : Value} (h : v = .slice none 0 0 ∨ ∃ (b o c : Nat) (l : List Rul), v = .slice (some ⟨b, o, none⟩) l.length c ∧ l.length < 2 ^ 63 ∧ ∃ cs t fz, W.heap[b]? = some (.cells cs t fz) ∧ ∀ i, i < (rlsL l).length → cs[o + i]? = (rlsL l)[i]?) :
   ∃ (b o : Nat) (cs : List Value) (sl : Value) (l : List Rul), afL cs = true ∧ (∃ c t fz, W.heap[b]? = some (.cells c t fz) ∧ ∀ i, i < cs.length → c[o + i]? = cs[i]?) ∧ (∀ φ : Vl, φ.loc 11 = b → den φ sl = v) ∧
     (∀ G : Heap, hget G 11 = some (.inp o cs) → RulsV G sl l) ∧ (∀ p : Nat → Prop, p 11 → sc p sl) := by
 rcases h with rfl | ⟨b, o, c, l, rfl, hl, cs, t, fz, hw, hc⟩
 · obtain ⟨c, t, fz, e1, _⟩ := h0
   exact ⟨0, 0, [], .slice none 0 0, [], rfl, ⟨c, t, fz, e1, fun i hi => by simp at hi⟩, fun φ _ => by simp [den], fun G _ => RulsV.nil, fun _ _ => trivial⟩
 · exact ⟨b, o, rlsL l, .slice (some ⟨11, o, none⟩) l.length c, l, afL_rls l, ⟨cs, t, fz, hw, hc⟩, fun φ hφ => by simp [den, hφ], fun G hG => RulsV.inp hG hl, fun p hp => hp⟩
namespace gunAccepts
end gunAccepts
theorem leafs3D : leafs Tryz.prog 6 3 = some [.int .i64] := by kernel_rfl
theorem leafs9D : leafs Tryz.prog 6 9 = some [.str] := by kernel_rfl
theorem fits_strs : ∀ rows : List (List Value), (∀ r ∈ rows, fitsL [.str] r) → ∃ ns : List ByteArray, rows.flatten = ns.map sv ∧ ns.length = rows.length
 | [], _ => ⟨[], rfl, rfl⟩
 | r :: rows, h => by
   obtain ⟨_, _, e1, ⟨s, rfl, _⟩, h1⟩ := fits_cons (h r (List.mem_cons_self ..))
   obtain rfl := fits_nil h1
   obtain ⟨ns, h2, h3⟩ := fits_strs rows fun r hr => h r (List.mem_cons_of_mem _ hr)
   exact ⟨s :: ns, by rw [List.flatten_cons, h2, e1]; rfl, by simp [h3]⟩
abbrev Wds (W : World) (s : Value) : Prop := s = .slice none 0 0 ∨ ∃ (b o c : Nat) (ws : List ByteArray), s = .slice (some ⟨b, o, none⟩) ws.length c ∧ ws.length ≤ c ∧ ws.length < 2 ^ 63 ∧ ∃ cs t fz, W.heap[b]? = some (.cells cs t fz) ∧ ∀ i, i < (ws.map sv).length → cs[o + i]? = (ws.map sv)[i]?
set_option maxRecDepth 100000 in
theorem open_drop {H : Type} {enc : TypeId × Value → H} {W : World} {base : Nat} {v : Value} {d : DataW H} {p : List MemPlace} (hv : Value.okWide Tryz.prog W .any base 163 v) (h : DataW.Trod enc Tryz.prog W 0 (fun _ => true) true 163 v d p) :
   ∃ (s : Value) (w : Int), v = .agg ⟨[s, iv w]⟩ ∧ Wds W s := by
 unfold Value.okWide at hv
 rw [Tryz.underlying163] at hv
 obtain ⟨cs, rfl, hsz, ts, hts, _, hrow⟩ := hv
 rw [show Tryz.prog.cellTypes Tryz.prog.depth 163 = some [102, 3] by kernel_rfl] at hts
 injection hts with hts; subst hts
 rw [show Tryz.prog.cellsOf 163 = 2 by kernel_rfl] at hsz
 obtain ⟨l⟩ := cs
 match l, hsz with
 | [v0, v1], _ =>
   obtain ⟨u', h2, h3⟩ := hrow 0 v0 rfl
   obtain rfl : 102 = u' := by simpa using h2
   obtain ⟨fuel, h⟩ := h
   obtain ⟨xs, m, rfl, _, hlen, hxl, hel⟩ := DataW.trod_struct Tryz.underlying163 h
   have key : ∀ j (f : Field), (match Tryz.prog.underlying 163 with | some (.struct fs) => fs[j]? | _ => none) = some f → ∃ y, DataW.trod enc Tryz.prog W 0 (fun _ => true) true m f.type (([v0, v1].drop f.offset).take (Tryz.prog.cellsOf f.type)) = some y := fun j f hf => by
     rw [Tryz.underlying163] at hf
     have h4 := hel j f hf
     have hpos := (Array.getElem?_eq_some_iff.1 hf).1
     obtain ⟨y, hy⟩ : ∃ y, xs[j]? = some y := ⟨xs[j]'(by omega), by simp⟩
     rw [hy] at h4
     exact ⟨y, by simpa [Value.cells] using h4⟩
   obtain ⟨y0, k0⟩ := key 0 _ (by rw [Tryz.underlying163]; rfl)
   obtain ⟨y1, k1⟩ := key 1 _ (by rw [Tryz.underlying163]; rfl)
   have e0 : (([v0, v1].drop 0).take (Tryz.prog.cellsOf 102)) = [v0] := by kernel_rfl
   have e1 : (([v0, v1].drop 1).take (Tryz.prog.cellsOf 3)) = [v1] := by kernel_rfl
   have k0' : DataW.trod enc Tryz.prog W 0 (fun _ => true) true m 102 [v0] = some y0 := by rw [← e0]; exact k0
   have l1 : fitsL [.int .i64] [v1] := by rw [← e1]; exact leafs_ok 6 3 _ m _ y1 leafs3D k1
   obtain ⟨⟨w, rfl, _⟩, _⟩ := l1
   refine ⟨v0, w, rfl, ?_⟩
   rcases handed_slice (d := 6) Tryz.underlying102 leafs9D (by kernel_rfl) (by simp) h3 k0' with h0 | ⟨b, o, len, cap, rows, e, h5, h6, h7, h8, cs, t, fz, hw, hc⟩
   · exact .inl h0
   · obtain ⟨ns, f1, f2⟩ := fits_strs rows h8
     have : len = ns.length := by omega
     subst this
     rw [f1] at hc
     have : maxLen < 2 ^ 63 := by decide
     exact .inr ⟨b, o, cap, ns, e, h5, by omega, cs, t, fz, hw, hc⟩
theorem repW {W : World} (h0 : Lies W 0 names0) {s : Value} (h : Wds W s) :
   ∃ (b o : Nat) (cs : List Value) (u : Value) (ws : List ByteArray), afL cs = true ∧ (∃ c t fz, W.heap[b]? = some (.cells c t fz) ∧ ∀ i, i < cs.length → c[o + i]? = cs[i]?) ∧ (∀ φ : Vl, φ.loc 12 = b → den φ u = s) ∧
     (∀ G : Heap, hget G 12 = some (.inp o cs) → WdsV G u ws ∧ (ws.length < 2147483648 → HandW G u ws)) ∧ (∀ p : Nat → Prop, p 12 → sc p u) := by
 rcases h with rfl | ⟨b, o, c, ws, rfl, hl, h63, cs, t, fz, hw, hc⟩
 · obtain ⟨c, t, fz, e1, _⟩ := h0
   refine ⟨0, 0, [], .slice none 0 0, [], rfl, ⟨c, t, fz, e1, fun i hi => by simp at hi⟩, fun φ _ => by simp [den], fun G _ => ?_, fun _ _ => trivial⟩
   have : HandW G (.slice none 0 0) [] := .inr ⟨rfl, rfl⟩
   exact ⟨this.wds, fun _ => this⟩
 · refine ⟨b, o, ws.map sv, .slice (some ⟨12, o, none⟩) ws.length c, ws, afL_sv ws, ⟨cs, t, fz, hw, hc⟩, fun φ hφ => by simp [den, hφ], fun G hG => ?_, fun p hp => hp⟩
   have hcs : cellsA G 12 o ws.length = some (ws.map sv) := by
     rw [cellsA_eq, hG]
     simp only [Option.bind_some, cellsB]
     rw [if_pos ⟨Nat.le_refl _, by simp⟩, Nat.sub_self, List.drop_zero, List.take_of_length_le (by simp)]
   refine ⟨⟨some ⟨12, o, none⟩, c, rfl, h63, (fun e => nomatch e), fun i hi => ⟨_, rfl, rfl, ?_⟩⟩, fun h31 => .inl ⟨12, o, c, rfl, hl, ?_⟩⟩
   · rw [(cellsA_cell hcs hi).1]
     simp [hi]
   · unfold strsAt
     rw [hcs, if_pos (by simp [flat]; omega), Option.bind_some, strsOf_map]
theorem lawS3 {f : FuncId} (he : enterable Tryz.prog f = true) {W : World} (h0 : Lies W 0 names0) (h3 : Lies W 3 tab3) {b0 o0 b1 o1 b2 o2 : Nat} {cs0 cs1 cs2 : List Value} {sl v0 : Value} {us ws : List Value} {l : List Gun} (haf : afL cs0 = true) (hcs : ∃ c t fz, W.heap[b0]? = some (.cells c t fz) ∧ ∀ i, i < cs0.length → c[o0 + i]? = cs0[i]?) (haf1 : afL cs1 = true) (hcs1 : ∃ c t fz, W.heap[b1]? = some (.cells c t fz) ∧ ∀ i, i < cs1.length → c[o1 + i]? = cs1[i]?)
   (haf2 : afL cs2 = true) (hcs2 : ∃ c t fz, W.heap[b2]? = some (.cells c t fz) ∧ ∀ i, i < cs2.length → c[o2 + i]? = cs2[i]?)
   (hden : ∀ φ : Vl, φ.loc 10 = b0 → den φ (.agg ⟨[sl]⟩) = v0) (hstr : ∀ G : Heap, hget G 10 = some (.inp o0 cs0) → strAt G (.agg ⟨[sl]⟩) = some l) (hsl : ∀ p : Nat → Prop, p 10 → sc p sl) (hden1 : ∀ φ : Vl, φ.loc 11 = b1 → φ.loc 12 = b2 → denL φ us = ws) (hsc1 : ∀ p : Nat → Prop, p 11 → p 12 → scL p us)
   (wk : ∀ H : Heap, hget H 0 = some (.inp 0 names0) → hget H 3 = some (.inp 0 tab3) → strAt H (.agg ⟨[sl]⟩) = some l → hget H 11 = some (.inp o1 cs1) → hget H 12 = some (.inp o2 cs2) → AC Tryz.prog f (.agg ⟨[sl]⟩ :: us) H 13 (.bool true) H 13) :
   Calls Tryz.prog f (v0 :: ws).toArray W fun e W' => e = .returned (.bool true) ∧ Below W.heap.size W W' := by
 refine lawCalls he h0 h3 [⟨b0, o0, cs0⟩, ⟨b1, o1, cs1⟩, ⟨b2, o2, cs2⟩] ?_ (args0 := .agg ⟨[sl]⟩ :: us) ?_ ?_ (wk _ rfl rfl (hstr _ rfl) rfl rfl)
 · intro v hv
   rcases List.mem_cons.1 hv with rfl | hv
   · refine ⟨scL_af _ _ haf, ?_⟩
     obtain ⟨c, t, fz, e1, e2⟩ := hcs
     exact ⟨c, t, fz, e1, fun i hi => by rw [denL_af _ _ haf]; exact e2 i hi⟩
   rcases List.mem_cons.1 hv with rfl | hv
   · refine ⟨scL_af _ _ haf1, ?_⟩
     obtain ⟨c, t, fz, e1, e2⟩ := hcs1
     exact ⟨c, t, fz, e1, fun i hi => by rw [denL_af _ _ haf1]; exact e2 i hi⟩
   · rw [List.mem_singleton] at hv
     subst hv
     refine ⟨scL_af _ _ haf2, ?_⟩
     obtain ⟨c, t, fz, e1, e2⟩ := hcs2
     exact ⟨c, t, fz, e1, fun i hi => by rw [denL_af _ _ haf2]; exact e2 i hi⟩
 · exact ⟨⟨hsl _ (by simp), trivial⟩, hsc1 _ (by simp) (by simp)⟩
 · simp only [denL, hden (wloc [⟨b0, o0, cs0⟩, ⟨b1, o1, cs1⟩, ⟨b2, o2, cs2⟩]) rfl, hden1 (wloc [⟨b0, o0, cs0⟩, ⟨b1, o1, cs1⟩, ⟨b2, o2, cs2⟩]) rfl rfl]
theorem params15 : Tryz.f15.params = #[24, 149, 163] := by kernel_rfl
namespace gunDrops
set_option maxRecDepth 100000 in
theorem contract (H : Type) (enc : TypeId × Value → H) (W : World) (base : Nat) (args : Array Value) (ds gs : List (DataW H)) (before : List MemPlace)
   (hval : ∀ (j : Nat) t v, Tryz.f15.params[j]? = some t → args[j]? = some v → Value.okWide Tryz.prog W .any base t v)
   (hW : DataW.Whole enc Tryz.prog Tryz.f15.params.toList Rows.gunDropsSpec.vars false W args.toList ds gs before) (hL : laidMetH Tryz.prog Rows.gunDropsRow.laid W) :
   Calls Tryz.prog 15 args W fun e W' => ∃ v, e = .returned v ∧ Rows.gunDropsSpec.post enc Tryz.prog Tryz.f15 false true false false W args v W' := by
 have hW' := hW
 obtain ⟨p, q, hA0, hV, rfl, hfz, hnd⟩ := hW
 have hA : DataW.TrodAll enc Tryz.prog W 0 (fun _ => true) true Tryz.f15.params.toList args.toList ds p := hA0
 rw [params15] at hA hval
 obtain ⟨v0, vs0, d0, ds0, p0, q0, hargs, rfl, rfl, h0, r0⟩ := trodAll_cons hA
 obtain ⟨v1, vs1, d1, ds1, p1, q1, rfl, rfl, rfl, h1, r1⟩ := trodAll_cons r0
 obtain ⟨v2, vs2, d2, ds2, p2, q2, rfl, rfl, rfl, h2, r2⟩ := trodAll_cons r1
 obtain ⟨rfl, rfl, rfl⟩ := trodAll_nil r2
 obtain rfl : args = #[v0, v1, v2] := by cases args; simp_all
 obtain ⟨b0, o0, cs0, sl, l, a1, a2, a3, a4, a5⟩ := repG (lies0 hL) (open_str (hval 0 24 v0 rfl rfl) h0)
 obtain ⟨b1, o1, cs1, rl, rs, e1, e2, e3, e4, e5⟩ := repR (lies0 hL) (open_ruls (hval 1 149 v1 rfl rfl) h1)
 obtain ⟨s, w, rfl, hs⟩ := open_drop (hval 2 163 v2 rfl rfl) h2
 obtain ⟨b2, o2, cs2, u, ws, f1, f2, f3, f4, f5⟩ := repW (lies0 hL) hs
 have hc : Calls Tryz.prog 15 #[v0, v1, .agg ⟨[s, iv w]⟩] W fun e W' => e = .returned (.bool true) ∧ Below W.heap.size W W' := by
   refine lawS3 (f := 15) (by kernel_rfl) (lies0 hL) (lies3 hL) (ws := [v1, .agg ⟨[s, iv w]⟩]) (us := [rl, .agg ⟨[u, iv w]⟩]) a1 a2 e1 e2 f1 f2 a3 a4 a5 (fun φ hφ hφ2 => by simp [denL, den, e3 φ hφ, f3 φ hφ2]) (fun p hp hp2 => ⟨e5 p hp, ⟨f5 p hp2, trivial, trivial⟩, trivial⟩) fun H g0 g3 hs hH hH2 => ?_
   obtain ⟨x1, x2⟩ := f4 H hH2
   exact w15 g0 g3 hs (e4 H hH) x1 x2
 refine hc.mono fun e W' ⟨he, hb⟩ => ⟨_, he, ?_⟩
 refine lawPost ?_ rfl rfl rfl hW' hb
 intro t ht
 rw [params15] at ht
 simp at ht
 rcases ht with rfl | rfl | rfl
 · exact ⟨by kernel_rfl, by rw [show Tryz.prog.types.size = 405 by kernel_rfl]; decide⟩
 · exact ⟨by kernel_rfl, by rw [show Tryz.prog.types.size = 405 by kernel_rfl]; decide⟩
 · exact ⟨by kernel_rfl, by rw [show Tryz.prog.types.size = 405 by kernel_rfl]; decide⟩
abbrev wit : Array Value := #[.agg #[.slice none 0 0], .slice none 0 0, .agg #[.slice none 0 0, iv 0]]
theorem reads (os : Os) {H : Type} (enc : TypeId × Value → H) : ∃ ds places, DataW.whole enc Tryz.prog ((laidWorld os).forCall (fun _ _ => 0) ⟨#[], wit, []⟩).memory Tryz.f15.params.toList Rows.gunDropsSpec.vars false wit.toList 8 = some (ds, [], places) :=
 ⟨[.agg [.nil], .nil, .agg [.nil, .lit (.int .i64 0)]], [], by kernel_rfl⟩
set_option maxRecDepth 100000 in
theorem lifted (os : Os) (started : os.Started) (H : Type) (enc : TypeId × Value → H) (F : Stop.Interp) :
   ReturnsInHanded {} Tryz.checked os 15 .any ((OpenSpec.ofChange Rows.gunDropsSpec).preRow enc Tryz.prog Tryz.f15 Rows.gunDropsRow.domain false Rows.gunDropsRow.laid) (((OpenSpec.ofChange Rows.gunDropsSpec).at F).post enc Tryz.prog Tryz.f15 false true false false) := by
 obtain ⟨ds, places, hx⟩ := reads os enc
 refine returnsInHanded_of_row (C := Tryz.checked) (s := OpenSpec.ofChange Rows.gunDropsSpec) own started (by kernel_rfl) Tryz.func15
   (witness_row_at (enc := enc) (C := Tryz.checked) false (laidWorld os) wit rfl (by kernel_rfl) (by kernel_rfl) (by kernel_rfl)
     (OpenSpec.preRow_of_cond 8 hx (by kernel_rfl) (fun k hk => by cases hk) (by kernel_rfl) (laid_met3d os _ _ _))) ?_
 intro W base args ds gs before hval hW _ _ _ hL _ _
 exact contract H enc W base args ds gs before hval hW hL
end gunDrops
end
section
open Go
namespace gunDrops
theorem jf0 : OpenClaim.wf (OpenSpec.ofChange Rows.gunDropsSpec) Rows.gunDropsRow = true := by kernel_rfl
theorem jf1 : laidOutB Tryz.prog = true := jfp1
theorem jf2 : mapsRowed Tryz.prog = true := jfp2
theorem jf3 : Tryz.f15.params.all (Tryz.prog.readableRec ·) = true := by kernel_rfl
theorem jf4 : namedTie Tryz.prog Rows.gunDropsRow.named Rows.gunDropsSpec.vars = true := by kernel_rfl
theorem jf5 : (Rows.gunDropsRow.stops == []) = true := by kernel_rfl
theorem jf6 : (Tryz.prog.stops == []) = true := jfp6
theorem jf7 : (Rows.gunDropsRow.knobs == []) = true := by kernel_rfl
theorem jf8 : (Tryz.prog.stopKnobs == []) = true := jfp8
theorem jf9 : (Rows.gunDropsRow.inPlace == Tryz.prog.inPlace 15) = true := by kernel_rfl
theorem jf10 : (Rows.gunDropsRow.unfollowed == Tryz.prog.unfollowed 15) = true := by kernel_rfl
theorem jf11 : (Rows.gunDropsRow.recurses == Tryz.prog.recurses 15) = true := by kernel_rfl
theorem jf12 : (Rows.gunDropsRow.named == Tryz.prog.varsNamed 15) = true := by kernel_rfl
theorem jf13 : (Rows.gunDropsRow.maps == (Tryz.f15.params.toList ++ Rows.gunDropsSpec.plain.varTypes Tryz.prog).any (Tryz.prog.mapsRec ·)) = true := by kernel_rfl
theorem jf14 : (Rows.gunDropsRow.ifaces == (Tryz.f15.params.toList ++ Rows.gunDropsSpec.plain.varTypes Tryz.prog).any (Tryz.prog.ifacesRec ·)) = true := by kernel_rfl
theorem jf15 : (Rows.gunDropsRow.mapsOut == Tryz.prog.mapsAmong Tryz.f15.resultTypes.toList) = true := by kernel_rfl
theorem jf16 : (Rows.gunDropsRow.loops == (Tryz.f15.params.toList ++ Rows.gunDropsSpec.plain.varTypes Tryz.prog).any (Tryz.prog.loopsFrom ·)) = true := by kernel_rfl
theorem jf17 : (Rows.gunDropsRow.wideKeys == (Tryz.f15.params.toList ++ Rows.gunDropsSpec.plain.varTypes Tryz.prog ++ Tryz.f15.resultTypes.toList).any (Tryz.prog.wideKeysFrom ·)) = true := by kernel_rfl
theorem jf18 : Rows.gunDropsSpec.vars.all (Tryz.prog.varReadable ·) = true := by kernel_rfl
theorem jf19 : Tryz.f15.resultTypes.all (fun t => Tryz.prog.readableRec t && decide (t < Tryz.prog.types.size)) = true := by kernel_rfl
theorem jf20 : (Rows.gunDropsRow.ifacesOut == Tryz.f15.resultTypes.toList.any (Tryz.prog.ifacesRec ·)) = true := by kernel_rfl
theorem jf21 : (Rows.gunDropsRow.loopsOut == Tryz.f15.resultTypes.toList.any (Tryz.prog.loopsFrom ·)) = true := by kernel_rfl
theorem jf22 : (Rows.gunDropsRow.plainKeys == Tryz.prog.plainKeys) = true := jfp22
theorem jf23 : Rows.gunDropsRow.shortTexts.isNone = true := by kernel_rfl
theorem jf24 : Tryz.prog.stopsHeard = true := jfp24
theorem jf25 : Tryz.prog.mayEnter = true := jfp25
theorem jf26 : (Rows.gunDropsRow.lifted == Tryz.prog.liftsFinal) = true := jfp26
theorem jf27 : (Tryz.prog.make == some Rows.gunDropsRow.make) = true := jfp27
theorem jf28 : (Rows.gunDropsRow.kinds == (if Rows.gunDropsRow.domain.isEmpty then [] else Tryz.f15.params.toList.map fun t => match Tryz.prog.underlying t with | some (.int k) => some k | _ => none)) = true := by kernel_rfl
theorem jf29 : (Rows.gunDropsRow.pinned == Rows.gunDropsRow.pinnedBy) = true := by kernel_rfl
theorem jf30 : (Rows.gunDropsRow.veiled == (Tryz.f15.params.toList ++ Rows.gunDropsSpec.plain.varTypes Tryz.prog ++ Tryz.f15.resultTypes.toList).any (Tryz.prog.veiledRec ·)) = true := by kernel_rfl
theorem jf31 : OpenClaim.veiledFits Rows.gunDropsRow Tryz.prog Tryz.f15.params.toList (Tryz.f15.params.toList ++ Rows.gunDropsSpec.plain.varTypes Tryz.prog ++ Tryz.f15.resultTypes.toList) = true := by kernel_rfl
set_option maxRecDepth 100000 in
theorem facts : joinedFacts Tryz.prog 15 Tryz.f15 Rows.gunDropsSpec Rows.gunDropsRow = true := by
 unfold joinedFacts
 exact (and2 (and2 (and2 (and2 (and2 (and2 (and2 (and2 (and2 (and2 (and2 (and2 (and2 (and2 (and2 (and2 (and2 (and2 (and2 (and2 (and2 (and2 (and2 (and2 (and2 (and2 (and2 (and2 (and2 (and2 (and2 jf0 jf1) jf2) jf3) jf4) jf5) jf6) jf7) jf8) jf9) jf10) jf11) jf12) jf13) jf14) jf15) jf16) jf17) jf18) jf19) jf20) jf21) jf22) jf23) jf24) jf25) jf26) jf27) jf28) jf29) jf30) jf31)
end gunDrops
end
section
open Go Go.Ab Go.Proofs Go.ChangeShapes Go.WideShapes Go.ChangeAt Go.RowKit
namespace gunDrops
theorem fnum : Tryz.prog.funcNamed "moveout/moveoutlaw03.GunDrops" = some 15 := by kernel_rfl
theorem inst : Tryz.f15.isInstance Tryz.prog Rows.gunDropsRow.origin Rows.gunDropsRow.targs := of_decide_eq_true (by kernel_rfl)
theorem wrapper : Tryz.f15.isWrapper Tryz.prog Rows.gunDropsRow.wrapper Rows.gunDropsRow.mainSum := by unfold Func.isWrapper; first | (rw [if_pos (by decide +kernel)]; kernel_rfl) | (rw [if_neg (by decide +kernel)]; exact ⟨rfl, rfl⟩)
set_option maxRecDepth 100000 in
theorem said : Rows.GunDropsSaid :=
 OpenClaim.holds_of_cond 15 Tryz.f15 rfl rfl rfl rfl rfl rfl rfl ⟨rfl, rfl, rfl, rfl, rfl⟩ rfl rfl rfl rfl rfl fnum Tryz.func15 facts inst wrapper
   (fun os started H enc _ F => by rw [OpenClaim.pre_eq_preRow]; exact lifted os started H enc F)
theorem looks : true = Tryz.prog.looks [] := by kernel_rfl
theorem standIn : ∀ t, t = 24 ∨ t = 149 ∨ t = 163 → Tryz.prog.wantsStandIn t = false := by
 rintro t (rfl | rfl | rfl) <;> kernel_rfl
theorem plain (f : FuncId) (fn : Func) (hf : Tryz.pinned.checked.prog.funcNamed "moveout/moveoutlaw03.GunDrops" = some f) (hfn : Tryz.pinned.checked.prog.funcs[f]? = some fn) :
   true = Tryz.pinned.checked.prog.looks [] ∧ ∀ (j : Nat) t, fn.params[j]? = some t → Tryz.pinned.checked.prog.wantsStandIn t = false := by
 obtain rfl : f = 15 := Option.some.inj (fnum.symm.trans hf) |>.symm
 obtain rfl : fn = Tryz.f15 := (Option.some.inj (Tryz.func15.symm.trans hfn)).symm
 refine ⟨looks, fun j t ht => ?_⟩
 rw [params15] at ht
 exact standIn t (by simpa using Array.mem_of_getElem? ht)
theorem wf : OpenClaim.wfByText (OpenSpec.ofChange Rows.gunDropsSpec) Rows.gunDropsRow = true := by kernel_rfl
theorem main : Tryz.prog.mainIs = some ("e00eecd8ca05e183972abfbf043f5ed2bc813bd519e3ebd189d9b51d2f935a9d" |> fun s => (true, s.toList)) := by kernel_rfl
theorem goes : false = Rows.gunDropsRow.goesBy Tryz.prog := by kernel_rfl
set_option maxRecDepth 100000 in
theorem card : Rows.GunDropsCardSaid :=
 Claim7.holds_tied_plain_at .later [] _ _ _ _ said (fun _ h => by cases h) wf (fun _ h => by cases h) gunDrops_row_tie rfl ⟨rfl, rfl⟩ main rfl plain goes
end gunDrops
end
end Go.Proofs.YtndlfijfjglkdaaGreatDoor
