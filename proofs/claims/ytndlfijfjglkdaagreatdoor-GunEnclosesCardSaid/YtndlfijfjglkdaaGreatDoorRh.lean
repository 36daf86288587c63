/-
The law GunEncloses returns true for every string of guns and all shifts, directions and widths that are handed in, and its arguments read afterwards as before. Conditions: those of the given row (the four laid variables hold what their text lays), tied by the given card.
-/
import Derived.Deep.Slices
import Derived.Test.YtndlfijfjglkdaaGreatDoorRg
import Derived.Test.YtndlfijfjglkdaaGreatDoorRd
import Derived.Test.YtndlfijfjglkdaaGreatDoorRa
import Derived.Test.YtndlfijfjglkdaaGreatDoorRe
import Derived.Test.YtndlfijfjglkdaaGreatDoorRb
import Derived.Test.YtndlfijfjglkdaaGreatDoorFa
import Derived.Test.YtndlfijfjglkdaaGreatDoorRc
import Derived.Test.YtndlfijfjglkdaaGreatDoorPa
namespace Go.Proofs.YtndlfijfjglkdaaGreatDoor
open Go Go.Ab Go.Proofs Go.Soft Ieee
set_option maxRecDepth 20000 in
set_option maxHeartbeats 4000000 in
theorem w13m {H : Heap} {n : Nat} {v t : Value} {l : List Gun} {ns : List Int} {nd nw : Int} (g0 : hget H 0 = some (.inp 0 names0)) (g3 : hget H 3 = some (.inp 0 tab3)) (hs : strAt H (.agg ⟨[v]⟩) = some l) (ht : u8W H t = some ns) (hns : ∀ x ∈ ns, 0 ≤ x ∧ x ≤ 255) (hnd : 0 ≤ nd ∧ nd ≤ 255) (hnw : 0 ≤ nw ∧ nw ≤ 255) (hvl : validB l = true) (h4 : l.length ≤ 4) (h8 : ns.length ≤ 8) : AC Tryz.prog 13 [.agg ⟨[v]⟩, .agg ⟨[t, bv nd, bv nw]⟩] H n (.bool true) H n := by
 refine AC.given fun hold _ _ => AC.tidied (B := []) (by simp) ?_
 have hlt0 := fun k b h => (hold k b h).1
 replace g0 : hget (tidy n H) 0 = some (.inp 0 names0) := hget_tidy.2 ⟨g0, hlt0 _ _ g0, rfl⟩
 replace g3 : hget (tidy n H) 3 = some (.inp 0 tab3) := hget_tidy.2 ⟨g3, hlt0 _ _ g3, rfl⟩
 replace hs := strAt_tidy hlt0 hs
 replace ht := u8W_tidy hlt0 ht
 obtain ⟨hsh9, h6, hst⟩ := valid_ok hvl
 have hln := strE_len hst
 have hr := recT_ok (P := Tryz.prog) (l := [(18, g18), (52, gStr fun l => .bool (validB l)), (76, g76), (53, g53), (54, g54), (21, g21), (42, g42), (41, g41), (43, g43), (78, g78), (77, g77), (79, g79), (87, gErr fun l => firstV (l.map err32)), (56, g56F), (23, g23), (34, gBub), (85, gSix), (88, gSamp)]) (by simp only [List.forall_mem_cons]; exact ⟨ok18, ok52, ok76, ok53, ok54, ok21, ok42, ok41, ok43, ok78, ok77, ok79, ok87, ok56F, ok23, ok34, ok85, ok88, by simp⟩)
 obtain ⟨oc, cc, rfl⟩ := u8W_form ht
 obtain ⟨oa', c', ev⟩ := strAt_form hs
 injection ev with ev
 injection ev with ev
 injection ev with ev
 subst ev
 have hne : l ≠ [] := fun e => by rw [e] at hln; simp at hln
 obtain ⟨ga, gc, gv, hgf, hgc, _, _⟩ := strAt_guns hs hne (by omega)
 injection gv with gv1 gv2 gv3
 subst gv1 gv3
 have hgunT : ∀ {i : Nat} (hi : i < l.length), cellsA (tidy n H) ga.block (ga.off + i * 7) 7 = some l[i].cells := fun {i} hi => by
   have := cells_part hgc hi
   rwa [gcs_atB hi] at this
 have hM : MemOk n (tidy n H) := ⟨namesOk_tidy, by simp⟩
 obtain ⟨hM1, hS1⟩ := hM.put (b := Blk.cells [.slice (some ga) l.length c'] 24) rfl
 obtain ⟨hM2, hS2⟩ := hM1.put (b := Blk.cells [.slice oc ns.length cc, bv nd, bv nw] 86) rfl
 obtain ⟨X0, hX0⟩ : ∃ X0, (n + 1, Blk.cells [.slice oc ns.length cc, bv nd, bv nw] 86) :: (n, Blk.cells [.slice (some ga) l.length c'] 24) :: tidy n H = X0 := ⟨_, rfl⟩
 rw [hX0] at hM2 hS2
 have hS0 := hS1.trans hS2
 have hb0 : hget X0 n = some (.cells [.slice (some ga) l.length c'] 24) := hS2 _ _ (by rw [hget_cons, if_pos rfl])
 have hb1 : hget X0 (n + 1) = some (.cells [.slice oc ns.length cc, bv nd, bv nw] 86) := by rw [← hX0, hget_cons, if_pos rfl]
 have h18 : ∀ m, g18 [] X0 m = some (.bool true, X0, m) := fun m => by
   unfold g18
   rw [if_pos ⟨rfl, hS0 _ _ g3, hS0 _ _ g0⟩]
 have hc0 : ∀ {X}, Sub X0 X → cellsA X n 0 1 = some [.slice (some ga) l.length c'] := fun h => h.cells (by rw [cellsA_eq, hb0]; rfl)
 have hc1 : cellA X0 (n + 1) 0 = some (.slice oc ns.length cc) := by rw [cellA_eq, hb1]; rfl
 have hc2 : cellA X0 (n + 1) 1 = some (bv nd) := by rw [cellA_eq, hb1]; rfl
 have hc3 : cellA X0 (n + 1) 2 = some (bv nw) := by rw [cellA_eq, hb1]; rfl
 have hs0 : ∀ {X}, Sub X0 X → strAt X (.agg ⟨[.slice (some ga) l.length c']⟩) = some l := fun h => strAt_mono (hS0.trans h) hs
 have hg0 : ∀ {X}, Sub X0 X → hget X 0 = some (.inp 0 names0) := fun h => h _ _ (hS0 _ _ g0)
 have h52 : ∀ m, gStr (fun l => .bool (validB l)) [.agg ⟨[.slice (some ga) l.length c']⟩] X0 m = some (.bool true, X0, m) := fun m => by
   simp only [gStr, hs0 (Sub.refl _), Option.map_some, hvl]
 have h76 : ∀ m, g76 [.agg ⟨[.slice (some ga) l.length c']⟩] X0 m = some (.bool true, X0, m) := fun m => by
   simp only [g76, hs0 (Sub.refl _), Option.map_some, decide_eq_true h4]
 have h8n : ¬ 8 < ns.length := by omega
 have h8I : ¬ (8 : Int) < ns.length := by omega
 -- the numbers
 obtain ⟨d, hdd⟩ : ∃ d, d = dN nd := ⟨_, rfl⟩
 have hd : hasW d dirs = true := by rw [hdd]; exact dN_dir nd
 obtain ⟨nn, rfl⟩ := Int.eq_ofNat_of_zero_le hnw.1
 obtain ⟨W, hW⟩ : ∃ W : Nat, W = 1 + nn % 32 := ⟨_, rfl⟩
 have hW1 : 1 ≤ W ∧ W ≤ 64 := by omega
 have hwn : IntKind.i64.wrap (nn : Int) = nn := W_in (by omega) (by omega)
 have hmod : (nn : Int).tmod 32 = (nn : Int) % 32 := Int.tmod_eq_emod_of_nonneg hnw.1
 have hww : IntKind.i64.wrap (1 + (nn : Int) % 32) = (W : Int) := by rw [W_in (by omega) (by omega)]; omega
 have h53 : ∀ X m, g53 [bv nd] X m = some (sv d, X, m) := fun X m => by
   simp only [g53]
   rw [if_pos hnd, hdd]
 -- shifts
 obtain ⟨sh, hsh⟩ : ∃ sh, shL l ns = sh := ⟨_, rfl⟩
 have hshe : shE l sh = 0 := by rw [← hsh]; exact shL_ok hst hns
 obtain ⟨hsok, hshl⟩ := ok_sh hshe
 have h54 := shift_call (X := X0) (N := n + 1 + 1) (hs0 (Sub.refl _)) (u8W_mono hS0 ht) hst hns
 rw [hsh, hshl] at h54
 obtain ⟨hM3, hS3⟩ := hM2.put (b := .ext (sh.map iv) 3 1) rfl
 obtain ⟨X1, hX1⟩ : ∃ X1, (n + 1 + 1, Blk.ext (sh.map iv) 3 1) :: X0 = X1 := ⟨_, rfl⟩
 have hb7 : hget X1 (n + 1 + 1) = some (.ext (sh.map iv) 3 1) := by rw [← hX1, hget_cons, if_pos rfl]
 rw [hX1] at h54 hM3 hS3
 refine AC.pure Tryz.func13 rfl (by kernel_rfl) rfl [2, 3, 4, 5, 6, 7, 8, 10, 19, 20, 21, 22, 24, 26, 182, 183, 184, 253, 254, 255, 29, 30, 31, 32, 33, 34, 35, 36, 303, 304, 305] rfl ?_
 refine E.seq ?_
 refine E.reg hr (by simp; rfl) ?_
 rw [hX0]
 refine E.seq ?_
 refine E.seq ?_
 refine E.reg hr (by simp [-cellsA, -cellA, h18, hc0 (Sub.refl _), hc1, h52, h76, h8I]; rfl) ?_
 refine E.cond (t := false) (by simp) (fun h => by cases h) (fun _ => ?_)
 refine E.skip ?_
 refine E.seq ?_
 have hn2 := hM2.1
 have htk2 := takeNew_frz hM2.1
 refine E.drawU mixed hr [] [2] [1, 2] (by kernel_rfl) (by simp [-cellsA, -cellA, -readA, cellA_read, hn2, hM2.2, htk2, hc2, hc3, h53, opConvert, cv53, hwn, bin_rem (show (32 : Int) ≠ 0 by decide), hmod, hww]; rfl) ?_
 refine E.seq ?_
 refine E.reg hr (by simp [-cellsA, -cellA, hc0 (Sub.refl _), hc1, h54]; rfl) ?_
 -- the signature
 have hg1 : ∀ {X}, Sub X1 X → Sub X0 X := fun h => hS3.trans h
 have hi7 : ∀ {X}, Sub X1 X → intsW X (.slice (some ⟨n + 1 + 1, 0, some 0⟩) l.length 0) = some sh := fun h => by
   have := ints_ext (c := 0) (h _ _ hb7) (by omega : sh.length ≤ 8)
   rw [hshl] at this
   exact this
 obtain ⟨x5, Y5, N5, y5, Z5, M5, b8, X5, N6, a1, a2, a3, hb8, _, _, hS5, hN5, hM5⟩ := sig_grp (d := d) (W := W) hM3 (hg0 hS3) (hs0 hS3) (hi7 (Sub.refl _)) hst hshe hd hW1
 refine E.seq ?_
 refine E.reg hr (by simp [-cellsA, -cellA, hc0 hS3, a1, a2, a3]; rfl) ?_
 -- the enclosure
 have hS05 := hS3.trans hS5
 obtain ⟨x6, Y6, K6, b10, X6, N7, c1, c2, hb10, _, _, hS6, hN6, hM6⟩ := enc_grp (d := d) (W := W) hM5 (hg0 hS05) (hs0 hS05) hst hd hW1
 refine E.seq ?_
 refine E.reg hr (by simp [-cellsA, -cellA, hc0 hS05, c1, c2]; rfl) ?_
 -- Outside
 have hS06 := hS05.trans hS6
 obtain ⟨fs, hfs⟩ : ∃ fs, refS l d sh W = fs := ⟨_, rfl⟩
 have hfl : fs.length = W := by rw [← hfs, refS_len]
 have hlist : listE l d fs = 0 := by rw [← hfs]; exact refS_list hst hshe hd hW1
 have hout : outI l d fs = (0, false) := by rw [← hfs]; exact refS_out hst hshe
 rw [hfs] at hb8
 have hfv : ∀ {X}, Sub X5 X → fltV X (.slice (some ⟨b8, 0, some 0⟩) W 0) = some fs := fun h => by
   have := flt_ext (c := 0) (h _ _ hb8) (by omega : fs.length ≤ 64)
   rw [hfl] at this
   exact this
 obtain ⟨x7, Y7, K7, y7, X7, N8, d1, d2, d3, hS7, hN7, hM7⟩ := out_grp (d := d) hM6 (hg0 hS06) (hs0 hS06) (hfv hS6) hst hlist
 rw [hout] at d3
 refine E.seq ?_
 refine E.reg hr (by simp [-cellsA, -cellA, hc0 hS06, d1, d2, d3]; rfl) ?_
 -- Explain
 have hS07 := hS06.trans hS7
 obtain ⟨xs, hxs, hxe, hxl, hxr⟩ := expl_sig (d := d) (W := W) hst hshe hW1
 rw [hfs] at hxs hxr
 obtain ⟨x8, Y8, K8, y8, Z8, N9, X8, e1, e2, e3, hb15, hS8, hN8, hM8⟩ := exp_grp (d := d) hM7 (hg0 hS07) (hs0 hS07) (hfv (hS6.trans hS7)) hst hlist hxs
 have hxl0 : xs.length ≠ 0 := by omega
 obtain ⟨sp, sc15, hv15, hf15⟩ := exV_ne (n := N9) hxl0
 rw [hv15, hxl] at e3
 refine E.seq ?_
 refine E.reg hr (by simp [-cellsA, -cellA, hc0 hS07, e1, e2, e3]; rfl) ?_
 have hS08 := hS07.trans hS8
 have h87 : ∀ m, gErr (fun l => firstV (l.map err32)) [.slice (some ⟨b8, 0, some 0⟩) W 0] X8 m = some (iv 0, X8, m) := fun m => by
   have h1 : firstV (fs.map err32) = 0 := (firstV_zero _).2 fun e he => by
     obtain ⟨b, hb, rfl⟩ := List.mem_map.1 he
     rw [← hfs] at hb
     exact good_err ((refS_good hst hshe).1 b hb)
   simp only [gErr, hfv (hS6.trans (hS7.trans hS8)), Option.map_some, h1]
 have hc00 : ∀ {X}, Sub X0 X → cellA X n 0 = some (.slice (some ga) l.length c') := fun h => h.cell (by rw [cellA_eq, hb0]; rfl)
 refine E.seq ?_
 refine E.seq ?_
 refine E.reg hr (by simp [-cellsA, -cellA, hc00 hS08, h87]; rfl) ?_
 refine E.cond (t := false) (by simp) (fun h => by cases h) (fun _ => ?_)
 refine E.skip ?_
 -- the signature of what explains
 have hi15 : intsW X8 (.slice (some ⟨N9, 0, sp⟩) l.length sc15) = some xs := by
   have := intsAt_iv (len := xs.length) (a := ⟨N9, 0, sp⟩) hf15 (exB_cells (hb15 (fun h => hxl0 (by rw [h]; rfl)))) (by omega)
   rw [hxl] at this
   exact this
 obtain ⟨x9, Y9, K9, y9, Z9, M9, b17, X9, N10, f1, f2, f3, hb17, _, _, hS9, hN9, hM9⟩ := sig_grp (d := d) (W := W) hM8 (hg0 hS08) (hs0 hS08) hi15 hst hxe hd hW1
 rw [hxr] at hb17
 refine E.seq ?_
 refine E.reg hr (by simp [-cellsA, -cellA, hc0 hS08, f1, f2, f3]; rfl) ?_
 have hS09 := hS08.trans hS9
 have hfv9 : fltV X9 (.slice (some ⟨b17, 0, some 0⟩) W 0) = some fs := by
   have := flt_ext (c := 0) hb17 (by omega : fs.length ≤ 64)
   rw [hfl] at this
   exact this
 have h56 : ∀ m, g56F [.slice (some ⟨b17, 0, some 0⟩) W 0, .slice (some ⟨b8, 0, some 0⟩) W 0] X9 m = some (.bool true, X9, m) := fun m => by
   have hself : sameF fs fs = true := by
     obtain ⟨hg, h6⟩ := refS_good (d := d) (W := W) hst hshe
     have := sameF_samp _ fs (sig_in (d := d) (W := W) hst hshe) (by rw [← hfs]; exact hg)
     rw [← hfs] at this ⊢
     rw [h6, decide_eq_true rfl] at this
     exact this
   simp only [g56F, hfv9, hfv (hS6.trans (hS7.trans (hS8.trans hS9))), hself]
 refine E.seq ?_
 refine E.seq ?_
 refine E.reg hr (by simp [-cellsA, -cellA, h56]; rfl) ?_
 refine E.cond (t := false) (by simp) (fun h => by cases h) (fun _ => ?_)
 refine E.skip ?_
 -- the sum, gun by gun
 refine E.seq ?_
 refine E.reg hr (by simp [mk45 (w := (W : Int)) (by omega) (by omega)]; rfl) ?_
 obtain ⟨hMQ, hSQ⟩ := hM9.put (b := .cells (List.replicate W (iv 0)) 3) rfl
 obtain ⟨Q0, hQ0⟩ : ∃ Q0, (N10, Blk.cells (List.replicate W (iv 0)) 3) :: X9 = Q0 := ⟨_, rfl⟩
 rw [hQ0] at hMQ hSQ
 have hbQ : hget Q0 N10 = some (.cells ((rl (fun j : Nat => sumP l sh d j 0) W).map iv) 3) := by
   rw [← hQ0, hget_cons, if_pos rfl]
   congr 2
   refine List.ext_getElem (by simp) fun i h1 h2 => ?_
   simp [sumP]
 have hltX : ∀ {k : Nat} {b : Blk}, hget X9 k = some b → k < N10 := fun h => hM9.lt h
 refine E.seq ?_
 refine E.seq ?_
 rw [hQ0]
 refine E.reg hr (by simp [-cellsA, -cellA, hc00 (hS09.trans hSQ)]; rfl) ?_
 refine E.block ?_
 refine E.loop ?_
 refine EL.ind (fun x : Nat × Heap × Nat => { fr := [(2, .pointer (some ⟨n, 0, none⟩)), (3, .pointer (some ⟨n + 1, 0, none⟩)), (4, .bool false), (5, sv d), (6, iv W), (7, .slice (some ⟨n + 1 + 1, 0, some 0⟩) l.length 0), (8, .slice (some ⟨b8, 0, some 0⟩) W 0), (10, .slice (some ⟨b10, 0, some 0⟩) W 0), (19, .slice (some ⟨N10, 0, none⟩) W W), (182, .slice (some ga) l.length c'), (183, iv l.length), (184, iv x.1)], sz := 475, H := x.2.1, n := x.2.2, marks := [], vs := [2, 3, 4, 5, 6, 7, 8, 10, 19, 20, 21, 22, 24, 26, 182, 183, 184, 253, 254, 255, 29, 30, 31, 32, 33, 34, 35, 36, 303, 304, 305] }) (fun x => l.length - x.1) (fun x => x.1 ≤ l.length ∧ Sub X9 x.2.1 ∧ N10 < x.2.2 ∧ MemOk x.2.2 x.2.1 ∧ hget x.2.1 N10 = some (.cells ((rl (fun j : Nat => sumP l sh d j x.1) W).map iv) 3)) (0, Q0, N10 + 1) (.keep rfl rfl rfl (by simp) (Sub.refl _)) ⟨Nat.zero_le _, hSQ, Nat.lt_succ_self _, hMQ, hbQ⟩ (fun _ => rfl) ?_
 rintro ⟨i, Z, N⟩ ⟨hi, hSZ, hNZ, hMZ, hbZ⟩
 dsimp only at hi hSZ hNZ hMZ hbZ ⊢
 have hwi : IntKind.i64.wrap ((i : Int) + 1) = (i : Int) + 1 := W_in (by omega) (by omega)
 refine E.seq ?_
 refine E.reg hr (by simp; rfl) ?_
 refine E.seq ?_
 by_cases hil : i < l.length
 · have hilI : (i : Int) < l.length := by omega
   refine E.cond (t := true) (by simp [hil]) (fun _ => ?_) (fun h => by cases h)
   refine E.skip ?_
   refine E.seq ?_
   refine E.block ?_
   have hS0Z := hS0.trans (hS09.trans hSZ)
   have hgun := hS0Z.cells (hgunT hil)
   obtain ⟨g, hg⟩ : ∃ g, l[i] = g := ⟨_, rfl⟩
   rw [hg] at hgun
   refine E.seq ?_
   refine E.reg hr (by simp [-cellA, -cellsA, -flat, hil, hilI, hgf, hgun]; rfl) ?_
   obtain ⟨_, _, _, hvol⟩ := strE_zero hst
   have hgv : 1 ≤ g.v ∧ g.v ≤ 64 := by rw [← hg]; exact hvol _ (List.getElem_mem hil)
   have hish : i < sh.length := by omega
   obtain ⟨hMb, hSb⟩ := hMZ.put (b := .cells g.cells 94) rfl
   obtain ⟨Zb, hZb⟩ : ∃ Zb, (N, Blk.cells g.cells 94) :: Z = Zb := ⟨_, rfl⟩
   have hbb : hget Zb N = some (.cells g.cells 94) := by rw [← hZb, hget_cons, if_pos rfl]
   rw [hZb] at hMb hSb
   rw [hZb]
   have hSXb := hSZ.trans hSb
   obtain ⟨x18, Y18, N18, p1, p2, hS18, hN18, hM18⟩ := arr_grp (d := d) hMb (hg0 (hS09.trans hSXb)) (hs0 (hS09.trans hSXb)) hst hd hil
   obtain ⟨A, hA⟩ : ∃ A : Nat, (arrL d l).getD i 0 = A := by
     have := (arr_bd hst d hil).1
     exact ⟨((arrL d l).getD i 0).toNat, by omega⟩
   have hA149 : A ≤ 1000 := by
     have h1 : i < (arrL d l).length := by rw [arrL_length]; exact hil
     have h2 := arrL_bounds hst d _ (List.getElem_mem h1)
     rw [getD_at h1] at hA
     omega
   rw [hA] at p2
   refine E.seq ?_
   refine E.reg hr (by simp [-cellsA, -cellA, hc0 (hS09.trans hSXb), p1, p2]; rfl) ?_
   -- its bubble
   have hgv1 : cellA Y18 N 1 = some (iv g.v) := hS18.cell (by rw [cellA_eq, hbb]; rfl)
   have hsi : cellA Y18 (n + 1 + 1) i = some (iv sh[i]) := (hS5.trans (hS6.trans (hS7.trans (hS8.trans (hS9.trans (hSXb.trans hS18)))))).cell (by rw [cellA_eq, hb7]; simp [cellB, List.getElem?_map, List.getElem?_eq_getElem hish])
   have hgn := gun_nums hst g (by rw [← hg]; exact List.getElem_mem hil)
   have hshb : 0 ≤ sh[i] ∧ sh[i] ≤ 4 := by
     have h1 := hsok i hish
     rw [gAt_at l hil, hg] at h1
     have := hgn.2.2.2.2.1
     have := hgn.2.2.2.2.2
     omega
   have hbub := bub_call (X := Y18) (N := N18) (W := W) hgv hshb hW1
   obtain ⟨bl, hbl⟩ : ∃ bl, (bubR g.v sh[i] W).map sampB = bl := ⟨_, rfl⟩
   rw [hbl] at hbub
   have hn18 := hM18.1
   have hNn18 : N < N18 := by omega
   have hnm18 : n + 1 + 1 < N18 := by have := hM8.lt (hS8 _ _ (hS7 _ _ (hS6 _ _ (hS5 _ _ hb7)))); omega
   have hn18' := namesOk_mono (Nat.le_succ N18) _ hM18.1
   have htk18 := takeNew_frz hM18.1
   refine E.seq ?_
   refine E.drawU mixed hr [7] [7] [1, 5, 7] (by kernel_rfl) (by simp [-cellsA, -cellA, -readA, cellA_read, hn18, hn18', hNn18, hnm18, hgv1, hsi, hbub, hilI]; rfl) ?_
   obtain ⟨hMc, hSc⟩ := hM18.put (b := .ext (bl.map fv) 98 1) rfl
   obtain ⟨Zc, hZc⟩ : ∃ Zc, (N18, Blk.ext (bl.map fv) 98 1) :: Y18 = Zc := ⟨_, rfl⟩
   have hbc : hget Zc N18 = some (.ext (bl.map fv) 98 1) := by rw [← hZc, hget_cons, if_pos rfl]
   rw [hZc] at hMc hSc
   rw [hZc]
   have hbin : ∀ x ∈ bubR g.v sh[i] W, -4096 ≤ x ∧ x ≤ 4096 := fun x hx => by
     unfold bubR rl at hx
     obtain ⟨j, _, rfl⟩ := List.mem_map.1 hx
     have := pulse256 (s := sh[i]) (i := (j : Int)) hgv
     omega
   obtain ⟨hbg, hb6⟩ := samps_good hbin
   rw [hbl] at hbg hb6
   have hbln : bl.length = W := by rw [← hbl, List.length_map, bubR_length]
   have hbf : fltV Zc (.slice (some ⟨N18, 0, some 0⟩) W 0) = some bl := by
     have := flt_ext (c := 0) hbc (by omega)
     rwa [hbln] at this
   have h87b : ∀ m, gErr (fun l => firstV (l.map err32)) [.slice (some ⟨N18, 0, some 0⟩) W 0] Zc m = some (iv 0, Zc, m) := fun m => by
     have h1 : firstV (bl.map err32) = 0 := (firstV_zero _).2 fun e he => by
       obtain ⟨b, hb, rfl⟩ := List.mem_map.1 he
       exact good_err (hbg b hb)
     simp only [gErr, hbf, Option.map_some, h1]
   have hA0 : ¬ (A : Int) < 0 := by omega
   have hA1 : ¬ (1000 : Int) < A := by omega
   refine E.seq ?_
   refine E.seq ?_
   refine E.reg hr (by simp [h87b, hA0, hA1]; rfl) ?_
   refine E.cond (t := false) (by simp; try omega) (fun h => by cases h) (fun _ => ?_)
   refine E.skip ?_
   refine E.seq ?_
   refine E.reg hr (by simp; rfl) ?_
   obtain ⟨P0, hP0⟩ : ∃ P0 : Nat → Int, (fun j : Nat => sumP l sh d j i) = P0 := ⟨_, rfl⟩
   obtain ⟨P1, hP1⟩ : ∃ P1 : Nat → Int, (fun j : Nat => sumP l sh d j (i + 1)) = P1 := ⟨_, rfl⟩
   have hPP : ∀ j : Nat, P1 j = P0 j + pulseV g.v sh[i] ((j : Int) - A) := fun j => by
     rw [← hP1, ← hP0]
     show sumP l sh d j i + _ = _
     rw [hA, vAt_at hil, hg, getD_at hish]
   have hPb : ∀ j : Nat, -4096 ≤ P0 j ∧ P0 j ≤ 4096 := fun j => by
     rw [← hP0]
     have := sum_bound (sh := sh) hst d (j : Int) i (by omega)
     dsimp only
     omega
   have hpls : ∀ j : Int, -256 ≤ pulseV g.v sh[i] j ∧ pulseV g.v sh[i] j ≤ 256 := fun j => pulse256 hgv
   have hbZc : hget Zc N10 = some (.cells ((rl P0 W).map iv) 3) := hSc _ _ (hS18 _ _ (hSb _ _ (by rw [← hP0]; exact hbZ)))
   have hstart : rl P0 W = rl (fun j => if j < A then P1 j else P0 j) W := rl_congr fun j _ => by
     by_cases h : j < A
     · rw [if_pos h, hPP, pulse_neg hgv hshb (by omega)]; omega
     · rw [if_neg h]
   rw [hstart] at hbZc
   refine E.block ?_
   refine E.loop ?_
   refine EL.ind (fun x : Nat × Heap => { fr := [(2, .pointer (some ⟨n, 0, none⟩)), (3, .pointer (some ⟨n + 1, 0, none⟩)), (4, .bool false), (5, sv d), (6, iv W), (7, .slice (some ⟨n + 1 + 1, 0, some 0⟩) l.length 0), (8, .slice (some ⟨b8, 0, some 0⟩) W 0), (10, .slice (some ⟨b10, 0, some 0⟩) W 0), (19, .slice (some ⟨N10, 0, none⟩) W W), (22, iv A), (24, .slice (some ⟨N18, 0, some 0⟩) W 0), (26, iv x.1), (182, .slice (some ga) l.length c'), (183, iv l.length), (184, iv i)], sz := 475, H := x.2, n := N18 + 1, marks := [], vs := [2, 3, 4, 5, 6, 7, 8, 10, 19, 20, 21, 22, 24, 26, 182, 183, 184, 253, 254, 255, 29, 30, 31, 32, 33, 34, 35, 36, 303, 304, 305] }) (fun x => W - x.1) (fun x => A ≤ x.1 ∧ MemOk (N18 + 1) x.2 ∧ (∀ k b, k ≠ N10 → hget Zc k = some b → hget x.2 k = some b) ∧ hget x.2 N10 = some (.cells ((rl (fun j => if j < x.1 then P1 j else P0 j) W).map iv) 3)) (A, Zc) (.keep rfl rfl rfl (by simp) (Sub.refl _)) ⟨Nat.le_refl _, hMc, fun _ _ _ h => h, hbZc⟩ (fun _ => rfl) ?_
   rintro ⟨m, Zx⟩ ⟨hmA, hMx, hkx, hbx⟩
   dsimp only at hmA hMx hkx hbx ⊢
   refine E.seq ?_
   refine E.seq ?_
   refine E.reg hr (by simp; rfl) ?_
   by_cases hmW : m < W
   · have hmI : (m : Int) < W := by omega
     have hwm : IntKind.i64.wrap ((m : Int) + 1) = (m : Int) + 1 := W_in (by omega) (by omega)
     obtain ⟨q, hq⟩ : ∃ q : Nat, m - A = q := ⟨_, rfl⟩
     have hqW : q < W := by omega
     have hqI : (q : Int) < W := by omega
     have hwq : IntKind.i64.wrap ((m : Int) - A) = (q : Int) := by rw [W_in (by omega) (by omega)]; omega
     have hqb : q < bl.length := by omega
     have h24 : hget Zx N18 = some (.ext (bl.map fv) 98 1) := hkx _ _ (by omega) hbc
     have hcq : cellA Zx N18 q = some (fv bl[q]) := by
       rw [cellA_eq, h24]
       simp [cellB, List.getElem?_map, List.getElem?_eq_getElem hqb]
     have hcm : cellA Zx N10 m = some (iv (P0 m)) := by
       rw [cellA_eq, hbx]
       show ((rl _ W).map iv)[m]? = _
       rw [rl_at hmW, if_neg (Nat.lt_irrefl _)]
     have hs6 : ∀ X k, gSix [fv bl[q]] X k = some (iv (six32 bl[q]), X, k) := fun X k => if_pos (List.all_eq_true.1 (allSm_of hbg) _ (List.getElem_mem hqb))
     have h6q : six32 bl[q] = pulseV g.v sh[i] q := by
       have h1 : (bl.map six32)[q]? = (bubR g.v sh[i] W)[q]? := by rw [hb6]
       rw [List.getElem?_map, List.getElem?_eq_getElem hqb, List.getElem?_eq_getElem (by simpa using hqW)] at h1
       injection h1 with h1
       rw [h1]
       simp [bubR]
     rw [h6q] at hs6
     obtain ⟨z, hz⟩ : ∃ z, bl[q] = z := ⟨_, rfl⟩
     rw [hz] at hs6 hcq
     have hp1 := hPb m
     have hp2 := hpls q
     have hsm : IntKind.i64.wrap (P0 m + pulseV g.v sh[i] q) = P1 m := by
       rw [W_in (by omega) (by omega), hPP]
       congr 2
       omega
     have hnew : rl (fun j => if j = m then P1 m else if j < m then P1 j else P0 j) W = rl (fun j => if j < m + 1 then P1 j else P0 j) W := rl_congr fun j _ => by
       by_cases h1 : j = m
       · subst h1; rw [if_pos rfl, if_pos (Nat.lt_succ_self _)]
       · rw [if_neg h1]
         by_cases h2 : j < m
         · rw [if_pos h2, if_pos (by omega)]
         · rw [if_neg h2, if_neg (by omega)]
     obtain ⟨Zn, hZn⟩ : ∃ Zn, hset Zx N10 (.cells ((rl (fun j => if j < m + 1 then P1 j else P0 j) W).map iv) 3) = Zn := ⟨_, rfl⟩
     have hsto : storeA Zx N10 m [iv (P1 m)] = some Zn := by
       rw [store_at hbx (by simpa using hmW), ← List.map_set, rl_set, hnew, hZn]
     have hMn : MemOk (N18 + 1) Zn := by rw [← hZn]; exact hMx.set rfl
     have hbn : hget Zn N10 = some (.cells ((rl (fun j => if j < m + 1 then P1 j else P0 j) W).map iv) 3) := by rw [← hZn, hget_set, if_pos rfl, hbx]; rfl
     have hkn : ∀ k b, k ≠ N10 → hget Zc k = some b → hget Zn k = some b := fun k b hk hb => by rw [← hZn, hget_set, if_neg (fun e => hk e.symm)]; exact hkx k b hk hb
     have hx1 : N10 < N18 + 1 := by omega
     have hx2 : N18 < N18 + 1 := by omega
     have hx3 := takeNew_frz hMx.1
     refine E.cond (t := true) (by simp [hmW]) (fun _ => ?_) (fun h => by cases h)
     refine E.skip ?_
     refine E.seq ?_
     refine E.block ?_
     refine E.drawU mixed hr [13] [10, 13] [3, 9, 10, 13] (by kernel_rfl) (by simp [-cellsA, -cellA, -readA, -storeA, cellA_read, hMx.1, hMx.2, hMn.1, hx1, hx2, hx3, hcq, hcm, hs6, hwq, hsm, hsto, hmW, hmI, hqI]; rfl) ?_
     refine E.reg hr (by simp [hwm]; rfl) ?_
     exact ⟨(m + 1, Zn), .keep rfl rfl rfl (by simp) (Sub.refl _), ⟨by omega, hMn, hkn, hbn⟩, by dsimp only; omega⟩
   · refine E.cond (t := false) (by simp [hmW]) (fun h => by cases h) (fun _ => ?_)
     refine E.exit ?_
     refine E.reg hr (by simp [hwi]; rfl) ?_
     have hend : rl (fun j => if j < m then P1 j else P0 j) W = rl P1 W := rl_congr fun j hj => if_pos (by omega)
     rw [hend, ← hP1] at hbx
     have hSc' := hSXb.trans (hS18.trans hSc)
     exact ⟨(i + 1, Zx, N18 + 1), .keep rfl rfl rfl (by simp) (Sub.refl _), ⟨hil, fun k b hb => hkx k b (by have := hM9.lt hb; omega) (hSc' _ _ hb), by dsimp only; omega, hMx, hbx⟩, by dsimp only; omega⟩
 · have hiL : i = l.length := by omega
   subst hiL
   refine E.cond (t := false) (by simp) (fun h => by cases h) (fun _ => ?_)
   refine E.exit ?_
   have hS0Z := hS09.trans hSZ
   have hmM : M13 (tidy n H) Z n N ga c' (.slice oc ns.length cc) nd nn l sh d W (n + 1 + 1) b8 b10 N10 fs :=
     ⟨hS0.trans hS0Z, hMZ, hg0 hS0Z, hS0Z _ _ hb0, hS0Z _ _ hb1, hs0 hS0Z, hgf, fun hi => (hS0.trans hS0Z).cells (hgunT hi), hSZ _ _ (hS9 _ _ (hS8 _ _ (hS7 _ _ (hS6 _ _ (hS5 _ _ hb7))))), hSZ _ _ (hS9 _ _ (hS8 _ _ (hS7 _ _ (hS6 _ _ hb8)))), hSZ _ _ (hS9 _ _ (hS8 _ _ (hS7 _ _ hb10))), hbZ⟩
   refine E.lead { fr := F13 n d W (n + 1 + 1) l.length b8 b10 N10, sz := 475, H := Z, n := N, marks := [], vs := vs13 } (.keep rfl rfl rfl (by simp) (Sub.refl _)) ?_
   exact w13b hmM hst h4 hshe hd hW1 (by omega) hfs (w13c hmM hst h4 hshe hd hW1 (by omega) rfl fun Y M bl bm hY h1 h2 => w13d hY hst h4 hshe hd hW1 (Nat.mod_lt _ (by omega)) hfs h1 h2)
end Go.Proofs.YtndlfijfjglkdaaGreatDoor

namespace Go.Proofs.YtndlfijfjglkdaaGreatDoor
open Go Go.Ab Go.Proofs Go.Soft Ieee
end Go.Proofs.YtndlfijfjglkdaaGreatDoor

namespace Go.Ab
open Go Go.ChangeShapes Go.WideShapes
end Go.Ab

namespace Go.Ab
open Go
end Go.Ab

namespace Go.Proofs.YtndlfijfjglkdaaGreatDoor
open Go Go.Ab Go.Proofs Go.ChangeShapes Go.WideShapes Go.ChangeAt Go.RowKit
namespace gunLines
end gunLines
end Go.Proofs.YtndlfijfjglkdaaGreatDoor

namespace Go.Proofs.YtndlfijfjglkdaaGreatDoor
open Go Go.Ab Go.Proofs Go.ChangeShapes Go.WideShapes Go.ChangeAt Go.RowKit
theorem leafs94 : leafs Tryz.prog 6 94 = some [.str, .int .i64, .int .i64, .int .i64, .int .i64, .int .i64, .int .i64] := by kernel_rfl
theorem fits_cons {a : Leaf} {bs : List Leaf} {r : List Value} (h : fitsL (a :: bs) r) : ∃ v vs, r = v :: vs ∧ a.fits v ∧ fitsL bs vs := by
 cases r with
 | nil => exact h.elim
 | cons v vs => exact ⟨v, vs, rfl, h.1, h.2⟩
theorem fits_nil {r : List Value} (h : fitsL [] r) : r = [] := by
 cases r with
 | nil => rfl
 | cons v vs => exact h.elim
theorem fits_gun {r : List Value} (h : fitsL [.str, .int .i64, .int .i64, .int .i64, .int .i64, .int .i64, .int .i64] r) : ∃ g : Gun, r = g.cells := by
 obtain ⟨_, _, rfl, ⟨s, rfl, _⟩, h1⟩ := fits_cons h
 obtain ⟨_, _, rfl, ⟨v, rfl, _⟩, h2⟩ := fits_cons h1
 obtain ⟨_, _, rfl, ⟨x, rfl, _⟩, h3⟩ := fits_cons h2
 obtain ⟨_, _, rfl, ⟨y, rfl, _⟩, h4⟩ := fits_cons h3
 obtain ⟨_, _, rfl, ⟨t, rfl, _⟩, h5⟩ := fits_cons h4
 obtain ⟨_, _, rfl, ⟨lo, rfl, _⟩, h6⟩ := fits_cons h5
 obtain ⟨_, _, rfl, ⟨hi, rfl, _⟩, h7⟩ := fits_cons h6
 obtain rfl := fits_nil h7
 exact ⟨⟨s, v, x, y, t, lo, hi⟩, rfl⟩
theorem fits_guns : ∀ rows : List (List Value), (∀ r ∈ rows, fitsL [.str, .int .i64, .int .i64, .int .i64, .int .i64, .int .i64, .int .i64] r) → ∃ l : List Gun, rows.flatten = gcs l ∧ l.length = rows.length
 | [], _ => ⟨[], rfl, rfl⟩
 | r :: rows, h => by
   obtain ⟨g, rfl⟩ := fits_gun (h r (List.mem_cons_self ..))
   obtain ⟨l, h1, h2⟩ := fits_guns rows fun r hr => h r (List.mem_cons_of_mem _ hr)
   exact ⟨g :: l, by rw [List.flatten_cons, h1]; rfl, by simp [h2]⟩
set_option maxRecDepth 100000 in
theorem open_str {H : Type} {enc : TypeId × Value → H} {W : World} {base : Nat} {v : Value} {d : DataW H} {p : List MemPlace} (hv : Value.okWide Tryz.prog W .any base 24 v) (h : DataW.Trod enc Tryz.prog W 0 (fun _ => true) true 24 v d p) :
   v = nilV ∨ ∃ (b o c : Nat) (l : List Gun), v = .agg ⟨[.slice (some ⟨b, o, none⟩) l.length c]⟩ ∧ l.length < 2 ^ 63 ∧ ∃ cs t fz, W.heap[b]? = some (.cells cs t fz) ∧ ∀ i, i < (gcs l).length → cs[o + i]? = (gcs l)[i]? := by
 rcases handed_str (d := 6) Tryz.underlying24 (f := ⟨"Guns", 22, 0, false, "", "", 0⟩) rfl rfl rfl (by kernel_rfl) (by kernel_rfl) (by kernel_rfl) Tryz.underlying22 leafs94 (by kernel_rfl) (by simp) hv h with rfl | ⟨b, o, len, cap, rows, rfl, h1, h2, h3, h4, cs, t, fz, hw, hc⟩
 · exact .inl rfl
 · obtain ⟨l, e1, e2⟩ := fits_guns rows h4
   have : len = l.length := by omega
   subst this
   rw [e1] at hc
   refine .inr ⟨b, o, cap, l, rfl, ?_, cs, t, fz, hw, hc⟩
   have : maxLen < 2 ^ 63 := by decide
   omega
end Go.Proofs.YtndlfijfjglkdaaGreatDoor

namespace Go.Proofs.YtndlfijfjglkdaaGreatDoor
open Go Go.Ab Go.Proofs Go.ChangeShapes Go.WideShapes Go.ChangeAt Go.RowKit
theorem repG {W : World} (h0 : Lies W 0 names0) {v : Value} (h : v = nilV ∨ ∃ (b o c : Nat) (l : List Gun), v = .agg ⟨[.slice (some ⟨b, o, none⟩) l.length c]⟩ ∧ l.length < 2 ^ 63 ∧ ∃ cs t fz, W.heap[b]? = some (.cells cs t fz) ∧ ∀ i, i < (gcs l).length → cs[o + i]? = (gcs l)[i]?) :
   ∃ (b o : Nat) (cs : List Value) (sl : Value) (l : List Gun), afL cs = true ∧ (∃ c t fz, W.heap[b]? = some (.cells c t fz) ∧ ∀ i, i < cs.length → c[o + i]? = cs[i]?) ∧ (∀ φ : Vl, φ.loc 10 = b → den φ (.agg ⟨[sl]⟩) = v) ∧
     (∀ G : Heap, hget G 10 = some (.inp o cs) → strAt G (.agg ⟨[sl]⟩) = some l) ∧ (∀ p : Nat → Prop, p 10 → sc p sl) := by
 rcases h with rfl | ⟨b, o, c, l, rfl, hl, cs, t, fz, hw, hc⟩
 · obtain ⟨c, t, fz, e1, _⟩ := h0
   exact ⟨0, 0, [], .slice none 0 0, [], rfl, ⟨c, t, fz, e1, fun i hi => by simp at hi⟩, fun φ _ => by simp [den, denL], fun G _ => rfl, fun _ _ => trivial⟩
 · refine ⟨b, o, gcs l, .slice (some ⟨10, o, none⟩) l.length c, l, afL_gcs l, ⟨cs, t, fz, hw, hc⟩, fun φ hφ => by simp [den, denL, hφ], fun G hG => ?_, fun p hp => hp⟩
   unfold strAt gunsAt
   simp [hG, List.take_of_length_le, gunsOf_gcs, show l.length < 9223372036854775808 by omega]
theorem laid_met2 (os : Os) (a b : Value) : laidMet Tryz.prog laidAll ((laidWorld os).forCall (fun _ _ => 0) ⟨#[], #[a, b], []⟩).memory :=
 laidMet_of_run' 8 (by kernel_rfl) (by kernel_rfl)
end Go.Proofs.YtndlfijfjglkdaaGreatDoor

namespace Go.Proofs.YtndlfijfjglkdaaGreatDoor
open Go Go.Ab Go.Proofs Go.ChangeShapes Go.WideShapes Go.ChangeAt Go.RowKit
theorem lawS2 {f : FuncId} (he : enterable Tryz.prog f = true) {W : World} (h0 : Lies W 0 names0) (h3 : Lies W 3 tab3) {b0 o0 b1 o1 : Nat} {cs0 cs1 : List Value} {sl v0 : Value} {us ws : List Value} {l : List Gun} (haf : afL cs0 = true) (hcs : ∃ c t fz, W.heap[b0]? = some (.cells c t fz) ∧ ∀ i, i < cs0.length → c[o0 + i]? = cs0[i]?) (haf1 : afL cs1 = true) (hcs1 : ∃ c t fz, W.heap[b1]? = some (.cells c t fz) ∧ ∀ i, i < cs1.length → c[o1 + i]? = cs1[i]?)
   (hden : ∀ φ : Vl, φ.loc 10 = b0 → den φ (.agg ⟨[sl]⟩) = v0) (hstr : ∀ G : Heap, hget G 10 = some (.inp o0 cs0) → strAt G (.agg ⟨[sl]⟩) = some l) (hsl : ∀ p : Nat → Prop, p 10 → sc p sl) (hden1 : ∀ φ : Vl, φ.loc 11 = b1 → denL φ us = ws) (hsc1 : ∀ p : Nat → Prop, p 11 → scL p us)
   (wk : ∀ H : Heap, hget H 0 = some (.inp 0 names0) → hget H 3 = some (.inp 0 tab3) → strAt H (.agg ⟨[sl]⟩) = some l → hget H 11 = some (.inp o1 cs1) → AC Tryz.prog f (.agg ⟨[sl]⟩ :: us) H 12 (.bool true) H 12) :
   Calls Tryz.prog f (v0 :: ws).toArray W fun e W' => e = .returned (.bool true) ∧ Below W.heap.size W W' := by
 refine lawCalls he h0 h3 [⟨b0, o0, cs0⟩, ⟨b1, o1, cs1⟩] ?_ (args0 := .agg ⟨[sl]⟩ :: us) ?_ ?_ (wk _ rfl rfl (hstr _ rfl) rfl)
 · intro v hv
   rcases List.mem_cons.1 hv with rfl | hv
   · refine ⟨scL_af _ _ haf, ?_⟩
     obtain ⟨c, t, fz, e1, e2⟩ := hcs
     exact ⟨c, t, fz, e1, fun i hi => by rw [denL_af _ _ haf]; exact e2 i hi⟩
   · rw [List.mem_singleton] at hv
     subst hv
     refine ⟨scL_af _ _ haf1, ?_⟩
     obtain ⟨c, t, fz, e1, e2⟩ := hcs1
     exact ⟨c, t, fz, e1, fun i hi => by rw [denL_af _ _ haf1]; exact e2 i hi⟩
 · exact ⟨⟨hsl _ (by simp), trivial⟩, hsc1 _ (by simp)⟩
 · simp only [denL, hden (wloc [⟨b0, o0, cs0⟩, ⟨b1, o1, cs1⟩]) rfl, hden1 (wloc [⟨b0, o0, cs0⟩, ⟨b1, o1, cs1⟩]) rfl]
namespace gunExplains
end gunExplains
end Go.Proofs.YtndlfijfjglkdaaGreatDoor

namespace Go.Proofs.YtndlfijfjglkdaaGreatDoor
open Go Go.Ab Go.Proofs Go.ChangeShapes Go.WideShapes Go.ChangeAt Go.RowKit
namespace gunStrings
end gunStrings
end Go.Proofs.YtndlfijfjglkdaaGreatDoor

namespace Go.Proofs.YtndlfijfjglkdaaGreatDoor
open Go Go.Ab Go.Proofs
end Go.Proofs.YtndlfijfjglkdaaGreatDoor

namespace Go.Proofs.YtndlfijfjglkdaaGreatDoor
open Go Go.Ab Go.Proofs Go.ChangeShapes Go.WideShapes Go.ChangeAt Go.RowKit
namespace gunReaches
end gunReaches
end Go.Proofs.YtndlfijfjglkdaaGreatDoor

namespace Go.Proofs.YtndlfijfjglkdaaGreatDoor
open Go Go.Ab Go.Proofs Go.ChangeShapes Go.WideShapes Go.ChangeAt Go.RowKit
theorem wf_u8 {n : Int} (h : (Lit.int .u8 n).wf = true) : 0 ≤ n ∧ n ≤ 255 := by
 simp [Lit.wf, IntKind.min, IntKind.max, IntKind.signed, IntKind.bits] at h
 omega
theorem leafs5 : leafs Tryz.prog 6 5 = some [.int .u8] := by kernel_rfl
theorem fits_u8s : ∀ rows : List (List Value), (∀ r ∈ rows, fitsL [.int .u8] r) → ∃ ns : List Int, rows.flatten = ns.map bv ∧ ns.length = rows.length ∧ ∀ x ∈ ns, 0 ≤ x ∧ x ≤ 255
 | [], _ => ⟨[], rfl, rfl, by simp⟩
 | r :: rows, h => by
   obtain ⟨_, _, e1, ⟨n, rfl, hn⟩, h1⟩ := fits_cons (h r (List.mem_cons_self ..))
   obtain rfl := fits_nil h1
   obtain ⟨ns, h2, h3, h4⟩ := fits_u8s rows fun r hr => h r (List.mem_cons_of_mem _ hr)
   refine ⟨n :: ns, by rw [List.flatten_cons, h2, e1]; rfl, by simp [h3], fun x hx => ?_⟩
   rcases List.mem_cons.1 hx with rfl | hx
   · exact wf_u8 hn
   · exact h4 x hx
set_option maxRecDepth 100000 in
theorem open_heard {H : Type} {enc : TypeId × Value → H} {W : World} {base : Nat} {v : Value} {d : DataW H} {p : List MemPlace} (hv : Value.okWide Tryz.prog W .any base 86 v) (h : DataW.Trod enc Tryz.prog W 0 (fun _ => true) true 86 v d p) :
   ∃ (s : Value) (nd nw : Int), v = .agg ⟨[s, bv nd, bv nw]⟩ ∧ (0 ≤ nd ∧ nd ≤ 255) ∧ (0 ≤ nw ∧ nw ≤ 255) ∧
     (s = .slice none 0 0 ∨ ∃ (b o c : Nat) (ns : List Int), s = .slice (some ⟨b, o, none⟩) ns.length c ∧ ns.length ≤ maxLen ∧ (∀ x ∈ ns, 0 ≤ x ∧ x ≤ 255) ∧ ∃ cs t fz, W.heap[b]? = some (.cells cs t fz) ∧ ∀ i, i < (ns.map bv).length → cs[o + i]? = (ns.map bv)[i]?) := by
 unfold Value.okWide at hv
 rw [Tryz.underlying86] at hv
 obtain ⟨cs, rfl, hsz, ts, hts, _, hrow⟩ := hv
 rw [show Tryz.prog.cellTypes Tryz.prog.depth 86 = some [84, 5, 5] by kernel_rfl] at hts
 injection hts with hts; subst hts
 rw [show Tryz.prog.cellsOf 86 = 3 by kernel_rfl] at hsz
 obtain ⟨l⟩ := cs
 match l, hsz with
 | [v0, v1, v2], _ =>
   obtain ⟨u', h2, h3⟩ := hrow 0 v0 rfl
   obtain rfl : 84 = u' := by simpa using h2
   obtain ⟨fuel, h⟩ := h
   obtain ⟨xs, m, rfl, _, hlen, hxl, hel⟩ := DataW.trod_struct Tryz.underlying86 h
   have key : ∀ j (f : Field), (match Tryz.prog.underlying 86 with | some (.struct fs) => fs[j]? | _ => none) = some f → ∃ y, DataW.trod enc Tryz.prog W 0 (fun _ => true) true m f.type (([v0, v1, v2].drop f.offset).take (Tryz.prog.cellsOf f.type)) = some y := fun j f hf => by
     rw [Tryz.underlying86] at hf
     have h4 := hel j f hf
     have hpos := (Array.getElem?_eq_some_iff.1 hf).1
     obtain ⟨y, hy⟩ : ∃ y, xs[j]? = some y := ⟨xs[j]'(by omega), by simp⟩
     rw [hy] at h4
     exact ⟨y, by simpa [Value.cells] using h4⟩
   obtain ⟨y0, k0⟩ := key 0 _ (by rw [Tryz.underlying86]; rfl)
   obtain ⟨y1, k1⟩ := key 1 _ (by rw [Tryz.underlying86]; rfl)
   obtain ⟨y2, k2⟩ := key 2 _ (by rw [Tryz.underlying86]; rfl)
   have e0 : (([v0, v1, v2].drop 0).take (Tryz.prog.cellsOf 84)) = [v0] := by kernel_rfl
   have e1 : (([v0, v1, v2].drop 1).take (Tryz.prog.cellsOf 5)) = [v1] := by kernel_rfl
   have e2 : (([v0, v1, v2].drop 2).take (Tryz.prog.cellsOf 5)) = [v2] := by kernel_rfl
   have k0' : DataW.trod enc Tryz.prog W 0 (fun _ => true) true m 84 [v0] = some y0 := by rw [← e0]; exact k0
   have l1 : fitsL [.int .u8] [v1] := by rw [← e1]; exact leafs_ok 6 5 _ m _ y1 leafs5 k1
   have l2 : fitsL [.int .u8] [v2] := by rw [← e2]; exact leafs_ok 6 5 _ m _ y2 leafs5 k2
   obtain ⟨⟨nd, rfl, hnd⟩, _⟩ := l1
   obtain ⟨⟨nw, rfl, hnw⟩, _⟩ := l2
   refine ⟨v0, nd, nw, rfl, wf_u8 hnd, wf_u8 hnw, ?_⟩
   rcases handed_slice (d := 6) Tryz.underlying84 leafs5 (by kernel_rfl) (by simp) h3 k0' with h0 | ⟨b, o, len, cap, rows, e, h5, h6, h7, h8, cs, t, fz, hw, hc⟩
   · exact .inl h0
   · obtain ⟨ns, f1, f2, f3⟩ := fits_u8s rows h8
     have : len = ns.length := by omega
     subst this
     rw [f1] at hc
     exact .inr ⟨b, o, cap, ns, e, by omega, f3, cs, t, fz, hw, hc⟩
end Go.Proofs.YtndlfijfjglkdaaGreatDoor

namespace Go.Proofs.YtndlfijfjglkdaaGreatDoor
open Go Go.Ab Go.Proofs Go.ChangeShapes Go.WideShapes Go.ChangeAt Go.RowKit
theorem renL_u8 (ρ : Nat → Nat) (l : List Int) : renL ρ (l.map bv) = l.map bv := by
 rw [renL_eq, List.map_map]
 rfl
theorem repU {W : World} (h0 : Lies W 0 names0) {s : Value} (h : s = .slice none 0 0 ∨ ∃ (b o c : Nat) (ns : List Int), s = .slice (some ⟨b, o, none⟩) ns.length c ∧ ns.length ≤ maxLen ∧ (∀ x ∈ ns, 0 ≤ x ∧ x ≤ 255) ∧ ∃ cs t fz, W.heap[b]? = some (.cells cs t fz) ∧ ∀ i, i < (ns.map bv).length → cs[o + i]? = (ns.map bv)[i]?) :
   (∃ (b o : Nat) (cs : List Value) (a : Option Addr) (m c : Nat) (ns : List Int), afL cs = true ∧ (∃ c t fz, W.heap[b]? = some (.cells c t fz) ∧ ∀ i, i < cs.length → c[o + i]? = cs[i]?) ∧ (∀ φ : Vl, φ.loc 11 = b → den φ (.slice a m c) = s) ∧
     (ns.length < 2147483648 → ∀ G : Heap, hget G 11 = some (.inp o cs) → u8W G (.slice a m c) = some ns) ∧ (∀ x ∈ ns, 0 ≤ x ∧ x ≤ 255) ∧ (∀ ρ, renL ρ cs = cs) ∧ (∀ p : Nat → Prop, p 11 → sc p (.slice a m c)) ∧ m = ns.length) := by
 rcases h with rfl | ⟨b, o, c, ns, rfl, hl, hb, cs, t, fz, hw, hc⟩
 · obtain ⟨c, t, fz, e1, _⟩ := h0
   exact ⟨0, 0, [], none, 0, 0, [], rfl, ⟨c, t, fz, e1, fun i hi => by simp at hi⟩, fun φ _ => by simp [den], fun _ G _ => rfl, by simp, fun _ => rfl, fun _ _ => trivial, rfl⟩
 · refine ⟨b, o, ns.map bv, some ⟨11, o, none⟩, ns.length, c, ns, names_u8 ns, ⟨cs, t, fz, hw, hc⟩, fun φ hφ => by simp [den, hφ], fun h31 G hG => ?_, hb, fun ρ => renL_u8 ρ ns, fun p hp => hp, rfl⟩
   unfold u8W
   simp [hG, List.take_of_length_le, u8Of_bv, h31]
namespace gunMoves
end gunMoves
end Go.Proofs.YtndlfijfjglkdaaGreatDoor

namespace Go.Proofs.YtndlfijfjglkdaaGreatDoor
open Go Go.Ab Go.Proofs Go.ChangeShapes Go.WideShapes Go.ChangeAt Go.RowKit
theorem params13 : Tryz.f13.params = #[24, 86] := by kernel_rfl
namespace gunEncloses
set_option maxRecDepth 100000 in
theorem contract (H : Type) (enc : TypeId × Value → H) (W : World) (base : Nat) (args : Array Value) (ds gs : List (DataW H)) (before : List MemPlace)
   (hval : ∀ (j : Nat) t v, Tryz.f13.params[j]? = some t → args[j]? = some v → Value.okWide Tryz.prog W .any base t v)
   (hW : DataW.Whole enc Tryz.prog Tryz.f13.params.toList Rows.gunEnclosesSpec.vars false W args.toList ds gs before) (hL : laidMetH Tryz.prog Rows.gunEnclosesRow.laid W) :
   Calls Tryz.prog 13 args W fun e W' => ∃ v, e = .returned v ∧ Rows.gunEnclosesSpec.post enc Tryz.prog Tryz.f13 false true false false W args v W' := by
 have hW' := hW
 obtain ⟨p, q, hA0, hV, rfl, hfz, hnd⟩ := hW
 have hA : DataW.TrodAll enc Tryz.prog W 0 (fun _ => true) true Tryz.f13.params.toList args.toList ds p := hA0
 rw [params13] at hA hval
 obtain ⟨v0, vs0, d0, ds0, p0, q0, hargs, rfl, rfl, h0, r0⟩ := trodAll_cons hA
 obtain ⟨v1, vs1, d1, ds1, p1, q1, rfl, rfl, rfl, h1, r1⟩ := trodAll_cons r0
 obtain ⟨rfl, rfl, rfl⟩ := trodAll_nil r1
 obtain rfl : args = #[v0, v1] := by cases args; simp_all
 obtain ⟨b0, o0, cs0, sl, l, a1, a2, a3, a4, a5⟩ := repG (lies0 hL) (open_str (hval 0 24 v0 rfl rfl) h0)
 obtain ⟨s, nd, nw, rfl, hnd', hnw, hs⟩ := open_heard (hval 1 86 v1 rfl rfl) h1
 obtain ⟨b1, o1, cs1, a, m, c1, ns, e1, e2, e3, e4, e5, _, e7, rfl⟩ := repU (lies0 hL) hs
 have hc : Calls Tryz.prog 13 #[v0, .agg ⟨[s, bv nd, bv nw]⟩] W fun e W' => e = .returned (.bool true) ∧ Below W.heap.size W W' := by
   refine lawS2 (f := 13) (by kernel_rfl) (lies0 hL) (lies3 hL) (ws := [.agg ⟨[s, bv nd, bv nw]⟩]) (us := [.agg ⟨[.slice a ns.length c1, bv nd, bv nw]⟩]) a1 a2 e1 e2 a3 a4 a5 (fun φ hφ => by have := e3 φ hφ; simp only [denL, den] at this ⊢; rw [this]) (fun p hp => ⟨⟨e7 p hp, trivial, trivial, trivial⟩, trivial⟩) fun H g0 g3 hs hH => ?_
   by_cases hgo : validB l = true ∧ l.length ≤ 4 ∧ ns.length ≤ 8
   · exact w13m g0 g3 hs (e4 (by omega) H hH) e5 hnd' hnw hgo.1 hgo.2.1 hgo.2.2
   · exact w13e g0 g3 hs hgo
 refine hc.mono fun e W' ⟨he, hb⟩ => ⟨_, he, ?_⟩
 refine lawPost ?_ rfl rfl rfl hW' hb
 intro t ht
 rw [params13] at ht
 simp at ht
 rcases ht with rfl | rfl
 · exact ⟨by kernel_rfl, by rw [show Tryz.prog.types.size = 405 by kernel_rfl]; decide⟩
 · exact ⟨by kernel_rfl, by rw [show Tryz.prog.types.size = 405 by kernel_rfl]; decide⟩
abbrev wit : Array Value := #[.agg #[.slice none 0 0], .agg #[.slice none 0 0, bv 0, bv 0]]
theorem reads (os : Os) {H : Type} (enc : TypeId × Value → H) : ∃ ds places, DataW.whole enc Tryz.prog ((laidWorld os).forCall (fun _ _ => 0) ⟨#[], wit, []⟩).memory Tryz.f13.params.toList Rows.gunEnclosesSpec.vars false wit.toList 8 = some (ds, [], places) :=
 ⟨[.agg [.nil], .agg [.nil, .lit (.int .u8 0), .lit (.int .u8 0)]], [], by kernel_rfl⟩
set_option maxRecDepth 100000 in
theorem lifted (os : Os) (started : os.Started) (H : Type) (enc : TypeId × Value → H) (F : Stop.Interp) :
   ReturnsInHanded {} Tryz.checked os 13 .any ((OpenSpec.ofChange Rows.gunEnclosesSpec).preRow enc Tryz.prog Tryz.f13 Rows.gunEnclosesRow.domain false Rows.gunEnclosesRow.laid) (((OpenSpec.ofChange Rows.gunEnclosesSpec).at F).post enc Tryz.prog Tryz.f13 false true false false) := by
 obtain ⟨ds, places, hx⟩ := reads os enc
 refine returnsInHanded_of_row (C := Tryz.checked) (s := OpenSpec.ofChange Rows.gunEnclosesSpec) own started (by kernel_rfl) Tryz.func13
   (witness_row_at (enc := enc) (C := Tryz.checked) false (laidWorld os) wit rfl (by kernel_rfl) (by kernel_rfl) (by kernel_rfl)
     (OpenSpec.preRow_of_cond 8 hx (by kernel_rfl) (fun k hk => by cases hk) (by kernel_rfl) (laid_met2 os _ _))) ?_
 intro W base args ds gs before hval hW _ _ _ hL _ _
 exact contract H enc W base args ds gs before hval hW hL
end gunEncloses
end Go.Proofs.YtndlfijfjglkdaaGreatDoor

namespace Go.Proofs.YtndlfijfjglkdaaGreatDoor
open Go
namespace gunEncloses
theorem jf0 : OpenClaim.wf (OpenSpec.ofChange Rows.gunEnclosesSpec) Rows.gunEnclosesRow = true := by kernel_rfl
theorem jf1 : laidOutB Tryz.prog = true := jfp1
theorem jf2 : mapsRowed Tryz.prog = true := jfp2
theorem jf3 : Tryz.f13.params.all (Tryz.prog.readableRec ·) = true := by kernel_rfl
theorem jf4 : namedTie Tryz.prog Rows.gunEnclosesRow.named Rows.gunEnclosesSpec.vars = true := by kernel_rfl
theorem jf5 : (Rows.gunEnclosesRow.stops == []) = true := by kernel_rfl
theorem jf6 : (Tryz.prog.stops == []) = true := jfp6
theorem jf7 : (Rows.gunEnclosesRow.knobs == []) = true := by kernel_rfl
theorem jf8 : (Tryz.prog.stopKnobs == []) = true := jfp8
theorem jf9 : (Rows.gunEnclosesRow.inPlace == Tryz.prog.inPlace 13) = true := by kernel_rfl
theorem jf10 : (Rows.gunEnclosesRow.unfollowed == Tryz.prog.unfollowed 13) = true := by kernel_rfl
theorem jf11 : (Rows.gunEnclosesRow.recurses == Tryz.prog.recurses 13) = true := by kernel_rfl
theorem jf12 : (Rows.gunEnclosesRow.named == Tryz.prog.varsNamed 13) = true := by kernel_rfl
theorem jf13 : (Rows.gunEnclosesRow.maps == (Tryz.f13.params.toList ++ Rows.gunEnclosesSpec.plain.varTypes Tryz.prog).any (Tryz.prog.mapsRec ·)) = true := by kernel_rfl
theorem jf14 : (Rows.gunEnclosesRow.ifaces == (Tryz.f13.params.toList ++ Rows.gunEnclosesSpec.plain.varTypes Tryz.prog).any (Tryz.prog.ifacesRec ·)) = true := by kernel_rfl
theorem jf15 : (Rows.gunEnclosesRow.mapsOut == Tryz.prog.mapsAmong Tryz.f13.resultTypes.toList) = true := by kernel_rfl
theorem jf16 : (Rows.gunEnclosesRow.loops == (Tryz.f13.params.toList ++ Rows.gunEnclosesSpec.plain.varTypes Tryz.prog).any (Tryz.prog.loopsFrom ·)) = true := by kernel_rfl
theorem jf17 : (Rows.gunEnclosesRow.wideKeys == (Tryz.f13.params.toList ++ Rows.gunEnclosesSpec.plain.varTypes Tryz.prog ++ Tryz.f13.resultTypes.toList).any (Tryz.prog.wideKeysFrom ·)) = true := by kernel_rfl
theorem jf18 : Rows.gunEnclosesSpec.vars.all (Tryz.prog.varReadable ·) = true := by kernel_rfl
theorem jf19 : Tryz.f13.resultTypes.all (fun t => Tryz.prog.readableRec t && decide (t < Tryz.prog.types.size)) = true := by kernel_rfl
theorem jf20 : (Rows.gunEnclosesRow.ifacesOut == Tryz.f13.resultTypes.toList.any (Tryz.prog.ifacesRec ·)) = true := by kernel_rfl
theorem jf21 : (Rows.gunEnclosesRow.loopsOut == Tryz.f13.resultTypes.toList.any (Tryz.prog.loopsFrom ·)) = true := by kernel_rfl
theorem jf22 : (Rows.gunEnclosesRow.plainKeys == Tryz.prog.plainKeys) = true := jfp22
theorem jf23 : Rows.gunEnclosesRow.shortTexts.isNone = true := by kernel_rfl
theorem jf24 : Tryz.prog.stopsHeard = true := jfp24
theorem jf25 : Tryz.prog.mayEnter = true := jfp25
theorem jf26 : (Rows.gunEnclosesRow.lifted == Tryz.prog.liftsFinal) = true := jfp26
theorem jf27 : (Tryz.prog.make == some Rows.gunEnclosesRow.make) = true := jfp27
theorem jf28 : (Rows.gunEnclosesRow.kinds == (if Rows.gunEnclosesRow.domain.isEmpty then [] else Tryz.f13.params.toList.map fun t => match Tryz.prog.underlying t with | some (.int k) => some k | _ => none)) = true := by kernel_rfl
theorem jf29 : (Rows.gunEnclosesRow.pinned == Rows.gunEnclosesRow.pinnedBy) = true := by kernel_rfl
theorem jf30 : (Rows.gunEnclosesRow.veiled == (Tryz.f13.params.toList ++ Rows.gunEnclosesSpec.plain.varTypes Tryz.prog ++ Tryz.f13.resultTypes.toList).any (Tryz.prog.veiledRec ·)) = true := by kernel_rfl
theorem jf31 : OpenClaim.veiledFits Rows.gunEnclosesRow Tryz.prog Tryz.f13.params.toList (Tryz.f13.params.toList ++ Rows.gunEnclosesSpec.plain.varTypes Tryz.prog ++ Tryz.f13.resultTypes.toList) = true := by kernel_rfl
set_option maxRecDepth 100000 in
theorem facts : joinedFacts Tryz.prog 13 Tryz.f13 Rows.gunEnclosesSpec Rows.gunEnclosesRow = true := by
 unfold joinedFacts
 exact (and2 (and2 (and2 (and2 (and2 (and2 (and2 (and2 (and2 (and2 (and2 (and2 (and2 (and2 (and2 (and2 (and2 (and2 (and2 (and2 (and2 (and2 (and2 (and2 (and2 (and2 (and2 (and2 (and2 (and2 (and2 jf0 jf1) jf2) jf3) jf4) jf5) jf6) jf7) jf8) jf9) jf10) jf11) jf12) jf13) jf14) jf15) jf16) jf17) jf18) jf19) jf20) jf21) jf22) jf23) jf24) jf25) jf26) jf27) jf28) jf29) jf30) jf31)
end gunEncloses
end Go.Proofs.YtndlfijfjglkdaaGreatDoor

namespace Go.Proofs.YtndlfijfjglkdaaGreatDoor
open Go Go.Ab Go.Proofs Go.ChangeShapes Go.WideShapes Go.ChangeAt Go.RowKit
namespace gunEncloses
theorem fnum : Tryz.prog.funcNamed "moveout/moveoutlaw03.GunEncloses" = some 13 := by kernel_rfl
theorem inst : Tryz.f13.isInstance Tryz.prog Rows.gunEnclosesRow.origin Rows.gunEnclosesRow.targs := of_decide_eq_true (by kernel_rfl)
theorem wrapper : Tryz.f13.isWrapper Tryz.prog Rows.gunEnclosesRow.wrapper Rows.gunEnclosesRow.mainSum := by unfold Func.isWrapper; first | (rw [if_pos (by decide +kernel)]; kernel_rfl) | (rw [if_neg (by decide +kernel)]; exact ⟨rfl, rfl⟩)
set_option maxRecDepth 100000 in
theorem said : Rows.GunEnclosesSaid :=
 OpenClaim.holds_of_cond 13 Tryz.f13 rfl rfl rfl rfl rfl rfl rfl ⟨rfl, rfl, rfl, rfl, rfl⟩ rfl rfl rfl rfl rfl fnum Tryz.func13 facts inst wrapper
   (fun os started H enc _ F => by rw [OpenClaim.pre_eq_preRow]; exact lifted os started H enc F)
theorem looks : true = Tryz.prog.looks [] := by kernel_rfl
theorem standIn : ∀ t, t = 24 ∨ t = 86 → Tryz.prog.wantsStandIn t = false := by
 rintro t (rfl | rfl) <;> kernel_rfl
theorem plain (f : FuncId) (fn : Func) (hf : Tryz.pinned.checked.prog.funcNamed "moveout/moveoutlaw03.GunEncloses" = some f) (hfn : Tryz.pinned.checked.prog.funcs[f]? = some fn) :
   true = Tryz.pinned.checked.prog.looks [] ∧ ∀ (j : Nat) t, fn.params[j]? = some t → Tryz.pinned.checked.prog.wantsStandIn t = false := by
 obtain rfl : f = 13 := Option.some.inj (fnum.symm.trans hf) |>.symm
 obtain rfl : fn = Tryz.f13 := (Option.some.inj (Tryz.func13.symm.trans hfn)).symm
 refine ⟨looks, fun j t ht => ?_⟩
 rw [params13] at ht
 exact standIn t (by simpa using Array.mem_of_getElem? ht)
theorem wf : OpenClaim.wfByText (OpenSpec.ofChange Rows.gunEnclosesSpec) Rows.gunEnclosesRow = true := by kernel_rfl
theorem main : Tryz.prog.mainIs = some ("e00eecd8ca05e183972abfbf043f5ed2bc813bd519e3ebd189d9b51d2f935a9d" |> fun s => (true, s.toList)) := by kernel_rfl
theorem goes : false = Rows.gunEnclosesRow.goesBy Tryz.prog := by kernel_rfl
set_option maxRecDepth 100000 in
theorem card : Rows.GunEnclosesCardSaid :=
 Claim7.holds_tied_plain_at .later [] _ _ _ _ said (fun _ h => by cases h) wf (fun _ h => by cases h) gunEncloses_row_tie rfl ⟨rfl, rfl⟩ main rfl plain goes
end gunEncloses
end Go.Proofs.YtndlfijfjglkdaaGreatDoor
