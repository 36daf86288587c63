/-
The law VelocityExplained, walked where none are handed or the law asks nothing, and all the ways together.
-/
import Derived.Test.YtkongcnmkiihjaaGreatDoorYk
import Derived.Test.YtkongcnmkiihjaaGreatDoorYg
namespace Go.Proofs.YtkongcnmkiihjaaGreatDoor
open Go Go.Ab Go.Proofs
set_option maxHeartbeats 2000000 in
set_option maxRecDepth 20000 in
theorem w9nn (lo hi : Int) (hre : refE [] lo hi = 0) : AC Tryz.prog 9 [.slice none 0 0, ivl lo hi, .slice none 0 0] (G0 : Heap) 9 (.bool true) (G0 : Heap) 9 := by
  have hr := recT_ok (P := Tryz.prog) (l := [(15, g15), (44, g44), (46, g46), (45, g45), (47, g47), (34, g34), (48, g48b), (49, g49), (50, g50), (51, gBnd), (27, g94)]) (by simp [ok15, ok44, ok46, ok45, ok47, ok34, ok48b, ok49, ok50, ok51, ok27])
  have hb : BndIn lo hi := (refE_ok hre).2.2
  have hbk := hb
  obtain ⟨b1, b2, b3, b4, b5⟩ := hbk
  have hE : firstV [pksE [], bndE lo hi] = refE [] lo hi := rfl
  have hR : refR [] lo hi = none := refR_nil lo hi
  have hsk : seek [] lo hi = none := rfl
  refine AC.pure Tryz.func9 rfl (by kernel_rfl) rfl [0, 2, 4, 10, 12, 13, 15, 23, 24, 25, 130, 131, 132, 228, 229, 230] rfl ?_
  refine E.seq ?_
  refine E.reg hr (by simp; rfl) ?_ -- region 0
  refine E.seq ?_
  refine E.seq ?_
  refine E.drawC mixed hr [0, 4, 16, 17, 18] [0, 4, 14, 16, 17, 18] [0, 4, 14, 16, 17, 18] (by kernel_rfl) (by simp [g15, g44, g50, gBnd, g94, intsAt, intsOf, yieldedA, hE, hre, flat, pksR]; rfl) ?_ -- region 1
  refine E.cond (t := false) (by simp) (fun h => by cases h) (fun _ => ?_)
  refine E.skip ?_
  refine E.seq ?_
  refine E.drawC mixed hr [9] [1, 3, 8, 9] [1, 3, 9] (by kernel_rfl) (by simp [g46, g45, prA, prB, pksR, pksP, hre, hR]; rfl) ?_ -- region 3
  refine E.seq ?_
  refine E.drawC mixed hr [3] [1, 3] [1, 3] (by kernel_rfl) (by simp [g46, g47, pksR, pksP, hre, hsk]; rfl) ?_ -- region 4
  refine E.seq ?_
  refine E.drawC mixed hr [5] [1, 4, 5] [1, 4, 5] (by kernel_rfl) (by simp [g46, g34, g48b, g48, pksR, pksN, intsW, intsM]; rfl) ?_ -- region 5
  refine E.seq ?_
  refine E.seq ?_
  refine E.reg hr (by simp [yieldedA]; rfl) ?_ -- region 6
  refine E.cond (t := false) (by simp) (fun h => by cases h) (fun _ => ?_)
  refine E.skip ?_
  refine E.seq ?_
  refine E.seq ?_
  refine E.reg hr (by simp; rfl) ?_ -- region 8
  refine E.cond (t := false) (by simp) (fun h => by cases h) (fun _ => ?_)
  refine E.skip ?_
  have hcy : cmE [] lo hi [] = 0 := by rw [← cmE_good hre]; rfl
  have hly : layE [] [] = 0 := rfl
  refine E.seq ?_
  refine E.seq ?_
  refine E.drawC mixed hr [11] [7, 10, 11] [7, 10, 11] (by kernel_rfl) (by simp [yieldedA, g46, g34, g48b, g48, hcy, flat, pksR, pksN, intsW, intsM, intsAt, intsOf]; rfl) ?_ -- region 10
  refine E.cond (t := false) (by simp) (fun h => by cases h) (fun _ => ?_)
  refine E.skip ?_
  refine E.seq ?_
  refine E.reg hr (by simp [g46, g34, g49, hly, flat, pksR, pksN, intsW, intsM, intsAt, intsOf]; rfl) ?_ -- region 12
  refine E.seq ?_
  refine E.seq ?_
  refine E.reg hr (by simp [yieldedA]; rfl) ?_ -- region 13
  refine E.cond (t := false) (by simp) (fun h => by cases h) (fun _ => ?_)
  refine E.skip ?_
  refine E.seq ?_
  refine E.reg hr (by simp; rfl) ?_ -- region 15
  refine E.seq ?_
  refine E.seq ?_
  refine E.reg hr (by simp; rfl) ?_ -- region 16
  refine E.block ?_ -- 0
  refine E.loop ?_
  refine EL.step ?_
  refine E.seq ?_
  refine E.reg hr (by simp; rfl) ?_ -- region 17
  refine E.seq ?_
  refine E.cond (t := false) (by simp) (fun h => by cases h) (fun _ => ?_)
  refine E.exit ?_ -- 0
  have hwl : IntKind.i64.wrap (lo - 1) = lo - 1 := W_in (by omega) (by omega)
  have hwh : IntKind.i64.wrap (hi + 1) = hi + 1 := W_in (by omega) (by omega)
  have hwf : refE [] (max 1 (lo - 1)) (min 1000000000 (hi + 1)) = 0 := refE_of rfl hb.wide
  have hwr : refR [] (max 1 (lo - 1)) (min 1000000000 (hi + 1)) = none := refR_nil _ _
  refine E.seq ?_
  refine E.drawC mixed hr [17] [1, 11, 16, 17] [1, 11, 17] (by kernel_rfl) (by simp [g46, g45, prA, prB, max33, min33, hwl, hwh, build74 (a := max 1 (lo - 1)) (b := min 1000000000 (hi + 1)), flat, pksR, pksAt, pksP, pksOf, hwf, hwr]; rfl) ?_ -- region 28
  refine E.seq ?_
  refine E.seq ?_
  refine E.reg hr (by simp [yieldedA]; rfl) ?_ -- region 29
  refine E.cond (t := false) (by simp) (fun h => by cases h) (fun _ => ?_)
  refine E.skip ?_
  refine E.lead { fr := [(2, .slice none 0 0), (4, .pointer (some ⟨9, 0, none⟩))], sz := 279, H := ((9, .cells [iv lo, iv hi] 74) :: G0 : Heap), n := 10, marks := [], vs := [0, 2, 4, 10, 12, 13, 15, 23, 24, 25, 130, 131, 132, 228, 229, 230] } (Leads.ren [9] rfl rfl rfl ⟨rfl, rfl⟩ (by simp) (by simp)) ?_
  refine E.seq ?_
  refine E.reg hr (by simp; rfl) ?_ -- region 31
  refine E.seq ?_
  refine E.reg hr (by simp; rfl) ?_ -- region 32
  refine E.seq ?_
  refine E.reg hr (by simp; rfl) ?_ -- region 33
  refine E.seq ?_
  refine E.seq ?_
  refine E.reg hr (by simp; rfl) ?_ -- region 34
  refine E.block ?_ -- 2
  refine E.loop ?_
  have hz : cm0 [] lo hi [] = 0 := by simp [cm0, firstV, whenV, bndE_of hb, pksE_nil]
  refine EL.step ?_
  refine E.seq ?_
  refine E.reg hr (by simp; rfl) ?_ -- region 35
  refine E.seq ?_
  refine E.cond (t := false) (by simp) (fun h => by cases h) (fun _ => ?_)
  refine E.exit ?_ -- 2
  refine E.seq ?_
  refine E.seq ?_
  refine E.reg hr (by simp [g50, g94, intsAt, intsOf, flat, pksR, pksE_nil, firstV]; rfl) ?_ -- region 42
  refine E.cond (t := false) (by simp) (fun h => by cases h) (fun _ => ?_)
  refine E.skip ?_
  refine E.seq ?_
  refine E.drawC mixed hr [4] [1, 4] [1, 4] (by kernel_rfl) (by simp [g46, pksR, g48b, hz]; rfl) ?_ -- region 44
  refine E.ret ?_
  exact pureK.ret rfl rfl (by simp) (by repeat first | exact sub_refl _ | refine sub_cons rfl ?_)
set_option maxHeartbeats 2000000 in
set_option maxRecDepth 20000 in
theorem w9ne (o2 c2 : Nat) (lo hi : Int) (hre : refE [] lo hi = 0) : AC Tryz.prog 9 [.slice none 0 0, ivl lo hi, inpM 9 o2 0 c2] ((9, .inp o2 []) :: G0 : Heap) 10 (.bool true) ((9, .inp o2 []) :: G0 : Heap) 10 := by
  have hr := recT_ok (P := Tryz.prog) (l := [(15, g15), (44, g44), (46, g46), (45, g45), (47, g47), (34, g34), (48, g48b), (49, g49), (50, g50), (51, gBnd), (27, g94)]) (by simp [ok15, ok44, ok46, ok45, ok47, ok34, ok48b, ok49, ok50, ok51, ok27])
  have hb : BndIn lo hi := (refE_ok hre).2.2
  have hbk := hb
  obtain ⟨b1, b2, b3, b4, b5⟩ := hbk
  have hE : firstV [pksE [], bndE lo hi] = refE [] lo hi := rfl
  have hR : refR [] lo hi = none := refR_nil lo hi
  have hsk : seek [] lo hi = none := rfl
  refine AC.pure Tryz.func9 rfl (by kernel_rfl) rfl [0, 2, 4, 10, 12, 13, 15, 23, 24, 25, 130, 131, 132, 228, 229, 230] rfl ?_
  refine E.seq ?_
  refine E.reg hr (by simp; rfl) ?_ -- region 0
  refine E.seq ?_
  refine E.seq ?_
  refine E.drawC mixed hr [0, 4, 16, 17, 18] [0, 4, 14, 16, 17, 18] [0, 4, 14, 16, 17, 18] (by kernel_rfl) (by simp [g15, g44, g50, gBnd, g94, intsAt, intsOf, yieldedA, hE, hre, flat, pksR]; rfl) ?_ -- region 1
  refine E.cond (t := false) (by simp) (fun h => by cases h) (fun _ => ?_)
  refine E.skip ?_
  refine E.seq ?_
  refine E.drawC mixed hr [9] [1, 3, 8, 9] [1, 3, 9] (by kernel_rfl) (by simp [g46, g45, prA, prB, pksR, pksP, hre, hR]; rfl) ?_ -- region 3
  refine E.seq ?_
  refine E.drawC mixed hr [3] [1, 3] [1, 3] (by kernel_rfl) (by simp [g46, g47, pksR, pksP, hre, hsk]; rfl) ?_ -- region 4
  refine E.seq ?_
  refine E.drawC mixed hr [5] [1, 4, 5] [1, 4, 5] (by kernel_rfl) (by simp [g46, g34, g48b, g48, flat, pksR, pksN, intsW, intsM, intsAt, intsOf]; rfl) ?_ -- region 5
  refine E.seq ?_
  refine E.seq ?_
  refine E.reg hr (by simp [yieldedA]; rfl) ?_ -- region 6
  refine E.cond (t := false) (by simp) (fun h => by cases h) (fun _ => ?_)
  refine E.skip ?_
  refine E.seq ?_
  refine E.seq ?_
  refine E.reg hr (by simp; rfl) ?_ -- region 8
  refine E.cond (t := false) (by simp) (fun h => by cases h) (fun _ => ?_)
  refine E.skip ?_
  have hcy : cmE [] lo hi [] = 0 := by rw [← cmE_good hre]; rfl
  have hly : layE [] [] = 0 := rfl
  refine E.seq ?_
  refine E.seq ?_
  refine E.drawC mixed hr [11] [7, 10, 11] [7, 10, 11] (by kernel_rfl) (by simp [yieldedA, g46, g34, g48b, g48, hcy, flat, pksR, pksN, intsW, intsM, intsAt, intsOf]; rfl) ?_ -- region 10
  refine E.cond (t := false) (by simp) (fun h => by cases h) (fun _ => ?_)
  refine E.skip ?_
  refine E.seq ?_
  refine E.reg hr (by simp [g46, g34, g49, hly, flat, pksR, pksN, intsW, intsM, intsAt, intsOf]; rfl) ?_ -- region 12
  refine E.seq ?_
  refine E.seq ?_
  refine E.reg hr (by simp [yieldedA]; rfl) ?_ -- region 13
  refine E.cond (t := false) (by simp) (fun h => by cases h) (fun _ => ?_)
  refine E.skip ?_
  refine E.seq ?_
  refine E.reg hr (by simp; rfl) ?_ -- region 15
  refine E.seq ?_
  refine E.seq ?_
  refine E.reg hr (by simp; rfl) ?_ -- region 16
  refine E.block ?_ -- 0
  refine E.loop ?_
  refine EL.step ?_
  refine E.seq ?_
  refine E.reg hr (by simp; rfl) ?_ -- region 17
  refine E.seq ?_
  refine E.cond (t := false) (by simp) (fun h => by cases h) (fun _ => ?_)
  refine E.exit ?_ -- 0
  have hwl : IntKind.i64.wrap (lo - 1) = lo - 1 := W_in (by omega) (by omega)
  have hwh : IntKind.i64.wrap (hi + 1) = hi + 1 := W_in (by omega) (by omega)
  have hwf : refE [] (max 1 (lo - 1)) (min 1000000000 (hi + 1)) = 0 := refE_of rfl hb.wide
  have hwr : refR [] (max 1 (lo - 1)) (min 1000000000 (hi + 1)) = none := refR_nil _ _
  refine E.seq ?_
  refine E.drawC mixed hr [17] [1, 11, 16, 17] [1, 11, 17] (by kernel_rfl) (by simp [g46, g45, prA, prB, max33, min33, hwl, hwh, build74 (a := max 1 (lo - 1)) (b := min 1000000000 (hi + 1)), flat, pksR, pksAt, pksP, pksOf, hwf, hwr]; rfl) ?_ -- region 28
  refine E.seq ?_
  refine E.seq ?_
  refine E.reg hr (by simp [yieldedA]; rfl) ?_ -- region 29
  refine E.cond (t := false) (by simp) (fun h => by cases h) (fun _ => ?_)
  refine E.skip ?_
  refine E.lead { fr := [(2, inpM 9 o2 0 c2), (4, .pointer (some ⟨10, 0, none⟩))], sz := 279, H := ((10, .cells [iv lo, iv hi] 74) :: (9, .inp o2 []) :: G0 : Heap), n := 11, marks := [], vs := [0, 2, 4, 10, 12, 13, 15, 23, 24, 25, 130, 131, 132, 228, 229, 230] } (Leads.ren [10] rfl rfl rfl ⟨rfl, rfl⟩ (by simp) (by simp)) ?_
  refine E.seq ?_
  refine E.reg hr (by simp; rfl) ?_ -- region 31
  refine E.seq ?_
  refine E.reg hr (by simp; rfl) ?_ -- region 32
  refine E.seq ?_
  refine E.reg hr (by simp; rfl) ?_ -- region 33
  refine E.seq ?_
  refine E.seq ?_
  refine E.reg hr (by simp; rfl) ?_ -- region 34
  refine E.block ?_ -- 2
  refine E.loop ?_
  have hz : cm0 [] lo hi [] = 0 := by simp [cm0, firstV, whenV, bndE_of hb, pksE_nil]
  refine EL.step ?_
  refine E.seq ?_
  refine E.reg hr (by simp; rfl) ?_ -- region 35
  refine E.seq ?_
  refine E.cond (t := false) (by simp) (fun h => by cases h) (fun _ => ?_)
  refine E.exit ?_ -- 2
  refine E.seq ?_
  refine E.seq ?_
  refine E.reg hr (by simp [g50, g94, intsAt, intsOf, flat, pksR, pksE_nil, firstV]; rfl) ?_ -- region 42
  refine E.cond (t := false) (by simp) (fun h => by cases h) (fun _ => ?_)
  refine E.skip ?_
  refine E.seq ?_
  refine E.drawC mixed hr [4] [1, 4] [1, 4] (by kernel_rfl) (by simp [g46, pksR, g48b, hz]; rfl) ?_ -- region 44
  refine E.ret ?_
  exact pureK.ret rfl rfl (by simp) (by repeat first | exact sub_refl _ | refine sub_cons rfl ?_)
set_option maxHeartbeats 2000000 in
set_option maxRecDepth 20000 in
theorem w9nm (ms : List Int) (o2 c2 : Nat) (lo hi : Int) (hre : refE [] lo hi = 0) (hmn : ms ≠ []) (h8 : ms.length ≤ 8) : AC Tryz.prog 9 [.slice none 0 0, ivl lo hi, inpM 9 o2 ms.length c2] ((9, .inp o2 (ms.map iv)) :: G0 : Heap) 10 (.bool true) ((9, .inp o2 (ms.map iv)) :: G0 : Heap) 10 := by
  have hr := recT_ok (P := Tryz.prog) (l := [(15, g15), (44, g44), (46, g46), (45, g45), (47, g47), (34, g34), (48, g48b), (49, g49), (50, g50), (51, gBnd), (27, g94)]) (by simp [ok15, ok44, ok46, ok45, ok47, ok34, ok48b, ok49, ok50, ok51, ok27])
  have hb : BndIn lo hi := (refE_ok hre).2.2
  have hbk := hb
  obtain ⟨b1, b2, b3, b4, b5⟩ := hbk
  have hE : firstV [pksE [], bndE lo hi] = refE [] lo hi := rfl
  have hR : refR [] lo hi = none := refR_nil lo hi
  have hsk : seek [] lo hi = none := rfl
  have hm' : ms.length < 2147483648 := by omega
  have hm4 : ms.length ≤ 4096 := by omega
  have h8I : ¬ (8 : Int) < (ms.length : Int) := by omega
  have htm : List.take ms.length (ms.map iv) = ms.map iv := List.take_of_length_le (by simp)
  refine AC.pure Tryz.func9 rfl (by kernel_rfl) rfl [0, 2, 4, 10, 12, 13, 15, 23, 24, 25, 130, 131, 132, 228, 229, 230] rfl ?_
  refine E.seq ?_
  refine E.reg hr (by simp; rfl) ?_ -- region 0
  refine E.seq ?_
  refine E.seq ?_
  refine E.drawC mixed hr [0, 4, 16, 17, 18] [0, 4, 14, 16, 17, 18] [0, 4, 14, 16, 17, 18] (by kernel_rfl) (by simp [g15, g44, g50, gBnd, g94, intsAt, intsOf, yieldedA, hE, hre, flat, pksR, h8I]; rfl) ?_ -- region 1
  refine E.cond (t := false) (by simp) (fun h => by cases h) (fun _ => ?_)
  refine E.skip ?_
  refine E.seq ?_
  refine E.drawC mixed hr [9] [1, 3, 8, 9] [1, 3, 9] (by kernel_rfl) (by simp [g46, g45, prA, prB, pksR, pksP, hre, hR]; rfl) ?_ -- region 3
  refine E.seq ?_
  refine E.drawC mixed hr [3] [1, 3] [1, 3] (by kernel_rfl) (by simp [g46, g47, pksR, pksP, hre, hsk]; rfl) ?_ -- region 4
  refine E.seq ?_
  refine E.drawC mixed hr [5] [1, 4, 5] [1, 4, 5] (by kernel_rfl) (by simp [g46, g34, g48b, g48, flat, pksR, pksN, rowOf, intsW, intsM, intsAt, rowIntsN, rowInts, intsOf_iv, hm', hm4, htm, hmn]; rfl) ?_ -- region 5
  refine E.seq ?_
  refine E.seq ?_
  refine E.reg hr (by simp [yieldedA]; rfl) ?_ -- region 6
  refine E.cond (t := false) (by simp) (fun h => by cases h) (fun _ => ?_)
  refine E.skip ?_
  refine E.seq ?_
  refine E.seq ?_
  refine E.reg hr (by simp; rfl) ?_ -- region 8
  refine E.cond (t := false) (by simp) (fun h => by cases h) (fun _ => ?_)
  refine E.skip ?_
  have hcy : cmE [] lo hi [] = 0 := by rw [← cmE_good hre]; rfl
  have hly : layE [] [] = 0 := rfl
  refine E.seq ?_
  refine E.seq ?_
  refine E.drawC mixed hr [11] [7, 10, 11] [7, 10, 11] (by kernel_rfl) (by simp [yieldedA, g46, g34, g48b, g48, hcy, flat, pksR, pksN, intsW, intsM, intsAt, intsOf]; rfl) ?_ -- region 10
  refine E.cond (t := false) (by simp) (fun h => by cases h) (fun _ => ?_)
  refine E.skip ?_
  refine E.seq ?_
  refine E.reg hr (by simp [g46, g34, g49, hly, flat, pksR, pksN, intsW, intsM, intsAt, intsOf]; rfl) ?_ -- region 12
  refine E.seq ?_
  refine E.seq ?_
  refine E.reg hr (by simp [yieldedA]; rfl) ?_ -- region 13
  refine E.cond (t := false) (by simp) (fun h => by cases h) (fun _ => ?_)
  refine E.skip ?_
  refine E.seq ?_
  refine E.reg hr (by simp; rfl) ?_ -- region 15
  refine E.seq ?_
  refine E.seq ?_
  refine E.reg hr (by simp; rfl) ?_ -- region 16
  refine E.block ?_ -- 0
  refine E.loop ?_
  refine EL.step ?_
  refine E.seq ?_
  refine E.reg hr (by simp; rfl) ?_ -- region 17
  refine E.seq ?_
  refine E.cond (t := false) (by simp) (fun h => by cases h) (fun _ => ?_)
  refine E.exit ?_ -- 0
  have hwl : IntKind.i64.wrap (lo - 1) = lo - 1 := W_in (by omega) (by omega)
  have hwh : IntKind.i64.wrap (hi + 1) = hi + 1 := W_in (by omega) (by omega)
  have hwf : refE [] (max 1 (lo - 1)) (min 1000000000 (hi + 1)) = 0 := refE_of rfl hb.wide
  have hwr : refR [] (max 1 (lo - 1)) (min 1000000000 (hi + 1)) = none := refR_nil _ _
  refine E.seq ?_
  refine E.drawC mixed hr [17] [1, 11, 16, 17] [1, 11, 17] (by kernel_rfl) (by simp [g46, g45, prA, prB, max33, min33, hwl, hwh, build74 (a := max 1 (lo - 1)) (b := min 1000000000 (hi + 1)), flat, pksR, pksAt, pksP, pksOf, hwf, hwr]; rfl) ?_ -- region 28
  refine E.seq ?_
  refine E.seq ?_
  refine E.reg hr (by simp [yieldedA]; rfl) ?_ -- region 29
  refine E.cond (t := false) (by simp) (fun h => by cases h) (fun _ => ?_)
  refine E.skip ?_
  refine E.lead { fr := [(2, inpM 9 o2 ms.length c2), (4, .pointer (some ⟨10, 0, none⟩))], sz := 279, H := ((10, .cells [iv lo, iv hi] 74) :: (9, .inp o2 (ms.map iv)) :: G0 : Heap), n := 11, marks := [], vs := [0, 2, 4, 10, 12, 13, 15, 23, 24, 25, 130, 131, 132, 228, 229, 230] } (Leads.ren [10] rfl rfl rfl ⟨rfl, rfl⟩ (by simp) (by simp)) ?_
  refine E.seq ?_
  refine E.reg hr (by simp; rfl) ?_ -- region 31
  refine E.seq ?_
  refine E.reg hr (by simp; rfl) ?_ -- region 32
  refine E.seq ?_
  refine E.reg hr (by simp; rfl) ?_ -- region 33
  refine E.seq ?_
  refine E.seq ?_
  refine E.reg hr (by simp; rfl) ?_ -- region 34
  refine E.block ?_ -- 2
  refine E.loop ?_
  refine EL.ind (fun i : Nat => match i with
    | 0 => { fr := [(2, inpM 9 o2 ms.length c2), (4, .pointer (some ⟨10, 0, none⟩)), (23, .slice none 0 0), (24, .slice none 0 0), (25, iv 0), (228, inpM 9 o2 ms.length c2), (229, iv ms.length), (230, iv 0)], sz := 279, H := ((10, .cells [iv lo, iv hi] 74) :: (9, .inp o2 (ms.map iv)) :: G0 : Heap), n := 11, marks := [], vs := [0, 2, 4, 10, 12, 13, 15, 23, 24, 25, 130, 131, 132, 228, 229, 230] }
    | i + 1 => { fr := [(2, inpM 9 o2 ms.length c2), (4, .pointer (some ⟨10, 0, none⟩)), (23, .slice (some ⟨11, 0, some 0⟩) (i + 1) 0), (24, .slice (some ⟨12, 0, some 0⟩) (i + 1) 0), (25, iv (tot lo hi ms (i + 1))), (228, inpM 9 o2 ms.length c2), (229, iv ms.length), (230, iv (i + 1 : Nat))], sz := 279, H := ((12, .ext (ic (totT lo hi ms (i + 1))) 3 1) :: (11, .ext (pcs (exT lo hi ms (i + 1))) 100 3) :: (10, .cells [iv lo, iv hi] 74) :: (9, .inp o2 (ms.map iv)) :: G0 : Heap), n := 13, marks := [], vs := [0, 2, 4, 10, 12, 13, 15, 23, 24, 25, 130, 131, 132, 228, 229, 230] }) (fun i => ms.length - i) (fun i => i ≤ ms.length) 0 (.less rfl rfl rfl (by simp) (by simp)) (Nat.zero_le _) (fun i => by cases i <;> rfl) ?_
  intro i hi0
  have c0 : IntKind.i64.wrap (hi - lo) = hi - lo := W_in (by omega) (by omega)
  have c1 : IntKind.i64.wrap (hi - lo + 1) = hi - lo + 1 := W_in (by omega) (by omega)
  have c2' : IntKind.u64.wrap (hi - lo + 1) = hi - lo + 1 := u64_small (by omega) (by omega)
  have c3 : hi - lo + 1 ≠ 0 := by omega
  have hmod : ∀ m : Int, 0 ≤ (IntKind.u64.wrap m).tmod (hi - lo + 1) ∧ (IntKind.u64.wrap m).tmod (hi - lo + 1) ≤ hi - lo := fun m => by have := stp_in b5 m; unfold stp at this; omega
  have c4 : ∀ m : Int, IntKind.i64.wrap ((IntKind.u64.wrap m).tmod (hi - lo + 1)) = (IntKind.u64.wrap m).tmod (hi - lo + 1) := fun m => by have := hmod m; exact W_in (by omega) (by omega)
  have c5 : ∀ m : Int, IntKind.i64.wrap (lo + (IntKind.u64.wrap m).tmod (hi - lo + 1)) = stp lo hi m := fun m => by have := hmod m; exact W_in (by omega) (by omega)
  rcases i with _ | i
  · have hio : 0 < ms.length := List.length_pos_iff.2 hmn
    have hw : IntKind.i64.wrap 1 = 1 := W_in (by omega) (by omega)
    have ti := tot_in b5 ms 1
    have s0 := stp_in b5 ms[0]
    have c6 : IntKind.i64.wrap (stp lo hi ms[0]) = tot lo hi ms 1 := by
      rw [W_in (by omega) (by omega)]
      simp [tot, List.getElem?_eq_getElem hio]
    have htT : ic (totT lo hi ms 1) = [iv (tot lo hi ms 1)] := rfl
    have heT : pcs (exT lo hi ms 1) = [iv 1, iv (max 1 (tot lo hi ms 1)), iv 1] := by
      show pcs [exP lo hi ms 0] = _
      simp [pcs, Pk.cells, exP]
    have c7 : IntKind.i64.wrap (tot lo hi ms 1) = tot lo hi ms 1 := W_in (by omega) (by omega)
    refine E.seq ?_
    refine E.reg hr (by simp; rfl) ?_ -- region 35
    refine E.seq ?_
    refine E.cond (t := true) (by simp <;> omega) (fun _ => ?_) (fun h => by cases h)
    refine E.skip ?_
    refine E.seq ?_
    refine E.block ?_ -- 3
    refine E.seq ?_
    refine E.reg hr (by simp [hio]; rfl) ?_ -- region 36
    refine E.seq ?_
    refine E.drawC mixed hr [] [] [2, 4, 6, 8, 11, 13] (by kernel_rfl) (by simp [opConvert, c0, c1, c2', rem_u64 c3, c4, c5, c6]; rfl) ?_ -- region 37
    refine E.seq ?_
    refine E.reg hr (by simp; rfl) ?_ -- region 38
    refine E.seq ?_
    refine E.reg hr (by simp [hw, bin_quo (show (1 : Int) ≠ 0 by omega), Int.tdiv_one, c7, max33]; rfl) ?_ -- region 39
    refine E.reg hr (by simp [hw, build100c (a := 1) (b := max 1 (tot lo hi ms 1))]; rfl) ?_ -- region 40
    refine E.reg hr (by simp [hw]; rfl) ?_ -- region 41
    exact ⟨1, Leads.ren [10, 14, 12] rfl rfl rfl ⟨rfl, rfl⟩ (by simp) (by simp [htT, heT]), by omega, by dsimp only; omega⟩
  · have hw : IntKind.i64.wrap ((i : Int) + 1 + 1) = (i : Int) + 1 + 1 := W_in (by omega) (by omega)
    refine E.seq ?_
    refine E.reg hr (by simp; rfl) ?_ -- region 35
    refine E.seq ?_
    by_cases hio : i + 1 < ms.length
    · have hiI : (i : Int) + 1 < (ms.length : Int) := by omega
      have ti := tot_in b5 ms (i + 1 + 1)
      have s0 := stp_in b5 ms[i + 1]
      have e0 : tot lo hi ms (i + 1) + stp lo hi ms[i + 1] = tot lo hi ms (i + 1 + 1) := by
        conv => rhs; rw [tot]
        simp [List.getElem?_eq_getElem hio]
      have tB : -100000000000 ≤ tot lo hi ms (i + 1 + 1) ∧ tot lo hi ms (i + 1 + 1) ≤ 100000000000 := tot_small hb (by omega)
      have c6 : IntKind.i64.wrap (tot lo hi ms (i + 1) + stp lo hi ms[i + 1]) = tot lo hi ms (i + 1 + 1) := by
        rw [e0, W_in (by omega) (by omega)]
      have c7 : IntKind.i64.wrap ((tot lo hi ms (i + 1 + 1)).tdiv ((i : Int) + 1 + 1)) = (tot lo hi ms (i + 1 + 1)).tdiv ((i : Int) + 1 + 1) := tdiv_bound (by omega) ⟨by omega, by omega⟩
      have c8 : (i : Int) + 1 + 1 ≠ 0 := by omega
      have htk : List.take (i + 1) (ic (totT lo hi ms (i + 1))) = ic (totT lo hi ms (i + 1)) := ic_take (by simp)
      have htp : List.take ((i + 1) * 3) (pcs (exT lo hi ms (i + 1))) = pcs (exT lo hi ms (i + 1)) := List.take_of_length_le (by simp)
      have hsm : (i + 1 + 1) * 8 ≤ 1099511627776 ∧ i + 1 + 1 ≤ 1099511627776 := by omega
      have hsp : (i + 1 + 1) * 24 ≤ 1099511627776 ∧ (i + 1 + 1) * 3 ≤ 1099511627776 ∧ i + 1 + 1 ≤ 1099511627776 := by omega
      have hno : ¬ (i + 1 + 1) * 3 ≤ (i + 1) * 3 := by omega
      have hsn := ic_snoc (totT lo hi ms (i + 1)) (tot lo hi ms (i + 1 + 1))
      rw [totT_succ] at hsn
      have hsq : pcs (exT lo hi ms (i + 1)) ++ [iv ((i : Int) + 1 + 1), iv (max 1 ((tot lo hi ms (i + 1 + 1)).tdiv ((i : Int) + 1 + 1))), iv 1] = pcs (exT lo hi ms (i + 1 + 1)) := by
        rw [← exT_succ lo hi ms (i + 1), pcs_append]
        congr 1
      refine E.cond (t := true) (by simp; omega) (fun _ => ?_) (fun h => by cases h)
      refine E.skip ?_
      refine E.seq ?_
      refine E.block ?_ -- 3
      refine E.seq ?_
      refine E.reg hr (by simp [hio, hiI]; rfl) ?_ -- region 36
      refine E.seq ?_
      refine E.drawC mixed hr [] [] [2, 4, 6, 8, 11, 13] (by kernel_rfl) (by simp [opConvert, c0, c1, c2', rem_u64 c3, c4, c5, c6]; rfl) ?_ -- region 37
      refine E.seq ?_
      refine E.reg hr (by simp [htk, hsm, hsn]; rfl) ?_ -- region 38
      refine E.seq ?_
      refine E.reg hr (by simp [hw, bin_quo c8, c7, max33]; rfl) ?_ -- region 39
      refine E.reg hr (by simp [hw, build100c (a := (i : Int) + 1 + 1) (b := max 1 ((tot lo hi ms (i + 1 + 1)).tdiv ((i : Int) + 1 + 1))), htp, hsp, hno, hsq]; rfl) ?_ -- region 40
      refine E.reg hr (by simp [hw]; rfl) ?_ -- region 41
      exact ⟨i + 1 + 1, Leads.ren [10, 16, 14] rfl rfl rfl ⟨rfl, rfl⟩ (by simp) (by simp), by omega, by dsimp only; omega⟩
    · have hll : ms.length = i + 1 := by omega
      have hex : exT lo hi ms (i + 1) = exL lo hi ms := by rw [← hll]; rfl
      have htt : totT lo hi ms (i + 1) = totL lo hi ms := by rw [← hll]; rfl
      have htk : List.take (i + 1) (ic (totL lo hi ms)) = ic (totL lo hi ms) := ic_take (by simp [hll])
      have htp : List.take ((i + 1) * 3) (pcs (exL lo hi ms)) = pcs (exL lo hi ms) := List.take_of_length_le (by simp [hll])
      have hF : firstV [pksE (exL lo hi ms)] = pksE (exL lo hi ms) := by by_cases h : pksE (exL lo hi ms) = 0 <;> simp [firstV, h]
      have hi9 : i + 1 < 9223372036854775808 ∧ i + 1 < 2147483648 ∧ i + 1 ≤ 4096 := by omega
      have hnx : exL lo hi ms ≠ [] := fun e => hmn (List.length_eq_zero_iff.1 (by rw [← exL_length lo hi ms, e]; rfl))
      have hnt : totL lo hi ms ≠ [] := fun e => hmn (List.length_eq_zero_iff.1 (by rw [← totL_length lo hi ms, e]; rfl))
      refine E.cond (t := false) (by simp; omega) (fun h => by cases h) (fun _ => ?_)
      refine E.exit ?_ -- 2
      refine E.seq ?_
      refine E.seq ?_
      refine E.reg hr (by simp [g50, g94, intsAt, intsOf, flat, pksR, pksAt, hex, htp, pksOf_pcs, hF, hi9, hll]; rfl) ?_ -- region 42
      by_cases hpx : pksE (exL lo hi ms) = 0
      · have hcx := ex_cmE hb hpx
        refine E.cond (t := false) (by simp [hpx]) (fun h => by cases h) (fun _ => ?_)
        refine E.skip ?_
        refine E.seq ?_
        refine E.drawC mixed hr [4] [1, 4] [1, 4] (by kernel_rfl) (by simp [g46, g48b, g48, pksR, pksAt, pksN, flat, htt, htp, pksOf_pcs, hi9, hll, hnx, hnt, rowPks, rowOf, intsM, rowIntsN, rowInts, intsOf_ic, hcx]; rfl) ?_ -- region 44
        refine E.ret ?_
        exact pureK.ret rfl rfl (by simp) (by repeat first | exact sub_refl _ | refine sub_cons rfl ?_)
      · refine E.cond (t := true) (by simp [hpx]) (fun _ => ?_) (fun h => by cases h)
        refine E.seq ?_
        refine E.reg hr (by simp; rfl) ?_ -- region 43
        refine E.ret ?_
        exact pureK.ret rfl rfl (by simp) (by repeat first | exact sub_refl _ | refine sub_cons rfl ?_)
set_option maxHeartbeats 2000000 in
set_option maxRecDepth 20000 in
theorem w9en (o c : Nat) (lo hi : Int) (hre : refE [] lo hi = 0) : AC Tryz.prog 9 [inpV o 0 c, ivl lo hi, .slice none 0 0] ((9, .inp o []) :: G0 : Heap) 10 (.bool true) ((9, .inp o []) :: G0 : Heap) 10 := by
  have hr := recT_ok (P := Tryz.prog) (l := [(15, g15), (44, g44), (46, g46), (45, g45), (47, g47), (34, g34), (48, g48b), (49, g49), (50, g50), (51, gBnd), (27, g94)]) (by simp [ok15, ok44, ok46, ok45, ok47, ok34, ok48b, ok49, ok50, ok51, ok27])
  have hb : BndIn lo hi := (refE_ok hre).2.2
  have hbk := hb
  obtain ⟨b1, b2, b3, b4, b5⟩ := hbk
  have hE : firstV [pksE [], bndE lo hi] = refE [] lo hi := rfl
  have hR : refR [] lo hi = none := refR_nil lo hi
  have hsk : seek [] lo hi = none := rfl
  refine AC.pure Tryz.func9 rfl (by kernel_rfl) rfl [0, 2, 4, 10, 12, 13, 15, 23, 24, 25, 130, 131, 132, 228, 229, 230] rfl ?_
  refine E.seq ?_
  refine E.reg hr (by simp; rfl) ?_ -- region 0
  refine E.seq ?_
  refine E.seq ?_
  refine E.drawC mixed hr [0, 4, 16, 17, 18] [0, 4, 14, 16, 17, 18] [0, 4, 14, 16, 17, 18] (by kernel_rfl) (by simp [g15, g44, g50, gBnd, g94, intsAt, intsOf, yieldedA, hE, hre, flat, pksR, pksAt, pksOf, shortK]; rfl) ?_ -- region 1
  refine E.cond (t := false) (by simp) (fun h => by cases h) (fun _ => ?_)
  refine E.skip ?_
  refine E.seq ?_
  refine E.drawC mixed hr [9] [1, 3, 8, 9] [1, 3, 9] (by kernel_rfl) (by simp [g46, g45, prA, prB, flat, pksR, pksAt, pksP, pksOf, hre, hR]; rfl) ?_ -- region 3
  refine E.seq ?_
  refine E.drawC mixed hr [3] [1, 3] [1, 3] (by kernel_rfl) (by simp [g46, g47, flat, pksR, pksAt, pksP, pksOf, hre, hsk]; rfl) ?_ -- region 4
  refine E.seq ?_
  refine E.drawC mixed hr [5] [1, 4, 5] [1, 4, 5] (by kernel_rfl) (by simp [g46, g34, g48b, g48, flat, pksR, pksAt, pksN, pksOf, intsW, intsM]; rfl) ?_ -- region 5
  refine E.seq ?_
  refine E.seq ?_
  refine E.reg hr (by simp [yieldedA]; rfl) ?_ -- region 6
  refine E.cond (t := false) (by simp) (fun h => by cases h) (fun _ => ?_)
  refine E.skip ?_
  refine E.seq ?_
  refine E.seq ?_
  refine E.reg hr (by simp; rfl) ?_ -- region 8
  refine E.cond (t := false) (by simp) (fun h => by cases h) (fun _ => ?_)
  refine E.skip ?_
  have hcy : cmE [] lo hi [] = 0 := by rw [← cmE_good hre]; rfl
  have hly : layE [] [] = 0 := rfl
  refine E.seq ?_
  refine E.seq ?_
  refine E.drawC mixed hr [11] [7, 10, 11] [7, 10, 11] (by kernel_rfl) (by simp [yieldedA, g46, g34, g48b, g48, hcy, flat, pksR, pksAt, pksN, pksOf, intsW, intsM, intsAt, intsOf]; rfl) ?_ -- region 10
  refine E.cond (t := false) (by simp) (fun h => by cases h) (fun _ => ?_)
  refine E.skip ?_
  refine E.seq ?_
  refine E.reg hr (by simp [g46, g34, g49, hly, flat, pksR, pksAt, pksN, pksOf, intsW, intsM, intsAt, intsOf]; rfl) ?_ -- region 12
  refine E.seq ?_
  refine E.seq ?_
  refine E.reg hr (by simp [yieldedA]; rfl) ?_ -- region 13
  refine E.cond (t := false) (by simp) (fun h => by cases h) (fun _ => ?_)
  refine E.skip ?_
  refine E.seq ?_
  refine E.reg hr (by simp; rfl) ?_ -- region 15
  refine E.seq ?_
  refine E.seq ?_
  refine E.reg hr (by simp; rfl) ?_ -- region 16
  refine E.block ?_ -- 0
  refine E.loop ?_
  refine EL.step ?_
  refine E.seq ?_
  refine E.reg hr (by simp; rfl) ?_ -- region 17
  refine E.seq ?_
  refine E.cond (t := false) (by simp) (fun h => by cases h) (fun _ => ?_)
  refine E.exit ?_ -- 0
  have hwl : IntKind.i64.wrap (lo - 1) = lo - 1 := W_in (by omega) (by omega)
  have hwh : IntKind.i64.wrap (hi + 1) = hi + 1 := W_in (by omega) (by omega)
  have hwf : refE [] (max 1 (lo - 1)) (min 1000000000 (hi + 1)) = 0 := refE_of rfl hb.wide
  have hwr : refR [] (max 1 (lo - 1)) (min 1000000000 (hi + 1)) = none := refR_nil _ _
  refine E.seq ?_
  refine E.drawC mixed hr [17] [1, 11, 16, 17] [1, 11, 17] (by kernel_rfl) (by simp [g46, g45, prA, prB, max33, min33, hwl, hwh, build74 (a := max 1 (lo - 1)) (b := min 1000000000 (hi + 1)), flat, pksR, pksAt, pksP, pksOf, hwf, hwr]; rfl) ?_ -- region 28
  refine E.seq ?_
  refine E.seq ?_
  refine E.reg hr (by simp [yieldedA]; rfl) ?_ -- region 29
  refine E.cond (t := false) (by simp) (fun h => by cases h) (fun _ => ?_)
  refine E.skip ?_
  refine E.lead { fr := [(2, .slice none 0 0), (4, .pointer (some ⟨10, 0, none⟩))], sz := 279, H := ((10, .cells [iv lo, iv hi] 74) :: (9, .inp o []) :: G0 : Heap), n := 11, marks := [], vs := [0, 2, 4, 10, 12, 13, 15, 23, 24, 25, 130, 131, 132, 228, 229, 230] } (Leads.ren [10] rfl rfl rfl ⟨rfl, rfl⟩ (by simp) (by simp)) ?_
  refine E.seq ?_
  refine E.reg hr (by simp; rfl) ?_ -- region 31
  refine E.seq ?_
  refine E.reg hr (by simp; rfl) ?_ -- region 32
  refine E.seq ?_
  refine E.reg hr (by simp; rfl) ?_ -- region 33
  refine E.seq ?_
  refine E.seq ?_
  refine E.reg hr (by simp; rfl) ?_ -- region 34
  refine E.block ?_ -- 2
  refine E.loop ?_
  have hz : cm0 [] lo hi [] = 0 := by simp [cm0, firstV, whenV, bndE_of hb, pksE_nil]
  refine EL.step ?_
  refine E.seq ?_
  refine E.reg hr (by simp; rfl) ?_ -- region 35
  refine E.seq ?_
  refine E.cond (t := false) (by simp) (fun h => by cases h) (fun _ => ?_)
  refine E.exit ?_ -- 2
  refine E.seq ?_
  refine E.seq ?_
  refine E.reg hr (by simp [g50, g94, intsAt, intsOf, flat, pksR, pksE_nil, firstV]; rfl) ?_ -- region 42
  refine E.cond (t := false) (by simp) (fun h => by cases h) (fun _ => ?_)
  refine E.skip ?_
  refine E.seq ?_
  refine E.drawC mixed hr [4] [1, 4] [1, 4] (by kernel_rfl) (by simp [g46, pksR, g48b, hz]; rfl) ?_ -- region 44
  refine E.ret ?_
  exact pureK.ret rfl rfl (by simp) (by repeat first | exact sub_refl _ | refine sub_cons rfl ?_)
set_option maxHeartbeats 2000000 in
set_option maxRecDepth 20000 in
theorem w9ee (o c : Nat) (o2 c2 : Nat) (lo hi : Int) (hre : refE [] lo hi = 0) : AC Tryz.prog 9 [inpV o 0 c, ivl lo hi, inpM 10 o2 0 c2] ((10, .inp o2 []) :: (9, .inp o []) :: G0 : Heap) 11 (.bool true) ((10, .inp o2 []) :: (9, .inp o []) :: G0 : Heap) 11 := by
  have hr := recT_ok (P := Tryz.prog) (l := [(15, g15), (44, g44), (46, g46), (45, g45), (47, g47), (34, g34), (48, g48b), (49, g49), (50, g50), (51, gBnd), (27, g94)]) (by simp [ok15, ok44, ok46, ok45, ok47, ok34, ok48b, ok49, ok50, ok51, ok27])
  have hb : BndIn lo hi := (refE_ok hre).2.2
  have hbk := hb
  obtain ⟨b1, b2, b3, b4, b5⟩ := hbk
  have hE : firstV [pksE [], bndE lo hi] = refE [] lo hi := rfl
  have hR : refR [] lo hi = none := refR_nil lo hi
  have hsk : seek [] lo hi = none := rfl
  refine AC.pure Tryz.func9 rfl (by kernel_rfl) rfl [0, 2, 4, 10, 12, 13, 15, 23, 24, 25, 130, 131, 132, 228, 229, 230] rfl ?_
  refine E.seq ?_
  refine E.reg hr (by simp; rfl) ?_ -- region 0
  refine E.seq ?_
  refine E.seq ?_
  refine E.drawC mixed hr [0, 4, 16, 17, 18] [0, 4, 14, 16, 17, 18] [0, 4, 14, 16, 17, 18] (by kernel_rfl) (by simp [g15, g44, g50, gBnd, g94, intsAt, intsOf, yieldedA, hE, hre, flat, pksR, pksAt, pksOf, shortK]; rfl) ?_ -- region 1
  refine E.cond (t := false) (by simp) (fun h => by cases h) (fun _ => ?_)
  refine E.skip ?_
  refine E.seq ?_
  refine E.drawC mixed hr [9] [1, 3, 8, 9] [1, 3, 9] (by kernel_rfl) (by simp [g46, g45, prA, prB, flat, pksR, pksAt, pksP, pksOf, hre, hR]; rfl) ?_ -- region 3
  refine E.seq ?_
  refine E.drawC mixed hr [3] [1, 3] [1, 3] (by kernel_rfl) (by simp [g46, g47, flat, pksR, pksAt, pksP, pksOf, hre, hsk]; rfl) ?_ -- region 4
  refine E.seq ?_
  refine E.drawC mixed hr [5] [1, 4, 5] [1, 4, 5] (by kernel_rfl) (by simp [g46, g34, g48b, g48, flat, pksR, pksAt, pksN, pksOf, intsW, intsM, intsAt, intsOf]; rfl) ?_ -- region 5
  refine E.seq ?_
  refine E.seq ?_
  refine E.reg hr (by simp [yieldedA]; rfl) ?_ -- region 6
  refine E.cond (t := false) (by simp) (fun h => by cases h) (fun _ => ?_)
  refine E.skip ?_
  refine E.seq ?_
  refine E.seq ?_
  refine E.reg hr (by simp; rfl) ?_ -- region 8
  refine E.cond (t := false) (by simp) (fun h => by cases h) (fun _ => ?_)
  refine E.skip ?_
  have hcy : cmE [] lo hi [] = 0 := by rw [← cmE_good hre]; rfl
  have hly : layE [] [] = 0 := rfl
  refine E.seq ?_
  refine E.seq ?_
  refine E.drawC mixed hr [11] [7, 10, 11] [7, 10, 11] (by kernel_rfl) (by simp [yieldedA, g46, g34, g48b, g48, hcy, flat, pksR, pksAt, pksN, pksOf, intsW, intsM, intsAt, intsOf]; rfl) ?_ -- region 10
  refine E.cond (t := false) (by simp) (fun h => by cases h) (fun _ => ?_)
  refine E.skip ?_
  refine E.seq ?_
  refine E.reg hr (by simp [g46, g34, g49, hly, flat, pksR, pksAt, pksN, pksOf, intsW, intsM, intsAt, intsOf]; rfl) ?_ -- region 12
  refine E.seq ?_
  refine E.seq ?_
  refine E.reg hr (by simp [yieldedA]; rfl) ?_ -- region 13
  refine E.cond (t := false) (by simp) (fun h => by cases h) (fun _ => ?_)
  refine E.skip ?_
  refine E.seq ?_
  refine E.reg hr (by simp; rfl) ?_ -- region 15
  refine E.seq ?_
  refine E.seq ?_
  refine E.reg hr (by simp; rfl) ?_ -- region 16
  refine E.block ?_ -- 0
  refine E.loop ?_
  refine EL.step ?_
  refine E.seq ?_
  refine E.reg hr (by simp; rfl) ?_ -- region 17
  refine E.seq ?_
  refine E.cond (t := false) (by simp) (fun h => by cases h) (fun _ => ?_)
  refine E.exit ?_ -- 0
  have hwl : IntKind.i64.wrap (lo - 1) = lo - 1 := W_in (by omega) (by omega)
  have hwh : IntKind.i64.wrap (hi + 1) = hi + 1 := W_in (by omega) (by omega)
  have hwf : refE [] (max 1 (lo - 1)) (min 1000000000 (hi + 1)) = 0 := refE_of rfl hb.wide
  have hwr : refR [] (max 1 (lo - 1)) (min 1000000000 (hi + 1)) = none := refR_nil _ _
  refine E.seq ?_
  refine E.drawC mixed hr [17] [1, 11, 16, 17] [1, 11, 17] (by kernel_rfl) (by simp [g46, g45, prA, prB, max33, min33, hwl, hwh, build74 (a := max 1 (lo - 1)) (b := min 1000000000 (hi + 1)), flat, pksR, pksAt, pksP, pksOf, hwf, hwr]; rfl) ?_ -- region 28
  refine E.seq ?_
  refine E.seq ?_
  refine E.reg hr (by simp [yieldedA]; rfl) ?_ -- region 29
  refine E.cond (t := false) (by simp) (fun h => by cases h) (fun _ => ?_)
  refine E.skip ?_
  refine E.lead { fr := [(2, inpM 10 o2 0 c2), (4, .pointer (some ⟨11, 0, none⟩))], sz := 279, H := ((11, .cells [iv lo, iv hi] 74) :: (10, .inp o2 []) :: (9, .inp o []) :: G0 : Heap), n := 12, marks := [], vs := [0, 2, 4, 10, 12, 13, 15, 23, 24, 25, 130, 131, 132, 228, 229, 230] } (Leads.ren [11] rfl rfl rfl ⟨rfl, rfl⟩ (by simp) (by simp)) ?_
  refine E.seq ?_
  refine E.reg hr (by simp; rfl) ?_ -- region 31
  refine E.seq ?_
  refine E.reg hr (by simp; rfl) ?_ -- region 32
  refine E.seq ?_
  refine E.reg hr (by simp; rfl) ?_ -- region 33
  refine E.seq ?_
  refine E.seq ?_
  refine E.reg hr (by simp; rfl) ?_ -- region 34
  refine E.block ?_ -- 2
  refine E.loop ?_
  have hz : cm0 [] lo hi [] = 0 := by simp [cm0, firstV, whenV, bndE_of hb, pksE_nil]
  refine EL.step ?_
  refine E.seq ?_
  refine E.reg hr (by simp; rfl) ?_ -- region 35
  refine E.seq ?_
  refine E.cond (t := false) (by simp) (fun h => by cases h) (fun _ => ?_)
  refine E.exit ?_ -- 2
  refine E.seq ?_
  refine E.seq ?_
  refine E.reg hr (by simp [g50, g94, intsAt, intsOf, flat, pksR, pksE_nil, firstV]; rfl) ?_ -- region 42
  refine E.cond (t := false) (by simp) (fun h => by cases h) (fun _ => ?_)
  refine E.skip ?_
  refine E.seq ?_
  refine E.drawC mixed hr [4] [1, 4] [1, 4] (by kernel_rfl) (by simp [g46, pksR, g48b, hz]; rfl) ?_ -- region 44
  refine E.ret ?_
  exact pureK.ret rfl rfl (by simp) (by repeat first | exact sub_refl _ | refine sub_cons rfl ?_)
set_option maxHeartbeats 2000000 in
set_option maxRecDepth 20000 in
theorem w9em (o c : Nat) (ms : List Int) (o2 c2 : Nat) (lo hi : Int) (hre : refE [] lo hi = 0) (hmn : ms ≠ []) (h8 : ms.length ≤ 8) : AC Tryz.prog 9 [inpV o 0 c, ivl lo hi, inpM 10 o2 ms.length c2] ((10, .inp o2 (ms.map iv)) :: (9, .inp o []) :: G0 : Heap) 11 (.bool true) ((10, .inp o2 (ms.map iv)) :: (9, .inp o []) :: G0 : Heap) 11 := by
  have hr := recT_ok (P := Tryz.prog) (l := [(15, g15), (44, g44), (46, g46), (45, g45), (47, g47), (34, g34), (48, g48b), (49, g49), (50, g50), (51, gBnd), (27, g94)]) (by simp [ok15, ok44, ok46, ok45, ok47, ok34, ok48b, ok49, ok50, ok51, ok27])
  have hb : BndIn lo hi := (refE_ok hre).2.2
  have hbk := hb
  obtain ⟨b1, b2, b3, b4, b5⟩ := hbk
  have hE : firstV [pksE [], bndE lo hi] = refE [] lo hi := rfl
  have hR : refR [] lo hi = none := refR_nil lo hi
  have hsk : seek [] lo hi = none := rfl
  have hm' : ms.length < 2147483648 := by omega
  have hm4 : ms.length ≤ 4096 := by omega
  have h8I : ¬ (8 : Int) < (ms.length : Int) := by omega
  have htm : List.take ms.length (ms.map iv) = ms.map iv := List.take_of_length_le (by simp)
  refine AC.pure Tryz.func9 rfl (by kernel_rfl) rfl [0, 2, 4, 10, 12, 13, 15, 23, 24, 25, 130, 131, 132, 228, 229, 230] rfl ?_
  refine E.seq ?_
  refine E.reg hr (by simp; rfl) ?_ -- region 0
  refine E.seq ?_
  refine E.seq ?_
  refine E.drawC mixed hr [0, 4, 16, 17, 18] [0, 4, 14, 16, 17, 18] [0, 4, 14, 16, 17, 18] (by kernel_rfl) (by simp [g15, g44, g50, gBnd, g94, intsAt, intsOf, yieldedA, hE, hre, flat, pksR, pksAt, pksOf, shortK, h8I]; rfl) ?_ -- region 1
  refine E.cond (t := false) (by simp) (fun h => by cases h) (fun _ => ?_)
  refine E.skip ?_
  refine E.seq ?_
  refine E.drawC mixed hr [9] [1, 3, 8, 9] [1, 3, 9] (by kernel_rfl) (by simp [g46, g45, prA, prB, flat, pksR, pksAt, pksP, pksOf, hre, hR]; rfl) ?_ -- region 3
  refine E.seq ?_
  refine E.drawC mixed hr [3] [1, 3] [1, 3] (by kernel_rfl) (by simp [g46, g47, flat, pksR, pksAt, pksP, pksOf, hre, hsk]; rfl) ?_ -- region 4
  refine E.seq ?_
  refine E.drawC mixed hr [5] [1, 4, 5] [1, 4, 5] (by kernel_rfl) (by simp [g46, g34, g48b, g48, flat, pksR, pksAt, pksN, rowOf, pksOf, intsW, intsM, intsAt, rowIntsN, rowInts, intsOf_iv, hm', hm4, htm, hmn]; rfl) ?_ -- region 5
  refine E.seq ?_
  refine E.seq ?_
  refine E.reg hr (by simp [yieldedA]; rfl) ?_ -- region 6
  refine E.cond (t := false) (by simp) (fun h => by cases h) (fun _ => ?_)
  refine E.skip ?_
  refine E.seq ?_
  refine E.seq ?_
  refine E.reg hr (by simp; rfl) ?_ -- region 8
  refine E.cond (t := false) (by simp) (fun h => by cases h) (fun _ => ?_)
  refine E.skip ?_
  have hcy : cmE [] lo hi [] = 0 := by rw [← cmE_good hre]; rfl
  have hly : layE [] [] = 0 := rfl
  refine E.seq ?_
  refine E.seq ?_
  refine E.drawC mixed hr [11] [7, 10, 11] [7, 10, 11] (by kernel_rfl) (by simp [yieldedA, g46, g34, g48b, g48, hcy, flat, pksR, pksAt, pksN, pksOf, intsW, intsM, intsAt, intsOf]; rfl) ?_ -- region 10
  refine E.cond (t := false) (by simp) (fun h => by cases h) (fun _ => ?_)
  refine E.skip ?_
  refine E.seq ?_
  refine E.reg hr (by simp [g46, g34, g49, hly, flat, pksR, pksAt, pksN, pksOf, intsW, intsM, intsAt, intsOf]; rfl) ?_ -- region 12
  refine E.seq ?_
  refine E.seq ?_
  refine E.reg hr (by simp [yieldedA]; rfl) ?_ -- region 13
  refine E.cond (t := false) (by simp) (fun h => by cases h) (fun _ => ?_)
  refine E.skip ?_
  refine E.seq ?_
  refine E.reg hr (by simp; rfl) ?_ -- region 15
  refine E.seq ?_
  refine E.seq ?_
  refine E.reg hr (by simp; rfl) ?_ -- region 16
  refine E.block ?_ -- 0
  refine E.loop ?_
  refine EL.step ?_
  refine E.seq ?_
  refine E.reg hr (by simp; rfl) ?_ -- region 17
  refine E.seq ?_
  refine E.cond (t := false) (by simp) (fun h => by cases h) (fun _ => ?_)
  refine E.exit ?_ -- 0
  have hwl : IntKind.i64.wrap (lo - 1) = lo - 1 := W_in (by omega) (by omega)
  have hwh : IntKind.i64.wrap (hi + 1) = hi + 1 := W_in (by omega) (by omega)
  have hwf : refE [] (max 1 (lo - 1)) (min 1000000000 (hi + 1)) = 0 := refE_of rfl hb.wide
  have hwr : refR [] (max 1 (lo - 1)) (min 1000000000 (hi + 1)) = none := refR_nil _ _
  refine E.seq ?_
  refine E.drawC mixed hr [17] [1, 11, 16, 17] [1, 11, 17] (by kernel_rfl) (by simp [g46, g45, prA, prB, max33, min33, hwl, hwh, build74 (a := max 1 (lo - 1)) (b := min 1000000000 (hi + 1)), flat, pksR, pksAt, pksP, pksOf, hwf, hwr]; rfl) ?_ -- region 28
  refine E.seq ?_
  refine E.seq ?_
  refine E.reg hr (by simp [yieldedA]; rfl) ?_ -- region 29
  refine E.cond (t := false) (by simp) (fun h => by cases h) (fun _ => ?_)
  refine E.skip ?_
  refine E.lead { fr := [(2, inpM 10 o2 ms.length c2), (4, .pointer (some ⟨11, 0, none⟩))], sz := 279, H := ((11, .cells [iv lo, iv hi] 74) :: (10, .inp o2 (ms.map iv)) :: (9, .inp o []) :: G0 : Heap), n := 12, marks := [], vs := [0, 2, 4, 10, 12, 13, 15, 23, 24, 25, 130, 131, 132, 228, 229, 230] } (Leads.ren [11] rfl rfl rfl ⟨rfl, rfl⟩ (by simp) (by simp)) ?_
  refine E.seq ?_
  refine E.reg hr (by simp; rfl) ?_ -- region 31
  refine E.seq ?_
  refine E.reg hr (by simp; rfl) ?_ -- region 32
  refine E.seq ?_
  refine E.reg hr (by simp; rfl) ?_ -- region 33
  refine E.seq ?_
  refine E.seq ?_
  refine E.reg hr (by simp; rfl) ?_ -- region 34
  refine E.block ?_ -- 2
  refine E.loop ?_
  refine EL.ind (fun i : Nat => match i with
    | 0 => { fr := [(2, inpM 10 o2 ms.length c2), (4, .pointer (some ⟨11, 0, none⟩)), (23, .slice none 0 0), (24, .slice none 0 0), (25, iv 0), (228, inpM 10 o2 ms.length c2), (229, iv ms.length), (230, iv 0)], sz := 279, H := ((11, .cells [iv lo, iv hi] 74) :: (10, .inp o2 (ms.map iv)) :: (9, .inp o []) :: G0 : Heap), n := 12, marks := [], vs := [0, 2, 4, 10, 12, 13, 15, 23, 24, 25, 130, 131, 132, 228, 229, 230] }
    | i + 1 => { fr := [(2, inpM 10 o2 ms.length c2), (4, .pointer (some ⟨11, 0, none⟩)), (23, .slice (some ⟨12, 0, some 0⟩) (i + 1) 0), (24, .slice (some ⟨13, 0, some 0⟩) (i + 1) 0), (25, iv (tot lo hi ms (i + 1))), (228, inpM 10 o2 ms.length c2), (229, iv ms.length), (230, iv (i + 1 : Nat))], sz := 279, H := ((13, .ext (ic (totT lo hi ms (i + 1))) 3 1) :: (12, .ext (pcs (exT lo hi ms (i + 1))) 100 3) :: (11, .cells [iv lo, iv hi] 74) :: (10, .inp o2 (ms.map iv)) :: (9, .inp o []) :: G0 : Heap), n := 14, marks := [], vs := [0, 2, 4, 10, 12, 13, 15, 23, 24, 25, 130, 131, 132, 228, 229, 230] }) (fun i => ms.length - i) (fun i => i ≤ ms.length) 0 (.less rfl rfl rfl (by simp) (by simp)) (Nat.zero_le _) (fun i => by cases i <;> rfl) ?_
  intro i hi0
  have c0 : IntKind.i64.wrap (hi - lo) = hi - lo := W_in (by omega) (by omega)
  have c1 : IntKind.i64.wrap (hi - lo + 1) = hi - lo + 1 := W_in (by omega) (by omega)
  have c2' : IntKind.u64.wrap (hi - lo + 1) = hi - lo + 1 := u64_small (by omega) (by omega)
  have c3 : hi - lo + 1 ≠ 0 := by omega
  have hmod : ∀ m : Int, 0 ≤ (IntKind.u64.wrap m).tmod (hi - lo + 1) ∧ (IntKind.u64.wrap m).tmod (hi - lo + 1) ≤ hi - lo := fun m => by have := stp_in b5 m; unfold stp at this; omega
  have c4 : ∀ m : Int, IntKind.i64.wrap ((IntKind.u64.wrap m).tmod (hi - lo + 1)) = (IntKind.u64.wrap m).tmod (hi - lo + 1) := fun m => by have := hmod m; exact W_in (by omega) (by omega)
  have c5 : ∀ m : Int, IntKind.i64.wrap (lo + (IntKind.u64.wrap m).tmod (hi - lo + 1)) = stp lo hi m := fun m => by have := hmod m; exact W_in (by omega) (by omega)
  rcases i with _ | i
  · have hio : 0 < ms.length := List.length_pos_iff.2 hmn
    have hw : IntKind.i64.wrap 1 = 1 := W_in (by omega) (by omega)
    have ti := tot_in b5 ms 1
    have s0 := stp_in b5 ms[0]
    have c6 : IntKind.i64.wrap (stp lo hi ms[0]) = tot lo hi ms 1 := by
      rw [W_in (by omega) (by omega)]
      simp [tot, List.getElem?_eq_getElem hio]
    have htT : ic (totT lo hi ms 1) = [iv (tot lo hi ms 1)] := rfl
    have heT : pcs (exT lo hi ms 1) = [iv 1, iv (max 1 (tot lo hi ms 1)), iv 1] := by
      show pcs [exP lo hi ms 0] = _
      simp [pcs, Pk.cells, exP]
    have c7 : IntKind.i64.wrap (tot lo hi ms 1) = tot lo hi ms 1 := W_in (by omega) (by omega)
    refine E.seq ?_
    refine E.reg hr (by simp; rfl) ?_ -- region 35
    refine E.seq ?_
    refine E.cond (t := true) (by simp <;> omega) (fun _ => ?_) (fun h => by cases h)
    refine E.skip ?_
    refine E.seq ?_
    refine E.block ?_ -- 3
    refine E.seq ?_
    refine E.reg hr (by simp [hio]; rfl) ?_ -- region 36
    refine E.seq ?_
    refine E.drawC mixed hr [] [] [2, 4, 6, 8, 11, 13] (by kernel_rfl) (by simp [opConvert, c0, c1, c2', rem_u64 c3, c4, c5, c6]; rfl) ?_ -- region 37
    refine E.seq ?_
    refine E.reg hr (by simp; rfl) ?_ -- region 38
    refine E.seq ?_
    refine E.reg hr (by simp [hw, bin_quo (show (1 : Int) ≠ 0 by omega), Int.tdiv_one, c7, max33]; rfl) ?_ -- region 39
    refine E.reg hr (by simp [hw, build100c (a := 1) (b := max 1 (tot lo hi ms 1))]; rfl) ?_ -- region 40
    refine E.reg hr (by simp [hw]; rfl) ?_ -- region 41
    exact ⟨1, Leads.ren [11, 15, 13] rfl rfl rfl ⟨rfl, rfl⟩ (by simp) (by simp [htT, heT]), by omega, by dsimp only; omega⟩
  · have hw : IntKind.i64.wrap ((i : Int) + 1 + 1) = (i : Int) + 1 + 1 := W_in (by omega) (by omega)
    refine E.seq ?_
    refine E.reg hr (by simp; rfl) ?_ -- region 35
    refine E.seq ?_
    by_cases hio : i + 1 < ms.length
    · have hiI : (i : Int) + 1 < (ms.length : Int) := by omega
      have ti := tot_in b5 ms (i + 1 + 1)
      have s0 := stp_in b5 ms[i + 1]
      have e0 : tot lo hi ms (i + 1) + stp lo hi ms[i + 1] = tot lo hi ms (i + 1 + 1) := by
        conv => rhs; rw [tot]
        simp [List.getElem?_eq_getElem hio]
      have tB : -100000000000 ≤ tot lo hi ms (i + 1 + 1) ∧ tot lo hi ms (i + 1 + 1) ≤ 100000000000 := tot_small hb (by omega)
      have c6 : IntKind.i64.wrap (tot lo hi ms (i + 1) + stp lo hi ms[i + 1]) = tot lo hi ms (i + 1 + 1) := by
        rw [e0, W_in (by omega) (by omega)]
      have c7 : IntKind.i64.wrap ((tot lo hi ms (i + 1 + 1)).tdiv ((i : Int) + 1 + 1)) = (tot lo hi ms (i + 1 + 1)).tdiv ((i : Int) + 1 + 1) := tdiv_bound (by omega) ⟨by omega, by omega⟩
      have c8 : (i : Int) + 1 + 1 ≠ 0 := by omega
      have htk : List.take (i + 1) (ic (totT lo hi ms (i + 1))) = ic (totT lo hi ms (i + 1)) := ic_take (by simp)
      have htp : List.take ((i + 1) * 3) (pcs (exT lo hi ms (i + 1))) = pcs (exT lo hi ms (i + 1)) := List.take_of_length_le (by simp)
      have hsm : (i + 1 + 1) * 8 ≤ 1099511627776 ∧ i + 1 + 1 ≤ 1099511627776 := by omega
      have hsp : (i + 1 + 1) * 24 ≤ 1099511627776 ∧ (i + 1 + 1) * 3 ≤ 1099511627776 ∧ i + 1 + 1 ≤ 1099511627776 := by omega
      have hno : ¬ (i + 1 + 1) * 3 ≤ (i + 1) * 3 := by omega
      have hsn := ic_snoc (totT lo hi ms (i + 1)) (tot lo hi ms (i + 1 + 1))
      rw [totT_succ] at hsn
      have hsq : pcs (exT lo hi ms (i + 1)) ++ [iv ((i : Int) + 1 + 1), iv (max 1 ((tot lo hi ms (i + 1 + 1)).tdiv ((i : Int) + 1 + 1))), iv 1] = pcs (exT lo hi ms (i + 1 + 1)) := by
        rw [← exT_succ lo hi ms (i + 1), pcs_append]
        congr 1
      refine E.cond (t := true) (by simp; omega) (fun _ => ?_) (fun h => by cases h)
      refine E.skip ?_
      refine E.seq ?_
      refine E.block ?_ -- 3
      refine E.seq ?_
      refine E.reg hr (by simp [hio, hiI]; rfl) ?_ -- region 36
      refine E.seq ?_
      refine E.drawC mixed hr [] [] [2, 4, 6, 8, 11, 13] (by kernel_rfl) (by simp [opConvert, c0, c1, c2', rem_u64 c3, c4, c5, c6]; rfl) ?_ -- region 37
      refine E.seq ?_
      refine E.reg hr (by simp [htk, hsm, hsn]; rfl) ?_ -- region 38
      refine E.seq ?_
      refine E.reg hr (by simp [hw, bin_quo c8, c7, max33]; rfl) ?_ -- region 39
      refine E.reg hr (by simp [hw, build100c (a := (i : Int) + 1 + 1) (b := max 1 ((tot lo hi ms (i + 1 + 1)).tdiv ((i : Int) + 1 + 1))), htp, hsp, hno, hsq]; rfl) ?_ -- region 40
      refine E.reg hr (by simp [hw]; rfl) ?_ -- region 41
      exact ⟨i + 1 + 1, Leads.ren [11, 17, 15] rfl rfl rfl ⟨rfl, rfl⟩ (by simp) (by simp), by omega, by dsimp only; omega⟩
    · have hll : ms.length = i + 1 := by omega
      have hex : exT lo hi ms (i + 1) = exL lo hi ms := by rw [← hll]; rfl
      have htt : totT lo hi ms (i + 1) = totL lo hi ms := by rw [← hll]; rfl
      have htk : List.take (i + 1) (ic (totL lo hi ms)) = ic (totL lo hi ms) := ic_take (by simp [hll])
      have htp : List.take ((i + 1) * 3) (pcs (exL lo hi ms)) = pcs (exL lo hi ms) := List.take_of_length_le (by simp [hll])
      have hF : firstV [pksE (exL lo hi ms)] = pksE (exL lo hi ms) := by by_cases h : pksE (exL lo hi ms) = 0 <;> simp [firstV, h]
      have hi9 : i + 1 < 9223372036854775808 ∧ i + 1 < 2147483648 ∧ i + 1 ≤ 4096 := by omega
      have hnx : exL lo hi ms ≠ [] := fun e => hmn (List.length_eq_zero_iff.1 (by rw [← exL_length lo hi ms, e]; rfl))
      have hnt : totL lo hi ms ≠ [] := fun e => hmn (List.length_eq_zero_iff.1 (by rw [← totL_length lo hi ms, e]; rfl))
      refine E.cond (t := false) (by simp; omega) (fun h => by cases h) (fun _ => ?_)
      refine E.exit ?_ -- 2
      refine E.seq ?_
      refine E.seq ?_
      refine E.reg hr (by simp [g50, g94, intsAt, intsOf, flat, pksR, pksAt, hex, htp, pksOf_pcs, hF, hi9, hll]; rfl) ?_ -- region 42
      by_cases hpx : pksE (exL lo hi ms) = 0
      · have hcx := ex_cmE hb hpx
        refine E.cond (t := false) (by simp [hpx]) (fun h => by cases h) (fun _ => ?_)
        refine E.skip ?_
        refine E.seq ?_
        refine E.drawC mixed hr [4] [1, 4] [1, 4] (by kernel_rfl) (by simp [g46, g48b, g48, pksR, pksAt, pksN, flat, htt, htp, pksOf_pcs, hi9, hll, hnx, hnt, rowPks, rowOf, intsM, rowIntsN, rowInts, intsOf_ic, hcx]; rfl) ?_ -- region 44
        refine E.ret ?_
        exact pureK.ret rfl rfl (by simp) (by repeat first | exact sub_refl _ | refine sub_cons rfl ?_)
      · refine E.cond (t := true) (by simp [hpx]) (fun _ => ?_) (fun h => by cases h)
        refine E.seq ?_
        refine E.reg hr (by simp; rfl) ?_ -- region 43
        refine E.ret ?_
        exact pureK.ret rfl rfl (by simp) (by repeat first | exact sub_refl _ | refine sub_cons rfl ?_)
end Go.Proofs.YtkongcnmkiihjaaGreatDoor

namespace Go.Proofs.YtkongcnmkiihjaaGreatDoor
open Go Go.Ab Go.Proofs
theorem w9pnks (l : List Pk) (o c : Nat) (lo hi : Int) (h : shortK l.length = false) : AC Tryz.prog 9 [inpV o l.length c, ivl lo hi, .slice none 0 0] ((9, .inp o (pcs l)) :: G0 : Heap) 10 (.bool true) ((9, .inp o (pcs l)) :: G0 : Heap) 10 := by
  have hr := recT_ok (P := Tryz.prog) (l := [(15, g15), (44, g44), (50, g50), (51, gBnd), (27, g94)]) (by simp [ok15, ok44, ok50, ok51, ok27])
  refine AC.pure Tryz.func9 rfl (by kernel_rfl) rfl [] rfl ?_
  refine E.seq ?_
  refine E.reg hr (by simp; rfl) ?_ -- region 0
  refine E.seq ?_
  refine E.seq ?_
  refine E.drawC mixed hr [0, 4, 16, 17, 18] [0, 4, 14, 16, 17, 18] [0, 4, 14, 16, 17, 18] (by kernel_rfl) (by simp [g15, g44, yieldedA, flat, h]; rfl) ?_ -- region 1
  refine E.cond (t := true) (by simp) (fun _ => ?_) (fun h => by cases h)
  refine E.seq ?_
  refine E.reg hr (by simp [g15]; rfl) ?_ -- region 2
  refine E.ret ?_
  exact pureK.ret rfl rfl (by simp) (by repeat first | exact sub_refl _ | refine sub_cons rfl ?_)
theorem w9pnk6 (l : List Pk) (o c : Nat) (lo hi : Int) (hs : shortK l.length = true) (h : 6 < l.length) : AC Tryz.prog 9 [inpV o l.length c, ivl lo hi, .slice none 0 0] ((9, .inp o (pcs l)) :: G0 : Heap) 10 (.bool true) ((9, .inp o (pcs l)) :: G0 : Heap) 10 := by
  have hr := recT_ok (P := Tryz.prog) (l := [(15, g15), (44, g44), (50, g50), (51, gBnd), (27, g94)]) (by simp [ok15, ok44, ok50, ok51, ok27])
  have hI : (6 : Int) < (l.length : Int) := by omega
  refine AC.pure Tryz.func9 rfl (by kernel_rfl) rfl [] rfl ?_
  refine E.seq ?_
  refine E.reg hr (by simp; rfl) ?_ -- region 0
  refine E.seq ?_
  refine E.seq ?_
  refine E.drawC mixed hr [0, 4, 16, 17, 18] [0, 4, 14, 16, 17, 18] [0, 4, 14, 16, 17, 18] (by kernel_rfl) (by simp [g15, g44, yieldedA, flat, hs, hI]; rfl) ?_ -- region 1
  refine E.cond (t := true) (by simp) (fun _ => ?_) (fun h => by cases h)
  refine E.seq ?_
  refine E.reg hr (by simp [g15]; rfl) ?_ -- region 2
  refine E.ret ?_
  exact pureK.ret rfl rfl (by simp) (by repeat first | exact sub_refl _ | refine sub_cons rfl ?_)
theorem w9pnkr (l : List Pk) (o c : Nat) (lo hi : Int) (hs : shortK l.length = true) (h6 : l.length ≤ 6) (h : refE l lo hi ≠ 0) : AC Tryz.prog 9 [inpV o l.length c, ivl lo hi, .slice none 0 0] ((9, .inp o (pcs l)) :: G0 : Heap) 10 (.bool true) ((9, .inp o (pcs l)) :: G0 : Heap) 10 := by
  have hr := recT_ok (P := Tryz.prog) (l := [(15, g15), (44, g44), (50, g50), (51, gBnd), (27, g94)]) (by simp [ok15, ok44, ok50, ok51, ok27])
  have h6I : ¬ (6 : Int) < (l.length : Int) := by omega
  have hl' : l.length < 9223372036854775808 := by omega
  have ht : List.take (l.length * 3) (pcs l) = pcs l := List.take_of_length_le (by simp)
  have hE : firstV [pksE l, bndE lo hi] = refE l lo hi := rfl
  refine AC.pure Tryz.func9 rfl (by kernel_rfl) rfl [] rfl ?_
  refine E.seq ?_
  refine E.reg hr (by simp; rfl) ?_ -- region 0
  refine E.seq ?_
  refine E.seq ?_
  refine E.drawC mixed hr [0, 4, 16, 17, 18] [0, 4, 14, 16, 17, 18] [0, 4, 14, 16, 17, 18] (by kernel_rfl) (by simp [g15, g44, yieldedA, flat, hs, h6I, hl', ht, pksOf_pcs, g50, gBnd, g94, intsAt, intsOf, pksR, pksAt, hE, h]; rfl) ?_ -- region 1
  refine E.cond (t := true) (by simp) (fun _ => ?_) (fun h => by cases h)
  refine E.seq ?_
  refine E.reg hr (by simp [g15]; rfl) ?_ -- region 2
  refine E.ret ?_
  exact pureK.ret rfl rfl (by simp) (by repeat first | exact sub_refl _ | refine sub_cons rfl ?_)
theorem w9nnkr  (lo hi : Int) (h : refE [] lo hi ≠ 0) : AC Tryz.prog 9 [.slice none 0 0, ivl lo hi, .slice none 0 0] (G0 : Heap) 9 (.bool true) (G0 : Heap) 9 := by
  have hr := recT_ok (P := Tryz.prog) (l := [(15, g15), (44, g44), (50, g50), (51, gBnd), (27, g94)]) (by simp [ok15, ok44, ok50, ok51, ok27])
  have hE : firstV [pksE [], bndE lo hi] = refE [] lo hi := rfl
  refine AC.pure Tryz.func9 rfl (by kernel_rfl) rfl [] rfl ?_
  refine E.seq ?_
  refine E.reg hr (by simp; rfl) ?_ -- region 0
  refine E.seq ?_
  refine E.seq ?_
  refine E.drawC mixed hr [0, 4, 16, 17, 18] [0, 4, 14, 16, 17, 18] [0, 4, 14, 16, 17, 18] (by kernel_rfl) (by simp [g15, g44, yieldedA, flat, g50, gBnd, g94, intsAt, intsOf, pksR, hE, h]; rfl) ?_ -- region 1
  refine E.cond (t := true) (by simp) (fun _ => ?_) (fun h => by cases h)
  refine E.seq ?_
  refine E.reg hr (by simp [g15]; rfl) ?_ -- region 2
  refine E.ret ?_
  exact pureK.ret rfl rfl (by simp) (by repeat first | exact sub_refl _ | refine sub_cons rfl ?_)
theorem w9enkr (o c : Nat) (lo hi : Int) (h : refE [] lo hi ≠ 0) : AC Tryz.prog 9 [inpV o 0 c, ivl lo hi, .slice none 0 0] ((9, .inp o []) :: G0 : Heap) 10 (.bool true) ((9, .inp o []) :: G0 : Heap) 10 := by
  have hr := recT_ok (P := Tryz.prog) (l := [(15, g15), (44, g44), (50, g50), (51, gBnd), (27, g94)]) (by simp [ok15, ok44, ok50, ok51, ok27])
  have hE : firstV [pksE [], bndE lo hi] = refE [] lo hi := rfl
  refine AC.pure Tryz.func9 rfl (by kernel_rfl) rfl [] rfl ?_
  refine E.seq ?_
  refine E.reg hr (by simp; rfl) ?_ -- region 0
  refine E.seq ?_
  refine E.seq ?_
  refine E.drawC mixed hr [0, 4, 16, 17, 18] [0, 4, 14, 16, 17, 18] [0, 4, 14, 16, 17, 18] (by kernel_rfl) (by simp [g15, g44, yieldedA, flat, shortK, g50, gBnd, g94, intsAt, intsOf, pksR, pksAt, pksOf, hE, h]; rfl) ?_ -- region 1
  refine E.cond (t := true) (by simp) (fun _ => ?_) (fun h => by cases h)
  refine E.seq ?_
  refine E.reg hr (by simp [g15]; rfl) ?_ -- region 2
  refine E.ret ?_
  exact pureK.ret rfl rfl (by simp) (by repeat first | exact sub_refl _ | refine sub_cons rfl ?_)
theorem w9piks (l : List Pk) (o c : Nat) (ms : List Int) (o2 c2 : Nat) (lo hi : Int) (h : shortK l.length = false) : AC Tryz.prog 9 [inpV o l.length c, ivl lo hi, inpM 10 o2 ms.length c2] ((10, .inp o2 (ms.map iv)) :: (9, .inp o (pcs l)) :: G0 : Heap) 11 (.bool true) ((10, .inp o2 (ms.map iv)) :: (9, .inp o (pcs l)) :: G0 : Heap) 11 := by
  have hr := recT_ok (P := Tryz.prog) (l := [(15, g15), (44, g44), (50, g50), (51, gBnd), (27, g94)]) (by simp [ok15, ok44, ok50, ok51, ok27])
  refine AC.pure Tryz.func9 rfl (by kernel_rfl) rfl [] rfl ?_
  refine E.seq ?_
  refine E.reg hr (by simp; rfl) ?_ -- region 0
  refine E.seq ?_
  refine E.seq ?_
  refine E.drawC mixed hr [0, 4, 16, 17, 18] [0, 4, 14, 16, 17, 18] [0, 4, 14, 16, 17, 18] (by kernel_rfl) (by simp [g15, g44, yieldedA, flat, h]; rfl) ?_ -- region 1
  refine E.cond (t := true) (by simp) (fun _ => ?_) (fun h => by cases h)
  refine E.seq ?_
  refine E.reg hr (by simp [g15]; rfl) ?_ -- region 2
  refine E.ret ?_
  exact pureK.ret rfl rfl (by simp) (by repeat first | exact sub_refl _ | refine sub_cons rfl ?_)
theorem w9pik6 (l : List Pk) (o c : Nat) (ms : List Int) (o2 c2 : Nat) (lo hi : Int) (hs : shortK l.length = true) (h : 6 < l.length) : AC Tryz.prog 9 [inpV o l.length c, ivl lo hi, inpM 10 o2 ms.length c2] ((10, .inp o2 (ms.map iv)) :: (9, .inp o (pcs l)) :: G0 : Heap) 11 (.bool true) ((10, .inp o2 (ms.map iv)) :: (9, .inp o (pcs l)) :: G0 : Heap) 11 := by
  have hr := recT_ok (P := Tryz.prog) (l := [(15, g15), (44, g44), (50, g50), (51, gBnd), (27, g94)]) (by simp [ok15, ok44, ok50, ok51, ok27])
  have hI : (6 : Int) < (l.length : Int) := by omega
  refine AC.pure Tryz.func9 rfl (by kernel_rfl) rfl [] rfl ?_
  refine E.seq ?_
  refine E.reg hr (by simp; rfl) ?_ -- region 0
  refine E.seq ?_
  refine E.seq ?_
  refine E.drawC mixed hr [0, 4, 16, 17, 18] [0, 4, 14, 16, 17, 18] [0, 4, 14, 16, 17, 18] (by kernel_rfl) (by simp [g15, g44, yieldedA, flat, hs, hI]; rfl) ?_ -- region 1
  refine E.cond (t := true) (by simp) (fun _ => ?_) (fun h => by cases h)
  refine E.seq ?_
  refine E.reg hr (by simp [g15]; rfl) ?_ -- region 2
  refine E.ret ?_
  exact pureK.ret rfl rfl (by simp) (by repeat first | exact sub_refl _ | refine sub_cons rfl ?_)
theorem w9pikr (l : List Pk) (o c : Nat) (ms : List Int) (o2 c2 : Nat) (lo hi : Int) (hs : shortK l.length = true) (h6 : l.length ≤ 6) (h : refE l lo hi ≠ 0) : AC Tryz.prog 9 [inpV o l.length c, ivl lo hi, inpM 10 o2 ms.length c2] ((10, .inp o2 (ms.map iv)) :: (9, .inp o (pcs l)) :: G0 : Heap) 11 (.bool true) ((10, .inp o2 (ms.map iv)) :: (9, .inp o (pcs l)) :: G0 : Heap) 11 := by
  have hr := recT_ok (P := Tryz.prog) (l := [(15, g15), (44, g44), (50, g50), (51, gBnd), (27, g94)]) (by simp [ok15, ok44, ok50, ok51, ok27])
  have h6I : ¬ (6 : Int) < (l.length : Int) := by omega
  have hl' : l.length < 9223372036854775808 := by omega
  have ht : List.take (l.length * 3) (pcs l) = pcs l := List.take_of_length_le (by simp)
  have hE : firstV [pksE l, bndE lo hi] = refE l lo hi := rfl
  refine AC.pure Tryz.func9 rfl (by kernel_rfl) rfl [] rfl ?_
  refine E.seq ?_
  refine E.reg hr (by simp; rfl) ?_ -- region 0
  refine E.seq ?_
  refine E.seq ?_
  refine E.drawC mixed hr [0, 4, 16, 17, 18] [0, 4, 14, 16, 17, 18] [0, 4, 14, 16, 17, 18] (by kernel_rfl) (by simp [g15, g44, yieldedA, flat, hs, h6I, hl', ht, pksOf_pcs, g50, gBnd, g94, intsAt, intsOf, pksR, pksAt, hE, h]; rfl) ?_ -- region 1
  refine E.cond (t := true) (by simp) (fun _ => ?_) (fun h => by cases h)
  refine E.seq ?_
  refine E.reg hr (by simp [g15]; rfl) ?_ -- region 2
  refine E.ret ?_
  exact pureK.ret rfl rfl (by simp) (by repeat first | exact sub_refl _ | refine sub_cons rfl ?_)
theorem w9pikm (l : List Pk) (o c : Nat) (ms : List Int) (o2 c2 : Nat) (lo hi : Int) (hs : shortK l.length = true) (h6 : l.length ≤ 6) (hr0 : refE l lo hi = 0) (h : 8 < ms.length) : AC Tryz.prog 9 [inpV o l.length c, ivl lo hi, inpM 10 o2 ms.length c2] ((10, .inp o2 (ms.map iv)) :: (9, .inp o (pcs l)) :: G0 : Heap) 11 (.bool true) ((10, .inp o2 (ms.map iv)) :: (9, .inp o (pcs l)) :: G0 : Heap) 11 := by
  have hr := recT_ok (P := Tryz.prog) (l := [(15, g15), (44, g44), (50, g50), (51, gBnd), (27, g94)]) (by simp [ok15, ok44, ok50, ok51, ok27])
  have h6I : ¬ (6 : Int) < (l.length : Int) := by omega
  have hl' : l.length < 9223372036854775808 := by omega
  have ht : List.take (l.length * 3) (pcs l) = pcs l := List.take_of_length_le (by simp)
  have hE : firstV [pksE l, bndE lo hi] = refE l lo hi := rfl
  have hI : (8 : Int) < (ms.length : Int) := by omega
  refine AC.pure Tryz.func9 rfl (by kernel_rfl) rfl [] rfl ?_
  refine E.seq ?_
  refine E.reg hr (by simp; rfl) ?_ -- region 0
  refine E.seq ?_
  refine E.seq ?_
  refine E.drawC mixed hr [0, 4, 16, 17, 18] [0, 4, 14, 16, 17, 18] [0, 4, 14, 16, 17, 18] (by kernel_rfl) (by simp [g15, g44, yieldedA, flat, hs, h6I, hl', ht, pksOf_pcs, g50, gBnd, g94, intsAt, intsOf, pksR, pksAt, hE, hr0, hI]; rfl) ?_ -- region 1
  refine E.cond (t := true) (by simp) (fun _ => ?_) (fun h => by cases h)
  refine E.seq ?_
  refine E.reg hr (by simp [g15]; rfl) ?_ -- region 2
  refine E.ret ?_
  exact pureK.ret rfl rfl (by simp) (by repeat first | exact sub_refl _ | refine sub_cons rfl ?_)
theorem w9nikr (ms : List Int) (o2 c2 : Nat) (lo hi : Int) (h : refE [] lo hi ≠ 0) : AC Tryz.prog 9 [.slice none 0 0, ivl lo hi, inpM 9 o2 ms.length c2] ((9, .inp o2 (ms.map iv)) :: G0 : Heap) 10 (.bool true) ((9, .inp o2 (ms.map iv)) :: G0 : Heap) 10 := by
  have hr := recT_ok (P := Tryz.prog) (l := [(15, g15), (44, g44), (50, g50), (51, gBnd), (27, g94)]) (by simp [ok15, ok44, ok50, ok51, ok27])
  have hE : firstV [pksE [], bndE lo hi] = refE [] lo hi := rfl
  refine AC.pure Tryz.func9 rfl (by kernel_rfl) rfl [] rfl ?_
  refine E.seq ?_
  refine E.reg hr (by simp; rfl) ?_ -- region 0
  refine E.seq ?_
  refine E.seq ?_
  refine E.drawC mixed hr [0, 4, 16, 17, 18] [0, 4, 14, 16, 17, 18] [0, 4, 14, 16, 17, 18] (by kernel_rfl) (by simp [g15, g44, yieldedA, flat, g50, gBnd, g94, intsAt, intsOf, pksR, hE, h]; rfl) ?_ -- region 1
  refine E.cond (t := true) (by simp) (fun _ => ?_) (fun h => by cases h)
  refine E.seq ?_
  refine E.reg hr (by simp [g15]; rfl) ?_ -- region 2
  refine E.ret ?_
  exact pureK.ret rfl rfl (by simp) (by repeat first | exact sub_refl _ | refine sub_cons rfl ?_)
theorem w9nikm (ms : List Int) (o2 c2 : Nat) (lo hi : Int) (hr0 : refE [] lo hi = 0) (h : 8 < ms.length) : AC Tryz.prog 9 [.slice none 0 0, ivl lo hi, inpM 9 o2 ms.length c2] ((9, .inp o2 (ms.map iv)) :: G0 : Heap) 10 (.bool true) ((9, .inp o2 (ms.map iv)) :: G0 : Heap) 10 := by
  have hr := recT_ok (P := Tryz.prog) (l := [(15, g15), (44, g44), (50, g50), (51, gBnd), (27, g94)]) (by simp [ok15, ok44, ok50, ok51, ok27])
  have hE : firstV [pksE [], bndE lo hi] = refE [] lo hi := rfl
  have hI : (8 : Int) < (ms.length : Int) := by omega
  refine AC.pure Tryz.func9 rfl (by kernel_rfl) rfl [] rfl ?_
  refine E.seq ?_
  refine E.reg hr (by simp; rfl) ?_ -- region 0
  refine E.seq ?_
  refine E.seq ?_
  refine E.drawC mixed hr [0, 4, 16, 17, 18] [0, 4, 14, 16, 17, 18] [0, 4, 14, 16, 17, 18] (by kernel_rfl) (by simp [g15, g44, yieldedA, flat, g50, gBnd, g94, intsAt, intsOf, pksR, hE, hr0, hI]; rfl) ?_ -- region 1
  refine E.cond (t := true) (by simp) (fun _ => ?_) (fun h => by cases h)
  refine E.seq ?_
  refine E.reg hr (by simp [g15]; rfl) ?_ -- region 2
  refine E.ret ?_
  exact pureK.ret rfl rfl (by simp) (by repeat first | exact sub_refl _ | refine sub_cons rfl ?_)
theorem w9eikr (o c : Nat) (ms : List Int) (o2 c2 : Nat) (lo hi : Int) (h : refE [] lo hi ≠ 0) : AC Tryz.prog 9 [inpV o 0 c, ivl lo hi, inpM 10 o2 ms.length c2] ((10, .inp o2 (ms.map iv)) :: (9, .inp o []) :: G0 : Heap) 11 (.bool true) ((10, .inp o2 (ms.map iv)) :: (9, .inp o []) :: G0 : Heap) 11 := by
  have hr := recT_ok (P := Tryz.prog) (l := [(15, g15), (44, g44), (50, g50), (51, gBnd), (27, g94)]) (by simp [ok15, ok44, ok50, ok51, ok27])
  have hE : firstV [pksE [], bndE lo hi] = refE [] lo hi := rfl
  refine AC.pure Tryz.func9 rfl (by kernel_rfl) rfl [] rfl ?_
  refine E.seq ?_
  refine E.reg hr (by simp; rfl) ?_ -- region 0
  refine E.seq ?_
  refine E.seq ?_
  refine E.drawC mixed hr [0, 4, 16, 17, 18] [0, 4, 14, 16, 17, 18] [0, 4, 14, 16, 17, 18] (by kernel_rfl) (by simp [g15, g44, yieldedA, flat, shortK, g50, gBnd, g94, intsAt, intsOf, pksR, pksAt, pksOf, hE, h]; rfl) ?_ -- region 1
  refine E.cond (t := true) (by simp) (fun _ => ?_) (fun h => by cases h)
  refine E.seq ?_
  refine E.reg hr (by simp [g15]; rfl) ?_ -- region 2
  refine E.ret ?_
  exact pureK.ret rfl rfl (by simp) (by repeat first | exact sub_refl _ | refine sub_cons rfl ?_)
theorem w9eikm (o c : Nat) (ms : List Int) (o2 c2 : Nat) (lo hi : Int) (hr0 : refE [] lo hi = 0) (h : 8 < ms.length) : AC Tryz.prog 9 [inpV o 0 c, ivl lo hi, inpM 10 o2 ms.length c2] ((10, .inp o2 (ms.map iv)) :: (9, .inp o []) :: G0 : Heap) 11 (.bool true) ((10, .inp o2 (ms.map iv)) :: (9, .inp o []) :: G0 : Heap) 11 := by
  have hr := recT_ok (P := Tryz.prog) (l := [(15, g15), (44, g44), (50, g50), (51, gBnd), (27, g94)]) (by simp [ok15, ok44, ok50, ok51, ok27])
  have hE : firstV [pksE [], bndE lo hi] = refE [] lo hi := rfl
  have hI : (8 : Int) < (ms.length : Int) := by omega
  refine AC.pure Tryz.func9 rfl (by kernel_rfl) rfl [] rfl ?_
  refine E.seq ?_
  refine E.reg hr (by simp; rfl) ?_ -- region 0
  refine E.seq ?_
  refine E.seq ?_
  refine E.drawC mixed hr [0, 4, 16, 17, 18] [0, 4, 14, 16, 17, 18] [0, 4, 14, 16, 17, 18] (by kernel_rfl) (by simp [g15, g44, yieldedA, flat, shortK, g50, gBnd, g94, intsAt, intsOf, pksR, pksAt, pksOf, hE, hr0, hI]; rfl) ?_ -- region 1
  refine E.cond (t := true) (by simp) (fun _ => ?_) (fun h => by cases h)
  refine E.seq ?_
  refine E.reg hr (by simp [g15]; rfl) ?_ -- region 2
  refine E.ret ?_
  exact pureK.ret rfl rfl (by simp) (by repeat first | exact sub_refl _ | refine sub_cons rfl ?_)
theorem w9_nn  (lo hi : Int) : AC Tryz.prog 9 [.slice none 0 0, ivl lo hi, .slice none 0 0] (G0 : Heap) 9 (.bool true) (G0 : Heap) 9 := by
  by_cases hr : refE [] lo hi ≠ 0
  · exact w9nnkr lo hi hr
  have hr : refE [] lo hi = 0 := by simpa using hr
  exact w9nn lo hi hr
theorem w9_ni (ms : List Int) (o2 c2 : Nat) (lo hi : Int) : AC Tryz.prog 9 [.slice none 0 0, ivl lo hi, inpM 9 o2 ms.length c2] ((9, .inp o2 (ms.map iv)) :: G0 : Heap) 10 (.bool true) ((9, .inp o2 (ms.map iv)) :: G0 : Heap) 10 := by
  by_cases hr : refE [] lo hi ≠ 0
  · exact w9nikr ms o2 c2 lo hi hr
  have hr : refE [] lo hi = 0 := by simpa using hr
  by_cases h8 : 8 < ms.length
  · exact w9nikm ms o2 c2 lo hi hr h8
  have h8 : ms.length ≤ 8 := by omega
  by_cases hm : ms = []
  · subst hm
    exact w9ne o2 c2 lo hi hr
  exact w9nm ms o2 c2 lo hi hr hm h8
theorem w9_in (l : List Pk) (o c : Nat) (lo hi : Int) : AC Tryz.prog 9 [inpV o l.length c, ivl lo hi, .slice none 0 0] ((9, .inp o (pcs l)) :: G0 : Heap) 10 (.bool true) ((9, .inp o (pcs l)) :: G0 : Heap) 10 := by
  by_cases hl : l = []
  · subst hl
    by_cases hr : refE [] lo hi ≠ 0
    · exact w9enkr o c lo hi hr
    have hr : refE [] lo hi = 0 := by simpa using hr
    exact w9en o c lo hi hr
  by_cases hs : shortK l.length = false
  · exact w9pnks l o c lo hi hs
  have hs : shortK l.length = true := by simpa using hs
  by_cases h6 : 6 < l.length
  · exact w9pnk6 l o c lo hi hs h6
  have h6 : l.length ≤ 6 := by omega
  by_cases hr : refE l lo hi ≠ 0
  · exact w9pnkr l o c lo hi hs h6  hr
  have hr : refE l lo hi = 0 := by simpa using hr
  cases hq : seek l lo hi with
  | none => exact w9pn l o c lo hi hr hl h6 hq
  | some q => exact w9pns l o c lo hi hr hl h6 (by rw [hq]; rfl)
theorem w9_ii (l : List Pk) (o c : Nat) (ms : List Int) (o2 c2 : Nat) (lo hi : Int) : AC Tryz.prog 9 [inpV o l.length c, ivl lo hi, inpM 10 o2 ms.length c2] ((10, .inp o2 (ms.map iv)) :: (9, .inp o (pcs l)) :: G0 : Heap) 11 (.bool true) ((10, .inp o2 (ms.map iv)) :: (9, .inp o (pcs l)) :: G0 : Heap) 11 := by
  by_cases hl : l = []
  · subst hl
    by_cases hr : refE [] lo hi ≠ 0
    · exact w9eikr o c ms o2 c2 lo hi hr
    have hr : refE [] lo hi = 0 := by simpa using hr
    by_cases h8 : 8 < ms.length
    · exact w9eikm o c ms o2 c2 lo hi hr h8
    have h8 : ms.length ≤ 8 := by omega
    by_cases hm : ms = []
    · subst hm
      exact w9ee o c o2 c2 lo hi hr
    exact w9em o c ms o2 c2 lo hi hr hm h8
  by_cases hs : shortK l.length = false
  · exact w9piks l o c ms o2 c2 lo hi hs
  have hs : shortK l.length = true := by simpa using hs
  by_cases h6 : 6 < l.length
  · exact w9pik6 l o c ms o2 c2 lo hi hs h6
  have h6 : l.length ≤ 6 := by omega
  by_cases hr : refE l lo hi ≠ 0
  · exact w9pikr l o c ms o2 c2 lo hi hs h6  hr
  have hr : refE l lo hi = 0 := by simpa using hr
  by_cases h8 : 8 < ms.length
  · exact w9pikm l o c ms o2 c2 lo hi hs h6  hr h8
  have h8 : ms.length ≤ 8 := by omega
  by_cases hm : ms = []
  · subst hm
    cases hq : seek l lo hi with
    | none => exact w9pe l o c o2 c2 lo hi hr hl h6 hq
    | some q => exact w9pes l o c o2 c2 lo hi hr hl h6 (by rw [hq]; rfl)
  cases hq : seek l lo hi with
  | none => exact w9pm l o c ms o2 c2 lo hi hr hl h6 hq hm h8
  | some q => exact w9pms l o c ms o2 c2 lo hi hr hl h6 (by rw [hq]; rfl) hm h8
end Go.Proofs.YtkongcnmkiihjaaGreatDoor
