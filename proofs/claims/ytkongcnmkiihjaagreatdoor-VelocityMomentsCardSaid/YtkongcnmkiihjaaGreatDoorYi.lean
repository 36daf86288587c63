/-
The law VelocityMoments, walked where none are handed, and all the ways together.
-/
import Derived.Test.YtkongcnmkiihjaaGreatDoorYh
namespace Go.Proofs.YtkongcnmkiihjaaGreatDoor
open Go Go.Ab Go.Proofs
set_option maxRecDepth 20000 in
theorem w8nn0 (lo hi : Int) (hre : refE [] lo hi ≠ 0) : AC Tryz.prog 8 [.slice none 0 0, ivl lo hi, .slice none 0 0] (G0 : Heap) 9 (.bool true) (G0 : Heap) 9 := by
  have hr := recT_ok (P := Tryz.prog) (l := [(15, g15), (44, g44), (46, g46), (45, g45), (47, g47), (34, g34), (48, g48), (49, g49), (50, g50), (51, gBnd), (27, g94), (52, g52), (53, g53), (54, g54), (55, g55), (56, g56), (42, g42)]) (by simp [ok15, ok44, ok46, ok45, ok47, ok34, ok48, ok49, ok50, ok51, ok27, ok52, ok53, ok54, ok55, ok56, ok42])
  have hR : refR [] lo hi = none := by rw [refR, if_neg hre]
  have hcm : cmE [] lo hi [] = refE [] lo hi := cmE_bad hre
  have hE : firstV [pksE [], bndE lo hi] = refE [] lo hi := rfl
  have hpe : pksE [] = 0 := rfl
  have hs0 : seek [] lo hi = none := rfl
  have hR0 : refR [] lo hi = none := by unfold refR; split <;> rfl
  have hle : layE [] [] = 0 := rfl
  refine AC.pure Tryz.func8 rfl (by kernel_rfl) rfl [0, 7, 8, 9, 10, 11, 12, 13, 14, 15, 16, 17, 18, 19, 20, 21, 22, 23, 109, 110] rfl ?_
  refine E.seq ?_
  refine E.reg hr (by simp; rfl) ?_ -- region 0
  refine E.seq ?_
  refine E.seq ?_
  refine E.reg hr (by simp [g15, g44, yieldedA]; rfl) ?_ -- region 1
  refine E.cond (t := false) (by simp) (fun h => by cases h) (fun _ => ?_)
  refine E.skip ?_
  refine E.seq ?_
  refine E.drawC mixed hr [9] [1, 3, 8, 9] [1, 3, 9] (by kernel_rfl) (by simp [g46, g45, prA, prB, pksR, pksP, hR0]; rfl) ?_ -- region 3
  refine E.seq ?_
  refine E.drawC mixed hr [3] [1, 3] [1, 3] (by kernel_rfl) (by simp [g46, g47, pksR, pksP, hre, hs0]; rfl) ?_ -- region 4
  refine E.seq ?_
  refine E.drawC mixed hr [5] [1, 4, 5] [1, 4, 5] (by kernel_rfl) (by simp [g46, g34, g48, pksR, pksN, intsW, intsM, hcm]; rfl) ?_ -- region 5
  refine E.seq ?_
  refine E.reg hr (by simp [g46, g34, g49, pksR, pksN, intsW, intsM, hle]; rfl) ?_ -- region 6
  refine E.seq ?_
  refine E.reg hr (by simp [g50, pksR]; rfl) ?_ -- region 7
  refine E.seq ?_
  refine E.reg hr (by simp [gBnd, g94, intsAt, flat, intsOf, hE]; rfl) ?_ -- region 8
  refine E.seq ?_
  refine E.reg hr (by simp; rfl) ?_ -- region 9
  refine E.seq ?_
  refine E.reg hr (by simp; rfl) ?_ -- region 10
  refine E.seq ?_
  refine E.reg hr (by simp; rfl) ?_ -- region 11
  refine E.seq ?_
  refine E.reg hr (by simp; rfl) ?_ -- region 12
  refine E.seq ?_
  refine E.reg hr (by simp; rfl) ?_ -- region 13
  refine E.seq ?_
  refine E.seq ?_
  refine E.reg hr (by simp [hre]; rfl) ?_ -- region 14
  refine E.cond (t := false) (by simp) (fun h => by cases h) (fun _ => ?_)
  refine E.skip ?_
  refine E.seq ?_
  refine E.seq ?_
  refine E.reg hr (by simp [hpe]; rfl) ?_ -- region 18
  refine E.cond (t := true) (by simp) (fun _ => ?_) (fun h => by cases h)
  refine E.reg hr (by simp [g55, pksR, intsW, hle, hpe]; rfl) ?_ -- region 19
  refine E.seq ?_
  refine E.seq ?_
  refine E.reg hr (by simp; rfl) ?_ -- region 20
  refine E.cond (t := false) (by simp) (fun h => by cases h) (fun _ => ?_)
  refine E.skip ?_
  refine E.seq ?_
  refine E.seq ?_
  refine E.reg hr (by simp; rfl) ?_ -- region 22
  refine E.block ?_ -- 0
  refine E.loop ?_
  refine EL.step ?_
  refine E.seq ?_
  refine E.reg hr (by simp; rfl) ?_ -- region 23
  refine E.seq ?_
  refine E.cond (t := false) (by simp) (fun h => by cases h) (fun _ => ?_)
  refine E.exit ?_ -- 0
  refine E.seq ?_
  refine E.reg hr (by simp [g46, g56, g42, yieldedA, eql76, pksR, pksP, hre, hpe]; rfl) ?_ -- region 28
  refine E.ret ?_
  exact pureK.ret rfl rfl (by simp) (by repeat first | exact sub_refl _ | refine sub_cons rfl ?_)
set_option maxRecDepth 20000 in
theorem w8nn1 (lo hi : Int) (hre : refE [] lo hi = 0) : AC Tryz.prog 8 [.slice none 0 0, ivl lo hi, .slice none 0 0] (G0 : Heap) 9 (.bool true) (G0 : Heap) 9 := by
  have hr := recT_ok (P := Tryz.prog) (l := [(15, g15), (44, g44), (46, g46), (45, g45), (47, g47), (34, g34), (48, g48), (49, g49), (50, g50), (51, gBnd), (27, g94), (52, g52), (53, g53), (54, g54), (55, g55), (56, g56), (42, g42)]) (by simp [ok15, ok44, ok46, ok45, ok47, ok34, ok48, ok49, ok50, ok51, ok27, ok52, ok53, ok54, ok55, ok56, ok42])
  have hok : PksOk [] := (refE_ok hre).1
  have h64 : ([] : List Pk).length ≤ 64 := (refE_ok hre).2.1
  have hb : BndIn lo hi := (refE_ok hre).2.2
  have hcm : cmE [] lo hi [] = 0 := by rw [← cmE_good hre]; rfl
  have hE : firstV [pksE [], bndE lo hi] = refE [] lo hi := rfl
  have hpe : pksE [] = 0 := rfl
  have hs0 : seek [] lo hi = none := rfl
  have hR0 : refR [] lo hi = none := by unfold refR; split <;> rfl
  have hle : layE [] [] = 0 := rfl
  refine AC.pure Tryz.func8 rfl (by kernel_rfl) rfl [0, 7, 8, 9, 10, 11, 12, 13, 14, 15, 16, 17, 18, 19, 20, 21, 22, 23, 109, 110] rfl ?_
  refine E.seq ?_
  refine E.reg hr (by simp; rfl) ?_ -- region 0
  refine E.seq ?_
  refine E.seq ?_
  refine E.reg hr (by simp [g15, g44, yieldedA]; rfl) ?_ -- region 1
  refine E.cond (t := false) (by simp) (fun h => by cases h) (fun _ => ?_)
  refine E.skip ?_
  refine E.seq ?_
  refine E.drawC mixed hr [9] [1, 3, 8, 9] [1, 3, 9] (by kernel_rfl) (by simp [g46, g45, prA, prB, pksR, pksP, hre, hR0]; rfl) ?_ -- region 3
  refine E.seq ?_
  refine E.drawC mixed hr [3] [1, 3] [1, 3] (by kernel_rfl) (by simp [g46, g47, pksR, pksP, hre, hs0]; rfl) ?_ -- region 4
  refine E.seq ?_
  refine E.drawC mixed hr [5] [1, 4, 5] [1, 4, 5] (by kernel_rfl) (by simp [g46, g34, g48, pksR, pksN, intsW, intsM, hcm]; rfl) ?_ -- region 5
  refine E.seq ?_
  refine E.reg hr (by simp [g46, g34, g49, pksR, pksN, intsW, intsM, hle]; rfl) ?_ -- region 6
  refine E.seq ?_
  refine E.reg hr (by simp [g50, pksR]; rfl) ?_ -- region 7
  refine E.seq ?_
  refine E.reg hr (by simp [gBnd, g94, intsAt, flat, intsOf, hE]; rfl) ?_ -- region 8
  refine E.seq ?_
  refine E.reg hr (by simp; rfl) ?_ -- region 9
  refine E.seq ?_
  refine E.reg hr (by simp; rfl) ?_ -- region 10
  refine E.seq ?_
  refine E.reg hr (by simp; rfl) ?_ -- region 11
  refine E.seq ?_
  refine E.reg hr (by simp; rfl) ?_ -- region 12
  refine E.seq ?_
  refine E.reg hr (by simp; rfl) ?_ -- region 13
  refine E.seq ?_
  refine E.seq ?_
  refine E.reg hr (by simp [hre]; rfl) ?_ -- region 14
  refine E.cond (t := true) (by simp) (fun _ => ?_) (fun h => by cases h)
  refine E.seq ?_
  refine E.reg hr (by simp [g52, prA, prB, pksR, hre, hs0]; rfl) ?_ -- region 15
  refine E.seq ?_
  refine E.reg hr (by simp [g53, pksR, hre, hs0]; rfl) ?_ -- region 16
  refine E.reg hr (by simp [g54, hok, hb, cmG, pksR, intsW]; rfl) ?_ -- region 17
  refine E.seq ?_
  refine E.seq ?_
  refine E.reg hr (by simp [hpe]; rfl) ?_ -- region 18
  refine E.cond (t := true) (by simp) (fun _ => ?_) (fun h => by cases h)
  refine E.reg hr (by simp [g55, pksR, intsW, hle, hpe]; rfl) ?_ -- region 19
  refine E.seq ?_
  refine E.seq ?_
  refine E.reg hr (by simp; rfl) ?_ -- region 20
  refine E.cond (t := false) (by simp) (fun h => by cases h) (fun _ => ?_)
  refine E.skip ?_
  refine E.seq ?_
  refine E.seq ?_
  refine E.reg hr (by simp; rfl) ?_ -- region 22
  refine E.block ?_ -- 0
  refine E.loop ?_
  refine EL.step ?_
  refine E.seq ?_
  refine E.reg hr (by simp; rfl) ?_ -- region 23
  refine E.seq ?_
  refine E.cond (t := false) (by simp) (fun h => by cases h) (fun _ => ?_)
  refine E.exit ?_ -- 0
  refine E.seq ?_
  refine E.reg hr (by simp [g46, g56, g42, alikeI, intsAt, intsOf, yieldedA, eql76, flat, pksR, pksP, hpe]; rfl) ?_ -- region 28
  refine E.ret ?_
  exact pureK.ret rfl rfl (by simp) (by repeat first | exact sub_refl _ | refine sub_cons rfl ?_)
set_option maxRecDepth 20000 in
theorem w8ne0 (o2 c2 : Nat) (lo hi : Int) (hre : refE [] lo hi ≠ 0) : AC Tryz.prog 8 [.slice none 0 0, ivl lo hi, inpM 9 o2 0 c2] ((9, .inp o2 []) :: G0 : Heap) 10 (.bool true) ((9, .inp o2 []) :: G0 : Heap) 10 := by
  have hr := recT_ok (P := Tryz.prog) (l := [(15, g15), (44, g44), (46, g46), (45, g45), (47, g47), (34, g34), (48, g48), (49, g49), (50, g50), (51, gBnd), (27, g94), (52, g52), (53, g53), (54, g54), (55, g55), (56, g56), (42, g42)]) (by simp [ok15, ok44, ok46, ok45, ok47, ok34, ok48, ok49, ok50, ok51, ok27, ok52, ok53, ok54, ok55, ok56, ok42])
  have hR : refR [] lo hi = none := by rw [refR, if_neg hre]
  have hcm : cmE [] lo hi [] = refE [] lo hi := cmE_bad hre
  have hE : firstV [pksE [], bndE lo hi] = refE [] lo hi := rfl
  have hpe : pksE [] = 0 := rfl
  have hs0 : seek [] lo hi = none := rfl
  have hR0 : refR [] lo hi = none := by unfold refR; split <;> rfl
  have hle : layE [] [] = 0 := rfl
  refine AC.pure Tryz.func8 rfl (by kernel_rfl) rfl [0, 7, 8, 9, 10, 11, 12, 13, 14, 15, 16, 17, 18, 19, 20, 21, 22, 23, 109, 110] rfl ?_
  refine E.seq ?_
  refine E.reg hr (by simp; rfl) ?_ -- region 0
  refine E.seq ?_
  refine E.seq ?_
  refine E.reg hr (by simp [g15, g44, yieldedA]; rfl) ?_ -- region 1
  refine E.cond (t := false) (by simp) (fun h => by cases h) (fun _ => ?_)
  refine E.skip ?_
  refine E.seq ?_
  refine E.drawC mixed hr [9] [1, 3, 8, 9] [1, 3, 9] (by kernel_rfl) (by simp [g46, g45, prA, prB, pksR, pksP, hR0]; rfl) ?_ -- region 3
  refine E.seq ?_
  refine E.drawC mixed hr [3] [1, 3] [1, 3] (by kernel_rfl) (by simp [g46, g47, pksR, pksP, hre, hs0]; rfl) ?_ -- region 4
  refine E.seq ?_
  refine E.drawC mixed hr [5] [1, 4, 5] [1, 4, 5] (by kernel_rfl) (by simp [g46, g34, g48, flat, pksR, pksN, intsW, intsAt, intsM, intsOf, hcm]; rfl) ?_ -- region 5
  refine E.seq ?_
  refine E.reg hr (by simp [g46, g34, g49, flat, pksR, pksN, intsW, intsAt, intsM, intsOf, hle]; rfl) ?_ -- region 6
  refine E.seq ?_
  refine E.reg hr (by simp [g50, pksR]; rfl) ?_ -- region 7
  refine E.seq ?_
  refine E.reg hr (by simp [gBnd, g94, intsAt, flat, intsOf, hE]; rfl) ?_ -- region 8
  refine E.seq ?_
  refine E.reg hr (by simp; rfl) ?_ -- region 9
  refine E.seq ?_
  refine E.reg hr (by simp; rfl) ?_ -- region 10
  refine E.seq ?_
  refine E.reg hr (by simp; rfl) ?_ -- region 11
  refine E.seq ?_
  refine E.reg hr (by simp; rfl) ?_ -- region 12
  refine E.seq ?_
  refine E.reg hr (by simp; rfl) ?_ -- region 13
  refine E.seq ?_
  refine E.seq ?_
  refine E.reg hr (by simp [hre]; rfl) ?_ -- region 14
  refine E.cond (t := false) (by simp) (fun h => by cases h) (fun _ => ?_)
  refine E.skip ?_
  refine E.seq ?_
  refine E.seq ?_
  refine E.reg hr (by simp [hpe]; rfl) ?_ -- region 18
  refine E.cond (t := true) (by simp) (fun _ => ?_) (fun h => by cases h)
  refine E.reg hr (by simp [g55, flat, pksR, intsW, intsAt, intsOf, hle, hpe]; rfl) ?_ -- region 19
  refine E.seq ?_
  refine E.seq ?_
  refine E.reg hr (by simp; rfl) ?_ -- region 20
  refine E.cond (t := false) (by simp) (fun h => by cases h) (fun _ => ?_)
  refine E.skip ?_
  refine E.seq ?_
  refine E.seq ?_
  refine E.reg hr (by simp; rfl) ?_ -- region 22
  refine E.block ?_ -- 0
  refine E.loop ?_
  refine EL.step ?_
  refine E.seq ?_
  refine E.reg hr (by simp; rfl) ?_ -- region 23
  refine E.seq ?_
  refine E.cond (t := false) (by simp) (fun h => by cases h) (fun _ => ?_)
  refine E.exit ?_ -- 0
  refine E.seq ?_
  refine E.reg hr (by simp [g46, g56, g42, yieldedA, eql76, pksR, pksP, hre, hpe]; rfl) ?_ -- region 28
  refine E.ret ?_
  exact pureK.ret rfl rfl (by simp) (by repeat first | exact sub_refl _ | refine sub_cons rfl ?_)
set_option maxRecDepth 20000 in
theorem w8ne1 (o2 c2 : Nat) (lo hi : Int) (hre : refE [] lo hi = 0) : AC Tryz.prog 8 [.slice none 0 0, ivl lo hi, inpM 9 o2 0 c2] ((9, .inp o2 []) :: G0 : Heap) 10 (.bool true) ((9, .inp o2 []) :: G0 : Heap) 10 := by
  have hr := recT_ok (P := Tryz.prog) (l := [(15, g15), (44, g44), (46, g46), (45, g45), (47, g47), (34, g34), (48, g48), (49, g49), (50, g50), (51, gBnd), (27, g94), (52, g52), (53, g53), (54, g54), (55, g55), (56, g56), (42, g42)]) (by simp [ok15, ok44, ok46, ok45, ok47, ok34, ok48, ok49, ok50, ok51, ok27, ok52, ok53, ok54, ok55, ok56, ok42])
  have hok : PksOk [] := (refE_ok hre).1
  have h64 : ([] : List Pk).length ≤ 64 := (refE_ok hre).2.1
  have hb : BndIn lo hi := (refE_ok hre).2.2
  have hcm : cmE [] lo hi [] = 0 := by rw [← cmE_good hre]; rfl
  have hE : firstV [pksE [], bndE lo hi] = refE [] lo hi := rfl
  have hpe : pksE [] = 0 := rfl
  have hs0 : seek [] lo hi = none := rfl
  have hR0 : refR [] lo hi = none := by unfold refR; split <;> rfl
  have hle : layE [] [] = 0 := rfl
  refine AC.pure Tryz.func8 rfl (by kernel_rfl) rfl [0, 7, 8, 9, 10, 11, 12, 13, 14, 15, 16, 17, 18, 19, 20, 21, 22, 23, 109, 110] rfl ?_
  refine E.seq ?_
  refine E.reg hr (by simp; rfl) ?_ -- region 0
  refine E.seq ?_
  refine E.seq ?_
  refine E.reg hr (by simp [g15, g44, yieldedA]; rfl) ?_ -- region 1
  refine E.cond (t := false) (by simp) (fun h => by cases h) (fun _ => ?_)
  refine E.skip ?_
  refine E.seq ?_
  refine E.drawC mixed hr [9] [1, 3, 8, 9] [1, 3, 9] (by kernel_rfl) (by simp [g46, g45, prA, prB, pksR, pksP, hre, hR0]; rfl) ?_ -- region 3
  refine E.seq ?_
  refine E.drawC mixed hr [3] [1, 3] [1, 3] (by kernel_rfl) (by simp [g46, g47, pksR, pksP, hre, hs0]; rfl) ?_ -- region 4
  refine E.seq ?_
  refine E.drawC mixed hr [5] [1, 4, 5] [1, 4, 5] (by kernel_rfl) (by simp [g46, g34, g48, flat, pksR, pksN, intsW, intsAt, intsM, intsOf, hcm]; rfl) ?_ -- region 5
  refine E.seq ?_
  refine E.reg hr (by simp [g46, g34, g49, flat, pksR, pksN, intsW, intsAt, intsM, intsOf, hle]; rfl) ?_ -- region 6
  refine E.seq ?_
  refine E.reg hr (by simp [g50, pksR]; rfl) ?_ -- region 7
  refine E.seq ?_
  refine E.reg hr (by simp [gBnd, g94, intsAt, flat, intsOf, hE]; rfl) ?_ -- region 8
  refine E.seq ?_
  refine E.reg hr (by simp; rfl) ?_ -- region 9
  refine E.seq ?_
  refine E.reg hr (by simp; rfl) ?_ -- region 10
  refine E.seq ?_
  refine E.reg hr (by simp; rfl) ?_ -- region 11
  refine E.seq ?_
  refine E.reg hr (by simp; rfl) ?_ -- region 12
  refine E.seq ?_
  refine E.reg hr (by simp; rfl) ?_ -- region 13
  refine E.seq ?_
  refine E.seq ?_
  refine E.reg hr (by simp [hre]; rfl) ?_ -- region 14
  refine E.cond (t := true) (by simp) (fun _ => ?_) (fun h => by cases h)
  refine E.seq ?_
  refine E.reg hr (by simp [g52, prA, prB, pksR, hre, hs0]; rfl) ?_ -- region 15
  refine E.seq ?_
  refine E.reg hr (by simp [g53, pksR, hre, hs0]; rfl) ?_ -- region 16
  refine E.reg hr (by simp [g54, hok, hb, cmG, flat, pksR, intsW, intsAt, intsOf]; rfl) ?_ -- region 17
  refine E.seq ?_
  refine E.seq ?_
  refine E.reg hr (by simp [hpe]; rfl) ?_ -- region 18
  refine E.cond (t := true) (by simp) (fun _ => ?_) (fun h => by cases h)
  refine E.reg hr (by simp [g55, flat, pksR, intsW, intsAt, intsOf, hle, hpe]; rfl) ?_ -- region 19
  refine E.seq ?_
  refine E.seq ?_
  refine E.reg hr (by simp; rfl) ?_ -- region 20
  refine E.cond (t := false) (by simp) (fun h => by cases h) (fun _ => ?_)
  refine E.skip ?_
  refine E.seq ?_
  refine E.seq ?_
  refine E.reg hr (by simp; rfl) ?_ -- region 22
  refine E.block ?_ -- 0
  refine E.loop ?_
  refine EL.step ?_
  refine E.seq ?_
  refine E.reg hr (by simp; rfl) ?_ -- region 23
  refine E.seq ?_
  refine E.cond (t := false) (by simp) (fun h => by cases h) (fun _ => ?_)
  refine E.exit ?_ -- 0
  refine E.seq ?_
  refine E.reg hr (by simp [g46, g56, g42, alikeI, intsAt, intsOf, yieldedA, eql76, flat, pksR, pksP, hpe]; rfl) ?_ -- region 28
  refine E.ret ?_
  exact pureK.ret rfl rfl (by simp) (by repeat first | exact sub_refl _ | refine sub_cons rfl ?_)
set_option maxRecDepth 20000 in
theorem w8nm0 (ms : List Int) (o2 c2 : Nat) (hmn : ms ≠ []) (hm66 : ms.length ≤ 66) (lo hi : Int) (hre : refE [] lo hi ≠ 0) : AC Tryz.prog 8 [.slice none 0 0, ivl lo hi, inpM 9 o2 ms.length c2] ((9, .inp o2 (ms.map iv)) :: G0 : Heap) 10 (.bool true) ((9, .inp o2 (ms.map iv)) :: G0 : Heap) 10 := by
  have hr := recT_ok (P := Tryz.prog) (l := [(15, g15), (44, g44), (46, g46), (45, g45), (47, g47), (34, g34), (48, g48), (49, g49), (50, g50), (51, gBnd), (27, g94), (52, g52), (53, g53), (54, g54), (55, g55), (56, g56), (42, g42)]) (by simp [ok15, ok44, ok46, ok45, ok47, ok34, ok48, ok49, ok50, ok51, ok27, ok52, ok53, ok54, ok55, ok56, ok42])
  have hm' : ms.length < 2147483648 := by omega
  have hm4 : ms.length ≤ 4096 := by omega
  have hmI : ¬ (66 : Int) < (ms.length : Int) := by omega
  have htm : List.take ms.length (ms.map iv) = ms.map iv := List.take_of_length_le (by simp)
  have hR : refR [] lo hi = none := by rw [refR, if_neg hre]
  have hcm : cmE [] lo hi ms = refE [] lo hi := cmE_bad hre
  have hE : firstV [pksE [], bndE lo hi] = refE [] lo hi := rfl
  have hpe : pksE [] = 0 := rfl
  have hs0 : seek [] lo hi = none := rfl
  have hR0 : refR [] lo hi = none := by unfold refR; split <;> rfl
  have hle : layE [] ms ≠ 0 := fun e => hmn (List.length_eq_zero_iff.1 (layE_zero e).2.1)
  refine AC.pure Tryz.func8 rfl (by kernel_rfl) rfl [0, 7, 8, 9, 10, 11, 12, 13, 14, 15, 16, 17, 18, 19, 20, 21, 22, 23, 109, 110] rfl ?_
  refine E.seq ?_
  refine E.reg hr (by simp; rfl) ?_ -- region 0
  refine E.seq ?_
  refine E.seq ?_
  refine E.reg hr (by simp [g15, g44, yieldedA, hmI]; rfl) ?_ -- region 1
  refine E.cond (t := false) (by simp) (fun h => by cases h) (fun _ => ?_)
  refine E.skip ?_
  refine E.seq ?_
  refine E.drawC mixed hr [9] [1, 3, 8, 9] [1, 3, 9] (by kernel_rfl) (by simp [g46, g45, prA, prB, pksR, pksP, hR0]; rfl) ?_ -- region 3
  refine E.seq ?_
  refine E.drawC mixed hr [3] [1, 3] [1, 3] (by kernel_rfl) (by simp [g46, g47, pksR, pksP, hre, hs0]; rfl) ?_ -- region 4
  refine E.seq ?_
  refine E.drawC mixed hr [5] [1, 4, 5] [1, 4, 5] (by kernel_rfl) (by simp [g46, g34, g48, flat, pksR, pksN, hm', hm4, htm, hmn, intsOf_iv, intsW, intsM, intsAt, rowIntsN, rowInts, rowOf, hcm]; rfl) ?_ -- region 5
  refine E.seq ?_
  refine E.reg hr (by simp [g46, g34, g49, flat, pksR, pksN, hm', hm4, htm, hmn, intsOf_iv, intsW, intsM, intsAt, rowIntsN, rowInts, rowOf, hle]; rfl) ?_ -- region 6
  refine E.seq ?_
  refine E.reg hr (by simp [g50, pksR]; rfl) ?_ -- region 7
  refine E.seq ?_
  refine E.reg hr (by simp [gBnd, g94, intsAt, flat, intsOf, hE]; rfl) ?_ -- region 8
  refine E.seq ?_
  refine E.reg hr (by simp; rfl) ?_ -- region 9
  refine E.seq ?_
  refine E.reg hr (by simp; rfl) ?_ -- region 10
  refine E.seq ?_
  refine E.reg hr (by simp; rfl) ?_ -- region 11
  refine E.seq ?_
  refine E.reg hr (by simp; rfl) ?_ -- region 12
  refine E.seq ?_
  refine E.reg hr (by simp; rfl) ?_ -- region 13
  refine E.seq ?_
  refine E.seq ?_
  refine E.reg hr (by simp [hre]; rfl) ?_ -- region 14
  refine E.cond (t := false) (by simp) (fun h => by cases h) (fun _ => ?_)
  refine E.skip ?_
  refine E.seq ?_
  refine E.seq ?_
  refine E.reg hr (by simp [hpe]; rfl) ?_ -- region 18
  refine E.cond (t := true) (by simp) (fun _ => ?_) (fun h => by cases h)
  refine E.reg hr (by simp [g55, flat, pksR, hm', htm, intsOf_iv, intsW, intsAt, hle, hpe]; rfl) ?_ -- region 19
  refine E.seq ?_
  refine E.seq ?_
  refine E.reg hr (by simp; rfl) ?_ -- region 20
  refine E.cond (t := false) (by simp) (fun h => by cases h) (fun _ => ?_)
  refine E.skip ?_
  refine E.seq ?_
  refine E.seq ?_
  refine E.reg hr (by simp; rfl) ?_ -- region 22
  refine E.block ?_ -- 0
  refine E.loop ?_
  refine EL.step ?_
  refine E.seq ?_
  refine E.reg hr (by simp; rfl) ?_ -- region 23
  refine E.seq ?_
  refine E.cond (t := false) (by simp) (fun h => by cases h) (fun _ => ?_)
  refine E.exit ?_ -- 0
  refine E.seq ?_
  refine E.reg hr (by simp [g46, g56, g42, yieldedA, eql76, pksR, pksP, hre, hpe]; rfl) ?_ -- region 28
  refine E.ret ?_
  exact pureK.ret rfl rfl (by simp) (by repeat first | exact sub_refl _ | refine sub_cons rfl ?_)
set_option maxRecDepth 20000 in
theorem w8nm1 (ms : List Int) (o2 c2 : Nat) (hmn : ms ≠ []) (hm66 : ms.length ≤ 66) (lo hi : Int) (hre : refE [] lo hi = 0) : AC Tryz.prog 8 [.slice none 0 0, ivl lo hi, inpM 9 o2 ms.length c2] ((9, .inp o2 (ms.map iv)) :: G0 : Heap) 10 (.bool true) ((9, .inp o2 (ms.map iv)) :: G0 : Heap) 10 := by
  have hr := recT_ok (P := Tryz.prog) (l := [(15, g15), (44, g44), (46, g46), (45, g45), (47, g47), (34, g34), (48, g48), (49, g49), (50, g50), (51, gBnd), (27, g94), (52, g52), (53, g53), (54, g54), (55, g55), (56, g56), (42, g42)]) (by simp [ok15, ok44, ok46, ok45, ok47, ok34, ok48, ok49, ok50, ok51, ok27, ok52, ok53, ok54, ok55, ok56, ok42])
  have hm' : ms.length < 2147483648 := by omega
  have hm4 : ms.length ≤ 4096 := by omega
  have hmI : ¬ (66 : Int) < (ms.length : Int) := by omega
  have htm : List.take ms.length (ms.map iv) = ms.map iv := List.take_of_length_le (by simp)
  have hok : PksOk [] := (refE_ok hre).1
  have h64 : ([] : List Pk).length ≤ 64 := (refE_ok hre).2.1
  have hb : BndIn lo hi := (refE_ok hre).2.2
  have hcm : cmE [] lo hi ms = 2 := by rw [← cmE_good hre, if_neg (show ¬ ms.length = ([] : List Pk).length from fun e => hmn (List.length_eq_zero_iff.1 e))]
  have hE : firstV [pksE [], bndE lo hi] = refE [] lo hi := rfl
  have hpe : pksE [] = 0 := rfl
  have hs0 : seek [] lo hi = none := rfl
  have hR0 : refR [] lo hi = none := by unfold refR; split <;> rfl
  have hle : layE [] ms ≠ 0 := fun e => hmn (List.length_eq_zero_iff.1 (layE_zero e).2.1)
  refine AC.pure Tryz.func8 rfl (by kernel_rfl) rfl [0, 7, 8, 9, 10, 11, 12, 13, 14, 15, 16, 17, 18, 19, 20, 21, 22, 23, 109, 110] rfl ?_
  refine E.seq ?_
  refine E.reg hr (by simp; rfl) ?_ -- region 0
  refine E.seq ?_
  refine E.seq ?_
  refine E.reg hr (by simp [g15, g44, yieldedA, hmI]; rfl) ?_ -- region 1
  refine E.cond (t := false) (by simp) (fun h => by cases h) (fun _ => ?_)
  refine E.skip ?_
  refine E.seq ?_
  refine E.drawC mixed hr [9] [1, 3, 8, 9] [1, 3, 9] (by kernel_rfl) (by simp [g46, g45, prA, prB, pksR, pksP, hre, hR0]; rfl) ?_ -- region 3
  refine E.seq ?_
  refine E.drawC mixed hr [3] [1, 3] [1, 3] (by kernel_rfl) (by simp [g46, g47, pksR, pksP, hre, hs0]; rfl) ?_ -- region 4
  refine E.seq ?_
  refine E.drawC mixed hr [5] [1, 4, 5] [1, 4, 5] (by kernel_rfl) (by simp [g46, g34, g48, flat, pksR, pksN, hm', hm4, htm, hmn, intsOf_iv, intsW, intsM, intsAt, rowIntsN, rowInts, rowOf, hcm]; rfl) ?_ -- region 5
  refine E.seq ?_
  refine E.reg hr (by simp [g46, g34, g49, flat, pksR, pksN, hm', hm4, htm, hmn, intsOf_iv, intsW, intsM, intsAt, rowIntsN, rowInts, rowOf, hle]; rfl) ?_ -- region 6
  refine E.seq ?_
  refine E.reg hr (by simp [g50, pksR]; rfl) ?_ -- region 7
  refine E.seq ?_
  refine E.reg hr (by simp [gBnd, g94, intsAt, flat, intsOf, hE]; rfl) ?_ -- region 8
  refine E.seq ?_
  refine E.reg hr (by simp; rfl) ?_ -- region 9
  refine E.seq ?_
  refine E.reg hr (by simp; rfl) ?_ -- region 10
  refine E.seq ?_
  refine E.reg hr (by simp; rfl) ?_ -- region 11
  refine E.seq ?_
  refine E.reg hr (by simp; rfl) ?_ -- region 12
  refine E.seq ?_
  refine E.reg hr (by simp; rfl) ?_ -- region 13
  refine E.seq ?_
  refine E.seq ?_
  refine E.reg hr (by simp [hre]; rfl) ?_ -- region 14
  refine E.cond (t := true) (by simp) (fun _ => ?_) (fun h => by cases h)
  refine E.seq ?_
  refine E.reg hr (by simp [g52, prA, prB, pksR, hre, hs0]; rfl) ?_ -- region 15
  refine E.seq ?_
  refine E.reg hr (by simp [g53, pksR, hre, hs0]; rfl) ?_ -- region 16
  refine E.reg hr (by simp [g54, hok, hb, flat, pksR, hm', htm, hmn, intsOf_iv, intsW, intsAt]; rfl) ?_ -- region 17
  refine E.seq ?_
  refine E.seq ?_
  refine E.reg hr (by simp [hpe]; rfl) ?_ -- region 18
  refine E.cond (t := true) (by simp) (fun _ => ?_) (fun h => by cases h)
  refine E.reg hr (by simp [g55, flat, pksR, hm', htm, intsOf_iv, intsW, intsAt, hle, hpe]; rfl) ?_ -- region 19
  refine E.seq ?_
  refine E.seq ?_
  refine E.reg hr (by simp; rfl) ?_ -- region 20
  refine E.cond (t := false) (by simp) (fun h => by cases h) (fun _ => ?_)
  refine E.skip ?_
  refine E.seq ?_
  refine E.seq ?_
  refine E.reg hr (by simp; rfl) ?_ -- region 22
  refine E.block ?_ -- 0
  refine E.loop ?_
  refine EL.step ?_
  refine E.seq ?_
  refine E.reg hr (by simp; rfl) ?_ -- region 23
  refine E.seq ?_
  refine E.cond (t := false) (by simp) (fun h => by cases h) (fun _ => ?_)
  refine E.exit ?_ -- 0
  refine E.seq ?_
  refine E.reg hr (by simp [g46, g56, g42, alikeI, intsAt, intsOf, yieldedA, eql76, flat, pksR, pksP, hpe]; rfl) ?_ -- region 28
  refine E.ret ?_
  exact pureK.ret rfl rfl (by simp) (by repeat first | exact sub_refl _ | refine sub_cons rfl ?_)
end Go.Proofs.YtkongcnmkiihjaaGreatDoor

namespace Go.Proofs.YtkongcnmkiihjaaGreatDoor
open Go Go.Ab Go.Proofs
set_option maxRecDepth 20000 in
theorem w8en0 (o c : Nat) (lo hi : Int) (hre : refE [] lo hi ≠ 0) : AC Tryz.prog 8 [inpV o 0 c, ivl lo hi, .slice none 0 0] ((9, .inp o []) :: G0 : Heap) 10 (.bool true) ((9, .inp o []) :: G0 : Heap) 10 := by
  have hr := recT_ok (P := Tryz.prog) (l := [(15, g15), (44, g44), (46, g46), (45, g45), (47, g47), (34, g34), (48, g48), (49, g49), (50, g50), (51, gBnd), (27, g94), (52, g52), (53, g53), (54, g54), (55, g55), (56, g56), (42, g42)]) (by simp [ok15, ok44, ok46, ok45, ok47, ok34, ok48, ok49, ok50, ok51, ok27, ok52, ok53, ok54, ok55, ok56, ok42])
  have hR : refR [] lo hi = none := by rw [refR, if_neg hre]
  have hcm : cmE [] lo hi [] = refE [] lo hi := cmE_bad hre
  have hE : firstV [pksE [], bndE lo hi] = refE [] lo hi := rfl
  have hpe : pksE [] = 0 := rfl
  have hs0 : seek [] lo hi = none := rfl
  have hR0 : refR [] lo hi = none := by unfold refR; split <;> rfl
  have hle : layE [] [] = 0 := rfl
  refine AC.pure Tryz.func8 rfl (by kernel_rfl) rfl [0, 7, 8, 9, 10, 11, 12, 13, 14, 15, 16, 17, 18, 19, 20, 21, 22, 23, 109, 110] rfl ?_
  refine E.seq ?_
  refine E.reg hr (by simp; rfl) ?_ -- region 0
  refine E.seq ?_
  refine E.seq ?_
  refine E.reg hr (by simp [g15, g44, yieldedA, flat, shortK]; rfl) ?_ -- region 1
  refine E.cond (t := false) (by simp) (fun h => by cases h) (fun _ => ?_)
  refine E.skip ?_
  refine E.seq ?_
  refine E.drawC mixed hr [9] [1, 3, 8, 9] [1, 3, 9] (by kernel_rfl) (by simp [g46, g45, prA, prB, flat, pksR, pksAt, pksP, pksOf, hR0]; rfl) ?_ -- region 3
  refine E.seq ?_
  refine E.drawC mixed hr [3] [1, 3] [1, 3] (by kernel_rfl) (by simp [g46, g47, flat, pksR, pksAt, pksP, pksOf, hre, hs0]; rfl) ?_ -- region 4
  refine E.seq ?_
  refine E.drawC mixed hr [5] [1, 4, 5] [1, 4, 5] (by kernel_rfl) (by simp [g46, g34, g48, flat, pksR, pksAt, pksN, pksOf, intsW, intsM, hcm]; rfl) ?_ -- region 5
  refine E.seq ?_
  refine E.reg hr (by simp [g46, g34, g49, flat, pksR, pksAt, pksN, pksOf, intsW, intsM, hle]; rfl) ?_ -- region 6
  refine E.seq ?_
  refine E.reg hr (by simp [g50, flat, pksR, pksAt, pksOf]; rfl) ?_ -- region 7
  refine E.seq ?_
  refine E.reg hr (by simp [gBnd, g94, intsAt, flat, intsOf, hE]; rfl) ?_ -- region 8
  refine E.seq ?_
  refine E.reg hr (by simp; rfl) ?_ -- region 9
  refine E.seq ?_
  refine E.reg hr (by simp; rfl) ?_ -- region 10
  refine E.seq ?_
  refine E.reg hr (by simp; rfl) ?_ -- region 11
  refine E.seq ?_
  refine E.reg hr (by simp; rfl) ?_ -- region 12
  refine E.seq ?_
  refine E.reg hr (by simp; rfl) ?_ -- region 13
  refine E.seq ?_
  refine E.seq ?_
  refine E.reg hr (by simp [hre]; rfl) ?_ -- region 14
  refine E.cond (t := false) (by simp) (fun h => by cases h) (fun _ => ?_)
  refine E.skip ?_
  refine E.seq ?_
  refine E.seq ?_
  refine E.reg hr (by simp [hpe]; rfl) ?_ -- region 18
  refine E.cond (t := true) (by simp) (fun _ => ?_) (fun h => by cases h)
  refine E.reg hr (by simp [g55, flat, pksR, pksAt, pksOf, intsW, hle, hpe]; rfl) ?_ -- region 19
  refine E.seq ?_
  refine E.seq ?_
  refine E.reg hr (by simp; rfl) ?_ -- region 20
  refine E.cond (t := false) (by simp) (fun h => by cases h) (fun _ => ?_)
  refine E.skip ?_
  refine E.seq ?_
  refine E.seq ?_
  refine E.reg hr (by simp; rfl) ?_ -- region 22
  refine E.block ?_ -- 0
  refine E.loop ?_
  refine EL.step ?_
  refine E.seq ?_
  refine E.reg hr (by simp; rfl) ?_ -- region 23
  refine E.seq ?_
  refine E.cond (t := false) (by simp) (fun h => by cases h) (fun _ => ?_)
  refine E.exit ?_ -- 0
  refine E.seq ?_
  refine E.reg hr (by simp [g46, g56, g42, yieldedA, eql76, flat, pksR, pksAt, pksP, pksOf, hre, hpe]; rfl) ?_ -- region 28
  refine E.ret ?_
  exact pureK.ret rfl rfl (by simp) (by repeat first | exact sub_refl _ | refine sub_cons rfl ?_)
set_option maxRecDepth 20000 in
theorem w8en1 (o c : Nat) (lo hi : Int) (hre : refE [] lo hi = 0) : AC Tryz.prog 8 [inpV o 0 c, ivl lo hi, .slice none 0 0] ((9, .inp o []) :: G0 : Heap) 10 (.bool true) ((9, .inp o []) :: G0 : Heap) 10 := by
  have hr := recT_ok (P := Tryz.prog) (l := [(15, g15), (44, g44), (46, g46), (45, g45), (47, g47), (34, g34), (48, g48), (49, g49), (50, g50), (51, gBnd), (27, g94), (52, g52), (53, g53), (54, g54), (55, g55), (56, g56), (42, g42)]) (by simp [ok15, ok44, ok46, ok45, ok47, ok34, ok48, ok49, ok50, ok51, ok27, ok52, ok53, ok54, ok55, ok56, ok42])
  have hok : PksOk [] := (refE_ok hre).1
  have h64 : ([] : List Pk).length ≤ 64 := (refE_ok hre).2.1
  have hb : BndIn lo hi := (refE_ok hre).2.2
  have hcm : cmE [] lo hi [] = 0 := by rw [← cmE_good hre]; rfl
  have hE : firstV [pksE [], bndE lo hi] = refE [] lo hi := rfl
  have hpe : pksE [] = 0 := rfl
  have hs0 : seek [] lo hi = none := rfl
  have hR0 : refR [] lo hi = none := by unfold refR; split <;> rfl
  have hle : layE [] [] = 0 := rfl
  refine AC.pure Tryz.func8 rfl (by kernel_rfl) rfl [0, 7, 8, 9, 10, 11, 12, 13, 14, 15, 16, 17, 18, 19, 20, 21, 22, 23, 109, 110] rfl ?_
  refine E.seq ?_
  refine E.reg hr (by simp; rfl) ?_ -- region 0
  refine E.seq ?_
  refine E.seq ?_
  refine E.reg hr (by simp [g15, g44, yieldedA, flat, shortK]; rfl) ?_ -- region 1
  refine E.cond (t := false) (by simp) (fun h => by cases h) (fun _ => ?_)
  refine E.skip ?_
  refine E.seq ?_
  refine E.drawC mixed hr [9] [1, 3, 8, 9] [1, 3, 9] (by kernel_rfl) (by simp [g46, g45, prA, prB, flat, pksR, pksAt, pksP, pksOf, hre, hR0]; rfl) ?_ -- region 3
  refine E.seq ?_
  refine E.drawC mixed hr [3] [1, 3] [1, 3] (by kernel_rfl) (by simp [g46, g47, flat, pksR, pksAt, pksP, pksOf, hre, hs0]; rfl) ?_ -- region 4
  refine E.seq ?_
  refine E.drawC mixed hr [5] [1, 4, 5] [1, 4, 5] (by kernel_rfl) (by simp [g46, g34, g48, flat, pksR, pksAt, pksN, pksOf, intsW, intsM, hcm]; rfl) ?_ -- region 5
  refine E.seq ?_
  refine E.reg hr (by simp [g46, g34, g49, flat, pksR, pksAt, pksN, pksOf, intsW, intsM, hle]; rfl) ?_ -- region 6
  refine E.seq ?_
  refine E.reg hr (by simp [g50, flat, pksR, pksAt, pksOf]; rfl) ?_ -- region 7
  refine E.seq ?_
  refine E.reg hr (by simp [gBnd, g94, intsAt, flat, intsOf, hE]; rfl) ?_ -- region 8
  refine E.seq ?_
  refine E.reg hr (by simp; rfl) ?_ -- region 9
  refine E.seq ?_
  refine E.reg hr (by simp; rfl) ?_ -- region 10
  refine E.seq ?_
  refine E.reg hr (by simp; rfl) ?_ -- region 11
  refine E.seq ?_
  refine E.reg hr (by simp; rfl) ?_ -- region 12
  refine E.seq ?_
  refine E.reg hr (by simp; rfl) ?_ -- region 13
  refine E.seq ?_
  refine E.seq ?_
  refine E.reg hr (by simp [hre]; rfl) ?_ -- region 14
  refine E.cond (t := true) (by simp) (fun _ => ?_) (fun h => by cases h)
  refine E.seq ?_
  refine E.reg hr (by simp [g52, prA, prB, flat, pksR, pksAt, pksOf, hre, hs0]; rfl) ?_ -- region 15
  refine E.seq ?_
  refine E.reg hr (by simp [g53, flat, pksR, pksAt, pksOf, hre, hs0]; rfl) ?_ -- region 16
  refine E.reg hr (by simp [g54, hok, hb, cmG, flat, pksR, pksAt, pksOf, intsW]; rfl) ?_ -- region 17
  refine E.seq ?_
  refine E.seq ?_
  refine E.reg hr (by simp [hpe]; rfl) ?_ -- region 18
  refine E.cond (t := true) (by simp) (fun _ => ?_) (fun h => by cases h)
  refine E.reg hr (by simp [g55, flat, pksR, pksAt, pksOf, intsW, hle, hpe]; rfl) ?_ -- region 19
  refine E.seq ?_
  refine E.seq ?_
  refine E.reg hr (by simp; rfl) ?_ -- region 20
  refine E.cond (t := false) (by simp) (fun h => by cases h) (fun _ => ?_)
  refine E.skip ?_
  refine E.seq ?_
  refine E.seq ?_
  refine E.reg hr (by simp; rfl) ?_ -- region 22
  refine E.block ?_ -- 0
  refine E.loop ?_
  refine EL.step ?_
  refine E.seq ?_
  refine E.reg hr (by simp; rfl) ?_ -- region 23
  refine E.seq ?_
  refine E.cond (t := false) (by simp) (fun h => by cases h) (fun _ => ?_)
  refine E.exit ?_ -- 0
  refine E.seq ?_
  refine E.reg hr (by simp [g46, g56, g42, alikeI, intsAt, intsOf, yieldedA, eql76, flat, pksR, pksAt, pksP, pksOf, hpe]; rfl) ?_ -- region 28
  refine E.ret ?_
  exact pureK.ret rfl rfl (by simp) (by repeat first | exact sub_refl _ | refine sub_cons rfl ?_)
set_option maxRecDepth 20000 in
theorem w8ee0 (o c : Nat) (o2 c2 : Nat) (lo hi : Int) (hre : refE [] lo hi ≠ 0) : AC Tryz.prog 8 [inpV o 0 c, ivl lo hi, inpM 10 o2 0 c2] ((10, .inp o2 []) :: (9, .inp o []) :: G0 : Heap) 11 (.bool true) ((10, .inp o2 []) :: (9, .inp o []) :: G0 : Heap) 11 := by
  have hr := recT_ok (P := Tryz.prog) (l := [(15, g15), (44, g44), (46, g46), (45, g45), (47, g47), (34, g34), (48, g48), (49, g49), (50, g50), (51, gBnd), (27, g94), (52, g52), (53, g53), (54, g54), (55, g55), (56, g56), (42, g42)]) (by simp [ok15, ok44, ok46, ok45, ok47, ok34, ok48, ok49, ok50, ok51, ok27, ok52, ok53, ok54, ok55, ok56, ok42])
  have hR : refR [] lo hi = none := by rw [refR, if_neg hre]
  have hcm : cmE [] lo hi [] = refE [] lo hi := cmE_bad hre
  have hE : firstV [pksE [], bndE lo hi] = refE [] lo hi := rfl
  have hpe : pksE [] = 0 := rfl
  have hs0 : seek [] lo hi = none := rfl
  have hR0 : refR [] lo hi = none := by unfold refR; split <;> rfl
  have hle : layE [] [] = 0 := rfl
  refine AC.pure Tryz.func8 rfl (by kernel_rfl) rfl [0, 7, 8, 9, 10, 11, 12, 13, 14, 15, 16, 17, 18, 19, 20, 21, 22, 23, 109, 110] rfl ?_
  refine E.seq ?_
  refine E.reg hr (by simp; rfl) ?_ -- region 0
  refine E.seq ?_
  refine E.seq ?_
  refine E.reg hr (by simp [g15, g44, yieldedA, flat, shortK]; rfl) ?_ -- region 1
  refine E.cond (t := false) (by simp) (fun h => by cases h) (fun _ => ?_)
  refine E.skip ?_
  refine E.seq ?_
  refine E.drawC mixed hr [9] [1, 3, 8, 9] [1, 3, 9] (by kernel_rfl) (by simp [g46, g45, prA, prB, flat, pksR, pksAt, pksP, pksOf, hR0]; rfl) ?_ -- region 3
  refine E.seq ?_
  refine E.drawC mixed hr [3] [1, 3] [1, 3] (by kernel_rfl) (by simp [g46, g47, flat, pksR, pksAt, pksP, pksOf, hre, hs0]; rfl) ?_ -- region 4
  refine E.seq ?_
  refine E.drawC mixed hr [5] [1, 4, 5] [1, 4, 5] (by kernel_rfl) (by simp [g46, g34, g48, flat, pksR, pksAt, pksN, pksOf, intsW, intsAt, intsM, intsOf, hcm]; rfl) ?_ -- region 5
  refine E.seq ?_
  refine E.reg hr (by simp [g46, g34, g49, flat, pksR, pksAt, pksN, pksOf, intsW, intsAt, intsM, intsOf, hle]; rfl) ?_ -- region 6
  refine E.seq ?_
  refine E.reg hr (by simp [g50, flat, pksR, pksAt, pksOf]; rfl) ?_ -- region 7
  refine E.seq ?_
  refine E.reg hr (by simp [gBnd, g94, intsAt, flat, intsOf, hE]; rfl) ?_ -- region 8
  refine E.seq ?_
  refine E.reg hr (by simp; rfl) ?_ -- region 9
  refine E.seq ?_
  refine E.reg hr (by simp; rfl) ?_ -- region 10
  refine E.seq ?_
  refine E.reg hr (by simp; rfl) ?_ -- region 11
  refine E.seq ?_
  refine E.reg hr (by simp; rfl) ?_ -- region 12
  refine E.seq ?_
  refine E.reg hr (by simp; rfl) ?_ -- region 13
  refine E.seq ?_
  refine E.seq ?_
  refine E.reg hr (by simp [hre]; rfl) ?_ -- region 14
  refine E.cond (t := false) (by simp) (fun h => by cases h) (fun _ => ?_)
  refine E.skip ?_
  refine E.seq ?_
  refine E.seq ?_
  refine E.reg hr (by simp [hpe]; rfl) ?_ -- region 18
  refine E.cond (t := true) (by simp) (fun _ => ?_) (fun h => by cases h)
  refine E.reg hr (by simp [g55, flat, pksR, pksAt, pksOf, intsW, intsAt, intsOf, hle, hpe]; rfl) ?_ -- region 19
  refine E.seq ?_
  refine E.seq ?_
  refine E.reg hr (by simp; rfl) ?_ -- region 20
  refine E.cond (t := false) (by simp) (fun h => by cases h) (fun _ => ?_)
  refine E.skip ?_
  refine E.seq ?_
  refine E.seq ?_
  refine E.reg hr (by simp; rfl) ?_ -- region 22
  refine E.block ?_ -- 0
  refine E.loop ?_
  refine EL.step ?_
  refine E.seq ?_
  refine E.reg hr (by simp; rfl) ?_ -- region 23
  refine E.seq ?_
  refine E.cond (t := false) (by simp) (fun h => by cases h) (fun _ => ?_)
  refine E.exit ?_ -- 0
  refine E.seq ?_
  refine E.reg hr (by simp [g46, g56, g42, yieldedA, eql76, flat, pksR, pksAt, pksP, pksOf, hre, hpe]; rfl) ?_ -- region 28
  refine E.ret ?_
  exact pureK.ret rfl rfl (by simp) (by repeat first | exact sub_refl _ | refine sub_cons rfl ?_)
set_option maxRecDepth 20000 in
theorem w8ee1 (o c : Nat) (o2 c2 : Nat) (lo hi : Int) (hre : refE [] lo hi = 0) : AC Tryz.prog 8 [inpV o 0 c, ivl lo hi, inpM 10 o2 0 c2] ((10, .inp o2 []) :: (9, .inp o []) :: G0 : Heap) 11 (.bool true) ((10, .inp o2 []) :: (9, .inp o []) :: G0 : Heap) 11 := by
  have hr := recT_ok (P := Tryz.prog) (l := [(15, g15), (44, g44), (46, g46), (45, g45), (47, g47), (34, g34), (48, g48), (49, g49), (50, g50), (51, gBnd), (27, g94), (52, g52), (53, g53), (54, g54), (55, g55), (56, g56), (42, g42)]) (by simp [ok15, ok44, ok46, ok45, ok47, ok34, ok48, ok49, ok50, ok51, ok27, ok52, ok53, ok54, ok55, ok56, ok42])
  have hok : PksOk [] := (refE_ok hre).1
  have h64 : ([] : List Pk).length ≤ 64 := (refE_ok hre).2.1
  have hb : BndIn lo hi := (refE_ok hre).2.2
  have hcm : cmE [] lo hi [] = 0 := by rw [← cmE_good hre]; rfl
  have hE : firstV [pksE [], bndE lo hi] = refE [] lo hi := rfl
  have hpe : pksE [] = 0 := rfl
  have hs0 : seek [] lo hi = none := rfl
  have hR0 : refR [] lo hi = none := by unfold refR; split <;> rfl
  have hle : layE [] [] = 0 := rfl
  refine AC.pure Tryz.func8 rfl (by kernel_rfl) rfl [0, 7, 8, 9, 10, 11, 12, 13, 14, 15, 16, 17, 18, 19, 20, 21, 22, 23, 109, 110] rfl ?_
  refine E.seq ?_
  refine E.reg hr (by simp; rfl) ?_ -- region 0
  refine E.seq ?_
  refine E.seq ?_
  refine E.reg hr (by simp [g15, g44, yieldedA, flat, shortK]; rfl) ?_ -- region 1
  refine E.cond (t := false) (by simp) (fun h => by cases h) (fun _ => ?_)
  refine E.skip ?_
  refine E.seq ?_
  refine E.drawC mixed hr [9] [1, 3, 8, 9] [1, 3, 9] (by kernel_rfl) (by simp [g46, g45, prA, prB, flat, pksR, pksAt, pksP, pksOf, hre, hR0]; rfl) ?_ -- region 3
  refine E.seq ?_
  refine E.drawC mixed hr [3] [1, 3] [1, 3] (by kernel_rfl) (by simp [g46, g47, flat, pksR, pksAt, pksP, pksOf, hre, hs0]; rfl) ?_ -- region 4
  refine E.seq ?_
  refine E.drawC mixed hr [5] [1, 4, 5] [1, 4, 5] (by kernel_rfl) (by simp [g46, g34, g48, flat, pksR, pksAt, pksN, pksOf, intsW, intsAt, intsM, intsOf, hcm]; rfl) ?_ -- region 5
  refine E.seq ?_
  refine E.reg hr (by simp [g46, g34, g49, flat, pksR, pksAt, pksN, pksOf, intsW, intsAt, intsM, intsOf, hle]; rfl) ?_ -- region 6
  refine E.seq ?_
  refine E.reg hr (by simp [g50, flat, pksR, pksAt, pksOf]; rfl) ?_ -- region 7
  refine E.seq ?_
  refine E.reg hr (by simp [gBnd, g94, intsAt, flat, intsOf, hE]; rfl) ?_ -- region 8
  refine E.seq ?_
  refine E.reg hr (by simp; rfl) ?_ -- region 9
  refine E.seq ?_
  refine E.reg hr (by simp; rfl) ?_ -- region 10
  refine E.seq ?_
  refine E.reg hr (by simp; rfl) ?_ -- region 11
  refine E.seq ?_
  refine E.reg hr (by simp; rfl) ?_ -- region 12
  refine E.seq ?_
  refine E.reg hr (by simp; rfl) ?_ -- region 13
  refine E.seq ?_
  refine E.seq ?_
  refine E.reg hr (by simp [hre]; rfl) ?_ -- region 14
  refine E.cond (t := true) (by simp) (fun _ => ?_) (fun h => by cases h)
  refine E.seq ?_
  refine E.reg hr (by simp [g52, prA, prB, flat, pksR, pksAt, pksOf, hre, hs0]; rfl) ?_ -- region 15
  refine E.seq ?_
  refine E.reg hr (by simp [g53, flat, pksR, pksAt, pksOf, hre, hs0]; rfl) ?_ -- region 16
  refine E.reg hr (by simp [g54, hok, hb, cmG, flat, pksR, pksAt, pksOf, intsW, intsAt, intsOf]; rfl) ?_ -- region 17
  refine E.seq ?_
  refine E.seq ?_
  refine E.reg hr (by simp [hpe]; rfl) ?_ -- region 18
  refine E.cond (t := true) (by simp) (fun _ => ?_) (fun h => by cases h)
  refine E.reg hr (by simp [g55, flat, pksR, pksAt, pksOf, intsW, intsAt, intsOf, hle, hpe]; rfl) ?_ -- region 19
  refine E.seq ?_
  refine E.seq ?_
  refine E.reg hr (by simp; rfl) ?_ -- region 20
  refine E.cond (t := false) (by simp) (fun h => by cases h) (fun _ => ?_)
  refine E.skip ?_
  refine E.seq ?_
  refine E.seq ?_
  refine E.reg hr (by simp; rfl) ?_ -- region 22
  refine E.block ?_ -- 0
  refine E.loop ?_
  refine EL.step ?_
  refine E.seq ?_
  refine E.reg hr (by simp; rfl) ?_ -- region 23
  refine E.seq ?_
  refine E.cond (t := false) (by simp) (fun h => by cases h) (fun _ => ?_)
  refine E.exit ?_ -- 0
  refine E.seq ?_
  refine E.reg hr (by simp [g46, g56, g42, alikeI, intsAt, intsOf, yieldedA, eql76, flat, pksR, pksAt, pksP, pksOf, hpe]; rfl) ?_ -- region 28
  refine E.ret ?_
  exact pureK.ret rfl rfl (by simp) (by repeat first | exact sub_refl _ | refine sub_cons rfl ?_)
set_option maxRecDepth 20000 in
theorem w8em0 (o c : Nat) (ms : List Int) (o2 c2 : Nat) (hmn : ms ≠ []) (hm66 : ms.length ≤ 66) (lo hi : Int) (hre : refE [] lo hi ≠ 0) : AC Tryz.prog 8 [inpV o 0 c, ivl lo hi, inpM 10 o2 ms.length c2] ((10, .inp o2 (ms.map iv)) :: (9, .inp o []) :: G0 : Heap) 11 (.bool true) ((10, .inp o2 (ms.map iv)) :: (9, .inp o []) :: G0 : Heap) 11 := by
  have hr := recT_ok (P := Tryz.prog) (l := [(15, g15), (44, g44), (46, g46), (45, g45), (47, g47), (34, g34), (48, g48), (49, g49), (50, g50), (51, gBnd), (27, g94), (52, g52), (53, g53), (54, g54), (55, g55), (56, g56), (42, g42)]) (by simp [ok15, ok44, ok46, ok45, ok47, ok34, ok48, ok49, ok50, ok51, ok27, ok52, ok53, ok54, ok55, ok56, ok42])
  have hm' : ms.length < 2147483648 := by omega
  have hm4 : ms.length ≤ 4096 := by omega
  have hmI : ¬ (66 : Int) < (ms.length : Int) := by omega
  have htm : List.take ms.length (ms.map iv) = ms.map iv := List.take_of_length_le (by simp)
  have hR : refR [] lo hi = none := by rw [refR, if_neg hre]
  have hcm : cmE [] lo hi ms = refE [] lo hi := cmE_bad hre
  have hE : firstV [pksE [], bndE lo hi] = refE [] lo hi := rfl
  have hpe : pksE [] = 0 := rfl
  have hs0 : seek [] lo hi = none := rfl
  have hR0 : refR [] lo hi = none := by unfold refR; split <;> rfl
  have hle : layE [] ms ≠ 0 := fun e => hmn (List.length_eq_zero_iff.1 (layE_zero e).2.1)
  refine AC.pure Tryz.func8 rfl (by kernel_rfl) rfl [0, 7, 8, 9, 10, 11, 12, 13, 14, 15, 16, 17, 18, 19, 20, 21, 22, 23, 109, 110] rfl ?_
  refine E.seq ?_
  refine E.reg hr (by simp; rfl) ?_ -- region 0
  refine E.seq ?_
  refine E.seq ?_
  refine E.reg hr (by simp [g15, g44, yieldedA, flat, shortK, hmI]; rfl) ?_ -- region 1
  refine E.cond (t := false) (by simp) (fun h => by cases h) (fun _ => ?_)
  refine E.skip ?_
  refine E.seq ?_
  refine E.drawC mixed hr [9] [1, 3, 8, 9] [1, 3, 9] (by kernel_rfl) (by simp [g46, g45, prA, prB, flat, pksR, pksAt, pksP, pksOf, hR0]; rfl) ?_ -- region 3
  refine E.seq ?_
  refine E.drawC mixed hr [3] [1, 3] [1, 3] (by kernel_rfl) (by simp [g46, g47, flat, pksR, pksAt, pksP, pksOf, hre, hs0]; rfl) ?_ -- region 4
  refine E.seq ?_
  refine E.drawC mixed hr [5] [1, 4, 5] [1, 4, 5] (by kernel_rfl) (by simp [g46, g34, g48, flat, pksR, pksAt, pksN, pksOf, hm', hm4, htm, hmn, intsOf_iv, intsW, intsM, intsAt, rowIntsN, rowInts, rowOf, hcm]; rfl) ?_ -- region 5
  refine E.seq ?_
  refine E.reg hr (by simp [g46, g34, g49, flat, pksR, pksAt, pksN, pksOf, hm', hm4, htm, hmn, intsOf_iv, intsW, intsM, intsAt, rowIntsN, rowInts, rowOf, hle]; rfl) ?_ -- region 6
  refine E.seq ?_
  refine E.reg hr (by simp [g50, flat, pksR, pksAt, pksOf]; rfl) ?_ -- region 7
  refine E.seq ?_
  refine E.reg hr (by simp [gBnd, g94, intsAt, flat, intsOf, hE]; rfl) ?_ -- region 8
  refine E.seq ?_
  refine E.reg hr (by simp; rfl) ?_ -- region 9
  refine E.seq ?_
  refine E.reg hr (by simp; rfl) ?_ -- region 10
  refine E.seq ?_
  refine E.reg hr (by simp; rfl) ?_ -- region 11
  refine E.seq ?_
  refine E.reg hr (by simp; rfl) ?_ -- region 12
  refine E.seq ?_
  refine E.reg hr (by simp; rfl) ?_ -- region 13
  refine E.seq ?_
  refine E.seq ?_
  refine E.reg hr (by simp [hre]; rfl) ?_ -- region 14
  refine E.cond (t := false) (by simp) (fun h => by cases h) (fun _ => ?_)
  refine E.skip ?_
  refine E.seq ?_
  refine E.seq ?_
  refine E.reg hr (by simp [hpe]; rfl) ?_ -- region 18
  refine E.cond (t := true) (by simp) (fun _ => ?_) (fun h => by cases h)
  refine E.reg hr (by simp [g55, flat, pksR, pksAt, pksOf, hm', htm, intsOf_iv, intsW, intsAt, hle, hpe]; rfl) ?_ -- region 19
  refine E.seq ?_
  refine E.seq ?_
  refine E.reg hr (by simp; rfl) ?_ -- region 20
  refine E.cond (t := false) (by simp) (fun h => by cases h) (fun _ => ?_)
  refine E.skip ?_
  refine E.seq ?_
  refine E.seq ?_
  refine E.reg hr (by simp; rfl) ?_ -- region 22
  refine E.block ?_ -- 0
  refine E.loop ?_
  refine EL.step ?_
  refine E.seq ?_
  refine E.reg hr (by simp; rfl) ?_ -- region 23
  refine E.seq ?_
  refine E.cond (t := false) (by simp) (fun h => by cases h) (fun _ => ?_)
  refine E.exit ?_ -- 0
  refine E.seq ?_
  refine E.reg hr (by simp [g46, g56, g42, yieldedA, eql76, flat, pksR, pksAt, pksP, pksOf, hre, hpe]; rfl) ?_ -- region 28
  refine E.ret ?_
  exact pureK.ret rfl rfl (by simp) (by repeat first | exact sub_refl _ | refine sub_cons rfl ?_)
set_option maxRecDepth 20000 in
theorem w8em1 (o c : Nat) (ms : List Int) (o2 c2 : Nat) (hmn : ms ≠ []) (hm66 : ms.length ≤ 66) (lo hi : Int) (hre : refE [] lo hi = 0) : AC Tryz.prog 8 [inpV o 0 c, ivl lo hi, inpM 10 o2 ms.length c2] ((10, .inp o2 (ms.map iv)) :: (9, .inp o []) :: G0 : Heap) 11 (.bool true) ((10, .inp o2 (ms.map iv)) :: (9, .inp o []) :: G0 : Heap) 11 := by
  have hr := recT_ok (P := Tryz.prog) (l := [(15, g15), (44, g44), (46, g46), (45, g45), (47, g47), (34, g34), (48, g48), (49, g49), (50, g50), (51, gBnd), (27, g94), (52, g52), (53, g53), (54, g54), (55, g55), (56, g56), (42, g42)]) (by simp [ok15, ok44, ok46, ok45, ok47, ok34, ok48, ok49, ok50, ok51, ok27, ok52, ok53, ok54, ok55, ok56, ok42])
  have hm' : ms.length < 2147483648 := by omega
  have hm4 : ms.length ≤ 4096 := by omega
  have hmI : ¬ (66 : Int) < (ms.length : Int) := by omega
  have htm : List.take ms.length (ms.map iv) = ms.map iv := List.take_of_length_le (by simp)
  have hok : PksOk [] := (refE_ok hre).1
  have h64 : ([] : List Pk).length ≤ 64 := (refE_ok hre).2.1
  have hb : BndIn lo hi := (refE_ok hre).2.2
  have hcm : cmE [] lo hi ms = 2 := by rw [← cmE_good hre, if_neg (show ¬ ms.length = ([] : List Pk).length from fun e => hmn (List.length_eq_zero_iff.1 e))]
  have hE : firstV [pksE [], bndE lo hi] = refE [] lo hi := rfl
  have hpe : pksE [] = 0 := rfl
  have hs0 : seek [] lo hi = none := rfl
  have hR0 : refR [] lo hi = none := by unfold refR; split <;> rfl
  have hle : layE [] ms ≠ 0 := fun e => hmn (List.length_eq_zero_iff.1 (layE_zero e).2.1)
  refine AC.pure Tryz.func8 rfl (by kernel_rfl) rfl [0, 7, 8, 9, 10, 11, 12, 13, 14, 15, 16, 17, 18, 19, 20, 21, 22, 23, 109, 110] rfl ?_
  refine E.seq ?_
  refine E.reg hr (by simp; rfl) ?_ -- region 0
  refine E.seq ?_
  refine E.seq ?_
  refine E.reg hr (by simp [g15, g44, yieldedA, flat, shortK, hmI]; rfl) ?_ -- region 1
  refine E.cond (t := false) (by simp) (fun h => by cases h) (fun _ => ?_)
  refine E.skip ?_
  refine E.seq ?_
  refine E.drawC mixed hr [9] [1, 3, 8, 9] [1, 3, 9] (by kernel_rfl) (by simp [g46, g45, prA, prB, flat, pksR, pksAt, pksP, pksOf, hre, hR0]; rfl) ?_ -- region 3
  refine E.seq ?_
  refine E.drawC mixed hr [3] [1, 3] [1, 3] (by kernel_rfl) (by simp [g46, g47, flat, pksR, pksAt, pksP, pksOf, hre, hs0]; rfl) ?_ -- region 4
  refine E.seq ?_
  refine E.drawC mixed hr [5] [1, 4, 5] [1, 4, 5] (by kernel_rfl) (by simp [g46, g34, g48, flat, pksR, pksAt, pksN, pksOf, hm', hm4, htm, hmn, intsOf_iv, intsW, intsM, intsAt, rowIntsN, rowInts, rowOf, hcm]; rfl) ?_ -- region 5
  refine E.seq ?_
  refine E.reg hr (by simp [g46, g34, g49, flat, pksR, pksAt, pksN, pksOf, hm', hm4, htm, hmn, intsOf_iv, intsW, intsM, intsAt, rowIntsN, rowInts, rowOf, hle]; rfl) ?_ -- region 6
  refine E.seq ?_
  refine E.reg hr (by simp [g50, flat, pksR, pksAt, pksOf]; rfl) ?_ -- region 7
  refine E.seq ?_
  refine E.reg hr (by simp [gBnd, g94, intsAt, flat, intsOf, hE]; rfl) ?_ -- region 8
  refine E.seq ?_
  refine E.reg hr (by simp; rfl) ?_ -- region 9
  refine E.seq ?_
  refine E.reg hr (by simp; rfl) ?_ -- region 10
  refine E.seq ?_
  refine E.reg hr (by simp; rfl) ?_ -- region 11
  refine E.seq ?_
  refine E.reg hr (by simp; rfl) ?_ -- region 12
  refine E.seq ?_
  refine E.reg hr (by simp; rfl) ?_ -- region 13
  refine E.seq ?_
  refine E.seq ?_
  refine E.reg hr (by simp [hre]; rfl) ?_ -- region 14
  refine E.cond (t := true) (by simp) (fun _ => ?_) (fun h => by cases h)
  refine E.seq ?_
  refine E.reg hr (by simp [g52, prA, prB, flat, pksR, pksAt, pksOf, hre, hs0]; rfl) ?_ -- region 15
  refine E.seq ?_
  refine E.reg hr (by simp [g53, flat, pksR, pksAt, pksOf, hre, hs0]; rfl) ?_ -- region 16
  refine E.reg hr (by simp [g54, hok, hb, flat, pksR, pksAt, pksOf, hm', htm, hmn, intsOf_iv, intsW, intsAt]; rfl) ?_ -- region 17
  refine E.seq ?_
  refine E.seq ?_
  refine E.reg hr (by simp [hpe]; rfl) ?_ -- region 18
  refine E.cond (t := true) (by simp) (fun _ => ?_) (fun h => by cases h)
  refine E.reg hr (by simp [g55, flat, pksR, pksAt, pksOf, hm', htm, intsOf_iv, intsW, intsAt, hle, hpe]; rfl) ?_ -- region 19
  refine E.seq ?_
  refine E.seq ?_
  refine E.reg hr (by simp; rfl) ?_ -- region 20
  refine E.cond (t := false) (by simp) (fun h => by cases h) (fun _ => ?_)
  refine E.skip ?_
  refine E.seq ?_
  refine E.seq ?_
  refine E.reg hr (by simp; rfl) ?_ -- region 22
  refine E.block ?_ -- 0
  refine E.loop ?_
  refine EL.step ?_
  refine E.seq ?_
  refine E.reg hr (by simp; rfl) ?_ -- region 23
  refine E.seq ?_
  refine E.cond (t := false) (by simp) (fun h => by cases h) (fun _ => ?_)
  refine E.exit ?_ -- 0
  refine E.seq ?_
  refine E.reg hr (by simp [g46, g56, g42, alikeI, intsAt, intsOf, yieldedA, eql76, flat, pksR, pksAt, pksP, pksOf, hpe]; rfl) ?_ -- region 28
  refine E.ret ?_
  exact pureK.ret rfl rfl (by simp) (by repeat first | exact sub_refl _ | refine sub_cons rfl ?_)
end Go.Proofs.YtkongcnmkiihjaaGreatDoor

namespace Go.Proofs.YtkongcnmkiihjaaGreatDoor
open Go Go.Ab Go.Proofs
theorem w8spn (l : List Pk) (o c : Nat) (lo hi : Int) (h : shortK l.length = false) : AC Tryz.prog 8 [inpV o l.length c, ivl lo hi, .slice none 0 0] ((9, .inp o (pcs l)) :: G0 : Heap) 10 (.bool true) ((9, .inp o (pcs l)) :: G0 : Heap) 10 := by
  have hr := recT_ok (P := Tryz.prog) (l := [(15, g15), (44, g44)]) (by simp [ok15, ok44])
  refine AC.pure Tryz.func8 rfl (by kernel_rfl) rfl [] rfl ?_
  refine E.seq ?_
  refine E.reg hr (by simp; rfl) ?_ -- region 0
  refine E.seq ?_
  refine E.seq ?_
  refine E.reg hr (by simp [g15, g44, yieldedA, flat, h]; rfl) ?_ -- region 1
  refine E.cond (t := true) (by simp) (fun _ => ?_) (fun h => by cases h)
  refine E.seq ?_
  refine E.reg hr (by simp [g15]; rfl) ?_ -- region 2
  refine E.ret ?_
  exact pureK.ret rfl rfl (by simp) (by repeat first | exact sub_refl _ | refine sub_cons rfl ?_)
theorem w8spi (l : List Pk) (o c : Nat) (ms : List Int) (o2 c2 : Nat) (lo hi : Int) (h : shortK l.length = false) : AC Tryz.prog 8 [inpV o l.length c, ivl lo hi, inpM 10 o2 ms.length c2] ((10, .inp o2 (ms.map iv)) :: (9, .inp o (pcs l)) :: G0 : Heap) 11 (.bool true) ((10, .inp o2 (ms.map iv)) :: (9, .inp o (pcs l)) :: G0 : Heap) 11 := by
  have hr := recT_ok (P := Tryz.prog) (l := [(15, g15), (44, g44)]) (by simp [ok15, ok44])
  refine AC.pure Tryz.func8 rfl (by kernel_rfl) rfl [] rfl ?_
  refine E.seq ?_
  refine E.reg hr (by simp; rfl) ?_ -- region 0
  refine E.seq ?_
  refine E.seq ?_
  refine E.reg hr (by simp [g15, g44, yieldedA, flat, h]; rfl) ?_ -- region 1
  refine E.cond (t := true) (by simp) (fun _ => ?_) (fun h => by cases h)
  refine E.seq ?_
  refine E.reg hr (by simp [g15]; rfl) ?_ -- region 2
  refine E.ret ?_
  exact pureK.ret rfl rfl (by simp) (by repeat first | exact sub_refl _ | refine sub_cons rfl ?_)
theorem w8ln (ms : List Int) (o2 c2 : Nat) (lo hi : Int) (h : 66 < ms.length) : AC Tryz.prog 8 [.slice none 0 0, ivl lo hi, inpM 9 o2 ms.length c2] ((9, .inp o2 (ms.map iv)) :: G0 : Heap) 10 (.bool true) ((9, .inp o2 (ms.map iv)) :: G0 : Heap) 10 := by
  have hr := recT_ok (P := Tryz.prog) (l := [(15, g15), (44, g44)]) (by simp [ok15, ok44])
  have hI : (66 : Int) < (ms.length : Int) := by omega
  refine AC.pure Tryz.func8 rfl (by kernel_rfl) rfl [] rfl ?_
  refine E.seq ?_
  refine E.reg hr (by simp; rfl) ?_ -- region 0
  refine E.seq ?_
  refine E.seq ?_
  refine E.reg hr (by simp [g15, g44, yieldedA, hI]; rfl) ?_ -- region 1
  refine E.cond (t := true) (by simp) (fun _ => ?_) (fun h => by cases h)
  refine E.seq ?_
  refine E.reg hr (by simp [g15]; rfl) ?_ -- region 2
  refine E.ret ?_
  exact pureK.ret rfl rfl (by simp) (by repeat first | exact sub_refl _ | refine sub_cons rfl ?_)
theorem w8le (o c : Nat) (ms : List Int) (o2 c2 : Nat) (lo hi : Int) (h : 66 < ms.length) : AC Tryz.prog 8 [inpV o 0 c, ivl lo hi, inpM 10 o2 ms.length c2] ((10, .inp o2 (ms.map iv)) :: (9, .inp o []) :: G0 : Heap) 11 (.bool true) ((10, .inp o2 (ms.map iv)) :: (9, .inp o []) :: G0 : Heap) 11 := by
  have hr := recT_ok (P := Tryz.prog) (l := [(15, g15), (44, g44)]) (by simp [ok15, ok44])
  have hI : (66 : Int) < (ms.length : Int) := by omega
  refine AC.pure Tryz.func8 rfl (by kernel_rfl) rfl [] rfl ?_
  refine E.seq ?_
  refine E.reg hr (by simp; rfl) ?_ -- region 0
  refine E.seq ?_
  refine E.seq ?_
  refine E.reg hr (by simp [g15, g44, yieldedA, flat, shortK, hI]; rfl) ?_ -- region 1
  refine E.cond (t := true) (by simp) (fun _ => ?_) (fun h => by cases h)
  refine E.seq ?_
  refine E.reg hr (by simp [g15]; rfl) ?_ -- region 2
  refine E.ret ?_
  exact pureK.ret rfl rfl (by simp) (by repeat first | exact sub_refl _ | refine sub_cons rfl ?_)
theorem w8lp (l : List Pk) (o c : Nat) (ms : List Int) (o2 c2 : Nat) (lo hi : Int) (hs : shortK l.length = true) (h : 66 < ms.length) : AC Tryz.prog 8 [inpV o l.length c, ivl lo hi, inpM 10 o2 ms.length c2] ((10, .inp o2 (ms.map iv)) :: (9, .inp o (pcs l)) :: G0 : Heap) 11 (.bool true) ((10, .inp o2 (ms.map iv)) :: (9, .inp o (pcs l)) :: G0 : Heap) 11 := by
  have hr := recT_ok (P := Tryz.prog) (l := [(15, g15), (44, g44)]) (by simp [ok15, ok44])
  have hI : (66 : Int) < (ms.length : Int) := by omega
  refine AC.pure Tryz.func8 rfl (by kernel_rfl) rfl [] rfl ?_
  refine E.seq ?_
  refine E.reg hr (by simp; rfl) ?_ -- region 0
  refine E.seq ?_
  refine E.seq ?_
  refine E.reg hr (by simp [g15, g44, yieldedA, flat, hs, hI]; rfl) ?_ -- region 1
  refine E.cond (t := true) (by simp) (fun _ => ?_) (fun h => by cases h)
  refine E.seq ?_
  refine E.reg hr (by simp [g15]; rfl) ?_ -- region 2
  refine E.ret ?_
  exact pureK.ret rfl rfl (by simp) (by repeat first | exact sub_refl _ | refine sub_cons rfl ?_)
theorem w8_nn  (lo hi : Int) : AC Tryz.prog 8 [.slice none 0 0, ivl lo hi, .slice none 0 0] (G0 : Heap) 9 (.bool true) (G0 : Heap) 9 := by
  by_cases hr : refE [] lo hi = 0
  · exact w8nn1 lo hi hr
  · exact w8nn0 lo hi hr
theorem w8_ni (ms : List Int) (o2 c2 : Nat) (lo hi : Int) : AC Tryz.prog 8 [.slice none 0 0, ivl lo hi, inpM 9 o2 ms.length c2] ((9, .inp o2 (ms.map iv)) :: G0 : Heap) 10 (.bool true) ((9, .inp o2 (ms.map iv)) :: G0 : Heap) 10 := by
  by_cases hm : ms = []
  · subst hm
    by_cases hr : refE [] lo hi = 0
    · exact w8ne1  o2 c2 lo hi hr
    · exact w8ne0  o2 c2 lo hi hr
  · by_cases h66 : ms.length ≤ 66
    · by_cases hr : refE [] lo hi = 0
      · exact w8nm1  ms o2 c2 hm h66 lo hi hr
      · exact w8nm0  ms o2 c2 hm h66 lo hi hr
    · exact w8ln  ms o2 c2 lo hi (by omega)
theorem w8_in (l : List Pk) (o c : Nat) (lo hi : Int) : AC Tryz.prog 8 [inpV o l.length c, ivl lo hi, .slice none 0 0] ((9, .inp o (pcs l)) :: G0 : Heap) 10 (.bool true) ((9, .inp o (pcs l)) :: G0 : Heap) 10 := by
  by_cases hl : l = []
  · subst hl
    by_cases hr : refE [] lo hi = 0
    · exact w8en1 o c lo hi hr
    · exact w8en0 o c lo hi hr
  · by_cases hsh : shortK l.length = true
    · by_cases hr : refE l lo hi = 0
      · cases hq : seek l lo hi with
        | none =>
          exact w8pn1100 l o c hl hsh  lo hi hr hq
        | some q =>
          have hq2 : (seek l lo hi).isSome = true := by rw [hq]; rfl
          exact w8pn1110 l o c hl hsh  lo hi hr hq2
      · by_cases hpe : pksE l = 0
        · exact w8pn0100 l o c hl hsh  lo hi hr hpe
        · exact w8pn0000 l o c hl hsh  lo hi hr hpe
    · exact w8spn l o c lo hi (by simpa using hsh)
theorem w8_ii (l : List Pk) (o c : Nat) (ms : List Int) (o2 c2 : Nat) (lo hi : Int) : AC Tryz.prog 8 [inpV o l.length c, ivl lo hi, inpM 10 o2 ms.length c2] ((10, .inp o2 (ms.map iv)) :: (9, .inp o (pcs l)) :: G0 : Heap) 11 (.bool true) ((10, .inp o2 (ms.map iv)) :: (9, .inp o (pcs l)) :: G0 : Heap) 11 := by
  by_cases hl : l = []
  · subst hl
    by_cases hm : ms = []
    · subst hm
      by_cases hr : refE [] lo hi = 0
      · exact w8ee1 o c o2 c2 lo hi hr
      · exact w8ee0 o c o2 c2 lo hi hr
    · by_cases h66 : ms.length ≤ 66
      · by_cases hr : refE [] lo hi = 0
        · exact w8em1 o c ms o2 c2 hm h66 lo hi hr
        · exact w8em0 o c ms o2 c2 hm h66 lo hi hr
      · exact w8le o c ms o2 c2 lo hi (by omega)
  · by_cases hsh : shortK l.length = true
    · by_cases hm : ms = []
      · subst hm
        by_cases hr : refE l lo hi = 0
        · cases hq : seek l lo hi with
          | none =>
            exact w8pe1100 l o c hl hsh o2 c2 lo hi hr hq
          | some q =>
            have hq2 : (seek l lo hi).isSome = true := by rw [hq]; rfl
            exact w8pe1110 l o c hl hsh o2 c2 lo hi hr hq2
        · by_cases hpe : pksE l = 0
          · exact w8pe0100 l o c hl hsh o2 c2 lo hi hr hpe
          · exact w8pe0000 l o c hl hsh o2 c2 lo hi hr hpe
      · by_cases h66 : ms.length ≤ 66
        · by_cases hr : refE l lo hi = 0
          · cases hq : seek l lo hi with
            | none =>
              by_cases hle : layE l ms = 0
              · exact w8pm1101 l o c hl hsh ms o2 c2 hm h66 lo hi hr hq hle
              · exact w8pm1100 l o c hl hsh ms o2 c2 hm h66 lo hi hr hq hle
            | some q =>
              have hq2 : (seek l lo hi).isSome = true := by rw [hq]; rfl
              by_cases hle : layE l ms = 0
              · exact w8pm1111 l o c hl hsh ms o2 c2 hm h66 lo hi hr hq2 hle
              · exact w8pm1110 l o c hl hsh ms o2 c2 hm h66 lo hi hr hq2 hle
          · by_cases hpe : pksE l = 0
            · by_cases hle : layE l ms = 0
              · exact w8pm0101 l o c hl hsh ms o2 c2 hm h66 lo hi hr hpe hle
              · exact w8pm0100 l o c hl hsh ms o2 c2 hm h66 lo hi hr hpe hle
            · exact w8pm0000 l o c hl hsh ms o2 c2 hm h66 lo hi hr hpe
        · exact w8lp l o c ms o2 c2 lo hi hsh (by omega)
    · exact w8spi l o c ms o2 c2 lo hi (by simpa using hsh)
end Go.Proofs.YtkongcnmkiihjaaGreatDoor
