/-
The law VelocityMoments, walked where picks are handed (a theorem for each way through it: its conditions name the way).
-/
import Derived.Test.YtkongcnmkiihjaaGreatDoorYg
import Derived.Test.YtkongcnmkiihjaaGreatDoorFa
namespace Go.Proofs.YtkongcnmkiihjaaGreatDoor
open Go Go.Ab Go.Proofs
@[simp] theorem eql4 {x y : Operand} {H : Heap} {n : Nat} (a b : Bool) : binV Tryz.prog .eql 4 x y (.bool a) (.bool b) H n = some (.bool (a == b), H, n) := by cases a <;> cases b <;> kernel_rfl
@[simp] theorem renL_ranges (ρ : Nat → Nat) : renL ρ rangesV = rangesV := by kernel_rfl
@[simp] theorem renL_free (ρ : Nat → Nat) : renL ρ freeV = freeV := by kernel_rfl
@[simp] theorem scL_ranges (p : Nat → Prop) : scL p rangesV := scL_af _ _ af_rangesV
@[simp] theorem scL_free (p : Nat → Prop) : scL p freeV := scL_af _ _ af_freeV
set_option maxRecDepth 20000 in
theorem w8pm0000 (l : List Pk) (o c : Nat) (hne : l ≠ []) (hsh : shortK l.length = true) (ms : List Int) (o2 c2 : Nat) (hmn : ms ≠ []) (hm66 : ms.length ≤ 66) (lo hi : Int) (hre : refE l lo hi ≠ 0) (hpe : pksE l ≠ 0) : AC Tryz.prog 8 [inpV o l.length c, ivl lo hi, inpM 10 o2 ms.length c2] ((10, .inp o2 (ms.map iv)) :: (9, .inp o (pcs l)) :: G0 : Heap) 11 (.bool true) ((10, .inp o2 (ms.map iv)) :: (9, .inp o (pcs l)) :: G0 : Heap) 11 := by
  have hr := recT_ok (P := Tryz.prog) (l := [(15, g15), (44, g44), (46, g46), (45, g45), (47, g47), (34, g34), (48, g48), (49, g49), (50, g50), (51, gBnd), (27, g94), (52, g52), (53, g53), (54, g54), (55, g55), (56, g56), (42, g42)]) (by simp [ok15, ok44, ok46, ok45, ok47, ok34, ok48, ok49, ok50, ok51, ok27, ok52, ok53, ok54, ok55, ok56, ok42])
  have h65 : l.length ≤ 65 := by simp only [shortK, Bool.or_eq_true, decide_eq_true_eq] at hsh; omega
  have hl' : l.length < 9223372036854775808 := by omega
  have h4 : l.length ≤ 4096 := by omega
  have ht : List.take (l.length * 3) (pcs l) = pcs l := List.take_of_length_le (by simp)
  have hm' : ms.length < 2147483648 := by omega
  have hm4 : ms.length ≤ 4096 := by omega
  have hmI : ¬ (66 : Int) < (ms.length : Int) := by omega
  have htm : List.take ms.length (ms.map iv) = ms.map iv := List.take_of_length_le (by simp)
  have hR : refR l lo hi = none := by rw [refR, if_neg hre]
  have hcm : cmE l lo hi ms = refE l lo hi := cmE_bad hre
  have hE : firstV [pksE l, bndE lo hi] = refE l lo hi := rfl
  have hlp : layE l ms = pksE l := layE_bad hpe
  refine AC.pure Tryz.func8 rfl (by kernel_rfl) rfl [0, 7, 8, 9, 10, 11, 12, 13, 14, 15, 16, 17, 18, 19, 20, 21, 22, 23, 109, 110] rfl ?_
  refine E.seq ?_
  refine E.reg hr (by simp; rfl) ?_ -- region 0
  refine E.seq ?_
  refine E.seq ?_
  refine E.reg hr (by simp [g15, g44, yieldedA, flat, hsh, hmI]; rfl) ?_ -- region 1
  refine E.cond (t := false) (by simp) (fun h => by cases h) (fun _ => ?_)
  refine E.skip ?_
  refine E.seq ?_
  refine E.drawC mixed hr [9] [1, 3, 8, 9] [1, 3, 9] (by kernel_rfl) (by simp [g46, g45, prA, prB, flat, ht, pksOf_pcs, hl', h4, hne, pksR, pksAt, pksP, rowPks, rowOf, hR]; rfl) ?_ -- region 3
  refine E.seq ?_
  refine E.drawC mixed hr [3] [1, 3] [1, 3] (by kernel_rfl) (by simp [g46, g47, flat, ht, pksOf_pcs, hl', h4, hne, pksR, pksAt, pksP, rowPks, rowOf, hre]; rfl) ?_ -- region 4
  refine E.seq ?_
  refine E.drawC mixed hr [5] [1, 4, 5] [1, 4, 5] (by kernel_rfl) (by simp [g46, g34, g48, flat, ht, pksOf_pcs, hl', h4, hne, pksR, pksAt, pksN, rowPks, rowOf, hm', hm4, htm, hmn, intsOf_iv, intsW, intsM, intsAt, rowIntsN, rowInts, hcm]; rfl) ?_ -- region 5
  refine E.seq ?_
  refine E.reg hr (by simp [g46, g34, g49, flat, ht, pksOf_pcs, hl', h4, hne, pksR, pksAt, pksN, rowPks, rowOf, hm', hm4, htm, hmn, intsOf_iv, intsW, intsM, intsAt, rowIntsN, rowInts, hlp, hpe]; rfl) ?_ -- region 6
  refine E.seq ?_
  refine E.reg hr (by simp [g50, flat, ht, pksOf_pcs, hl', pksR, pksAt]; rfl) ?_ -- region 7
  refine E.seq ?_
  refine E.reg hr (by simp [gBnd, g94, intsAt, flat, intsOf, hE]; rfl) ?_ -- region 8
  refine E.seq ?_
  refine E.reg hr (by simp; rfl) ?_ -- region 9
  refine E.seq ?_
  refine E.reg hr (by simp; rfl) ?_ -- region 10
  refine E.seq ?_
  refine E.reg hr (by simp; rfl) ?_ -- region 11
  refine E.seq ?_
  refine E.reg hr (by simp; rfl) ?_ -- region 12
  refine E.seq ?_
  refine E.reg hr (by simp; rfl) ?_ -- region 13
  refine E.seq ?_
  refine E.seq ?_
  refine E.reg hr (by simp [hre]; rfl) ?_ -- region 14
  refine E.cond (t := false) (by simp) (fun h => by cases h) (fun _ => ?_)
  refine E.skip ?_
  refine E.seq ?_
  refine E.seq ?_
  refine E.reg hr (by simp [hpe]; rfl) ?_ -- region 18
  refine E.cond (t := false) (by simp) (fun h => by cases h) (fun _ => ?_)
  refine E.skip ?_
  refine E.seq ?_
  refine E.seq ?_
  refine E.reg hr (by simp; rfl) ?_ -- region 20
  refine E.cond (t := false) (by simp) (fun h => by cases h) (fun _ => ?_)
  refine E.skip ?_
  refine E.seq ?_
  refine E.seq ?_
  refine E.reg hr (by simp; rfl) ?_ -- region 22
  refine E.block ?_ -- 0
  refine E.loop ?_
  refine EL.step ?_
  refine E.seq ?_
  refine E.reg hr (by simp; rfl) ?_ -- region 23
  refine E.seq ?_
  refine E.cond (t := false) (by simp) (fun h => by cases h) (fun _ => ?_)
  refine E.exit ?_ -- 0
  refine E.seq ?_
  refine E.reg hr (by simp [g46, g56, g42, yieldedA, eql76, flat, ht, pksOf_pcs, hl', h4, hne, pksR, pksAt, pksP, rowPks, rowOf, hre]; rfl) ?_ -- region 28
  refine E.ret ?_
  exact pureK.ret rfl rfl (by simp) (by repeat first | exact sub_refl _ | refine sub_cons rfl ?_)
set_option maxRecDepth 20000 in
theorem w8pm0100 (l : List Pk) (o c : Nat) (hne : l ≠ []) (hsh : shortK l.length = true) (ms : List Int) (o2 c2 : Nat) (hmn : ms ≠ []) (hm66 : ms.length ≤ 66) (lo hi : Int) (hre : refE l lo hi ≠ 0) (hpe : pksE l = 0) (hle : layE l ms ≠ 0) : AC Tryz.prog 8 [inpV o l.length c, ivl lo hi, inpM 10 o2 ms.length c2] ((10, .inp o2 (ms.map iv)) :: (9, .inp o (pcs l)) :: G0 : Heap) 11 (.bool true) ((10, .inp o2 (ms.map iv)) :: (9, .inp o (pcs l)) :: G0 : Heap) 11 := by
  have hr := recT_ok (P := Tryz.prog) (l := [(15, g15), (44, g44), (46, g46), (45, g45), (47, g47), (34, g34), (48, g48), (49, g49), (50, g50), (51, gBnd), (27, g94), (52, g52), (53, g53), (54, g54), (55, g55), (56, g56), (42, g42)]) (by simp [ok15, ok44, ok46, ok45, ok47, ok34, ok48, ok49, ok50, ok51, ok27, ok52, ok53, ok54, ok55, ok56, ok42])
  have h65 : l.length ≤ 65 := by simp only [shortK, Bool.or_eq_true, decide_eq_true_eq] at hsh; omega
  have hl' : l.length < 9223372036854775808 := by omega
  have h4 : l.length ≤ 4096 := by omega
  have ht : List.take (l.length * 3) (pcs l) = pcs l := List.take_of_length_le (by simp)
  have hm' : ms.length < 2147483648 := by omega
  have hm4 : ms.length ≤ 4096 := by omega
  have hmI : ¬ (66 : Int) < (ms.length : Int) := by omega
  have htm : List.take ms.length (ms.map iv) = ms.map iv := List.take_of_length_le (by simp)
  have hR : refR l lo hi = none := by rw [refR, if_neg hre]
  have hcm : cmE l lo hi ms = refE l lo hi := cmE_bad hre
  have hE : firstV [pksE l, bndE lo hi] = refE l lo hi := rfl
  refine AC.pure Tryz.func8 rfl (by kernel_rfl) rfl [0, 7, 8, 9, 10, 11, 12, 13, 14, 15, 16, 17, 18, 19, 20, 21, 22, 23, 109, 110] rfl ?_
  refine E.seq ?_
  refine E.reg hr (by simp; rfl) ?_ -- region 0
  refine E.seq ?_
  refine E.seq ?_
  refine E.reg hr (by simp [g15, g44, yieldedA, flat, hsh, hmI]; rfl) ?_ -- region 1
  refine E.cond (t := false) (by simp) (fun h => by cases h) (fun _ => ?_)
  refine E.skip ?_
  refine E.seq ?_
  refine E.drawC mixed hr [9] [1, 3, 8, 9] [1, 3, 9] (by kernel_rfl) (by simp [g46, g45, prA, prB, flat, ht, pksOf_pcs, hl', h4, hne, pksR, pksAt, pksP, rowPks, rowOf, hR]; rfl) ?_ -- region 3
  refine E.seq ?_
  refine E.drawC mixed hr [3] [1, 3] [1, 3] (by kernel_rfl) (by simp [g46, g47, flat, ht, pksOf_pcs, hl', h4, hne, pksR, pksAt, pksP, rowPks, rowOf, hre]; rfl) ?_ -- region 4
  refine E.seq ?_
  refine E.drawC mixed hr [5] [1, 4, 5] [1, 4, 5] (by kernel_rfl) (by simp [g46, g34, g48, flat, ht, pksOf_pcs, hl', h4, hne, pksR, pksAt, pksN, rowPks, rowOf, hm', hm4, htm, hmn, intsOf_iv, intsW, intsM, intsAt, rowIntsN, rowInts, hcm]; rfl) ?_ -- region 5
  refine E.seq ?_
  refine E.reg hr (by simp [g46, g34, g49, flat, ht, pksOf_pcs, hl', h4, hne, pksR, pksAt, pksN, rowPks, rowOf, hm', hm4, htm, hmn, intsOf_iv, intsW, intsM, intsAt, rowIntsN, rowInts, hle]; rfl) ?_ -- region 6
  refine E.seq ?_
  refine E.reg hr (by simp [g50, flat, ht, pksOf_pcs, hl', pksR, pksAt]; rfl) ?_ -- region 7
  refine E.seq ?_
  refine E.reg hr (by simp [gBnd, g94, intsAt, flat, intsOf, hE]; rfl) ?_ -- region 8
  refine E.seq ?_
  refine E.reg hr (by simp; rfl) ?_ -- region 9
  refine E.seq ?_
  refine E.reg hr (by simp; rfl) ?_ -- region 10
  refine E.seq ?_
  refine E.reg hr (by simp; rfl) ?_ -- region 11
  refine E.seq ?_
  refine E.reg hr (by simp; rfl) ?_ -- region 12
  refine E.seq ?_
  refine E.reg hr (by simp; rfl) ?_ -- region 13
  refine E.seq ?_
  refine E.seq ?_
  refine E.reg hr (by simp [hre]; rfl) ?_ -- region 14
  refine E.cond (t := false) (by simp) (fun h => by cases h) (fun _ => ?_)
  refine E.skip ?_
  refine E.seq ?_
  refine E.seq ?_
  refine E.reg hr (by simp [hpe]; rfl) ?_ -- region 18
  refine E.cond (t := true) (by simp) (fun _ => ?_) (fun h => by cases h)
  refine E.reg hr (by simp [g55, flat, ht, pksOf_pcs, hl', pksR, pksAt, hm', htm, intsOf_iv, intsW, intsAt, hle, hpe]; rfl) ?_ -- region 19
  refine E.seq ?_
  refine E.seq ?_
  refine E.reg hr (by simp; rfl) ?_ -- region 20
  refine E.cond (t := false) (by simp) (fun h => by cases h) (fun _ => ?_)
  refine E.skip ?_
  refine E.seq ?_
  refine E.seq ?_
  refine E.reg hr (by simp; rfl) ?_ -- region 22
  refine E.block ?_ -- 0
  refine E.loop ?_
  refine EL.step ?_
  refine E.seq ?_
  refine E.reg hr (by simp; rfl) ?_ -- region 23
  refine E.seq ?_
  refine E.cond (t := false) (by simp) (fun h => by cases h) (fun _ => ?_)
  refine E.exit ?_ -- 0
  refine E.seq ?_
  refine E.reg hr (by simp [g46, g56, g42, yieldedA, eql76, flat, ht, pksOf_pcs, hl', h4, hne, pksR, pksAt, pksP, rowPks, rowOf, hre, hpe]; rfl) ?_ -- region 28
  refine E.ret ?_
  exact pureK.ret rfl rfl (by simp) (by repeat first | exact sub_refl _ | refine sub_cons rfl ?_)
set_option maxRecDepth 20000 in
theorem w8pm0101 (l : List Pk) (o c : Nat) (hne : l ≠ []) (hsh : shortK l.length = true) (ms : List Int) (o2 c2 : Nat) (hmn : ms ≠ []) (hm66 : ms.length ≤ 66) (lo hi : Int) (hre : refE l lo hi ≠ 0) (hpe : pksE l = 0) (hle : layE l ms = 0) : AC Tryz.prog 8 [inpV o l.length c, ivl lo hi, inpM 10 o2 ms.length c2] ((10, .inp o2 (ms.map iv)) :: (9, .inp o (pcs l)) :: G0 : Heap) 11 (.bool true) ((10, .inp o2 (ms.map iv)) :: (9, .inp o (pcs l)) :: G0 : Heap) 11 := by
  have hr := recT_ok (P := Tryz.prog) (l := [(15, g15), (44, g44), (46, g46), (45, g45), (47, g47), (34, g34), (48, g48), (49, g49), (50, g50), (51, gBnd), (27, g94), (52, g52), (53, g53), (54, g54), (55, g55), (56, g56), (42, g42)]) (by simp [ok15, ok44, ok46, ok45, ok47, ok34, ok48, ok49, ok50, ok51, ok27, ok52, ok53, ok54, ok55, ok56, ok42])
  have h65 : l.length ≤ 65 := by simp only [shortK, Bool.or_eq_true, decide_eq_true_eq] at hsh; omega
  have hl' : l.length < 9223372036854775808 := by omega
  have h4 : l.length ≤ 4096 := by omega
  have ht : List.take (l.length * 3) (pcs l) = pcs l := List.take_of_length_le (by simp)
  have hm' : ms.length < 2147483648 := by omega
  have hm4 : ms.length ≤ 4096 := by omega
  have hmI : ¬ (66 : Int) < (ms.length : Int) := by omega
  have htm : List.take ms.length (ms.map iv) = ms.map iv := List.take_of_length_le (by simp)
  have hR : refR l lo hi = none := by rw [refR, if_neg hre]
  have hcm : cmE l lo hi ms = refE l lo hi := cmE_bad hre
  have hE : firstV [pksE l, bndE lo hi] = refE l lo hi := rfl
  refine AC.pure Tryz.func8 rfl (by kernel_rfl) rfl [0, 7, 8, 9, 10, 11, 12, 13, 14, 15, 16, 17, 18, 19, 20, 21, 22, 23, 109, 110] rfl ?_
  refine E.seq ?_
  refine E.reg hr (by simp; rfl) ?_ -- region 0
  refine E.seq ?_
  refine E.seq ?_
  refine E.reg hr (by simp [g15, g44, yieldedA, flat, hsh, hmI]; rfl) ?_ -- region 1
  refine E.cond (t := false) (by simp) (fun h => by cases h) (fun _ => ?_)
  refine E.skip ?_
  refine E.seq ?_
  refine E.drawC mixed hr [9] [1, 3, 8, 9] [1, 3, 9] (by kernel_rfl) (by simp [g46, g45, prA, prB, flat, ht, pksOf_pcs, hl', h4, hne, pksR, pksAt, pksP, rowPks, rowOf, hR]; rfl) ?_ -- region 3
  refine E.seq ?_
  refine E.drawC mixed hr [3] [1, 3] [1, 3] (by kernel_rfl) (by simp [g46, g47, flat, ht, pksOf_pcs, hl', h4, hne, pksR, pksAt, pksP, rowPks, rowOf, hre]; rfl) ?_ -- region 4
  refine E.seq ?_
  refine E.drawC mixed hr [5] [1, 4, 5] [1, 4, 5] (by kernel_rfl) (by simp [g46, g34, g48, flat, ht, pksOf_pcs, hl', h4, hne, pksR, pksAt, pksN, rowPks, rowOf, hm', hm4, htm, hmn, intsOf_iv, intsW, intsM, intsAt, rowIntsN, rowInts, hcm]; rfl) ?_ -- region 5
  refine E.seq ?_
  refine E.reg hr (by simp [g46, g34, g49, flat, ht, pksOf_pcs, hl', h4, hne, pksR, pksAt, pksN, rowPks, rowOf, hm', hm4, htm, hmn, intsOf_iv, intsW, intsM, intsAt, rowIntsN, rowInts, hle]; rfl) ?_ -- region 6
  refine E.seq ?_
  refine E.reg hr (by simp [g50, flat, ht, pksOf_pcs, hl', pksR, pksAt]; rfl) ?_ -- region 7
  refine E.seq ?_
  refine E.reg hr (by simp [gBnd, g94, intsAt, flat, intsOf, hE]; rfl) ?_ -- region 8
  refine E.seq ?_
  refine E.reg hr (by simp; rfl) ?_ -- region 9
  refine E.seq ?_
  refine E.reg hr (by simp; rfl) ?_ -- region 10
  refine E.seq ?_
  refine E.reg hr (by simp; rfl) ?_ -- region 11
  refine E.seq ?_
  refine E.reg hr (by simp; rfl) ?_ -- region 12
  refine E.seq ?_
  refine E.reg hr (by simp; rfl) ?_ -- region 13
  refine E.seq ?_
  refine E.seq ?_
  refine E.reg hr (by simp [hre]; rfl) ?_ -- region 14
  refine E.cond (t := false) (by simp) (fun h => by cases h) (fun _ => ?_)
  refine E.skip ?_
  refine E.seq ?_
  refine E.seq ?_
  refine E.reg hr (by simp [hpe]; rfl) ?_ -- region 18
  refine E.cond (t := true) (by simp) (fun _ => ?_) (fun h => by cases h)
  refine E.reg hr (by simp [g55, flat, ht, pksOf_pcs, hl', hne, pksR, pksAt, hm', htm, intsOf_iv, intsW, intsAt, hle, hpe]; rfl) ?_ -- region 19
  refine E.seq ?_
  refine E.seq ?_
  refine E.reg hr (by simp; rfl) ?_ -- region 20
  refine E.cond (t := false) (by simp) (fun h => by cases h) (fun _ => ?_)
  refine E.skip ?_
  refine E.seq ?_
  refine E.seq ?_
  refine E.reg hr (by simp; rfl) ?_ -- region 22
  refine E.block ?_ -- 0
  refine E.loop ?_
  refine EL.ind (fun i : Nat => { fr := [(0, inpV o l.length c), (7, .pointer (some ⟨11, 0, none⟩)), (8, .bool false), (9, iv (refE l lo hi)), (10, .slice none 0 0), (11, iv (refE l lo hi)), (12, iv (refE l lo hi)), (13, .slice (some ⟨12, 0, some 0⟩) l.length 0), (14, iv 0), (15, iv 0), (16, iv (refE l lo hi)), (17, iv (refE l lo hi)), (18, iv (refE l lo hi)), (19, iv 0), (20, .pointer (some ⟨13, 0, none⟩)), (21, .bool false), (22, .slice none 0 0), (23, .slice (some ⟨14, 0, some 0⟩) l.length 0), (109, iv l.length), (110, iv i)], sz := 160, H := ((14, .ext (rcs (layL l ms)) 96 2) :: (13, .cells [iv (0), iv (0)] 76) :: (12, .ext (rcs (layL l ms)) 96 2) :: (11, .cells [iv (0), iv (0)] 76) :: (10, .inp o2 (ms.map iv)) :: (9, .inp o (pcs l)) :: G0 : Heap), n := 15, marks := [], vs := [0, 7, 8, 9, 10, 11, 12, 13, 14, 15, 16, 17, 18, 19, 20, 21, 22, 23, 109, 110] }) (fun i => l.length - i) (fun i => i ≤ l.length) 0 (Leads.ren [13, 19, 21, 22] rfl rfl rfl ⟨rfl, rfl⟩ (by simp) (by simp)) (Nat.zero_le _) (fun _ => rfl) ?_
  intro i hi0
  have hw : IntKind.i64.wrap ((i : Int) + 1) = (i : Int) + 1 := W_in (by omega) (by omega)
  have htL : List.take l.length (ic (momL l lo hi)) = ic (momL l lo hi) := List.take_of_length_le (by simp)
  have hl31 : l.length < 2147483648 := by omega
  refine E.seq ?_
  refine E.reg hr (by simp; rfl) ?_ -- region 23
  refine E.seq ?_
  by_cases hil : i < l.length
  · have hiL : i < (layL l ms).length := by simpa using hil
    have hx := rcs_at hiL
    have h2 : i * 2 + 2 ≤ l.length * 2 := by omega
    refine E.cond (t := true) (by simp [hil]) (fun _ => ?_) (fun h => by cases h)
    refine E.skip ?_
    refine E.seq ?_
    refine E.block ?_ -- 1
    refine E.seq ?_
    refine E.reg hr (by simp; rfl) ?_ -- region 24
    refine E.seq ?_
    refine E.drawC mixed hr [] [] [3, 7] (by kernel_rfl) (by simp [hil, h2, hx, neq96]; rfl) ?_ -- region 25
    refine E.cond (t := false) (by simp) (fun h => by cases h) (fun _ => ?_)
    refine E.skip ?_
    refine E.reg hr (by simp [hw]; rfl) ?_ -- region 27
    exact ⟨i + 1, .less rfl rfl rfl (by simp) (by simp), hil, by dsimp only; omega⟩
  refine E.cond (t := false) (by simp [hil]) (fun h => by cases h) (fun _ => ?_)
  refine E.exit ?_ -- 0
  refine E.seq ?_
  refine E.reg hr (by simp [g46, g56, g42, yieldedA, eql76, flat, ht, pksOf_pcs, hl', h4, hne, pksR, pksAt, pksP, rowPks, rowOf, hre, hpe]; rfl) ?_ -- region 28
  refine E.ret ?_
  exact pureK.ret rfl rfl (by simp) (by repeat first | exact sub_refl _ | refine sub_cons rfl ?_)
set_option maxRecDepth 20000 in
theorem w8pm1100 (l : List Pk) (o c : Nat) (hne : l ≠ []) (hsh : shortK l.length = true) (ms : List Int) (o2 c2 : Nat) (hmn : ms ≠ []) (hm66 : ms.length ≤ 66) (lo hi : Int) (hre : refE l lo hi = 0) (hsk : seek l lo hi = none) (hle : layE l ms ≠ 0) : AC Tryz.prog 8 [inpV o l.length c, ivl lo hi, inpM 10 o2 ms.length c2] ((10, .inp o2 (ms.map iv)) :: (9, .inp o (pcs l)) :: G0 : Heap) 11 (.bool true) ((10, .inp o2 (ms.map iv)) :: (9, .inp o (pcs l)) :: G0 : Heap) 11 := by
  have hr := recT_ok (P := Tryz.prog) (l := [(15, g15), (44, g44), (46, g46), (45, g45), (47, g47), (34, g34), (48, g48), (49, g49), (50, g50), (51, gBnd), (27, g94), (52, g52), (53, g53), (54, g54), (55, g55), (56, g56), (42, g42)]) (by simp [ok15, ok44, ok46, ok45, ok47, ok34, ok48, ok49, ok50, ok51, ok27, ok52, ok53, ok54, ok55, ok56, ok42])
  have h65 : l.length ≤ 65 := by simp only [shortK, Bool.or_eq_true, decide_eq_true_eq] at hsh; omega
  have hl' : l.length < 9223372036854775808 := by omega
  have h4 : l.length ≤ 4096 := by omega
  have ht : List.take (l.length * 3) (pcs l) = pcs l := List.take_of_length_le (by simp)
  have hm' : ms.length < 2147483648 := by omega
  have hm4 : ms.length ≤ 4096 := by omega
  have hmI : ¬ (66 : Int) < (ms.length : Int) := by omega
  have htm : List.take ms.length (ms.map iv) = ms.map iv := List.take_of_length_le (by simp)
  have hpe : pksE l = 0 := refE_pks hre
  have hok : PksOk l := (refE_ok hre).1
  have h64 : l.length ≤ 64 := (refE_ok hre).2.1
  have hb : BndIn lo hi := (refE_ok hre).2.2
  have hcm : (if ms.length = l.length then cmG l lo hi ms l.length 0 else 2) = cmE l lo hi ms := cmE_good hre
  have hR : refR l lo hi = seek l lo hi := by rw [refR, if_pos hre]
  have hE : firstV [pksE l, bndE lo hi] = refE l lo hi := rfl
  have htL : List.take l.length (ic (momL l lo hi)) = ic (momL l lo hi) := List.take_of_length_le (by simp)
  have hl31 : l.length < 2147483648 := by omega
  refine AC.pure Tryz.func8 rfl (by kernel_rfl) rfl [0, 7, 8, 9, 10, 11, 12, 13, 14, 15, 16, 17, 18, 19, 20, 21, 22, 23, 109, 110] rfl ?_
  refine E.seq ?_
  refine E.reg hr (by simp; rfl) ?_ -- region 0
  refine E.seq ?_
  refine E.seq ?_
  refine E.reg hr (by simp [g15, g44, yieldedA, flat, hsh, hmI]; rfl) ?_ -- region 1
  refine E.cond (t := false) (by simp) (fun h => by cases h) (fun _ => ?_)
  refine E.skip ?_
  refine E.seq ?_
  refine E.drawC mixed hr [9] [1, 3, 8, 9] [1, 3, 9] (by kernel_rfl) (by simp [g46, g45, prA, prB, flat, ht, pksOf_pcs, hl', h4, hne, pksR, pksAt, pksP, rowPks, rowOf, hre, hR, hsk]; rfl) ?_ -- region 3
  refine E.seq ?_
  refine E.drawC mixed hr [3] [1, 3] [1, 3] (by kernel_rfl) (by simp [g46, g47, flat, ht, pksOf_pcs, hl', h4, hne, pksR, pksAt, pksP, rowPks, rowOf, hre, hsk]; rfl) ?_ -- region 4
  refine E.seq ?_
  refine E.drawC mixed hr [5] [1, 4, 5] [1, 4, 5] (by kernel_rfl) (by simp [g46, g34, g48, flat, ht, pksOf_pcs, hl', h4, hne, pksR, pksAt, pksN, rowPks, rowOf, hm', hm4, htm, hmn, intsOf_iv, intsW, intsM, intsAt, rowIntsN, rowInts]; rfl) ?_ -- region 5
  refine E.seq ?_
  refine E.reg hr (by simp [g46, g34, g49, flat, ht, pksOf_pcs, hl', h4, hne, pksR, pksAt, pksN, rowPks, rowOf, hm', hm4, htm, hmn, intsOf_iv, intsW, intsM, intsAt, rowIntsN, rowInts, hle]; rfl) ?_ -- region 6
  refine E.seq ?_
  refine E.reg hr (by simp [g50, flat, ht, pksOf_pcs, hl', pksR, pksAt]; rfl) ?_ -- region 7
  refine E.seq ?_
  refine E.reg hr (by simp [gBnd, g94, intsAt, flat, intsOf, hE]; rfl) ?_ -- region 8
  refine E.seq ?_
  refine E.reg hr (by simp; rfl) ?_ -- region 9
  refine E.seq ?_
  refine E.reg hr (by simp; rfl) ?_ -- region 10
  refine E.seq ?_
  refine E.reg hr (by simp; rfl) ?_ -- region 11
  refine E.seq ?_
  refine E.reg hr (by simp; rfl) ?_ -- region 12
  refine E.seq ?_
  refine E.reg hr (by simp; rfl) ?_ -- region 13
  refine E.seq ?_
  refine E.seq ?_
  refine E.reg hr (by simp [hre]; rfl) ?_ -- region 14
  refine E.cond (t := true) (by simp) (fun _ => ?_) (fun h => by cases h)
  refine E.seq ?_
  refine E.reg hr (by simp [g52, prA, prB, flat, ht, pksOf_pcs, hl', pksR, pksAt, hre, hsk]; rfl) ?_ -- region 15
  refine E.seq ?_
  refine E.reg hr (by simp [g53, flat, ht, pksOf_pcs, hl', hne, pksR, pksAt, hre, hsk]; rfl) ?_ -- region 16
  refine E.reg hr (by simp [g54, hok, h64, hb, hcm, flat, ht, pksOf_pcs, hl', pksR, pksAt, hm', htm, intsOf_iv, intsW, intsAt]; rfl) ?_ -- region 17
  refine E.seq ?_
  refine E.seq ?_
  refine E.reg hr (by simp [hpe]; rfl) ?_ -- region 18
  refine E.cond (t := true) (by simp) (fun _ => ?_) (fun h => by cases h)
  refine E.reg hr (by simp [g55, flat, ht, pksOf_pcs, hl', pksR, pksAt, hm', htm, intsOf_iv, intsW, intsAt, hle, hpe]; rfl) ?_ -- region 19
  refine E.seq ?_
  refine E.seq ?_
  refine E.reg hr (by simp; rfl) ?_ -- region 20
  refine E.cond (t := false) (by simp) (fun h => by cases h) (fun _ => ?_)
  refine E.skip ?_
  refine E.seq ?_
  refine E.seq ?_
  refine E.reg hr (by simp; rfl) ?_ -- region 22
  refine E.block ?_ -- 0
  refine E.loop ?_
  refine EL.step ?_
  refine E.seq ?_
  refine E.reg hr (by simp; rfl) ?_ -- region 23
  refine E.seq ?_
  refine E.cond (t := false) (by simp) (fun h => by cases h) (fun _ => ?_)
  refine E.exit ?_ -- 0
  refine E.seq ?_
  refine E.reg hr (by simp [g46, g56, g42, alikeI, intsAt, intsOf_ic, yieldedA, eql76, flat, ht, pksOf_pcs, hl', h4, hne, pksR, pksAt, pksP, rowPks, rowOf, hpe, htL, hl31]; rfl) ?_ -- region 28
  refine E.ret ?_
  exact pureK.ret rfl rfl (by simp) (by repeat first | exact sub_refl _ | refine sub_cons rfl ?_)
set_option maxRecDepth 20000 in
theorem w8pm1101 (l : List Pk) (o c : Nat) (hne : l ≠ []) (hsh : shortK l.length = true) (ms : List Int) (o2 c2 : Nat) (hmn : ms ≠ []) (hm66 : ms.length ≤ 66) (lo hi : Int) (hre : refE l lo hi = 0) (hsk : seek l lo hi = none) (hle : layE l ms = 0) : AC Tryz.prog 8 [inpV o l.length c, ivl lo hi, inpM 10 o2 ms.length c2] ((10, .inp o2 (ms.map iv)) :: (9, .inp o (pcs l)) :: G0 : Heap) 11 (.bool true) ((10, .inp o2 (ms.map iv)) :: (9, .inp o (pcs l)) :: G0 : Heap) 11 := by
  have hr := recT_ok (P := Tryz.prog) (l := [(15, g15), (44, g44), (46, g46), (45, g45), (47, g47), (34, g34), (48, g48), (49, g49), (50, g50), (51, gBnd), (27, g94), (52, g52), (53, g53), (54, g54), (55, g55), (56, g56), (42, g42)]) (by simp [ok15, ok44, ok46, ok45, ok47, ok34, ok48, ok49, ok50, ok51, ok27, ok52, ok53, ok54, ok55, ok56, ok42])
  have h65 : l.length ≤ 65 := by simp only [shortK, Bool.or_eq_true, decide_eq_true_eq] at hsh; omega
  have hl' : l.length < 9223372036854775808 := by omega
  have h4 : l.length ≤ 4096 := by omega
  have ht : List.take (l.length * 3) (pcs l) = pcs l := List.take_of_length_le (by simp)
  have hm' : ms.length < 2147483648 := by omega
  have hm4 : ms.length ≤ 4096 := by omega
  have hmI : ¬ (66 : Int) < (ms.length : Int) := by omega
  have htm : List.take ms.length (ms.map iv) = ms.map iv := List.take_of_length_le (by simp)
  have hpe : pksE l = 0 := refE_pks hre
  have hok : PksOk l := (refE_ok hre).1
  have h64 : l.length ≤ 64 := (refE_ok hre).2.1
  have hb : BndIn lo hi := (refE_ok hre).2.2
  have hcm : (if ms.length = l.length then cmG l lo hi ms l.length 0 else 2) = cmE l lo hi ms := cmE_good hre
  have hR : refR l lo hi = seek l lo hi := by rw [refR, if_pos hre]
  have hE : firstV [pksE l, bndE lo hi] = refE l lo hi := rfl
  refine AC.pure Tryz.func8 rfl (by kernel_rfl) rfl [0, 7, 8, 9, 10, 11, 12, 13, 14, 15, 16, 17, 18, 19, 20, 21, 22, 23, 109, 110] rfl ?_
  refine E.seq ?_
  refine E.reg hr (by simp; rfl) ?_ -- region 0
  refine E.seq ?_
  refine E.seq ?_
  refine E.reg hr (by simp [g15, g44, yieldedA, flat, hsh, hmI]; rfl) ?_ -- region 1
  refine E.cond (t := false) (by simp) (fun h => by cases h) (fun _ => ?_)
  refine E.skip ?_
  refine E.seq ?_
  refine E.drawC mixed hr [9] [1, 3, 8, 9] [1, 3, 9] (by kernel_rfl) (by simp [g46, g45, prA, prB, flat, ht, pksOf_pcs, hl', h4, hne, pksR, pksAt, pksP, rowPks, rowOf, hre, hR, hsk]; rfl) ?_ -- region 3
  refine E.seq ?_
  refine E.drawC mixed hr [3] [1, 3] [1, 3] (by kernel_rfl) (by simp [g46, g47, flat, ht, pksOf_pcs, hl', h4, hne, pksR, pksAt, pksP, rowPks, rowOf, hre, hsk]; rfl) ?_ -- region 4
  refine E.seq ?_
  refine E.drawC mixed hr [5] [1, 4, 5] [1, 4, 5] (by kernel_rfl) (by simp [g46, g34, g48, flat, ht, pksOf_pcs, hl', h4, hne, pksR, pksAt, pksN, rowPks, rowOf, hm', hm4, htm, hmn, intsOf_iv, intsW, intsM, intsAt, rowIntsN, rowInts]; rfl) ?_ -- region 5
  refine E.seq ?_
  refine E.reg hr (by simp [g46, g34, g49, flat, ht, pksOf_pcs, hl', h4, hne, pksR, pksAt, pksN, rowPks, rowOf, hm', hm4, htm, hmn, intsOf_iv, intsW, intsM, intsAt, rowIntsN, rowInts, hle]; rfl) ?_ -- region 6
  refine E.seq ?_
  refine E.reg hr (by simp [g50, flat, ht, pksOf_pcs, hl', pksR, pksAt]; rfl) ?_ -- region 7
  refine E.seq ?_
  refine E.reg hr (by simp [gBnd, g94, intsAt, flat, intsOf, hE]; rfl) ?_ -- region 8
  refine E.seq ?_
  refine E.reg hr (by simp; rfl) ?_ -- region 9
  refine E.seq ?_
  refine E.reg hr (by simp; rfl) ?_ -- region 10
  refine E.seq ?_
  refine E.reg hr (by simp; rfl) ?_ -- region 11
  refine E.seq ?_
  refine E.reg hr (by simp; rfl) ?_ -- region 12
  refine E.seq ?_
  refine E.reg hr (by simp; rfl) ?_ -- region 13
  refine E.seq ?_
  refine E.seq ?_
  refine E.reg hr (by simp [hre]; rfl) ?_ -- region 14
  refine E.cond (t := true) (by simp) (fun _ => ?_) (fun h => by cases h)
  refine E.seq ?_
  refine E.reg hr (by simp [g52, prA, prB, flat, ht, pksOf_pcs, hl', pksR, pksAt, hre, hsk]; rfl) ?_ -- region 15
  refine E.seq ?_
  refine E.reg hr (by simp [g53, flat, ht, pksOf_pcs, hl', hne, pksR, pksAt, hre, hsk]; rfl) ?_ -- region 16
  refine E.reg hr (by simp [g54, hok, h64, hb, hcm, flat, ht, pksOf_pcs, hl', pksR, pksAt, hm', htm, intsOf_iv, intsW, intsAt]; rfl) ?_ -- region 17
  refine E.seq ?_
  refine E.seq ?_
  refine E.reg hr (by simp [hpe]; rfl) ?_ -- region 18
  refine E.cond (t := true) (by simp) (fun _ => ?_) (fun h => by cases h)
  refine E.reg hr (by simp [g55, flat, ht, pksOf_pcs, hl', hne, pksR, pksAt, hm', htm, intsOf_iv, intsW, intsAt, hle, hpe]; rfl) ?_ -- region 19
  refine E.seq ?_
  refine E.seq ?_
  refine E.reg hr (by simp; rfl) ?_ -- region 20
  refine E.cond (t := false) (by simp) (fun h => by cases h) (fun _ => ?_)
  refine E.skip ?_
  refine E.seq ?_
  refine E.seq ?_
  refine E.reg hr (by simp; rfl) ?_ -- region 22
  refine E.block ?_ -- 0
  refine E.loop ?_
  refine EL.ind (fun i : Nat => { fr := [(0, inpV o l.length c), (7, .pointer (some ⟨11, 0, none⟩)), (8, .bool false), (9, iv 0), (10, .slice (some ⟨12, 0, none⟩) l.length l.length), (11, iv 0), (12, iv (cmE l lo hi ms)), (13, .slice (some ⟨13, 0, some 0⟩) l.length 0), (14, iv 0), (15, iv 0), (16, iv 0), (17, iv 0), (18, iv (cmE l lo hi ms)), (19, iv 0), (20, .pointer (some ⟨14, 0, none⟩)), (21, .bool false), (22, .slice (some ⟨15, 0, some 0⟩) l.length 0), (23, .slice (some ⟨16, 0, some 0⟩) l.length 0), (109, iv l.length), (110, iv i)], sz := 160, H := ((16, .ext (rcs (layL l ms)) 96 2) :: (15, .ext (ic (momL l lo hi)) 3 1) :: (14, .cells [iv (0), iv (0)] 76) :: (13, .ext (rcs (layL l ms)) 96 2) :: (12, .cells (ic (momL l lo hi)) 3) :: (11, .cells [iv (0), iv (0)] 76) :: (10, .inp o2 (ms.map iv)) :: (9, .inp o (pcs l)) :: G0 : Heap), n := 17, marks := [], vs := [0, 7, 8, 9, 10, 11, 12, 13, 14, 15, 16, 17, 18, 19, 20, 21, 22, 23, 109, 110] }) (fun i => l.length - i) (fun i => i ≤ l.length) 0 (Leads.ren [13, 15, 20, 22, 23, 24] rfl rfl rfl ⟨rfl, rfl⟩ (by simp) (by simp)) (Nat.zero_le _) (fun _ => rfl) ?_
  intro i hi0
  have hw : IntKind.i64.wrap ((i : Int) + 1) = (i : Int) + 1 := W_in (by omega) (by omega)
  have htL : List.take l.length (ic (momL l lo hi)) = ic (momL l lo hi) := List.take_of_length_le (by simp)
  have hl31 : l.length < 2147483648 := by omega
  refine E.seq ?_
  refine E.reg hr (by simp; rfl) ?_ -- region 23
  refine E.seq ?_
  by_cases hil : i < l.length
  · have hiL : i < (layL l ms).length := by simpa using hil
    have hx := rcs_at hiL
    have h2 : i * 2 + 2 ≤ l.length * 2 := by omega
    refine E.cond (t := true) (by simp [hil]) (fun _ => ?_) (fun h => by cases h)
    refine E.skip ?_
    refine E.seq ?_
    refine E.block ?_ -- 1
    refine E.seq ?_
    refine E.reg hr (by simp; rfl) ?_ -- region 24
    refine E.seq ?_
    refine E.drawC mixed hr [] [] [3, 7] (by kernel_rfl) (by simp [hil, h2, hx, neq96]; rfl) ?_ -- region 25
    refine E.cond (t := false) (by simp) (fun h => by cases h) (fun _ => ?_)
    refine E.skip ?_
    refine E.reg hr (by simp [hw]; rfl) ?_ -- region 27
    exact ⟨i + 1, .less rfl rfl rfl (by simp) (by simp), hil, by dsimp only; omega⟩
  refine E.cond (t := false) (by simp [hil]) (fun h => by cases h) (fun _ => ?_)
  refine E.exit ?_ -- 0
  refine E.seq ?_
  refine E.reg hr (by simp [g46, g56, g42, alikeI, intsAt, intsOf_ic, yieldedA, eql76, flat, ht, pksOf_pcs, hl', h4, hne, pksR, pksAt, pksP, rowPks, rowOf, hpe, htL, hl31]; rfl) ?_ -- region 28
  refine E.ret ?_
  exact pureK.ret rfl rfl (by simp) (by repeat first | exact sub_refl _ | refine sub_cons rfl ?_)
set_option maxRecDepth 20000 in
theorem w8pm1110 (l : List Pk) (o c : Nat) (hne : l ≠ []) (hsh : shortK l.length = true) (ms : List Int) (o2 c2 : Nat) (hmn : ms ≠ []) (hm66 : ms.length ≤ 66) (lo hi : Int) (hre : refE l lo hi = 0) (hsk : (seek l lo hi).isSome = true) (hle : layE l ms ≠ 0) : AC Tryz.prog 8 [inpV o l.length c, ivl lo hi, inpM 10 o2 ms.length c2] ((10, .inp o2 (ms.map iv)) :: (9, .inp o (pcs l)) :: G0 : Heap) 11 (.bool true) ((10, .inp o2 (ms.map iv)) :: (9, .inp o (pcs l)) :: G0 : Heap) 11 := by
  have hr := recT_ok (P := Tryz.prog) (l := [(15, g15), (44, g44), (46, g46), (45, g45), (47, g47), (34, g34), (48, g48), (49, g49), (50, g50), (51, gBnd), (27, g94), (52, g52), (53, g53), (54, g54), (55, g55), (56, g56), (42, g42)]) (by simp [ok15, ok44, ok46, ok45, ok47, ok34, ok48, ok49, ok50, ok51, ok27, ok52, ok53, ok54, ok55, ok56, ok42])
  have h65 : l.length ≤ 65 := by simp only [shortK, Bool.or_eq_true, decide_eq_true_eq] at hsh; omega
  have hl' : l.length < 9223372036854775808 := by omega
  have h4 : l.length ≤ 4096 := by omega
  have ht : List.take (l.length * 3) (pcs l) = pcs l := List.take_of_length_le (by simp)
  have hm' : ms.length < 2147483648 := by omega
  have hm4 : ms.length ≤ 4096 := by omega
  have hmI : ¬ (66 : Int) < (ms.length : Int) := by omega
  have htm : List.take ms.length (ms.map iv) = ms.map iv := List.take_of_length_le (by simp)
  have hpe : pksE l = 0 := refE_pks hre
  have hok : PksOk l := (refE_ok hre).1
  have h64 : l.length ≤ 64 := (refE_ok hre).2.1
  have hb : BndIn lo hi := (refE_ok hre).2.2
  have hcm : (if ms.length = l.length then cmG l lo hi ms l.length 0 else 2) = cmE l lo hi ms := cmE_good hre
  have hR : refR l lo hi = seek l lo hi := by rw [refR, if_pos hre]
  have hE : firstV [pksE l, bndE lo hi] = refE l lo hi := rfl
  have hsn : ¬ seek l lo hi = none := fun e => by rw [e] at hsk; cases hsk
  refine AC.pure Tryz.func8 rfl (by kernel_rfl) rfl [0, 7, 8, 9, 10, 11, 12, 13, 14, 15, 16, 17, 18, 19, 20, 21, 22, 23, 109, 110] rfl ?_
  refine E.seq ?_
  refine E.reg hr (by simp; rfl) ?_ -- region 0
  refine E.seq ?_
  refine E.seq ?_
  refine E.reg hr (by simp [g15, g44, yieldedA, flat, hsh, hmI]; rfl) ?_ -- region 1
  refine E.cond (t := false) (by simp) (fun h => by cases h) (fun _ => ?_)
  refine E.skip ?_
  refine E.seq ?_
  refine E.drawC mixed hr [9] [1, 3, 8, 9] [1, 3, 9] (by kernel_rfl) (by simp [g46, g45, flat, ht, pksOf_pcs, hl', h4, hne, pksR, pksAt, pksP, rowPks, rowOf, hre, hR, hsk]; rfl) ?_ -- region 3
  refine E.seq ?_
  refine E.drawC mixed hr [3] [1, 3] [1, 3] (by kernel_rfl) (by simp [g46, g47, flat, ht, pksOf_pcs, hl', h4, hne, pksR, pksAt, pksP, rowPks, rowOf, hre, hsn]; rfl) ?_ -- region 4
  refine E.seq ?_
  refine E.drawC mixed hr [5] [1, 4, 5] [1, 4, 5] (by kernel_rfl) (by simp [g46, g34, g48, flat, ht, pksOf_pcs, hl', h4, hne, pksR, pksAt, pksN, rowPks, rowOf, hm', hm4, htm, hmn, intsOf_iv, intsW, intsM, intsAt, rowIntsN, rowInts]; rfl) ?_ -- region 5
  refine E.seq ?_
  refine E.reg hr (by simp [g46, g34, g49, flat, ht, pksOf_pcs, hl', h4, hne, pksR, pksAt, pksN, rowPks, rowOf, hm', hm4, htm, hmn, intsOf_iv, intsW, intsM, intsAt, rowIntsN, rowInts, hle]; rfl) ?_ -- region 6
  refine E.seq ?_
  refine E.reg hr (by simp [g50, flat, ht, pksOf_pcs, hl', pksR, pksAt]; rfl) ?_ -- region 7
  refine E.seq ?_
  refine E.reg hr (by simp [gBnd, g94, intsAt, flat, intsOf, hE]; rfl) ?_ -- region 8
  refine E.seq ?_
  refine E.reg hr (by simp; rfl) ?_ -- region 9
  refine E.seq ?_
  refine E.reg hr (by simp; rfl) ?_ -- region 10
  refine E.seq ?_
  refine E.reg hr (by simp; rfl) ?_ -- region 11
  refine E.seq ?_
  refine E.reg hr (by simp; rfl) ?_ -- region 12
  refine E.seq ?_
  refine E.reg hr (by simp; rfl) ?_ -- region 13
  refine E.seq ?_
  refine E.seq ?_
  refine E.reg hr (by simp [hre]; rfl) ?_ -- region 14
  refine E.cond (t := true) (by simp) (fun _ => ?_) (fun h => by cases h)
  refine E.seq ?_
  refine E.reg hr (by simp [g52, flat, ht, pksOf_pcs, hl', pksR, pksAt, hre, hsk]; rfl) ?_ -- region 15
  refine E.seq ?_
  refine E.reg hr (by simp [g53, flat, ht, pksOf_pcs, hl', pksR, pksAt, hre, hsk]; rfl) ?_ -- region 16
  refine E.reg hr (by simp [g54, hok, h64, hb, hcm, flat, ht, pksOf_pcs, hl', pksR, pksAt, hm', htm, intsOf_iv, intsW, intsAt]; rfl) ?_ -- region 17
  refine E.seq ?_
  refine E.seq ?_
  refine E.reg hr (by simp [hpe]; rfl) ?_ -- region 18
  refine E.cond (t := true) (by simp) (fun _ => ?_) (fun h => by cases h)
  refine E.reg hr (by simp [g55, flat, ht, pksOf_pcs, hl', pksR, pksAt, hm', htm, intsOf_iv, intsW, intsAt, hle, hpe]; rfl) ?_ -- region 19
  refine E.seq ?_
  refine E.seq ?_
  refine E.reg hr (by simp; rfl) ?_ -- region 20
  refine E.cond (t := false) (by simp) (fun h => by cases h) (fun _ => ?_)
  refine E.skip ?_
  refine E.seq ?_
  refine E.seq ?_
  refine E.reg hr (by simp; rfl) ?_ -- region 22
  refine E.block ?_ -- 0
  refine E.loop ?_
  refine EL.step ?_
  refine E.seq ?_
  refine E.reg hr (by simp; rfl) ?_ -- region 23
  refine E.seq ?_
  refine E.cond (t := false) (by simp) (fun h => by cases h) (fun _ => ?_)
  refine E.exit ?_ -- 0
  refine E.seq ?_
  refine E.reg hr (by simp [g46, g56, g42, yieldedA, eql76, flat, ht, pksOf_pcs, hl', h4, hne, pksR, pksAt, pksP, rowPks, rowOf, hpe]; rfl) ?_ -- region 28
  refine E.ret ?_
  exact pureK.ret rfl rfl (by simp) (by repeat first | exact sub_refl _ | refine sub_cons rfl ?_)
set_option maxRecDepth 20000 in
theorem w8pm1111 (l : List Pk) (o c : Nat) (hne : l ≠ []) (hsh : shortK l.length = true) (ms : List Int) (o2 c2 : Nat) (hmn : ms ≠ []) (hm66 : ms.length ≤ 66) (lo hi : Int) (hre : refE l lo hi = 0) (hsk : (seek l lo hi).isSome = true) (hle : layE l ms = 0) : AC Tryz.prog 8 [inpV o l.length c, ivl lo hi, inpM 10 o2 ms.length c2] ((10, .inp o2 (ms.map iv)) :: (9, .inp o (pcs l)) :: G0 : Heap) 11 (.bool true) ((10, .inp o2 (ms.map iv)) :: (9, .inp o (pcs l)) :: G0 : Heap) 11 := by
  have hr := recT_ok (P := Tryz.prog) (l := [(15, g15), (44, g44), (46, g46), (45, g45), (47, g47), (34, g34), (48, g48), (49, g49), (50, g50), (51, gBnd), (27, g94), (52, g52), (53, g53), (54, g54), (55, g55), (56, g56), (42, g42)]) (by simp [ok15, ok44, ok46, ok45, ok47, ok34, ok48, ok49, ok50, ok51, ok27, ok52, ok53, ok54, ok55, ok56, ok42])
  have h65 : l.length ≤ 65 := by simp only [shortK, Bool.or_eq_true, decide_eq_true_eq] at hsh; omega
  have hl' : l.length < 9223372036854775808 := by omega
  have h4 : l.length ≤ 4096 := by omega
  have ht : List.take (l.length * 3) (pcs l) = pcs l := List.take_of_length_le (by simp)
  have hm' : ms.length < 2147483648 := by omega
  have hm4 : ms.length ≤ 4096 := by omega
  have hmI : ¬ (66 : Int) < (ms.length : Int) := by omega
  have htm : List.take ms.length (ms.map iv) = ms.map iv := List.take_of_length_le (by simp)
  have hpe : pksE l = 0 := refE_pks hre
  have hok : PksOk l := (refE_ok hre).1
  have h64 : l.length ≤ 64 := (refE_ok hre).2.1
  have hb : BndIn lo hi := (refE_ok hre).2.2
  have hcm : (if ms.length = l.length then cmG l lo hi ms l.length 0 else 2) = cmE l lo hi ms := cmE_good hre
  have hR : refR l lo hi = seek l lo hi := by rw [refR, if_pos hre]
  have hE : firstV [pksE l, bndE lo hi] = refE l lo hi := rfl
  have hsn : ¬ seek l lo hi = none := fun e => by rw [e] at hsk; cases hsk
  refine AC.pure Tryz.func8 rfl (by kernel_rfl) rfl [0, 7, 8, 9, 10, 11, 12, 13, 14, 15, 16, 17, 18, 19, 20, 21, 22, 23, 109, 110] rfl ?_
  refine E.seq ?_
  refine E.reg hr (by simp; rfl) ?_ -- region 0
  refine E.seq ?_
  refine E.seq ?_
  refine E.reg hr (by simp [g15, g44, yieldedA, flat, hsh, hmI]; rfl) ?_ -- region 1
  refine E.cond (t := false) (by simp) (fun h => by cases h) (fun _ => ?_)
  refine E.skip ?_
  refine E.seq ?_
  refine E.drawC mixed hr [9] [1, 3, 8, 9] [1, 3, 9] (by kernel_rfl) (by simp [g46, g45, flat, ht, pksOf_pcs, hl', h4, hne, pksR, pksAt, pksP, rowPks, rowOf, hre, hR, hsk]; rfl) ?_ -- region 3
  refine E.seq ?_
  refine E.drawC mixed hr [3] [1, 3] [1, 3] (by kernel_rfl) (by simp [g46, g47, flat, ht, pksOf_pcs, hl', h4, hne, pksR, pksAt, pksP, rowPks, rowOf, hre, hsn]; rfl) ?_ -- region 4
  refine E.seq ?_
  refine E.drawC mixed hr [5] [1, 4, 5] [1, 4, 5] (by kernel_rfl) (by simp [g46, g34, g48, flat, ht, pksOf_pcs, hl', h4, hne, pksR, pksAt, pksN, rowPks, rowOf, hm', hm4, htm, hmn, intsOf_iv, intsW, intsM, intsAt, rowIntsN, rowInts]; rfl) ?_ -- region 5
  refine E.seq ?_
  refine E.reg hr (by simp [g46, g34, g49, flat, ht, pksOf_pcs, hl', h4, hne, pksR, pksAt, pksN, rowPks, rowOf, hm', hm4, htm, hmn, intsOf_iv, intsW, intsM, intsAt, rowIntsN, rowInts, hle]; rfl) ?_ -- region 6
  refine E.seq ?_
  refine E.reg hr (by simp [g50, flat, ht, pksOf_pcs, hl', pksR, pksAt]; rfl) ?_ -- region 7
  refine E.seq ?_
  refine E.reg hr (by simp [gBnd, g94, intsAt, flat, intsOf, hE]; rfl) ?_ -- region 8
  refine E.seq ?_
  refine E.reg hr (by simp; rfl) ?_ -- region 9
  refine E.seq ?_
  refine E.reg hr (by simp; rfl) ?_ -- region 10
  refine E.seq ?_
  refine E.reg hr (by simp; rfl) ?_ -- region 11
  refine E.seq ?_
  refine E.reg hr (by simp; rfl) ?_ -- region 12
  refine E.seq ?_
  refine E.reg hr (by simp; rfl) ?_ -- region 13
  refine E.seq ?_
  refine E.seq ?_
  refine E.reg hr (by simp [hre]; rfl) ?_ -- region 14
  refine E.cond (t := true) (by simp) (fun _ => ?_) (fun h => by cases h)
  refine E.seq ?_
  refine E.reg hr (by simp [g52, flat, ht, pksOf_pcs, hl', pksR, pksAt, hre, hsk]; rfl) ?_ -- region 15
  refine E.seq ?_
  refine E.reg hr (by simp [g53, flat, ht, pksOf_pcs, hl', pksR, pksAt, hre, hsk]; rfl) ?_ -- region 16
  refine E.reg hr (by simp [g54, hok, h64, hb, hcm, flat, ht, pksOf_pcs, hl', pksR, pksAt, hm', htm, intsOf_iv, intsW, intsAt]; rfl) ?_ -- region 17
  refine E.seq ?_
  refine E.seq ?_
  refine E.reg hr (by simp [hpe]; rfl) ?_ -- region 18
  refine E.cond (t := true) (by simp) (fun _ => ?_) (fun h => by cases h)
  refine E.reg hr (by simp [g55, flat, ht, pksOf_pcs, hl', hne, pksR, pksAt, hm', htm, intsOf_iv, intsW, intsAt, hle, hpe]; rfl) ?_ -- region 19
  refine E.seq ?_
  refine E.seq ?_
  refine E.reg hr (by simp; rfl) ?_ -- region 20
  refine E.cond (t := false) (by simp) (fun h => by cases h) (fun _ => ?_)
  refine E.skip ?_
  refine E.seq ?_
  refine E.seq ?_
  refine E.reg hr (by simp; rfl) ?_ -- region 22
  refine E.block ?_ -- 0
  refine E.loop ?_
  refine EL.ind (fun i : Nat => { fr := [(0, inpV o l.length c), (7, .pointer (some ⟨11, 0, none⟩)), (8, .bool true), (9, iv 0), (10, .slice none 0 0), (11, iv 18), (12, iv (cmE l lo hi ms)), (13, .slice (some ⟨12, 0, some 0⟩) l.length 0), (14, iv 0), (15, iv 0), (16, iv 0), (17, iv 18), (18, iv (cmE l lo hi ms)), (19, iv 0), (20, .pointer (some ⟨13, 0, none⟩)), (21, .bool true), (22, .slice none 0 0), (23, .slice (some ⟨14, 0, some 0⟩) l.length 0), (109, iv l.length), (110, iv i)], sz := 160, H := ((14, .ext (rcs (layL l ms)) 96 2) :: (13, .cells [iv (prA (seek l lo hi)), iv (prB (seek l lo hi))] 76) :: (12, .ext (rcs (layL l ms)) 96 2) :: (11, .cells [iv (prA (seek l lo hi)), iv (prB (seek l lo hi))] 76) :: (10, .inp o2 (ms.map iv)) :: (9, .inp o (pcs l)) :: G0 : Heap), n := 15, marks := [], vs := [0, 7, 8, 9, 10, 11, 12, 13, 14, 15, 16, 17, 18, 19, 20, 21, 22, 23, 109, 110] }) (fun i => l.length - i) (fun i => i ≤ l.length) 0 (Leads.ren [13, 19, 21, 22] rfl rfl rfl ⟨rfl, rfl⟩ (by simp) (by simp)) (Nat.zero_le _) (fun _ => rfl) ?_
  intro i hi0
  have hw : IntKind.i64.wrap ((i : Int) + 1) = (i : Int) + 1 := W_in (by omega) (by omega)
  have htL : List.take l.length (ic (momL l lo hi)) = ic (momL l lo hi) := List.take_of_length_le (by simp)
  have hl31 : l.length < 2147483648 := by omega
  refine E.seq ?_
  refine E.reg hr (by simp; rfl) ?_ -- region 23
  refine E.seq ?_
  by_cases hil : i < l.length
  · have hiL : i < (layL l ms).length := by simpa using hil
    have hx := rcs_at hiL
    have h2 : i * 2 + 2 ≤ l.length * 2 := by omega
    refine E.cond (t := true) (by simp [hil]) (fun _ => ?_) (fun h => by cases h)
    refine E.skip ?_
    refine E.seq ?_
    refine E.block ?_ -- 1
    refine E.seq ?_
    refine E.reg hr (by simp; rfl) ?_ -- region 24
    refine E.seq ?_
    refine E.drawC mixed hr [] [] [3, 7] (by kernel_rfl) (by simp [hil, h2, hx, neq96]; rfl) ?_ -- region 25
    refine E.cond (t := false) (by simp) (fun h => by cases h) (fun _ => ?_)
    refine E.skip ?_
    refine E.reg hr (by simp [hw]; rfl) ?_ -- region 27
    exact ⟨i + 1, .less rfl rfl rfl (by simp) (by simp), hil, by dsimp only; omega⟩
  refine E.cond (t := false) (by simp [hil]) (fun h => by cases h) (fun _ => ?_)
  refine E.exit ?_ -- 0
  refine E.seq ?_
  refine E.reg hr (by simp [g46, g56, g42, yieldedA, eql76, flat, ht, pksOf_pcs, hl', h4, hne, pksR, pksAt, pksP, rowPks, rowOf, hpe]; rfl) ?_ -- region 28
  refine E.ret ?_
  exact pureK.ret rfl rfl (by simp) (by repeat first | exact sub_refl _ | refine sub_cons rfl ?_)
end Go.Proofs.YtkongcnmkiihjaaGreatDoor

namespace Go.Proofs.YtkongcnmkiihjaaGreatDoor
open Go Go.Ab Go.Proofs
set_option maxRecDepth 20000 in
theorem w8pn0000 (l : List Pk) (o c : Nat) (hne : l ≠ []) (hsh : shortK l.length = true) (lo hi : Int) (hre : refE l lo hi ≠ 0) (hpe : pksE l ≠ 0) : AC Tryz.prog 8 [inpV o l.length c, ivl lo hi, .slice none 0 0] ((9, .inp o (pcs l)) :: G0 : Heap) 10 (.bool true) ((9, .inp o (pcs l)) :: G0 : Heap) 10 := by
  have hr := recT_ok (P := Tryz.prog) (l := [(15, g15), (44, g44), (46, g46), (45, g45), (47, g47), (34, g34), (48, g48), (49, g49), (50, g50), (51, gBnd), (27, g94), (52, g52), (53, g53), (54, g54), (55, g55), (56, g56), (42, g42)]) (by simp [ok15, ok44, ok46, ok45, ok47, ok34, ok48, ok49, ok50, ok51, ok27, ok52, ok53, ok54, ok55, ok56, ok42])
  have h65 : l.length ≤ 65 := by simp only [shortK, Bool.or_eq_true, decide_eq_true_eq] at hsh; omega
  have hl' : l.length < 9223372036854775808 := by omega
  have h4 : l.length ≤ 4096 := by omega
  have ht : List.take (l.length * 3) (pcs l) = pcs l := List.take_of_length_le (by simp)
  have hR : refR l lo hi = none := by rw [refR, if_neg hre]
  have hcm : cmE l lo hi [] = refE l lo hi := cmE_bad hre
  have hE : firstV [pksE l, bndE lo hi] = refE l lo hi := rfl
  have hlp : layE l [] = pksE l := layE_bad hpe
  refine AC.pure Tryz.func8 rfl (by kernel_rfl) rfl [0, 7, 8, 9, 10, 11, 12, 13, 14, 15, 16, 17, 18, 19, 20, 21, 22, 23, 109, 110] rfl ?_
  refine E.seq ?_
  refine E.reg hr (by simp; rfl) ?_ -- region 0
  refine E.seq ?_
  refine E.seq ?_
  refine E.reg hr (by simp [g15, g44, yieldedA, flat, hsh]; rfl) ?_ -- region 1
  refine E.cond (t := false) (by simp) (fun h => by cases h) (fun _ => ?_)
  refine E.skip ?_
  refine E.seq ?_
  refine E.drawC mixed hr [9] [1, 3, 8, 9] [1, 3, 9] (by kernel_rfl) (by simp [g46, g45, prA, prB, flat, ht, pksOf_pcs, hl', h4, hne, pksR, pksAt, pksP, rowPks, rowOf, hR]; rfl) ?_ -- region 3
  refine E.seq ?_
  refine E.drawC mixed hr [3] [1, 3] [1, 3] (by kernel_rfl) (by simp [g46, g47, flat, ht, pksOf_pcs, hl', h4, hne, pksR, pksAt, pksP, rowPks, rowOf, hre]; rfl) ?_ -- region 4
  refine E.seq ?_
  refine E.drawC mixed hr [5] [1, 4, 5] [1, 4, 5] (by kernel_rfl) (by simp [g46, g34, g48, flat, ht, pksOf_pcs, hl', h4, hne, pksR, pksAt, pksN, rowPks, rowOf, intsW, intsM, hcm]; rfl) ?_ -- region 5
  refine E.seq ?_
  refine E.reg hr (by simp [g46, g34, g49, flat, ht, pksOf_pcs, hl', h4, hne, pksR, pksAt, pksN, rowPks, rowOf, intsW, intsM, hlp, hpe]; rfl) ?_ -- region 6
  refine E.seq ?_
  refine E.reg hr (by simp [g50, flat, ht, pksOf_pcs, hl', pksR, pksAt]; rfl) ?_ -- region 7
  refine E.seq ?_
  refine E.reg hr (by simp [gBnd, g94, intsAt, flat, intsOf, hE]; rfl) ?_ -- region 8
  refine E.seq ?_
  refine E.reg hr (by simp; rfl) ?_ -- region 9
  refine E.seq ?_
  refine E.reg hr (by simp; rfl) ?_ -- region 10
  refine E.seq ?_
  refine E.reg hr (by simp; rfl) ?_ -- region 11
  refine E.seq ?_
  refine E.reg hr (by simp; rfl) ?_ -- region 12
  refine E.seq ?_
  refine E.reg hr (by simp; rfl) ?_ -- region 13
  refine E.seq ?_
  refine E.seq ?_
  refine E.reg hr (by simp [hre]; rfl) ?_ -- region 14
  refine E.cond (t := false) (by simp) (fun h => by cases h) (fun _ => ?_)
  refine E.skip ?_
  refine E.seq ?_
  refine E.seq ?_
  refine E.reg hr (by simp [hpe]; rfl) ?_ -- region 18
  refine E.cond (t := false) (by simp) (fun h => by cases h) (fun _ => ?_)
  refine E.skip ?_
  refine E.seq ?_
  refine E.seq ?_
  refine E.reg hr (by simp; rfl) ?_ -- region 20
  refine E.cond (t := false) (by simp) (fun h => by cases h) (fun _ => ?_)
  refine E.skip ?_
  refine E.seq ?_
  refine E.seq ?_
  refine E.reg hr (by simp; rfl) ?_ -- region 22
  refine E.block ?_ -- 0
  refine E.loop ?_
  refine EL.step ?_
  refine E.seq ?_
  refine E.reg hr (by simp; rfl) ?_ -- region 23
  refine E.seq ?_
  refine E.cond (t := false) (by simp) (fun h => by cases h) (fun _ => ?_)
  refine E.exit ?_ -- 0
  refine E.seq ?_
  refine E.reg hr (by simp [g46, g56, g42, yieldedA, eql76, flat, ht, pksOf_pcs, hl', h4, hne, pksR, pksAt, pksP, rowPks, rowOf, hre]; rfl) ?_ -- region 28
  refine E.ret ?_
  exact pureK.ret rfl rfl (by simp) (by repeat first | exact sub_refl _ | refine sub_cons rfl ?_)
set_option maxRecDepth 20000 in
theorem w8pn0100 (l : List Pk) (o c : Nat) (hne : l ≠ []) (hsh : shortK l.length = true) (lo hi : Int) (hre : refE l lo hi ≠ 0) (hpe : pksE l = 0) : AC Tryz.prog 8 [inpV o l.length c, ivl lo hi, .slice none 0 0] ((9, .inp o (pcs l)) :: G0 : Heap) 10 (.bool true) ((9, .inp o (pcs l)) :: G0 : Heap) 10 := by
  have hr := recT_ok (P := Tryz.prog) (l := [(15, g15), (44, g44), (46, g46), (45, g45), (47, g47), (34, g34), (48, g48), (49, g49), (50, g50), (51, gBnd), (27, g94), (52, g52), (53, g53), (54, g54), (55, g55), (56, g56), (42, g42)]) (by simp [ok15, ok44, ok46, ok45, ok47, ok34, ok48, ok49, ok50, ok51, ok27, ok52, ok53, ok54, ok55, ok56, ok42])
  have h65 : l.length ≤ 65 := by simp only [shortK, Bool.or_eq_true, decide_eq_true_eq] at hsh; omega
  have hl' : l.length < 9223372036854775808 := by omega
  have h4 : l.length ≤ 4096 := by omega
  have ht : List.take (l.length * 3) (pcs l) = pcs l := List.take_of_length_le (by simp)
  have hR : refR l lo hi = none := by rw [refR, if_neg hre]
  have hcm : cmE l lo hi [] = refE l lo hi := cmE_bad hre
  have hE : firstV [pksE l, bndE lo hi] = refE l lo hi := rfl
  have hle : layE l [] ≠ 0 := fun e => hne (List.length_eq_zero_iff.1 (layE_zero e).2.1.symm)
  refine AC.pure Tryz.func8 rfl (by kernel_rfl) rfl [0, 7, 8, 9, 10, 11, 12, 13, 14, 15, 16, 17, 18, 19, 20, 21, 22, 23, 109, 110] rfl ?_
  refine E.seq ?_
  refine E.reg hr (by simp; rfl) ?_ -- region 0
  refine E.seq ?_
  refine E.seq ?_
  refine E.reg hr (by simp [g15, g44, yieldedA, flat, hsh]; rfl) ?_ -- region 1
  refine E.cond (t := false) (by simp) (fun h => by cases h) (fun _ => ?_)
  refine E.skip ?_
  refine E.seq ?_
  refine E.drawC mixed hr [9] [1, 3, 8, 9] [1, 3, 9] (by kernel_rfl) (by simp [g46, g45, prA, prB, flat, ht, pksOf_pcs, hl', h4, hne, pksR, pksAt, pksP, rowPks, rowOf, hR]; rfl) ?_ -- region 3
  refine E.seq ?_
  refine E.drawC mixed hr [3] [1, 3] [1, 3] (by kernel_rfl) (by simp [g46, g47, flat, ht, pksOf_pcs, hl', h4, hne, pksR, pksAt, pksP, rowPks, rowOf, hre]; rfl) ?_ -- region 4
  refine E.seq ?_
  refine E.drawC mixed hr [5] [1, 4, 5] [1, 4, 5] (by kernel_rfl) (by simp [g46, g34, g48, flat, ht, pksOf_pcs, hl', h4, hne, pksR, pksAt, pksN, rowPks, rowOf, intsW, intsM, hcm]; rfl) ?_ -- region 5
  refine E.seq ?_
  refine E.reg hr (by simp [g46, g34, g49, flat, ht, pksOf_pcs, hl', h4, hne, pksR, pksAt, pksN, rowPks, rowOf, intsW, intsM, hle]; rfl) ?_ -- region 6
  refine E.seq ?_
  refine E.reg hr (by simp [g50, flat, ht, pksOf_pcs, hl', pksR, pksAt]; rfl) ?_ -- region 7
  refine E.seq ?_
  refine E.reg hr (by simp [gBnd, g94, intsAt, flat, intsOf, hE]; rfl) ?_ -- region 8
  refine E.seq ?_
  refine E.reg hr (by simp; rfl) ?_ -- region 9
  refine E.seq ?_
  refine E.reg hr (by simp; rfl) ?_ -- region 10
  refine E.seq ?_
  refine E.reg hr (by simp; rfl) ?_ -- region 11
  refine E.seq ?_
  refine E.reg hr (by simp; rfl) ?_ -- region 12
  refine E.seq ?_
  refine E.reg hr (by simp; rfl) ?_ -- region 13
  refine E.seq ?_
  refine E.seq ?_
  refine E.reg hr (by simp [hre]; rfl) ?_ -- region 14
  refine E.cond (t := false) (by simp) (fun h => by cases h) (fun _ => ?_)
  refine E.skip ?_
  refine E.seq ?_
  refine E.seq ?_
  refine E.reg hr (by simp [hpe]; rfl) ?_ -- region 18
  refine E.cond (t := true) (by simp) (fun _ => ?_) (fun h => by cases h)
  refine E.reg hr (by simp [g55, flat, ht, pksOf_pcs, hl', pksR, pksAt, intsW, hle, hpe]; rfl) ?_ -- region 19
  refine E.seq ?_
  refine E.seq ?_
  refine E.reg hr (by simp; rfl) ?_ -- region 20
  refine E.cond (t := false) (by simp) (fun h => by cases h) (fun _ => ?_)
  refine E.skip ?_
  refine E.seq ?_
  refine E.seq ?_
  refine E.reg hr (by simp; rfl) ?_ -- region 22
  refine E.block ?_ -- 0
  refine E.loop ?_
  refine EL.step ?_
  refine E.seq ?_
  refine E.reg hr (by simp; rfl) ?_ -- region 23
  refine E.seq ?_
  refine E.cond (t := false) (by simp) (fun h => by cases h) (fun _ => ?_)
  refine E.exit ?_ -- 0
  refine E.seq ?_
  refine E.reg hr (by simp [g46, g56, g42, yieldedA, eql76, flat, ht, pksOf_pcs, hl', h4, hne, pksR, pksAt, pksP, rowPks, rowOf, hre, hpe]; rfl) ?_ -- region 28
  refine E.ret ?_
  exact pureK.ret rfl rfl (by simp) (by repeat first | exact sub_refl _ | refine sub_cons rfl ?_)
set_option maxRecDepth 20000 in
theorem w8pn1100 (l : List Pk) (o c : Nat) (hne : l ≠ []) (hsh : shortK l.length = true) (lo hi : Int) (hre : refE l lo hi = 0) (hsk : seek l lo hi = none) : AC Tryz.prog 8 [inpV o l.length c, ivl lo hi, .slice none 0 0] ((9, .inp o (pcs l)) :: G0 : Heap) 10 (.bool true) ((9, .inp o (pcs l)) :: G0 : Heap) 10 := by
  have hr := recT_ok (P := Tryz.prog) (l := [(15, g15), (44, g44), (46, g46), (45, g45), (47, g47), (34, g34), (48, g48), (49, g49), (50, g50), (51, gBnd), (27, g94), (52, g52), (53, g53), (54, g54), (55, g55), (56, g56), (42, g42)]) (by simp [ok15, ok44, ok46, ok45, ok47, ok34, ok48, ok49, ok50, ok51, ok27, ok52, ok53, ok54, ok55, ok56, ok42])
  have h65 : l.length ≤ 65 := by simp only [shortK, Bool.or_eq_true, decide_eq_true_eq] at hsh; omega
  have hl' : l.length < 9223372036854775808 := by omega
  have h4 : l.length ≤ 4096 := by omega
  have ht : List.take (l.length * 3) (pcs l) = pcs l := List.take_of_length_le (by simp)
  have hpe : pksE l = 0 := refE_pks hre
  have hok : PksOk l := (refE_ok hre).1
  have h64 : l.length ≤ 64 := (refE_ok hre).2.1
  have hb : BndIn lo hi := (refE_ok hre).2.2
  have h0l : ¬ 0 = l.length := fun e => hne (List.length_eq_zero_iff.1 e.symm)
  have hcm : cmE l lo hi [] = 2 := by rw [← cmE_good hre, if_neg (show ¬ ([] : List Int).length = l.length from fun e => hne (List.length_eq_zero_iff.1 e.symm))]
  have hR : refR l lo hi = seek l lo hi := by rw [refR, if_pos hre]
  have hE : firstV [pksE l, bndE lo hi] = refE l lo hi := rfl
  have hle : layE l [] ≠ 0 := fun e => hne (List.length_eq_zero_iff.1 (layE_zero e).2.1.symm)
  have htL : List.take l.length (ic (momL l lo hi)) = ic (momL l lo hi) := List.take_of_length_le (by simp)
  have hl31 : l.length < 2147483648 := by omega
  refine AC.pure Tryz.func8 rfl (by kernel_rfl) rfl [0, 7, 8, 9, 10, 11, 12, 13, 14, 15, 16, 17, 18, 19, 20, 21, 22, 23, 109, 110] rfl ?_
  refine E.seq ?_
  refine E.reg hr (by simp; rfl) ?_ -- region 0
  refine E.seq ?_
  refine E.seq ?_
  refine E.reg hr (by simp [g15, g44, yieldedA, flat, hsh]; rfl) ?_ -- region 1
  refine E.cond (t := false) (by simp) (fun h => by cases h) (fun _ => ?_)
  refine E.skip ?_
  refine E.seq ?_
  refine E.drawC mixed hr [9] [1, 3, 8, 9] [1, 3, 9] (by kernel_rfl) (by simp [g46, g45, prA, prB, flat, ht, pksOf_pcs, hl', h4, hne, pksR, pksAt, pksP, rowPks, rowOf, hre, hR, hsk]; rfl) ?_ -- region 3
  refine E.seq ?_
  refine E.drawC mixed hr [3] [1, 3] [1, 3] (by kernel_rfl) (by simp [g46, g47, flat, ht, pksOf_pcs, hl', h4, hne, pksR, pksAt, pksP, rowPks, rowOf, hre, hsk]; rfl) ?_ -- region 4
  refine E.seq ?_
  refine E.drawC mixed hr [5] [1, 4, 5] [1, 4, 5] (by kernel_rfl) (by simp [g46, g34, g48, flat, ht, pksOf_pcs, hl', h4, hne, pksR, pksAt, pksN, rowPks, rowOf, intsW, intsM, hcm]; rfl) ?_ -- region 5
  refine E.seq ?_
  refine E.reg hr (by simp [g46, g34, g49, flat, ht, pksOf_pcs, hl', h4, hne, pksR, pksAt, pksN, rowPks, rowOf, intsW, intsM, hle]; rfl) ?_ -- region 6
  refine E.seq ?_
  refine E.reg hr (by simp [g50, flat, ht, pksOf_pcs, hl', pksR, pksAt]; rfl) ?_ -- region 7
  refine E.seq ?_
  refine E.reg hr (by simp [gBnd, g94, intsAt, flat, intsOf, hE]; rfl) ?_ -- region 8
  refine E.seq ?_
  refine E.reg hr (by simp; rfl) ?_ -- region 9
  refine E.seq ?_
  refine E.reg hr (by simp; rfl) ?_ -- region 10
  refine E.seq ?_
  refine E.reg hr (by simp; rfl) ?_ -- region 11
  refine E.seq ?_
  refine E.reg hr (by simp; rfl) ?_ -- region 12
  refine E.seq ?_
  refine E.reg hr (by simp; rfl) ?_ -- region 13
  refine E.seq ?_
  refine E.seq ?_
  refine E.reg hr (by simp [hre]; rfl) ?_ -- region 14
  refine E.cond (t := true) (by simp) (fun _ => ?_) (fun h => by cases h)
  refine E.seq ?_
  refine E.reg hr (by simp [g52, prA, prB, flat, ht, pksOf_pcs, hl', pksR, pksAt, hre, hsk]; rfl) ?_ -- region 15
  refine E.seq ?_
  refine E.reg hr (by simp [g53, flat, ht, pksOf_pcs, hl', hne, pksR, pksAt, hre, hsk]; rfl) ?_ -- region 16
  refine E.reg hr (by simp [g54, hok, h64, hb, h0l, flat, ht, pksOf_pcs, hl', pksR, pksAt, intsW]; rfl) ?_ -- region 17
  refine E.seq ?_
  refine E.seq ?_
  refine E.reg hr (by simp [hpe]; rfl) ?_ -- region 18
  refine E.cond (t := true) (by simp) (fun _ => ?_) (fun h => by cases h)
  refine E.reg hr (by simp [g55, flat, ht, pksOf_pcs, hl', pksR, pksAt, intsW, hle, hpe]; rfl) ?_ -- region 19
  refine E.seq ?_
  refine E.seq ?_
  refine E.reg hr (by simp; rfl) ?_ -- region 20
  refine E.cond (t := false) (by simp) (fun h => by cases h) (fun _ => ?_)
  refine E.skip ?_
  refine E.seq ?_
  refine E.seq ?_
  refine E.reg hr (by simp; rfl) ?_ -- region 22
  refine E.block ?_ -- 0
  refine E.loop ?_
  refine EL.step ?_
  refine E.seq ?_
  refine E.reg hr (by simp; rfl) ?_ -- region 23
  refine E.seq ?_
  refine E.cond (t := false) (by simp) (fun h => by cases h) (fun _ => ?_)
  refine E.exit ?_ -- 0
  refine E.seq ?_
  refine E.reg hr (by simp [g46, g56, g42, alikeI, intsAt, intsOf_ic, yieldedA, eql76, flat, ht, pksOf_pcs, hl', h4, hne, pksR, pksAt, pksP, rowPks, rowOf, hpe, htL, hl31]; rfl) ?_ -- region 28
  refine E.ret ?_
  exact pureK.ret rfl rfl (by simp) (by repeat first | exact sub_refl _ | refine sub_cons rfl ?_)
set_option maxRecDepth 20000 in
theorem w8pn1110 (l : List Pk) (o c : Nat) (hne : l ≠ []) (hsh : shortK l.length = true) (lo hi : Int) (hre : refE l lo hi = 0) (hsk : (seek l lo hi).isSome = true) : AC Tryz.prog 8 [inpV o l.length c, ivl lo hi, .slice none 0 0] ((9, .inp o (pcs l)) :: G0 : Heap) 10 (.bool true) ((9, .inp o (pcs l)) :: G0 : Heap) 10 := by
  have hr := recT_ok (P := Tryz.prog) (l := [(15, g15), (44, g44), (46, g46), (45, g45), (47, g47), (34, g34), (48, g48), (49, g49), (50, g50), (51, gBnd), (27, g94), (52, g52), (53, g53), (54, g54), (55, g55), (56, g56), (42, g42)]) (by simp [ok15, ok44, ok46, ok45, ok47, ok34, ok48, ok49, ok50, ok51, ok27, ok52, ok53, ok54, ok55, ok56, ok42])
  have h65 : l.length ≤ 65 := by simp only [shortK, Bool.or_eq_true, decide_eq_true_eq] at hsh; omega
  have hl' : l.length < 9223372036854775808 := by omega
  have h4 : l.length ≤ 4096 := by omega
  have ht : List.take (l.length * 3) (pcs l) = pcs l := List.take_of_length_le (by simp)
  have hpe : pksE l = 0 := refE_pks hre
  have hok : PksOk l := (refE_ok hre).1
  have h64 : l.length ≤ 64 := (refE_ok hre).2.1
  have hb : BndIn lo hi := (refE_ok hre).2.2
  have h0l : ¬ 0 = l.length := fun e => hne (List.length_eq_zero_iff.1 e.symm)
  have hcm : cmE l lo hi [] = 2 := by rw [← cmE_good hre, if_neg (show ¬ ([] : List Int).length = l.length from fun e => hne (List.length_eq_zero_iff.1 e.symm))]
  have hR : refR l lo hi = seek l lo hi := by rw [refR, if_pos hre]
  have hE : firstV [pksE l, bndE lo hi] = refE l lo hi := rfl
  have hle : layE l [] ≠ 0 := fun e => hne (List.length_eq_zero_iff.1 (layE_zero e).2.1.symm)
  have hsn : ¬ seek l lo hi = none := fun e => by rw [e] at hsk; cases hsk
  refine AC.pure Tryz.func8 rfl (by kernel_rfl) rfl [0, 7, 8, 9, 10, 11, 12, 13, 14, 15, 16, 17, 18, 19, 20, 21, 22, 23, 109, 110] rfl ?_
  refine E.seq ?_
  refine E.reg hr (by simp; rfl) ?_ -- region 0
  refine E.seq ?_
  refine E.seq ?_
  refine E.reg hr (by simp [g15, g44, yieldedA, flat, hsh]; rfl) ?_ -- region 1
  refine E.cond (t := false) (by simp) (fun h => by cases h) (fun _ => ?_)
  refine E.skip ?_
  refine E.seq ?_
  refine E.drawC mixed hr [9] [1, 3, 8, 9] [1, 3, 9] (by kernel_rfl) (by simp [g46, g45, flat, ht, pksOf_pcs, hl', h4, hne, pksR, pksAt, pksP, rowPks, rowOf, hre, hR, hsk]; rfl) ?_ -- region 3
  refine E.seq ?_
  refine E.drawC mixed hr [3] [1, 3] [1, 3] (by kernel_rfl) (by simp [g46, g47, flat, ht, pksOf_pcs, hl', h4, hne, pksR, pksAt, pksP, rowPks, rowOf, hre, hsn]; rfl) ?_ -- region 4
  refine E.seq ?_
  refine E.drawC mixed hr [5] [1, 4, 5] [1, 4, 5] (by kernel_rfl) (by simp [g46, g34, g48, flat, ht, pksOf_pcs, hl', h4, hne, pksR, pksAt, pksN, rowPks, rowOf, intsW, intsM, hcm]; rfl) ?_ -- region 5
  refine E.seq ?_
  refine E.reg hr (by simp [g46, g34, g49, flat, ht, pksOf_pcs, hl', h4, hne, pksR, pksAt, pksN, rowPks, rowOf, intsW, intsM, hle]; rfl) ?_ -- region 6
  refine E.seq ?_
  refine E.reg hr (by simp [g50, flat, ht, pksOf_pcs, hl', pksR, pksAt]; rfl) ?_ -- region 7
  refine E.seq ?_
  refine E.reg hr (by simp [gBnd, g94, intsAt, flat, intsOf, hE]; rfl) ?_ -- region 8
  refine E.seq ?_
  refine E.reg hr (by simp; rfl) ?_ -- region 9
  refine E.seq ?_
  refine E.reg hr (by simp; rfl) ?_ -- region 10
  refine E.seq ?_
  refine E.reg hr (by simp; rfl) ?_ -- region 11
  refine E.seq ?_
  refine E.reg hr (by simp; rfl) ?_ -- region 12
  refine E.seq ?_
  refine E.reg hr (by simp; rfl) ?_ -- region 13
  refine E.seq ?_
  refine E.seq ?_
  refine E.reg hr (by simp [hre]; rfl) ?_ -- region 14
  refine E.cond (t := true) (by simp) (fun _ => ?_) (fun h => by cases h)
  refine E.seq ?_
  refine E.reg hr (by simp [g52, flat, ht, pksOf_pcs, hl', pksR, pksAt, hre, hsk]; rfl) ?_ -- region 15
  refine E.seq ?_
  refine E.reg hr (by simp [g53, flat, ht, pksOf_pcs, hl', pksR, pksAt, hre, hsk]; rfl) ?_ -- region 16
  refine E.reg hr (by simp [g54, hok, h64, hb, h0l, flat, ht, pksOf_pcs, hl', pksR, pksAt, intsW]; rfl) ?_ -- region 17
  refine E.seq ?_
  refine E.seq ?_
  refine E.reg hr (by simp [hpe]; rfl) ?_ -- region 18
  refine E.cond (t := true) (by simp) (fun _ => ?_) (fun h => by cases h)
  refine E.reg hr (by simp [g55, flat, ht, pksOf_pcs, hl', pksR, pksAt, intsW, hle, hpe]; rfl) ?_ -- region 19
  refine E.seq ?_
  refine E.seq ?_
  refine E.reg hr (by simp; rfl) ?_ -- region 20
  refine E.cond (t := false) (by simp) (fun h => by cases h) (fun _ => ?_)
  refine E.skip ?_
  refine E.seq ?_
  refine E.seq ?_
  refine E.reg hr (by simp; rfl) ?_ -- region 22
  refine E.block ?_ -- 0
  refine E.loop ?_
  refine EL.step ?_
  refine E.seq ?_
  refine E.reg hr (by simp; rfl) ?_ -- region 23
  refine E.seq ?_
  refine E.cond (t := false) (by simp) (fun h => by cases h) (fun _ => ?_)
  refine E.exit ?_ -- 0
  refine E.seq ?_
  refine E.reg hr (by simp [g46, g56, g42, yieldedA, eql76, flat, ht, pksOf_pcs, hl', h4, hne, pksR, pksAt, pksP, rowPks, rowOf, hpe]; rfl) ?_ -- region 28
  refine E.ret ?_
  exact pureK.ret rfl rfl (by simp) (by repeat first | exact sub_refl _ | refine sub_cons rfl ?_)
end Go.Proofs.YtkongcnmkiihjaaGreatDoor

namespace Go.Proofs.YtkongcnmkiihjaaGreatDoor
open Go Go.Ab Go.Proofs
set_option maxRecDepth 20000 in
theorem w8pe0000 (l : List Pk) (o c : Nat) (hne : l ≠ []) (hsh : shortK l.length = true) (o2 c2 : Nat) (lo hi : Int) (hre : refE l lo hi ≠ 0) (hpe : pksE l ≠ 0) : AC Tryz.prog 8 [inpV o l.length c, ivl lo hi, inpM 10 o2 0 c2] ((10, .inp o2 []) :: (9, .inp o (pcs l)) :: G0 : Heap) 11 (.bool true) ((10, .inp o2 []) :: (9, .inp o (pcs l)) :: G0 : Heap) 11 := by
  have hr := recT_ok (P := Tryz.prog) (l := [(15, g15), (44, g44), (46, g46), (45, g45), (47, g47), (34, g34), (48, g48), (49, g49), (50, g50), (51, gBnd), (27, g94), (52, g52), (53, g53), (54, g54), (55, g55), (56, g56), (42, g42)]) (by simp [ok15, ok44, ok46, ok45, ok47, ok34, ok48, ok49, ok50, ok51, ok27, ok52, ok53, ok54, ok55, ok56, ok42])
  have h65 : l.length ≤ 65 := by simp only [shortK, Bool.or_eq_true, decide_eq_true_eq] at hsh; omega
  have hl' : l.length < 9223372036854775808 := by omega
  have h4 : l.length ≤ 4096 := by omega
  have ht : List.take (l.length * 3) (pcs l) = pcs l := List.take_of_length_le (by simp)
  have hR : refR l lo hi = none := by rw [refR, if_neg hre]
  have hcm : cmE l lo hi [] = refE l lo hi := cmE_bad hre
  have hE : firstV [pksE l, bndE lo hi] = refE l lo hi := rfl
  have hlp : layE l [] = pksE l := layE_bad hpe
  refine AC.pure Tryz.func8 rfl (by kernel_rfl) rfl [0, 7, 8, 9, 10, 11, 12, 13, 14, 15, 16, 17, 18, 19, 20, 21, 22, 23, 109, 110] rfl ?_
  refine E.seq ?_
  refine E.reg hr (by simp; rfl) ?_ -- region 0
  refine E.seq ?_
  refine E.seq ?_
  refine E.reg hr (by simp [g15, g44, yieldedA, flat, hsh]; rfl) ?_ -- region 1
  refine E.cond (t := false) (by simp) (fun h => by cases h) (fun _ => ?_)
  refine E.skip ?_
  refine E.seq ?_
  refine E.drawC mixed hr [9] [1, 3, 8, 9] [1, 3, 9] (by kernel_rfl) (by simp [g46, g45, prA, prB, flat, ht, pksOf_pcs, hl', h4, hne, pksR, pksAt, pksP, rowPks, rowOf, hR]; rfl) ?_ -- region 3
  refine E.seq ?_
  refine E.drawC mixed hr [3] [1, 3] [1, 3] (by kernel_rfl) (by simp [g46, g47, flat, ht, pksOf_pcs, hl', h4, hne, pksR, pksAt, pksP, rowPks, rowOf, hre]; rfl) ?_ -- region 4
  refine E.seq ?_
  refine E.drawC mixed hr [5] [1, 4, 5] [1, 4, 5] (by kernel_rfl) (by simp [g46, g34, g48, flat, ht, pksOf_pcs, hl', h4, hne, pksR, pksAt, pksN, rowPks, rowOf, intsW, intsAt, intsM, intsOf, hcm]; rfl) ?_ -- region 5
  refine E.seq ?_
  refine E.reg hr (by simp [g46, g34, g49, flat, ht, pksOf_pcs, hl', h4, hne, pksR, pksAt, pksN, rowPks, rowOf, intsW, intsAt, intsM, intsOf, hlp, hpe]; rfl) ?_ -- region 6
  refine E.seq ?_
  refine E.reg hr (by simp [g50, flat, ht, pksOf_pcs, hl', pksR, pksAt]; rfl) ?_ -- region 7
  refine E.seq ?_
  refine E.reg hr (by simp [gBnd, g94, intsAt, flat, intsOf, hE]; rfl) ?_ -- region 8
  refine E.seq ?_
  refine E.reg hr (by simp; rfl) ?_ -- region 9
  refine E.seq ?_
  refine E.reg hr (by simp; rfl) ?_ -- region 10
  refine E.seq ?_
  refine E.reg hr (by simp; rfl) ?_ -- region 11
  refine E.seq ?_
  refine E.reg hr (by simp; rfl) ?_ -- region 12
  refine E.seq ?_
  refine E.reg hr (by simp; rfl) ?_ -- region 13
  refine E.seq ?_
  refine E.seq ?_
  refine E.reg hr (by simp [hre]; rfl) ?_ -- region 14
  refine E.cond (t := false) (by simp) (fun h => by cases h) (fun _ => ?_)
  refine E.skip ?_
  refine E.seq ?_
  refine E.seq ?_
  refine E.reg hr (by simp [hpe]; rfl) ?_ -- region 18
  refine E.cond (t := false) (by simp) (fun h => by cases h) (fun _ => ?_)
  refine E.skip ?_
  refine E.seq ?_
  refine E.seq ?_
  refine E.reg hr (by simp; rfl) ?_ -- region 20
  refine E.cond (t := false) (by simp) (fun h => by cases h) (fun _ => ?_)
  refine E.skip ?_
  refine E.seq ?_
  refine E.seq ?_
  refine E.reg hr (by simp; rfl) ?_ -- region 22
  refine E.block ?_ -- 0
  refine E.loop ?_
  refine EL.step ?_
  refine E.seq ?_
  refine E.reg hr (by simp; rfl) ?_ -- region 23
  refine E.seq ?_
  refine E.cond (t := false) (by simp) (fun h => by cases h) (fun _ => ?_)
  refine E.exit ?_ -- 0
  refine E.seq ?_
  refine E.reg hr (by simp [g46, g56, g42, yieldedA, eql76, flat, ht, pksOf_pcs, hl', h4, hne, pksR, pksAt, pksP, rowPks, rowOf, hre]; rfl) ?_ -- region 28
  refine E.ret ?_
  exact pureK.ret rfl rfl (by simp) (by repeat first | exact sub_refl _ | refine sub_cons rfl ?_)
set_option maxRecDepth 20000 in
theorem w8pe0100 (l : List Pk) (o c : Nat) (hne : l ≠ []) (hsh : shortK l.length = true) (o2 c2 : Nat) (lo hi : Int) (hre : refE l lo hi ≠ 0) (hpe : pksE l = 0) : AC Tryz.prog 8 [inpV o l.length c, ivl lo hi, inpM 10 o2 0 c2] ((10, .inp o2 []) :: (9, .inp o (pcs l)) :: G0 : Heap) 11 (.bool true) ((10, .inp o2 []) :: (9, .inp o (pcs l)) :: G0 : Heap) 11 := by
  have hr := recT_ok (P := Tryz.prog) (l := [(15, g15), (44, g44), (46, g46), (45, g45), (47, g47), (34, g34), (48, g48), (49, g49), (50, g50), (51, gBnd), (27, g94), (52, g52), (53, g53), (54, g54), (55, g55), (56, g56), (42, g42)]) (by simp [ok15, ok44, ok46, ok45, ok47, ok34, ok48, ok49, ok50, ok51, ok27, ok52, ok53, ok54, ok55, ok56, ok42])
  have h65 : l.length ≤ 65 := by simp only [shortK, Bool.or_eq_true, decide_eq_true_eq] at hsh; omega
  have hl' : l.length < 9223372036854775808 := by omega
  have h4 : l.length ≤ 4096 := by omega
  have ht : List.take (l.length * 3) (pcs l) = pcs l := List.take_of_length_le (by simp)
  have hR : refR l lo hi = none := by rw [refR, if_neg hre]
  have hcm : cmE l lo hi [] = refE l lo hi := cmE_bad hre
  have hE : firstV [pksE l, bndE lo hi] = refE l lo hi := rfl
  have hle : layE l [] ≠ 0 := fun e => hne (List.length_eq_zero_iff.1 (layE_zero e).2.1.symm)
  refine AC.pure Tryz.func8 rfl (by kernel_rfl) rfl [0, 7, 8, 9, 10, 11, 12, 13, 14, 15, 16, 17, 18, 19, 20, 21, 22, 23, 109, 110] rfl ?_
  refine E.seq ?_
  refine E.reg hr (by simp; rfl) ?_ -- region 0
  refine E.seq ?_
  refine E.seq ?_
  refine E.reg hr (by simp [g15, g44, yieldedA, flat, hsh]; rfl) ?_ -- region 1
  refine E.cond (t := false) (by simp) (fun h => by cases h) (fun _ => ?_)
  refine E.skip ?_
  refine E.seq ?_
  refine E.drawC mixed hr [9] [1, 3, 8, 9] [1, 3, 9] (by kernel_rfl) (by simp [g46, g45, prA, prB, flat, ht, pksOf_pcs, hl', h4, hne, pksR, pksAt, pksP, rowPks, rowOf, hR]; rfl) ?_ -- region 3
  refine E.seq ?_
  refine E.drawC mixed hr [3] [1, 3] [1, 3] (by kernel_rfl) (by simp [g46, g47, flat, ht, pksOf_pcs, hl', h4, hne, pksR, pksAt, pksP, rowPks, rowOf, hre]; rfl) ?_ -- region 4
  refine E.seq ?_
  refine E.drawC mixed hr [5] [1, 4, 5] [1, 4, 5] (by kernel_rfl) (by simp [g46, g34, g48, flat, ht, pksOf_pcs, hl', h4, hne, pksR, pksAt, pksN, rowPks, rowOf, intsW, intsAt, intsM, intsOf, hcm]; rfl) ?_ -- region 5
  refine E.seq ?_
  refine E.reg hr (by simp [g46, g34, g49, flat, ht, pksOf_pcs, hl', h4, hne, pksR, pksAt, pksN, rowPks, rowOf, intsW, intsAt, intsM, intsOf, hle]; rfl) ?_ -- region 6
  refine E.seq ?_
  refine E.reg hr (by simp [g50, flat, ht, pksOf_pcs, hl', pksR, pksAt]; rfl) ?_ -- region 7
  refine E.seq ?_
  refine E.reg hr (by simp [gBnd, g94, intsAt, flat, intsOf, hE]; rfl) ?_ -- region 8
  refine E.seq ?_
  refine E.reg hr (by simp; rfl) ?_ -- region 9
  refine E.seq ?_
  refine E.reg hr (by simp; rfl) ?_ -- region 10
  refine E.seq ?_
  refine E.reg hr (by simp; rfl) ?_ -- region 11
  refine E.seq ?_
  refine E.reg hr (by simp; rfl) ?_ -- region 12
  refine E.seq ?_
  refine E.reg hr (by simp; rfl) ?_ -- region 13
  refine E.seq ?_
  refine E.seq ?_
  refine E.reg hr (by simp [hre]; rfl) ?_ -- region 14
  refine E.cond (t := false) (by simp) (fun h => by cases h) (fun _ => ?_)
  refine E.skip ?_
  refine E.seq ?_
  refine E.seq ?_
  refine E.reg hr (by simp [hpe]; rfl) ?_ -- region 18
  refine E.cond (t := true) (by simp) (fun _ => ?_) (fun h => by cases h)
  refine E.reg hr (by simp [g55, flat, ht, pksOf_pcs, hl', pksR, pksAt, intsW, intsAt, intsOf, hle, hpe]; rfl) ?_ -- region 19
  refine E.seq ?_
  refine E.seq ?_
  refine E.reg hr (by simp; rfl) ?_ -- region 20
  refine E.cond (t := false) (by simp) (fun h => by cases h) (fun _ => ?_)
  refine E.skip ?_
  refine E.seq ?_
  refine E.seq ?_
  refine E.reg hr (by simp; rfl) ?_ -- region 22
  refine E.block ?_ -- 0
  refine E.loop ?_
  refine EL.step ?_
  refine E.seq ?_
  refine E.reg hr (by simp; rfl) ?_ -- region 23
  refine E.seq ?_
  refine E.cond (t := false) (by simp) (fun h => by cases h) (fun _ => ?_)
  refine E.exit ?_ -- 0
  refine E.seq ?_
  refine E.reg hr (by simp [g46, g56, g42, yieldedA, eql76, flat, ht, pksOf_pcs, hl', h4, hne, pksR, pksAt, pksP, rowPks, rowOf, hre, hpe]; rfl) ?_ -- region 28
  refine E.ret ?_
  exact pureK.ret rfl rfl (by simp) (by repeat first | exact sub_refl _ | refine sub_cons rfl ?_)
set_option maxRecDepth 20000 in
theorem w8pe1100 (l : List Pk) (o c : Nat) (hne : l ≠ []) (hsh : shortK l.length = true) (o2 c2 : Nat) (lo hi : Int) (hre : refE l lo hi = 0) (hsk : seek l lo hi = none) : AC Tryz.prog 8 [inpV o l.length c, ivl lo hi, inpM 10 o2 0 c2] ((10, .inp o2 []) :: (9, .inp o (pcs l)) :: G0 : Heap) 11 (.bool true) ((10, .inp o2 []) :: (9, .inp o (pcs l)) :: G0 : Heap) 11 := by
  have hr := recT_ok (P := Tryz.prog) (l := [(15, g15), (44, g44), (46, g46), (45, g45), (47, g47), (34, g34), (48, g48), (49, g49), (50, g50), (51, gBnd), (27, g94), (52, g52), (53, g53), (54, g54), (55, g55), (56, g56), (42, g42)]) (by simp [ok15, ok44, ok46, ok45, ok47, ok34, ok48, ok49, ok50, ok51, ok27, ok52, ok53, ok54, ok55, ok56, ok42])
  have h65 : l.length ≤ 65 := by simp only [shortK, Bool.or_eq_true, decide_eq_true_eq] at hsh; omega
  have hl' : l.length < 9223372036854775808 := by omega
  have h4 : l.length ≤ 4096 := by omega
  have ht : List.take (l.length * 3) (pcs l) = pcs l := List.take_of_length_le (by simp)
  have hpe : pksE l = 0 := refE_pks hre
  have hok : PksOk l := (refE_ok hre).1
  have h64 : l.length ≤ 64 := (refE_ok hre).2.1
  have hb : BndIn lo hi := (refE_ok hre).2.2
  have h0l : ¬ 0 = l.length := fun e => hne (List.length_eq_zero_iff.1 e.symm)
  have hcm : cmE l lo hi [] = 2 := by rw [← cmE_good hre, if_neg (show ¬ ([] : List Int).length = l.length from fun e => hne (List.length_eq_zero_iff.1 e.symm))]
  have hR : refR l lo hi = seek l lo hi := by rw [refR, if_pos hre]
  have hE : firstV [pksE l, bndE lo hi] = refE l lo hi := rfl
  have hle : layE l [] ≠ 0 := fun e => hne (List.length_eq_zero_iff.1 (layE_zero e).2.1.symm)
  have htL : List.take l.length (ic (momL l lo hi)) = ic (momL l lo hi) := List.take_of_length_le (by simp)
  have hl31 : l.length < 2147483648 := by omega
  refine AC.pure Tryz.func8 rfl (by kernel_rfl) rfl [0, 7, 8, 9, 10, 11, 12, 13, 14, 15, 16, 17, 18, 19, 20, 21, 22, 23, 109, 110] rfl ?_
  refine E.seq ?_
  refine E.reg hr (by simp; rfl) ?_ -- region 0
  refine E.seq ?_
  refine E.seq ?_
  refine E.reg hr (by simp [g15, g44, yieldedA, flat, hsh]; rfl) ?_ -- region 1
  refine E.cond (t := false) (by simp) (fun h => by cases h) (fun _ => ?_)
  refine E.skip ?_
  refine E.seq ?_
  refine E.drawC mixed hr [9] [1, 3, 8, 9] [1, 3, 9] (by kernel_rfl) (by simp [g46, g45, prA, prB, flat, ht, pksOf_pcs, hl', h4, hne, pksR, pksAt, pksP, rowPks, rowOf, hre, hR, hsk]; rfl) ?_ -- region 3
  refine E.seq ?_
  refine E.drawC mixed hr [3] [1, 3] [1, 3] (by kernel_rfl) (by simp [g46, g47, flat, ht, pksOf_pcs, hl', h4, hne, pksR, pksAt, pksP, rowPks, rowOf, hre, hsk]; rfl) ?_ -- region 4
  refine E.seq ?_
  refine E.drawC mixed hr [5] [1, 4, 5] [1, 4, 5] (by kernel_rfl) (by simp [g46, g34, g48, flat, ht, pksOf_pcs, hl', h4, hne, pksR, pksAt, pksN, rowPks, rowOf, intsW, intsAt, intsM, intsOf, hcm]; rfl) ?_ -- region 5
  refine E.seq ?_
  refine E.reg hr (by simp [g46, g34, g49, flat, ht, pksOf_pcs, hl', h4, hne, pksR, pksAt, pksN, rowPks, rowOf, intsW, intsAt, intsM, intsOf, hle]; rfl) ?_ -- region 6
  refine E.seq ?_
  refine E.reg hr (by simp [g50, flat, ht, pksOf_pcs, hl', pksR, pksAt]; rfl) ?_ -- region 7
  refine E.seq ?_
  refine E.reg hr (by simp [gBnd, g94, intsAt, flat, intsOf, hE]; rfl) ?_ -- region 8
  refine E.seq ?_
  refine E.reg hr (by simp; rfl) ?_ -- region 9
  refine E.seq ?_
  refine E.reg hr (by simp; rfl) ?_ -- region 10
  refine E.seq ?_
  refine E.reg hr (by simp; rfl) ?_ -- region 11
  refine E.seq ?_
  refine E.reg hr (by simp; rfl) ?_ -- region 12
  refine E.seq ?_
  refine E.reg hr (by simp; rfl) ?_ -- region 13
  refine E.seq ?_
  refine E.seq ?_
  refine E.reg hr (by simp [hre]; rfl) ?_ -- region 14
  refine E.cond (t := true) (by simp) (fun _ => ?_) (fun h => by cases h)
  refine E.seq ?_
  refine E.reg hr (by simp [g52, prA, prB, flat, ht, pksOf_pcs, hl', pksR, pksAt, hre, hsk]; rfl) ?_ -- region 15
  refine E.seq ?_
  refine E.reg hr (by simp [g53, flat, ht, pksOf_pcs, hl', hne, pksR, pksAt, hre, hsk]; rfl) ?_ -- region 16
  refine E.reg hr (by simp [g54, hok, h64, hb, h0l, flat, ht, pksOf_pcs, hl', pksR, pksAt, intsW, intsAt, intsOf]; rfl) ?_ -- region 17
  refine E.seq ?_
  refine E.seq ?_
  refine E.reg hr (by simp [hpe]; rfl) ?_ -- region 18
  refine E.cond (t := true) (by simp) (fun _ => ?_) (fun h => by cases h)
  refine E.reg hr (by simp [g55, flat, ht, pksOf_pcs, hl', pksR, pksAt, intsW, intsAt, intsOf, hle, hpe]; rfl) ?_ -- region 19
  refine E.seq ?_
  refine E.seq ?_
  refine E.reg hr (by simp; rfl) ?_ -- region 20
  refine E.cond (t := false) (by simp) (fun h => by cases h) (fun _ => ?_)
  refine E.skip ?_
  refine E.seq ?_
  refine E.seq ?_
  refine E.reg hr (by simp; rfl) ?_ -- region 22
  refine E.block ?_ -- 0
  refine E.loop ?_
  refine EL.step ?_
  refine E.seq ?_
  refine E.reg hr (by simp; rfl) ?_ -- region 23
  refine E.seq ?_
  refine E.cond (t := false) (by simp) (fun h => by cases h) (fun _ => ?_)
  refine E.exit ?_ -- 0
  refine E.seq ?_
  refine E.reg hr (by simp [g46, g56, g42, alikeI, intsAt, intsOf_ic, yieldedA, eql76, flat, ht, pksOf_pcs, hl', h4, hne, pksR, pksAt, pksP, rowPks, rowOf, hpe, htL, hl31]; rfl) ?_ -- region 28
  refine E.ret ?_
  exact pureK.ret rfl rfl (by simp) (by repeat first | exact sub_refl _ | refine sub_cons rfl ?_)
set_option maxRecDepth 20000 in
theorem w8pe1110 (l : List Pk) (o c : Nat) (hne : l ≠ []) (hsh : shortK l.length = true) (o2 c2 : Nat) (lo hi : Int) (hre : refE l lo hi = 0) (hsk : (seek l lo hi).isSome = true) : AC Tryz.prog 8 [inpV o l.length c, ivl lo hi, inpM 10 o2 0 c2] ((10, .inp o2 []) :: (9, .inp o (pcs l)) :: G0 : Heap) 11 (.bool true) ((10, .inp o2 []) :: (9, .inp o (pcs l)) :: G0 : Heap) 11 := by
  have hr := recT_ok (P := Tryz.prog) (l := [(15, g15), (44, g44), (46, g46), (45, g45), (47, g47), (34, g34), (48, g48), (49, g49), (50, g50), (51, gBnd), (27, g94), (52, g52), (53, g53), (54, g54), (55, g55), (56, g56), (42, g42)]) (by simp [ok15, ok44, ok46, ok45, ok47, ok34, ok48, ok49, ok50, ok51, ok27, ok52, ok53, ok54, ok55, ok56, ok42])
  have h65 : l.length ≤ 65 := by simp only [shortK, Bool.or_eq_true, decide_eq_true_eq] at hsh; omega
  have hl' : l.length < 9223372036854775808 := by omega
  have h4 : l.length ≤ 4096 := by omega
  have ht : List.take (l.length * 3) (pcs l) = pcs l := List.take_of_length_le (by simp)
  have hpe : pksE l = 0 := refE_pks hre
  have hok : PksOk l := (refE_ok hre).1
  have h64 : l.length ≤ 64 := (refE_ok hre).2.1
  have hb : BndIn lo hi := (refE_ok hre).2.2
  have h0l : ¬ 0 = l.length := fun e => hne (List.length_eq_zero_iff.1 e.symm)
  have hcm : cmE l lo hi [] = 2 := by rw [← cmE_good hre, if_neg (show ¬ ([] : List Int).length = l.length from fun e => hne (List.length_eq_zero_iff.1 e.symm))]
  have hR : refR l lo hi = seek l lo hi := by rw [refR, if_pos hre]
  have hE : firstV [pksE l, bndE lo hi] = refE l lo hi := rfl
  have hle : layE l [] ≠ 0 := fun e => hne (List.length_eq_zero_iff.1 (layE_zero e).2.1.symm)
  have hsn : ¬ seek l lo hi = none := fun e => by rw [e] at hsk; cases hsk
  refine AC.pure Tryz.func8 rfl (by kernel_rfl) rfl [0, 7, 8, 9, 10, 11, 12, 13, 14, 15, 16, 17, 18, 19, 20, 21, 22, 23, 109, 110] rfl ?_
  refine E.seq ?_
  refine E.reg hr (by simp; rfl) ?_ -- region 0
  refine E.seq ?_
  refine E.seq ?_
  refine E.reg hr (by simp [g15, g44, yieldedA, flat, hsh]; rfl) ?_ -- region 1
  refine E.cond (t := false) (by simp) (fun h => by cases h) (fun _ => ?_)
  refine E.skip ?_
  refine E.seq ?_
  refine E.drawC mixed hr [9] [1, 3, 8, 9] [1, 3, 9] (by kernel_rfl) (by simp [g46, g45, flat, ht, pksOf_pcs, hl', h4, hne, pksR, pksAt, pksP, rowPks, rowOf, hre, hR, hsk]; rfl) ?_ -- region 3
  refine E.seq ?_
  refine E.drawC mixed hr [3] [1, 3] [1, 3] (by kernel_rfl) (by simp [g46, g47, flat, ht, pksOf_pcs, hl', h4, hne, pksR, pksAt, pksP, rowPks, rowOf, hre, hsn]; rfl) ?_ -- region 4
  refine E.seq ?_
  refine E.drawC mixed hr [5] [1, 4, 5] [1, 4, 5] (by kernel_rfl) (by simp [g46, g34, g48, flat, ht, pksOf_pcs, hl', h4, hne, pksR, pksAt, pksN, rowPks, rowOf, intsW, intsAt, intsM, intsOf, hcm]; rfl) ?_ -- region 5
  refine E.seq ?_
  refine E.reg hr (by simp [g46, g34, g49, flat, ht, pksOf_pcs, hl', h4, hne, pksR, pksAt, pksN, rowPks, rowOf, intsW, intsAt, intsM, intsOf, hle]; rfl) ?_ -- region 6
  refine E.seq ?_
  refine E.reg hr (by simp [g50, flat, ht, pksOf_pcs, hl', pksR, pksAt]; rfl) ?_ -- region 7
  refine E.seq ?_
  refine E.reg hr (by simp [gBnd, g94, intsAt, flat, intsOf, hE]; rfl) ?_ -- region 8
  refine E.seq ?_
  refine E.reg hr (by simp; rfl) ?_ -- region 9
  refine E.seq ?_
  refine E.reg hr (by simp; rfl) ?_ -- region 10
  refine E.seq ?_
  refine E.reg hr (by simp; rfl) ?_ -- region 11
  refine E.seq ?_
  refine E.reg hr (by simp; rfl) ?_ -- region 12
  refine E.seq ?_
  refine E.reg hr (by simp; rfl) ?_ -- region 13
  refine E.seq ?_
  refine E.seq ?_
  refine E.reg hr (by simp [hre]; rfl) ?_ -- region 14
  refine E.cond (t := true) (by simp) (fun _ => ?_) (fun h => by cases h)
  refine E.seq ?_
  refine E.reg hr (by simp [g52, flat, ht, pksOf_pcs, hl', pksR, pksAt, hre, hsk]; rfl) ?_ -- region 15
  refine E.seq ?_
  refine E.reg hr (by simp [g53, flat, ht, pksOf_pcs, hl', pksR, pksAt, hre, hsk]; rfl) ?_ -- region 16
  refine E.reg hr (by simp [g54, hok, h64, hb, h0l, flat, ht, pksOf_pcs, hl', pksR, pksAt, intsW, intsAt, intsOf]; rfl) ?_ -- region 17
  refine E.seq ?_
  refine E.seq ?_
  refine E.reg hr (by simp [hpe]; rfl) ?_ -- region 18
  refine E.cond (t := true) (by simp) (fun _ => ?_) (fun h => by cases h)
  refine E.reg hr (by simp [g55, flat, ht, pksOf_pcs, hl', pksR, pksAt, intsW, intsAt, intsOf, hle, hpe]; rfl) ?_ -- region 19
  refine E.seq ?_
  refine E.seq ?_
  refine E.reg hr (by simp; rfl) ?_ -- region 20
  refine E.cond (t := false) (by simp) (fun h => by cases h) (fun _ => ?_)
  refine E.skip ?_
  refine E.seq ?_
  refine E.seq ?_
  refine E.reg hr (by simp; rfl) ?_ -- region 22
  refine E.block ?_ -- 0
  refine E.loop ?_
  refine EL.step ?_
  refine E.seq ?_
  refine E.reg hr (by simp; rfl) ?_ -- region 23
  refine E.seq ?_
  refine E.cond (t := false) (by simp) (fun h => by cases h) (fun _ => ?_)
  refine E.exit ?_ -- 0
  refine E.seq ?_
  refine E.reg hr (by simp [g46, g56, g42, yieldedA, eql76, flat, ht, pksOf_pcs, hl', h4, hne, pksR, pksAt, pksP, rowPks, rowOf, hpe]; rfl) ?_ -- region 28
  refine E.ret ?_
  exact pureK.ret rfl rfl (by simp) (by repeat first | exact sub_refl _ | refine sub_cons rfl ?_)
end Go.Proofs.YtkongcnmkiihjaaGreatDoor
