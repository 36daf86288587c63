/-
The law VelocityExplained, walked where picks are handed (a theorem for each way through it: its conditions name the way).
-/
import Derived.Test.YtkongcnmkiihjaaGreatDoorYj
import Derived.Test.YtkongcnmkiihjaaGreatDoorFa
namespace Go.Proofs.YtkongcnmkiihjaaGreatDoor
open Go Go.Ab Go.Proofs
@[simp] theorem eql4 {x y : Operand} {H : Heap} {n : Nat} (a b : Bool) : binV Tryz.prog .eql 4 x y (.bool a) (.bool b) H n = some (.bool (a == b), H, n) := by cases a <;> cases b <;> kernel_rfl
@[simp] theorem renL_ranges (ρ : Nat → Nat) : renL ρ rangesV = rangesV := by kernel_rfl
@[simp] theorem renL_free (ρ : Nat → Nat) : renL ρ freeV = freeV := by kernel_rfl
@[simp] theorem scL_ranges (p : Nat → Prop) : scL p rangesV := scL_af _ _ af_rangesV
@[simp] theorem scL_free (p : Nat → Prop) : scL p freeV := scL_af _ _ af_freeV
theorem build100c {fr : Fr} {H : Heap} {n : Nat} {x y : Operand} {a b : Int} (hx : evO Tryz.prog fr x = some (iv a)) (hy : evO Tryz.prog fr y = some (iv b)) : opBuild Tryz.prog 100 #[(0, x), (1, y), (2, .const (.int .i64 1))] fr H n = some (.agg #[iv a, iv b, iv 1], H, n) := build100 hx hy rfl
@[simp] theorem oneL_pcs (l : List Pk) : oneL (pcs l) = true := by
  induction l with
  | nil => rfl
  | cons a l ih =>
    show oneL (a.cells ++ pcs l) = true
    simp [oneL, ih]
/-! ### exact picks, one by one -/
def totT (lo hi : Int) (ms : List Int) (i : Nat) : List Int := (List.range i).map fun k => tot lo hi ms (k + 1)
def exT (lo hi : Int) (ms : List Int) (i : Nat) : List Pk := (List.range i).map (exP lo hi ms)
@[simp] theorem totT_length (lo hi : Int) (ms : List Int) (i : Nat) : (totT lo hi ms i).length = i := by simp [totT]
@[simp] theorem exT_length (lo hi : Int) (ms : List Int) (i : Nat) : (exT lo hi ms i).length = i := by simp [exT]
theorem totT_succ (lo hi : Int) (ms : List Int) (i : Nat) : totT lo hi ms i ++ [tot lo hi ms (i + 1)] = totT lo hi ms (i + 1) := by simp [totT, List.range_succ]
theorem exT_succ (lo hi : Int) (ms : List Int) (i : Nat) : exT lo hi ms i ++ [exP lo hi ms i] = exT lo hi ms (i + 1) := by simp [exT, List.range_succ]
theorem tot_small {lo hi : Int} (hb : BndIn lo hi) {ms : List Int} {i : Nat} (h : i ≤ 16) : -100000000000 ≤ tot lo hi ms i ∧ tot lo hi ms i ≤ 100000000000 := by
  obtain ⟨b1, b2, b3, b4, b5⟩ := hb
  have := tot_in b5 ms i
  have h1 := Int.mul_le_mul_of_nonneg_right b4 (show 0 ≤ (i : Int) by omega)
  have h2 := Int.mul_nonneg (show 0 ≤ lo by omega) (show 0 ≤ (i : Int) by omega)
  omega
@[simp] theorem neq4 {x y : Operand} {H : Heap} {n : Nat} (a b : Bool) : binV Tryz.prog .neq 4 x y (.bool a) (.bool b) H n = some (.bool (!(a == b)), H, n) := by cases a <;> cases b <;> kernel_rfl
set_option maxHeartbeats 2000000 in
set_option maxRecDepth 20000 in
theorem w9pm (l : List Pk) (o c : Nat) (ms : List Int) (o2 c2 : Nat) (lo hi : Int) (hre : refE l lo hi = 0) (hne : l ≠ []) (h6 : l.length ≤ 6) (hsk : seek l lo hi = none) (hmn : ms ≠ []) (h8 : ms.length ≤ 8) : AC Tryz.prog 9 [inpV o l.length c, ivl lo hi, inpM 10 o2 ms.length c2] ((10, .inp o2 (ms.map iv)) :: (9, .inp o (pcs l)) :: G0 : Heap) 11 (.bool true) ((10, .inp o2 (ms.map iv)) :: (9, .inp o (pcs l)) :: G0 : Heap) 11 := by
  have hr := recT_ok (P := Tryz.prog) (l := [(15, g15), (44, g44), (46, g46), (45, g45), (47, g47), (34, g34), (48, g48b), (49, g49), (50, g50), (51, gBnd), (27, g94)]) (by simp [ok15, ok44, ok46, ok45, ok47, ok34, ok48b, ok49, ok50, ok51, ok27])
  have hb : BndIn lo hi := (refE_ok hre).2.2
  have hbk := hb
  obtain ⟨b1, b2, b3, b4, b5⟩ := hbk
  have hE : firstV [pksE l, bndE lo hi] = refE l lo hi := rfl
  have hpe : pksE l = 0 := refE_pks hre
  have hok : PksOk l := (refE_ok hre).1
  have hsh : shortK l.length = true := by simp only [shortK, Bool.or_eq_true, decide_eq_true_eq]; omega
  have hl' : l.length < 9223372036854775808 := by omega
  have h4 : l.length ≤ 4096 := by omega
  have h6I : ¬ (6 : Int) < (l.length : Int) := by omega
  have ht : List.take (l.length * 3) (pcs l) = pcs l := List.take_of_length_le (by simp)
  have hR : refR l lo hi = seek l lo hi := by rw [refR, if_pos hre]
  have hm' : ms.length < 2147483648 := by omega
  have hm4 : ms.length ≤ 4096 := by omega
  have h8I : ¬ (8 : Int) < (ms.length : Int) := by omega
  have htm : List.take ms.length (ms.map iv) = ms.map iv := List.take_of_length_le (by simp)
  refine AC.pure Tryz.func9 rfl (by kernel_rfl) rfl [0, 2, 4, 10, 12, 13, 15, 23, 24, 25, 130, 131, 132, 228, 229, 230] rfl ?_
  refine E.seq ?_
  refine E.reg hr (by simp; rfl) ?_ -- region 0
  refine E.seq ?_
  refine E.seq ?_
  refine E.drawC mixed hr [0, 4, 16, 17, 18] [0, 4, 14, 16, 17, 18] [0, 4, 14, 16, 17, 18] (by kernel_rfl) (by simp [g15, g44, g50, gBnd, g94, intsAt, intsOf, yieldedA, hE, hre, flat, pksR, pksAt, ht, pksOf_pcs, hl', hsh, h6I, h8I]; rfl) ?_ -- region 1
  refine E.cond (t := false) (by simp) (fun h => by cases h) (fun _ => ?_)
  refine E.skip ?_
  refine E.seq ?_
  refine E.drawC mixed hr [9] [1, 3, 8, 9] [1, 3, 9] (by kernel_rfl) (by simp [g46, g45, prA, prB, flat, pksR, pksAt, pksP, rowPks, rowOf, ht, pksOf_pcs, hl', h4, hne, hre, hR, hsk]; rfl) ?_ -- region 3
  refine E.seq ?_
  refine E.drawC mixed hr [3] [1, 3] [1, 3] (by kernel_rfl) (by simp [g46, g47, flat, pksR, pksAt, pksP, rowPks, rowOf, ht, pksOf_pcs, hl', h4, hne, hre, hsk]; rfl) ?_ -- region 4
  refine E.seq ?_
  refine E.drawC mixed hr [5] [1, 4, 5] [1, 4, 5] (by kernel_rfl) (by simp [g46, g34, g48b, g48, flat, pksR, pksAt, pksN, rowPks, rowOf, ht, pksOf_pcs, hl', h4, hne, intsW, intsM, intsAt, rowIntsN, rowInts, intsOf_iv, hm', hm4, htm, hmn]; rfl) ?_ -- region 5
  refine E.seq ?_
  refine E.seq ?_
  refine E.reg hr (by simp [yieldedA]; rfl) ?_ -- region 6
  refine E.cond (t := false) (by simp) (fun h => by cases h) (fun _ => ?_)
  refine E.skip ?_
  refine E.seq ?_
  refine E.seq ?_
  refine E.reg hr (by simp; rfl) ?_ -- region 8
  refine E.cond (t := false) (by simp) (fun h => by cases h) (fun _ => ?_)
  refine E.skip ?_
  have hY0 : momL l lo hi ≠ [] := fun e => hne (List.length_eq_zero_iff.1 (by rw [← momL_length l lo hi, e]; rfl))
  have hl31 : l.length < 2147483648 := by omega
  have htY : List.take l.length (ic (momL l lo hi)) = ic (momL l lo hi) := List.take_of_length_le (by simp)
  have hme : Meets l lo hi (momL l lo hi) := mom_meets hre hsk
  have hcy : cmE l lo hi (momL l lo hi) = 0 := (cmE_meets hre).2 hme
  have hly : layE l (momL l lo hi) = 0 := mom_layE hre
  refine E.seq ?_
  refine E.seq ?_
  refine E.drawC mixed hr [11] [7, 10, 11] [7, 10, 11] (by kernel_rfl) (by simp [yieldedA, g46, g34, g48b, g48, hcy, flat, pksR, pksAt, pksN, rowPks, rowOf, ht, pksOf_pcs, hl', h4, hne, intsW, intsM, intsAt, rowIntsN, rowInts, intsOf_iv, hY0, hl31, htY, intsOf_ic]; rfl) ?_ -- region 10
  refine E.cond (t := false) (by simp) (fun h => by cases h) (fun _ => ?_)
  refine E.skip ?_
  refine E.seq ?_
  refine E.reg hr (by simp [g46, g34, g49, hly, flat, pksR, pksAt, pksN, rowPks, rowOf, ht, pksOf_pcs, hl', h4, hne, intsW, intsM, intsAt, rowIntsN, rowInts, intsOf_iv, hY0, hl31, htY, intsOf_ic]; rfl) ?_ -- region 12
  refine E.seq ?_
  refine E.seq ?_
  refine E.reg hr (by simp [yieldedA]; rfl) ?_ -- region 13
  refine E.cond (t := false) (by simp) (fun h => by cases h) (fun _ => ?_)
  refine E.skip ?_
  have hsmW : l.length * 24 ≤ 1099511627776 ∧ l.length * 3 ≤ 1099511627776 ∧ l.length ≤ 1099511627776 := by omega
  have hn3 : ¬ l.length * 3 = 0 := by have := List.length_pos_iff.2 hne; omega
  refine E.seq ?_
  refine E.reg hr (by simp [hsmW, ht, hne, hn3]; rfl) ?_ -- region 15
  refine E.seq ?_
  refine E.seq ?_
  refine E.reg hr (by simp; rfl) ?_ -- region 16
  refine E.block ?_ -- 0
  refine E.loop ?_
  refine EL.ind (fun i : Nat => { fr := [(0, inpV o l.length c), (2, inpM 10 o2 ms.length c2), (4, .pointer (some ⟨11, 0, none⟩)), (10, .slice (some ⟨12, 0, none⟩) l.length l.length), (12, iv (cmE l lo hi ms)), (13, .slice (some ⟨13, 0, some 0⟩) l.length 0), (15, .slice (some ⟨14, 0, some 0⟩) l.length 0), (130, .slice (some ⟨12, 0, none⟩) l.length l.length), (131, iv l.length), (132, iv i)], sz := 279, H := ((14, .ext (pcs (mixL l i)) 100 3) :: (13, .ext (rcs (layL l (momL l lo hi))) 96 2) :: (12, .cells (ic (momL l lo hi)) 3) :: (11, .cells [iv lo, iv hi] 74) :: (10, .inp o2 (ms.map iv)) :: (9, .inp o (pcs l)) :: G0 : Heap), n := 15, marks := [], vs := [0, 2, 4, 10, 12, 13, 15, 23, 24, 25, 130, 131, 132, 228, 229, 230] }) (fun i => l.length - i) (fun i => i ≤ l.length) 0 (Leads.ren [11, 16, 23, 25] rfl rfl rfl ⟨rfl, rfl⟩ (by simp) (by simp [mixL_zero])) (Nat.zero_le _) (fun _ => rfl) ?_
  intro i hi0
  have hw : IntKind.i64.wrap ((i : Int) + 1) = (i : Int) + 1 := W_in (by omega) (by omega)
  refine E.seq ?_
  refine E.reg hr (by simp; rfl) ?_ -- region 17
  refine E.seq ?_
  by_cases hil : i < l.length
  · have hyi : ∀ (hx : i < (momL l lo hi).length), (momL l lo hi)[i] = momV l lo hi i := fun hx => by simp [momL]
    have hiL : i < (layL l (momL l lo hi)).length := by simpa using hil
    have hx := rcs_at hiL
    have h2 : i * 2 + 2 ≤ l.length * 2 := by omega
    have hrg := mom_range hre hil
    have hw1 : IntKind.i64.wrap (momV l lo hi i - 1) = momV l lo hi i - 1 := W_in (by omega) (by omega)
    have hset : List.take i (List.map iv (momL l lo hi)) ++ iv (momV l lo hi i - 1) :: List.drop (i + 1) (List.map iv (momL l lo hi)) = ic ((momL l lo hi).set i (momV l lo hi i - 1)) := ic_set (by simpa using hil) _
    have htS : List.take l.length (ic ((momL l lo hi).set i (momV l lo hi i - 1))) = ic ((momL l lo hi).set i (momV l lo hi i - 1)) := List.take_of_length_le (by simp)
    have hbl : cmE l lo hi ((momL l lo hi).set i (momV l lo hi i - 1)) ≠ 0 := fun e => by
      have := ((cmE_meets hre).1 e).least hil
      rw [aA_set (by simpa using hil), if_pos rfl] at this
      omega
    obtain ⟨q1, q2, q3, q4⟩ : 1 ≤ ((layL l (momL l lo hi))[i]).2 ∧ ((layL l (momL l lo hi))[i]).2 ≤ 1024 ∧ lo * ((layL l (momL l lo hi))[i]).2 ≤ ((layL l (momL l lo hi))[i]).1 ∧ ((layL l (momL l lo hi))[i]).1 ≤ hi * ((layL l (momL l lo hi))[i]).2 := by
      have e : (layL l (momL l lo hi))[i] = layP l (momL l lo hi) i := by simp [layL]
      rw [e]
      obtain ⟨x1, x2, _, _⟩ := hok.pkA (show i ≤ l.length by omega)
      obtain ⟨y1, y2, _, _⟩ := hok.pkA (show i + 1 ≤ l.length by omega)
      have hst := pksE_strict hpe hil
      exact rat_bounds (by omega) (by omega) (hme.up i hil) (hme.dn i hil)
    have n1 : ¬ ((layL l (momL l lo hi))[i]).2 < 1 := by omega
    have n2 : ¬ 1024 < ((layL l (momL l lo hi))[i]).2 := by omega
    have n3 : ¬ ((layL l (momL l lo hi))[i]).1 < lo * ((layL l (momL l lo hi))[i]).2 := by omega
    have n4 : ¬ hi * ((layL l (momL l lo hi))[i]).2 < ((layL l (momL l lo hi))[i]).1 := by omega
    have m1 := mul_in2 b1 b2 (show -1024 ≤ ((layL l (momL l lo hi))[i]).2 by omega) q2
    have m2 := mul_in2 b3 b4 (show -1024 ≤ ((layL l (momL l lo hi))[i]).2 by omega) q2
    have n5 : IntKind.i64.wrap (lo * ((layL l (momL l lo hi))[i]).2) = lo * ((layL l (momL l lo hi))[i]).2 := W_in (by omega) (by omega)
    have n6 : IntKind.i64.wrap (hi * ((layL l (momL l lo hi))[i]).2) = hi * ((layL l (momL l lo hi))[i]).2 := W_in (by omega) (by omega)
    obtain ⟨o1, o2', o3, o4, o5, o6⟩ := hok.get hil
    have n7 : IntKind.i64.wrap (l[i].e + 1) = l[i].e + 1 := W_in (by omega) (by omega)
    have hi1l : i + 1 ≤ l.length := hil
    have g1 : i * 3 < l.length * 3 := by omega
    have g2 : i * 3 + 2 < l.length * 3 := by omega
    have g3 : o ≤ o + i * 3 + 2 := by omega
    have g4 : o + i * 3 + 2 - o = i * 3 + 2 := by omega
    have g5 : i * 3 + 3 ≤ l.length * 3 := by omega
    have hmix := mix_step hil
    have hgu : cmE l lo hi ms = 0 → ∃ h : i < ms.length, ¬ ms[i] < momV l lo hi i := fun e => by
      have hM := (cmE_meets hre).1 e
      have hl := hM.len
      refine ⟨by omega, ?_⟩
      have := hM.least hil
      rw [aA_get (by omega)] at this
      omega
    refine E.cond (t := true) (by simp [hil]) (fun _ => ?_) (fun h => by cases h)
    refine E.skip ?_
    refine E.seq ?_
    refine E.block ?_ -- 1
    refine E.seq ?_
    refine E.reg hr (by simp [hil, hyi]; rfl) ?_ -- region 18
    refine E.seq ?_
    refine E.reg hr (by simp [g34, h4, intsW, intsAt, flat, hY0, hl31, htY, intsOf_ic]; rfl) ?_ -- region 19
    refine E.seq ?_
    refine E.reg hr (by simp [hil, hi1l, hyi, hw1, hset]; rfl) ?_ -- region 20
    refine E.seq ?_
    by_cases hc0 : cmE l lo hi ms = 0
    · obtain ⟨hio, hnl⟩ := hgu hc0
      refine E.seq ?_
      refine E.drawC mixed hr [4] [1, 4] [1, 4, 13] (by kernel_rfl) (by simp [hY0, g46, g48b, g48, intsOf_ic, hbl, yieldedA, hl31, flat, pksR, pksAt, pksN, rowPks, rowOf, ht, pksOf_pcs, hl', h4, hne, intsM, rowIntsN, rowInts, hc0, hio, hnl]; rfl) ?_ -- region 21
      refine E.cond (t := false) (by simp) (fun h => by cases h) (fun _ => ?_)
      refine E.skip ?_
      refine E.seq ?_
      refine E.reg hr (by simp [hil, h2, hx]; rfl) ?_ -- region 23
      refine E.seq ?_
      refine E.seq ?_
      refine E.reg hr (by simp [yieldedA, n1, n2, n3, n4, n5, n6]; rfl) ?_ -- region 24
      refine E.cond (t := false) (by simp) (fun h => by cases h) (fun _ => ?_)
      refine E.skip ?_
      refine E.reg hr (by simp [hil, g2, g3, g4, g5, pcs_eE hil, n7, min33, hmix]; rfl) ?_ -- region 26
      refine E.reg hr (by simp [hw]; rfl) ?_ -- region 27
      exact ⟨i + 1, Leads.ren [11, 12, 13, 14] rfl rfl rfl ⟨rfl, rfl⟩ (by simp [hc0]) (by simp), hil, by dsimp only; omega⟩
    · skip
      refine E.seq ?_
      refine E.drawC mixed hr [4] [1, 4] [1, 4, 13] (by kernel_rfl) (by simp [hY0, g46, g48b, g48, intsOf_ic, hbl, yieldedA, hl31, flat, pksR, pksAt, pksN, rowPks, rowOf, ht, pksOf_pcs, hl', h4, hne, intsM, rowIntsN, rowInts, hc0]; rfl) ?_ -- region 21
      refine E.cond (t := false) (by simp) (fun h => by cases h) (fun _ => ?_)
      refine E.skip ?_
      refine E.seq ?_
      refine E.reg hr (by simp [hil, h2, hx]; rfl) ?_ -- region 23
      refine E.seq ?_
      refine E.seq ?_
      refine E.reg hr (by simp [yieldedA, n1, n2, n3, n4, n5, n6]; rfl) ?_ -- region 24
      refine E.cond (t := false) (by simp) (fun h => by cases h) (fun _ => ?_)
      refine E.skip ?_
      refine E.reg hr (by simp [hil, g2, g3, g4, g5, pcs_eE hil, n7, min33, hmix]; rfl) ?_ -- region 26
      refine E.reg hr (by simp [hw]; rfl) ?_ -- region 27
      exact ⟨i + 1, Leads.ren [11, 12, 13, 14] rfl rfl rfl ⟨rfl, rfl⟩ (by simp) (by simp), hil, by dsimp only; omega⟩
  have hie : i = l.length := by omega
  subst hie
  rw [mixL_all]
  refine E.cond (t := false) (by simp) (fun h => by cases h) (fun _ => ?_)
  refine E.exit ?_ -- 0
  have hwl : IntKind.i64.wrap (lo - 1) = lo - 1 := W_in (by omega) (by omega)
  have hwh : IntKind.i64.wrap (hi + 1) = hi + 1 := W_in (by omega) (by omega)
  have hwf : refE (wideL l) (max 1 (lo - 1)) (min 1000000000 (hi + 1)) = 0 := (wide_free hre hsk).1
  have hwr : refR (wideL l) (max 1 (lo - 1)) (min 1000000000 (hi + 1)) = none := by rw [refR, if_pos hwf]; exact (wide_free hre hsk).2
  have htw : List.take (l.length * 3) (pcs (wideL l)) = pcs (wideL l) := List.take_of_length_le (by simp)
  have hnw : wideL l ≠ [] := fun e => hne (List.length_eq_zero_iff.1 (by rw [← wideL_length l, e]; rfl))
  refine E.seq ?_
  refine E.drawC mixed hr [17] [1, 11, 16, 17] [1, 11, 17] (by kernel_rfl) (by simp [g46, g45, prA, prB, max33, min33, hwl, hwh, build74 (a := max 1 (lo - 1)) (b := min 1000000000 (hi + 1)), flat, pksR, pksAt, pksP, rowPks, rowOf, pksOf_pcs, hl', h4, hwf, hwr, htw, hnw]; rfl) ?_ -- region 28
  refine E.seq ?_
  refine E.seq ?_
  refine E.reg hr (by simp [yieldedA]; rfl) ?_ -- region 29
  refine E.cond (t := false) (by simp) (fun h => by cases h) (fun _ => ?_)
  refine E.skip ?_
  refine E.lead { fr := [(2, inpM 10 o2 ms.length c2), (4, .pointer (some ⟨11, 0, none⟩))], sz := 279, H := ((11, .cells [iv lo, iv hi] 74) :: (10, .inp o2 (ms.map iv)) :: (9, .inp o (pcs l)) :: G0 : Heap), n := 12, marks := [], vs := [0, 2, 4, 10, 12, 13, 15, 23, 24, 25, 130, 131, 132, 228, 229, 230] } (Leads.ren [11] rfl rfl rfl ⟨rfl, rfl⟩ (by simp) (by simp)) ?_
  refine E.seq ?_
  refine E.reg hr (by simp; rfl) ?_ -- region 31
  refine E.seq ?_
  refine E.reg hr (by simp; rfl) ?_ -- region 32
  refine E.seq ?_
  refine E.reg hr (by simp; rfl) ?_ -- region 33
  refine E.seq ?_
  refine E.seq ?_
  refine E.reg hr (by simp; rfl) ?_ -- region 34
  refine E.block ?_ -- 2
  refine E.loop ?_
  refine EL.ind (fun i : Nat => match i with
    | 0 => { fr := [(2, inpM 10 o2 ms.length c2), (4, .pointer (some ⟨11, 0, none⟩)), (23, .slice none 0 0), (24, .slice none 0 0), (25, iv 0), (228, inpM 10 o2 ms.length c2), (229, iv ms.length), (230, iv 0)], sz := 279, H := ((11, .cells [iv lo, iv hi] 74) :: (10, .inp o2 (ms.map iv)) :: (9, .inp o (pcs l)) :: G0 : Heap), n := 12, marks := [], vs := [0, 2, 4, 10, 12, 13, 15, 23, 24, 25, 130, 131, 132, 228, 229, 230] }
    | i + 1 => { fr := [(2, inpM 10 o2 ms.length c2), (4, .pointer (some ⟨11, 0, none⟩)), (23, .slice (some ⟨12, 0, some 0⟩) (i + 1) 0), (24, .slice (some ⟨13, 0, some 0⟩) (i + 1) 0), (25, iv (tot lo hi ms (i + 1))), (228, inpM 10 o2 ms.length c2), (229, iv ms.length), (230, iv (i + 1 : Nat))], sz := 279, H := ((13, .ext (ic (totT lo hi ms (i + 1))) 3 1) :: (12, .ext (pcs (exT lo hi ms (i + 1))) 100 3) :: (11, .cells [iv lo, iv hi] 74) :: (10, .inp o2 (ms.map iv)) :: (9, .inp o (pcs l)) :: G0 : Heap), n := 14, marks := [], vs := [0, 2, 4, 10, 12, 13, 15, 23, 24, 25, 130, 131, 132, 228, 229, 230] }) (fun i => ms.length - i) (fun i => i ≤ ms.length) 0 (.less rfl rfl rfl (by simp) (by simp)) (Nat.zero_le _) (fun i => by cases i <;> rfl) ?_
  intro i hi0
  have c0 : IntKind.i64.wrap (hi - lo) = hi - lo := W_in (by omega) (by omega)
  have c1 : IntKind.i64.wrap (hi - lo + 1) = hi - lo + 1 := W_in (by omega) (by omega)
  have c2' : IntKind.u64.wrap (hi - lo + 1) = hi - lo + 1 := u64_small (by omega) (by omega)
  have c3 : hi - lo + 1 ≠ 0 := by omega
  have hmod : ∀ m : Int, 0 ≤ (IntKind.u64.wrap m).tmod (hi - lo + 1) ∧ (IntKind.u64.wrap m).tmod (hi - lo + 1) ≤ hi - lo := fun m => by have := stp_in b5 m; unfold stp at this; omega
  have c4 : ∀ m : Int, IntKind.i64.wrap ((IntKind.u64.wrap m).tmod (hi - lo + 1)) = (IntKind.u64.wrap m).tmod (hi - lo + 1) := fun m => by have := hmod m; exact W_in (by omega) (by omega)
  have c5 : ∀ m : Int, IntKind.i64.wrap (lo + (IntKind.u64.wrap m).tmod (hi - lo + 1)) = stp lo hi m := fun m => by have := hmod m; exact W_in (by omega) (by omega)
  rcases i with _ | i
  · have hio : 0 < ms.length := List.length_pos_iff.2 hmn
    have hw : IntKind.i64.wrap 1 = 1 := W_in (by omega) (by omega)
    have ti := tot_in b5 ms 1
    have s0 := stp_in b5 ms[0]
    have c6 : IntKind.i64.wrap (stp lo hi ms[0]) = tot lo hi ms 1 := by
      rw [W_in (by omega) (by omega)]
      simp [tot, List.getElem?_eq_getElem hio]
    have htT : ic (totT lo hi ms 1) = [iv (tot lo hi ms 1)] := rfl
    have heT : pcs (exT lo hi ms 1) = [iv 1, iv (max 1 (tot lo hi ms 1)), iv 1] := by
      show pcs [exP lo hi ms 0] = _
      simp [pcs, Pk.cells, exP]
    have c7 : IntKind.i64.wrap (tot lo hi ms 1) = tot lo hi ms 1 := W_in (by omega) (by omega)
    refine E.seq ?_
    refine E.reg hr (by simp; rfl) ?_ -- region 35
    refine E.seq ?_
    refine E.cond (t := true) (by simp <;> omega) (fun _ => ?_) (fun h => by cases h)
    refine E.skip ?_
    refine E.seq ?_
    refine E.block ?_ -- 3
    refine E.seq ?_
    refine E.reg hr (by simp [hio]; rfl) ?_ -- region 36
    refine E.seq ?_
    refine E.drawC mixed hr [] [] [2, 4, 6, 8, 11, 13] (by kernel_rfl) (by simp [opConvert, c0, c1, c2', rem_u64 c3, c4, c5, c6]; rfl) ?_ -- region 37
    refine E.seq ?_
    refine E.reg hr (by simp; rfl) ?_ -- region 38
    refine E.seq ?_
    refine E.reg hr (by simp [hw, bin_quo (show (1 : Int) ≠ 0 by omega), Int.tdiv_one, c7, max33]; rfl) ?_ -- region 39
    refine E.reg hr (by simp [hw, build100c (a := 1) (b := max 1 (tot lo hi ms 1))]; rfl) ?_ -- region 40
    refine E.reg hr (by simp [hw]; rfl) ?_ -- region 41
    exact ⟨1, Leads.ren [11, 15, 13] rfl rfl rfl ⟨rfl, rfl⟩ (by simp) (by simp [htT, heT]), by omega, by dsimp only; omega⟩
  · have hw : IntKind.i64.wrap ((i : Int) + 1 + 1) = (i : Int) + 1 + 1 := W_in (by omega) (by omega)
    refine E.seq ?_
    refine E.reg hr (by simp; rfl) ?_ -- region 35
    refine E.seq ?_
    by_cases hio : i + 1 < ms.length
    · have hiI : (i : Int) + 1 < (ms.length : Int) := by omega
      have ti := tot_in b5 ms (i + 1 + 1)
      have s0 := stp_in b5 ms[i + 1]
      have e0 : tot lo hi ms (i + 1) + stp lo hi ms[i + 1] = tot lo hi ms (i + 1 + 1) := by
        conv => rhs; rw [tot]
        simp [List.getElem?_eq_getElem hio]
      have tB : -100000000000 ≤ tot lo hi ms (i + 1 + 1) ∧ tot lo hi ms (i + 1 + 1) ≤ 100000000000 := tot_small hb (by omega)
      have c6 : IntKind.i64.wrap (tot lo hi ms (i + 1) + stp lo hi ms[i + 1]) = tot lo hi ms (i + 1 + 1) := by
        rw [e0, W_in (by omega) (by omega)]
      have c7 : IntKind.i64.wrap ((tot lo hi ms (i + 1 + 1)).tdiv ((i : Int) + 1 + 1)) = (tot lo hi ms (i + 1 + 1)).tdiv ((i : Int) + 1 + 1) := tdiv_bound (by omega) ⟨by omega, by omega⟩
      have c8 : (i : Int) + 1 + 1 ≠ 0 := by omega
      have htk : List.take (i + 1) (ic (totT lo hi ms (i + 1))) = ic (totT lo hi ms (i + 1)) := ic_take (by simp)
      have htp : List.take ((i + 1) * 3) (pcs (exT lo hi ms (i + 1))) = pcs (exT lo hi ms (i + 1)) := List.take_of_length_le (by simp)
      have hsm : (i + 1 + 1) * 8 ≤ 1099511627776 ∧ i + 1 + 1 ≤ 1099511627776 := by omega
      have hsp : (i + 1 + 1) * 24 ≤ 1099511627776 ∧ (i + 1 + 1) * 3 ≤ 1099511627776 ∧ i + 1 + 1 ≤ 1099511627776 := by omega
      have hno : ¬ (i + 1 + 1) * 3 ≤ (i + 1) * 3 := by omega
      have hsn := ic_snoc (totT lo hi ms (i + 1)) (tot lo hi ms (i + 1 + 1))
      rw [totT_succ] at hsn
      have hsq : pcs (exT lo hi ms (i + 1)) ++ [iv ((i : Int) + 1 + 1), iv (max 1 ((tot lo hi ms (i + 1 + 1)).tdiv ((i : Int) + 1 + 1))), iv 1] = pcs (exT lo hi ms (i + 1 + 1)) := by
        rw [← exT_succ lo hi ms (i + 1), pcs_append]
        congr 1
      refine E.cond (t := true) (by simp; omega) (fun _ => ?_) (fun h => by cases h)
      refine E.skip ?_
      refine E.seq ?_
      refine E.block ?_ -- 3
      refine E.seq ?_
      refine E.reg hr (by simp [hio, hiI]; rfl) ?_ -- region 36
      refine E.seq ?_
      refine E.drawC mixed hr [] [] [2, 4, 6, 8, 11, 13] (by kernel_rfl) (by simp [opConvert, c0, c1, c2', rem_u64 c3, c4, c5, c6]; rfl) ?_ -- region 37
      refine E.seq ?_
      refine E.reg hr (by simp [htk, hsm, hsn]; rfl) ?_ -- region 38
      refine E.seq ?_
      refine E.reg hr (by simp [hw, bin_quo c8, c7, max33]; rfl) ?_ -- region 39
      refine E.reg hr (by simp [hw, build100c (a := (i : Int) + 1 + 1) (b := max 1 ((tot lo hi ms (i + 1 + 1)).tdiv ((i : Int) + 1 + 1))), htp, hsp, hno, hsq]; rfl) ?_ -- region 40
      refine E.reg hr (by simp [hw]; rfl) ?_ -- region 41
      exact ⟨i + 1 + 1, Leads.ren [11, 17, 15] rfl rfl rfl ⟨rfl, rfl⟩ (by simp) (by simp), by omega, by dsimp only; omega⟩
    · have hll : ms.length = i + 1 := by omega
      have hex : exT lo hi ms (i + 1) = exL lo hi ms := by rw [← hll]; rfl
      have htt : totT lo hi ms (i + 1) = totL lo hi ms := by rw [← hll]; rfl
      have htk : List.take (i + 1) (ic (totL lo hi ms)) = ic (totL lo hi ms) := ic_take (by simp [hll])
      have htp : List.take ((i + 1) * 3) (pcs (exL lo hi ms)) = pcs (exL lo hi ms) := List.take_of_length_le (by simp [hll])
      have hF : firstV [pksE (exL lo hi ms)] = pksE (exL lo hi ms) := by by_cases h : pksE (exL lo hi ms) = 0 <;> simp [firstV, h]
      have hi9 : i + 1 < 9223372036854775808 ∧ i + 1 < 2147483648 ∧ i + 1 ≤ 4096 := by omega
      have hnx : exL lo hi ms ≠ [] := fun e => hmn (List.length_eq_zero_iff.1 (by rw [← exL_length lo hi ms, e]; rfl))
      have hnt : totL lo hi ms ≠ [] := fun e => hmn (List.length_eq_zero_iff.1 (by rw [← totL_length lo hi ms, e]; rfl))
      refine E.cond (t := false) (by simp; omega) (fun h => by cases h) (fun _ => ?_)
      refine E.exit ?_ -- 2
      refine E.seq ?_
      refine E.seq ?_
      refine E.reg hr (by simp [g50, g94, intsAt, intsOf, flat, pksR, pksAt, hex, htp, pksOf_pcs, hF, hi9, hll]; rfl) ?_ -- region 42
      by_cases hpx : pksE (exL lo hi ms) = 0
      · have hcx := ex_cmE hb hpx
        refine E.cond (t := false) (by simp [hpx]) (fun h => by cases h) (fun _ => ?_)
        refine E.skip ?_
        refine E.seq ?_
        refine E.drawC mixed hr [4] [1, 4] [1, 4] (by kernel_rfl) (by simp [g46, g48b, g48, pksR, pksAt, pksN, flat, htt, htp, pksOf_pcs, hi9, hll, hnx, hnt, rowPks, rowOf, intsM, rowIntsN, rowInts, intsOf_ic, hcx]; rfl) ?_ -- region 44
        refine E.ret ?_
        exact pureK.ret rfl rfl (by simp) (by repeat first | exact sub_refl _ | refine sub_cons rfl ?_)
      · refine E.cond (t := true) (by simp [hpx]) (fun _ => ?_) (fun h => by cases h)
        refine E.seq ?_
        refine E.reg hr (by simp; rfl) ?_ -- region 43
        refine E.ret ?_
        exact pureK.ret rfl rfl (by simp) (by repeat first | exact sub_refl _ | refine sub_cons rfl ?_)
end Go.Proofs.YtkongcnmkiihjaaGreatDoor

namespace Go.Proofs.YtkongcnmkiihjaaGreatDoor
open Go Go.Ab Go.Proofs
set_option maxHeartbeats 2000000 in
set_option maxRecDepth 20000 in
theorem w9pn (l : List Pk) (o c : Nat) (lo hi : Int) (hre : refE l lo hi = 0) (hne : l ≠ []) (h6 : l.length ≤ 6) (hsk : seek l lo hi = none) : AC Tryz.prog 9 [inpV o l.length c, ivl lo hi, .slice none 0 0] ((9, .inp o (pcs l)) :: G0 : Heap) 10 (.bool true) ((9, .inp o (pcs l)) :: G0 : Heap) 10 := by
  have hr := recT_ok (P := Tryz.prog) (l := [(15, g15), (44, g44), (46, g46), (45, g45), (47, g47), (34, g34), (48, g48b), (49, g49), (50, g50), (51, gBnd), (27, g94)]) (by simp [ok15, ok44, ok46, ok45, ok47, ok34, ok48b, ok49, ok50, ok51, ok27])
  have hb : BndIn lo hi := (refE_ok hre).2.2
  have hbk := hb
  obtain ⟨b1, b2, b3, b4, b5⟩ := hbk
  have hE : firstV [pksE l, bndE lo hi] = refE l lo hi := rfl
  have hpe : pksE l = 0 := refE_pks hre
  have hok : PksOk l := (refE_ok hre).1
  have hsh : shortK l.length = true := by simp only [shortK, Bool.or_eq_true, decide_eq_true_eq]; omega
  have hl' : l.length < 9223372036854775808 := by omega
  have h4 : l.length ≤ 4096 := by omega
  have h6I : ¬ (6 : Int) < (l.length : Int) := by omega
  have ht : List.take (l.length * 3) (pcs l) = pcs l := List.take_of_length_le (by simp)
  have hR : refR l lo hi = seek l lo hi := by rw [refR, if_pos hre]
  refine AC.pure Tryz.func9 rfl (by kernel_rfl) rfl [0, 2, 4, 10, 12, 13, 15, 23, 24, 25, 130, 131, 132, 228, 229, 230] rfl ?_
  refine E.seq ?_
  refine E.reg hr (by simp; rfl) ?_ -- region 0
  refine E.seq ?_
  refine E.seq ?_
  refine E.drawC mixed hr [0, 4, 16, 17, 18] [0, 4, 14, 16, 17, 18] [0, 4, 14, 16, 17, 18] (by kernel_rfl) (by simp [g15, g44, g50, gBnd, g94, intsAt, intsOf, yieldedA, hE, hre, flat, pksR, pksAt, ht, pksOf_pcs, hl', hsh, h6I]; rfl) ?_ -- region 1
  refine E.cond (t := false) (by simp) (fun h => by cases h) (fun _ => ?_)
  refine E.skip ?_
  refine E.seq ?_
  refine E.drawC mixed hr [9] [1, 3, 8, 9] [1, 3, 9] (by kernel_rfl) (by simp [g46, g45, prA, prB, flat, pksR, pksAt, pksP, rowPks, rowOf, ht, pksOf_pcs, hl', h4, hne, hre, hR, hsk]; rfl) ?_ -- region 3
  refine E.seq ?_
  refine E.drawC mixed hr [3] [1, 3] [1, 3] (by kernel_rfl) (by simp [g46, g47, flat, pksR, pksAt, pksP, rowPks, rowOf, ht, pksOf_pcs, hl', h4, hne, hre, hsk]; rfl) ?_ -- region 4
  refine E.seq ?_
  refine E.drawC mixed hr [5] [1, 4, 5] [1, 4, 5] (by kernel_rfl) (by simp [g46, g34, g48b, g48, flat, pksR, pksAt, pksN, rowPks, rowOf, ht, pksOf_pcs, hl', h4, hne, intsW, intsM]; rfl) ?_ -- region 5
  refine E.seq ?_
  refine E.seq ?_
  refine E.reg hr (by simp [yieldedA]; rfl) ?_ -- region 6
  refine E.cond (t := false) (by simp) (fun h => by cases h) (fun _ => ?_)
  refine E.skip ?_
  refine E.seq ?_
  refine E.seq ?_
  refine E.reg hr (by simp; rfl) ?_ -- region 8
  refine E.cond (t := false) (by simp) (fun h => by cases h) (fun _ => ?_)
  refine E.skip ?_
  have hY0 : momL l lo hi ≠ [] := fun e => hne (List.length_eq_zero_iff.1 (by rw [← momL_length l lo hi, e]; rfl))
  have hl31 : l.length < 2147483648 := by omega
  have htY : List.take l.length (ic (momL l lo hi)) = ic (momL l lo hi) := List.take_of_length_le (by simp)
  have hme : Meets l lo hi (momL l lo hi) := mom_meets hre hsk
  have hcy : cmE l lo hi (momL l lo hi) = 0 := (cmE_meets hre).2 hme
  have hly : layE l (momL l lo hi) = 0 := mom_layE hre
  refine E.seq ?_
  refine E.seq ?_
  refine E.drawC mixed hr [11] [7, 10, 11] [7, 10, 11] (by kernel_rfl) (by simp [yieldedA, g46, g34, g48b, g48, hcy, flat, pksR, pksAt, pksN, rowPks, rowOf, ht, pksOf_pcs, hl', h4, hne, intsW, intsM, intsAt, rowIntsN, rowInts, intsOf_iv, hY0, hl31, htY, intsOf_ic]; rfl) ?_ -- region 10
  refine E.cond (t := false) (by simp) (fun h => by cases h) (fun _ => ?_)
  refine E.skip ?_
  refine E.seq ?_
  refine E.reg hr (by simp [g46, g34, g49, hly, flat, pksR, pksAt, pksN, rowPks, rowOf, ht, pksOf_pcs, hl', h4, hne, intsW, intsM, intsAt, rowIntsN, rowInts, intsOf_iv, hY0, hl31, htY, intsOf_ic]; rfl) ?_ -- region 12
  refine E.seq ?_
  refine E.seq ?_
  refine E.reg hr (by simp [yieldedA]; rfl) ?_ -- region 13
  refine E.cond (t := false) (by simp) (fun h => by cases h) (fun _ => ?_)
  refine E.skip ?_
  have hsmW : l.length * 24 ≤ 1099511627776 ∧ l.length * 3 ≤ 1099511627776 ∧ l.length ≤ 1099511627776 := by omega
  have hn3 : ¬ l.length * 3 = 0 := by have := List.length_pos_iff.2 hne; omega
  refine E.seq ?_
  refine E.reg hr (by simp [hsmW, ht, hne, hn3]; rfl) ?_ -- region 15
  refine E.seq ?_
  refine E.seq ?_
  refine E.reg hr (by simp; rfl) ?_ -- region 16
  refine E.block ?_ -- 0
  refine E.loop ?_
  refine EL.ind (fun i : Nat => { fr := [(0, inpV o l.length c), (2, .slice none 0 0), (4, .pointer (some ⟨10, 0, none⟩)), (10, .slice (some ⟨11, 0, none⟩) l.length l.length), (12, iv (cmE l lo hi [])), (13, .slice (some ⟨12, 0, some 0⟩) l.length 0), (15, .slice (some ⟨13, 0, some 0⟩) l.length 0), (130, .slice (some ⟨11, 0, none⟩) l.length l.length), (131, iv l.length), (132, iv i)], sz := 279, H := ((13, .ext (pcs (mixL l i)) 100 3) :: (12, .ext (rcs (layL l (momL l lo hi))) 96 2) :: (11, .cells (ic (momL l lo hi)) 3) :: (10, .cells [iv lo, iv hi] 74) :: (9, .inp o (pcs l)) :: G0 : Heap), n := 14, marks := [], vs := [0, 2, 4, 10, 12, 13, 15, 23, 24, 25, 130, 131, 132, 228, 229, 230] }) (fun i => l.length - i) (fun i => i ≤ l.length) 0 (Leads.ren [10, 15, 22, 24] rfl rfl rfl ⟨rfl, rfl⟩ (by simp) (by simp [mixL_zero])) (Nat.zero_le _) (fun _ => rfl) ?_
  intro i hi0
  have hw : IntKind.i64.wrap ((i : Int) + 1) = (i : Int) + 1 := W_in (by omega) (by omega)
  refine E.seq ?_
  refine E.reg hr (by simp; rfl) ?_ -- region 17
  refine E.seq ?_
  by_cases hil : i < l.length
  · have hyi : ∀ (hx : i < (momL l lo hi).length), (momL l lo hi)[i] = momV l lo hi i := fun hx => by simp [momL]
    have hiL : i < (layL l (momL l lo hi)).length := by simpa using hil
    have hx := rcs_at hiL
    have h2 : i * 2 + 2 ≤ l.length * 2 := by omega
    have hrg := mom_range hre hil
    have hw1 : IntKind.i64.wrap (momV l lo hi i - 1) = momV l lo hi i - 1 := W_in (by omega) (by omega)
    have hset : List.take i (List.map iv (momL l lo hi)) ++ iv (momV l lo hi i - 1) :: List.drop (i + 1) (List.map iv (momL l lo hi)) = ic ((momL l lo hi).set i (momV l lo hi i - 1)) := ic_set (by simpa using hil) _
    have htS : List.take l.length (ic ((momL l lo hi).set i (momV l lo hi i - 1))) = ic ((momL l lo hi).set i (momV l lo hi i - 1)) := List.take_of_length_le (by simp)
    have hbl : cmE l lo hi ((momL l lo hi).set i (momV l lo hi i - 1)) ≠ 0 := fun e => by
      have := ((cmE_meets hre).1 e).least hil
      rw [aA_set (by simpa using hil), if_pos rfl] at this
      omega
    obtain ⟨q1, q2, q3, q4⟩ : 1 ≤ ((layL l (momL l lo hi))[i]).2 ∧ ((layL l (momL l lo hi))[i]).2 ≤ 1024 ∧ lo * ((layL l (momL l lo hi))[i]).2 ≤ ((layL l (momL l lo hi))[i]).1 ∧ ((layL l (momL l lo hi))[i]).1 ≤ hi * ((layL l (momL l lo hi))[i]).2 := by
      have e : (layL l (momL l lo hi))[i] = layP l (momL l lo hi) i := by simp [layL]
      rw [e]
      obtain ⟨x1, x2, _, _⟩ := hok.pkA (show i ≤ l.length by omega)
      obtain ⟨y1, y2, _, _⟩ := hok.pkA (show i + 1 ≤ l.length by omega)
      have hst := pksE_strict hpe hil
      exact rat_bounds (by omega) (by omega) (hme.up i hil) (hme.dn i hil)
    have n1 : ¬ ((layL l (momL l lo hi))[i]).2 < 1 := by omega
    have n2 : ¬ 1024 < ((layL l (momL l lo hi))[i]).2 := by omega
    have n3 : ¬ ((layL l (momL l lo hi))[i]).1 < lo * ((layL l (momL l lo hi))[i]).2 := by omega
    have n4 : ¬ hi * ((layL l (momL l lo hi))[i]).2 < ((layL l (momL l lo hi))[i]).1 := by omega
    have m1 := mul_in2 b1 b2 (show -1024 ≤ ((layL l (momL l lo hi))[i]).2 by omega) q2
    have m2 := mul_in2 b3 b4 (show -1024 ≤ ((layL l (momL l lo hi))[i]).2 by omega) q2
    have n5 : IntKind.i64.wrap (lo * ((layL l (momL l lo hi))[i]).2) = lo * ((layL l (momL l lo hi))[i]).2 := W_in (by omega) (by omega)
    have n6 : IntKind.i64.wrap (hi * ((layL l (momL l lo hi))[i]).2) = hi * ((layL l (momL l lo hi))[i]).2 := W_in (by omega) (by omega)
    obtain ⟨o1, o2', o3, o4, o5, o6⟩ := hok.get hil
    have n7 : IntKind.i64.wrap (l[i].e + 1) = l[i].e + 1 := W_in (by omega) (by omega)
    have hi1l : i + 1 ≤ l.length := hil
    have g1 : i * 3 < l.length * 3 := by omega
    have g2 : i * 3 + 2 < l.length * 3 := by omega
    have g3 : o ≤ o + i * 3 + 2 := by omega
    have g4 : o + i * 3 + 2 - o = i * 3 + 2 := by omega
    have g5 : i * 3 + 3 ≤ l.length * 3 := by omega
    have hmix := mix_step hil
    have hcn : ¬ cmE l lo hi [] = 0 := fun e => by
      have hl := ((cmE_meets hre).1 e).len
      exact hne (List.length_eq_zero_iff.1 hl.symm)
    refine E.cond (t := true) (by simp [hil]) (fun _ => ?_) (fun h => by cases h)
    refine E.skip ?_
    refine E.seq ?_
    refine E.block ?_ -- 1
    refine E.seq ?_
    refine E.reg hr (by simp [hil, hyi]; rfl) ?_ -- region 18
    refine E.seq ?_
    refine E.reg hr (by simp [g34, h4, intsW, intsAt, flat, hY0, hl31, htY, intsOf_ic]; rfl) ?_ -- region 19
    refine E.seq ?_
    refine E.reg hr (by simp [hil, hi1l, hyi, hw1, hset]; rfl) ?_ -- region 20
    refine E.seq ?_
    refine E.seq ?_
    refine E.drawC mixed hr [4] [1, 4] [1, 4, 13] (by kernel_rfl) (by simp [hY0, g46, g48b, g48, intsOf_ic, hbl, yieldedA, hl31, flat, pksR, pksAt, pksN, rowPks, rowOf, ht, pksOf_pcs, hl', h4, hne, intsM, rowIntsN, rowInts, hcn]; rfl) ?_ -- region 21
    refine E.cond (t := false) (by simp) (fun h => by cases h) (fun _ => ?_)
    refine E.skip ?_
    refine E.seq ?_
    refine E.reg hr (by simp [hil, h2, hx]; rfl) ?_ -- region 23
    refine E.seq ?_
    refine E.seq ?_
    refine E.reg hr (by simp [yieldedA, n1, n2, n3, n4, n5, n6]; rfl) ?_ -- region 24
    refine E.cond (t := false) (by simp) (fun h => by cases h) (fun _ => ?_)
    refine E.skip ?_
    refine E.reg hr (by simp [hil, g2, g3, g4, g5, pcs_eE hil, n7, min33, hmix]; rfl) ?_ -- region 26
    refine E.reg hr (by simp [hw]; rfl) ?_ -- region 27
    exact ⟨i + 1, Leads.ren [10, 11, 12, 13] rfl rfl rfl ⟨rfl, rfl⟩ (by simp) (by simp), hil, by dsimp only; omega⟩
  have hie : i = l.length := by omega
  subst hie
  rw [mixL_all]
  refine E.cond (t := false) (by simp) (fun h => by cases h) (fun _ => ?_)
  refine E.exit ?_ -- 0
  have hwl : IntKind.i64.wrap (lo - 1) = lo - 1 := W_in (by omega) (by omega)
  have hwh : IntKind.i64.wrap (hi + 1) = hi + 1 := W_in (by omega) (by omega)
  have hwf : refE (wideL l) (max 1 (lo - 1)) (min 1000000000 (hi + 1)) = 0 := (wide_free hre hsk).1
  have hwr : refR (wideL l) (max 1 (lo - 1)) (min 1000000000 (hi + 1)) = none := by rw [refR, if_pos hwf]; exact (wide_free hre hsk).2
  have htw : List.take (l.length * 3) (pcs (wideL l)) = pcs (wideL l) := List.take_of_length_le (by simp)
  have hnw : wideL l ≠ [] := fun e => hne (List.length_eq_zero_iff.1 (by rw [← wideL_length l, e]; rfl))
  refine E.seq ?_
  refine E.drawC mixed hr [17] [1, 11, 16, 17] [1, 11, 17] (by kernel_rfl) (by simp [g46, g45, prA, prB, max33, min33, hwl, hwh, build74 (a := max 1 (lo - 1)) (b := min 1000000000 (hi + 1)), flat, pksR, pksAt, pksP, rowPks, rowOf, pksOf_pcs, hl', h4, hwf, hwr, htw, hnw]; rfl) ?_ -- region 28
  refine E.seq ?_
  refine E.seq ?_
  refine E.reg hr (by simp [yieldedA]; rfl) ?_ -- region 29
  refine E.cond (t := false) (by simp) (fun h => by cases h) (fun _ => ?_)
  refine E.skip ?_
  refine E.lead { fr := [(2, .slice none 0 0), (4, .pointer (some ⟨10, 0, none⟩))], sz := 279, H := ((10, .cells [iv lo, iv hi] 74) :: (9, .inp o (pcs l)) :: G0 : Heap), n := 11, marks := [], vs := [0, 2, 4, 10, 12, 13, 15, 23, 24, 25, 130, 131, 132, 228, 229, 230] } (Leads.ren [10] rfl rfl rfl ⟨rfl, rfl⟩ (by simp) (by simp)) ?_
  refine E.seq ?_
  refine E.reg hr (by simp; rfl) ?_ -- region 31
  refine E.seq ?_
  refine E.reg hr (by simp; rfl) ?_ -- region 32
  refine E.seq ?_
  refine E.reg hr (by simp; rfl) ?_ -- region 33
  refine E.seq ?_
  refine E.seq ?_
  refine E.reg hr (by simp; rfl) ?_ -- region 34
  refine E.block ?_ -- 2
  refine E.loop ?_
  have hz : cm0 [] lo hi [] = 0 := by simp [cm0, firstV, whenV, bndE_of hb, pksE_nil]
  refine EL.step ?_
  refine E.seq ?_
  refine E.reg hr (by simp; rfl) ?_ -- region 35
  refine E.seq ?_
  refine E.cond (t := false) (by simp) (fun h => by cases h) (fun _ => ?_)
  refine E.exit ?_ -- 2
  refine E.seq ?_
  refine E.seq ?_
  refine E.reg hr (by simp [g50, g94, intsAt, intsOf, flat, pksR, pksE_nil, firstV]; rfl) ?_ -- region 42
  refine E.cond (t := false) (by simp) (fun h => by cases h) (fun _ => ?_)
  refine E.skip ?_
  refine E.seq ?_
  refine E.drawC mixed hr [4] [1, 4] [1, 4] (by kernel_rfl) (by simp [g46, pksR, g48b, hz]; rfl) ?_ -- region 44
  refine E.ret ?_
  exact pureK.ret rfl rfl (by simp) (by repeat first | exact sub_refl _ | refine sub_cons rfl ?_)
set_option maxHeartbeats 2000000 in
set_option maxRecDepth 20000 in
theorem w9pns (l : List Pk) (o c : Nat) (lo hi : Int) (hre : refE l lo hi = 0) (hne : l ≠ []) (h6 : l.length ≤ 6) (hsk : (seek l lo hi).isSome = true) : AC Tryz.prog 9 [inpV o l.length c, ivl lo hi, .slice none 0 0] ((9, .inp o (pcs l)) :: G0 : Heap) 10 (.bool true) ((9, .inp o (pcs l)) :: G0 : Heap) 10 := by
  have hr := recT_ok (P := Tryz.prog) (l := [(15, g15), (44, g44), (46, g46), (45, g45), (47, g47), (34, g34), (48, g48b), (49, g49), (50, g50), (51, gBnd), (27, g94)]) (by simp [ok15, ok44, ok46, ok45, ok47, ok34, ok48b, ok49, ok50, ok51, ok27])
  have hb : BndIn lo hi := (refE_ok hre).2.2
  have hbk := hb
  obtain ⟨b1, b2, b3, b4, b5⟩ := hbk
  have hE : firstV [pksE l, bndE lo hi] = refE l lo hi := rfl
  have hpe : pksE l = 0 := refE_pks hre
  have hok : PksOk l := (refE_ok hre).1
  have hsh : shortK l.length = true := by simp only [shortK, Bool.or_eq_true, decide_eq_true_eq]; omega
  have hl' : l.length < 9223372036854775808 := by omega
  have h4 : l.length ≤ 4096 := by omega
  have h6I : ¬ (6 : Int) < (l.length : Int) := by omega
  have ht : List.take (l.length * 3) (pcs l) = pcs l := List.take_of_length_le (by simp)
  have hR : refR l lo hi = seek l lo hi := by rw [refR, if_pos hre]
  have hsn : ¬ seek l lo hi = none := fun e => by rw [e] at hsk; cases hsk
  have hcn : cmE l lo hi [] ≠ 0 := fun e => hsn ((cmE_meets hre).1 e).seek
  refine AC.pure Tryz.func9 rfl (by kernel_rfl) rfl [0, 2, 4, 10, 12, 13, 15, 23, 24, 25, 130, 131, 132, 228, 229, 230] rfl ?_
  refine E.seq ?_
  refine E.reg hr (by simp; rfl) ?_ -- region 0
  refine E.seq ?_
  refine E.seq ?_
  refine E.drawC mixed hr [0, 4, 16, 17, 18] [0, 4, 14, 16, 17, 18] [0, 4, 14, 16, 17, 18] (by kernel_rfl) (by simp [g15, g44, g50, gBnd, g94, intsAt, intsOf, yieldedA, hE, hre, flat, pksR, pksAt, ht, pksOf_pcs, hl', hsh, h6I]; rfl) ?_ -- region 1
  refine E.cond (t := false) (by simp) (fun h => by cases h) (fun _ => ?_)
  refine E.skip ?_
  refine E.seq ?_
  refine E.drawC mixed hr [9] [1, 3, 8, 9] [1, 3, 9] (by kernel_rfl) (by simp [g46, g45, flat, pksR, pksAt, pksP, rowPks, rowOf, ht, pksOf_pcs, hl', h4, hne, hre, hR, hsk]; rfl) ?_ -- region 3
  refine E.seq ?_
  refine E.drawC mixed hr [3] [1, 3] [1, 3] (by kernel_rfl) (by simp [g46, g47, flat, pksR, pksAt, pksP, rowPks, rowOf, ht, pksOf_pcs, hl', h4, hne, hre, hsn]; rfl) ?_ -- region 4
  refine E.seq ?_
  refine E.drawC mixed hr [5] [1, 4, 5] [1, 4, 5] (by kernel_rfl) (by simp [g46, g34, g48b, g48, flat, pksR, pksAt, pksN, rowPks, rowOf, ht, pksOf_pcs, hl', h4, hne, intsW, intsM]; rfl) ?_ -- region 5
  refine E.seq ?_
  refine E.seq ?_
  refine E.reg hr (by simp [yieldedA]; rfl) ?_ -- region 6
  refine E.cond (t := false) (by simp) (fun h => by cases h) (fun _ => ?_)
  refine E.skip ?_
  refine E.seq ?_
  refine E.seq ?_
  refine E.reg hr (by simp; rfl) ?_ -- region 8
  refine E.cond (t := true) (by simp) (fun _ => ?_) (fun h => by cases h)
  refine E.seq ?_
  refine E.reg hr (by simp [hcn]; rfl) ?_ -- region 9
  refine E.ret ?_
  exact pureK.ret rfl rfl (by simp) (by repeat first | exact sub_refl _ | refine sub_cons rfl ?_)
set_option maxHeartbeats 2000000 in
set_option maxRecDepth 20000 in
theorem w9pms (l : List Pk) (o c : Nat) (ms : List Int) (o2 c2 : Nat) (lo hi : Int) (hre : refE l lo hi = 0) (hne : l ≠ []) (h6 : l.length ≤ 6) (hsk : (seek l lo hi).isSome = true) (hmn : ms ≠ []) (h8 : ms.length ≤ 8) : AC Tryz.prog 9 [inpV o l.length c, ivl lo hi, inpM 10 o2 ms.length c2] ((10, .inp o2 (ms.map iv)) :: (9, .inp o (pcs l)) :: G0 : Heap) 11 (.bool true) ((10, .inp o2 (ms.map iv)) :: (9, .inp o (pcs l)) :: G0 : Heap) 11 := by
  have hr := recT_ok (P := Tryz.prog) (l := [(15, g15), (44, g44), (46, g46), (45, g45), (47, g47), (34, g34), (48, g48b), (49, g49), (50, g50), (51, gBnd), (27, g94)]) (by simp [ok15, ok44, ok46, ok45, ok47, ok34, ok48b, ok49, ok50, ok51, ok27])
  have hb : BndIn lo hi := (refE_ok hre).2.2
  have hbk := hb
  obtain ⟨b1, b2, b3, b4, b5⟩ := hbk
  have hE : firstV [pksE l, bndE lo hi] = refE l lo hi := rfl
  have hpe : pksE l = 0 := refE_pks hre
  have hok : PksOk l := (refE_ok hre).1
  have hsh : shortK l.length = true := by simp only [shortK, Bool.or_eq_true, decide_eq_true_eq]; omega
  have hl' : l.length < 9223372036854775808 := by omega
  have h4 : l.length ≤ 4096 := by omega
  have h6I : ¬ (6 : Int) < (l.length : Int) := by omega
  have ht : List.take (l.length * 3) (pcs l) = pcs l := List.take_of_length_le (by simp)
  have hR : refR l lo hi = seek l lo hi := by rw [refR, if_pos hre]
  have hm' : ms.length < 2147483648 := by omega
  have hm4 : ms.length ≤ 4096 := by omega
  have h8I : ¬ (8 : Int) < (ms.length : Int) := by omega
  have htm : List.take ms.length (ms.map iv) = ms.map iv := List.take_of_length_le (by simp)
  have hsn : ¬ seek l lo hi = none := fun e => by rw [e] at hsk; cases hsk
  have hcn : cmE l lo hi ms ≠ 0 := fun e => hsn ((cmE_meets hre).1 e).seek
  refine AC.pure Tryz.func9 rfl (by kernel_rfl) rfl [0, 2, 4, 10, 12, 13, 15, 23, 24, 25, 130, 131, 132, 228, 229, 230] rfl ?_
  refine E.seq ?_
  refine E.reg hr (by simp; rfl) ?_ -- region 0
  refine E.seq ?_
  refine E.seq ?_
  refine E.drawC mixed hr [0, 4, 16, 17, 18] [0, 4, 14, 16, 17, 18] [0, 4, 14, 16, 17, 18] (by kernel_rfl) (by simp [g15, g44, g50, gBnd, g94, intsAt, intsOf, yieldedA, hE, hre, flat, pksR, pksAt, ht, pksOf_pcs, hl', hsh, h6I, h8I]; rfl) ?_ -- region 1
  refine E.cond (t := false) (by simp) (fun h => by cases h) (fun _ => ?_)
  refine E.skip ?_
  refine E.seq ?_
  refine E.drawC mixed hr [9] [1, 3, 8, 9] [1, 3, 9] (by kernel_rfl) (by simp [g46, g45, flat, pksR, pksAt, pksP, rowPks, rowOf, ht, pksOf_pcs, hl', h4, hne, hre, hR, hsk]; rfl) ?_ -- region 3
  refine E.seq ?_
  refine E.drawC mixed hr [3] [1, 3] [1, 3] (by kernel_rfl) (by simp [g46, g47, flat, pksR, pksAt, pksP, rowPks, rowOf, ht, pksOf_pcs, hl', h4, hne, hre, hsn]; rfl) ?_ -- region 4
  refine E.seq ?_
  refine E.drawC mixed hr [5] [1, 4, 5] [1, 4, 5] (by kernel_rfl) (by simp [g46, g34, g48b, g48, flat, pksR, pksAt, pksN, rowPks, rowOf, ht, pksOf_pcs, hl', h4, hne, intsW, intsM, intsAt, rowIntsN, rowInts, intsOf_iv, hm', hm4, htm, hmn]; rfl) ?_ -- region 5
  refine E.seq ?_
  refine E.seq ?_
  refine E.reg hr (by simp [yieldedA]; rfl) ?_ -- region 6
  refine E.cond (t := false) (by simp) (fun h => by cases h) (fun _ => ?_)
  refine E.skip ?_
  refine E.seq ?_
  refine E.seq ?_
  refine E.reg hr (by simp; rfl) ?_ -- region 8
  refine E.cond (t := true) (by simp) (fun _ => ?_) (fun h => by cases h)
  refine E.seq ?_
  refine E.reg hr (by simp [hcn]; rfl) ?_ -- region 9
  refine E.ret ?_
  exact pureK.ret rfl rfl (by simp) (by repeat first | exact sub_refl _ | refine sub_cons rfl ?_)
end Go.Proofs.YtkongcnmkiihjaaGreatDoor

namespace Go.Proofs.YtkongcnmkiihjaaGreatDoor
open Go Go.Ab Go.Proofs
set_option maxHeartbeats 2000000 in
set_option maxRecDepth 20000 in
theorem w9pe (l : List Pk) (o c : Nat) (o2 c2 : Nat) (lo hi : Int) (hre : refE l lo hi = 0) (hne : l ≠ []) (h6 : l.length ≤ 6) (hsk : seek l lo hi = none) : AC Tryz.prog 9 [inpV o l.length c, ivl lo hi, inpM 10 o2 0 c2] ((10, .inp o2 []) :: (9, .inp o (pcs l)) :: G0 : Heap) 11 (.bool true) ((10, .inp o2 []) :: (9, .inp o (pcs l)) :: G0 : Heap) 11 := by
  have hr := recT_ok (P := Tryz.prog) (l := [(15, g15), (44, g44), (46, g46), (45, g45), (47, g47), (34, g34), (48, g48b), (49, g49), (50, g50), (51, gBnd), (27, g94)]) (by simp [ok15, ok44, ok46, ok45, ok47, ok34, ok48b, ok49, ok50, ok51, ok27])
  have hb : BndIn lo hi := (refE_ok hre).2.2
  have hbk := hb
  obtain ⟨b1, b2, b3, b4, b5⟩ := hbk
  have hE : firstV [pksE l, bndE lo hi] = refE l lo hi := rfl
  have hpe : pksE l = 0 := refE_pks hre
  have hok : PksOk l := (refE_ok hre).1
  have hsh : shortK l.length = true := by simp only [shortK, Bool.or_eq_true, decide_eq_true_eq]; omega
  have hl' : l.length < 9223372036854775808 := by omega
  have h4 : l.length ≤ 4096 := by omega
  have h6I : ¬ (6 : Int) < (l.length : Int) := by omega
  have ht : List.take (l.length * 3) (pcs l) = pcs l := List.take_of_length_le (by simp)
  have hR : refR l lo hi = seek l lo hi := by rw [refR, if_pos hre]
  refine AC.pure Tryz.func9 rfl (by kernel_rfl) rfl [0, 2, 4, 10, 12, 13, 15, 23, 24, 25, 130, 131, 132, 228, 229, 230] rfl ?_
  refine E.seq ?_
  refine E.reg hr (by simp; rfl) ?_ -- region 0
  refine E.seq ?_
  refine E.seq ?_
  refine E.drawC mixed hr [0, 4, 16, 17, 18] [0, 4, 14, 16, 17, 18] [0, 4, 14, 16, 17, 18] (by kernel_rfl) (by simp [g15, g44, g50, gBnd, g94, intsAt, intsOf, yieldedA, hE, hre, flat, pksR, pksAt, ht, pksOf_pcs, hl', hsh, h6I]; rfl) ?_ -- region 1
  refine E.cond (t := false) (by simp) (fun h => by cases h) (fun _ => ?_)
  refine E.skip ?_
  refine E.seq ?_
  refine E.drawC mixed hr [9] [1, 3, 8, 9] [1, 3, 9] (by kernel_rfl) (by simp [g46, g45, prA, prB, flat, pksR, pksAt, pksP, rowPks, rowOf, ht, pksOf_pcs, hl', h4, hne, hre, hR, hsk]; rfl) ?_ -- region 3
  refine E.seq ?_
  refine E.drawC mixed hr [3] [1, 3] [1, 3] (by kernel_rfl) (by simp [g46, g47, flat, pksR, pksAt, pksP, rowPks, rowOf, ht, pksOf_pcs, hl', h4, hne, hre, hsk]; rfl) ?_ -- region 4
  refine E.seq ?_
  refine E.drawC mixed hr [5] [1, 4, 5] [1, 4, 5] (by kernel_rfl) (by simp [g46, g34, g48b, g48, flat, pksR, pksAt, pksN, rowPks, rowOf, ht, pksOf_pcs, hl', h4, hne, intsW, intsM, intsAt, intsOf]; rfl) ?_ -- region 5
  refine E.seq ?_
  refine E.seq ?_
  refine E.reg hr (by simp [yieldedA]; rfl) ?_ -- region 6
  refine E.cond (t := false) (by simp) (fun h => by cases h) (fun _ => ?_)
  refine E.skip ?_
  refine E.seq ?_
  refine E.seq ?_
  refine E.reg hr (by simp; rfl) ?_ -- region 8
  refine E.cond (t := false) (by simp) (fun h => by cases h) (fun _ => ?_)
  refine E.skip ?_
  have hY0 : momL l lo hi ≠ [] := fun e => hne (List.length_eq_zero_iff.1 (by rw [← momL_length l lo hi, e]; rfl))
  have hl31 : l.length < 2147483648 := by omega
  have htY : List.take l.length (ic (momL l lo hi)) = ic (momL l lo hi) := List.take_of_length_le (by simp)
  have hme : Meets l lo hi (momL l lo hi) := mom_meets hre hsk
  have hcy : cmE l lo hi (momL l lo hi) = 0 := (cmE_meets hre).2 hme
  have hly : layE l (momL l lo hi) = 0 := mom_layE hre
  refine E.seq ?_
  refine E.seq ?_
  refine E.drawC mixed hr [11] [7, 10, 11] [7, 10, 11] (by kernel_rfl) (by simp [yieldedA, g46, g34, g48b, g48, hcy, flat, pksR, pksAt, pksN, rowPks, rowOf, ht, pksOf_pcs, hl', h4, hne, intsW, intsM, intsAt, rowIntsN, rowInts, intsOf_iv, hY0, hl31, htY, intsOf_ic]; rfl) ?_ -- region 10
  refine E.cond (t := false) (by simp) (fun h => by cases h) (fun _ => ?_)
  refine E.skip ?_
  refine E.seq ?_
  refine E.reg hr (by simp [g46, g34, g49, hly, flat, pksR, pksAt, pksN, rowPks, rowOf, ht, pksOf_pcs, hl', h4, hne, intsW, intsM, intsAt, rowIntsN, rowInts, intsOf_iv, hY0, hl31, htY, intsOf_ic]; rfl) ?_ -- region 12
  refine E.seq ?_
  refine E.seq ?_
  refine E.reg hr (by simp [yieldedA]; rfl) ?_ -- region 13
  refine E.cond (t := false) (by simp) (fun h => by cases h) (fun _ => ?_)
  refine E.skip ?_
  have hsmW : l.length * 24 ≤ 1099511627776 ∧ l.length * 3 ≤ 1099511627776 ∧ l.length ≤ 1099511627776 := by omega
  have hn3 : ¬ l.length * 3 = 0 := by have := List.length_pos_iff.2 hne; omega
  refine E.seq ?_
  refine E.reg hr (by simp [hsmW, ht, hne, hn3]; rfl) ?_ -- region 15
  refine E.seq ?_
  refine E.seq ?_
  refine E.reg hr (by simp; rfl) ?_ -- region 16
  refine E.block ?_ -- 0
  refine E.loop ?_
  refine EL.ind (fun i : Nat => { fr := [(0, inpV o l.length c), (2, inpM 10 o2 0 c2), (4, .pointer (some ⟨11, 0, none⟩)), (10, .slice (some ⟨12, 0, none⟩) l.length l.length), (12, iv (cmE l lo hi [])), (13, .slice (some ⟨13, 0, some 0⟩) l.length 0), (15, .slice (some ⟨14, 0, some 0⟩) l.length 0), (130, .slice (some ⟨12, 0, none⟩) l.length l.length), (131, iv l.length), (132, iv i)], sz := 279, H := ((14, .ext (pcs (mixL l i)) 100 3) :: (13, .ext (rcs (layL l (momL l lo hi))) 96 2) :: (12, .cells (ic (momL l lo hi)) 3) :: (11, .cells [iv lo, iv hi] 74) :: (10, .inp o2 []) :: (9, .inp o (pcs l)) :: G0 : Heap), n := 15, marks := [], vs := [0, 2, 4, 10, 12, 13, 15, 23, 24, 25, 130, 131, 132, 228, 229, 230] }) (fun i => l.length - i) (fun i => i ≤ l.length) 0 (Leads.ren [11, 16, 23, 25] rfl rfl rfl ⟨rfl, rfl⟩ (by simp) (by simp [mixL_zero])) (Nat.zero_le _) (fun _ => rfl) ?_
  intro i hi0
  have hw : IntKind.i64.wrap ((i : Int) + 1) = (i : Int) + 1 := W_in (by omega) (by omega)
  refine E.seq ?_
  refine E.reg hr (by simp; rfl) ?_ -- region 17
  refine E.seq ?_
  by_cases hil : i < l.length
  · have hyi : ∀ (hx : i < (momL l lo hi).length), (momL l lo hi)[i] = momV l lo hi i := fun hx => by simp [momL]
    have hiL : i < (layL l (momL l lo hi)).length := by simpa using hil
    have hx := rcs_at hiL
    have h2 : i * 2 + 2 ≤ l.length * 2 := by omega
    have hrg := mom_range hre hil
    have hw1 : IntKind.i64.wrap (momV l lo hi i - 1) = momV l lo hi i - 1 := W_in (by omega) (by omega)
    have hset : List.take i (List.map iv (momL l lo hi)) ++ iv (momV l lo hi i - 1) :: List.drop (i + 1) (List.map iv (momL l lo hi)) = ic ((momL l lo hi).set i (momV l lo hi i - 1)) := ic_set (by simpa using hil) _
    have htS : List.take l.length (ic ((momL l lo hi).set i (momV l lo hi i - 1))) = ic ((momL l lo hi).set i (momV l lo hi i - 1)) := List.take_of_length_le (by simp)
    have hbl : cmE l lo hi ((momL l lo hi).set i (momV l lo hi i - 1)) ≠ 0 := fun e => by
      have := ((cmE_meets hre).1 e).least hil
      rw [aA_set (by simpa using hil), if_pos rfl] at this
      omega
    obtain ⟨q1, q2, q3, q4⟩ : 1 ≤ ((layL l (momL l lo hi))[i]).2 ∧ ((layL l (momL l lo hi))[i]).2 ≤ 1024 ∧ lo * ((layL l (momL l lo hi))[i]).2 ≤ ((layL l (momL l lo hi))[i]).1 ∧ ((layL l (momL l lo hi))[i]).1 ≤ hi * ((layL l (momL l lo hi))[i]).2 := by
      have e : (layL l (momL l lo hi))[i] = layP l (momL l lo hi) i := by simp [layL]
      rw [e]
      obtain ⟨x1, x2, _, _⟩ := hok.pkA (show i ≤ l.length by omega)
      obtain ⟨y1, y2, _, _⟩ := hok.pkA (show i + 1 ≤ l.length by omega)
      have hst := pksE_strict hpe hil
      exact rat_bounds (by omega) (by omega) (hme.up i hil) (hme.dn i hil)
    have n1 : ¬ ((layL l (momL l lo hi))[i]).2 < 1 := by omega
    have n2 : ¬ 1024 < ((layL l (momL l lo hi))[i]).2 := by omega
    have n3 : ¬ ((layL l (momL l lo hi))[i]).1 < lo * ((layL l (momL l lo hi))[i]).2 := by omega
    have n4 : ¬ hi * ((layL l (momL l lo hi))[i]).2 < ((layL l (momL l lo hi))[i]).1 := by omega
    have m1 := mul_in2 b1 b2 (show -1024 ≤ ((layL l (momL l lo hi))[i]).2 by omega) q2
    have m2 := mul_in2 b3 b4 (show -1024 ≤ ((layL l (momL l lo hi))[i]).2 by omega) q2
    have n5 : IntKind.i64.wrap (lo * ((layL l (momL l lo hi))[i]).2) = lo * ((layL l (momL l lo hi))[i]).2 := W_in (by omega) (by omega)
    have n6 : IntKind.i64.wrap (hi * ((layL l (momL l lo hi))[i]).2) = hi * ((layL l (momL l lo hi))[i]).2 := W_in (by omega) (by omega)
    obtain ⟨o1, o2', o3, o4, o5, o6⟩ := hok.get hil
    have n7 : IntKind.i64.wrap (l[i].e + 1) = l[i].e + 1 := W_in (by omega) (by omega)
    have hi1l : i + 1 ≤ l.length := hil
    have g1 : i * 3 < l.length * 3 := by omega
    have g2 : i * 3 + 2 < l.length * 3 := by omega
    have g3 : o ≤ o + i * 3 + 2 := by omega
    have g4 : o + i * 3 + 2 - o = i * 3 + 2 := by omega
    have g5 : i * 3 + 3 ≤ l.length * 3 := by omega
    have hmix := mix_step hil
    have hcn : ¬ cmE l lo hi [] = 0 := fun e => by
      have hl := ((cmE_meets hre).1 e).len
      exact hne (List.length_eq_zero_iff.1 hl.symm)
    refine E.cond (t := true) (by simp [hil]) (fun _ => ?_) (fun h => by cases h)
    refine E.skip ?_
    refine E.seq ?_
    refine E.block ?_ -- 1
    refine E.seq ?_
    refine E.reg hr (by simp [hil, hyi]; rfl) ?_ -- region 18
    refine E.seq ?_
    refine E.reg hr (by simp [g34, h4, intsW, intsAt, flat, hY0, hl31, htY, intsOf_ic]; rfl) ?_ -- region 19
    refine E.seq ?_
    refine E.reg hr (by simp [hil, hi1l, hyi, hw1, hset]; rfl) ?_ -- region 20
    refine E.seq ?_
    refine E.seq ?_
    refine E.drawC mixed hr [4] [1, 4] [1, 4, 13] (by kernel_rfl) (by simp [hY0, g46, g48b, g48, intsOf_ic, hbl, yieldedA, hl31, flat, pksR, pksAt, pksN, rowPks, rowOf, ht, pksOf_pcs, hl', h4, hne, intsM, rowIntsN, rowInts, hcn]; rfl) ?_ -- region 21
    refine E.cond (t := false) (by simp) (fun h => by cases h) (fun _ => ?_)
    refine E.skip ?_
    refine E.seq ?_
    refine E.reg hr (by simp [hil, h2, hx]; rfl) ?_ -- region 23
    refine E.seq ?_
    refine E.seq ?_
    refine E.reg hr (by simp [yieldedA, n1, n2, n3, n4, n5, n6]; rfl) ?_ -- region 24
    refine E.cond (t := false) (by simp) (fun h => by cases h) (fun _ => ?_)
    refine E.skip ?_
    refine E.reg hr (by simp [hil, g2, g3, g4, g5, pcs_eE hil, n7, min33, hmix]; rfl) ?_ -- region 26
    refine E.reg hr (by simp [hw]; rfl) ?_ -- region 27
    exact ⟨i + 1, Leads.ren [11, 12, 13, 14] rfl rfl rfl ⟨rfl, rfl⟩ (by simp) (by simp), hil, by dsimp only; omega⟩
  have hie : i = l.length := by omega
  subst hie
  rw [mixL_all]
  refine E.cond (t := false) (by simp) (fun h => by cases h) (fun _ => ?_)
  refine E.exit ?_ -- 0
  have hwl : IntKind.i64.wrap (lo - 1) = lo - 1 := W_in (by omega) (by omega)
  have hwh : IntKind.i64.wrap (hi + 1) = hi + 1 := W_in (by omega) (by omega)
  have hwf : refE (wideL l) (max 1 (lo - 1)) (min 1000000000 (hi + 1)) = 0 := (wide_free hre hsk).1
  have hwr : refR (wideL l) (max 1 (lo - 1)) (min 1000000000 (hi + 1)) = none := by rw [refR, if_pos hwf]; exact (wide_free hre hsk).2
  have htw : List.take (l.length * 3) (pcs (wideL l)) = pcs (wideL l) := List.take_of_length_le (by simp)
  have hnw : wideL l ≠ [] := fun e => hne (List.length_eq_zero_iff.1 (by rw [← wideL_length l, e]; rfl))
  refine E.seq ?_
  refine E.drawC mixed hr [17] [1, 11, 16, 17] [1, 11, 17] (by kernel_rfl) (by simp [g46, g45, prA, prB, max33, min33, hwl, hwh, build74 (a := max 1 (lo - 1)) (b := min 1000000000 (hi + 1)), flat, pksR, pksAt, pksP, rowPks, rowOf, pksOf_pcs, hl', h4, hwf, hwr, htw, hnw]; rfl) ?_ -- region 28
  refine E.seq ?_
  refine E.seq ?_
  refine E.reg hr (by simp [yieldedA]; rfl) ?_ -- region 29
  refine E.cond (t := false) (by simp) (fun h => by cases h) (fun _ => ?_)
  refine E.skip ?_
  refine E.lead { fr := [(2, inpM 10 o2 0 c2), (4, .pointer (some ⟨11, 0, none⟩))], sz := 279, H := ((11, .cells [iv lo, iv hi] 74) :: (10, .inp o2 []) :: (9, .inp o (pcs l)) :: G0 : Heap), n := 12, marks := [], vs := [0, 2, 4, 10, 12, 13, 15, 23, 24, 25, 130, 131, 132, 228, 229, 230] } (Leads.ren [11] rfl rfl rfl ⟨rfl, rfl⟩ (by simp) (by simp)) ?_
  refine E.seq ?_
  refine E.reg hr (by simp; rfl) ?_ -- region 31
  refine E.seq ?_
  refine E.reg hr (by simp; rfl) ?_ -- region 32
  refine E.seq ?_
  refine E.reg hr (by simp; rfl) ?_ -- region 33
  refine E.seq ?_
  refine E.seq ?_
  refine E.reg hr (by simp; rfl) ?_ -- region 34
  refine E.block ?_ -- 2
  refine E.loop ?_
  have hz : cm0 [] lo hi [] = 0 := by simp [cm0, firstV, whenV, bndE_of hb, pksE_nil]
  refine EL.step ?_
  refine E.seq ?_
  refine E.reg hr (by simp; rfl) ?_ -- region 35
  refine E.seq ?_
  refine E.cond (t := false) (by simp) (fun h => by cases h) (fun _ => ?_)
  refine E.exit ?_ -- 2
  refine E.seq ?_
  refine E.seq ?_
  refine E.reg hr (by simp [g50, g94, intsAt, intsOf, flat, pksR, pksE_nil, firstV]; rfl) ?_ -- region 42
  refine E.cond (t := false) (by simp) (fun h => by cases h) (fun _ => ?_)
  refine E.skip ?_
  refine E.seq ?_
  refine E.drawC mixed hr [4] [1, 4] [1, 4] (by kernel_rfl) (by simp [g46, pksR, g48b, hz]; rfl) ?_ -- region 44
  refine E.ret ?_
  exact pureK.ret rfl rfl (by simp) (by repeat first | exact sub_refl _ | refine sub_cons rfl ?_)
set_option maxHeartbeats 2000000 in
set_option maxRecDepth 20000 in
theorem w9pes (l : List Pk) (o c : Nat) (o2 c2 : Nat) (lo hi : Int) (hre : refE l lo hi = 0) (hne : l ≠ []) (h6 : l.length ≤ 6) (hsk : (seek l lo hi).isSome = true) : AC Tryz.prog 9 [inpV o l.length c, ivl lo hi, inpM 10 o2 0 c2] ((10, .inp o2 []) :: (9, .inp o (pcs l)) :: G0 : Heap) 11 (.bool true) ((10, .inp o2 []) :: (9, .inp o (pcs l)) :: G0 : Heap) 11 := by
  have hr := recT_ok (P := Tryz.prog) (l := [(15, g15), (44, g44), (46, g46), (45, g45), (47, g47), (34, g34), (48, g48b), (49, g49), (50, g50), (51, gBnd), (27, g94)]) (by simp [ok15, ok44, ok46, ok45, ok47, ok34, ok48b, ok49, ok50, ok51, ok27])
  have hb : BndIn lo hi := (refE_ok hre).2.2
  have hbk := hb
  obtain ⟨b1, b2, b3, b4, b5⟩ := hbk
  have hE : firstV [pksE l, bndE lo hi] = refE l lo hi := rfl
  have hpe : pksE l = 0 := refE_pks hre
  have hok : PksOk l := (refE_ok hre).1
  have hsh : shortK l.length = true := by simp only [shortK, Bool.or_eq_true, decide_eq_true_eq]; omega
  have hl' : l.length < 9223372036854775808 := by omega
  have h4 : l.length ≤ 4096 := by omega
  have h6I : ¬ (6 : Int) < (l.length : Int) := by omega
  have ht : List.take (l.length * 3) (pcs l) = pcs l := List.take_of_length_le (by simp)
  have hR : refR l lo hi = seek l lo hi := by rw [refR, if_pos hre]
  have hsn : ¬ seek l lo hi = none := fun e => by rw [e] at hsk; cases hsk
  have hcn : cmE l lo hi [] ≠ 0 := fun e => hsn ((cmE_meets hre).1 e).seek
  refine AC.pure Tryz.func9 rfl (by kernel_rfl) rfl [0, 2, 4, 10, 12, 13, 15, 23, 24, 25, 130, 131, 132, 228, 229, 230] rfl ?_
  refine E.seq ?_
  refine E.reg hr (by simp; rfl) ?_ -- region 0
  refine E.seq ?_
  refine E.seq ?_
  refine E.drawC mixed hr [0, 4, 16, 17, 18] [0, 4, 14, 16, 17, 18] [0, 4, 14, 16, 17, 18] (by kernel_rfl) (by simp [g15, g44, g50, gBnd, g94, intsAt, intsOf, yieldedA, hE, hre, flat, pksR, pksAt, ht, pksOf_pcs, hl', hsh, h6I]; rfl) ?_ -- region 1
  refine E.cond (t := false) (by simp) (fun h => by cases h) (fun _ => ?_)
  refine E.skip ?_
  refine E.seq ?_
  refine E.drawC mixed hr [9] [1, 3, 8, 9] [1, 3, 9] (by kernel_rfl) (by simp [g46, g45, flat, pksR, pksAt, pksP, rowPks, rowOf, ht, pksOf_pcs, hl', h4, hne, hre, hR, hsk]; rfl) ?_ -- region 3
  refine E.seq ?_
  refine E.drawC mixed hr [3] [1, 3] [1, 3] (by kernel_rfl) (by simp [g46, g47, flat, pksR, pksAt, pksP, rowPks, rowOf, ht, pksOf_pcs, hl', h4, hne, hre, hsn]; rfl) ?_ -- region 4
  refine E.seq ?_
  refine E.drawC mixed hr [5] [1, 4, 5] [1, 4, 5] (by kernel_rfl) (by simp [g46, g34, g48b, g48, flat, pksR, pksAt, pksN, rowPks, rowOf, ht, pksOf_pcs, hl', h4, hne, intsW, intsM, intsAt, intsOf]; rfl) ?_ -- region 5
  refine E.seq ?_
  refine E.seq ?_
  refine E.reg hr (by simp [yieldedA]; rfl) ?_ -- region 6
  refine E.cond (t := false) (by simp) (fun h => by cases h) (fun _ => ?_)
  refine E.skip ?_
  refine E.seq ?_
  refine E.seq ?_
  refine E.reg hr (by simp; rfl) ?_ -- region 8
  refine E.cond (t := true) (by simp) (fun _ => ?_) (fun h => by cases h)
  refine E.seq ?_
  refine E.reg hr (by simp [hcn]; rfl) ?_ -- region 9
  refine E.ret ?_
  exact pureK.ret rfl rfl (by simp) (by repeat first | exact sub_refl _ | refine sub_cons rfl ?_)
end Go.Proofs.YtkongcnmkiihjaaGreatDoor
