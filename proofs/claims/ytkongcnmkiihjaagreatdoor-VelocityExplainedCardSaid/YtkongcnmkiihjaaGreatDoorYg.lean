/-
The walks of moments that are given and of layers, by the program and by the reference: both return the same (each a contract: no condition but those in its statement).
-/
import Derived.Test.YtkongcnmkiihjaaGreatDoorYf
import Derived.Test.YtkongcnmkiihjaaGreatDoorAi
namespace Go.Proofs.YtkongcnmkiihjaaGreatDoor
open Go Go.Ab Go.Proofs
/-! ### moments that are given: the program's judgement -/
def cmS (l : List Pk) (lo hi : Int) (ms : List Int) (i : Nat) : Int :=
  if aA ms (i + 1) < (pkA l (i + 1)).low ∨ (pkA l (i + 1)).high < aA ms (i + 1) then 24
  else if aA ms (i + 1) - aA ms i < lo * ((pkA l (i + 1)).t - (pkA l i).t) ∨ hi * ((pkA l (i + 1)).t - (pkA l i).t) < aA ms (i + 1) - aA ms i then 21 else 0
def cmG (l : List Pk) (lo hi : Int) (ms : List Int) : Nat → Nat → Int
  | 0, _ => 0
  | k + 1, i => if cmS l lo hi ms i = 0 then cmG l lo hi ms k (i + 1) else cmS l lo hi ms i
def cm0 (l : List Pk) (lo hi : Int) (ms : List Int) : Int := firstV [pksE l, bndE lo hi, whenV (decide (ms.length ≠ l.length)) 2]
def cmE (l : List Pk) (lo hi : Int) (ms : List Int) : Int := if cm0 l lo hi ms = 0 then cmG l lo hi ms l.length 0 else cm0 l lo hi ms
theorem cm0_zero {l : List Pk} {lo hi : Int} {ms : List Int} (h : cm0 l lo hi ms = 0) : PksOk l ∧ l.length ≤ 64 ∧ BndIn lo hi ∧ ms.length = l.length := by
  simp only [cm0, firstV, whenV] at h
  by_cases h1 : pksE l = 0
  · by_cases h2 : bndE lo hi = 0
    · by_cases h3 : ms.length = l.length
      · exact ⟨(pksE_ok h1).1, (pksE_ok h1).2, bndE_ok h2, h3⟩
      · simp [h1, h2, h3] at h
    · rw [if_pos h1, if_neg h2] at h; exact absurd h h2
  · rw [if_neg h1] at h; exact absurd h h1
abbrev rowM (b k : Nat) : Value := .slice (some ⟨b, 0, some 0⟩) k 0
theorem w48nnx (c : Nat) (lo hi : Int) (h : cm0 [] lo hi [] ≠ 0) : AC Tryz.prog 48 [.slice none 0 0, ivl lo hi, .slice (some ⟨9, 0, none⟩) 0 c] [(9, .inp 0 [])] 10 (iv (cm0 [] lo hi [])) [(9, .inp 0 [])] 10 := by
  have hr := recT_ok (P := Tryz.prog) (l := [(56, g56), (119, gBnd), (96, g96), (90, g90), (122, g122)]) (by simp [ok56, ok119, ok96, ok90, ok122])
  have hE : firstV [pksE [], bndE lo hi, whenV false 2] = cm0 [] lo hi [] := by simp [cm0, whenV]
  refine AC.pure Tryz.func48 rfl (by kernel_rfl) rfl [2, 4, 8, 9, 29, 30, 31] rfl ?_
  refine E.seq ?_
  refine E.reg hr (by simp; rfl) ?_ -- region 0
  refine E.seq ?_
  refine E.seq ?_
  refine E.drawC mixed hr [3, 9, 10, 11] [1, 3, 9, 10, 11] [1, 3, 9, 10, 11] (by kernel_rfl) (by simp [g56, pksP, gBnd, g96, g90, intsAt, intsOf, hE]; rfl) ?_ -- region 1
  refine E.seq ?_
  refine E.reg hr (by simp; rfl) ?_ -- region 2
  refine E.cond (t := true) (by simp [h]) (fun _ => ?_) (fun h => by cases h)
  refine E.seq ?_
  refine E.reg hr (by simp; rfl) ?_ -- region 3
  refine E.ret ?_
  exact pureK.ret rfl rfl (by simp) (by repeat first | exact sub_refl _ | refine sub_cons rfl ?_)
theorem w48nrx (ms : List Int) (lo hi : Int) (h : cm0 [] lo hi ms ≠ 0) : AC Tryz.prog 48 [.slice none 0 0, ivl lo hi, rowM 9 ms.length] [(9, .row (ic ms) 1)] 10 (iv (cm0 [] lo hi ms)) [(9, .row (ic ms) 1)] 10 := by
  have hr := recT_ok (P := Tryz.prog) (l := [(56, g56), (119, gBnd), (96, g96), (90, g90), (122, g122)]) (by simp [ok56, ok119, ok96, ok90, ok122])
  have hE : firstV [pksE [], bndE lo hi, whenV (!decide (ms = [])) 2] = cm0 [] lo hi ms := by simp [cm0, whenV]
  refine AC.pure Tryz.func48 rfl (by kernel_rfl) rfl [2, 4, 8, 9, 29, 30, 31] rfl ?_
  refine E.seq ?_
  refine E.reg hr (by simp; rfl) ?_ -- region 0
  refine E.seq ?_
  refine E.seq ?_
  refine E.drawC mixed hr [3, 9, 10, 11] [1, 3, 9, 10, 11] [1, 3, 9, 10, 11] (by kernel_rfl) (by simp [g56, pksP, gBnd, g96, g90, intsAt, intsOf, hE]; rfl) ?_ -- region 1
  refine E.seq ?_
  refine E.reg hr (by simp; rfl) ?_ -- region 2
  refine E.cond (t := true) (by simp [h]) (fun _ => ?_) (fun h => by cases h)
  refine E.seq ?_
  refine E.reg hr (by simp; rfl) ?_ -- region 3
  refine E.ret ?_
  exact pureK.ret rfl rfl (by simp) (by repeat first | exact sub_refl _ | refine sub_cons rfl ?_)
theorem w48rnx (l : List Pk) (c : Nat) (hl : l.length < 2 ^ 63) (lo hi : Int) (h : cm0 l lo hi [] ≠ 0) : AC Tryz.prog 48 [rowV l.length, ivl lo hi, .slice (some ⟨10, 0, none⟩) 0 c] [(10, .inp 0 []), (9, .row (pcs l) 3)] 11 (iv (cm0 l lo hi [])) [(10, .inp 0 []), (9, .row (pcs l) 3)] 11 := by
  have hr := recT_ok (P := Tryz.prog) (l := [(56, g56), (119, gBnd), (96, g96), (90, g90), (122, g122)]) (by simp [ok56, ok119, ok96, ok90, ok122])
  have hl' : l.length < 9223372036854775808 := by omega
  have e : ((0 : Int) = l.length) ↔ ([] : List Int).length = l.length := by simp only [List.length_nil]; omega
  have hE : firstV [pksE l, bndE lo hi, whenV (!decide ((0 : Int) = l.length)) 2] = cm0 l lo hi [] := by simp only [cm0, whenV, e, decide_not]
  refine AC.pure Tryz.func48 rfl (by kernel_rfl) rfl [2, 4, 8, 9, 29, 30, 31] rfl ?_
  refine E.seq ?_
  refine E.reg hr (by simp; rfl) ?_ -- region 0
  refine E.seq ?_
  refine E.seq ?_
  refine E.drawC mixed hr [3, 9, 10, 11] [1, 3, 9, 10, 11] [1, 3, 9, 10, 11] (by kernel_rfl) (by simp [g56, pksP, gBnd, g96, g90, intsAt, intsOf, hE, rowPks, rowOf, pksOf_pcs, hl']; rfl) ?_ -- region 1
  refine E.seq ?_
  refine E.reg hr (by simp; rfl) ?_ -- region 2
  refine E.cond (t := true) (by simp [h]) (fun _ => ?_) (fun h => by cases h)
  refine E.seq ?_
  refine E.reg hr (by simp; rfl) ?_ -- region 3
  refine E.ret ?_
  exact pureK.ret rfl rfl (by simp) (by repeat first | exact sub_refl _ | refine sub_cons rfl ?_)
theorem w48rrx (l : List Pk) (ms : List Int) (hl : l.length < 2 ^ 63) (lo hi : Int) (h : cm0 l lo hi ms ≠ 0) : AC Tryz.prog 48 [rowV l.length, ivl lo hi, rowM 10 ms.length] [(10, .row (ic ms) 1), (9, .row (pcs l) 3)] 11 (iv (cm0 l lo hi ms)) [(10, .row (ic ms) 1), (9, .row (pcs l) 3)] 11 := by
  have hr := recT_ok (P := Tryz.prog) (l := [(56, g56), (119, gBnd), (96, g96), (90, g90), (122, g122)]) (by simp [ok56, ok119, ok96, ok90, ok122])
  have hl' : l.length < 9223372036854775808 := by omega
  have e : ((ms.length : Int) = l.length) ↔ ms.length = l.length := by omega
  have hE : firstV [pksE l, bndE lo hi, whenV (!decide ((ms.length : Int) = (l.length : Int))) 2] = cm0 l lo hi ms := by simp only [cm0, whenV, e, decide_not]
  refine AC.pure Tryz.func48 rfl (by kernel_rfl) rfl [2, 4, 8, 9, 29, 30, 31] rfl ?_
  refine E.seq ?_
  refine E.reg hr (by simp; rfl) ?_ -- region 0
  refine E.seq ?_
  refine E.seq ?_
  refine E.drawC mixed hr [3, 9, 10, 11] [1, 3, 9, 10, 11] [1, 3, 9, 10, 11] (by kernel_rfl) (by simp [g56, pksP, gBnd, g96, g90, intsAt, intsOf, hE, rowPks, rowOf, pksOf_pcs, hl']; rfl) ?_ -- region 1
  refine E.seq ?_
  refine E.reg hr (by simp; rfl) ?_ -- region 2
  refine E.cond (t := true) (by simp [h]) (fun _ => ?_) (fun h => by cases h)
  refine E.seq ?_
  refine E.reg hr (by simp; rfl) ?_ -- region 3
  refine E.ret ?_
  exact pureK.ret rfl rfl (by simp) (by repeat first | exact sub_refl _ | refine sub_cons rfl ?_)
theorem w48nn (c : Nat) (lo hi : Int) (h : cm0 [] lo hi [] = 0) : AC Tryz.prog 48 [.slice none 0 0, ivl lo hi, .slice (some ⟨9, 0, none⟩) 0 c] [(9, .inp 0 [])] 10 (iv 0) [(9, .inp 0 [])] 10 := by
  have hr := recT_ok (P := Tryz.prog) (l := [(56, g56), (119, gBnd), (96, g96), (90, g90), (122, g122)]) (by simp [ok56, ok119, ok96, ok90, ok122])
  have hE : firstV [pksE [], bndE lo hi, whenV false 2] = cm0 [] lo hi [] := by simp [cm0, whenV]
  refine AC.pure Tryz.func48 rfl (by kernel_rfl) rfl [2, 4, 8, 9, 29, 30, 31] rfl ?_
  refine E.seq ?_
  refine E.reg hr (by simp; rfl) ?_ -- region 0
  refine E.seq ?_
  refine E.seq ?_
  refine E.drawC mixed hr [3, 9, 10, 11] [1, 3, 9, 10, 11] [1, 3, 9, 10, 11] (by kernel_rfl) (by simp [g56, pksP, gBnd, g96, g90, intsAt, intsOf, hE, h]; rfl) ?_ -- region 1
  refine E.seq ?_
  refine E.reg hr (by simp; rfl) ?_ -- region 2
  refine E.cond (t := false) (by simp) (fun h => by cases h) (fun _ => ?_)
  refine E.skip ?_
  refine E.seq ?_
  refine E.reg hr (by simp; rfl) ?_ -- region 4
  refine E.seq ?_
  refine E.seq ?_
  refine E.reg hr (by simp; rfl) ?_ -- region 5
  refine E.block ?_ -- 0
  refine E.loop ?_
  refine EL.step ?_
  refine E.seq ?_
  refine E.reg hr (by simp; rfl) ?_ -- region 6
  refine E.seq ?_
  refine E.cond (t := false) (by simp) (fun h => by cases h) (fun _ => ?_)
  refine E.exit ?_ -- 0
  refine E.seq ?_
  refine E.reg hr (by simp; rfl) ?_ -- region 16
  refine E.ret ?_
  exact pureK.ret rfl rfl (by simp) (by repeat first | exact sub_refl _ | refine sub_cons rfl ?_)
abbrev S48 (l : List Pk) (ms : List Int) (lo hi : Int) (i : Nat) : St := { fr := [(2, rowM 10 ms.length), (4, .pointer (some ⟨11, 0, none⟩)), (8, iv (pkA l i).t), (9, iv (aA ms i)), (29, rowV l.length), (30, iv l.length), (31, iv i)], sz := 87, H := [(11, .cells [iv lo, iv hi] 74), (10, .row (ic ms) 1), (9, .row (pcs l) 3)], n := 12, marks := [], vs := [2, 4, 8, 9, 29, 30, 31] }
set_option maxRecDepth 20000 in
theorem w48rr (l : List Pk) (ms : List Int) (hl : l.length < 2 ^ 63) (lo hi : Int) (h : cm0 l lo hi ms = 0) : AC Tryz.prog 48 [rowV l.length, ivl lo hi, rowM 10 ms.length] [(10, .row (ic ms) 1), (9, .row (pcs l) 3)] 11 (iv (cmG l lo hi ms l.length 0)) [(10, .row (ic ms) 1), (9, .row (pcs l) 3)] 11 := by
  obtain ⟨hok, h64, hb, hml⟩ := cm0_zero h
  have hr := recT_ok (P := Tryz.prog) (l := [(56, g56), (119, gBnd), (96, g96), (90, g90), (122, g122)]) (by simp [ok56, ok119, ok96, ok90, ok122])
  have hl' : l.length < 9223372036854775808 := by omega
  have e : ((ms.length : Int) = l.length) ↔ ms.length = l.length := by omega
  have hE : firstV [pksE l, bndE lo hi, whenV (!decide ((ms.length : Int) = (l.length : Int))) 2] = cm0 l lo hi ms := by simp only [cm0, whenV, e, decide_not]
  refine AC.pure Tryz.func48 rfl (by kernel_rfl) rfl [2, 4, 8, 9, 29, 30, 31] rfl ?_
  refine E.seq ?_
  refine E.reg hr (by simp; rfl) ?_ -- region 0
  refine E.seq ?_
  refine E.seq ?_
  refine E.drawC mixed hr [3, 9, 10, 11] [1, 3, 9, 10, 11] [1, 3, 9, 10, 11] (by kernel_rfl) (by simp [g56, pksP, gBnd, g96, g90, intsAt, intsOf, hE, h, rowPks, rowOf, pksOf_pcs, hl']; rfl) ?_ -- region 1
  refine E.seq ?_
  refine E.reg hr (by simp; rfl) ?_ -- region 2
  refine E.cond (t := false) (by simp) (fun h => by cases h) (fun _ => ?_)
  refine E.skip ?_
  refine E.seq ?_
  refine E.reg hr (by simp; rfl) ?_ -- region 4
  refine E.seq ?_
  refine E.seq ?_
  refine E.reg hr (by simp; rfl) ?_ -- region 5
  refine E.block ?_ -- 0
  refine E.loop ?_
  refine EL.ind (fun i : Nat => S48 l ms lo hi i) (fun i => l.length - i) (fun i => i ≤ l.length ∧ (-2048000000000 ≤ aA ms i ∧ aA ms i ≤ 2048000000000) ∧ cmG l lo hi ms (l.length - i) i = cmG l lo hi ms l.length 0) 0 (Leads.ren [11] rfl rfl rfl ⟨rfl, rfl⟩ (by simp [pkA, aA]) (by simp)) ⟨Nat.zero_le _, ⟨by simp [aA], by simp [aA]⟩, rfl⟩ (fun _ => rfl) ?_
  rintro i ⟨hi0, ⟨ha1, ha2⟩, hg⟩
  have hw : IntKind.i64.wrap ((i : Int) + 1) = (i : Int) + 1 := W_in (by omega) (by omega)
  refine E.seq ?_
  refine E.reg hr (by simp; rfl) ?_ -- region 6
  refine E.seq ?_
  by_cases hil : i < l.length
  · have hio : i < ms.length := by omega
    have h3 : i * 3 + 3 ≤ l.length * 3 := by omega
    have hiI : (i : Int) < (l.length : Int) := by omega
    have ho : Pk.Ok ⟨l[i].t, l[i].q, l[i].e⟩ := hok.get hil
    have hp1 : (pkA l (i + 1)) = l[i] := pkA_succ hil
    have hcur : ∀ (hx : i < ms.length), ms[i] = aA ms (i + 1) := fun hx => (aA_get hx).symm
    have hlow : Pk.low ⟨l[i].t, l[i].q, l[i].e⟩ = l[i].low := rfl
    have hhigh : Pk.high ⟨l[i].t, l[i].q, l[i].e⟩ = l[i].high := rfl
    rw [show l.length - i = (l.length - (i + 1)) + 1 by omega, cmG] at hg
    have hS : cmS l lo hi ms i = if aA ms (i + 1) < l[i].low ∨ l[i].high < aA ms (i + 1) then 24
  else if aA ms (i + 1) - aA ms i < lo * (l[i].t - (pkA l i).t) ∨ hi * (l[i].t - (pkA l i).t) < aA ms (i + 1) - aA ms i then 21 else 0 := by rw [cmS, hp1]
    refine E.cond (t := true) (by simp [hil]) (fun _ => ?_) (fun h => by cases h)
    refine E.skip ?_
    refine E.seq ?_
    refine E.block ?_ -- 1
    refine E.seq ?_
    refine E.reg hr (by simp [hil, h3, pcs_take hil]; rfl) ?_ -- region 7
    refine E.seq ?_
    refine E.reg hr (by simp [g122, ho, hlow, hhigh]; rfl) ?_ -- region 8
    refine E.seq ?_
    refine E.seq ?_
    by_cases hbad : aA ms (i + 1) < l[i].low ∨ l[i].high < aA ms (i + 1)
    · rw [if_pos hbad] at hS
      rw [hS] at hg
      by_cases c1 : aA ms (i + 1) < l[i].low
      · refine E.drawC mixed hr [] [] [3, 5, 11, 13] (by kernel_rfl) (by simp [yieldedA, hio, hcur, c1]; rfl) ?_ -- region 9
        refine E.cond (t := true) (by simp) (fun _ => ?_) (fun h => by cases h)
        refine E.seq ?_
        refine E.reg hr (by simp; rfl) ?_ -- region 10
        refine E.ret ?_
        exact pureK.ret rfl rfl (by simp [← hg]) (by repeat first | exact sub_refl _ | refine sub_cons rfl ?_)
      · have c2 := hbad.resolve_left c1
        refine E.drawC mixed hr [] [] [3, 5, 11, 13] (by kernel_rfl) (by simp [yieldedA, hio, hcur, c1, c2]; rfl) ?_ -- region 9
        refine E.cond (t := true) (by simp) (fun _ => ?_) (fun h => by cases h)
        refine E.seq ?_
        refine E.reg hr (by simp; rfl) ?_ -- region 10
        refine E.ret ?_
        exact pureK.ret rfl rfl (by simp [← hg]) (by repeat first | exact sub_refl _ | refine sub_cons rfl ?_)
    · rw [if_neg hbad] at hS
      have c1 : ¬ aA ms (i + 1) < l[i].low := fun e => hbad (.inl e)
      have c2 : ¬ l[i].high < aA ms (i + 1) := fun e => hbad (.inr e)
      refine E.drawC mixed hr [] [] [3, 5, 11, 13] (by kernel_rfl) (by simp [yieldedA, hio, hcur, c1, c2]; rfl) ?_ -- region 9
      refine E.cond (t := false) (by simp) (fun h => by cases h) (fun _ => ?_)
      refine E.skip ?_
      obtain ⟨x1, x2, ⟨x3, x4⟩, x5, x6⟩ := hok.pkA (show i ≤ l.length by omega)
      obtain ⟨y1, y2, ⟨y3, y4⟩, y5, y6⟩ := hok.pkA (show i + 1 ≤ l.length by omega)
      rw [hp1] at y1 y2 y3 y4 y5 y6
      obtain ⟨b1, b2, b3, b4, b5⟩ := hb
      have m1 := mul_in2 b1 b2 (show -1024 ≤ l[i].t - (pkA l i).t by omega) (by omega)
      have m2 := mul_in2 b3 b4 (show -1024 ≤ l[i].t - (pkA l i).t by omega) (by omega)
      have e0 : IntKind.i64.wrap (aA ms (i + 1) - aA ms i) = aA ms (i + 1) - aA ms i := W_in (by omega) (by omega)
      have e1 : IntKind.i64.wrap (l[i].t - (pkA l i).t) = l[i].t - (pkA l i).t := W_in (by omega) (by omega)
      have e2 : IntKind.i64.wrap (lo * (l[i].t - (pkA l i).t)) = lo * (l[i].t - (pkA l i).t) := W_in (by omega) (by omega)
      have e3 : IntKind.i64.wrap (hi * (l[i].t - (pkA l i).t)) = hi * (l[i].t - (pkA l i).t) := W_in (by omega) (by omega)
      refine E.seq ?_
      refine E.seq ?_
      refine E.reg hr (by simp [hio, hcur, e0]; rfl) ?_ -- region 11
      refine E.seq ?_
      by_cases hbad2 : aA ms (i + 1) - aA ms i < lo * (l[i].t - (pkA l i).t) ∨ hi * (l[i].t - (pkA l i).t) < aA ms (i + 1) - aA ms i
      · rw [if_pos hbad2] at hS
        rw [hS] at hg
        by_cases d1 : aA ms (i + 1) - aA ms i < lo * (l[i].t - (pkA l i).t)
        · refine E.reg hr (by simp [oneF_guard, yieldedA, e1, e2, d1]; rfl) ?_ -- region 12
          refine E.cond (t := true) (by simp) (fun _ => ?_) (fun h => by cases h)
          refine E.seq ?_
          refine E.reg hr (by simp; rfl) ?_ -- region 13
          refine E.ret ?_
          exact pureK.ret rfl rfl (by simp [← hg]) (by repeat first | exact sub_refl _ | refine sub_cons rfl ?_)
        · have d2 := hbad2.resolve_left d1
          refine E.reg hr (by simp [oneF_guard, yieldedA, e1, e2, e3, d1, d2]; rfl) ?_ -- region 12
          refine E.cond (t := true) (by simp) (fun _ => ?_) (fun h => by cases h)
          refine E.seq ?_
          refine E.reg hr (by simp; rfl) ?_ -- region 13
          refine E.ret ?_
          exact pureK.ret rfl rfl (by simp [← hg]) (by repeat first | exact sub_refl _ | refine sub_cons rfl ?_)
      · rw [if_neg hbad2] at hS
        rw [if_pos hS] at hg
        have d1 : ¬ aA ms (i + 1) - aA ms i < lo * (l[i].t - (pkA l i).t) := fun e => hbad2 (.inl e)
        have d2 : ¬ hi * (l[i].t - (pkA l i).t) < aA ms (i + 1) - aA ms i := fun e => hbad2 (.inr e)
        refine E.reg hr (by simp [oneF_guard, yieldedA, e1, e2, e3, d1, d2]; rfl) ?_ -- region 12
        refine E.cond (t := false) (by simp) (fun h => by cases h) (fun _ => ?_)
        refine E.skip ?_
        refine E.drawC mixed hr [] [] [1, 5] (by kernel_rfl) (by simp [hio, hcur]; rfl) ?_ -- region 14
        refine E.reg hr (by simp [hw]; rfl) ?_ -- region 15
        exact ⟨i + 1, Leads.ren [11] rfl rfl rfl ⟨rfl, rfl⟩ (by simp [hp1]) (by simp), ⟨hil, ⟨by omega, by omega⟩, hg⟩, by dsimp only; omega⟩
  · have hie : i = l.length := by omega
    subst hie
    rw [Nat.sub_self, cmG] at hg
    refine E.cond (t := false) (by simp) (fun h => by cases h) (fun _ => ?_)
    refine E.exit ?_ -- 0
    refine E.seq ?_
    refine E.reg hr (by simp; rfl) ?_ -- region 16
    refine E.ret ?_
    exact pureK.ret rfl rfl (by simp [← hg]) (by repeat first | exact sub_refl _ | refine sub_cons rfl ?_)
end Go.Proofs.YtkongcnmkiihjaaGreatDoor

namespace Go.Proofs.YtkongcnmkiihjaaGreatDoor
open Go Go.Ab Go.Proofs
/-! ### moments that are given: the entry -/
theorem partRR {H : Heap} {n : Nat} {R : List Value → Heap → Nat → Prop} (mk : Value → Value → List Value) (hmk : ∀ φ φ0 s s0 u u0, den φ0 s0 = den φ s → den φ0 u0 = den φ u → denL φ0 (mk s0 u0) = denL φ (mk s u)) (hms : ∀ (p : Nat → Prop) s u, sc p s → sc p u → scL p (mk s u))
    {b len skip sz : Nat} {cs : List Value} (hb : rowOf H b = some (cs, sz)) (haf : afL cs = true) {b2 len2 skip2 sz2 : Nat} {cs2 : List Value} (hb2 : rowOf H b2 = some (cs2, sz2)) (haf2 : afL cs2 = true)
    (h : R (mk (.slice (some ⟨9, 0, some 0⟩) len skip) (.slice (some ⟨10, 0, some 0⟩) len2 skip2)) [(10, .row cs2 sz2), (9, .row cs sz)] 11) : Part Tryz.prog (mk (.slice (some ⟨b, 0, some 0⟩) len skip) (.slice (some ⟨b2, 0, some 0⟩) len2 skip2)) H n R :=
  Part.gen [⟨b, .row cs sz⟩, ⟨b2, .row cs2 sz2⟩] gsz (fun v hv => by
    rcases List.mem_cons.1 hv with rfl | hv
    · exact ⟨hb, haf⟩
    · rw [List.mem_singleton] at hv
      subst hv
      exact ⟨hb2, haf2⟩) fun φ => by
    refine ⟨_, fun φ0 hl => hmk φ φ0 _ (.slice (some ⟨9, 0, some 0⟩) len skip) _ (.slice (some ⟨10, 0, some 0⟩) len2 skip2) ?_ ?_, hms _ _ _ (show 9 < 9 + 2 by omega) (show 10 < 9 + 2 by omega), h⟩
    · have h0 := hl 0 _ rfl
      simp only [Nat.add_zero] at h0
      simp only [den, h0.1, h0.2]
    · have h1 := hl 1 _ rfl
      simp only [den, h1.1, h1.2]
/-- picks of one's own, and not an empty block of them -/
def pksN (H : Heap) : Value → Option (List Pk)
  | .slice none 0 0 => some []
  | .slice (some ⟨b, 0, some 0⟩) len 0 => match rowPks H b len with
    | some l => if l = [] then none else some l
    | none => none
  | _ => none
theorem pksN_P {H : Heap} {v : Value} {l : List Pk} (h : pksN H v = some l) : pksP H v = some l := by
  unfold pksN at h
  split at h
  · exact h
  · split at h
    · rename_i l' hl
      split at h
      · cases h
      · injection h with h; subst h; exact hl
    · cases h
  · cases h
def rowIntsN (H : Heap) (b len : Nat) : Option (List Int) := match rowInts H b len with
  | some l => if l = [] then none else some l
  | none => none
theorem rowIntsN_ok {H : Heap} {b len : Nat} {l : List Int} (h : rowIntsN H b len = some l) : rowOf H b = some (ic l, 1) ∧ len = l.length ∧ l.length < 2 ^ 31 ∧ l ≠ [] := by
  unfold rowIntsN at h
  split at h
  · rename_i l' hl
    split at h
    · cases h
    · rename_i hne
      injection h with h; subst h
      obtain ⟨a, b, c⟩ := rowInts_ok hl
      exact ⟨a, b, c, hne⟩
  · cases h
/-- integers of one's own: an empty slice, or a slice with room -/
def intsM (H : Heap) : Value → Option (List Int)
  | .slice (some ⟨b, 0, none⟩) 0 _ => match cellsA H b 0 0 with
    | some [] => some []
    | _ => none
  | .slice (some ⟨b, 0, some 0⟩) len 0 => rowIntsN H b len
  | _ => none
theorem bm_den {lo hi : Int} : ∀ (φ φ0 : Vl) (s s0 u u0 : Value), den φ0 s0 = den φ s → den φ0 u0 = den φ u → denL φ0 [s0, ivl lo hi, u0] = denL φ [s, ivl lo hi, u] := fun φ φ0 s s0 u u0 h h' => by simp [denL, den, h, h']
theorem bm_sc {lo hi : Int} : ∀ (p : Nat → Prop) (s u : Value), sc p s → sc p u → scL p [s, ivl lo hi, u] := fun _ _ _ h h' => ⟨h, ⟨trivial, trivial, trivial⟩, h', trivial⟩
def g48 (args : List Value) (H : Heap) (n : Nat) : R := match args with
  | [t, .agg ⟨[.int .i64 lo, .int .i64 hi]⟩, u] => match pksN H t, intsM H u with
    | some l, some ms => some (iv (cmE l lo hi ms), H, n)
    | _, _ => none
  | _ => none
theorem ok48 : EntOk Tryz.prog (48, g48) := by
  intro args H n v H' n' h
  simp only [g48] at h
  split at h
  · rename_i t lo hi u
    split at h
    · rename_i l ms ht hu
      injection h with h; injection h with e1 e2; injection e2 with e2 e3; subst e1 e2 e3
      unfold pksN at ht
      split at ht
      · injection ht with ht; subst ht
        unfold intsM at hu
        split at hu
        · rename_i b c
          split at hu
          · rename_i hc
            injection hu with hu; subst hu
            refine AC.liftP rfl (Part.one (fun x => [.slice none 0 0, ivl lo hi, x]) (by intro φ φ0 s s0 h; simp [denL, den, h]) (by intro p s h; exact ⟨trivial, ⟨trivial, trivial, trivial⟩, h, trivial⟩) (a := ⟨b, 0, none⟩) rfl hc rfl [] (by simp [Seen]) gsz fun c0 => ?_)
            by_cases hz : cm0 [] lo hi [] = 0
            · rw [cmE, if_pos hz]; exact ⟨_, _, w48nn c0 lo hi hz⟩
            · rw [cmE, if_neg hz]; exact ⟨_, _, w48nnx c0 lo hi hz⟩
          · cases hu
        · obtain ⟨hb, rfl, hlt, hne⟩ := rowIntsN_ok hu
          refine AC.liftP rfl (Part.row (fun x => [.slice none 0 0, ivl lo hi, x]) (by intro φ φ0 s s0 h; simp [denL, den, h]) (by intro p s h; exact ⟨trivial, ⟨trivial, trivial, trivial⟩, h, trivial⟩) hb (afL_iv ms) gsz ?_)
          by_cases hz : cm0 [] lo hi ms = 0
          · have := (cm0_zero hz).2.2.2
            exact absurd (List.length_eq_zero_iff.1 this) hne
          · rw [cmE, if_neg hz]; exact ⟨_, _, w48nrx ms lo hi hz⟩
        · cases hu
      · split at ht
        · rename_i l' hl
          split at ht
          · cases ht
          · rename_i hne
            injection ht with ht; subst ht
            obtain ⟨hb, rfl, hlt⟩ := rowPks_ok hl
            unfold intsM at hu
            split at hu
            · rename_i b c
              split at hu
              · rename_i hc
                injection hu with hu; subst hu
                refine AC.liftP rfl (Part.rowOneG (fun s u => [s, ivl lo hi, u]) bm_den bm_sc hb (afL_pcs l') (a2 := ⟨b, 0, none⟩) rfl hc rfl [] (by simp [Seen]) gsz fun c0 => ?_)
                by_cases hz : cm0 l' lo hi [] = 0
                · have := (cm0_zero hz).2.2.2
                  exact absurd (List.length_eq_zero_iff.1 this.symm) hne
                · rw [cmE, if_neg hz]; exact ⟨_, _, w48rnx l' c0 hlt lo hi hz⟩
              · cases hu
            · obtain ⟨hb2, rfl, hlt2, _⟩ := rowIntsN_ok hu
              refine AC.liftP rfl (partRR (fun s u => [s, ivl lo hi, u]) bm_den bm_sc hb (afL_pcs l') hb2 (afL_iv ms) ?_)
              by_cases hz : cm0 l' lo hi ms = 0
              · rw [cmE, if_pos hz]; exact ⟨_, _, w48rr l' ms hlt lo hi hz⟩
              · rw [cmE, if_neg hz]; exact ⟨_, _, w48rrx l' ms hlt lo hi hz⟩
            · cases hu
        · cases ht
      · cases ht
    · cases h
  · cases h
end Go.Proofs.YtkongcnmkiihjaaGreatDoor

namespace Go.Ab
open Go
/-- what is left behind a piece, known by less; else as it was -/
def cutK (P : Program) (n0 : Nat) (S0 : St) (K : Ex → St → Prop) : Ex → St → Prop
  | .normal, st => Leads P n0 st S0
  | e, st => K e st
theorem E.cut {P : Program} {n0 : Nat} {ro : Option Nat} {st : St} {K : Ex → St → Prop} {a b : Code} (S0 : St) (ha : E P n0 ro a st (cutK P n0 S0 K)) (hb : E P n0 ro b S0 K) : E P n0 ro (.seq a b) st K :=
  E.seq (ha.mono fun e st' h => by
    cases e with
    | normal => exact E.lead S0 h hb
    | _ => exact h)
end Go.Ab
namespace Go.Proofs.YtkongcnmkiihjaaGreatDoor
open Go Go.Ab Go.Proofs
/-! ### moments that are given: the reference's judgement -/
abbrev inpM (b o k c : Nat) : Value := .slice (some ⟨b, o, none⟩) k c
theorem w54nn (lo hi : Int) : AC Tryz.prog 54 [.slice none 0 0, ivl lo hi, .slice none 0 0] [] 9 (iv 0) [] 9 := by
  have hr := recT_ok (P := Tryz.prog) (l := []) (by simp)
  refine AC.pure Tryz.func54 rfl (by kernel_rfl) rfl [0, 2, 4, 7] rfl ?_
  refine E.seq ?_
  refine E.reg hr (by simp; rfl) ?_ -- region 0
  refine E.seq ?_
  refine E.seq ?_
  refine E.reg hr (by simp; rfl) ?_ -- region 1
  refine E.cond (t := false) (by simp) (fun h => by cases h) (fun _ => ?_)
  refine E.skip ?_
  refine E.seq ?_
  refine E.seq ?_
  refine E.reg hr (by simp; rfl) ?_ -- region 3
  refine E.block ?_ -- 0
  refine E.loop ?_
  refine EL.step ?_
  refine E.seq ?_
  refine E.seq ?_
  refine E.reg hr (by simp; rfl) ?_ -- region 4
  refine E.cond (t := false) (by simp) (fun h => by cases h) (fun _ => ?_)
  refine E.exit ?_ -- 0
  refine E.seq ?_
  refine E.reg hr (by simp; rfl) ?_ -- region 14
  refine E.ret ?_
  exact pureK.ret rfl rfl (by simp) (by repeat first | exact sub_refl _ | refine sub_cons rfl ?_)
theorem w54nix (ms : List Int) (o2 c2 : Nat) (lo hi : Int) (h : ms ≠ []) : AC Tryz.prog 54 [.slice none 0 0, ivl lo hi, inpM 9 o2 ms.length c2] [(9, .inp o2 (ic ms))] 10 (iv 2) [(9, .inp o2 (ic ms))] 10 := by
  have hr := recT_ok (P := Tryz.prog) (l := []) (by simp)
  refine AC.pure Tryz.func54 rfl (by kernel_rfl) rfl [0, 2, 4, 7] rfl ?_
  refine E.seq ?_
  refine E.reg hr (by simp; rfl) ?_ -- region 0
  refine E.seq ?_
  refine E.seq ?_
  refine E.reg hr (by simp; rfl) ?_ -- region 1
  refine E.cond (t := true) (by simp [h]) (fun _ => ?_) (fun h => by cases h)
  refine E.seq ?_
  refine E.reg hr (by simp; rfl) ?_ -- region 2
  refine E.ret ?_
  exact pureK.ret rfl rfl (by simp) (by repeat first | exact sub_refl _ | refine sub_cons rfl ?_)
theorem w54ni (o2 c2 : Nat) (lo hi : Int) : AC Tryz.prog 54 [.slice none 0 0, ivl lo hi, inpM 9 o2 0 c2] [(9, .inp o2 [])] 10 (iv 0) [(9, .inp o2 [])] 10 := by
  have hr := recT_ok (P := Tryz.prog) (l := []) (by simp)
  refine AC.pure Tryz.func54 rfl (by kernel_rfl) rfl [0, 2, 4, 7] rfl ?_
  refine E.seq ?_
  refine E.reg hr (by simp; rfl) ?_ -- region 0
  refine E.seq ?_
  refine E.seq ?_
  refine E.reg hr (by simp; rfl) ?_ -- region 1
  refine E.cond (t := false) (by simp) (fun h => by cases h) (fun _ => ?_)
  refine E.skip ?_
  refine E.seq ?_
  refine E.seq ?_
  refine E.reg hr (by simp; rfl) ?_ -- region 3
  refine E.block ?_ -- 0
  refine E.loop ?_
  refine EL.step ?_
  refine E.seq ?_
  refine E.seq ?_
  refine E.reg hr (by simp; rfl) ?_ -- region 4
  refine E.cond (t := false) (by simp) (fun h => by cases h) (fun _ => ?_)
  refine E.exit ?_ -- 0
  refine E.seq ?_
  refine E.reg hr (by simp; rfl) ?_ -- region 14
  refine E.ret ?_
  exact pureK.ret rfl rfl (by simp) (by repeat first | exact sub_refl _ | refine sub_cons rfl ?_)
theorem w54inx (l : List Pk) (o c : Nat) (lo hi : Int) (h : l ≠ []) : AC Tryz.prog 54 [inpV o l.length c, ivl lo hi, .slice none 0 0] [(9, .inp o (pcs l))] 10 (iv 2) [(9, .inp o (pcs l))] 10 := by
  have hr := recT_ok (P := Tryz.prog) (l := []) (by simp)
  have : ¬ ((0 : Int) = l.length) := by have := List.length_pos_iff.2 h; omega
  refine AC.pure Tryz.func54 rfl (by kernel_rfl) rfl [0, 2, 4, 7] rfl ?_
  refine E.seq ?_
  refine E.reg hr (by simp; rfl) ?_ -- region 0
  refine E.seq ?_
  refine E.seq ?_
  refine E.reg hr (by simp; rfl) ?_ -- region 1
  refine E.cond (t := true) (by simp [this]) (fun _ => ?_) (fun h => by cases h)
  refine E.seq ?_
  refine E.reg hr (by simp; rfl) ?_ -- region 2
  refine E.ret ?_
  exact pureK.ret rfl rfl (by simp) (by repeat first | exact sub_refl _ | refine sub_cons rfl ?_)
theorem w54in (o c : Nat) (lo hi : Int) : AC Tryz.prog 54 [inpV o 0 c, ivl lo hi, .slice none 0 0] [(9, .inp o [])] 10 (iv 0) [(9, .inp o [])] 10 := by
  have hr := recT_ok (P := Tryz.prog) (l := []) (by simp)
  refine AC.pure Tryz.func54 rfl (by kernel_rfl) rfl [0, 2, 4, 7] rfl ?_
  refine E.seq ?_
  refine E.reg hr (by simp; rfl) ?_ -- region 0
  refine E.seq ?_
  refine E.seq ?_
  refine E.reg hr (by simp; rfl) ?_ -- region 1
  refine E.cond (t := false) (by simp) (fun h => by cases h) (fun _ => ?_)
  refine E.skip ?_
  refine E.seq ?_
  refine E.seq ?_
  refine E.reg hr (by simp; rfl) ?_ -- region 3
  refine E.block ?_ -- 0
  refine E.loop ?_
  refine EL.step ?_
  refine E.seq ?_
  refine E.seq ?_
  refine E.reg hr (by simp; rfl) ?_ -- region 4
  refine E.cond (t := false) (by simp) (fun h => by cases h) (fun _ => ?_)
  refine E.exit ?_ -- 0
  refine E.seq ?_
  refine E.reg hr (by simp; rfl) ?_ -- region 14
  refine E.ret ?_
  exact pureK.ret rfl rfl (by simp) (by repeat first | exact sub_refl _ | refine sub_cons rfl ?_)
theorem w54iix (l : List Pk) (ms : List Int) (o c o2 c2 : Nat) (lo hi : Int) (h : ms.length ≠ l.length) : AC Tryz.prog 54 [inpV o l.length c, ivl lo hi, inpM 10 o2 ms.length c2] [(10, .inp o2 (ic ms)), (9, .inp o (pcs l))] 11 (iv 2) [(10, .inp o2 (ic ms)), (9, .inp o (pcs l))] 11 := by
  have hr := recT_ok (P := Tryz.prog) (l := []) (by simp)
  have : ¬ ((ms.length : Int) = l.length) := by omega
  refine AC.pure Tryz.func54 rfl (by kernel_rfl) rfl [0, 2, 4, 7] rfl ?_
  refine E.seq ?_
  refine E.reg hr (by simp; rfl) ?_ -- region 0
  refine E.seq ?_
  refine E.seq ?_
  refine E.reg hr (by simp; rfl) ?_ -- region 1
  refine E.cond (t := true) (by simp [this]) (fun _ => ?_) (fun h => by cases h)
  refine E.seq ?_
  refine E.reg hr (by simp; rfl) ?_ -- region 2
  refine E.ret ?_
  exact pureK.ret rfl rfl (by simp) (by repeat first | exact sub_refl _ | refine sub_cons rfl ?_)
abbrev S54 (l : List Pk) (ms : List Int) (o c o2 c2 : Nat) (lo hi : Int) (i : Nat) : St := { fr := [(0, inpV o l.length c), (2, inpM 10 o2 ms.length c2), (4, .pointer (some ⟨11, 0, none⟩)), (7, iv i)], sz := 78, H := [(11, .cells [iv lo, iv hi] 74), (10, .inp o2 (ic ms)), (9, .inp o (pcs l))], n := 12, marks := [], vs := [0, 2, 4, 7] }
abbrev T54 (l : List Pk) (ms : List Int) (o c o2 c2 : Nat) (lo hi : Int) (i : Nat) : St := { fr := [(0, inpV o l.length c), (2, inpM 10 o2 ms.length c2), (4, .pointer (some ⟨11, 0, none⟩)), (7, iv i), (8, iv (aA ms i))], sz := 78, H := [(11, .cells [iv lo, iv hi] 74), (10, .inp o2 (ic ms)), (9, .inp o (pcs l))], n := 12, marks := [], vs := [0, 2, 4, 7, 8] }
set_option maxRecDepth 20000 in
theorem w54ii (l : List Pk) (ms : List Int) (o c o2 c2 : Nat) (lo hi : Int) (hok : PksOk l) (h64 : l.length ≤ 64) (hb : BndIn lo hi) (hml : ms.length = l.length) : AC Tryz.prog 54 [inpV o l.length c, ivl lo hi, inpM 10 o2 ms.length c2] [(10, .inp o2 (ic ms)), (9, .inp o (pcs l))] 11 (iv (cmG l lo hi ms l.length 0)) [(10, .inp o2 (ic ms)), (9, .inp o (pcs l))] 11 := by
  have hr := recT_ok (P := Tryz.prog) (l := [(125, g125), (126, g126), (127, g127)]) (by simp [ok125, ok126, ok127])
  have hl' : l.length < 9223372036854775808 := by omega
  have ht : List.take (l.length * 3) (pcs l) = pcs l := List.take_of_length_le (by simp)
  refine AC.pure Tryz.func54 rfl (by kernel_rfl) rfl [0, 2, 4, 7] rfl ?_
  refine E.seq ?_
  refine E.reg hr (by simp; rfl) ?_ -- region 0
  refine E.seq ?_
  refine E.seq ?_
  refine E.reg hr (by simp; rfl) ?_ -- region 1
  refine E.cond (t := false) (by simp; omega) (fun h => by cases h) (fun _ => ?_)
  refine E.skip ?_
  refine E.seq ?_
  refine E.seq ?_
  refine E.reg hr (by simp; rfl) ?_ -- region 3
  refine E.block ?_ -- 0
  refine E.loop ?_
  refine EL.ind (fun i : Nat => S54 l ms o c o2 c2 lo hi i) (fun i => l.length - i) (fun i => i ≤ l.length ∧ (-2048000000000 ≤ aA ms i ∧ aA ms i ≤ 2048000000000) ∧ cmG l lo hi ms (l.length - i) i = cmG l lo hi ms l.length 0) 0 (.less rfl rfl rfl (by simp) (by simp)) ⟨Nat.zero_le _, ⟨by simp [aA], by simp [aA]⟩, rfl⟩ (fun _ => rfl) ?_
  rintro i ⟨hi0, ⟨ha1, ha2⟩, hg⟩
  have hw : IntKind.i64.wrap ((i : Int) + 1) = (i : Int) + 1 := W_in (by omega) (by omega)
  refine E.seq ?_
  refine E.seq ?_
  refine E.reg hr (by simp; rfl) ?_ -- region 4
  by_cases hil : i < l.length
  · have hio : i < ms.length := by omega
    have hp1 : (pkA l (i + 1)) = l[i] := pkA_succ hil
    have aI := atOk_nat hok hil
    have pI := pkI_nat l i
    rw [hp1] at pI
    have aP := atOk_pred hok (k := i) (by omega)
    have pP := pkI_pred l i
    have hwP : IntKind.i64.wrap ((i : Int) - 1) = (i : Int) - 1 := W_in (by omega) (by omega)
    have hcur : ∀ (hx : i < ms.length), ms[i] = aA ms (i + 1) := fun hx => (aA_get hx).symm
    rw [show l.length - i = (l.length - (i + 1)) + 1 by omega, cmG] at hg
    have hS : cmS l lo hi ms i = if aA ms (i + 1) < l[i].low ∨ l[i].high < aA ms (i + 1) then 24
  else if aA ms (i + 1) - aA ms i < lo * (l[i].t - (pkA l i).t) ∨ hi * (l[i].t - (pkA l i).t) < aA ms (i + 1) - aA ms i then 21 else 0 := by rw [cmS, hp1]
    refine E.cond (t := true) (by simp [hil]) (fun _ => ?_) (fun h => by cases h)
    refine E.skip ?_
    refine E.seq ?_
    refine E.block ?_ -- 1
    refine E.seq ?_
    refine E.seq ?_
    by_cases hbad : aA ms (i + 1) < l[i].low ∨ l[i].high < aA ms (i + 1)
    · rw [if_pos hbad] at hS
      rw [hS] at hg
      by_cases c1 : aA ms (i + 1) < l[i].low
      · refine E.drawC mixed hr [] [6, 15] [3, 6, 12, 15] (by kernel_rfl) (by simp [yieldedA, g126, pksAt, flat, ht, pksOf_pcs, hl', aI, pI, hio, hcur, c1]; rfl) ?_ -- region 6
        refine E.cond (t := true) (by simp) (fun _ => ?_) (fun h => by cases h)
        refine E.seq ?_
        refine E.reg hr (by simp; rfl) ?_ -- region 7
        refine E.ret ?_
        exact pureK.ret rfl rfl (by simp [← hg]) (by repeat first | exact sub_refl _ | refine sub_cons rfl ?_)
      · have c2 := hbad.resolve_left c1
        refine E.drawC mixed hr [] [6, 15] [3, 6, 12, 15] (by kernel_rfl) (by simp [yieldedA, g126, g127, pksAt, flat, ht, pksOf_pcs, hl', aI, pI, hio, hcur, c1, c2]; rfl) ?_ -- region 6
        refine E.cond (t := true) (by simp) (fun _ => ?_) (fun h => by cases h)
        refine E.seq ?_
        refine E.reg hr (by simp; rfl) ?_ -- region 7
        refine E.ret ?_
        exact pureK.ret rfl rfl (by simp [← hg]) (by repeat first | exact sub_refl _ | refine sub_cons rfl ?_)
    · rw [if_neg hbad] at hS
      have c1 : ¬ aA ms (i + 1) < l[i].low := fun e => hbad (.inl e)
      have c2' : ¬ l[i].high < aA ms (i + 1) := fun e => hbad (.inr e)
      refine E.drawC mixed hr [] [6, 15] [3, 6, 12, 15] (by kernel_rfl) (by simp [yieldedA, g126, g127, pksAt, flat, ht, pksOf_pcs, hl', aI, pI, hio, hcur, c1, c2']; rfl) ?_ -- region 6
      refine E.cond (t := false) (by simp) (fun h => by cases h) (fun _ => ?_)
      refine E.skip ?_
      obtain ⟨x1, x2, ⟨x3, x4⟩, x5, x6⟩ := hok.pkA (show i ≤ l.length by omega)
      obtain ⟨y1, y2, ⟨y3, y4⟩, y5, y6⟩ := hok.pkA (show i + 1 ≤ l.length by omega)
      rw [hp1] at y1 y2 y3 y4 y5 y6
      obtain ⟨b1, b2, b3, b4, b5⟩ := hb
      have m1 := mul_in2 b1 b2 (show -1024 ≤ l[i].t - (pkA l i).t by omega) (by omega)
      have m2 := mul_in2 b3 b4 (show -1024 ≤ l[i].t - (pkA l i).t by omega) (by omega)
      have e0 : IntKind.i64.wrap (aA ms (i + 1) - aA ms i) = aA ms (i + 1) - aA ms i := W_in (by omega) (by omega)
      have e1 : IntKind.i64.wrap (l[i].t - (pkA l i).t) = l[i].t - (pkA l i).t := W_in (by omega) (by omega)
      have e2 : IntKind.i64.wrap (lo * (l[i].t - (pkA l i).t)) = lo * (l[i].t - (pkA l i).t) := W_in (by omega) (by omega)
      have e3 : IntKind.i64.wrap (hi * (l[i].t - (pkA l i).t)) = hi * (l[i].t - (pkA l i).t) := W_in (by omega) (by omega)
      refine E.seq ?_
      refine E.reg hr (by simp; rfl) ?_ -- region 8
      refine E.cut (T54 l ms o c o2 c2 lo hi i) ?_ ?_
      · refine E.seq ?_
        rcases i with _ | j
        · refine E.reg hr (by simp; rfl) ?_ -- region 9
          refine E.cond (t := false) (by simp) (fun h => by cases h) (fun _ => ?_)
          refine E.skip ?_
          exact Leads.ren [11] rfl rfl rfl ⟨rfl, rfl⟩ (by simp [aA]) (by simp)
        · have hjo : j < ms.length := by omega
          have hjv : ∀ (hx : j < ms.length), ms[j] = aA ms (j + 1) := fun hx => (aA_get hx).symm
          have hwj : IntKind.i64.wrap (j : Int) = (j : Int) := W_in (by omega) (by omega)
          refine E.reg hr (by simp; rfl) ?_ -- region 9
          refine E.cond (t := true) (by simp <;> omega) (fun _ => ?_) (fun h => by cases h)
          refine E.reg hr (by simp [hwj, hjo, hjv]; rfl) ?_ -- region 10
          exact Leads.ren [11] rfl rfl rfl ⟨rfl, rfl⟩ (by simp) (by simp)
      refine E.seq ?_
      refine E.reg hr (by simp [g125, pksAt, flat, ht, pksOf_pcs, hl', aI, pI, hwP, aP, pP, e1]; rfl) ?_ -- region 11
      refine E.seq ?_
      by_cases hbad2 : aA ms (i + 1) - aA ms i < lo * (l[i].t - (pkA l i).t) ∨ hi * (l[i].t - (pkA l i).t) < aA ms (i + 1) - aA ms i
      · rw [if_pos hbad2] at hS
        rw [hS] at hg
        by_cases d1 : aA ms (i + 1) - aA ms i < lo * (l[i].t - (pkA l i).t)
        · refine E.drawC mixed hr [] [] [3, 7, 15, 19] (by kernel_rfl) (by simp [yieldedA, hio, hcur, e0, e2, d1]; rfl) ?_ -- region 12
          refine E.cond (t := true) (by simp) (fun _ => ?_) (fun h => by cases h)
          refine E.seq ?_
          refine E.reg hr (by simp; rfl) ?_ -- region 13
          refine E.ret ?_
          exact pureK.ret rfl rfl (by simp [← hg]) (by repeat first | exact sub_refl _ | refine sub_cons rfl ?_)
        · have d2 := hbad2.resolve_left d1
          refine E.drawC mixed hr [] [] [3, 7, 15, 19] (by kernel_rfl) (by simp [yieldedA, hio, hcur, e0, e2, e3, d1, d2]; rfl) ?_ -- region 12
          refine E.cond (t := true) (by simp) (fun _ => ?_) (fun h => by cases h)
          refine E.seq ?_
          refine E.reg hr (by simp; rfl) ?_ -- region 13
          refine E.ret ?_
          exact pureK.ret rfl rfl (by simp [← hg]) (by repeat first | exact sub_refl _ | refine sub_cons rfl ?_)
      · rw [if_neg hbad2] at hS
        rw [if_pos hS] at hg
        have d1 : ¬ aA ms (i + 1) - aA ms i < lo * (l[i].t - (pkA l i).t) := fun e => hbad2 (.inl e)
        have d2 : ¬ hi * (l[i].t - (pkA l i).t) < aA ms (i + 1) - aA ms i := fun e => hbad2 (.inr e)
        refine E.drawC mixed hr [] [] [3, 7, 15, 19] (by kernel_rfl) (by simp [yieldedA, hio, hcur, e0, e2, e3, d1, d2]; rfl) ?_ -- region 12
        refine E.cond (t := false) (by simp) (fun h => by cases h) (fun _ => ?_)
        refine E.skip ?_
        refine E.reg hr (by simp [hw]; rfl) ?_ -- region 5
        exact ⟨i + 1, Leads.ren [11] rfl rfl rfl ⟨rfl, rfl⟩ (by simp) (by simp), ⟨hil, ⟨by omega, by omega⟩, hg⟩, by dsimp only; omega⟩
  · have hie : i = l.length := by omega
    subst hie
    rw [Nat.sub_self, cmG] at hg
    refine E.cond (t := false) (by simp) (fun h => by cases h) (fun _ => ?_)
    refine E.exit ?_ -- 0
    refine E.seq ?_
    refine E.reg hr (by simp; rfl) ?_ -- region 14
    refine E.ret ?_
    exact pureK.ret rfl rfl (by simp [← hg]) (by repeat first | exact sub_refl _ | refine sub_cons rfl ?_)
instance (l : List Pk) : Decidable (PksOk l) := by unfold PksOk; infer_instance
def g54 (args : List Value) (H : Heap) (n : Nat) : R := match args with
  | [t, .agg ⟨[.int .i64 lo, .int .i64 hi]⟩, u] => match pksR H t, intsW H u with
    | some l, some ms => if PksOk l ∧ l.length ≤ 64 ∧ BndIn lo hi then some (iv (if ms.length = l.length then cmG l lo hi ms l.length 0 else 2), H, n) else none
    | _, _ => none
  | _ => none
theorem ok54 : EntOk Tryz.prog (54, g54) := by
  intro args H n v H' n' h
  simp only [g54] at h
  split at h
  · rename_i t lo hi u
    split at h
    · rename_i l ms ht hu
      split at h
      · rename_i hc
        obtain ⟨hok, h64, hb⟩ := hc
        injection h with h; injection h with e1 e2; injection e2 with e2 e3; subst e1 e2 e3
        unfold pksR at ht
        split at ht
        · injection ht with ht; subst ht
          unfold intsW at hu
          split at hu
          · injection hu with hu; subst hu
            exact AC.liftP rfl (Part.plain (by simp) [] (by simp [Seen]) gsz ⟨_, _, w54nn lo hi⟩)
          · obtain ⟨hf, hc, rfl, hlt⟩ := intsAt_ok hu
            refine AC.liftP rfl (Part.one (fun x => [.slice none 0 0, ivl lo hi, x]) (by intro φ φ0 s s0 h; simp [denL, den, h]) (by intro p s h; exact ⟨trivial, ⟨trivial, trivial, trivial⟩, h, trivial⟩) hf hc (afL_iv ms) [] (by simp [Seen]) gsz fun c0 => ?_)
            by_cases hz : ms = []
            · subst hz; exact ⟨_, _, w54ni _ c0 lo hi⟩
            · rw [if_neg (show ¬ ms.length = ([] : List Pk).length from fun e => hz (List.length_eq_zero_iff.1 e))]; exact ⟨_, _, w54nix ms _ c0 lo hi hz⟩
          · cases hu
        · obtain ⟨hf, hc, rfl, hlt⟩ := pksAt_ok ht
          unfold intsW at hu
          split at hu
          · injection hu with hu; subst hu
            refine AC.liftP rfl (Part.one (fun x => [x, ivl lo hi, .slice none 0 0]) (by intro φ φ0 s s0 h; simp [denL, den, h]) (by intro p s h; exact ⟨h, ⟨trivial, trivial, trivial⟩, trivial, trivial⟩) hf hc (afL_pcs l) [] (by simp [Seen]) gsz fun c0 => ?_)
            by_cases hz : l = []
            · subst hz; exact ⟨_, _, w54in _ c0 lo hi⟩
            · rw [if_neg (show ¬ ([] : List Int).length = l.length from fun e => hz (List.length_eq_zero_iff.1 e.symm))]; exact ⟨_, _, w54inx l _ c0 lo hi hz⟩
          · obtain ⟨hf2, hc2, rfl, hlt2⟩ := intsAt_ok hu
            refine AC.liftP rfl (Part.two (fun s u => [s, ivl lo hi, u]) bm_den bm_sc hf hc (afL_pcs l) hf2 hc2 (afL_iv ms) [] (by simp [Seen]) gsz fun c0 c02 => ?_)
            by_cases hz : ms.length = l.length
            · rw [if_pos hz]; exact ⟨_, _, w54ii l ms _ c0 _ c02 lo hi hok h64 hb hz⟩
            · rw [if_neg hz]; exact ⟨_, _, w54iix l ms _ c0 _ c02 lo hi hz⟩
          · cases hu
        · cases ht
      · cases h
    · cases h
  · cases h
end Go.Proofs.YtkongcnmkiihjaaGreatDoor

namespace Go.Proofs.YtkongcnmkiihjaaGreatDoor
open Go Go.Ab Go.Proofs
/-! ### lowest terms -/
def gcdI (a b : Int) : Int := (Nat.gcd a.natAbs b.natAbs : Nat)
theorem build96 {fr : Fr} {H : Heap} {n : Nat} {x y : Operand} {a b : Int} (hx : evO Tryz.prog fr x = some (iv a)) (hy : evO Tryz.prog fr y = some (iv b)) : opBuild Tryz.prog 96 #[(0, x), (1, y)] fr H n = some (.agg #[iv a, iv b], H, n) := by
  unfold opBuild
  simp only [evPs_cons, evPs_nil, hx, hy]
  kernel_rfl
theorem gcd_pos {a b : Int} (hb : 1 ≤ b) : 1 ≤ gcdI a b := by
  unfold gcdI
  have : 0 < Nat.gcd a.natAbs b.natAbs := Nat.gcd_pos_of_pos_right _ (by omega)
  omega
theorem tdiv_bound {a g : Int} (_hg : 1 ≤ g) (h : -4611686018427387904 ≤ a ∧ a ≤ 4611686018427387904) : IntKind.i64.wrap (a.tdiv g) = a.tdiv g := by
  have h1 : (a.tdiv g).natAbs ≤ a.natAbs := by rw [Int.natAbs_tdiv]; exact Nat.div_le_self _ _
  exact W_in (by omega) (by omega)
abbrev ratV (a b : Int) : Value := .agg ⟨[iv (a.tdiv (gcdI a b)), iv (b.tdiv (gcdI a b))]⟩
set_option maxRecDepth 100000 in
theorem w124 (a b : Int) (ha : -4611686018427387904 ≤ a ∧ a ≤ 4611686018427387904) (hb : 1 ≤ b ∧ b ≤ 4611686018427387904) : AC Tryz.prog 124 [iv a, iv b] [] 9 (ratV a b) [] 9 := by
  have hr := recT_ok (P := Tryz.prog) (l := []) (by simp)
  have hn : IntKind.i64.wrap (-a) = -a := W_in (by omega) (by omega)
  have hm : max a (-a) = (a.natAbs : Int) := by omega
  have hbn : b = (b.natAbs : Int) := by omega
  have hg := gcd_pos (a := a) hb.1
  refine AC.pure Tryz.func124 rfl (by kernel_rfl) rfl [0, 1, 4, 5, 6] rfl ?_
  refine E.seq ?_
  refine E.reg hr (by simp; rfl) ?_ -- region 0
  refine E.seq ?_
  refine E.reg hr (by simp [max33, hn, hm]; rfl) ?_ -- region 1
  refine E.seq ?_
  refine E.block ?_ -- 0
  refine E.loop ?_
  refine EL.ind (fun x : Nat × Nat => { fr := [(0, iv a), (1, iv b), (4, .pointer (some ⟨9, 0, none⟩)), (5, iv x.1), (6, iv x.2)], sz := 25, H := [(9, .cells [iv 0, iv 0] 96)], n := 10, marks := [], vs := [0, 1, 4, 5, 6] }) (fun x => x.2) (fun x => (Nat.gcd x.1 x.2 : Int) = gcdI a b) (a.natAbs, b.natAbs) (.less rfl rfl rfl (by simp [← hbn]) (by simp)) rfl (fun _ => rfl) ?_
  intro ⟨p, q⟩ hgood
  dsimp only at hgood
  refine E.seq ?_
  refine E.seq ?_
  refine E.reg hr (by simp; rfl) ?_ -- region 2
  refine E.cond (by rfl) (fun h => ?_) (fun h => ?_)
  · simp at h
    have hq : (q : Int) ≠ 0 := by omega
    have hmod : (p : Int).tmod (q : Int) = ((p % q : Nat) : Int) := by
      rw [Int.tmod_eq_emod_of_nonneg (by omega)]
      exact (Int.natCast_emod p q).symm
    refine E.skip ?_
    refine E.block ?_ -- 1
    refine E.drawC mixed hr [] [] [] (by kernel_rfl) (by simp [bin_rem hq, hmod]; rfl) ?_ -- region 3
    refine ⟨(q, p % q), .less rfl rfl rfl (by simp) (by simp), ?_, ?_⟩
    · dsimp only
      rw [← hgood, Nat.gcd_comm q, ← Nat.gcd_rec, Nat.gcd_comm]
    · exact Nat.mod_lt _ (by omega)
  · simp at h
    subst h
    have hp : (p : Int) = gcdI a b := by simpa using hgood
    have hp0 : (p : Int) ≠ 0 := by omega
    have e1 : IntKind.i64.wrap (a.tdiv (p : Int)) = a.tdiv (p : Int) := tdiv_bound (by omega) ha
    have e2 : IntKind.i64.wrap (b.tdiv (p : Int)) = b.tdiv (p : Int) := tdiv_bound (by omega) (by omega)
    refine E.exit ?_ -- 0
    refine E.seq ?_
    refine E.drawC mixed hr [7] [7] [7] (by kernel_rfl) (by simp [bin_quo hp0, e1, e2, build96]; rfl) ?_ -- region 4
    refine E.ret ?_
    exact pureK.ret rfl rfl (by simp [← hp]; kernel_rfl) (by repeat first | exact sub_refl _ | refine sub_cons rfl ?_)
theorem w166 (a b : Int) (ha : -4611686018427387904 ≤ a ∧ a ≤ 4611686018427387904) (hb : 1 ≤ b ∧ b ≤ 4611686018427387904) : AC Tryz.prog 166 [iv a, iv b] [] 9 (iv (gcdI a b)) [] 9 := by
  have hr := recT_ok (P := Tryz.prog) (l := []) (by simp)
  refine AC.pure Tryz.func166 rfl (by kernel_rfl) rfl [0, 1] rfl ?_
  refine E.seq ?_
  refine E.reg hr (by simp; rfl) ?_ -- region 0
  refine E.seq ?_
  refine E.block ?_ -- 0
  refine E.loop ?_
  refine EL.ind (fun x : Int × Int => { fr := [(0, iv x.1), (1, iv x.2)], sz := 16, H := [], n := 9, marks := [], vs := [0, 1] }) (fun x => x.2.natAbs) (fun x => gcdI x.1 x.2 = gcdI a b ∧ x.1.natAbs ≤ 4611686018427387904 ∧ x.2.natAbs ≤ 4611686018427387904) (a, b) (.less rfl rfl rfl (by simp) (by simp)) ⟨rfl, by dsimp only; omega, by dsimp only; omega⟩ (fun _ => rfl) ?_
  intro ⟨p, q⟩ ⟨hgood, hpb, hqb⟩
  dsimp only at hgood hpb hqb
  refine E.seq ?_
  refine E.seq ?_
  refine E.reg hr (by simp; rfl) ?_ -- region 1
  refine E.cond (by rfl) (fun h => ?_) (fun h => ?_)
  · simp at h
    have hna : (p.tmod q).natAbs = p.natAbs % q.natAbs := Int.natAbs_tmod ..
    refine E.skip ?_
    refine E.block ?_ -- 1
    refine E.drawC mixed hr [] [] [] (by kernel_rfl) (by simp [bin_rem h]; rfl) ?_ -- region 2
    have hlt : p.natAbs % q.natAbs < q.natAbs := Nat.mod_lt _ (by omega)
    refine ⟨(q, p.tmod q), .less rfl rfl rfl (by simp) (by simp), ⟨?_, ?_, ?_⟩, ?_⟩
    · dsimp only
      rw [← hgood]
      unfold gcdI
      rw [hna, Nat.gcd_comm q.natAbs, ← Nat.gcd_rec, Nat.gcd_comm]
    · dsimp only
      omega
    · dsimp only
      omega
    · dsimp only
      omega
  · simp at h
    subst h
    have hp : (p.natAbs : Int) = gcdI a b := by rw [← hgood]; simp [gcdI]
    refine E.exit ?_ -- 0
    refine E.seq ?_
    refine E.seq ?_
    refine E.reg hr (by simp; rfl) ?_ -- region 3
    refine E.cond (by rfl) (fun h2 => ?_) (fun h2 => ?_)
    · simp at h2
      have hw : IntKind.i64.wrap (-p) = -p := W_in (by omega) (by omega)
      refine E.seq ?_
      refine E.reg hr (by simp [hw]; rfl) ?_ -- region 4
      refine E.ret ?_
      exact pureK.ret rfl rfl (by rw [← hp]; simp; omega) (by repeat first | exact sub_refl _ | refine sub_cons rfl ?_)
    · simp at h2
      refine E.skip ?_
      refine E.seq ?_
      refine E.reg hr (by simp; rfl) ?_ -- region 5
      refine E.ret ?_
      exact pureK.ret rfl rfl (by rw [← hp]; simp; omega) (by repeat first | exact sub_refl _ | refine sub_cons rfl ?_)
/-! ### lowest terms, as entries -/
def ratB (a b : Int) : Prop := (-4611686018427387904 ≤ a ∧ a ≤ 4611686018427387904) ∧ (1 ≤ b ∧ b ≤ 4611686018427387904)
instance (a b : Int) : Decidable (ratB a b) := by unfold ratB; infer_instance
def gRat (F : Int → Int → Value) (args : List Value) (H : Heap) (n : Nat) : R := match args with
  | [.int .i64 a, .int .i64 b] => if ratB a b then some (F a b, H, n) else none
  | _ => none
theorem okRat {f : FuncId} {F : Int → Int → Value} (hF : ∀ a b, af (F a b) = true) (h : ∀ a b, (-4611686018427387904 ≤ a ∧ a ≤ 4611686018427387904) → (1 ≤ b ∧ b ≤ 4611686018427387904) → AC Tryz.prog f [iv a, iv b] [] 9 (F a b) [] 9) : EntOk Tryz.prog (f, gRat F) := by
  intro args H n v H' n' h'
  simp only [gRat] at h'
  split at h'
  · split at h'
    · rename_i hc
      injection h' with h'; injection h' with e1 e2; injection e2 with e2 e3; subst e1 e2 e3
      exact AC.liftP (hF _ _) (Part.plain (by simp) [] (by simp [Seen]) gsz ⟨_, _, h _ _ hc.1 hc.2⟩)
    · cases h'
  · cases h'
theorem ok124 : EntOk Tryz.prog (124, gRat ratV) := okRat (fun _ _ => rfl) w124
theorem ok166 : EntOk Tryz.prog (166, gRat fun a b => iv (gcdI a b)) := okRat (fun _ _ => rfl) w166
set_option maxRecDepth 100000 in
theorem w128 (a b : Int) (ha : -4611686018427387904 ≤ a ∧ a ≤ 4611686018427387904) (hb : 1 ≤ b ∧ b ≤ 4611686018427387904) : AC Tryz.prog 128 [iv a, iv b] [] 9 (ratV a b) [] 9 := by
  have hr := recT_ok (P := Tryz.prog) (l := [(166, gRat fun a b => iv (gcdI a b))]) (by simp only [List.forall_mem_cons]; exact ⟨ok166, by simp⟩)
  have hg := gcd_pos (a := a) hb.1
  have hg0 : gcdI a b ≠ 0 := by omega
  have hbn : ¬ b < 0 := by omega
  have hrb : ratB a b := ⟨ha, hb⟩
  have e1 : IntKind.i64.wrap (a.tdiv (gcdI a b)) = a.tdiv (gcdI a b) := tdiv_bound hg ha
  have e2 : IntKind.i64.wrap (b.tdiv (gcdI a b)) = b.tdiv (gcdI a b) := tdiv_bound hg (by omega)
  refine AC.pure Tryz.func128 rfl (by kernel_rfl) rfl [] rfl ?_
  refine E.seq ?_
  refine E.reg hr (by simp; rfl) ?_ -- region 0
  refine E.seq ?_
  refine E.seq ?_
  refine E.reg hr (by simp [hbn]; rfl) ?_ -- region 1
  refine E.cond (by rfl) (fun h => ?_) (fun h => ?_)
  · simp at h
  refine E.skip ?_
  refine E.seq ?_
  refine E.reg hr (by simp [gRat, hrb]; rfl) ?_ -- region 3
  refine E.seq ?_
  refine E.drawC mixed hr [7] [7] [7] (by kernel_rfl) (by simp [bin_quo hg0, e1, e2, build96]; rfl) ?_ -- region 4
  refine E.ret ?_
  exact pureK.ret rfl rfl (by simp; kernel_rfl) (by repeat first | exact sub_refl _ | refine sub_cons rfl ?_)
theorem ok128 : EntOk Tryz.prog (128, gRat ratV) := okRat (fun _ _ => rfl) w128
end Go.Proofs.YtkongcnmkiihjaaGreatDoor

namespace Go.Proofs.YtkongcnmkiihjaaGreatDoor
open Go Go.Ab Go.Proofs
attribute [simp] run_vcall_tmp vcallF target
/-! ### every moment within its range -/
def winM (x : Int) : Int := withinV x (-1099511627776) 1099511627776
theorem w123 (x : Int) : AC Tryz.prog 123 [iv x] [] 9 (iv (winM x)) [] 9 := by
  have hr := recT_ok (P := Tryz.prog) (l := [(91, g91)]) (by simp [ok91])
  refine AC.pure Tryz.func123 rfl (by kernel_rfl) rfl [] rfl ?_
  refine E.seq ?_
  refine E.reg hr (by simp; rfl) ?_ -- region 0
  refine E.seq ?_
  refine E.reg hr (by simp [g91]; rfl) ?_ -- region 1
  refine E.ret ?_
  exact pureK.ret rfl rfl (by simp [winM]) (by repeat first | exact sub_refl _ | refine sub_cons rfl ?_)
def g123 (args : List Value) (H : Heap) (n : Nat) : R := match args with
  | [.int .i64 x] => some (iv (winM x), H, n)
  | _ => none
theorem ok123 : EntOk Tryz.prog (123, g123) := by
  intro args H n v H' n' h
  simp only [g123] at h
  split at h
  · injection h with h; injection h with e1 e2; injection e2 with e2 e3; subst e1 e2 e3
    exact AC.liftP rfl (Part.plain (by simp) [] (by simp [Seen]) gsz ⟨_, _, w123 _⟩)
  · cases h
abbrev f123 : Value := .func (.func 123) #[] #[]
def winT (l : List Int) (i : Nat) : List Int := (l.map winM).take i
theorem winT_length {l : List Int} {i : Nat} (h : i ≤ l.length) : (winT l i).length = i := by simp [winT]; omega
theorem winT_succ {l : List Int} {i : Nat} (h : i < l.length) : winT l i ++ [winM l[i]] = winT l (i + 1) := by
  unfold winT
  rw [List.take_succ_eq_append_getElem (by simpa using h)]
  simp
theorem winT_all (l : List Int) : winT l l.length = l.map winM := List.take_of_length_le (by simp)
def S104 (l : List Int) : Nat → St
  | 0 => { fr := [(1, f123), (5, .slice none 0 0), (8, rowM 9 l.length), (9, iv l.length), (10, iv 0)], sz := 22, H := [(9, .row (ic l) 1)], n := 10, marks := [], vs := [1, 5, 8, 9, 10] }
  | i + 1 => { fr := [(1, f123), (5, .slice (some ⟨10, 0, some 0⟩) (i + 1) 0), (8, rowM 9 l.length), (9, iv l.length), (10, iv (i + 1 : Nat))], sz := 22, H := [(10, .ext (ic (winT l (i + 1))) 29 1), (9, .row (ic l) 1)], n := 11, marks := [], vs := [1, 5, 8, 9, 10] }
def errQ (b : Nat) (l : List Int) (v : Value) (H : Heap) : Prop := ∃ m, v = .slice (some ⟨m, 0, some 0⟩) l.length 0 ∧ hget H m = some (.ext (ic l) 29 1) ∧ b ≤ m
set_option maxRecDepth 20000 in
theorem w104 (l : List Int) (hne : l ≠ []) (hl : l.length ≤ 4096) : ∃ u H1 n1 H2, AC Tryz.prog 104 [rowM 9 l.length, f123] [(9, .row (ic l) 1)] 10 u H1 n1 ∧ errQ 10 (l.map winM) u H2 ∧ (af u = false → H1 = H2) := by
  have hr := recT_ok (P := Tryz.prog) (l := [(123, g123)]) (by simp [ok123])
  have hpos : 0 < l.length := List.length_pos_iff.2 hne
  refine AC.out Tryz.func104 rfl (by kernel_rfl) rfl [1, 5, 8, 9, 10] ?_
  refine E.seq ?_
  refine E.reg hr (by simp; rfl) ?_ -- region 0
  refine E.seq ?_
  refine E.reg hr (by simp; rfl) ?_ -- region 1
  refine E.seq ?_
  refine E.seq ?_
  refine E.reg hr (by simp; rfl) ?_ -- region 2
  refine E.block ?_ -- 0
  refine E.loop ?_
  refine EL.ind (S104 l) (fun i => l.length - i) (fun i => i ≤ l.length) 0 (.less rfl rfl rfl (by simp [S104]) (by simp [S104])) (Nat.zero_le _) (fun i => by cases i <;> rfl) ?_
  intro i hi
  rcases i with _ | i
  · have hw : IntKind.i64.wrap 1 = 1 := W_in (by omega) (by omega)
    have hts : ic (winT l 1) = [iv (winM l[0])] := by rw [← winT_succ hpos]; simp [winT, ic]
    refine E.seq ?_
    refine E.reg hr (by simp [S104]; rfl) ?_ -- region 3
    refine E.seq ?_
    refine E.cond (t := true) (by simp; omega) (fun _ => ?_) (fun h => by cases h)
    refine E.skip ?_
    refine E.seq ?_
    refine E.block ?_ -- 1
    refine E.seq ?_
    refine E.reg hr (by simp [hpos]; rfl) ?_ -- region 4
    refine E.reg hr (by simp [g123]; rfl) ?_ -- region 5
    refine E.reg hr (by simp [hw]; rfl) ?_ -- region 6
    exact ⟨1, Leads.ren [11] rfl rfl rfl ⟨rfl, rfl⟩ (by simp [S104]) (by simp [S104, hts]), by omega, by dsimp only; omega⟩
  · have hw : IntKind.i64.wrap ((i : Int) + 1 + 1) = (i : Int) + 1 + 1 := W_in (by omega) (by omega)
    have hlen : (winT l (i + 1)).length = i + 1 := winT_length hi
    have ht : List.take (i + 1) (ic (winT l (i + 1))) = ic (winT l (i + 1)) := ic_take (by omega)
    refine E.seq ?_
    refine E.reg hr (by simp [S104]; rfl) ?_ -- region 3
    refine E.seq ?_
    by_cases h1 : i + 1 < l.length
    · have hI : (i : Int) + 1 < l.length := by omega
      have hsm : (i + 1 + 1) * 8 ≤ 1099511627776 ∧ i + 1 + 1 ≤ 1099511627776 := by omega
      have hsn := ic_snoc (winT l (i + 1)) (winM l[i + 1])
      rw [winT_succ h1] at hsn
      refine E.cond (t := true) (by simp; omega) (fun _ => ?_) (fun h => by cases h)
      refine E.skip ?_
      refine E.seq ?_
      refine E.block ?_ -- 1
      refine E.seq ?_
      refine E.reg hr (by simp [h1, hI]; rfl) ?_ -- region 4
      refine E.reg hr (by simp [g123, hsm, ht, hlen, hsn]; rfl) ?_ -- region 5
      refine E.reg hr (by simp [hw]; rfl) ?_ -- region 6
      exact ⟨i + 1 + 1, Leads.ren [12] rfl rfl rfl ⟨rfl, rfl⟩ (by simp [S104]) (by simp [S104]), by omega, by dsimp only; omega⟩
    · have hll : l.length = i + 1 := by omega
      have hal : winT l (i + 1) = l.map winM := by rw [← hll]; exact winT_all l
      refine E.cond (t := false) (by simp; omega) (fun h => by cases h) (fun _ => ?_)
      refine E.exit ?_ -- 0
      refine E.seq ?_
      refine E.reg hr (by simp; rfl) ?_ -- region 7
      refine E.ret ?_
      refine outK.ret rfl rfl ?_
      exact ⟨10, by simp [hll], by simp [hal], by omega⟩
theorem w104e (c : Nat) : AC Tryz.prog 104 [.slice (some ⟨9, 0, none⟩) 0 c, f123] [(9, .inp 0 [])] 10 (.slice none 0 0) [(9, .inp 0 [])] 10 := by
  have hr := recT_ok (P := Tryz.prog) (l := []) (by simp)
  refine AC.pure Tryz.func104 rfl (by kernel_rfl) rfl [1, 5, 8, 9, 10] rfl ?_
  refine E.seq ?_
  refine E.reg hr (by simp; rfl) ?_ -- region 0
  refine E.seq ?_
  refine E.reg hr (by simp; rfl) ?_ -- region 1
  refine E.seq ?_
  refine E.seq ?_
  refine E.reg hr (by simp; rfl) ?_ -- region 2
  refine E.block ?_ -- 0
  refine E.loop ?_
  refine EL.step ?_
  refine E.seq ?_
  refine E.reg hr (by simp; rfl) ?_ -- region 3
  refine E.seq ?_
  refine E.cond (t := false) (by simp) (fun h => by cases h) (fun _ => ?_)
  refine E.exit ?_ -- 0
  refine E.seq ?_
  refine E.reg hr (by simp; rfl) ?_ -- region 7
  refine E.ret ?_
  exact pureK.ret rfl rfl (by simp) (by repeat first | exact sub_refl _ | refine sub_cons rfl ?_)
def g104 (args : List Value) (H : Heap) (n : Nat) : R := match args with
  | [.slice (some ⟨b, 0, none⟩) 0 _, .func (.func 123) ⟨[]⟩ ⟨[]⟩] => match cellsA H b 0 0 with
    | some [] => some (.slice none 0 0, H, n)
    | _ => none
  | [.slice (some ⟨b, 0, some 0⟩) len 0, .func (.func 123) ⟨[]⟩ ⟨[]⟩] => match rowIntsN H b len with
    | some l => if l.length ≤ 4096 then some (.slice (some ⟨n, 0, some 0⟩) l.length 0, (n, .ext (ic (l.map winM)) 29 1) :: H, n + 1) else none
    | none => none
  | _ => none
theorem ok104 : EntOk Tryz.prog (104, g104) := by
  intro args H n v H' n' h
  simp only [g104] at h
  split at h
  · rename_i b c
    split at h
    · rename_i hc
      injection h with h; injection h with e1 e2; injection e2 with e2 e3; subst e1 e2 e3
      exact AC.liftP rfl (Part.one (fun x => [x, f123]) (by intro φ φ0 s s0 h; simp [denL, den, h]) (by intro p s h; exact ⟨h, ⟨trivial, trivial⟩, trivial⟩) (a := ⟨b, 0, none⟩) rfl hc rfl [] (by simp [Seen]) gsz fun c0 => ⟨_, _, w104e c0⟩)
    · cases h
  · rename_i b len
    split at h
    · rename_i l hl
      split at h
      · rename_i h4
        injection h with h; injection h with e1 e2; injection e2 with e2 e3; subst e1 e2 e3
        obtain ⟨hb, rfl, hlt, hne⟩ := rowIntsN_ok hl
        refine AC.liftF (names_sx _ _) (.inr ⟨_, _, _, rfl, afL_iv _⟩) (Part.row (fun x => [x, f123]) (by intro φ φ0 s s0 h; simp [denL, den, h]) (by intro p s h; exact ⟨h, ⟨trivial, trivial⟩, trivial⟩) hb (afL_iv l) gsz ?_)
        obtain ⟨u, H1, n1, H2, hAC, ⟨m, hu, hm, hle⟩, hh⟩ := w104 l hne h4
        subst hu
        rw [List.length_map] at hAC hh
        have := hh (by simp)
        subst this
        exact ⟨m, _, _, hle, hm, hAC⟩
      · cases h
    · cases h
  · cases h
/-! ### the first error, of none as well -/
theorem w90n : AC Tryz.prog 90 [.slice none 0 0] [] 9 (iv 0) [] 9 := by
  have hr := recT_ok (P := Tryz.prog) (l := []) (by simp)
  refine AC.pure Tryz.func90 rfl (by kernel_rfl) rfl [5, 6, 7] rfl ?_
  refine E.seq ?_
  refine E.reg hr (by simp; rfl) ?_ -- region 0
  refine E.seq ?_
  refine E.seq ?_
  refine E.reg hr (by simp; rfl) ?_ -- region 1
  refine E.block ?_ -- 0
  refine E.loop ?_
  refine EL.step ?_
  refine E.seq ?_
  refine E.reg hr (by simp; rfl) ?_ -- region 2
  refine E.seq ?_
  refine E.cond (t := false) (by simp) (fun h => by cases h) (fun _ => ?_)
  refine E.exit ?_ -- 0
  refine E.seq ?_
  refine E.reg hr (by simp; rfl) ?_ -- region 7
  refine E.ret ?_
  exact pureK.ret rfl rfl (by simp) (by repeat first | exact sub_refl _ | refine sub_cons rfl ?_)
def g90b (args : List Value) (H : Heap) (n : Nat) : R := match args with
  | [.slice none 0 0] => some (iv 0, H, n)
  | a => g90 a H n
theorem ok90b : EntOk Tryz.prog (90, g90b) := by
  intro args H n v H' n' h
  simp only [g90b] at h
  split at h
  · injection h with h; injection h with e1 e2; injection e2 with e2 e3; subst e1 e2 e3
    exact AC.liftP rfl (Part.plain (by simp) [] (by simp [Seen]) gsz ⟨_, _, w90n⟩)
  · exact ok90 _ _ _ _ _ _ h
end Go.Proofs.YtkongcnmkiihjaaGreatDoor

namespace Go.Proofs.YtkongcnmkiihjaaGreatDoor
open Go Go.Ab Go.Proofs
/-! ### layers: the program -/
theorem pksE_strict {l : List Pk} (h : pksE l = 0) {k : Nat} (hk : k < l.length) : (pkA l k).t < (pkA l (k + 1)).t := by
  unfold pksE at h
  split at h
  · cases h
  · have := pfE_rise l 0 h k hk
    rw [pkA_succ hk]
    cases k with
    | zero =>
      show (0 : Int) < _
      simp only [if_true] at this
      omega
    | succ j =>
      rw [pkA_succ (by omega)]
      simp at this
      omega
theorem firstV_zero : ∀ (es : List Int), firstV es = 0 → ∀ e ∈ es, e = 0
  | [], _, e, h => by cases h
  | x :: es, h0, e, h => by
    rw [firstV] at h0
    by_cases hx : x = 0
    · rw [if_pos hx] at h0
      rcases List.mem_cons.1 h with rfl | h
      · exact hx
      · exact firstV_zero es h0 e h
    · rw [if_neg hx] at h0; exact absurd h0 hx
def layE (l : List Pk) (ms : List Int) : Int := firstV [pksE l, whenV (decide (ms.length ≠ l.length)) 2, firstV (ms.map winM)]
theorem layE_zero {l : List Pk} {ms : List Int} (h : layE l ms = 0) : pksE l = 0 ∧ ms.length = l.length ∧ ∀ x ∈ ms, -1099511627776 ≤ x ∧ x ≤ 1099511627776 := by
  have hz := firstV_zero _ h
  have h1 := hz (pksE l) (by simp)
  have h2 := hz (whenV (decide (ms.length ≠ l.length)) 2) (by simp)
  have h3 := hz (firstV (ms.map winM)) (by simp)
  refine ⟨h1, ?_, fun x hx => ?_⟩
  · by_cases h4 : ms.length = l.length
    · exact h4
    · simp [whenV, h4] at h2
  · have := firstV_zero _ h3 (winM x) (List.mem_map_of_mem hx)
    unfold winM withinV at this
    split at this
    · cases this
    · omega
/-- ratios, as they lie -/
def rcs (l : List (Int × Int)) : List Value := l.flatMap fun p => [iv p.1, iv p.2]
@[simp] theorem rcs_length (l : List (Int × Int)) : (rcs l).length = l.length * 2 := by
  induction l with
  | nil => rfl
  | cons a l ih => simp [rcs] at ih ⊢; omega
theorem afL_rcs (l : List (Int × Int)) : afL (rcs l) = true := by
  induction l with
  | nil => rfl
  | cons a l ih => simp [rcs, afL] at ih ⊢; exact ih
@[simp] theorem renL_rcs (ρ : Nat → Nat) (l : List (Int × Int)) : renL ρ (rcs l) = rcs l := by
  rw [renL_eq]
  induction l with
  | nil => rfl
  | cons a l ih =>
    show ([iv a.1, iv a.2] ++ rcs l).map (ren ρ) = [iv a.1, iv a.2] ++ rcs l
    rw [List.map_append, ih]; rfl
@[simp] theorem scL_rcs (p : Nat → Prop) (l : List (Int × Int)) : scL p (rcs l) := scL_af p _ (afL_rcs l)
theorem rcs_snoc (a : List (Int × Int)) (x : Int × Int) : rcs a ++ [iv x.1, iv x.2] = rcs (a ++ [x]) := by simp [rcs]
def ratP (a b : Int) : Int × Int := (a.tdiv (gcdI a b), b.tdiv (gcdI a b))
def layP (l : List Pk) (ms : List Int) (i : Nat) : Int × Int := ratP (aA ms (i + 1) - aA ms i) ((pkA l (i + 1)).t - (pkA l i).t)
def layL (l : List Pk) (ms : List Int) : List (Int × Int) := (List.range l.length).map (layP l ms)
@[simp] theorem layL_length (l : List Pk) (ms : List Int) : (layL l ms).length = l.length := by simp [layL]
def layT (l : List Pk) (ms : List Int) (i : Nat) : List (Int × Int) := (List.range i).map (layP l ms)
@[simp] theorem layT_length (l : List Pk) (ms : List Int) (i : Nat) : (layT l ms i).length = i := by simp [layT]
theorem layT_succ (l : List Pk) (ms : List Int) (i : Nat) : layT l ms i ++ [layP l ms i] = layT l ms (i + 1) := by simp [layT, List.range_succ]
theorem intsOf_ic (l : List Int) : intsOf (ic l) = some l := intsOf_iv l
theorem w49nnx (c : Nat) (h : layE [] [] ≠ 0) : AC Tryz.prog 49 [.slice none 0 0, .slice (some ⟨9, 0, none⟩) 0 c] [(9, .inp 0 [])] 10 (.tuple #[.slice none 0 0, iv (layE [] [])]) [(9, .inp 0 [])] 10 := by
  have hr := recT_ok (P := Tryz.prog) (l := [(56, g56), (96, g96), (104, g104), (90, g90b)]) (by simp [ok56, ok96, ok104, ok90b])
  have hE : firstV [pksE [], whenV false 2, 0] = layE [] [] := by simp [layE, whenV, firstV]
  refine AC.pure Tryz.func49 rfl (by kernel_rfl) rfl [1, 7, 8, 9, 28, 29, 30] rfl ?_
  refine E.seq ?_
  refine E.reg hr (by simp; rfl) ?_ -- region 0
  refine E.seq ?_
  refine E.seq ?_
  refine E.reg hr (by simp [g56, pksP, g96, g104, g90b, g90, intsAt, intsOf, hE]; rfl) ?_ -- region 1
  refine E.seq ?_
  refine E.reg hr (by simp; rfl) ?_ -- region 2
  refine E.cond (t := true) (by simp [h]) (fun _ => ?_) (fun h => by cases h)
  refine E.seq ?_
  refine E.reg hr (by simp; rfl) ?_ -- region 3
  refine E.ret ?_
  exact pureK.ret rfl rfl (by simp) (by repeat first | exact sub_refl _ | refine sub_cons rfl ?_)
theorem w49nrx (ms : List Int) (hne : ms ≠ []) (hm : ms.length ≤ 4096) (h : layE [] ms ≠ 0) : AC Tryz.prog 49 [.slice none 0 0, rowM 9 ms.length] [(9, .row (ic ms) 1)] 10 (.tuple #[.slice none 0 0, iv (layE [] ms)]) [(9, .row (ic ms) 1)] 10 := by
  have hr := recT_ok (P := Tryz.prog) (l := [(56, g56), (96, g96), (104, g104), (90, g90b)]) (by simp [ok56, ok96, ok104, ok90b])
  have hm' : ms.length < 2147483648 := by omega
  have ht : List.take ms.length (ic (ms.map winM)) = ic (ms.map winM) := List.take_of_length_le (by simp)
  have hE : firstV [pksE [], whenV true 2, firstV (ms.map winM)] = layE [] ms := by simp [layE, whenV, hne]
  refine AC.pure Tryz.func49 rfl (by kernel_rfl) rfl [1, 7, 8, 9, 28, 29, 30] rfl ?_
  refine E.seq ?_
  refine E.reg hr (by simp; rfl) ?_ -- region 0
  refine E.seq ?_
  refine E.seq ?_
  refine E.reg hr (by simp [g56, pksP, g96, g104, g90b, g90, intsAt, intsOf, hE, rowIntsN, rowInts, rowOf, intsOf_ic, hne, hm, hm', ht]; rfl) ?_ -- region 1
  refine E.seq ?_
  refine E.reg hr (by simp; rfl) ?_ -- region 2
  refine E.cond (t := true) (by simp [h]) (fun _ => ?_) (fun h => by cases h)
  refine E.seq ?_
  refine E.reg hr (by simp; rfl) ?_ -- region 3
  refine E.ret ?_
  exact pureK.ret rfl rfl (by simp) (by repeat first | exact sub_refl _ | refine sub_cons rfl ?_)
theorem w49rnx (l : List Pk) (c : Nat) (hl : l.length < 2 ^ 63) (h : layE l [] ≠ 0) : AC Tryz.prog 49 [rowV l.length, .slice (some ⟨10, 0, none⟩) 0 c] [(10, .inp 0 []), (9, .row (pcs l) 3)] 11 (.tuple #[.slice none 0 0, iv (layE l [])]) [(10, .inp 0 []), (9, .row (pcs l) 3)] 11 := by
  have hr := recT_ok (P := Tryz.prog) (l := [(56, g56), (96, g96), (104, g104), (90, g90b)]) (by simp [ok56, ok96, ok104, ok90b])
  have hl' : l.length < 9223372036854775808 := by omega
  have e : ((0 : Int) = l.length) ↔ ([] : List Int).length = l.length := by simp only [List.length_nil]; omega
  have hE : firstV [pksE l, whenV (!decide ((0 : Int) = l.length)) 2, 0] = layE l [] := by simp only [layE, whenV, e, decide_not, List.map_nil, firstV]
  refine AC.pure Tryz.func49 rfl (by kernel_rfl) rfl [1, 7, 8, 9, 28, 29, 30] rfl ?_
  refine E.seq ?_
  refine E.reg hr (by simp; rfl) ?_ -- region 0
  refine E.seq ?_
  refine E.seq ?_
  refine E.reg hr (by simp [g56, pksP, g96, g104, g90b, g90, intsAt, intsOf, hE, rowPks, rowOf, pksOf_pcs, hl']; rfl) ?_ -- region 1
  refine E.seq ?_
  refine E.reg hr (by simp; rfl) ?_ -- region 2
  refine E.cond (t := true) (by simp [h]) (fun _ => ?_) (fun h => by cases h)
  refine E.seq ?_
  refine E.reg hr (by simp; rfl) ?_ -- region 3
  refine E.ret ?_
  exact pureK.ret rfl rfl (by simp) (by repeat first | exact sub_refl _ | refine sub_cons rfl ?_)
theorem w49rrx (l : List Pk) (ms : List Int) (hl : l.length < 2 ^ 63) (hne : ms ≠ []) (hm : ms.length ≤ 4096) (h : layE l ms ≠ 0) : AC Tryz.prog 49 [rowV l.length, rowM 10 ms.length] [(10, .row (ic ms) 1), (9, .row (pcs l) 3)] 11 (.tuple #[.slice none 0 0, iv (layE l ms)]) [(10, .row (ic ms) 1), (9, .row (pcs l) 3)] 11 := by
  have hr := recT_ok (P := Tryz.prog) (l := [(56, g56), (96, g96), (104, g104), (90, g90b)]) (by simp [ok56, ok96, ok104, ok90b])
  have hl' : l.length < 9223372036854775808 := by omega
  have hm' : ms.length < 2147483648 := by omega
  have ht : List.take ms.length (ic (ms.map winM)) = ic (ms.map winM) := List.take_of_length_le (by simp)
  have e : ((ms.length : Int) = l.length) ↔ ms.length = l.length := by omega
  have hE : firstV [pksE l, whenV (!decide ((ms.length : Int) = (l.length : Int))) 2, firstV (ms.map winM)] = layE l ms := by simp only [layE, whenV, e, decide_not]
  refine AC.pure Tryz.func49 rfl (by kernel_rfl) rfl [1, 7, 8, 9, 28, 29, 30] rfl ?_
  refine E.seq ?_
  refine E.reg hr (by simp; rfl) ?_ -- region 0
  refine E.seq ?_
  refine E.seq ?_
  refine E.reg hr (by simp [g56, pksP, g96, g104, g90b, g90, intsAt, intsOf, hE, rowPks, rowOf, pksOf_pcs, hl', rowIntsN, rowInts, rowOf, intsOf_ic, hne, hm, hm', ht]; rfl) ?_ -- region 1
  refine E.seq ?_
  refine E.reg hr (by simp; rfl) ?_ -- region 2
  refine E.cond (t := true) (by simp [h]) (fun _ => ?_) (fun h => by cases h)
  refine E.seq ?_
  refine E.reg hr (by simp; rfl) ?_ -- region 3
  refine E.ret ?_
  exact pureK.ret rfl rfl (by simp) (by repeat first | exact sub_refl _ | refine sub_cons rfl ?_)
theorem w49nn (c : Nat) (h : layE [] [] = 0) : AC Tryz.prog 49 [.slice none 0 0, .slice (some ⟨9, 0, none⟩) 0 c] [(9, .inp 0 [])] 10 (.tuple #[.slice none 0 0, iv 0]) [(9, .inp 0 [])] 10 := by
  have hr := recT_ok (P := Tryz.prog) (l := [(56, g56), (96, g96), (104, g104), (90, g90b)]) (by simp [ok56, ok96, ok104, ok90b])
  have hE : firstV [pksE [], whenV false 2, 0] = layE [] [] := by simp [layE, whenV, firstV]
  refine AC.pure Tryz.func49 rfl (by kernel_rfl) rfl [1, 7, 8, 9, 28, 29, 30] rfl ?_
  refine E.seq ?_
  refine E.reg hr (by simp; rfl) ?_ -- region 0
  refine E.seq ?_
  refine E.seq ?_
  refine E.reg hr (by simp [g56, pksP, g96, g104, g90b, g90, intsAt, intsOf, hE, h]; rfl) ?_ -- region 1
  refine E.seq ?_
  refine E.reg hr (by simp; rfl) ?_ -- region 2
  refine E.cond (t := false) (by simp) (fun h => by cases h) (fun _ => ?_)
  refine E.skip ?_
  refine E.seq ?_
  refine E.reg hr (by simp; rfl) ?_ -- region 4
  refine E.seq ?_
  refine E.reg hr (by simp; rfl) ?_ -- region 5
  refine E.seq ?_
  refine E.seq ?_
  refine E.reg hr (by simp; rfl) ?_ -- region 6
  refine E.block ?_ -- 0
  refine E.loop ?_
  refine EL.step ?_
  refine E.seq ?_
  refine E.reg hr (by simp; rfl) ?_ -- region 7
  refine E.seq ?_
  refine E.cond (t := false) (by simp) (fun h => by cases h) (fun _ => ?_)
  refine E.exit ?_ -- 0
  refine E.seq ?_
  refine E.reg hr (by simp; rfl) ?_ -- region 12
  refine E.ret ?_
  exact pureK.ret rfl rfl (by simp) (by repeat first | exact sub_refl _ | refine sub_cons rfl ?_)
def S49 (l : List Pk) (ms : List Int) : Nat → St
  | 0 => { fr := [(1, rowM 10 ms.length), (7, .slice none 0 0), (8, iv 0), (9, iv 0), (28, rowV l.length), (29, iv l.length), (30, iv 0)], sz := 57, H := [(10, .row (ic ms) 1), (9, .row (pcs l) 3)], n := 11, marks := [], vs := [1, 7, 8, 9, 28, 29, 30] }
  | i + 1 => { fr := [(1, rowM 10 ms.length), (7, .slice (some ⟨11, 0, some 0⟩) (i + 1) 0), (8, iv (pkA l (i + 1)).t), (9, iv (aA ms (i + 1))), (28, rowV l.length), (29, iv l.length), (30, iv (i + 1 : Nat))], sz := 57, H := [(11, .ext (rcs (layT l ms (i + 1))) 96 2), (10, .row (ic ms) 1), (9, .row (pcs l) 3)], n := 12, marks := [], vs := [1, 7, 8, 9, 28, 29, 30] }
def layQ (b : Nat) (l : List (Int × Int)) (v : Value) (H : Heap) : Prop := ∃ m, v = .tuple #[.slice (some ⟨m, 0, some 0⟩) l.length 0, iv 0] ∧ hget H m = some (.ext (rcs l) 96 2) ∧ b ≤ m
set_option maxRecDepth 20000 in
theorem w49rr (l : List Pk) (ms : List Int) (hl : l.length < 2 ^ 63) (hne : ms ≠ []) (hm : ms.length ≤ 4096) (h : layE l ms = 0) : ∃ u H1 n1 H2, AC Tryz.prog 49 [rowV l.length, rowM 10 ms.length] [(10, .row (ic ms) 1), (9, .row (pcs l) 3)] 11 u H1 n1 ∧ layQ 11 (layL l ms) u H2 ∧ (af u = false → H1 = H2) := by
  obtain ⟨hpe, hml, hrange⟩ := layE_zero h
  obtain ⟨hok, h64⟩ := pksE_ok hpe
  have hal : ∀ k, k ≤ ms.length → -1099511627776 ≤ aA ms k ∧ aA ms k ≤ 1099511627776 := fun k hk => by
    cases k with
    | zero => simp [aA]
    | succ j => rw [aA_get (show j < ms.length by omega)]; exact hrange _ (List.getElem_mem _)
  have hr := recT_ok (P := Tryz.prog) (l := [(56, g56), (96, g96), (104, g104), (90, g90b), (124, gRat ratV)]) (by simp [ok56, ok96, ok104, ok90b, ok124])
  have hl' : l.length < 9223372036854775808 := by omega
  have hm' : ms.length < 2147483648 := by omega
  have ht : List.take ms.length (ic (ms.map winM)) = ic (ms.map winM) := List.take_of_length_le (by simp)
  have e : ((ms.length : Int) = l.length) ↔ ms.length = l.length := by omega
  have hE : firstV [pksE l, whenV (!decide ((ms.length : Int) = (l.length : Int))) 2, firstV (ms.map winM)] = layE l ms := by simp only [layE, whenV, e, decide_not]
  refine AC.out Tryz.func49 rfl (by kernel_rfl) rfl [1, 7, 8, 9, 28, 29, 30] ?_
  refine E.seq ?_
  refine E.reg hr (by simp; rfl) ?_ -- region 0
  refine E.seq ?_
  refine E.seq ?_
  refine E.reg hr (by simp [g56, pksP, g96, g104, g90b, g90, intsAt, intsOf, hE, rowPks, rowOf, pksOf_pcs, hl', rowIntsN, rowInts, rowOf, intsOf_ic, hne, hm, hm', ht, h]; rfl) ?_ -- region 1
  refine E.seq ?_
  refine E.reg hr (by simp; rfl) ?_ -- region 2
  refine E.cond (t := false) (by simp) (fun h => by cases h) (fun _ => ?_)
  refine E.skip ?_
  refine E.seq ?_
  refine E.reg hr (by simp; rfl) ?_ -- region 4
  refine E.seq ?_
  refine E.reg hr (by simp; rfl) ?_ -- region 5
  refine E.seq ?_
  refine E.seq ?_
  refine E.reg hr (by simp; rfl) ?_ -- region 6
  refine E.block ?_ -- 0
  refine E.loop ?_
  refine EL.ind (S49 l ms) (fun i => l.length - i) (fun i => i ≤ l.length) 0 (Leads.ren [] rfl rfl rfl ⟨rfl, rfl⟩ (by simp [S49]) (by simp [S49])) (Nat.zero_le _) (fun i => by cases i <;> rfl) ?_
  intro i hi0
  rcases i with _ | i
  · have hil : 0 < l.length := by have := List.length_pos_iff.2 hne; omega
    have hio : 0 < ms.length := by omega
    have hw : IntKind.i64.wrap 1 = 1 := W_in (by omega) (by omega)
    have h3 : 3 ≤ l.length * 3 := by omega
    have hp1 : (pkA l (0 + 1)) = l[0] := pkA_succ hil
    have hcur : ∀ (hx : 0 < ms.length), ms[0] = aA ms (0 + 1) := fun hx => (aA_get hx).symm
    have ba := hal 1 (by omega)
    have y := hok.pkA (show 0 + 1 ≤ l.length by omega)
    rw [hp1] at y
    obtain ⟨y1, y2, _, _⟩ := y
    have hst := pksE_strict hpe hil
    rw [hp1] at hst
    have e0 : IntKind.i64.wrap (aA ms (0 + 1)) = aA ms (0 + 1) := W_in (by simp only [Nat.zero_add]; omega) (by simp only [Nat.zero_add]; omega)
    have e1 : IntKind.i64.wrap l[0].t = l[0].t := W_in (by omega) (by omega)
    have h00 : (pkA l 0).t = 0 := rfl
    have hrb : ratB (aA ms (0 + 1)) l[0].t := ⟨⟨by simp only [Nat.zero_add]; omega, by simp only [Nat.zero_add]; omega⟩, by omega, by omega⟩
    have hx := pcs_take hil
    rw [Nat.zero_mul, List.drop_zero] at hx
    have hts : rcs (layT l ms 1) = [iv ((aA ms (0 + 1)).tdiv (gcdI (aA ms (0 + 1)) l[0].t)), iv (l[0].t.tdiv (gcdI (aA ms (0 + 1)) l[0].t))] := by
      rw [← layT_succ]
      simp [layT, rcs, layP, ratP, aA, h00, show pkA l 1 = l[0] from hp1]
    simp only [Nat.zero_add] at hcur e0 hrb hts
    refine E.seq ?_
    refine E.reg hr (by simp [S49]; rfl) ?_ -- region 7
    refine E.seq ?_
    refine E.cond (t := true) (by simp; omega) (fun _ => ?_) (fun h => by cases h)
    refine E.skip ?_
    refine E.seq ?_
    refine E.block ?_ -- 1
    refine E.seq ?_
    refine E.reg hr (by simp [hil, h3, hx]; rfl) ?_ -- region 8
    refine E.seq ?_
    refine E.drawC mixed hr [11, 12, 13] [11, 12, 13] [4, 8, 11, 12, 13] (by kernel_rfl) (by simp [hio, hcur, e0, e1, gRat, hrb, ratV]; rfl) ?_ -- region 9
    refine E.drawC mixed hr [] [] [1, 5] (by kernel_rfl) (by simp [hio, hcur]; rfl) ?_ -- region 10
    refine E.reg hr (by simp [hw]; rfl) ?_ -- region 11
    exact ⟨1, Leads.ren [13] rfl rfl rfl ⟨rfl, rfl⟩ (by simp [S49, show pkA l 1 = l[0] from hp1]) (by simp [S49, hts]), by omega, by dsimp only; omega⟩
  · have hw : IntKind.i64.wrap ((i : Int) + 1 + 1) = (i : Int) + 1 + 1 := W_in (by omega) (by omega)
    refine E.seq ?_
    refine E.reg hr (by simp [S49]; rfl) ?_ -- region 7
    refine E.seq ?_
    by_cases hil : i + 1 < l.length
    · have hio : i + 1 < ms.length := by omega
      have hiI : (i : Int) + 1 < (l.length : Int) := by omega
      have hoI : (i : Int) + 1 < (ms.length : Int) := by omega
      have h3 : (i + 1) * 3 + 3 ≤ l.length * 3 := by omega
      have hp1 : (pkA l (i + 1 + 1)) = l[i + 1] := pkA_succ hil
      have hcur : ∀ (hx : i + 1 < ms.length), ms[i + 1] = aA ms (i + 1 + 1) := fun hx => (aA_get hx).symm
      have ba := hal (i + 1 + 1) (by omega)
      have bp := hal (i + 1) (by omega)
      obtain ⟨x1, x2, _, _⟩ := hok.pkA (show i + 1 ≤ l.length by omega)
      have y := hok.pkA (show i + 1 + 1 ≤ l.length by omega)
      rw [hp1] at y
      obtain ⟨y1, y2, _, _⟩ := y
      have hst := pksE_strict hpe hil
      rw [hp1] at hst
      have e0 : IntKind.i64.wrap (aA ms (i + 1 + 1) - aA ms (i + 1)) = aA ms (i + 1 + 1) - aA ms (i + 1) := W_in (by omega) (by omega)
      have e1 : IntKind.i64.wrap (l[i + 1].t - (pkA l (i + 1)).t) = l[i + 1].t - (pkA l (i + 1)).t := W_in (by omega) (by omega)
      have hrb : ratB (aA ms (i + 1 + 1) - aA ms (i + 1)) (l[i + 1].t - (pkA l (i + 1)).t) := ⟨⟨by omega, by omega⟩, by omega, by omega⟩
      have hlen : (rcs (layT l ms (i + 1))).length = (i + 1) * 2 := by simp
      have htk : List.take ((i + 1) * 2) (rcs (layT l ms (i + 1))) = rcs (layT l ms (i + 1)) := List.take_of_length_le (by simp)
      have hsm : (i + 1 + 1) * 16 ≤ 1099511627776 ∧ (i + 1 + 1) * 2 ≤ 1099511627776 ∧ i + 1 + 1 ≤ 1099511627776 := by omega
      have hno : ¬ (i + 1 + 1) * 2 ≤ (i + 1) * 2 := by omega
      have hsn := rcs_snoc (layT l ms (i + 1)) (layP l ms (i + 1))
      rw [layT_succ, layP, ratP, hp1] at hsn
      dsimp only at hsn
      refine E.cond (t := true) (by simp; omega) (fun _ => ?_) (fun h => by cases h)
      refine E.skip ?_
      refine E.seq ?_
      refine E.block ?_ -- 1
      refine E.seq ?_
      refine E.reg hr (by simp [hiI, h3, pcs_take hil]; rfl) ?_ -- region 8
      refine E.seq ?_
      refine E.drawC mixed hr [11, 12, 13] [11, 12, 13] [4, 8, 11, 12, 13] (by kernel_rfl) (by simp [hio, hoI, hcur, e0, e1, gRat, hrb, ratV, hlen, htk, hsm, hno, hsn]; rfl) ?_ -- region 9
      refine E.drawC mixed hr [] [] [1, 5] (by kernel_rfl) (by simp [hio, hoI, hcur]; rfl) ?_ -- region 10
      refine E.reg hr (by simp [hw]; rfl) ?_ -- region 11
      exact ⟨i + 1 + 1, Leads.ren [14] rfl rfl rfl ⟨rfl, rfl⟩ (by simp [S49, hp1]) (by simp [S49]), by omega, by dsimp only; omega⟩
    · have hll : l.length = i + 1 := by omega
      refine E.cond (t := false) (by simp; omega) (fun h => by cases h) (fun _ => ?_)
      refine E.exit ?_ -- 0
      refine E.seq ?_
      refine E.reg hr (by simp; rfl) ?_ -- region 12
      refine E.ret ?_
      refine outK.ret rfl rfl ?_
      exact ⟨11, by simp [hll], by simp [layL, layT, hll], by omega⟩
end Go.Proofs.YtkongcnmkiihjaaGreatDoor

namespace Go.Proofs.YtkongcnmkiihjaaGreatDoor
open Go Go.Ab Go.Proofs
/-! ### layers: the program's entry -/
theorem names_tup (k c : Nat) (e : Int) (sp : Option Nat) : Names1 fun m => .tuple #[.slice (some ⟨m, 0, sp⟩) k c, iv e] := ⟨fun φ ψ m n h1 h2 => by cases sp <;> simp [den, denL, h1, h2], fun p n h => by simp [sc, scL, h]⟩
theorem two_den : ∀ (φ φ0 : Vl) (s s0 u u0 : Value), den φ0 s0 = den φ s → den φ0 u0 = den φ u → denL φ0 [s0, u0] = denL φ [s, u] := fun φ φ0 s s0 u u0 h h' => by simp [denL, h, h']
theorem two_sc : ∀ (p : Nat → Prop) (s u : Value), sc p s → sc p u → scL p [s, u] := fun _ _ _ h h' => ⟨h, h', trivial⟩
theorem scd1 : ∀ (φ φ0 : Vl) (s s0 : Value), den φ0 s0 = den φ s → denL φ0 [.slice none 0 0, s0] = denL φ [.slice none 0 0, s] := fun φ φ0 s s0 h => by simp [denL, den, h]
theorem scs1 : ∀ (p : Nat → Prop) (s : Value), sc p s → scL p [.slice none 0 0, s] := fun _ _ h => ⟨trivial, h, trivial⟩
def g49 (args : List Value) (H : Heap) (n : Nat) : R := match args with
  | [t, u] => match pksN H t, intsM H u with
    | some l, some ms => if ms.length ≤ 4096 then (if layE l ms = 0 then (if l = [] then some (.tuple #[.slice none 0 0, iv 0], H, n) else some (.tuple #[.slice (some ⟨n, 0, some 0⟩) l.length 0, iv 0], (n, .ext (rcs (layL l ms)) 96 2) :: H, n + 1)) else some (.tuple #[.slice none 0 0, iv (layE l ms)], H, n)) else none
    | _, _ => none
  | _ => none
theorem ok49 : EntOk Tryz.prog (49, g49) := by
  intro args H n v H' n' h
  simp only [g49] at h
  split at h
  · rename_i t u
    split at h
    · rename_i l ms ht hu
      by_cases hm : ms.length ≤ 4096
      · rw [if_pos hm] at h
        unfold pksN at ht
        split at ht
        · injection ht with ht; subst ht
          unfold intsM at hu
          split at hu
          · rename_i b c
            split at hu
            · rename_i hc
              injection hu with hu; subst hu
              have h0 : layE [] [] = 0 := rfl
              rw [if_pos h0, if_pos rfl] at h
              injection h with h; injection h with e1 e2; injection e2 with e2 e3; subst e1 e2 e3
              exact AC.liftP rfl (Part.one (fun x => [.slice none 0 0, x]) scd1 scs1 (a := ⟨b, 0, none⟩) rfl hc rfl [] (by simp [Seen]) gsz fun c0 => ⟨_, _, w49nn c0 h0⟩)
            · cases hu
          · obtain ⟨hb, rfl, hlt, hne⟩ := rowIntsN_ok hu
            have h0 : layE [] ms ≠ 0 := fun e => hne (List.length_eq_zero_iff.1 (layE_zero e).2.1)
            rw [if_neg h0] at h
            injection h with h; injection h with e1 e2; injection e2 with e2 e3; subst e1 e2 e3
            exact AC.liftP rfl (Part.row (fun x => [.slice none 0 0, x]) scd1 scs1 hb (afL_iv ms) gsz ⟨_, _, w49nrx ms hne hm h0⟩)
          · cases hu
        · split at ht
          · rename_i l' hl
            split at ht
            · cases ht
            · rename_i hnl
              injection ht with ht; subst ht
              obtain ⟨hb, rfl, hlt⟩ := rowPks_ok hl
              unfold intsM at hu
              split at hu
              · rename_i b c
                split at hu
                · rename_i hc
                  injection hu with hu; subst hu
                  have h0 : layE l' [] ≠ 0 := fun e => hnl (List.length_eq_zero_iff.1 (layE_zero e).2.1.symm)
                  rw [if_neg h0] at h
                  injection h with h; injection h with e1 e2; injection e2 with e2 e3; subst e1 e2 e3
                  exact AC.liftP rfl (Part.rowOneG (fun s u => [s, u]) two_den two_sc hb (afL_pcs l') (a2 := ⟨b, 0, none⟩) rfl hc rfl [] (by simp [Seen]) gsz fun c0 => ⟨_, _, w49rnx l' c0 hlt h0⟩)
                · cases hu
              · obtain ⟨hb2, rfl, hlt2, hne⟩ := rowIntsN_ok hu
                by_cases h0 : layE l' ms = 0
                · rw [if_pos h0, if_neg hnl] at h
                  injection h with h; injection h with e1 e2; injection e2 with e2 e3; subst e1 e2 e3
                  refine AC.liftF (names_tup _ _ _ _) (.inr ⟨_, _, _, rfl, afL_rcs _⟩) (partRR (fun s u => [s, u]) two_den two_sc hb (afL_pcs l') hb2 (afL_iv ms) ?_)
                  obtain ⟨u, H1, n1, H2, hAC, ⟨m, hu, hm, hle⟩, hh⟩ := w49rr l' ms hlt hne hm h0
                  subst hu
                  rw [layL_length] at hAC hh
                  have := hh (by simp)
                  subst this
                  exact ⟨m, _, _, by omega, hm, hAC⟩
                · rw [if_neg h0] at h
                  injection h with h; injection h with e1 e2; injection e2 with e2 e3; subst e1 e2 e3
                  exact AC.liftP rfl (partRR (fun s u => [s, u]) two_den two_sc hb (afL_pcs l') hb2 (afL_iv ms) ⟨_, _, w49rrx l' ms hlt hne hm h0⟩)
              · cases hu
          · cases ht
        · cases ht
      · rw [if_neg hm] at h; cases h
    · cases h
  · cases h
end Go.Proofs.YtkongcnmkiihjaaGreatDoor

namespace Go.Proofs.YtkongcnmkiihjaaGreatDoor
open Go Go.Ab Go.Proofs
/-! ### layers: the reference -/
theorem w55nn0 : AC Tryz.prog 55 [.slice none 0 0, .slice none 0 0] [] 9 (.tuple #[.slice none 0 0, iv 0]) [] 9 := by
  have hr := recT_ok (P := Tryz.prog) (l := []) (by simp)
  refine AC.pure Tryz.func55 rfl (by kernel_rfl) rfl [0, 1, 6, 8, 9] rfl ?_
  refine E.seq ?_
  refine E.reg hr (by simp; rfl) ?_ -- region 0
  refine E.seq ?_
  refine E.seq ?_
  refine E.reg hr (by simp; rfl) ?_ -- region 1
  refine E.cond (t := false) (by simp) (fun h => by cases h) (fun _ => ?_)
  refine E.skip ?_
  refine E.seq ?_
  refine E.seq ?_
  refine E.reg hr (by simp; rfl) ?_ -- region 3
  refine E.block ?_ -- 0
  refine E.loop ?_
  refine EL.step ?_
  refine E.seq ?_
  refine E.seq ?_
  refine E.reg hr (by simp; rfl) ?_ -- region 4
  refine E.cond (t := false) (by simp) (fun h => by cases h) (fun _ => ?_)
  refine E.exit ?_ -- 0
  refine E.seq ?_
  refine E.reg hr (by simp; rfl) ?_ -- region 9
  refine E.seq ?_
  refine E.seq ?_
  refine E.reg hr (by simp; rfl) ?_ -- region 10
  refine E.block ?_ -- 2
  refine E.loop ?_
  refine EL.step ?_
  refine E.seq ?_
  refine E.seq ?_
  refine E.reg hr (by simp; rfl) ?_ -- region 11
  refine E.cond (t := false) (by simp) (fun h => by cases h) (fun _ => ?_)
  refine E.exit ?_ -- 2
  refine E.seq ?_
  refine E.reg hr (by simp; rfl) ?_ -- region 17
  refine E.ret ?_
  exact pureK.ret rfl rfl (by simp) (by repeat first | exact sub_refl _ | refine sub_cons rfl ?_)
theorem w55nix (ms : List Int) (o2 c2 : Nat) (h : ms ≠ []) : AC Tryz.prog 55 [.slice none 0 0, inpM 9 o2 ms.length c2] [(9, .inp o2 (ic ms))] 10 (.tuple #[.slice none 0 0, iv 2]) [(9, .inp o2 (ic ms))] 10 := by
  have hr := recT_ok (P := Tryz.prog) (l := []) (by simp)
  refine AC.pure Tryz.func55 rfl (by kernel_rfl) rfl [0, 1, 6, 8, 9] rfl ?_
  refine E.seq ?_
  refine E.reg hr (by simp; rfl) ?_ -- region 0
  refine E.seq ?_
  refine E.seq ?_
  refine E.reg hr (by simp; rfl) ?_ -- region 1
  refine E.cond (t := true) (by simp [h]) (fun _ => ?_) (fun h => by cases h)
  refine E.seq ?_
  refine E.reg hr (by simp; rfl) ?_ -- region 2
  refine E.ret ?_
  exact pureK.ret rfl rfl (by simp) (by repeat first | exact sub_refl _ | refine sub_cons rfl ?_)
theorem w55ni0 (o2 c2 : Nat) : AC Tryz.prog 55 [.slice none 0 0, inpM 9 o2 0 c2] [(9, .inp o2 [])] 10 (.tuple #[.slice none 0 0, iv 0]) [(9, .inp o2 [])] 10 := by
  have hr := recT_ok (P := Tryz.prog) (l := []) (by simp)
  refine AC.pure Tryz.func55 rfl (by kernel_rfl) rfl [0, 1, 6, 8, 9] rfl ?_
  refine E.seq ?_
  refine E.reg hr (by simp; rfl) ?_ -- region 0
  refine E.seq ?_
  refine E.seq ?_
  refine E.reg hr (by simp; rfl) ?_ -- region 1
  refine E.cond (t := false) (by simp) (fun h => by cases h) (fun _ => ?_)
  refine E.skip ?_
  refine E.seq ?_
  refine E.seq ?_
  refine E.reg hr (by simp; rfl) ?_ -- region 3
  refine E.block ?_ -- 0
  refine E.loop ?_
  refine EL.step ?_
  refine E.seq ?_
  refine E.seq ?_
  refine E.reg hr (by simp; rfl) ?_ -- region 4
  refine E.cond (t := false) (by simp) (fun h => by cases h) (fun _ => ?_)
  refine E.exit ?_ -- 0
  refine E.seq ?_
  refine E.reg hr (by simp; rfl) ?_ -- region 9
  refine E.seq ?_
  refine E.seq ?_
  refine E.reg hr (by simp; rfl) ?_ -- region 10
  refine E.block ?_ -- 2
  refine E.loop ?_
  refine EL.step ?_
  refine E.seq ?_
  refine E.seq ?_
  refine E.reg hr (by simp; rfl) ?_ -- region 11
  refine E.cond (t := false) (by simp) (fun h => by cases h) (fun _ => ?_)
  refine E.exit ?_ -- 2
  refine E.seq ?_
  refine E.reg hr (by simp; rfl) ?_ -- region 17
  refine E.ret ?_
  exact pureK.ret rfl rfl (by simp) (by repeat first | exact sub_refl _ | refine sub_cons rfl ?_)
theorem w55inx (l : List Pk) (o c : Nat) (h : l ≠ []) : AC Tryz.prog 55 [inpV o l.length c, .slice none 0 0] [(9, .inp o (pcs l))] 10 (.tuple #[.slice none 0 0, iv 2]) [(9, .inp o (pcs l))] 10 := by
  have : ¬ ((0 : Int) = l.length) := by have := List.length_pos_iff.2 h; omega
  have hr := recT_ok (P := Tryz.prog) (l := []) (by simp)
  refine AC.pure Tryz.func55 rfl (by kernel_rfl) rfl [0, 1, 6, 8, 9] rfl ?_
  refine E.seq ?_
  refine E.reg hr (by simp; rfl) ?_ -- region 0
  refine E.seq ?_
  refine E.seq ?_
  refine E.reg hr (by simp; rfl) ?_ -- region 1
  refine E.cond (t := true) (by simp [this]) (fun _ => ?_) (fun h => by cases h)
  refine E.seq ?_
  refine E.reg hr (by simp; rfl) ?_ -- region 2
  refine E.ret ?_
  exact pureK.ret rfl rfl (by simp) (by repeat first | exact sub_refl _ | refine sub_cons rfl ?_)
theorem w55in0 (o c : Nat) : AC Tryz.prog 55 [inpV o 0 c, .slice none 0 0] [(9, .inp o [])] 10 (.tuple #[.slice none 0 0, iv 0]) [(9, .inp o [])] 10 := by
  have hr := recT_ok (P := Tryz.prog) (l := []) (by simp)
  refine AC.pure Tryz.func55 rfl (by kernel_rfl) rfl [0, 1, 6, 8, 9] rfl ?_
  refine E.seq ?_
  refine E.reg hr (by simp; rfl) ?_ -- region 0
  refine E.seq ?_
  refine E.seq ?_
  refine E.reg hr (by simp; rfl) ?_ -- region 1
  refine E.cond (t := false) (by simp) (fun h => by cases h) (fun _ => ?_)
  refine E.skip ?_
  refine E.seq ?_
  refine E.seq ?_
  refine E.reg hr (by simp; rfl) ?_ -- region 3
  refine E.block ?_ -- 0
  refine E.loop ?_
  refine EL.step ?_
  refine E.seq ?_
  refine E.seq ?_
  refine E.reg hr (by simp; rfl) ?_ -- region 4
  refine E.cond (t := false) (by simp) (fun h => by cases h) (fun _ => ?_)
  refine E.exit ?_ -- 0
  refine E.seq ?_
  refine E.reg hr (by simp; rfl) ?_ -- region 9
  refine E.seq ?_
  refine E.seq ?_
  refine E.reg hr (by simp; rfl) ?_ -- region 10
  refine E.block ?_ -- 2
  refine E.loop ?_
  refine EL.step ?_
  refine E.seq ?_
  refine E.seq ?_
  refine E.reg hr (by simp; rfl) ?_ -- region 11
  refine E.cond (t := false) (by simp) (fun h => by cases h) (fun _ => ?_)
  refine E.exit ?_ -- 2
  refine E.seq ?_
  refine E.reg hr (by simp; rfl) ?_ -- region 17
  refine E.ret ?_
  exact pureK.ret rfl rfl (by simp) (by repeat first | exact sub_refl _ | refine sub_cons rfl ?_)
theorem w55iix (l : List Pk) (ms : List Int) (o c o2 c2 : Nat) (h : ms.length ≠ l.length) : AC Tryz.prog 55 [inpV o l.length c, inpM 10 o2 ms.length c2] [(10, .inp o2 (ic ms)), (9, .inp o (pcs l))] 11 (.tuple #[.slice none 0 0, iv 2]) [(10, .inp o2 (ic ms)), (9, .inp o (pcs l))] 11 := by
  have : ¬ ((ms.length : Int) = l.length) := by omega
  have hr := recT_ok (P := Tryz.prog) (l := []) (by simp)
  refine AC.pure Tryz.func55 rfl (by kernel_rfl) rfl [0, 1, 6, 8, 9] rfl ?_
  refine E.seq ?_
  refine E.reg hr (by simp; rfl) ?_ -- region 0
  refine E.seq ?_
  refine E.seq ?_
  refine E.reg hr (by simp; rfl) ?_ -- region 1
  refine E.cond (t := true) (by simp [this]) (fun _ => ?_) (fun h => by cases h)
  refine E.seq ?_
  refine E.reg hr (by simp; rfl) ?_ -- region 2
  refine E.ret ?_
  exact pureK.ret rfl rfl (by simp) (by repeat first | exact sub_refl _ | refine sub_cons rfl ?_)
theorem w55ii0 (o c o2 c2 : Nat) : AC Tryz.prog 55 [inpV o 0 c, inpM 10 o2 0 c2] [(10, .inp o2 []), (9, .inp o [])] 11 (.tuple #[.slice none 0 0, iv 0]) [(10, .inp o2 []), (9, .inp o [])] 11 := by
  have hr := recT_ok (P := Tryz.prog) (l := []) (by simp)
  refine AC.pure Tryz.func55 rfl (by kernel_rfl) rfl [0, 1, 6, 8, 9] rfl ?_
  refine E.seq ?_
  refine E.reg hr (by simp; rfl) ?_ -- region 0
  refine E.seq ?_
  refine E.seq ?_
  refine E.reg hr (by simp; rfl) ?_ -- region 1
  refine E.cond (t := false) (by simp) (fun h => by cases h) (fun _ => ?_)
  refine E.skip ?_
  refine E.seq ?_
  refine E.seq ?_
  refine E.reg hr (by simp; rfl) ?_ -- region 3
  refine E.block ?_ -- 0
  refine E.loop ?_
  refine EL.step ?_
  refine E.seq ?_
  refine E.seq ?_
  refine E.reg hr (by simp; rfl) ?_ -- region 4
  refine E.cond (t := false) (by simp) (fun h => by cases h) (fun _ => ?_)
  refine E.exit ?_ -- 0
  refine E.seq ?_
  refine E.reg hr (by simp; rfl) ?_ -- region 9
  refine E.seq ?_
  refine E.seq ?_
  refine E.reg hr (by simp; rfl) ?_ -- region 10
  refine E.block ?_ -- 2
  refine E.loop ?_
  refine EL.step ?_
  refine E.seq ?_
  refine E.seq ?_
  refine E.reg hr (by simp; rfl) ?_ -- region 11
  refine E.cond (t := false) (by simp) (fun h => by cases h) (fun _ => ?_)
  refine E.exit ?_ -- 2
  refine E.seq ?_
  refine E.reg hr (by simp; rfl) ?_ -- region 17
  refine E.ret ?_
  exact pureK.ret rfl rfl (by simp) (by repeat first | exact sub_refl _ | refine sub_cons rfl ?_)
theorem winM_eq (x : Int) : winM x = withinV x (-1099511627776) 1099511627776 := rfl
abbrev A55 (l : List Pk) (ms : List Int) (o c o2 c2 i : Nat) : St := { fr := [(0, inpV o l.length c), (1, inpM 10 o2 ms.length c2), (6, iv i)], sz := 62, H := [(10, .inp o2 (ic ms)), (9, .inp o (pcs l))], n := 11, marks := [], vs := [0, 1, 6, 8, 9] }
theorem w55iie (l : List Pk) (ms : List Int) (o c o2 c2 : Nat) (hml : ms.length = l.length) (hl : l.length < 2 ^ 31) (h : firstV (ms.map winM) ≠ 0) : AC Tryz.prog 55 [inpV o l.length c, inpM 10 o2 ms.length c2] [(10, .inp o2 (ic ms)), (9, .inp o (pcs l))] 11 (.tuple #[.slice none 0 0, iv (firstV (ms.map winM))]) [(10, .inp o2 (ic ms)), (9, .inp o (pcs l))] 11 := by
  have hr := recT_ok (P := Tryz.prog) (l := [(37, g37)]) (by simp [ok37])
  refine AC.pure Tryz.func55 rfl (by kernel_rfl) rfl [0, 1, 6, 8, 9] rfl ?_
  refine E.seq ?_
  refine E.reg hr (by simp; rfl) ?_ -- region 0
  refine E.seq ?_
  refine E.seq ?_
  refine E.reg hr (by simp; rfl) ?_ -- region 1
  refine E.cond (t := false) (by simp; omega) (fun h => by cases h) (fun _ => ?_)
  refine E.skip ?_
  refine E.seq ?_
  refine E.seq ?_
  refine E.reg hr (by simp; rfl) ?_ -- region 3
  refine E.block ?_ -- 0
  refine E.loop ?_
  refine EL.ind (fun i : Nat => A55 l ms o c o2 c2 i) (fun i => ms.length - i) (fun i => i ≤ ms.length ∧ firstV ((ms.map winM).drop i) = firstV (ms.map winM)) 0 (.less rfl rfl rfl (by simp) (by simp)) ⟨Nat.zero_le _, rfl⟩ (fun _ => rfl) ?_
  rintro i ⟨hi0, hg⟩
  have hw : IntKind.i64.wrap ((i : Int) + 1) = (i : Int) + 1 := W_in (by omega) (by omega)
  refine E.seq ?_
  refine E.seq ?_
  refine E.reg hr (by simp; rfl) ?_ -- region 4
  by_cases hio : i < ms.length
  · have hio' : i < (ms.map winM).length := by simpa using hio
    rw [List.drop_eq_getElem_cons hio', firstV, List.getElem_map] at hg
    refine E.cond (t := true) (by simp [hio]) (fun _ => ?_) (fun h => by cases h)
    refine E.skip ?_
    refine E.seq ?_
    refine E.block ?_ -- 1
    refine E.seq ?_
    refine E.reg hr (by simp [hio, g37, ← winM_eq]; rfl) ?_ -- region 6
    refine E.seq ?_
    refine E.reg hr (by simp; rfl) ?_ -- region 7
    by_cases hz : winM ms[i] = 0
    · rw [if_pos hz] at hg
      refine E.cond (t := false) (by simp [hz]) (fun h => by cases h) (fun _ => ?_)
      refine E.skip ?_
      refine E.reg hr (by simp [hw]; rfl) ?_ -- region 5
      exact ⟨i + 1, .less rfl rfl rfl (by simp) (by simp), ⟨hio, hg⟩, by dsimp only; omega⟩
    · rw [if_neg hz] at hg
      refine E.cond (t := true) (by simp [hz]) (fun _ => ?_) (fun h => by cases h)
      refine E.seq ?_
      refine E.reg hr (by simp; rfl) ?_ -- region 8
      refine E.ret ?_
      exact pureK.ret rfl rfl (by simp [← hg]) (by repeat first | exact sub_refl _ | refine sub_cons rfl ?_)
  · rw [List.drop_eq_nil_of_le (by simp; omega), firstV] at hg
    exact absurd hg.symm h
def S55 (l : List Pk) (ms : List Int) (o c o2 c2 : Nat) : Nat → St
  | 0 => { fr := [(0, inpV o l.length c), (1, inpM 10 o2 ms.length c2), (8, .slice none 0 0), (9, iv 0)], sz := 62, H := [(10, .inp o2 (ic ms)), (9, .inp o (pcs l))], n := 11, marks := [], vs := [0, 1, 6, 8, 9] }
  | i + 1 => { fr := [(0, inpV o l.length c), (1, inpM 10 o2 ms.length c2), (8, .slice (some ⟨11, 0, some 0⟩) (i + 1) 0), (9, iv (i + 1 : Nat))], sz := 62, H := [(11, .ext (rcs (layT l ms (i + 1))) 96 2), (10, .inp o2 (ic ms)), (9, .inp o (pcs l))], n := 12, marks := [], vs := [0, 1, 6, 8, 9] }
set_option maxRecDepth 20000 in
theorem w55ii (l : List Pk) (ms : List Int) (o c o2 c2 : Nat) (hne : l ≠ []) (hpe : pksE l = 0) (hml : ms.length = l.length) (h : firstV (ms.map winM) = 0) : ∃ u H1 n1 H2, AC Tryz.prog 55 [inpV o l.length c, inpM 10 o2 ms.length c2] [(10, .inp o2 (ic ms)), (9, .inp o (pcs l))] 11 u H1 n1 ∧ layQ 11 (layL l ms) u H2 ∧ (af u = false → H1 = H2) := by
  have hpos : 0 < l.length := List.length_pos_iff.2 hne
  obtain ⟨hok, h64⟩ := pksE_ok hpe
  have hl' : l.length < 9223372036854775808 := by omega
  have ht : List.take (l.length * 3) (pcs l) = pcs l := List.take_of_length_le (by simp)
  have hrange : ∀ x ∈ ms, -1099511627776 ≤ x ∧ x ≤ 1099511627776 := (layE_zero (l := l) (by simp [layE, hpe, hml, whenV, h, firstV])).2.2
  have hal : ∀ k, k ≤ ms.length → -1099511627776 ≤ aA ms k ∧ aA ms k ≤ 1099511627776 := fun k hk => by
    cases k with
    | zero => simp [aA]
    | succ j => rw [aA_get (show j < ms.length by omega)]; exact hrange _ (List.getElem_mem _)
  have hr := recT_ok (P := Tryz.prog) (l := [(37, g37), (125, g125), (128, gRat ratV)]) (by simp [ok37, ok125, ok128])
  refine AC.out Tryz.func55 rfl (by kernel_rfl) rfl [0, 1, 6, 8, 9] ?_
  refine E.seq ?_
  refine E.reg hr (by simp; rfl) ?_ -- region 0
  refine E.seq ?_
  refine E.seq ?_
  refine E.reg hr (by simp; rfl) ?_ -- region 1
  refine E.cond (t := false) (by simp; omega) (fun h => by cases h) (fun _ => ?_)
  refine E.skip ?_
  refine E.seq ?_
  refine E.seq ?_
  refine E.reg hr (by simp; rfl) ?_ -- region 3
  refine E.block ?_ -- 0
  refine E.loop ?_
  refine EL.ind (fun i : Nat => A55 l ms o c o2 c2 i) (fun i => ms.length - i) (fun i => i ≤ ms.length ∧ firstV ((ms.map winM).drop i) = firstV (ms.map winM)) 0 (.less rfl rfl rfl (by simp) (by simp)) ⟨Nat.zero_le _, rfl⟩ (fun _ => rfl) ?_
  rintro i ⟨hi0, hg⟩
  have hw : IntKind.i64.wrap ((i : Int) + 1) = (i : Int) + 1 := W_in (by omega) (by omega)
  refine E.seq ?_
  refine E.seq ?_
  refine E.reg hr (by simp; rfl) ?_ -- region 4
  by_cases hio : i < ms.length
  · have hio' : i < (ms.map winM).length := by simpa using hio
    rw [List.drop_eq_getElem_cons hio', firstV, List.getElem_map] at hg
    refine E.cond (t := true) (by simp [hio]) (fun _ => ?_) (fun h => by cases h)
    refine E.skip ?_
    refine E.seq ?_
    refine E.block ?_ -- 1
    refine E.seq ?_
    refine E.reg hr (by simp [hio, g37, ← winM_eq]; rfl) ?_ -- region 6
    refine E.seq ?_
    refine E.reg hr (by simp; rfl) ?_ -- region 7
    by_cases hz : winM ms[i] = 0
    · rw [if_pos hz] at hg
      refine E.cond (t := false) (by simp [hz]) (fun h => by cases h) (fun _ => ?_)
      refine E.skip ?_
      refine E.reg hr (by simp [hw]; rfl) ?_ -- region 5
      exact ⟨i + 1, .less rfl rfl rfl (by simp) (by simp), ⟨hio, hg⟩, by dsimp only; omega⟩
    · rw [if_neg hz] at hg
      exact absurd (hg.trans h) hz
  · have hie : i = ms.length := by omega
    refine E.cond (t := false) (by simp; omega) (fun h => by cases h) (fun _ => ?_)
    refine E.exit ?_ -- 0
    refine E.seq ?_
    refine E.reg hr (by simp; rfl) ?_ -- region 9
    refine E.seq ?_
    refine E.seq ?_
    refine E.reg hr (by simp; rfl) ?_ -- region 10
    refine E.block ?_ -- 2
    refine E.loop ?_
    refine EL.ind (S55 l ms o c o2 c2) (fun i => l.length - i) (fun i => i ≤ l.length) 0 (.less rfl rfl rfl (by simp [S55]) (by simp [S55])) (Nat.zero_le _) (fun i => by cases i <;> rfl) ?_
    clear hg hi0 hw hio hie i
    intro i hi0
    rcases i with _ | i
    · have hil : 0 < l.length := hpos
      have hio : 0 < ms.length := by omega
      have hw : IntKind.i64.wrap 1 = 1 := W_in (by omega) (by omega)
      have hwP : IntKind.i64.wrap (-1) = -1 := W_in (by omega) (by omega)
      have hp1 : (pkA l (0 + 1)) = l[0] := pkA_succ hil
      have aI : atOk l 0 = true := atOk_nat hok (j := 0) hil
      have pI : pkI l 0 = l[0] := by rw [show pkI l 0 = pkA l 1 from pkI_nat l 0, pkA_succ hil]
      have aP : atOk l (-1) = true := by have := atOk_pred hok (k := 0) (by omega); simpa using this
      have pP : pkI l (-1) = pkA l 0 := by have := pkI_pred l 0; simpa using this
      have hcur : ∀ (hx : 0 < ms.length), ms[0] = aA ms (0 + 1) := fun hx => (aA_get hx).symm
      have ba := hal 1 (by omega)
      have y := hok.pkA (show 0 + 1 ≤ l.length by omega)
      rw [hp1] at y
      obtain ⟨y1, y2, _, _⟩ := y
      have hst := pksE_strict hpe hil
      rw [hp1] at hst
      have e0 : IntKind.i64.wrap (aA ms (0 + 1)) = aA ms (0 + 1) := W_in (by simp only [Nat.zero_add]; omega) (by simp only [Nat.zero_add]; omega)
      have h00 : (pkA l 0).t = 0 := rfl
      have e1 : IntKind.i64.wrap l[0].t = l[0].t := W_in (by omega) (by omega)
      have hrb : ratB (aA ms (0 + 1)) l[0].t := ⟨⟨by simp only [Nat.zero_add]; omega, by simp only [Nat.zero_add]; omega⟩, by omega, by omega⟩
      have hts : rcs (layT l ms 1) = [iv ((aA ms (0 + 1)).tdiv (gcdI (aA ms (0 + 1)) l[0].t)), iv (l[0].t.tdiv (gcdI (aA ms (0 + 1)) l[0].t))] := by
        rw [← layT_succ]
        simp [layT, rcs, layP, ratP, aA, h00, show pkA l 1 = l[0] from hp1]
      simp only [Nat.zero_add] at hcur e0 hrb hts
      refine E.seq ?_
      refine E.seq ?_
      refine E.reg hr (by simp [S55]; rfl) ?_ -- region 11
      refine E.cond (t := true) (by simp; omega) (fun _ => ?_) (fun h => by cases h)
      refine E.skip ?_
      refine E.seq ?_
      refine E.block ?_ -- 3
      refine E.seq ?_
      refine E.reg hr (by simp; rfl) ?_ -- region 13
      refine E.seq ?_
      refine E.seq ?_
      refine E.reg hr (by simp; rfl) ?_ -- region 14
      refine E.cond (t := false) (by simp) (fun h => by cases h) (fun _ => ?_)
      refine E.skip ?_
      refine E.drawC mixed hr [15, 16, 17] [9, 13, 15, 16, 17] [4, 9, 13, 15, 16, 17] (by kernel_rfl) (by simp [g125, pksAt, flat, ht, pksOf_pcs, hl', hwP, aI, pI, aP, pP, h00, hio, hcur, e0, e1, gRat, hrb, ratV]; rfl) ?_ -- region 16
      refine E.reg hr (by simp [hw]; rfl) ?_ -- region 12
      exact ⟨1, Leads.ren [12] rfl rfl rfl ⟨rfl, rfl⟩ (by simp [S55]) (by simp [S55, hts]), by omega, by dsimp only; omega⟩
    · have hw : IntKind.i64.wrap ((i : Int) + 1 + 1) = (i : Int) + 1 + 1 := W_in (by omega) (by omega)
      refine E.seq ?_
      refine E.seq ?_
      refine E.reg hr (by simp [S55]; rfl) ?_ -- region 11
      by_cases hil : i + 1 < l.length
      · have hio : i + 1 < ms.length := by omega
        have hjo : i < ms.length := by omega
        have hjl : i < l.length := by omega
        have hoI : (i : Int) + 1 < (ms.length : Int) := by omega
        have hwP : IntKind.i64.wrap (i : Int) = (i : Int) := W_in (by omega) (by omega)
        have hp1 : (pkA l (i + 1 + 1)) = l[i + 1] := pkA_succ hil
        have aI : atOk l ((i : Int) + 1) = true := by have := atOk_nat hok (j := i + 1) hil; simpa using this
        have pI : pkI l ((i : Int) + 1) = l[i + 1] := by rw [← hp1]; have := pkI_nat l (i + 1); simpa using this
        have aP : atOk l (i : Int) = true := atOk_nat hok (j := i) hjl
        have pP : pkI l (i : Int) = pkA l (i + 1) := pkI_nat l i
        have hcur : ∀ (hx : i + 1 < ms.length), ms[i + 1] = aA ms (i + 1 + 1) := fun hx => (aA_get hx).symm
        have hcur2 : ∀ (hx : i < ms.length), ms[i] = aA ms (i + 1) := fun hx => (aA_get hx).symm
        have ba := hal (i + 1 + 1) (by omega)
        have bp := hal (i + 1) (by omega)
        obtain ⟨x1, x2, _, _⟩ := hok.pkA (show i + 1 ≤ l.length by omega)
        have y := hok.pkA (show i + 1 + 1 ≤ l.length by omega)
        rw [hp1] at y
        obtain ⟨y1, y2, _, _⟩ := y
        have hst := pksE_strict hpe hil
        rw [hp1] at hst
        have e0 : IntKind.i64.wrap (aA ms (i + 1 + 1) - aA ms (i + 1)) = aA ms (i + 1 + 1) - aA ms (i + 1) := W_in (by omega) (by omega)
        have e1 : IntKind.i64.wrap (l[i + 1].t - (pkA l (i + 1)).t) = l[i + 1].t - (pkA l (i + 1)).t := W_in (by omega) (by omega)
        have hrb : ratB (aA ms (i + 1 + 1) - aA ms (i + 1)) (l[i + 1].t - (pkA l (i + 1)).t) := ⟨⟨by omega, by omega⟩, by omega, by omega⟩
        have hlen : (rcs (layT l ms (i + 1))).length = (i + 1) * 2 := by simp
        have htk : List.take ((i + 1) * 2) (rcs (layT l ms (i + 1))) = rcs (layT l ms (i + 1)) := List.take_of_length_le (by simp)
        have hsm : (i + 1 + 1) * 16 ≤ 1099511627776 ∧ (i + 1 + 1) * 2 ≤ 1099511627776 ∧ i + 1 + 1 ≤ 1099511627776 := by omega
        have hno : ¬ (i + 1 + 1) * 2 ≤ (i + 1) * 2 := by omega
        have hsn := rcs_snoc (layT l ms (i + 1)) (layP l ms (i + 1))
        rw [layT_succ, layP, ratP, hp1] at hsn
        dsimp only at hsn
        refine E.cond (t := true) (by simp; omega) (fun _ => ?_) (fun h => by cases h)
        refine E.skip ?_
        refine E.seq ?_
        refine E.block ?_ -- 3
        refine E.seq ?_
        refine E.reg hr (by simp; rfl) ?_ -- region 13
        refine E.seq ?_
        refine E.seq ?_
        refine E.reg hr (by simp; rfl) ?_ -- region 14
        refine E.cond (t := true) (by simp <;> omega) (fun _ => ?_) (fun h => by cases h)
        refine E.reg hr (by simp [hwP, hjo, hcur2]; rfl) ?_ -- region 15
        refine E.drawC mixed hr [15, 16, 17] [9, 13, 15, 16, 17] [4, 9, 13, 15, 16, 17] (by kernel_rfl) (by simp [g125, pksAt, flat, ht, pksOf_pcs, hl', hwP, aI, pI, aP, pP, hio, hoI, hcur, e0, e1, gRat, hrb, ratV, hlen, htk, hsm, hno, hsn]; rfl) ?_ -- region 16
        refine E.reg hr (by simp [hw]; rfl) ?_ -- region 12
        exact ⟨i + 1 + 1, Leads.ren [13] rfl rfl rfl ⟨rfl, rfl⟩ (by simp [S55]) (by simp [S55]), by omega, by dsimp only; omega⟩
      · have hll : l.length = i + 1 := by omega
        refine E.cond (t := false) (by simp; omega) (fun h => by cases h) (fun _ => ?_)
        refine E.exit ?_ -- 2
        refine E.seq ?_
        refine E.reg hr (by simp; rfl) ?_ -- region 17
        refine E.ret ?_
        refine outK.ret rfl rfl ?_
        exact ⟨11, by simp [hll], by simp [layL, layT, hll], by omega⟩
end Go.Proofs.YtkongcnmkiihjaaGreatDoor

namespace Go.Proofs.YtkongcnmkiihjaaGreatDoor
open Go Go.Ab Go.Proofs
/-! ### layers: the reference's entry -/
theorem layE_of {l : List Pk} {ms : List Int} (h : pksE l = 0) : layE l ms = if ms.length = l.length then firstV (ms.map winM) else 2 := by
  by_cases h1 : ms.length = l.length
  · simp only [layE, firstV, h, whenV, h1]
    simp
    exact fun e => e.symm
  · simp [layE, firstV, h, whenV, h1]
theorem scd2 : ∀ (φ φ0 : Vl) (s s0 : Value), den φ0 s0 = den φ s → denL φ0 [s0, .slice none 0 0] = denL φ [s, .slice none 0 0] := fun φ φ0 s s0 h => by simp [denL, den, h]
theorem scs2 : ∀ (p : Nat → Prop) (s : Value), sc p s → scL p [s, .slice none 0 0] := fun _ _ h => ⟨h, trivial, trivial⟩
def g55 (args : List Value) (H : Heap) (n : Nat) : R := match args with
  | [t, u] => match pksR H t, intsW H u with
    | some l, some ms => if pksE l = 0 then (if layE l ms = 0 then (if l = [] then some (.tuple #[.slice none 0 0, iv 0], H, n) else some (.tuple #[.slice (some ⟨n, 0, some 0⟩) l.length 0, iv 0], (n, .ext (rcs (layL l ms)) 96 2) :: H, n + 1)) else some (.tuple #[.slice none 0 0, iv (layE l ms)], H, n)) else none
    | _, _ => none
  | _ => none
theorem ok55 : EntOk Tryz.prog (55, g55) := by
  intro args H n v H' n' h
  simp only [g55] at h
  split at h
  · rename_i t u
    split at h
    · rename_i l ms ht hu
      split at h
      · rename_i hpe
        have hE := layE_of (ms := ms) hpe
        unfold pksR at ht
        split at ht
        · injection ht with ht; subst ht
          unfold intsW at hu
          split at hu
          · injection hu with hu; subst hu
            rw [if_pos (show layE [] [] = 0 from rfl), if_pos rfl] at h
            injection h with h; injection h with e1 e2; injection e2 with e2 e3; subst e1 e2 e3
            exact AC.liftP rfl (Part.plain (by simp) [] (by simp [Seen]) gsz ⟨_, _, w55nn0⟩)
          · obtain ⟨hf, hc, rfl, hlt⟩ := intsAt_ok hu
            by_cases hz : ms = []
            · subst hz
              rw [if_pos (show layE [] [] = 0 from rfl), if_pos rfl] at h
              injection h with h; injection h with e1 e2; injection e2 with e2 e3; subst e1 e2 e3
              exact AC.liftP rfl (Part.one (fun x => [.slice none 0 0, x]) scd1 scs1 hf hc (afL_iv []) [] (by simp [Seen]) gsz fun c0 => ⟨_, _, w55ni0 _ c0⟩)
            · have hz' : ¬ ms.length = ([] : List Pk).length := fun e => hz (List.length_eq_zero_iff.1 e)
              rw [if_neg hz'] at hE
              rw [hE, if_neg (by omega)] at h
              injection h with h; injection h with e1 e2; injection e2 with e2 e3; subst e1 e2 e3
              exact AC.liftP rfl (Part.one (fun x => [.slice none 0 0, x]) scd1 scs1 hf hc (afL_iv ms) [] (by simp [Seen]) gsz fun c0 => ⟨_, _, w55nix ms _ c0 hz⟩)
          · cases hu
        · obtain ⟨hf, hc, rfl, hlt⟩ := pksAt_ok ht
          unfold intsW at hu
          split at hu
          · injection hu with hu; subst hu
            by_cases hz : l = []
            · subst hz
              rw [if_pos (show layE [] [] = 0 from rfl), if_pos rfl] at h
              injection h with h; injection h with e1 e2; injection e2 with e2 e3; subst e1 e2 e3
              exact AC.liftP rfl (Part.one (fun x => [x, .slice none 0 0]) scd2 scs2 hf hc (afL_pcs []) [] (by simp [Seen]) gsz fun c0 => ⟨_, _, w55in0 _ c0⟩)
            · have hz' : ¬ ([] : List Int).length = l.length := fun e => hz (List.length_eq_zero_iff.1 e.symm)
              rw [if_neg hz'] at hE
              rw [hE, if_neg (by omega)] at h
              injection h with h; injection h with e1 e2; injection e2 with e2 e3; subst e1 e2 e3
              exact AC.liftP rfl (Part.one (fun x => [x, .slice none 0 0]) scd2 scs2 hf hc (afL_pcs l) [] (by simp [Seen]) gsz fun c0 => ⟨_, _, w55inx l _ c0 hz⟩)
          · obtain ⟨hf2, hc2, rfl, hlt2⟩ := intsAt_ok hu
            by_cases hml : ms.length = l.length
            · rw [if_pos hml] at hE
              by_cases hz : firstV (ms.map winM) = 0
              · rw [if_pos (hE.trans hz)] at h
                by_cases hn : l = []
                · subst hn
                  have := List.length_eq_zero_iff.1 hml
                  subst this
                  rw [if_pos rfl] at h
                  injection h with h; injection h with e1 e2; injection e2 with e2 e3; subst e1 e2 e3
                  exact AC.liftP rfl (Part.two (fun s u => [s, u]) two_den two_sc hf hc (afL_pcs []) hf2 hc2 (afL_iv []) [] (by simp [Seen]) gsz fun c0 c02 => ⟨_, _, w55ii0 _ c0 _ c02⟩)
                · rw [if_neg hn] at h
                  injection h with h; injection h with e1 e2; injection e2 with e2 e3; subst e1 e2 e3
                  refine AC.liftF (names_tup _ _ _ _) (.inr ⟨_, _, _, rfl, afL_rcs _⟩) (Part.two (fun s u => [s, u]) two_den two_sc hf hc (afL_pcs l) hf2 hc2 (afL_iv ms) [] (by simp [Seen]) gsz fun c0 c02 => ?_)
                  obtain ⟨u, H1, n1, H2, hAC, ⟨m, hu, hm, hle⟩, hh⟩ := w55ii l ms _ c0 _ c02 hn hpe hml hz
                  subst hu
                  rw [layL_length] at hAC hh
                  have := hh (by simp)
                  subst this
                  exact ⟨m, _, _, by omega, hm, hAC⟩
              · rw [hE, if_neg hz] at h
                injection h with h; injection h with e1 e2; injection e2 with e2 e3; subst e1 e2 e3
                exact AC.liftP rfl (Part.two (fun s u => [s, u]) two_den two_sc hf hc (afL_pcs l) hf2 hc2 (afL_iv ms) [] (by simp [Seen]) gsz fun c0 c02 => ⟨_, _, w55iie l ms _ c0 _ c02 hml (by omega) hz⟩)
            · rw [if_neg hml] at hE
              rw [hE, if_neg (by omega)] at h
              injection h with h; injection h with e1 e2; injection e2 with e2 e3; subst e1 e2 e3
              exact AC.liftP rfl (Part.two (fun s u => [s, u]) two_den two_sc hf hc (afL_pcs l) hf2 hc2 (afL_iv ms) [] (by simp [Seen]) gsz fun c0 c02 => ⟨_, _, w55iix l ms _ c0 _ c02 hml⟩)
          · cases hu
        · cases ht
      · cases h
    · cases h
  · cases h
end Go.Proofs.YtkongcnmkiihjaaGreatDoor

namespace Go.Proofs.YtkongcnmkiihjaaGreatDoor
open Go Go.Ab Go.Proofs
/-! ### few picks; the first error; lists alike -/
def shortK (k : Nat) : Bool := decide (k ≤ 8) || decide (k = 65)
theorem w44 (k o c : Nat) : AC Tryz.prog 44 [.slice (some ⟨9, o, none⟩) k c] [(9, .inp o [])] 10 (.bool (shortK k)) [(9, .inp o [])] 10 := by
  have hr := recT_ok (P := Tryz.prog) (l := []) (by simp)
  refine AC.pure Tryz.func44 rfl (by kernel_rfl) rfl [] rfl ?_
  refine E.seq ?_
  refine E.reg hr (by simp; rfl) ?_ -- region 0
  refine E.seq ?_
  by_cases h : k ≤ 8
  · have h' : (k : Int) ≤ 8 := by omega
    refine E.reg hr (by simp [yieldedA, h']; rfl) ?_ -- region 1
    refine E.ret ?_
    exact pureK.ret rfl rfl (by simp [shortK, h]) (by repeat first | exact sub_refl _ | refine sub_cons rfl ?_)
  · have h' : ¬ (k : Int) ≤ 8 := by omega
    refine E.reg hr (by simp [yieldedA, h']; rfl) ?_ -- region 1
    refine E.ret ?_
    refine pureK.ret rfl rfl ?_ (by repeat first | exact sub_refl _ | refine sub_cons rfl ?_)
    have : ((k : Int) = 65) = (k = 65) := by rw [eq_iff_iff]; omega
    simp [shortK, h, this]
theorem w44n : AC Tryz.prog 44 [.slice none 0 0] [] 9 (.bool true) [] 9 := by
  have hr := recT_ok (P := Tryz.prog) (l := []) (by simp)
  refine AC.pure Tryz.func44 rfl (by kernel_rfl) rfl [] rfl ?_
  refine E.seq ?_
  refine E.reg hr (by simp; rfl) ?_ -- region 0
  refine E.seq ?_
  refine E.reg hr (by simp [yieldedA]; rfl) ?_ -- region 1
  refine E.ret ?_
  exact pureK.ret rfl rfl (by simp) (by repeat first | exact sub_refl _ | refine sub_cons rfl ?_)
def g44 (args : List Value) (H : Heap) (n : Nat) : R := match args with
  | [.slice none 0 0] => some (.bool true, H, n)
  | [.slice (some a) len _] => match flat a, cellsA H a.block a.off 0 with
    | true, some [] => some (.bool (shortK len), H, n)
    | _, _ => none
  | _ => none
theorem ok44 : EntOk Tryz.prog (44, g44) := by
  intro args H n v H' n' h
  simp only [g44] at h
  split at h
  · injection h with h; injection h with e1 e2; injection e2 with e2 e3; subst e1 e2 e3
    exact AC.liftP rfl (Part.plain (by simp) [] (by simp [Seen]) gsz ⟨_, _, w44n⟩)
  · split at h
    · rename_i hf hc
      injection h with h; injection h with e1 e2; injection e2 with e2 e3; subst e1 e2 e3
      exact AC.liftP rfl (Part.one (fun s => [s]) (by intro φ φ0 s s0 h; simp [denL, h]) (by intro p s h; exact ⟨h, trivial⟩) hf hc rfl [] (by simp [Seen]) gsz fun c => ⟨_, _, w44 _ _ c⟩)
    · cases h
  · cases h
theorem w27 (l : List Int) (o c : Nat) (hl : l.length < 2 ^ 31) : AC Tryz.prog 27 [.slice (some ⟨9, o, none⟩) l.length c] [(9, .inp o (l.map iv))] 10 (iv (firstV l)) [(9, .inp o (l.map iv))] 10 := by
  have hr := recT_ok (P := Tryz.prog) (l := [(94, g94)]) (by simp [ok94])
  have hl' : l.length < 2147483648 := by omega
  have ht : List.take l.length (l.map iv) = l.map iv := List.take_of_length_le (by simp)
  refine AC.pure Tryz.func27 rfl (by kernel_rfl) rfl [] rfl ?_
  refine E.seq ?_
  refine E.reg hr (by simp; rfl) ?_ -- region 0
  refine E.seq ?_
  refine E.reg hr (by simp [g94, intsAt, flat, hl', ht, intsOf_iv]; rfl) ?_ -- region 1
  refine E.ret ?_
  exact pureK.ret rfl rfl (by simp) (by repeat first | exact sub_refl _ | refine sub_cons rfl ?_)
theorem ok27 : EntOk Tryz.prog (27, g94) := by
  intro args H n v H' n' h
  simp only [g94] at h
  split at h
  · rename_i a len c
    rw [Option.map_eq_some_iff] at h
    obtain ⟨l, h1, h⟩ := h
    injection h with e1 e2; injection e2 with e2 e3; subst e1 e2 e3
    obtain ⟨hf, hc, hlen, hlt⟩ := intsAt_ok h1
    subst hlen
    exact AC.liftP rfl (Part.one (fun s => [s]) (by intro φ φ0 s s0 h; simp [denL, h]) (by intro p s h; exact ⟨h, trivial⟩) hf hc (afL_iv l) [] (by simp [Seen]) gsz fun c => ⟨_, _, w27 l _ c hlt⟩)
  · cases h
theorem w43 (l : List Int) (o c o2 c2 : Nat) (hl : l.length < 2 ^ 31) : AC Tryz.prog 43 [inpM 9 o l.length c, inpM 10 o2 l.length c2] [(10, .inp o2 (ic l)), (9, .inp o (ic l))] 11 (.bool true) [(10, .inp o2 (ic l)), (9, .inp o (ic l))] 11 := by
  have hr := recT_ok (P := Tryz.prog) (l := []) (by simp)
  refine AC.pure Tryz.func43 rfl (by kernel_rfl) rfl [0, 1, 5] rfl ?_
  refine E.seq ?_
  refine E.reg hr (by simp; rfl) ?_ -- region 0
  refine E.seq ?_
  refine E.seq ?_
  refine E.reg hr (by simp; rfl) ?_ -- region 1
  refine E.cond (t := false) (by simp) (fun h => by cases h) (fun _ => ?_)
  refine E.skip ?_
  refine E.seq ?_
  refine E.seq ?_
  refine E.reg hr (by simp; rfl) ?_ -- region 3
  refine E.block ?_ -- 0
  refine E.loop ?_
  refine EL.ind (fun i : Nat => { fr := [(0, inpM 9 o l.length c), (1, inpM 10 o2 l.length c2), (5, iv i)], sz := 26, H := [(10, .inp o2 (ic l)), (9, .inp o (ic l))], n := 11, marks := [], vs := [0, 1, 5] }) (fun i => l.length - i) (fun i => i ≤ l.length) 0 (.less rfl rfl rfl (by simp) (by simp)) (Nat.zero_le _) (fun _ => rfl) ?_
  intro i hi
  have hw : IntKind.i64.wrap ((i : Int) + 1) = (i : Int) + 1 := W_in (by omega) (by omega)
  refine E.seq ?_
  refine E.seq ?_
  refine E.reg hr (by simp; rfl) ?_ -- region 4
  by_cases h : i < l.length
  · refine E.cond (t := true) (by simp [h]) (fun _ => ?_) (fun h => by cases h)
    refine E.skip ?_
    refine E.seq ?_
    refine E.block ?_ -- 1
    refine E.seq ?_
    refine E.drawC mixed hr [] [] [3, 7] (by kernel_rfl) (by simp [h]; rfl) ?_ -- region 6
    refine E.cond (t := false) (by simp) (fun h => by cases h) (fun _ => ?_)
    refine E.skip ?_
    refine E.reg hr (by simp [hw]; rfl) ?_ -- region 5
    exact ⟨i + 1, .less rfl rfl rfl (by simp) (by simp), h, by dsimp only; omega⟩
  · refine E.cond (t := false) (by simp [h]) (fun h => by cases h) (fun _ => ?_)
    refine E.exit ?_ -- 0
    refine E.seq ?_
    refine E.reg hr (by simp; rfl) ?_ -- region 8
    refine E.ret ?_
    exact pureK.ret rfl rfl (by simp) (by repeat first | exact sub_refl _ | refine sub_cons rfl ?_)
theorem w43e (o c : Nat) : AC Tryz.prog 43 [inpM 9 o 0 c, .slice none 0 0] [(9, .inp o [])] 10 (.bool true) [(9, .inp o [])] 10 := by
  have hr := recT_ok (P := Tryz.prog) (l := []) (by simp)
  refine AC.pure Tryz.func43 rfl (by kernel_rfl) rfl [0, 1, 5] rfl ?_
  refine E.seq ?_
  refine E.reg hr (by simp; rfl) ?_ -- region 0
  refine E.seq ?_
  refine E.seq ?_
  refine E.reg hr (by simp; rfl) ?_ -- region 1
  refine E.cond (t := false) (by simp) (fun h => by cases h) (fun _ => ?_)
  refine E.skip ?_
  refine E.seq ?_
  refine E.seq ?_
  refine E.reg hr (by simp; rfl) ?_ -- region 3
  refine E.block ?_ -- 0
  refine E.loop ?_
  refine EL.step ?_
  refine E.seq ?_
  refine E.seq ?_
  refine E.reg hr (by simp; rfl) ?_ -- region 4
  refine E.cond (t := false) (by simp) (fun h => by cases h) (fun _ => ?_)
  refine E.exit ?_ -- 0
  refine E.seq ?_
  refine E.reg hr (by simp; rfl) ?_ -- region 8
  refine E.ret ?_
  exact pureK.ret rfl rfl (by simp) (by repeat first | exact sub_refl _ | refine sub_cons rfl ?_)
/-- both hold the same integers -/
def alikeI (H : Heap) (s u : Value) : Bool := match s, u with
  | .slice (some a) k _, .slice none 0 0 => match intsAt H a k with
    | some [] => true
    | _ => false
  | .slice (some a) k _, .slice (some a2) k2 _ => match intsAt H a k, intsAt H a2 k2 with
    | some x, some y => decide (x = y)
    | _, _ => false
  | _, _ => false
def g43 (args : List Value) (H : Heap) (n : Nat) : R := match args with
  | [s, u] => if alikeI H s u = true then some (.bool true, H, n) else none
  | _ => none
theorem alikeI_part {H : Heap} {s u : Value} {n : Nat} {R : List Value → Heap → Nat → Prop} (mk : Value → Value → List Value) (hmk : ∀ φ φ0 s s0 u u0, den φ0 s0 = den φ s → den φ0 u0 = den φ u → denL φ0 (mk s0 u0) = denL φ (mk s u)) (hms : ∀ (p : Nat → Prop) s u, sc p s → sc p u → scL p (mk s u)) (h : alikeI H s u = true)
    (h1 : ∀ o c, R (mk (inpM 9 o 0 c) (.slice none 0 0)) [(9, .inp o [])] 10) (h2 : ∀ (l : List Int) o c o2 c2, l.length < 2 ^ 31 → R (mk (inpM 9 o l.length c) (inpM 10 o2 l.length c2)) [(10, .inp o2 (ic l)), (9, .inp o (ic l))] 11) : Part Tryz.prog (mk s u) H n R := by
  unfold alikeI at h
  split at h
  · split at h
    · rename_i hx
      obtain ⟨hf, hc, hlen, _⟩ := intsAt_ok hx
      subst hlen
      exact Part.one (fun x => mk x (.slice none 0 0)) (fun φ φ0 s s0 h => hmk φ φ0 s s0 _ _ h rfl) (fun p s h => hms p s _ h trivial) hf hc (afL_iv []) [] (by simp [Seen]) gsz fun c0 => h1 _ c0
    · cases h
  · split at h
    · rename_i x y hx hy
      have := of_decide_eq_true h
      subst this
      obtain ⟨hf, hc, hlen, hlt⟩ := intsAt_ok hx
      obtain ⟨hf2, hc2, hlen2, _⟩ := intsAt_ok hy
      subst hlen hlen2
      exact Part.two mk hmk hms hf hc (afL_iv x) hf2 hc2 (afL_iv x) [] (by simp [Seen]) gsz fun c0 c02 => h2 x _ c0 _ c02 hlt
    · cases h
  · cases h
theorem ok43 : EntOk Tryz.prog (43, g43) := by
  intro args H n v H' n' h
  simp only [g43] at h
  split at h
  · split at h
    · rename_i hc
      injection h with h; injection h with e1 e2; injection e2 with e2 e3; subst e1 e2 e3
      exact AC.liftP rfl (alikeI_part (fun s u => [s, u]) two_den two_sc hc (fun o c => ⟨_, _, w43e o c⟩) fun l o c o2 c2 hl => ⟨_, _, w43 l o c o2 c2 hl⟩)
    · cases h
  · cases h
theorem w42x (e : Int) (he : e ≠ 0) : AC Tryz.prog 42 [.slice none 0 0, iv e, iv e, .slice none 0 0] [] 9 (.bool true) [] 9 := by
  have hr := recT_ok (P := Tryz.prog) (l := []) (by simp)
  refine AC.pure Tryz.func42 rfl (by kernel_rfl) rfl [] rfl ?_
  refine E.seq ?_
  refine E.reg hr (by simp; rfl) ?_ -- region 0
  refine E.seq ?_
  refine E.seq ?_
  refine E.reg hr (by simp; rfl) ?_ -- region 1
  refine E.cond (t := true) (by simp [he]) (fun _ => ?_) (fun h => by cases h)
  refine E.seq ?_
  refine E.reg hr (by simp [yieldedA]; rfl) ?_ -- region 2
  refine E.ret ?_
  exact pureK.ret rfl rfl (by simp) (by repeat first | exact sub_refl _ | refine sub_cons rfl ?_)
theorem w42e (o c : Nat) : AC Tryz.prog 42 [inpM 9 o 0 c, iv 0, iv 0, .slice none 0 0] [(9, .inp o [])] 10 (.bool true) [(9, .inp o [])] 10 := by
  have hr := recT_ok (P := Tryz.prog) (l := [(43, g43)]) (by simp [ok43])
  refine AC.pure Tryz.func42 rfl (by kernel_rfl) rfl [] rfl ?_
  refine E.seq ?_
  refine E.reg hr (by simp; rfl) ?_ -- region 0
  refine E.seq ?_
  refine E.seq ?_
  refine E.reg hr (by simp; rfl) ?_ -- region 1
  refine E.cond (t := false) (by simp) (fun h => by cases h) (fun _ => ?_)
  refine E.skip ?_
  refine E.seq ?_
  refine E.reg hr (by simp [yieldedA, g43, alikeI, intsAt, flat, intsOf]; rfl) ?_ -- region 3
  refine E.ret ?_
  exact pureK.ret rfl rfl (by simp) (by repeat first | exact sub_refl _ | refine sub_cons rfl ?_)
theorem w42 (l : List Int) (o c o2 c2 : Nat) (hl : l.length < 2 ^ 31) : AC Tryz.prog 42 [inpM 9 o l.length c, iv 0, iv 0, inpM 10 o2 l.length c2] [(10, .inp o2 (ic l)), (9, .inp o (ic l))] 11 (.bool true) [(10, .inp o2 (ic l)), (9, .inp o (ic l))] 11 := by
  have hr := recT_ok (P := Tryz.prog) (l := [(43, g43)]) (by simp [ok43])
  have hl' : l.length < 2147483648 := by omega
  have ht : List.take l.length (ic l) = ic l := List.take_of_length_le (by simp)
  refine AC.pure Tryz.func42 rfl (by kernel_rfl) rfl [] rfl ?_
  refine E.seq ?_
  refine E.reg hr (by simp; rfl) ?_ -- region 0
  refine E.seq ?_
  refine E.seq ?_
  refine E.reg hr (by simp; rfl) ?_ -- region 1
  refine E.cond (t := false) (by simp) (fun h => by cases h) (fun _ => ?_)
  refine E.skip ?_
  refine E.seq ?_
  refine E.reg hr (by simp [yieldedA, g43, alikeI, intsAt, flat, hl', ht, intsOf_ic]; rfl) ?_ -- region 3
  refine E.ret ?_
  exact pureK.ret rfl rfl (by simp) (by repeat first | exact sub_refl _ | refine sub_cons rfl ?_)
def g42 (args : List Value) (H : Heap) (n : Nat) : R := match args with
  | [.slice none 0 0, .int .i64 e, .int .i64 f, .slice none 0 0] => if e = f ∧ e ≠ 0 then some (.bool true, H, n) else none
  | [s, .int .i64 e, .int .i64 f, u] => if e = 0 ∧ f = 0 ∧ alikeI H s u = true then some (.bool true, H, n) else none
  | _ => none
theorem ok42 : EntOk Tryz.prog (42, g42) := by
  intro args H n v H' n' h
  simp only [g42] at h
  split at h
  · split at h
    · rename_i hc
      obtain ⟨rfl, he⟩ := hc
      injection h with h; injection h with e1 e2; injection e2 with e2 e3; subst e1 e2 e3
      exact AC.liftP rfl (Part.plain (by simp) [] (by simp [Seen]) gsz ⟨_, _, w42x _ he⟩)
    · cases h
  · split at h
    · rename_i hc
      obtain ⟨rfl, rfl, hc⟩ := hc
      injection h with h; injection h with e1 e2; injection e2 with e2 e3; subst e1 e2 e3
      exact AC.liftP rfl (alikeI_part (fun s u => [s, iv 0, iv 0, u]) (by intro φ φ0 s s0 u u0 h h'; simp [denL, den, h, h']) (fun _ _ _ h h' => ⟨h, trivial, trivial, h', trivial⟩) hc (fun o c => ⟨_, _, w42e o c⟩) fun l o c o2 c2 hl => ⟨_, _, w42 l o c o2 c2 hl⟩)
    · cases h
  · cases h
end Go.Proofs.YtkongcnmkiihjaaGreatDoor

namespace Go.Proofs.YtkongcnmkiihjaaGreatDoor
open Go Go.Ab Go.Proofs
/-! ### equal pairs are equal -/
section
variable {P : Program}
theorem runP_bind {α β : Type} {P : Program} (a : Sem α) (g : α → Sem β) : runP P (Sem.bind a g) = (runP P a).bind fun x => runP P (g x) := by
  induction a with
  | program k ih => exact ih P
  | mark m k ih => exact ih
  | _ => rfl
theorem runP_bind' {α β : Type} (a : Sem α) (g : α → Sem β) : runP P (a >>= g) = (runP P a).bind fun x => runP P (g x) := runP_bind a g
theorem runP_pure {α : Type} (a : α) : runP P (pure a : Sem α) = some a := rfl
theorem runP_program : runP P program = some P := rfl
theorem runP_und' {t : TypeId} {d : TypeDesc} (h : P.underlying t = some d) : runP P (underlying t) = some d := by
  show runP P (match P.underlying t with | some d => _ | none => _) = _
  rw [h]
  rfl
theorem runP_ite {α : Type} {c : Prop} [Decidable c] (a b : Sem α) : runP P (if c then a else b) = if c then runP P a else runP P b := by
  split <;> rfl
theorem runP_eqStruct (d : Nat) {t : TypeId} {fs : Array Field} (xs ys : Array Value) (ht : P.underlying t = some (.struct fs)) (hp : P.stoodInHeld t = false)
    (h : ∀ f ∈ fs.toList, ∃ a b, runP P (part f.type xs f.offset) = some a ∧ runP P (part f.type ys f.offset) = some b ∧ runP P (Op.equalIn d f.type a b) = some true) : runP P (Op.equalIn (d + 1) t (.agg xs) (.agg ys)) = some true := by
  simp only [Op.equalIn, runP_bind', runP_und' ht, Option.bind_some, runP_program, hp, Bool.false_eq_true, if_false]
  rw [← Array.forIn_toList]
  generalize fs.toList = fl at h
  induction fl with
  | nil => rfl
  | cons f fl ih =>
    obtain ⟨a, b, h1, h2, h3⟩ := h f (List.mem_cons_self ..)
    have ih := ih fun f hf => h f (List.mem_cons_of_mem _ hf)
    simp only [List.forIn_cons, runP_bind', runP_ite]
    split
    · simp only [h1, h2, h3, Option.bind_some, Bool.not_true, Bool.false_eq_true, if_false, runP_pure]
      exact ih
    · simp only [runP_pure, Option.bind_some]
      exact ih
theorem runP_eqInt (d : Nat) {t : TypeId} {k k' : IntKind} (n : Int) (h : P.underlying t = some (.int k')) : runP P (Op.equalIn (d + 1) t (.int k n) (.int k n)) = some true := by
  simp only [Op.equalIn, runP_bind', runP_und' h, Option.bind_some, if_true, runP_pure, beq_self_eq_true]
theorem runP_eqArr2 (d : Nat) {t e : TypeId} {n : Nat} {xs ys : Array Value} (ht : P.underlying t = some (.array 2 e)) (hn : runP P (sizeOf e) = some n)
    (h : ∀ i, i < 2 → ∃ a b, runP P (part e xs (i * n)) = some a ∧ runP P (part e ys (i * n)) = some b ∧ runP P (Op.equalIn d e a b) = some true) : runP P (Op.equalIn (d + 1) t (.agg xs) (.agg ys)) = some true := by
  obtain ⟨a0, b0, p0, q0, r0⟩ := h 0 (by omega)
  obtain ⟨a1, b1, p1, q1, r1⟩ := h 1 (by omega)
  simp only [Op.equalIn, runP_bind', runP_und' ht, Option.bind_some, hn]
  have hl : List.range' 0 2 1 = [0, 1] := rfl
  simp only [Std.Legacy.Range.forIn_eq_forIn_range', Std.Legacy.Range.size, Nat.sub_zero, Nat.add_one_sub_one, Nat.div_one, hl, List.forIn_cons, List.forIn_nil, runP_bind', p0, q0, r0, p1, q1, r1, Option.bind_some, Bool.not_true, Bool.false_eq_true, if_false, runP_pure]
end
theorem eq_pair {t : TypeId} {f1 f2 : Field} (ht : Tryz.prog.underlying t = some (.struct #[f1, f2])) (hp : Tryz.prog.stoodInHeld t = false) (h1 : f1.type = 3 ∧ f1.offset = 0) (h2 : f2.type = 3 ∧ f2.offset = 1) (a b : Int) (d : Nat) : runP Tryz.prog (Op.equalIn (d + 2) t (.agg #[iv a, iv b]) (.agg #[iv a, iv b])) = some true := by
  refine runP_eqStruct (d + 1) _ _ ht hp fun f hf => ?_
  simp at hf
  rcases hf with rfl | rfl
  · rw [h1.1, h1.2]
    exact ⟨iv a, iv a, by kernel_rfl, by kernel_rfl, runP_eqInt d a Tryz.underlying3⟩
  · rw [h2.1, h2.2]
    exact ⟨iv b, iv b, by kernel_rfl, by kernel_rfl, runP_eqInt d b Tryz.underlying3⟩
theorem neq96 {x y : Operand} {H : Heap} {n : Nat} (a b : Int) : binV Tryz.prog .neq 96 x y (.agg ⟨[iv a, iv b]⟩) (.agg ⟨[iv a, iv b]⟩) H n = some (.bool false, H, n) := by
  have h : runP Tryz.prog (do eqGuard .neq 96 x y (.agg ⟨[iv a, iv b]⟩) (.agg ⟨[iv a, iv b]⟩); binOp .neq 96 (.agg ⟨[iv a, iv b]⟩) (.agg ⟨[iv a, iv b]⟩)) = some (.bool false) := by
    rw [runP_bind']
    have h1 : runP Tryz.prog (eqGuard .neq 96 x y (.agg ⟨[iv a, iv b]⟩) (.agg ⟨[iv a, iv b]⟩)) = some () := by kernel_rfl
    rw [h1, Option.bind_some]
    show runP Tryz.prog (Op.equalIn 10000 96 (.agg ⟨[iv a, iv b]⟩) (.agg ⟨[iv a, iv b]⟩) >>= fun b => pure (Value.bool (!b))) = _
    rw [runP_bind', eq_pair Tryz.underlying96 (by kernel_rfl) ⟨rfl, rfl⟩ ⟨rfl, rfl⟩ a b 9998]
    rfl
  have ha : afq (.agg ⟨[iv a, iv b]⟩) = true := rfl
  unfold binV
  rw [ha]
  simp only [Bool.and_self, if_true]
  rw [h]
  rfl
theorem eql76 {x y : Operand} {H : Heap} {n : Nat} (a b : Int) : binV Tryz.prog .eql 76 x y (.agg ⟨[iv a, iv b]⟩) (.agg ⟨[iv a, iv b]⟩) H n = some (.bool true, H, n) := by
  have he : runP Tryz.prog (Op.equalIn 10000 76 (.agg ⟨[iv a, iv b]⟩) (.agg ⟨[iv a, iv b]⟩)) = some true := by
    refine runP_eqArr2 9999 (n := 1) Tryz.underlying76 (by kernel_rfl) fun i hi => ?_
    rcases (show i = 0 ∨ i = 1 by omega) with rfl | rfl
    · exact ⟨iv a, iv a, by kernel_rfl, by kernel_rfl, runP_eqInt 9998 a Tryz.underlying3⟩
    · exact ⟨iv b, iv b, by kernel_rfl, by kernel_rfl, runP_eqInt 9998 b Tryz.underlying3⟩
  have h : runP Tryz.prog (do eqGuard .eql 76 x y (.agg ⟨[iv a, iv b]⟩) (.agg ⟨[iv a, iv b]⟩); binOp .eql 76 (.agg ⟨[iv a, iv b]⟩) (.agg ⟨[iv a, iv b]⟩)) = some (.bool true) := by
    rw [runP_bind']
    have h1 : runP Tryz.prog (eqGuard .eql 76 x y (.agg ⟨[iv a, iv b]⟩) (.agg ⟨[iv a, iv b]⟩)) = some () := by kernel_rfl
    rw [h1, Option.bind_some]
    show runP Tryz.prog (Op.equalIn 10000 76 (.agg ⟨[iv a, iv b]⟩) (.agg ⟨[iv a, iv b]⟩) >>= fun b => pure (Value.bool b)) = _
    rw [runP_bind', he]
    rfl
  have ha : afq (.agg ⟨[iv a, iv b]⟩) = true := rfl
  unfold binV
  rw [ha]
  simp only [Bool.and_self, if_true]
  rw [h]
  rfl
/-! ### what both sides answer -/
theorem rcs_at {L : List (Int × Int)} {i : Nat} (h : i < L.length) : ((rcs L).drop (i * 2)).take 2 = [iv L[i].1, iv L[i].2] := by
  induction L generalizing i with
  | nil => simp at h
  | cons a L ih =>
    cases i with
    | zero => simp [rcs]
    | succ i =>
      have := ih (i := i) (by simpa using h)
      rw [show (i + 1) * 2 = i * 2 + 2 by omega]
      show (List.drop (i * 2 + 2) ([iv a.1, iv a.2] ++ rcs L)).take 2 = _
      simpa using this
theorem cmE_bad {l : List Pk} {lo hi : Int} {ms : List Int} (h : refE l lo hi ≠ 0) : cmE l lo hi ms = refE l lo hi := by
  have : cm0 l lo hi ms = refE l lo hi := by
    simp only [refE, cm0, firstV] at h ⊢
    by_cases h1 : pksE l = 0
    · rw [if_pos h1] at h ⊢
      rw [if_pos h1]
      by_cases h2 : bndE lo hi = 0
      · rw [if_pos h2] at h; exact absurd rfl h
      · rw [if_neg h2, if_neg h2]
    · rw [if_neg h1, if_neg h1]
  rw [cmE, this, if_neg h]
theorem cmE_good {l : List Pk} {lo hi : Int} {ms : List Int} (h : refE l lo hi = 0) : (if ms.length = l.length then cmG l lo hi ms l.length 0 else 2) = cmE l lo hi ms := by
  have : cm0 l lo hi ms = if ms.length = l.length then 0 else 2 := by
    simp only [refE, firstV] at h
    by_cases h1 : pksE l = 0
    · rw [if_pos h1] at h
      by_cases h2 : bndE lo hi = 0
      · by_cases h3 : ms.length = l.length <;> simp [cm0, firstV, whenV, h1, h2, h3]
      · rw [if_neg h2] at h; exact absurd h h2
    · rw [if_neg h1] at h; exact absurd h h1
  rw [cmE, this]
  by_cases h3 : ms.length = l.length <;> simp [h3]
theorem layE_bad {l : List Pk} {ms : List Int} (h : pksE l ≠ 0) : layE l ms = pksE l := by simp [layE, firstV, h]
theorem refE_pks {l : List Pk} {lo hi : Int} (h : refE l lo hi = 0) : pksE l = 0 := by
  simp only [refE, firstV] at h
  by_cases h1 : pksE l = 0
  · exact h1
  · rw [if_neg h1] at h; exact absurd h h1
end Go.Proofs.YtkongcnmkiihjaaGreatDoor
