/-
The program's functions that print picks as text, walked (each a contract: no condition but those in its statement).
-/
import Derived.Lib.AppendIntMem
import Derived.Test.YtkongcnmkiihjaaGreatDoorYn
import Derived.Test.YtkongcnmkiihjaaGreatDoorTb
import Derived.Test.YtkongcnmkiihjaaGreatDoorKa
import Derived.Test.YtkongcnmkiihjaaGreatDoorAj
import Derived.Test.YtkongcnmkiihjaaGreatDoorAi
import Derived.Test.YtkongcnmkiihjaaGreatDoorYe
namespace Go.Proofs.YtkongcnmkiihjaaGreatDoor
open Go Go.Ab Go.Proofs Go.RowKit
def powV : List Value := Lib.pow10Tab.map (Value.int .u64)
theorem af_powV : afL powV = true := by kernel_rfl
@[simp] theorem renL_pow (ρ : Nat → Nat) : renL ρ powV = powV := by kernel_rfl
@[simp] theorem scL_pow (p : Nat → Prop) : scL p powV := scL_af _ _ af_powV
theorem gPow : Tryz.prog.globalNamed "internal/strconv.uint64pow10" = some 3 := by kernel_rfl
abbrev GP : Heap := [(3, .tab powV)]
theorem seenP {H : Heap} (h : hget H 3 = some (.tab powV)) : Seen Tryz.prog H GP := by
  intro x hx
  rw [List.mem_singleton] at hx
  subst hx
  exact ⟨by rw [gsz]; omega, h, rfl, scL_af _ _ af_powV⟩
theorem w180 (m : Int) (h0 : 0 ≤ m) (h1 : m ≤ 9223372036854775807) : AC Tryz.prog 180 [iv m] GP 9 (sL (dd m)) GP 9 := by
  refine AC.of_calls (by kernel_rfl) rfl fun p φ w hB hsc => ?_
  have hb := hB.rel.blk 3 (.tab powV) rfl
  obtain ⟨t, fz, hb⟩ := hb
  rw [hB.rel.glob 3 (by rw [gsz]; omega), denL_af _ _ af_powV] at hb
  have htab : Lib.TabIs Tryz.prog w "internal/strconv.uint64pow10" .u64 Lib.pow10Tab := by
    unfold Lib.TabIs World.var?
    rw [gPow]
    simp only [Option.bind_some, hb]
    rfl
  refine (Tryz.strconv_Itoa m (by omega) h1 w htab).mono fun e w' hh => ?_
  obtain ⟨rfl, k, os, rfl⟩ := hh
  have hi : Lib.itoa m = dd m := by unfold Lib.itoa; rw [if_neg (by omega)]; rfl
  rw [hi]
  exact ⟨rfl, Lib.below_grow _ _ (Nat.le_refl _) _ _⟩
open Classical in
noncomputable def g180 (args : List Value) (H : Heap) (n : Nat) : R := match args with
  | [.int .i64 m] => if 0 ≤ m ∧ m ≤ 9223372036854775807 ∧ hget H 3 = some (.tab powV) then some (sL (dd m), H, n) else none
  | _ => none
theorem ok180 : EntOk Tryz.prog (180, g180) := by
  intro args H n v H' n' hh
  simp only [g180] at hh
  split at hh
  · split at hh
    · rename_i hc
      injection hh with hh; injection hh with e1 e2; injection e2 with e2 e3; subst e1 e2 e3
      exact AC.liftP rfl (Part.plain (by simp) GP (seenP hc.2.2) gsz ⟨_, _, w180 _ hc.1 hc.2.1⟩)
    · cases hh
  · cases hh
set_option maxHeartbeats 4000000 in
set_option maxRecDepth 100000 in
theorem w154 (p : Pk) (hp : p.Ok) : AC Tryz.prog 154 [.agg ⟨p.cells⟩] GP 9 (sL (lineT p)) GP 9 := by
  have hr := recT_ok (P := Tryz.prog) (l := [(180, g180)]) (by simp only [List.forall_mem_cons]; exact ⟨ok180, by simp⟩)
  obtain ⟨p1, p2, p3, p4, p5, p6⟩ := hp
  have b0 : 0 ≤ p.t ∧ p.t ≤ 9223372036854775807 := by omega
  have b1 : 0 ≤ p.q ∧ p.q ≤ 9223372036854775807 := by omega
  have b2 : 0 ≤ p.e ∧ p.e ≤ 9223372036854775807 := by omega
  have d0 := dd_len (show p.t ≤ 1000000000 by omega)
  have d1 := dd_len p4
  have d2 := dd_len p6
  refine AC.pure Tryz.func154 rfl (by kernel_rfl) rfl [] rfl ?_
  refine E.seq ?_
  refine E.reg hr (by simp; rfl) ?_
  refine E.seq ?_
  refine E.drawC mixed hr [12] [] [2, 7] (by kernel_rfl) (by simp (disch := first | assumption | omega | (simp only [List.length_append, List.length_cons, List.length_nil]; omega)) [g180, b0, b1, b2, bin_adds]; rfl) ?_
  refine E.ret ?_
  exact pureK.ret rfl rfl (by simp [lineT]) (by repeat first | exact sub_refl _ | refine sub_cons rfl ?_)
open Classical in
noncomputable def g154 (args : List Value) (H : Heap) (n : Nat) : R := match args with
  | [.agg ⟨[.int .i64 t, .int .i64 q, .int .i64 e]⟩] => if Pk.Ok ⟨t, q, e⟩ ∧ hget H 3 = some (.tab powV) then some (sL (lineT ⟨t, q, e⟩), H, n) else none
  | _ => none
theorem ok154 : EntOk Tryz.prog (154, g154) := by
  intro args H n v H' n' hh
  simp only [g154] at hh
  split at hh
  · split at hh
    · rename_i hc
      injection hh with hh; injection hh with e1 e2; injection e2 with e2 e3; subst e1 e2 e3
      exact AC.liftP rfl (Part.plain (by simp) GP (seenP hc.2) gsz ⟨_, _, w154 ⟨_, _, _⟩ hc.1⟩)
    · cases hh
  · cases hh
end Go.Proofs.YtkongcnmkiihjaaGreatDoor

namespace Go.Proofs.YtkongcnmkiihjaaGreatDoor
open Go Go.Ab Go.Proofs Go.RowKit
def lcs (l : List Pk) : List Value := sls (l.map lineT)
theorem lcs_length (l : List Pk) : (lcs l).length = l.length := by simp [lcs]
@[simp] theorem afL_lcs (l : List Pk) : afL (lcs l) = true := afL_sls _
@[simp] theorem renL_lcs (ρ : Nat → Nat) (l : List Pk) : renL ρ (lcs l) = lcs l := renL_sls ρ _
@[simp] theorem scL_lcs (p : Nat → Prop) (l : List Pk) : scL p (lcs l) := scL_sls p _
abbrev fn154 : Value := .func (.func 154) #[] #[]
abbrev HP (l : List Pk) : Heap := [(9, .row (pcs l) 3), (3, .tab powV)]
noncomputable def S153 (l : List Pk) : Nat → St
  | 0 => { fr := [(1, fn154), (5, .slice none 0 0), (8, rowV l.length), (9, iv l.length), (10, iv 0)], sz := 22, H := HP l, n := 10, marks := [], vs := [1, 5, 8, 9, 10] }
  | i + 1 => { fr := [(1, fn154), (5, .slice (some ⟨10, 0, some 0⟩) (i + 1) 0), (8, rowV l.length), (9, iv l.length), (10, iv (i + 1 : Nat))], sz := 22, H := (10, .ext (lcs (l.take (i + 1))) 9 1) :: HP l, n := 11, marks := [], vs := [1, 5, 8, 9, 10] }
def q153 (l : List Pk) (v : Value) (H : Heap) : Prop := ∃ m, v = .slice (some ⟨m, 0, some 0⟩) l.length 0 ∧ hget H m = some (.ext (lcs l) 9 1) ∧ 10 ≤ m
attribute [local simp] run_vcall_tmp vcallF target
set_option maxHeartbeats 4000000 in
set_option maxRecDepth 100000 in
theorem w153 (l : List Pk) (hok : PksOk l) (hne : l ≠ []) (hl : l.length ≤ 64) : ∃ u H1 n1 H2, AC Tryz.prog 153 [rowV l.length, fn154] (HP l) 10 u H1 n1 ∧ q153 l u H2 ∧ (af u = false → H1 = H2) := by
  have hr := recT_ok (P := Tryz.prog) (l := [(154, g154)]) (by simp only [List.forall_mem_cons]; exact ⟨ok154, by simp⟩)
  have hpos : 0 < l.length := List.length_pos_iff.2 hne
  refine AC.out Tryz.func153 rfl (by kernel_rfl) rfl [1, 5, 8, 9, 10] ?_
  refine E.seq ?_
  refine E.reg hr (by simp; rfl) ?_
  refine E.seq ?_
  refine E.reg hr (by simp; rfl) ?_
  refine E.seq ?_
  refine E.seq ?_
  refine E.reg hr (by simp; rfl) ?_
  refine E.block ?_
  refine E.loop ?_
  refine EL.ind (S153 l) (fun i => l.length - i) (fun i => i ≤ l.length) 0 (.less rfl rfl rfl (by simp [S153]) (by simp [S153])) (Nat.zero_le _) (fun i => by cases i <;> rfl) ?_
  intro i hi
  rcases i with _ | i
  · have hx := pcs_take hpos
    have hp := hok.get hpos
    obtain ⟨p, hpe⟩ : ∃ p, p = l[0] := ⟨_, rfl⟩
    have hts : lcs (l.take 1) = [sL (lineT p)] := by
      rw [List.take_succ_eq_append_getElem hpos, ← hpe]
      rfl
    rw [Nat.zero_mul, List.drop_zero, ← hpe] at hx
    rw [← hpe] at hp
    obtain ⟨t, q, e⟩ := p
    have h7 : 3 ≤ l.length * 3 := by omega
    have hpI : (0 : Int) < l.length := by omega
    refine E.seq ?_
    refine E.reg hr (by simp [S153, hpos]; rfl) ?_
    refine E.seq ?_
    refine E.cond (t := true) (by rfl) (fun _ => ?_) (fun h => by cases h)
    refine E.skip ?_
    refine E.seq ?_
    refine E.block ?_
    refine E.seq ?_
    refine E.reg hr (by simp [hx, hpos, h7, Pk.cells]; rfl) ?_
    refine E.reg hr (by simp [g154, hp]; rfl) ?_
    refine E.reg hr (by simp; rfl) ?_
    exact ⟨1, Leads.ren [12] rfl rfl rfl ⟨rfl, rfl⟩ (by simp [S153]) (by simp [S153, hts]), by omega, by dsimp only; omega⟩
  · have hw : IntKind.i64.wrap ((i : Int) + 1 + 1) = (i : Int) + 1 + 1 := W_in (by omega) (by omega)
    by_cases hlt : i + 1 < l.length
    · have hltI : (i : Int) + 1 < l.length := by omega
      have hx := pcs_take hlt
      have hp := hok.get hlt
      obtain ⟨p, hpe⟩ : ∃ p, p = l[i + 1] := ⟨_, rfl⟩
      rw [← hpe] at hx hp
      have hts : lcs (l.take (i + 1 + 1)) = lcs (l.take (i + 1)) ++ [sL (lineT p)] := by
        rw [List.take_succ_eq_append_getElem hlt, ← hpe, lcs, List.map_append, sls_append]
        rfl
      obtain ⟨t, q, e⟩ := p
      have h7 : (i + 1) * 3 + 3 ≤ l.length * 3 := by omega
      have hsl : (lcs (l.take (i + 1))).length = i + 1 := by rw [lcs_length, List.length_take]; omega
      have ht : List.take (i + 1) (lcs (l.take (i + 1))) = lcs (l.take (i + 1)) := List.take_of_length_le (by omega)
      have hno : ¬ i + 1 + 1 ≤ i + 1 := by omega
      have hsm : (i + 1 + 1) * 16 ≤ 1099511627776 ∧ i + 1 + 1 ≤ 1099511627776 := by omega
      refine E.seq ?_
      refine E.reg hr (by simp [S153, hltI]; rfl) ?_
      refine E.seq ?_
      refine E.cond (t := true) (by rfl) (fun _ => ?_) (fun h => by cases h)
      refine E.skip ?_
      refine E.seq ?_
      refine E.block ?_
      refine E.seq ?_
      refine E.reg hr (by simp [hx, hltI, h7, Pk.cells]; rfl) ?_
      refine E.reg hr (by simp [g154, hp, hsm, ht, hsl, hno]; rfl) ?_
      refine E.reg hr (by simp [hw]; rfl) ?_
      exact ⟨i + 1 + 1, Leads.ren [13] rfl rfl rfl ⟨rfl, rfl⟩ (by simp [S153]) (by simp [S153, hts]), by omega, by dsimp only; omega⟩
    · have hltI : ¬ (i : Int) + 1 < l.length := by omega
      have hal : l.take (i + 1) = l := List.take_of_length_le (by omega)
      have hll : l.length = i + 1 := by omega
      refine E.seq ?_
      refine E.reg hr (by simp [S153, hltI]; rfl) ?_
      refine E.seq ?_
      refine E.cond (t := false) (by rfl) (fun h => by cases h) (fun _ => ?_)
      refine E.exit ?_
      refine E.seq ?_
      refine E.reg hr (by simp; rfl) ?_
      refine E.ret ?_
      refine outK.ret rfl rfl ?_
      simp [q153, hal, hll]
end Go.Proofs.YtkongcnmkiihjaaGreatDoor

namespace Go.Proofs.YtkongcnmkiihjaaGreatDoor
open Go Go.Ab Go.Proofs Go.RowKit
attribute [local simp] run_vcall_tmp vcallF target
theorem w153n : AC Tryz.prog 153 [.slice none 0 0, fn154] [] 9 (.slice none 0 0) [] 9 := by
  have hr := recT_ok (P := Tryz.prog) (l := []) (by simp)
  refine AC.pure Tryz.func153 rfl (by kernel_rfl) rfl [1, 5, 8, 9, 10] rfl ?_
  refine E.seq ?_
  refine E.reg hr (by simp; rfl) ?_
  refine E.seq ?_
  refine E.reg hr (by simp; rfl) ?_
  refine E.seq ?_
  refine E.seq ?_
  refine E.reg hr (by simp; rfl) ?_
  refine E.block ?_
  refine E.loop ?_
  refine EL.step ?_
  refine E.seq ?_
  refine E.reg hr (by simp; rfl) ?_
  refine E.seq ?_
  refine E.cond (t := false) (by rfl) (fun h => by cases h) (fun _ => ?_)
  refine E.exit ?_
  refine E.seq ?_
  refine E.reg hr (by simp; rfl) ?_
  refine E.ret ?_
  exact pureK.ret rfl rfl (by simp) (by repeat first | exact sub_refl _ | refine sub_cons rfl ?_)
open Classical in
noncomputable def g153 (args : List Value) (H : Heap) (n : Nat) : R := match args with
  | [t, .func (.func f) a b] => if f = 154 ∧ a.toList = [] ∧ b.toList = [] then (match t with
    | .slice none 0 0 => some (.slice none 0 0, H, n)
    | t => match pksP H t with
      | some l => if PksOk l ∧ l ≠ [] ∧ l.length ≤ 64 ∧ hget H 3 = some (.tab powV) then some (.slice (some ⟨n, 0, some 0⟩) l.length 0, (n, .ext (lcs l) 9 1) :: H, n + 1) else none
      | none => none) else none
  | _ => none
theorem fn_den : ∀ (φ φ0 : Vl) (s s0 : Value), den φ0 s0 = den φ s → denL φ0 [s0, fn154] = denL φ [s, fn154] := fun φ φ0 s s0 h => by simp [denL, den, h]
theorem pksP_cases {H : Heap} {t : Value} {l : List Pk} (h : pksP H t = some l) : (t = .slice none 0 0 ∧ l = []) ∨ ∃ b, t = .slice (some ⟨b, 0, some 0⟩) l.length 0 ∧ rowOf H b = some (pcs l, 3) := by
  unfold pksP at h
  split at h
  · injection h with h
    exact .inl ⟨rfl, h.symm⟩
  · obtain ⟨hb, rfl, _⟩ := rowPks_ok h
    exact .inr ⟨_, rfl, hb⟩
  · cases h
theorem ok153 : EntOk Tryz.prog (153, g153) := by
  intro args H n v H' n' hh
  simp only [g153] at hh
  split at hh
  · rename_i t f a b
    split at hh
    · rename_i hf
      obtain ⟨rfl, ha, hb⟩ := hf
      obtain rfl : a = #[] := by cases a; simp_all
      obtain rfl : b = #[] := by cases b; simp_all
      split at hh
      · injection hh with hh; injection hh with e1 e2; injection e2 with e2 e3; subst e1 e2 e3
        exact AC.liftP rfl (Part.plain (by simp) [] (by simp [Seen]) gsz ⟨_, _, w153n⟩)
      · split at hh
        · rename_i l hp
          split at hh
          · rename_i hc
            obtain ⟨c1, c2, c3, c4⟩ := hc
            injection hh with hh; injection hh with e1 e2; injection e2 with e2 e3; subst e1 e2 e3
            rcases pksP_cases hp with ⟨_, h0⟩ | ⟨b, rfl, hb⟩
            · exact absurd h0 c2
            · obtain ⟨u, H1, n1, H2, hAC, hq, hh2⟩ := w153 l c1 c2 c3
              obtain ⟨m, hv, hm, hle⟩ := hq
              subst hv
              have := hh2 rfl
              subst this
              refine AC.liftF (names_sx _ _) (.inr ⟨_, _, _, rfl, afL_lcs _⟩) (Part.genG [⟨b, .row (pcs l) 3⟩] GP (seenP c4) gsz (fun v hv => by rw [List.mem_singleton] at hv; subst hv; exact ⟨hb, afL_pcs _⟩) fun φ => ⟨[rowV l.length, fn154], fun φ0 h0 => ?_, ?_, m, _, _, hle, hm, hAC⟩)
              · have h1 := h0 0 _ rfl
                simp only [Nat.add_zero] at h1
                refine fn_den _ _ _ _ ?_
                simp [den, h1.1, h1.2]
              · simp [scL, sc]
          · cases hh
        · cases hh
    · cases hh
  · cases hh
noncomputable def g152 (args : List Value) (H : Heap) (n : Nat) : R := orcJn 152 args H n
theorem ok152 : EntOk Tryz.prog (152, g152) := fun _args _H _n _v _H' _n' h => orcJOk _ _ _ _ _ _ _ h
theorem strsA_sls (l : List (List UInt8)) : strsA (sls l) = some (l.map bA) := by
  induction l with
  | nil => rfl
  | cons x l ih =>
    show (strsA (sls l)).map (bA x :: ·) = _
    rw [ih]; rfl
theorem join_flat : ∀ l : List (List UInt8), Lib.join l [] = l.flatten
  | [] => rfl
  | [x] => by simp [Lib.join, List.intercalate, List.intersperse]
  | x :: y :: l => by
    have := join_flat (y :: l)
    simp [Lib.join, List.intercalate, List.intersperse] at this ⊢
    simpa using this
theorem g152_none (H : Heap) (n : Nat) : g152 [.slice none 0 0, sL []] H n = some (sL [], H, n) := rfl
theorem g152_lcs {l : List Pk} {m n : Nat} {H : Heap} (hm : hget H m = some (.ext (lcs l) 9 1)) (hl : l.length ≤ 64) (hlen : (prT l).length ≤ 2560) : g152 [.slice (some ⟨m, 0, some 0⟩) l.length 0, sL []] H n = some (sL (prT l), H, n) := by
  have hj : joinV ((l.map lineT).map bA) (bA []) = prT l := by
    show Lib.join (((l.map lineT).map bA).map (·.data.toList)) [] = _
    rw [List.map_map, show ((fun x : ByteArray => x.data.toList) ∘ bA) = id from by funext x; rfl, List.map_id, join_flat]
    rfl
  have hc : cellsA H m 0 l.length = some (lcs l) := by
    unfold cellsA
    rw [hm]
    simp [lcs_length, List.take_of_length_le]
  have hr : roomy H ⟨m, 0, some 0⟩ l.length 0 = true := by
    unfold roomy
    simp only [hm]
    rfl
  have ho : orcJ H ⟨m, 0, some 0⟩ l.length 0 (bA []) = some (sL (prT l)) := by
    unfold orcJ
    rw [hr]
    simp only [hc, Option.bind_some, lcs, strsA_sls]
    rw [hj]
    have h1 : Nat.ble (prT l).length 140737488355328 = true := Nat.ble_eq_true_of_le (by omega)
    have h2 : Nat.ble l.length 140737488355328 = true := Nat.ble_eq_true_of_le (by omega)
    rw [h1, h2]
    rfl
  unfold g152 orcJn orcV
  simp only [ho]
end Go.Proofs.YtkongcnmkiihjaaGreatDoor

namespace Go.Proofs.YtkongcnmkiihjaaGreatDoor
open Go Go.Ab Go.Proofs Go.RowKit
def prV (l : List Pk) : List UInt8 := if pksE l = 0 then prT l else []
abbrev tupS (s : List UInt8) (e : Int) : Value := .tuple #[sL s, iv e]
theorem w83n : AC Tryz.prog 83 [.slice none 0 0] [] 9 (tupS [] 0) [] 9 := by
  have hr := recT_ok (P := Tryz.prog) (l := [(56, g56), (153, g153), (152, g152)]) (by simp only [List.forall_mem_cons]; exact ⟨ok56, ok153, ok152, by simp⟩)
  refine AC.pure Tryz.func83 rfl (by kernel_rfl) rfl [] rfl ?_
  refine E.seq ?_
  refine E.reg hr (by simp; rfl) ?_
  refine E.seq ?_
  refine E.seq ?_
  refine E.reg hr (by simp [g56, pksP, pksE_nil]; rfl) ?_
  refine E.seq ?_
  refine E.reg hr (by simp; rfl) ?_
  refine E.cond (t := false) (by rfl) (fun h => by cases h) (fun _ => ?_)
  refine E.skip ?_
  refine E.seq ?_
  refine E.reg hr (by simp [g153, g152_none]; rfl) ?_
  refine E.ret ?_
  exact pureK.ret rfl rfl (by simp) (by repeat first | exact sub_refl _ | refine sub_cons rfl ?_)
set_option maxHeartbeats 4000000 in
set_option maxRecDepth 100000 in
theorem w83 (l : List Pk) (hne : l ≠ []) (hl : l.length < 9223372036854775808) : AC Tryz.prog 83 [rowV l.length] (HP l) 10 (tupS (prV l) (pksE l)) (HP l) 10 := by
  have hr := recT_ok (P := Tryz.prog) (l := [(56, g56), (153, g153), (152, g152)]) (by simp only [List.forall_mem_cons]; exact ⟨ok56, ok153, ok152, by simp⟩)
  have hpk : ∀ H : Heap, hget H 9 = some (.row (pcs l) 3) → pksP H (rowV l.length) = some l := fun H hH => by
    have hr : rowOf H 9 = some (pcs l, 3) := by unfold rowOf; rw [hH]
    show rowPks H 9 l.length = some l
    unfold rowPks
    rw [hr]
    simp only [pksOf_pcs]
    rw [if_pos ⟨trivial, hl⟩]
  refine AC.pure Tryz.func83 rfl (by kernel_rfl) rfl [] rfl ?_
  refine E.seq ?_
  refine E.reg hr (by simp; rfl) ?_
  refine E.seq ?_
  refine E.seq ?_
  refine E.reg hr (by simp [g56, hpk]; rfl) ?_
  refine E.seq ?_
  by_cases he : pksE l = 0
  · obtain ⟨hok, hlen⟩ := pksE_ok he
    have hpl := prT_len hok
    refine E.reg hr (by simp [he]; rfl) ?_
    refine E.cond (t := false) (by rfl) (fun h => by cases h) (fun _ => ?_)
    refine E.skip ?_
    refine E.seq ?_
    have hj := fun n => g152_lcs (l := l) (m := 10) (n := n) (H := (10, .ext (lcs l) 9 1) :: HP l) rfl hlen (by omega)
    refine E.reg hr (by simp [g153, hpk, hok, hne, hlen, hj]; rfl) ?_
    refine E.ret ?_
    exact pureK.ret rfl rfl (by simp [prV, he]) (by repeat first | exact sub_refl _ | refine sub_cons rfl ?_)
  · refine E.reg hr (by simp [he]; rfl) ?_
    refine E.cond (t := true) (by rfl) (fun _ => ?_) (fun h => by cases h)
    refine E.seq ?_
    refine E.reg hr (by simp; rfl) ?_
    refine E.ret ?_
    exact pureK.ret rfl rfl (by simp [prV, he]) (by repeat first | exact sub_refl _ | refine sub_cons rfl ?_)
open Classical in
noncomputable def g83 (args : List Value) (H : Heap) (n : Nat) : R := match args with
  | [.slice none 0 0] => some (tupS [] 0, H, n)
  | [t] => match pksP H t with
    | some l => if l ≠ [] ∧ l.length < 9223372036854775808 ∧ hget H 3 = some (.tab powV) then some (tupS (prV l) (pksE l), H, n) else none
    | none => none
  | _ => none
theorem ok83 : EntOk Tryz.prog (83, g83) := by
  intro args H n v H' n' hh
  simp only [g83] at hh
  split at hh
  · injection hh with hh; injection hh with e1 e2; injection e2 with e2 e3; subst e1 e2 e3
    exact AC.liftP rfl (Part.plain (by simp) [] (by simp [Seen]) gsz ⟨_, _, w83n⟩)
  · split at hh
    · rename_i l hp
      split at hh
      · rename_i hc
        obtain ⟨c1, c2, c3⟩ := hc
        injection hh with hh; injection hh with e1 e2; injection e2 with e2 e3; subst e1 e2 e3
        rcases pksP_cases hp with ⟨_, h0⟩ | ⟨b, rfl, hb⟩
        · exact absurd h0 c1
        · refine AC.liftP rfl (Part.genG [⟨b, .row (pcs l) 3⟩] GP (seenP c3) gsz (fun v hv => by rw [List.mem_singleton] at hv; subst hv; exact ⟨hb, afL_pcs _⟩) fun φ => ⟨[rowV l.length], fun φ0 h0 => ?_, ?_, _, _, w83 l c1 c2⟩)
          · have h1 := h0 0 _ rfl
            simp only [Nat.add_zero] at h1
            simp [denL, den, h1.1, h1.2]
          · simp [scL, sc]
      · cases hh
    · cases hh
  · cases hh
end Go.Proofs.YtkongcnmkiihjaaGreatDoor
