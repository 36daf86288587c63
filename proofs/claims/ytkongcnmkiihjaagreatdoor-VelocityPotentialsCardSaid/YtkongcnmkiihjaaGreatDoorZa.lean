/-
The walks of short panels, limits, alike lists and of the reference's check of a panel, at whatever heap (each a contract: no condition but those in its statement).
-/
import Derived.Test.YtkongcnmkiihjaaGreatDoorYd
import Derived.Test.YtkongcnmkiihjaaGreatDoorAk
namespace Go.Proofs.YtkongcnmkiihjaaGreatDoor
open Go Go.Ab Go.Proofs
/-! ### panels: how long they are -/
def shortR (l : List Int) : Bool := decide (l.length ≤ 5) || decide (l.length = 17)
def shortP (ls : List (List Int)) : Bool := ls.all shortR && (decide (ls.length ≤ 5) || decide (ls.length = 65))
theorem w23 {H : Heap} {n : Nat} {v : Value} {ls : List (List Int)} (hN : nestV H v = some ls) : AC Tryz.prog 23 [v] H n (.bool (shortP ls)) H n := by
  have hr := recT_ok (P := Tryz.prog) (l := []) (by simp)
  obtain ⟨oa, c, rfl, hlt, _, hrow⟩ := nestV_form hN
  refine AC.pure Tryz.func23 rfl (by kernel_rfl) rfl [2, 0, 3] rfl ?_
  refine E.seq ?_
  refine E.reg hr (by simp; rfl) ?_ -- region 0
  refine E.seq ?_
  refine E.seq ?_
  refine E.reg hr (by simp; rfl) ?_ -- region 1
  refine E.block ?_ -- 0
  refine E.loop ?_
  refine EL.ind (fun i : Nat => { fr := [(2, .bool false), (0, .slice oa ls.length c), (3, iv i)], sz := 32, H := H, n := n, marks := [], vs := [2, 0, 3] }) (fun i => ls.length - i) (fun i => i ≤ ls.length ∧ (ls.drop i).all shortR = ls.all shortR) 0 (.keep rfl rfl rfl (by simp) (Sub.refl _)) ⟨Nat.zero_le _, rfl⟩ (fun _ => rfl) ?_
  rintro i ⟨hi, hg⟩
  have hw : IntKind.i64.wrap ((i : Int) + 1) = (i : Int) + 1 := W_in (by omega) (by omega)
  refine E.seq ?_
  refine E.seq ?_
  refine E.reg hr (by simp; rfl) ?_ -- region 2
  refine E.cond (by rfl) (fun h => ?_) (fun h => ?_)
  · simp at h
    obtain ⟨a, r, rfl, hf, hc, hv⟩ := hrow i h
    obtain ⟨ob, cb, rfl, hlr, _, _⟩ := intV_form hv
    rw [List.drop_eq_getElem_cons h, List.all_cons] at hg
    refine E.skip ?_
    refine E.seq ?_
    refine E.block ?_ -- 1
    refine E.seq ?_
    by_cases h5 : ls[i].length ≤ 5
    · have h5' : ¬ (5 : Int) < ls[i].length := by omega
      refine E.reg hr (by simp [-cellA, -flat, h, hf, hc, h5']; rfl) ?_ -- region 4
      refine E.cond (by rfl) (fun h => by cases h) (fun _ => ?_)
      refine E.skip ?_
      refine E.reg hr (by simp [hw]; rfl) ?_ -- region 3
      exact ⟨i + 1, .keep rfl rfl rfl (by simp) (Sub.refl _), ⟨by omega, by rw [← hg]; simp [shortR, h5]⟩, by dsimp only; omega⟩
    · have h5' : (5 : Int) < ls[i].length := by omega
      refine E.reg hr (by simp [-cellA, -flat, h, hf, hc, h5']; rfl) ?_ -- region 4
      refine E.cond (by rfl) (fun h => ?_) (fun h => ?_)
      · simp at h
        refine E.seq ?_
        refine E.reg hr (by simp; rfl) ?_ -- region 5
        refine E.ret ?_
        exact pureK.ret rfl rfl (by simp [shortP, ← hg, shortR, h5]; omega) (Sub.refl _)
      · simp at h
        refine E.skip ?_
        refine E.reg hr (by simp [hw]; rfl) ?_ -- region 3
        exact ⟨i + 1, .keep rfl rfl rfl (by simp) (Sub.refl _), ⟨by omega, by rw [← hg]; simp [shortR, h5]; omega⟩, by dsimp only; omega⟩
  · simp at h
    rw [List.drop_eq_nil_of_le h] at hg
    refine E.exit ?_ -- 0
    by_cases h5 : ls.length ≤ 5
    · have h5' : (ls.length : Int) ≤ 5 := by omega
      refine E.seq ?_
      refine E.reg hr (by simp [h5']; rfl) ?_ -- region 6
      refine E.ret ?_
      exact pureK.ret rfl rfl (by simp [shortP, ← hg, h5]) (Sub.refl _)
    · have h5' : ¬ (ls.length : Int) ≤ 5 := by omega
      refine E.seq ?_
      refine E.reg hr (by simp [h5']; rfl) ?_ -- region 6
      refine E.ret ?_
      exact pureK.ret rfl rfl (by simp [shortP, ← hg, h5]; omega) (Sub.refl _)
def g23 (args : List Value) (H : Heap) (n : Nat) : R := match args with
  | [v] => (nestV H v).map fun ls => (.bool (shortP ls), H, n)
  | _ => none
theorem ok23 : EntOk Tryz.prog (23, g23) := by
  intro args H n v H' n' h
  simp only [g23] at h
  split at h
  · rw [Option.map_eq_some_iff] at h
    obtain ⟨ls, h1, h⟩ := h
    injection h with e1 e2; injection e2 with e2 e3; subst e1 e2 e3
    exact w23 h1
  · cases h
end Go.Proofs.YtkongcnmkiihjaaGreatDoor

namespace Go.Proofs.YtkongcnmkiihjaaGreatDoor
open Go Go.Ab Go.Proofs
theorem flat_n {b o : Nat} : flat ⟨b, o, none⟩ = true := rfl
theorem flat_z {b o : Nat} : flat ⟨b, o, some 0⟩ = true := rfl
section
variable {n : Nat} {H : Heap}
@[simp] theorem namesOk_tidy : namesOk n (tidy n H) = true := (namesOk_tidyL _).1
@[simp] theorem namesOk_tidy' {c : Nat} : namesOk (n + c) (tidy n H) = true := namesOk_mono (by omega) _ (namesOk_tidyL _).1
@[simp] theorem plainH_tidy : plainH (tidy n H) = true := (namesOk_tidyL _).2
@[simp] theorem takeNew_tidy : takeNew n (frzH (tidy n H)) = [] := takeNew_frz namesOk_tidy
@[simp] theorem takeNew_tidy' {c : Nat} : takeNew (n + c) (frzH (tidy n H)) = [] := takeNew_frz namesOk_tidy'
theorem tidy_lt : ∀ k b, hget (tidy n H) k = some b → k < n := fun _ _ h => (hget_tidy.1 h).2.1
@[simp] theorem tidy_new : hget (tidy n H) n = none := (no_new tidy_lt).1
@[simp] theorem tidy_new' {c : Nat} : hget (tidy n H) (n + c) = none := (no_new tidy_lt).2 c
end
@[simp] theorem intV_frz {H : Heap} {v : Value} : listV 1 decI (frzH H) v = listV 1 decI H v := listV_frz decI_frz H v
@[simp] theorem nestV_frz {H : Heap} {v : Value} : listV 1 (decL 1 decI) (frzH H) v = listV 1 (decL 1 decI) H v := listV_frz (decL_frz decI_frz) H v
theorem AC.frame0 {P : Program} {f : FuncId} {args : List Value} {H : Heap} {n : Nat} {v : Value} {H1 : Heap} {n' : Nat} (h : AC P f args [] n v H1 n') (_ : ∀ k b, hget H1 k = some b → False) : AC P f args H n v H n' :=
  h.frame (fun k b hk => by cases hk) fun k b hk => .inr ⟨hk, rfl⟩
/-! ### limits -/
def mayB (up dn a b : Int) : Bool := decide (b - a ≤ up) && decide (a - b ≤ dn)
def limE (up dn : Int) : Int := firstV [withinV up 0 16, withinV dn 0 16]
section
variable {P : Program}
theorem runP_bindZ {α β : Type} (a : Sem α) (g : α → Sem β) : runP P (a >>= g) = (runP P a).bind fun x => runP P (g x) := by
  show runP P (Sem.bind a g) = _
  induction a with
  | program k ih => exact ih P
  | mark m k ih => exact ih
  | _ => rfl
theorem runP_pureZ {α : Type} (a : α) : runP P (pure a : Sem α) = some a := rfl
theorem runP_undZ {t : TypeId} {d : TypeDesc} (h : P.underlying t = some d) : runP P (underlying t) = some d := by
  show runP P (match P.underlying t with | some d => _ | none => _) = _
  rw [h]
  rfl
theorem runP_iteZ {α : Type} {c : Prop} [Decidable c] (a b : Sem α) : runP P (if c then a else b) = if c then runP P a else runP P b := by
  split <;> rfl
theorem runP_eqIntZ (d : Nat) {t : TypeId} {k k' : IntKind} (m n : Int) (h : P.underlying t = some (.int k')) : runP P (Op.equalIn (d + 1) t (.int k m) (.int k n)) = some (decide (m = n)) := by
  simp only [Op.equalIn, runP_bindZ, runP_undZ h, Option.bind_some, if_true, runP_pureZ]
  rfl
end
theorem runP_programZ : runP Tryz.prog program = some Tryz.prog := rfl
theorem eq45' (a b c e : Int) (d : Nat) : runP Tryz.prog (Op.equalIn (d + 2) 45 (.agg ⟨[iv a, iv b]⟩) (.agg ⟨[iv c, iv e]⟩)) = some (decide (a = c) && decide (b = e)) := by
  have p1 : runP Tryz.prog (part 3 ⟨[iv a, iv b]⟩ 0) = some (iv a) := by kernel_rfl
  have p2 : runP Tryz.prog (part 3 ⟨[iv a, iv b]⟩ 1) = some (iv b) := by kernel_rfl
  have p3 : runP Tryz.prog (part 3 ⟨[iv c, iv e]⟩ 0) = some (iv c) := by kernel_rfl
  have p4 : runP Tryz.prog (part 3 ⟨[iv c, iv e]⟩ 1) = some (iv e) := by kernel_rfl
  have hp : Tryz.prog.stoodInHeld 45 = false := by kernel_rfl
  rw [Op.equalIn]
  simp only [runP_bindZ, runP_undZ Tryz.underlying45, Option.bind_some, runP_programZ, hp, Bool.false_eq_true, if_false]
  rw [← Array.forIn_toList]
  simp only [List.forIn_cons, List.forIn_nil, runP_bindZ, runP_iteZ, p1, p3]
  rw [if_pos (by decide)]
  simp only [Option.bind_some, runP_eqIntZ d _ _ Tryz.underlying3]
  by_cases h1 : a = c
  · subst h1
    simp only [decide_true, Bool.not_true, Bool.false_eq_true, if_false, runP_pureZ, Option.bind_some, runP_bindZ, runP_iteZ, p2, p4]
    rw [if_pos (by decide)]
    simp only [Option.bind_some, runP_eqIntZ d _ _ Tryz.underlying3]
    by_cases h2 : b = e
    · simp only [h2, decide_true, Bool.not_true, Bool.false_eq_true, if_false, runP_pureZ, Option.bind_some, Bool.and_self]
    · simp only [h2, decide_false, Bool.not_false, if_true, runP_pureZ, Option.bind_some, Bool.and_false]
  · simp only [h1, decide_false, Bool.not_false, if_true, runP_pureZ, Option.bind_some, Bool.false_and]
theorem eq45 {x y : Operand} {H : Heap} {n : Nat} (a b c e : Int) : binV Tryz.prog .eql 45 x y (.agg ⟨[iv a, iv b]⟩) (.agg ⟨[iv c, iv e]⟩) H n = some (.bool (decide (a = c) && decide (b = e)), H, n) := by
  have h : runP Tryz.prog (do eqGuard .eql 45 x y (.agg ⟨[iv a, iv b]⟩) (.agg ⟨[iv c, iv e]⟩); binOp .eql 45 (.agg ⟨[iv a, iv b]⟩) (.agg ⟨[iv c, iv e]⟩)) = some (.bool (decide (a = c) && decide (b = e))) := by
    rw [runP_bindZ]
    have h1 : runP Tryz.prog (eqGuard .eql 45 x y (.agg ⟨[iv a, iv b]⟩) (.agg ⟨[iv c, iv e]⟩)) = some () := by kernel_rfl
    rw [h1, Option.bind_some]
    show runP Tryz.prog (Op.equalIn 10000 45 (.agg ⟨[iv a, iv b]⟩) (.agg ⟨[iv c, iv e]⟩) >>= fun b => pure (Value.bool b)) = _
    rw [runP_bindZ, eq45' a b c e 9998]
    rfl
  have ha : ∀ a b, afq (.agg ⟨[iv a, iv b]⟩) = true := fun _ _ => rfl
  unfold binV
  rw [ha, ha]
  simp only [Bool.and_self, if_true]
  rw [h]
  rfl
end Go.Proofs.YtkongcnmkiihjaaGreatDoor

namespace Go.Proofs.YtkongcnmkiihjaaGreatDoor
open Go Go.Ab Go.Proofs
abbrev limA (up dn : Int) : Value := .agg ⟨[iv up, iv dn]⟩
theorem w111 {n : Nat} (up dn : Int) (a b : Nat) (ha : a < 2147483648) (hb : b < 2147483648) : AC Tryz.prog 111 [limA up dn, iv a, iv b] [] n (.bool (mayB up dn a b)) [] n := by
  have hr := recT_ok (P := Tryz.prog) (l := []) (by simp)
  have hw1 : IntKind.i64.wrap ((b : Int) - a) = (b : Int) - a := W_in (by omega) (by omega)
  have hw2 : IntKind.i64.wrap ((a : Int) - b) = (a : Int) - b := W_in (by omega) (by omega)
  refine AC.pure Tryz.func111 rfl (by kernel_rfl) rfl [] rfl ?_
  refine E.seq ?_
  refine E.reg hr (by simp; rfl) ?_ -- region 0
  refine E.seq ?_
  by_cases h : (b : Int) - a ≤ up
  · refine E.reg hr (by simp [hw1, hw2, h]; rfl) ?_ -- region 1
    refine E.ret ?_
    exact pureK.ret rfl rfl (by simp [mayB, h]) (by simp)
  · refine E.reg hr (by simp [hw1, h]; rfl) ?_ -- region 1
    refine E.ret ?_
    exact pureK.ret rfl rfl (by simp [mayB, h]) (by simp)
theorem w112 {n : Nat} (up dn : Int) (a b : Nat) (ha : a < 2147483648) (hb : b < 2147483648) : AC Tryz.prog 112 [limA up dn, iv a, iv b] [] n (.bool (mayB up dn a b)) [] n := by
  have hr := recT_ok (P := Tryz.prog) (l := []) (by simp)
  have hw1 : IntKind.i64.wrap ((b : Int) - a) = (b : Int) - a := W_in (by omega) (by omega)
  have hw2 : IntKind.i64.wrap ((a : Int) - b) = (a : Int) - b := W_in (by omega) (by omega)
  refine AC.pure Tryz.func112 rfl (by kernel_rfl) rfl [] rfl ?_
  refine E.seq ?_
  refine E.reg hr (by simp; rfl) ?_ -- region 0
  refine E.seq ?_
  by_cases h : (b : Int) - a ≤ up
  · refine E.reg hr (by simp [hw1, hw2, h]; rfl) ?_ -- region 1
    refine E.ret ?_
    exact pureK.ret rfl rfl (by simp [mayB, h]) (by simp)
  · refine E.reg hr (by simp [hw1, h]; rfl) ?_ -- region 1
    refine E.ret ?_
    exact pureK.ret rfl rfl (by simp [mayB, h]) (by simp)
def gMay (args : List Value) (H : Heap) (n : Nat) : R := match args with
  | [.agg ⟨[.int .i64 up, .int .i64 dn]⟩, .int .i64 a, .int .i64 b] => if 0 ≤ a ∧ a < 2147483648 ∧ 0 ≤ b ∧ b < 2147483648 then some (.bool (mayB up dn a b), H, n) else none
  | _ => none
theorem ok111 : EntOk Tryz.prog (111, gMay) := by
  intro args H n v H' n' h
  simp only [gMay] at h
  split at h
  · split at h
    · rename_i up dn a b hc
      injection h with h; injection h with e1 e2; injection e2 with e2 e3; subst e1 e2 e3
      have := w111 (n := n) up dn a.toNat b.toNat (by omega) (by omega)
      rw [Int.toNat_of_nonneg hc.1, Int.toNat_of_nonneg hc.2.2.1] at this
      exact AC.frame0 this (by simp)
    · cases h
  · cases h
theorem ok112 : EntOk Tryz.prog (112, gMay) := by
  intro args H n v H' n' h
  simp only [gMay] at h
  split at h
  · split at h
    · rename_i up dn a b hc
      injection h with h; injection h with e1 e2; injection e2 with e2 e3; subst e1 e2 e3
      have := w112 (n := n) up dn a.toNat b.toNat (by omega) (by omega)
      rw [Int.toNat_of_nonneg hc.1, Int.toNat_of_nonneg hc.2.2.1] at this
      exact AC.frame0 this (by simp)
    · cases h
  · cases h
theorem w118 {n : Nat} (a : Int) : AC Tryz.prog 118 [iv a] [] n (iv (withinV a 0 1024)) [] n := by
  have hr := recT_ok (P := Tryz.prog) (l := [(91, g91)]) (by simp [ok91])
  refine AC.pure Tryz.func118 rfl (by kernel_rfl) rfl [] rfl ?_
  refine E.seq ?_
  refine E.reg hr (by simp; rfl) ?_ -- region 0
  refine E.seq ?_
  refine E.reg hr (by simp [g91]; rfl) ?_ -- region 1
  refine E.ret ?_
  exact pureK.ret rfl rfl (by simp) (by simp)
theorem w106 {n : Nat} (a : Int) : AC Tryz.prog 106 [iv a] [] n (iv (withinV a 0 999999999)) [] n := by
  have hr := recT_ok (P := Tryz.prog) (l := [(91, g91)]) (by simp [ok91])
  refine AC.pure Tryz.func106 rfl (by kernel_rfl) rfl [] rfl ?_
  refine E.seq ?_
  refine E.reg hr (by simp; rfl) ?_ -- region 0
  refine E.seq ?_
  refine E.reg hr (by simp [g91]; rfl) ?_ -- region 1
  refine E.ret ?_
  exact pureK.ret rfl rfl (by simp) (by simp)
def gWin (hi : Int) (args : List Value) (H : Heap) (n : Nat) : R := match args with
  | [.int .i64 a] => some (.int .i64 (withinV a 0 hi), H, n)
  | _ => none
theorem ok118 : EntOk Tryz.prog (118, gWin 1024) := by
  intro args H n v H' n' h
  simp only [gWin] at h
  split at h
  · injection h with h; injection h with e1 e2; injection e2 with e2 e3; subst e1 e2 e3
    exact AC.frame0 (w118 _) (by simp)
  · cases h
theorem ok106 : EntOk Tryz.prog (106, gWin 999999999) := by
  intro args H n v H' n' h
  simp only [gWin] at h
  split at h
  · injection h with h; injection h with e1 e2; injection e2 with e2 e3; subst e1 e2 e3
    exact AC.frame0 (w106 _) (by simp)
  · cases h
theorem w29 {n : Nat} (up dn : Int) : AC Tryz.prog 29 [limA up dn] [] n (iv (limE up dn)) [] n := by
  have hr := recT_ok (P := Tryz.prog) (l := [(37, g37), (94, g94)]) (by simp [ok37, ok94])
  refine AC.pure Tryz.func29 rfl (by kernel_rfl) rfl [] rfl ?_
  refine E.seq ?_
  refine E.reg hr (by simp; rfl) ?_ -- region 0
  refine E.seq ?_
  refine E.drawC mixed hr [5, 6, 7] [2, 5, 6, 7] [1, 2, 5, 6, 7] (by kernel_rfl) (by simp [Nat.add_assoc, g37, g94, intsAt, intsOf]; rfl) ?_ -- region 1
  refine E.ret ?_
  exact pureK.ret rfl rfl (by simp [limE]) (by simp)
def g29 (args : List Value) (H : Heap) (n : Nat) : R := match args with
  | [.agg ⟨[.int .i64 up, .int .i64 dn]⟩] => some (.int .i64 (limE up dn), H, n)
  | _ => none
theorem ok29 : EntOk Tryz.prog (29, g29) := by
  intro args H n v H' n' h
  simp only [g29] at h
  split at h
  · injection h with h; injection h with e1 e2; injection e2 with e2 e3; subst e1 e2 e3
    exact AC.frame0 (w29 _ _) (by simp)
  · cases h
theorem w161 {n : Nat} (hn : 9 ≤ n) (up dn : Int) : AC Tryz.prog 161 [limA up dn] [(0, .inp 0 freeV)] n (iv (limE up dn)) [(0, .inp 0 freeV)] n := by
  have hr := recT_ok (P := Tryz.prog) (l := [(91, g91), (90, g90)]) (by simp [ok91, ok90])
  have hg : (0 : Nat) < Tryz.prog.globals.size := by rw [gsz]; omega
  have hn0 : (n = 0) = False := eq_false (by omega)
  have hn1 : (0 = n) = False := eq_false (by omega)
  have hp : 0 < n := by omega
  refine AC.pure Tryz.func161 rfl (by kernel_rfl) rfl [2, 1] rfl ?_
  refine E.seq ?_
  refine E.reg hr (by simp; rfl) ?_ -- region 0
  refine E.seq ?_
  refine E.seq ?_
  refine E.reg hr (by simp [evO_global, hn0, freeV, eq45]; rfl) ?_ -- region 1
  by_cases hc : up = 16 ∧ dn = 16
  · refine E.cond (t := true) (by simp [hc]) (fun _ => ?_) (fun h => by cases h)
    obtain ⟨rfl, rfl⟩ := hc
    refine E.seq ?_
    refine E.reg hr (by simp; rfl) ?_ -- region 2
    refine E.ret ?_
    exact pureK.ret rfl rfl (by simp [limE, withinV, firstV]) (by repeat first | exact sub_refl _ | refine sub_cons (by simp [newName, hn1]) ?_)
  · refine E.cond (t := false) (by simp; omega) (fun h => by cases h) (fun _ => ?_)
    refine E.skip ?_
    refine E.seq ?_
    refine E.drawC mixed hr [5, 6, 7] [2, 5, 6, 7] [1, 2, 5, 6, 7] (by kernel_rfl) (by simp [Nat.add_assoc, g91, g90, intsAt, intsOf, hn0]; rfl) ?_ -- region 3
    refine E.ret ?_
    exact pureK.ret rfl rfl (by simp [limE]) (by repeat first | exact sub_refl _ | refine sub_cons (by simp [newName, hn1]) ?_)
open Classical in
noncomputable def g161 (args : List Value) (H : Heap) (n : Nat) : R := match args with
  | [.agg ⟨[.int .i64 up, .int .i64 dn]⟩] => if hget H 0 = some (.inp 0 freeV) then some (.int .i64 (limE up dn), H, n) else none
  | _ => none
theorem ok161 : EntOk Tryz.prog (161, g161) := by
  intro args H n v H' n' h
  simp only [g161] at h
  split at h
  · split at h
    · rename_i h0
      injection h with h; injection h with e1 e2; injection e2 with e2 e3; subst e1 e2 e3
      refine AC.given fun _ _ hn => ?_
      refine (w161 (by rw [gsz] at hn; exact hn) _ _).frame (fun k b hk => ?_) fun k b hk => ?_
      · rw [hget_cons] at hk
        split at hk
        · rename_i e; subst e; rw [h0]; exact hk
        · cases hk
      · by_cases e : 0 = k
        · subst e; rw [h0] at hk; exact .inl hk
        · exact .inr ⟨hk, by rw [hget_cons, if_neg e]; rfl⟩
    · cases h
  · cases h
end Go.Proofs.YtkongcnmkiihjaaGreatDoor

namespace Go.Proofs.YtkongcnmkiihjaaGreatDoor
open Go Go.Ab Go.Proofs
theorem w43b {H : Heap} {n : Nat} {v u : Value} {l : List Int} (h1 : intV H v = some l) (h2 : intV H u = some l) : AC Tryz.prog 43 [v, u] H n (.bool true) H n := by
  refine AC.given fun hold _ _ => ?_
  have hr := recT_ok (P := Tryz.prog) (l := []) (by simp)
  obtain ⟨oa, c, rfl, hlt, _, hcell⟩ := intV_form h1
  obtain ⟨ob, d, rfl, _, _, hcell2⟩ := intV_form h2
  refine AC.pure Tryz.func43 rfl (by kernel_rfl) rfl [0, 1, 5] rfl ?_
  refine E.seq ?_
  refine E.reg hr (by simp; rfl) ?_ -- region 0
  refine E.seq ?_
  refine E.seq ?_
  refine E.reg hr (by simp; rfl) ?_ -- region 1
  refine E.cond (t := false) (by simp) (fun h => by cases h) (fun _ => ?_)
  refine E.skip ?_
  refine E.seq ?_
  refine E.seq ?_
  refine E.reg hr (by simp; rfl) ?_ -- region 3
  refine E.block ?_ -- 0
  refine E.loop ?_
  refine EL.ind (fun i : Nat => { fr := [(0, .slice oa l.length c), (1, .slice ob l.length d), (5, iv i)], sz := 26, H := H, n := n, marks := [], vs := [0, 1, 5] }) (fun i => l.length - i) (fun i => i ≤ l.length) 0 (.keep rfl rfl rfl (by simp) (Sub.refl _)) (Nat.zero_le _) (fun _ => rfl) ?_
  intro i hi
  have hw : IntKind.i64.wrap ((i : Int) + 1) = (i : Int) + 1 := W_in (by omega) (by omega)
  refine E.seq ?_
  refine E.seq ?_
  refine E.reg hr (by simp; rfl) ?_ -- region 4
  by_cases hlt' : i < l.length
  · obtain ⟨a, rfl, hf, hc⟩ := hcell i hlt'
    obtain ⟨b, rfl, hf2, hc2⟩ := hcell2 i hlt'
    have ha := cellA_lt (fun k x hk => (hold k x hk).1) hc
    have hb := cellA_lt (fun k x hk => (hold k x hk).1) hc2
    have hra : cellA (readA [a.block] H) a.block (a.off + i) = some (iv l[i]) := by rw [cellA_eq, hget_readA, ← hc, cellA_eq]; simp
    have hrb : cellA (readA [b.block] H) b.block (b.off + i) = some (iv l[i]) := by rw [cellA_eq, hget_readA, ← hc2, cellA_eq]; simp
    refine E.cond (t := true) (by simp [hlt']) (fun _ => ?_) (fun h => by cases h)
    refine E.skip ?_
    refine E.seq ?_
    refine E.block ?_ -- 1
    refine E.seq ?_
    refine E.drawS mixed hr [] (by kernel_rfl) (by simp [-cellA, -flat, -readA, hlt', hf, hf2, hra, hrb, ha, hb]; rfl) ?_ -- region 6
    refine E.cond (t := false) (by simp) (fun h => by cases h) (fun _ => ?_)
    refine E.skip ?_
    refine E.reg hr (by simp [hw]; rfl) ?_ -- region 5
    exact ⟨i + 1, .keep rfl rfl rfl (by simp) (Sub.refl _), hlt', by dsimp only; omega⟩
  · refine E.cond (t := false) (by simp [hlt']) (fun h => by cases h) (fun _ => ?_)
    refine E.exit ?_ -- 0
    refine E.seq ?_
    refine E.reg hr (by simp; rfl) ?_ -- region 8
    refine E.ret ?_
    exact pureK.ret rfl rfl (by simp) (Sub.refl _)
/-- both read as the same list -/
def alikeV (H : Heap) (v u : Value) : Bool := match intV H v, intV H u with
  | some x, some y => decide (x = y)
  | _, _ => false
def g43b (args : List Value) (H : Heap) (n : Nat) : R := match args with
  | [v, u] => if alikeV H v u = true then some (.bool true, H, n) else none
  | _ => none
theorem ok43b : EntOk Tryz.prog (43, g43b) := by
  intro args H n v H' n' h
  simp only [g43b] at h
  split at h
  · split at h
    · rename_i hc
      injection h with h; injection h with e1 e2; injection e2 with e2 e3; subst e1 e2 e3
      unfold alikeV at hc
      split at hc
      · rename_i x y hx hy
        have := of_decide_eq_true hc
        subst this
        exact w43b hx hy
      · cases hc
    · cases h
  · cases h
end Go.Proofs.YtkongcnmkiihjaaGreatDoor

namespace Go.Proofs.YtkongcnmkiihjaaGreatDoor
open Go Go.Ab Go.Proofs
theorem nest_tidy {H : Heap} {n : Nat} (hold : ∀ k b, hget H k = some b → k < n ∧ scB (· < n) b) {v : Value} {ls : List (List Int)} (h : nestV H v = some ls) : nestV (tidy n H) v = some ls :=
  listV_tidy (decL_tidy decI_tidy) (fun k b hk => (hold k b hk).1) h
theorem int_tidy {H : Heap} {n : Nat} (hold : ∀ k b, hget H k = some b → k < n ∧ scB (· < n) b) {v : Value} {l : List Int} (h : intV H v = some l) : intV (tidy n H) v = some l :=
  listV_tidy decI_tidy (fun k b hk => (hold k b hk).1) h
theorem cell_read {H : Heap} {a o : Nat} {L : List Nat} (h : memN L a = true) : cellA (readA L H) a o = cellA H a o := by
  rw [cellA_eq, hget_readA, if_pos h, cellA_eq]
theorem w32 {H : Heap} {n : Nat} {v u : Value} {ls : List (List Int)} (h1 : nestV H v = some ls) (h2 : nestV H u = some ls) : AC Tryz.prog 32 [v, u] H n (.bool true) H n := by
  refine AC.given fun hold _ _ => AC.tidied (B := []) (by simp) ?_
  replace h1 := nest_tidy hold h1
  replace h2 := nest_tidy hold h2
  have hr := recT_ok (P := Tryz.prog) (l := [(43, g43b)]) (by simp [ok43b])
  obtain ⟨oa, c, rfl, hlt, _, hrow⟩ := nestV_form h1
  obtain ⟨ob, d, rfl, _, _, hrow2⟩ := nestV_form h2
  refine AC.pure Tryz.func32 rfl (by kernel_rfl) rfl [0, 1, 5] rfl ?_
  refine E.seq ?_
  refine E.reg hr (by simp; rfl) ?_ -- region 0
  refine E.seq ?_
  refine E.seq ?_
  refine E.reg hr (by simp; rfl) ?_ -- region 1
  refine E.cond (t := false) (by simp) (fun h => by cases h) (fun _ => ?_)
  refine E.skip ?_
  refine E.seq ?_
  refine E.seq ?_
  refine E.reg hr (by simp; rfl) ?_ -- region 3
  refine E.block ?_ -- 0
  refine E.loop ?_
  refine EL.ind (fun i : Nat => { fr := [(0, .slice oa ls.length c), (1, .slice ob ls.length d), (5, iv i)], sz := 27, H := tidy n H, n := n, marks := [], vs := [0, 1, 5] }) (fun i => ls.length - i) (fun i => i ≤ ls.length) 0 (.keep rfl rfl rfl (by simp) (Sub.refl _)) (Nat.zero_le _) (fun _ => rfl) ?_
  intro i hi
  have hw : IntKind.i64.wrap ((i : Int) + 1) = (i : Int) + 1 := W_in (by omega) (by omega)
  refine E.seq ?_
  refine E.seq ?_
  refine E.reg hr (by simp; rfl) ?_ -- region 4
  by_cases hlt' : i < ls.length
  · obtain ⟨a, r, rfl, hf, hc, hv⟩ := hrow i hlt'
    obtain ⟨b, r2, rfl, hf2, hc2, hv2⟩ := hrow2 i hlt'
    have ha := cellA_lt tidy_lt hc
    have hb := cellA_lt tidy_lt hc2
    have hra := cell_read (H := tidy n H) (a := a.block) (o := a.off + i) (L := [a.block]) (by simp)
    have hrb := cell_read (H := tidy n H) (a := b.block) (o := b.off + i) (L := [b.block]) (by simp)
    refine E.cond (t := true) (by simp [hlt']) (fun _ => ?_) (fun h => by cases h)
    refine E.skip ?_
    refine E.seq ?_
    refine E.block ?_ -- 1
    refine E.seq ?_
    refine E.drawU mixed hr [8] [8] [3, 7, 8] (by kernel_rfl) (by simp [-cellA, -flat, -readA, hlt', hf, hf2, hra, hrb, hc, hc2, ha, hb, g43b, alikeV, hv, hv2]; rfl) ?_ -- region 6
    refine E.cond (t := false) (by simp) (fun h => by cases h) (fun _ => ?_)
    refine E.skip ?_
    refine E.reg hr (by simp [hw]; rfl) ?_ -- region 5
    exact ⟨i + 1, .keep rfl rfl rfl (by simp) (Sub.refl _), hlt', by dsimp only; omega⟩
  · refine E.cond (t := false) (by simp [hlt']) (fun h => by cases h) (fun _ => ?_)
    refine E.exit ?_ -- 0
    refine E.seq ?_
    refine E.reg hr (by simp; rfl) ?_ -- region 8
    refine E.ret ?_
    exact pureK.ret rfl rfl (by simp) (Sub.refl _)
def alikeN (H : Heap) (v u : Value) : Bool := match nestV H v, nestV H u with
  | some x, some y => decide (x = y)
  | _, _ => false
def g32 (args : List Value) (H : Heap) (n : Nat) : R := match args with
  | [v, u] => if alikeN H v u = true then some (.bool true, H, n) else none
  | _ => none
theorem ok32 : EntOk Tryz.prog (32, g32) := by
  intro args H n v H' n' h
  simp only [g32] at h
  split at h
  · split at h
    · rename_i hc
      injection h with h; injection h with e1 e2; injection e2 with e2 e3; subst e1 e2 e3
      unfold alikeN at hc
      split at hc
      · rename_i x y hx hy
        have := of_decide_eq_true hc
        subst this
        exact w32 hx hy
      · cases hc
    · cases h
  · cases h
end Go.Proofs.YtkongcnmkiihjaaGreatDoor

namespace Go.Proofs.YtkongcnmkiihjaaGreatDoor
open Go Go.Ab Go.Proofs
theorem tidy_old {H : Heap} {n : Nat} (hold : ∀ k b, hget H k = some b → k < n ∧ scB (· < n) b) : ∀ k b, hget (tidy n H) k = some b → k < n ∧ scB (· < n) b := fun k b h => hold k b (hget_tidy.1 h).1
/-! ### the errors of a panel -/
def cellE (l : List Int) : Int := firstV (l.map fun x => withinV x 0 1024)
def rowE (k0 len : Nat) : Int := firstV [whenV (decide (len = 0)) 12, whenV (decide (16 < len)) 5, whenV (!decide (len = k0)) 2]
def len0 (ls : List (List Int)) : Nat := match ls with
  | [] => 0
  | x :: _ => x.length
def rowsE (k0 : Nat) : List (List Int) → Int
  | [] => 0
  | l :: ls => if rowE k0 l.length = 0 then (if cellE l = 0 then rowsE k0 ls else cellE l) else rowE k0 l.length
def topE (k : Nat) : Int := firstV [whenV (decide (k = 0)) 12, whenV (decide (64 < k)) 5]
def panE (ls : List (List Int)) : Int := if topE ls.length = 0 then rowsE (len0 ls) ls else topE ls.length
theorem firstV_cons (a : Int) (l : List Int) : firstV (a :: l) = if a = 0 then firstV l else a := rfl
theorem topE_int {α : Type} (l : List α) : firstV [whenV (decide (l = [])) 12, whenV (decide ((64 : Int) < (l.length : Int))) 5] = topE l.length := by
  have h1 : decide ((64 : Int) < (l.length : Int)) = decide (64 < l.length) := by rw [decide_eq_decide]; omega
  have h2 : decide (l = []) = decide (l.length = 0) := by rw [decide_eq_decide]; simp
  rw [h1, h2]; rfl
theorem rowE_int {α : Type} (k0 : Nat) (l : List α) : firstV [whenV (decide (l = [])) 12, whenV (decide ((16 : Int) < (l.length : Int))) 5, whenV (!decide ((l.length : Int) = (k0 : Int))) 2] = rowE k0 l.length := by
  have h1 : decide ((16 : Int) < (l.length : Int)) = decide (16 < l.length) := by rw [decide_eq_decide]; omega
  have h2 : decide (l = []) = decide (l.length = 0) := by rw [decide_eq_decide]; simp
  have h3 : decide ((l.length : Int) = (k0 : Int)) = decide (l.length = k0) := by rw [decide_eq_decide]; omega
  rw [h1, h2, h3]; rfl
set_option maxRecDepth 20000 in
theorem w28 {H : Heap} {n : Nat} {v : Value} {ls : List (List Int)} (hN : nestV H v = some ls) : AC Tryz.prog 28 [v] H n (iv (panE ls)) H n := by
  refine AC.given fun hold hsc _ => AC.tidied (B := []) (by simp) ?_
  replace hN := nest_tidy hold hN
  replace hold := tidy_old hold
  have hr := recT_ok (P := Tryz.prog) (l := [(99, g99), (94, g94), (37, g37)]) (by simp [ok99, ok94, ok37])
  obtain ⟨oa, c, rfl, hlt, _, hrow⟩ := nestV_form hN
  have hsc : sc (· < n) (.slice oa ls.length c) := hsc.1
  have hS : Sub (tidy n H) (tidy n H) := Sub.refl _
  refine AC.pure Tryz.func28 rfl (by kernel_rfl) rfl [0, 4, 6] rfl ?_
  refine E.seq ?_
  refine E.reg hr (by simp; rfl) ?_ -- region 0
  refine E.seq ?_
  refine E.seq ?_
  have hT := topE_int ls
  refine E.reg hr (by simp [g99, g94, intsAt, intsOf, hT]; rfl) ?_ -- region 1
  refine E.seq ?_
  refine E.reg hr (by simp; rfl) ?_ -- region 2
  by_cases h0 : topE ls.length = 0
  · refine E.cond (t := false) (by simp [h0]) (fun h => by cases h) (fun _ => ?_)
    refine E.skip ?_
    refine E.seq ?_
    refine E.seq ?_
    refine E.reg hr (by simp; rfl) ?_ -- region 4
    refine E.block ?_ -- 0
    refine E.loop ?_
    refine EL.ind (fun i : Nat => { fr := [(0, .slice oa ls.length c), (4, iv i)], sz := 77, H := tidy n H, n := n, marks := [], vs := [0, 4, 6] }) (fun i => ls.length - i) (fun i => i ≤ ls.length ∧ rowsE (len0 ls) (ls.drop i) = rowsE (len0 ls) ls) 0 (.back rfl hold (Sub.cons (by simp) hS) rfl rfl ⟨rfl, rfl⟩ (by simp [-sc, hsc]; exact trivial)) ⟨Nat.zero_le _, rfl⟩ (fun _ => rfl) ?_
    rintro i ⟨hi, hg⟩
    have hw : IntKind.i64.wrap ((i : Int) + 1) = (i : Int) + 1 := W_in (by omega) (by omega)
    refine E.seq ?_
    refine E.seq ?_
    refine E.reg hr (by simp; rfl) ?_ -- region 5
    by_cases hil : i < ls.length
    · refine E.cond (t := true) (by simp [hil]) (fun _ => ?_) (fun h => by cases h)
      obtain ⟨a, r, rfl, hf, hc, hv⟩ := hrow i hil
      obtain ⟨a', r0, e0, _, hc0, hv0⟩ := hrow 0 (by omega)
      injection e0 with e0; subst e0
      obtain ⟨ob, cb, rfl, hlr, _, hcell⟩ := intV_form hv
      obtain ⟨od, cd, rfl, hlr0, _, _⟩ := intV_form hv0
      have ha := cellA_lt tidy_lt hc
      have hra := fun o => cell_read (H := tidy n H) (a := a.block) (o := o) (L := [a.block]) (by simp)
      have hpos : (0 : Int) < ls.length := by omega
      have hposN : 0 < ls.length := by omega
      have hh : (len0 ls) = ls[0].length := by
        cases ls with
        | nil => simp at hil
        | cons x xs => rfl
      rw [List.drop_eq_getElem_cons hil, rowsE] at hg
      rw [Nat.add_zero] at hc0
      refine E.skip ?_
      refine E.seq ?_
      refine E.block ?_ -- 1
      refine E.seq ?_
      refine E.seq ?_
      have hR := rowE_int ls[0].length ls[i]
      rw [← hh] at hR
      refine E.drawU mixed hr [24, 25, 26] [6, 13, 24, 25, 26] [3, 6, 13, 24, 25, 26] (by kernel_rfl) (by simp [-cellA, -flat, -readA, flat_n, hil, hf, hra, hc, hc0, ha, hposN, g99, g94, intsAt, intsOf, ← hh, hR]; rfl) ?_ -- region 7
      refine E.seq ?_
      refine E.reg hr (by simp; rfl) ?_ -- region 8
      by_cases hE : rowE (len0 ls) ls[i].length = 0
      · rw [if_pos hE] at hg
        refine E.cond (t := false) (by simp [hE]) (fun h => by cases h) (fun _ => ?_)
        refine E.skip ?_
        refine E.seq ?_
        refine E.reg hr (by simp; rfl) ?_ -- region 10
        refine E.block ?_ -- 2
        refine E.loop ?_
        refine EL.ind (fun k : Nat => { fr := [(0, .slice (some a) ls.length c), (4, iv i), (6, iv k)], sz := 77, H := tidy n H, n := n, marks := [], vs := [0, 4, 6] }) (fun k => ls[i].length - k) (fun k => k ≤ ls[i].length ∧ cellE (ls[i].drop k) = cellE ls[i]) 0 (.back rfl hold (Sub.cons (by simp) hS) rfl rfl ⟨rfl, rfl⟩ (by simp [ha])) ⟨Nat.zero_le _, rfl⟩ (fun _ => rfl) ?_
        rintro k ⟨hk, hq⟩
        have hw2 : IntKind.i64.wrap ((k : Int) + 1) = (k : Int) + 1 := W_in (by omega) (by omega)
        refine E.seq ?_
        refine E.seq ?_
        refine E.reg hr (by simp [-cellA, -flat, hil, hf, hc]; rfl) ?_ -- region 11
        by_cases hkl : k < ls[i].length
        · obtain ⟨b, rfl, hfb, hcb⟩ := hcell k hkl
          rw [List.drop_eq_getElem_cons hkl] at hq
          unfold cellE at hq
          rw [List.map_cons, firstV_cons] at hq
          refine E.cond (t := true) (by simp [hkl]) (fun _ => ?_) (fun h => by cases h)
          refine E.skip ?_
          refine E.seq ?_
          refine E.block ?_ -- 3
          refine E.seq ?_
          refine E.reg hr (by simp [-cellA, -flat, hil, hf, hc, hkl, hfb, hcb, g37]; rfl) ?_ -- region 13
          refine E.seq ?_
          refine E.reg hr (by simp; rfl) ?_ -- region 14
          by_cases hwv : withinV ls[i][k] 0 1024 = 0
          · rw [if_pos hwv] at hq
            refine E.cond (t := false) (by simp [hwv]) (fun h => by cases h) (fun _ => ?_)
            refine E.skip ?_
            refine E.reg hr (by simp [hw2]; rfl) ?_ -- region 12
            exact ⟨k + 1, .keep rfl rfl rfl (by simp) hS, ⟨hkl, hq⟩, by dsimp only; omega⟩
          · rw [if_neg hwv] at hq
            refine E.cond (t := true) (by simp [hwv]) (fun _ => ?_) (fun h => by cases h)
            refine E.seq ?_
            refine E.reg hr (by simp; rfl) ?_ -- region 15
            refine E.ret ?_
            have hq' : cellE ls[i] = withinV ls[i][k] 0 1024 := hq.symm
            rw [hq', if_neg hwv] at hg
            exact pureK.ret rfl rfl (by simp [panE, h0, ← hg]) hS
        · refine E.cond (t := false) (by simp [hkl]) (fun h => by cases h) (fun _ => ?_)
          refine E.exit ?_ -- 2
          refine E.reg hr (by simp [hw]; rfl) ?_ -- region 6
          rw [List.drop_eq_nil_of_le (by omega)] at hq
          rw [← hq, if_pos (show cellE [] = 0 from rfl)] at hg
          exact ⟨i + 1, .keep rfl rfl rfl (by simp) hS, ⟨hil, hg⟩, by dsimp only; omega⟩
      · rw [if_neg hE] at hg
        refine E.cond (t := true) (by simp [hE]) (fun _ => ?_) (fun h => by cases h)
        refine E.seq ?_
        refine E.reg hr (by simp; rfl) ?_ -- region 9
        refine E.ret ?_
        exact pureK.ret rfl rfl (by simp [panE, h0, ← hg]) (Sub.cons (by simp) hS)
    · refine E.cond (t := false) (by simp [hil]) (fun h => by cases h) (fun _ => ?_)
      refine E.exit ?_ -- 0
      refine E.seq ?_
      refine E.reg hr (by simp; rfl) ?_ -- region 16
      refine E.ret ?_
      rw [List.drop_eq_nil_of_le (by omega), rowsE] at hg
      exact pureK.ret rfl rfl (by simp [panE, h0, ← hg]) hS
  · refine E.cond (t := true) (by simp [h0]) (fun _ => ?_) (fun h => by cases h)
    refine E.seq ?_
    refine E.reg hr (by simp; rfl) ?_ -- region 3
    refine E.ret ?_
    exact pureK.ret rfl rfl (by simp [panE, h0]) (Sub.cons (by simp) hS)
def g28 (args : List Value) (H : Heap) (n : Nat) : R := match args with
  | [v] => (nestV H v).map fun ls => (iv (panE ls), H, n)
  | _ => none
theorem ok28 : EntOk Tryz.prog (28, g28) := by
  intro args H n v H' n' h
  simp only [g28] at h
  split at h
  · rw [Option.map_eq_some_iff] at h
    obtain ⟨ls, h1, h⟩ := h
    injection h with e1 e2; injection e2 with e2 e3; subst e1 e2 e3
    exact w28 h1
  · cases h
end Go.Proofs.YtkongcnmkiihjaaGreatDoor
