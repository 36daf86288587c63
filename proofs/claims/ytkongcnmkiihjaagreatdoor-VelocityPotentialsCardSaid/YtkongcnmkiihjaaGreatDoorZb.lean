/-
The walks of the program's checks, of growing, joining and picking rows, at whatever heap (each a contract: no condition but those in its statement).
-/
import Derived.Test.YtkongcnmkiihjaaGreatDoorZa
import Derived.Test.YtkongcnmkiihjaaGreatDoorYd
namespace Go.Proofs.YtkongcnmkiihjaaGreatDoor
open Go Go.Ab Go.Proofs
/-! ### a list of numbers that is made, appended to -/
def outI (n : Nat) (l : List Int) : Value := if l = [] then .slice none 0 0 else .slice (some ⟨n, 0, some 0⟩) l.length 0
def outB (n t : Nat) (l : List Int) : Heap := if l = [] then [] else [(n, .ext (l.map iv) t 1)]
@[simp] theorem outI_nil {n : Nat} : outI n [] = .slice none 0 0 := rfl
@[simp] theorem outB_nil {n t : Nat} : outB n t [] = [] := rfl
theorem outI_ne {n : Nat} {l : List Int} (h : l ≠ []) : outI n l = .slice (some ⟨n, 0, some 0⟩) l.length 0 := if_neg h
theorem outB_ne {n t : Nat} {l : List Int} (h : l ≠ []) : outB n t l = [(n, .ext (l.map iv) t 1)] := if_neg h
theorem hget_out {n t k : Nat} {l : List Int} {H : Heap} (h : k ≠ n) : hget (outB n t l ++ H) k = hget H k := by
  unfold outB
  split
  · rfl
  · show hget ((n, _) :: H) k = _
    rw [hget_cons, if_neg (fun e => h e.symm)]
theorem sub_out {n t : Nat} {l : List Int} {H : Heap} (h : hget H n = none) : Sub H (outB n t l ++ H) := by
  unfold outB
  split
  · exact Sub.refl _
  · exact Sub.cons h (Sub.refl _)
theorem intV_out {n t : Nat} {l : List Int} {H : Heap} (hl : l.length < 2147483648) : intV (outB n t l ++ H) (outI n l) = some l := by
  by_cases h : l = []
  · subst h; rfl
  · rw [outI_ne h, outB_ne h]
    exact intV_ext (t := t) (by show hget ((n, _) :: H) n = _; rw [hget_cons, if_pos rfl]) hl
theorem hdel_none : ∀ {H : Heap} {n : Nat}, hget H n = none → hdel H n = H
  | [], _, _ => rfl
  | (k, b) :: H, n, h => by
    rw [hget_cons] at h
    split at h
    · cases h
    · rename_i hne
      rw [hdel, beq_dec, decide_eq_false hne]
      rw [hdel_none h]
@[simp] theorem hdel_tidy {H : Heap} {n : Nat} : hdel (tidy n H) n = tidy n H := hdel_none tidy_new
theorem sc_out {n : Nat} {p : Nat → Prop} {l : List Int} (h : p n) : sc p (outI n l) := by
  unfold outI
  split
  · trivial
  · exact h
theorem ren_out {n m : Nat} {ρ : Nat → Nat} {l : List Int} (h : ρ n = m) : ren ρ (outI n l) = outI m l := by
  unfold outI
  split
  · rfl
  · simp [h]
theorem app_out {st t n k m : Nat} {l : List Int} {x : Int} {H : Heap} (ht : st = 24 ∧ t = 3 ∨ st = 170 ∧ t = 29) (hk : k ≠ n) (hH : hdel H n = H) (hl : l.length < 4294967296) :
    builtinA Tryz.prog .append #[st, st] ((k, .cells [iv x] t) :: (outB n t l ++ H)) m [outI n l, .slice (some ⟨k, 0, none⟩) 1 1] = some (outI m (l ++ [x]), (m, .ext ((l ++ [x]).map iv) t 1) :: (k, .cells [iv x] t) :: H, m + 1) := by
  have hne : l ++ [x] ≠ [] := by simp
  have hsm : (l.length + 1) * 8 ≤ 1099511627776 ∧ l.length + 1 ≤ 1099511627776 := by omega
  rw [outI_ne hne]
  by_cases h : l = []
  · subst h
    rcases ht with ⟨rfl, rfl⟩ | ⟨rfl, rfl⟩ <;> simp <;> rfl
  · rw [outI_ne h, outB_ne h]
    have hk' : ¬ n = k := fun e => hk e.symm
    rcases ht with ⟨rfl, rfl⟩ | ⟨rfl, rfl⟩ <;> simp [hk, hH, hsm] <;> exact List.take_of_length_le (by simp)
/-- entering a loop or behind a round: the list's block under the name 'n' -/
theorem Leads.out0 {P : Program} {n : Nat} {s s2 : St} {H : Heap} (hold : ∀ k b, hget H k = some b → k < n ∧ scB (· < n) b) (hkeep : Sub H s.H) (hs2 : s2.H = H) (hn : s2.n = n + 1) (hz : s2.sz = s.sz) (hm : s.marks = [] ∧ s2.marks = []) (hf : ∀ x ∈ s2.fr, lk s.fr x.1 = some x.2 ∧ sc (· < n) x.2) : Leads P n s s2 :=
  Leads.renR (A := []) (H := H) id (by simpa using hs2) hold hkeep (fun _ _ => rfl) (by omega) hz hm (fun t v hv => .inl (hf (t, v) (lk_mem _ _ _ hv))) (by simp) (by simp)
theorem Leads.out1 {P : Program} {n t m : Nat} {s s2 : St} {H : Heap} {l : List Int} (hold : ∀ k b, hget H k = some b → k < n ∧ scB (· < n) b) (hkeep : Sub H s.H) (hl : l ≠ []) (hs2 : s2.H = outB n t l ++ H) (hm1 : n ≤ m) (hg : hget s.H m = some (.ext (l.map iv) t 1)) (hn : s2.n = n + 1) (hz : s2.sz = s.sz) (hm : s.marks = [] ∧ s2.marks = [])
    (hf : ∀ x ∈ s2.fr, (lk s.fr x.1 = some x.2 ∧ sc (· < n) x.2) ∨ (x.2 = outI n l ∧ lk s.fr x.1 = some (outI m l))) : Leads P n s s2 := by
  refine Leads.renR (A := outB n t l) (H := H) (fun k => if k = n then m else k) hs2 hold hkeep (fun k hk => if_neg (by omega)) (by omega) hz hm (fun t v hv => ?_) (fun x hx => ?_) fun x hx y hy _ => ?_
  · rcases hf (t, v) (lk_mem _ _ _ hv) with h | ⟨h1, h2⟩
    · exact .inl h
    · dsimp only at h1 h2
      subst h1
      refine .inr ⟨?_, sc_out (by omega)⟩
      rw [h2, ren_out (ρ := fun k => if k = n then m else k) (m := m) (by simp)]
  · rw [outB_ne hl, List.mem_singleton] at hx
    subst hx
    refine ⟨Nat.le_refl _, by dsimp only; omega, ?_, ?_, ?_, trivial, rfl⟩
    · simpa using hm1
    · simp [hg, renB]
    · simp [scB]
  · rw [outB_ne hl, List.mem_singleton] at hx hy
    rw [hx, hy]
theorem outK_out {n m t : Nat} {H H1 : Heap} {l : List Int} {u : Value} (hu : u = outI m l) (hm : n ≤ m) (hg : l ≠ [] → hget H1 m = some (.ext (l.map iv) t 1)) (hs : Sub H H1) : Fresh n (n + 1) H (outI n l) (outB n t l) u H1 := by
  refine ⟨fun k => if k = n then m else k, fun k hk => if_neg (by omega), by rw [hu, ren_out (ρ := fun k => if k = n then m else k) (m := m) (by simp)], fun k b hk => ?_, fun j b k c hj hk _ => ?_, hs⟩
  · by_cases hl : l = []
    · subst hl; cases hk
    · rw [outB_ne hl, hget_cons] at hk
      split at hk
      · rename_i e
        subst e
        injection hk with hk
        subst hk
        refine ⟨Nat.le_refl _, Nat.lt_succ_self _, by simpa using hm, ?_, ?_, trivial, rfl⟩
        · simp [hg hl, renB]
        · simp [scB]
      · cases hk
  · by_cases hl : l = []
    · subst hl; cases hk
    · rw [outB_ne hl, hget_cons] at hj hk
      split at hj
      · split at hk
        · omega
        · cases hk
      · cases hj
theorem AC.outList {f : FuncId} {fn : Func} {c : Code} {args : List Value} {H : Heap} {n t : Nat} {l : List Int} (hf : Tryz.prog.funcs[f]? = some fn) (hb : fn.body = some c) (he : enterable Tryz.prog f = true) (hlen : Nat.ble args.length fn.ntmps = true) (vs : List Nat) (hl : l ≠ [])
    (h : E Tryz.prog n none c { fr := argsFr args 0, sz := fn.ntmps, H, n, marks := [], vs } (outK Tryz.prog fn (Fresh n (n + 1) H (outI n l) (outB n t l)))) : AC Tryz.prog f args H n (outI n l) (outB n t l ++ H) (n + 1) :=
  AC.fresh hf hb he hlen vs (by omega) (sc_out (by omega)) (fun ρ => by rw [outI_ne hl]; rfl) h
set_option maxRecDepth 20000 in
theorem w104b {f : FuncId} {F : Int → Int} {gF : List Value → Heap → Nat → R} (ok : EntOk Tryz.prog (f, gF)) (hF : ∀ x H n, gF [iv x] H n = some (iv (F x), H, n)) {H : Heap} {n : Nat} {v : Value} {l : List Int} (hN : intV H v = some l) (hne : l ≠ []) : AC Tryz.prog 104 [v, .func (.func f) #[] #[]] H n (outI n (l.map F)) (outB n 29 (l.map F) ++ H) (n + 1) := by
  refine AC.given fun hold hsc _ => AC.tidied (fun x hx => ?_) ?_
  · unfold outB at hx
    split at hx
    · cases hx
    · rw [List.mem_singleton] at hx; subst hx; exact Nat.le_refl _
  replace hN := int_tidy hold hN
  replace hold := tidy_old hold
  have hr := recT_ok (P := Tryz.prog) (l := [(f, gF)]) (by simpa using ok)
  obtain ⟨oa, c, rfl, hlt, _, hcell⟩ := intV_form hN
  have hsc : sc (· < n) (.slice oa l.length c) := hsc.1
  have hS : Sub (tidy n H) (tidy n H) := Sub.refl _
  refine AC.outList Tryz.func104 rfl (by kernel_rfl) rfl [1, 5, 8, 9, 10] (by simpa using hne) ?_
  refine E.seq ?_
  refine E.reg hr (by simp; rfl) ?_ -- region 0
  refine E.seq ?_
  refine E.reg hr (by simp; rfl) ?_ -- region 1
  refine E.seq ?_
  refine E.seq ?_
  refine E.reg hr (by simp; rfl) ?_ -- region 2
  refine E.block ?_ -- 0
  refine E.loop ?_
  refine EL.ind (fun i : Nat => { fr := [(1, .func (.func f) #[] #[]), (5, outI n ((l.map F).take i)), (8, .slice oa l.length c), (9, iv l.length), (10, iv i)], sz := 22, H := outB n 29 ((l.map F).take i) ++ tidy n H, n := n + 1, marks := [], vs := [1, 5, 8, 9, 10] }) (fun i => l.length - i) (fun i => i ≤ l.length) 0 (Leads.out0 hold hS rfl rfl rfl ⟨rfl, rfl⟩ (by simp [-sc, hsc, sc, scL])) (Nat.zero_le _) (fun _ => rfl) ?_
  intro i hi
  have hw : IntKind.i64.wrap ((i : Int) + 1) = (i : Int) + 1 := W_in (by omega) (by omega)
  refine E.seq ?_
  refine E.reg hr (by simp; rfl) ?_ -- region 3
  refine E.seq ?_
  by_cases hil : i < l.length
  · obtain ⟨a, rfl, hf, hc⟩ := hcell i hil
    have ha := cellA_lt tidy_lt hc
    have hc' := (sub_out (t := 29) (l := (l.map F).take i) (tidy_new (n := n) (H := H))).cell hc
    have hts : (l.map F).take i ++ [F l[i]] = (l.map F).take (i + 1) := by
      rw [List.take_succ_eq_append_getElem (by simpa using hil)]; simp
    have happ := app_out (st := 170) (t := 29) (n := n) (k := n + 1) (m := n + 1 + 1) (l := (l.map F).take i) (x := F l[i]) (H := tidy n H) (.inr ⟨rfl, rfl⟩) (by omega) hdel_tidy (by simp; omega)
    rw [hts] at happ
    refine E.cond (t := true) (by simp [hil]) (fun _ => ?_) (fun h => by cases h)
    refine E.skip ?_
    refine E.seq ?_
    refine E.block ?_ -- 1
    refine E.seq ?_
    refine E.reg hr (by simp [-cellA, -flat, hil, hf, hc']; rfl) ?_ -- region 4
    refine E.reg hr (by simp [-builtinA, run_vcall_tmp, vcallF, target, hF, happ]; rfl) ?_ -- region 5
    refine E.reg hr (by simp [hw]; rfl) ?_ -- region 6
    exact ⟨i + 1  , Leads.out1 (m := n + 1 + 1) (l := (l.map F).take (i + 1)) (t := 29) hold (Sub.cons (by simp [Nat.add_assoc]) (Sub.cons (by simp) hS)) (by simp [← hts]) rfl (by omega) (by simp) rfl rfl ⟨rfl, rfl⟩ (by simp [ha]), by omega, by dsimp only; omega⟩
  · refine E.cond (t := false) (by simp [hil]) (fun h => by cases h) (fun _ => ?_)
    have hti : (l.map F).take i = l.map F := List.take_of_length_le (by simp; omega)
    refine E.exit ?_ -- 0
    refine E.seq ?_
    refine E.reg hr (by simp; rfl) ?_ -- region 7
    refine E.ret ?_
    refine outK.ret rfl rfl (outK_out (m := n) (by simp [hti]) (Nat.le_refl _) (fun h => ?_) (sub_out tidy_new))
    dsimp only
    rw [hti, outB_ne h]
    simp
end Go.Proofs.YtkongcnmkiihjaaGreatDoor

namespace Go.Proofs.YtkongcnmkiihjaaGreatDoor
open Go Go.Ab Go.Proofs
def g104b (args : List Value) (H : Heap) (n : Nat) : R := match args with
  | [v, .func (.func f) ⟨[]⟩ ⟨[]⟩] => match intV H v with
    | some l => if l = [] then none else if f = 118 then some (outI n (l.map fun x => withinV x 0 1024), outB n 29 (l.map fun x => withinV x 0 1024) ++ H, n + 1) else if f = 106 then some (outI n (l.map fun x => withinV x 0 999999999), outB n 29 (l.map fun x => withinV x 0 999999999) ++ H, n + 1) else none
    | none => none
  | _ => none
theorem ok104b : EntOk Tryz.prog (104, g104b) := by
  intro args H n v H' n' h
  simp only [g104b] at h
  split at h
  · split at h
    · rename_i l hl
      split at h
      · cases h
      · rename_i hne
        split at h
        · rename_i hf
          subst hf
          injection h with h; injection h with e1 e2; injection e2 with e2 e3; subst e1 e2 e3
          exact w104b ok118 (fun _ _ _ => rfl) hl hne
        · split at h
          · rename_i hf
            subst hf
            injection h with h; injection h with e1 e2; injection e2 with e2 e3; subst e1 e2 e3
            exact w104b ok106 (fun _ _ _ => rfl) hl hne
          · cases h
    · cases h
  · cases h
theorem w90v {H : Heap} {n : Nat} {v : Value} {l : List Int} (hN : intV H v = some l) : AC Tryz.prog 90 [v] H n (iv (firstV l)) H n := by
  have hr := recT_ok (P := Tryz.prog) (l := []) (by simp)
  obtain ⟨oa, c, rfl, hlt, _, hcell⟩ := intV_form hN
  refine AC.pure Tryz.func90 rfl (by kernel_rfl) rfl [5, 6, 7] rfl ?_
  refine E.seq ?_
  refine E.reg hr (by simp; rfl) ?_ -- region 0
  refine E.seq ?_
  refine E.seq ?_
  refine E.reg hr (by simp; rfl) ?_ -- region 1
  refine E.block ?_ -- 0
  refine E.loop ?_
  refine EL.ind (fun i : Nat => { fr := [(5, .slice oa l.length c), (6, iv l.length), (7, iv i)], sz := 15, H := H, n := n, marks := [], vs := [5, 6, 7] }) (fun i => l.length - i) (fun i => i ≤ l.length ∧ firstV (l.drop i) = firstV l) 0 (.keep rfl rfl rfl (by simp) (Sub.refl _)) ⟨Nat.zero_le _, rfl⟩ (fun _ => rfl) ?_
  rintro i ⟨hi, hg⟩
  have hw : IntKind.i64.wrap ((i : Int) + 1) = (i : Int) + 1 := W_in (by omega) (by omega)
  refine E.seq ?_
  refine E.reg hr (by simp; rfl) ?_ -- region 2
  refine E.seq ?_
  by_cases hil : i < l.length
  · obtain ⟨a, rfl, hf, hc⟩ := hcell i hil
    rw [List.drop_eq_getElem_cons hil, firstV_cons] at hg
    refine E.cond (t := true) (by simp [hil]) (fun _ => ?_) (fun h => by cases h)
    refine E.skip ?_
    refine E.seq ?_
    refine E.block ?_ -- 1
    refine E.seq ?_
    refine E.reg hr (by simp [-cellA, -flat, hil, hf, hc]; rfl) ?_ -- region 3
    refine E.seq ?_
    refine E.reg hr (by simp; rfl) ?_ -- region 4
    by_cases hz : l[i] = 0
    · rw [if_pos hz] at hg
      refine E.cond (t := false) (by simp [hz]) (fun h => by cases h) (fun _ => ?_)
      refine E.skip ?_
      refine E.reg hr (by simp [hw]; rfl) ?_ -- region 6
      exact ⟨i + 1, .keep rfl rfl rfl (by simp) (Sub.refl _), ⟨hil, hg⟩, by dsimp only; omega⟩
    · rw [if_neg hz] at hg
      refine E.cond (t := true) (by simp [hz]) (fun _ => ?_) (fun h => by cases h)
      refine E.seq ?_
      refine E.reg hr (by simp; rfl) ?_ -- region 5
      refine E.ret ?_
      exact pureK.ret rfl rfl (by simp [← hg]) (Sub.refl _)
  · refine E.cond (t := false) (by simp [hil]) (fun h => by cases h) (fun _ => ?_)
    refine E.exit ?_ -- 0
    refine E.seq ?_
    refine E.reg hr (by simp; rfl) ?_ -- region 7
    refine E.ret ?_
    rw [List.drop_eq_nil_of_le (by omega)] at hg
    exact pureK.ret rfl rfl (by simp [← hg, firstV]) (Sub.refl _)
def g90v (args : List Value) (H : Heap) (n : Nat) : R := match args with
  | [v] => (intV H v).map fun l => (iv (firstV l), H, n)
  | _ => none
theorem ok90v : EntOk Tryz.prog (90, g90v) := by
  intro args H n v H' n' h
  simp only [g90v] at h
  split at h
  · rw [Option.map_eq_some_iff] at h
    obtain ⟨ls, h1, h⟩ := h
    injection h with e1 e2; injection e2 with e2 e3; subst e1 e2 e3
    exact w90v h1
  · cases h
set_option maxRecDepth 20000 in
theorem w41 {H : Heap} {n : Nat} {v : Value} {ls : List (List Int)} (hN : nestV H v = some ls) : AC Tryz.prog 41 [v] H n (iv (panE ls)) H n := by
  refine AC.given fun hold hsc _ => AC.tidied (B := []) (by simp) ?_
  replace hN := nest_tidy hold hN
  replace hold := tidy_old hold
  have hr := recT_ok (P := Tryz.prog) (l := [(96, g96), (90, g90)]) (by simp [ok96, ok90])
  have hr2 := recT_ok (P := Tryz.prog) (l := [(104, g104b), (90, g90v)]) (by simp [ok104b, ok90v])
  obtain ⟨oa, c, rfl, hlt, _, hrow⟩ := nestV_form hN
  have hsc : sc (· < n) (.slice oa ls.length c) := hsc.1
  have hS : Sub (tidy n H) (tidy n H) := Sub.refl _
  refine AC.pure Tryz.func41 rfl (by kernel_rfl) rfl [0, 5, 21, 22, 23] rfl ?_
  refine E.seq ?_
  refine E.reg hr (by simp; rfl) ?_ -- region 0
  refine E.seq ?_
  refine E.seq ?_
  have hT := topE_int ls
  refine E.reg hr (by simp [g96, g90, intsAt, intsOf, hT]; rfl) ?_ -- region 1
  refine E.seq ?_
  refine E.reg hr (by simp; rfl) ?_ -- region 2
  by_cases h0 : topE ls.length = 0
  · refine E.cond (t := false) (by simp [h0]) (fun h => by cases h) (fun _ => ?_)
    refine E.skip ?_
    refine E.seq ?_
    refine E.seq ?_
    refine E.reg hr (by simp; rfl) ?_ -- region 4
    refine E.block ?_ -- 0
    refine E.loop ?_
    refine EL.ind (fun i : Nat => { fr := [(0, .slice oa ls.length c), (21, .slice oa ls.length c), (22, iv ls.length), (23, iv i)], sz := 55, H := tidy n H, n := n, marks := [], vs := [0, 5, 21, 22, 23] }) (fun i => ls.length - i) (fun i => i ≤ ls.length ∧ rowsE (len0 ls) (ls.drop i) = rowsE (len0 ls) ls) 0 (.back rfl hold (Sub.cons (by simp) hS) rfl rfl ⟨rfl, rfl⟩ (by simp [-sc, hsc]; exact ⟨trivial, trivial⟩)) ⟨Nat.zero_le _, rfl⟩ (fun _ => rfl) ?_
    rintro i ⟨hi, hg⟩
    have hw : IntKind.i64.wrap ((i : Int) + 1) = (i : Int) + 1 := W_in (by omega) (by omega)
    refine E.seq ?_
    refine E.reg hr (by simp; rfl) ?_ -- region 5
    refine E.seq ?_
    by_cases hil : i < ls.length
    · refine E.cond (t := true) (by simp [hil]) (fun _ => ?_) (fun h => by cases h)
      obtain ⟨a, r, rfl, hf, hc, hv⟩ := hrow i hil
      obtain ⟨a', r0, e0, _, hc0, hv0⟩ := hrow 0 (by omega)
      injection e0 with e0; subst e0
      obtain ⟨ob, cb, rfl, hlr, _, hcell⟩ := intV_form hv
      obtain ⟨od, cd, rfl, hlr0, _, _⟩ := intV_form hv0
      have ha := cellA_lt tidy_lt hc
      have hra := fun o => cell_read (H := tidy n H) (a := a.block) (o := o) (L := [a.block]) (by simp)
      have hpos : 0 < ls.length := by omega
      have hh : (len0 ls) = ls[0].length := by
        cases ls with
        | nil => simp at hil
        | cons x xs => rfl
      rw [List.drop_eq_getElem_cons hil, rowsE] at hg
      rw [Nat.add_zero] at hc0
      have hscr : sc (· < n) (.slice ob ls[i].length cb) := by
        rw [cellA_eq] at hc
        obtain ⟨b, hb1, hb2⟩ := Option.bind_eq_some_iff.1 hc
        exact cellB_sc (hold _ _ hb1).2 hb2
      refine E.skip ?_
      refine E.seq ?_
      refine E.block ?_ -- 1
      refine E.seq ?_
      refine E.reg hr (by simp [-cellA, -flat, hil, hf, hc]; rfl) ?_ -- region 6
      refine E.seq ?_
      refine E.seq ?_
      have hR := rowE_int ls[0].length ls[i]
      rw [← hh] at hR
      refine E.drawU mixed hr [15, 16, 17] [3, 7, 15, 16, 17] [3, 7, 15, 16, 17] (by kernel_rfl) (by simp [-cellA, -flat, -readA, flat_n, hf, hra, hc0, ha, hpos, g96, g90, intsAt, intsOf, ← hh, hR]; rfl) ?_ -- region 7
      refine E.seq ?_
      refine E.reg hr (by simp; rfl) ?_ -- region 8
      by_cases hE : rowE (len0 ls) ls[i].length = 0
      · rw [if_pos hE] at hg
        refine E.cond (t := false) (by simp [hE]) (fun h => by cases h) (fun _ => ?_)
        refine E.skip ?_
        refine E.seq ?_
        have hne : ls[i] ≠ [] := by
          intro e
          rw [e] at hE
          simp [rowE, firstV, whenV] at hE
        refine E.lead { fr := [(0, .slice (some a) ls.length c), (5, .slice ob ls[i].length cb), (21, .slice (some a) ls.length c), (22, iv ls.length), (23, iv i)], sz := 55, H := tidy n H, n := n, marks := [], vs := [0, 5, 21, 22, 23] } (.back rfl hold (Sub.cons (by simp) hS) rfl rfl ⟨rfl, rfl⟩ (by simp [-sc, hscr, hsc]; exact ⟨trivial, trivial⟩)) ?_
        have hio := intV_out (n := n) (t := 29) (l := ls[i].map fun x => withinV x 0 1024) (H := tidy n H) (by simpa using hlr)
        refine E.reg hr2 (by simp [g104b, hv, hne, g90v, hio]; rfl) ?_ -- region 10
        refine E.seq ?_
        refine E.reg hr (by simp; rfl) ?_ -- region 11
        by_cases hwv : cellE ls[i] = 0
        · rw [if_pos hwv] at hg
          refine E.cond (t := false) (by simp; exact hwv) (fun h => by cases h) (fun _ => ?_)
          refine E.skip ?_
          refine E.reg hr (by simp [hw]; rfl) ?_ -- region 13
          exact ⟨i + 1, .back rfl hold (sub_out tidy_new) rfl rfl ⟨rfl, rfl⟩ (by simp [-sc, hsc]; exact ⟨trivial, trivial⟩), ⟨hil, hg⟩, by dsimp only; omega⟩
        · rw [if_neg hwv] at hg
          refine E.cond (t := true) (by simp; exact hwv) (fun _ => ?_) (fun h => by cases h)
          refine E.seq ?_
          refine E.reg hr (by simp; rfl) ?_ -- region 12
          refine E.ret ?_
          exact pureK.ret rfl rfl (by simp [panE, h0, ← hg]; rfl) (sub_out tidy_new)
      · rw [if_neg hE] at hg
        refine E.cond (t := true) (by simp [hE]) (fun _ => ?_) (fun h => by cases h)
        refine E.seq ?_
        refine E.reg hr (by simp; rfl) ?_ -- region 9
        refine E.ret ?_
        exact pureK.ret rfl rfl (by simp [panE, h0, ← hg]) (Sub.cons (by simp) hS)
    · refine E.cond (t := false) (by simp [hil]) (fun h => by cases h) (fun _ => ?_)
      refine E.exit ?_ -- 0
      refine E.seq ?_
      refine E.reg hr (by simp; rfl) ?_ -- region 14
      refine E.ret ?_
      rw [List.drop_eq_nil_of_le (by omega), rowsE] at hg
      exact pureK.ret rfl rfl (by simp [panE, h0, ← hg]) hS
  · refine E.cond (t := true) (by simp [h0]) (fun _ => ?_) (fun h => by cases h)
    refine E.seq ?_
    refine E.reg hr (by simp; rfl) ?_ -- region 3
    refine E.ret ?_
    exact pureK.ret rfl rfl (by simp [panE, h0]) (Sub.cons (by simp) hS)
theorem ok41 : EntOk Tryz.prog (41, g28) := by
  intro args H n v H' n' h
  simp only [g28] at h
  split at h
  · rw [Option.map_eq_some_iff] at h
    obtain ⟨ls, h1, h⟩ := h
    injection h with e1 e2; injection e2 with e2 e3; subst e1 e2 e3
    exact w41 h1
  · cases h
end Go.Proofs.YtkongcnmkiihjaaGreatDoor

namespace Go.Proofs.YtkongcnmkiihjaaGreatDoor
open Go Go.Ab Go.Proofs
/-! ### panel and limits -/
def chkE (ls : List (List Int)) (up dn : Int) : Int := firstV [panE ls, limE up dn]
theorem global_tidy {H : Heap} {n : Nat} (hn : 9 ≤ n) (h0 : hget H 0 = some (.inp 0 freeV)) : hget (tidy n H) 0 = some (.inp 0 freeV) := hget_tidy.2 ⟨h0, by omega, rfl⟩
set_option maxRecDepth 20000 in
theorem w100 {H : Heap} {n : Nat} {v : Value} {ls : List (List Int)} (hN : nestV H v = some ls) (h0 : hget H 0 = some (.inp 0 freeV)) (up dn : Int) : AC Tryz.prog 100 [v, limA up dn] H n (iv (chkE ls up dn)) H n := by
  refine AC.given fun hold hsc hgn => AC.tidied (B := []) (by simp) ?_
  rw [gsz] at hgn
  replace hN := nest_tidy hold hN
  replace hold := tidy_old hold
  replace h0 := global_tidy hgn h0
  have hr := recT_ok (P := Tryz.prog) (l := [(41, g28), (161, g161), (90, g90)]) (by simp [ok41, ok161, ok90])
  have hS : Sub (tidy n H) (tidy n H) := Sub.refl _
  have hn0 : (n = 0) = False := eq_false (by omega)
  have hf0 : hget (frzH (tidy n H)) 0 = some (.inp 0 freeV) := by rw [hget_frz, h0]; rfl
  have hN1 : nestV ((n, .inp 0 [iv up, iv dn]) :: frzH (tidy n H)) v = some ls := listV_mono decNI_mono (Sub.cons (by rw [hget_frz, tidy_new]; rfl) (Sub.refl _)) (by rw [listV_frz (decL_frz decI_frz)]; exact hN)
  refine AC.pure Tryz.func100 rfl (by kernel_rfl) rfl [] rfl ?_
  refine E.seq ?_
  refine E.reg hr (by simp; rfl) ?_ -- region 0
  refine E.seq ?_
  refine E.drawU mixed hr [3, 4, 5] [1, 3, 4, 5] [1, 3, 4, 5] (by kernel_rfl) (by simp [Nat.add_assoc, hn0, h0, g28, hN1, g161, g90, intsAt, intsOf]; rfl) ?_ -- region 1
  refine E.ret ?_
  exact pureK.ret rfl rfl (by simp [chkE]) (Sub.cons (by simp) (Sub.cons (by simp) hS))
open Classical in
noncomputable def g100 (args : List Value) (H : Heap) (n : Nat) : R := match args with
  | [v, .agg ⟨[.int .i64 up, .int .i64 dn]⟩] => match nestV H v with
    | some ls => if hget H 0 = some (.inp 0 freeV) then some (iv (chkE ls up dn), H, n) else none
    | none => none
  | _ => none
theorem ok100 : EntOk Tryz.prog (100, g100) := by
  intro args H n v H' n' h
  simp only [g100] at h
  split at h
  · split at h
    · rename_i ls hls
      split at h
      · rename_i h0
        injection h with h; injection h with e1 e2; injection e2 with e2 e3; subst e1 e2 e3
        exact w100 hls h0 _ _
      · cases h
    · cases h
  · cases h
/-! ### searches -/
theorem w109 {H : Heap} {n : Nat} {b : Addr} {m r : Int} (h : cellA H b.block b.off = some (iv r)) : AC Tryz.prog 109 [iv m, .pointer (some b)] H n (.bool (decide (r < m))) H n := by
  have hr := recT_ok (P := Tryz.prog) (l := []) (by simp)
  refine AC.pure Tryz.func109 rfl (by kernel_rfl) rfl [] rfl ?_
  refine E.seq ?_
  refine E.reg hr (by simp; rfl) ?_ -- region 0
  refine E.seq ?_
  refine E.reg hr (by simp [-cellA, h]; rfl) ?_ -- region 1
  refine E.ret ?_
  exact pureK.ret rfl rfl (by simp) (Sub.refl _)
def g109 (args : List Value) (H : Heap) (n : Nat) : R := match args with
  | [.int .i64 m, .pointer (some b)] => match cellA H b.block b.off with
    | some (.int .i64 r) => some (.bool (decide (r < m)), H, n)
    | _ => none
  | _ => none
theorem ok109 : EntOk Tryz.prog (109, g109) := by
  intro args H n v H' n' h
  simp only [g109] at h
  split at h
  · split at h
    · rename_i hc
      injection h with h; injection h with e1 e2; injection e2 with e2 e3; subst e1 e2 e3
      exact w109 hc
    · cases h
  · cases h
def idxV (F : Int → Bool) (l : List Int) : Int := match l.findIdx? F with
  | some i => i
  | none => -1
theorem idxV_any (F : Int → Bool) (l : List Int) : decide (0 ≤ idxV F l) = l.any F := by
  unfold idxV
  cases h : l.findIdx? F with
  | none =>
    rw [List.findIdx?_eq_none_iff] at h
    have : l.any F = false := by rw [List.any_eq_false]; intro x hx; rw [h x hx]; decide
    rw [this]; rfl
  | some i =>
    have h2 : l.any F = true := by
      rw [List.findIdx?_eq_some_iff_getElem] at h
      obtain ⟨hi, h1, _⟩ := h
      exact List.any_eq_true.2 ⟨l[i], List.getElem_mem hi, h1⟩
    rw [h2]
    show decide ((0 : Int) ≤ (i : Int)) = true
    exact decide_eq_true (by omega)
theorem w164 {H : Heap} {n : Nat} {v : Value} {l : List Int} {r : Int} {b : Addr} (hN : intV H v = some l) (hb : cellA H b.block b.off = some (iv r)) : AC Tryz.prog 164 [v, .func (.func 109) #[] #[.pointer (some b)]] H n (iv (idxV (fun m => decide (r < m)) l)) H n := by
  have hr := recT_ok (P := Tryz.prog) (l := [(109, g109)]) (by simp [ok109])
  obtain ⟨oa, c, rfl, hlt, _, hcell⟩ := intV_form hN
  refine AC.pure Tryz.func164 rfl (by kernel_rfl) rfl [0, 1, 7, 8] rfl ?_
  refine E.seq ?_
  refine E.reg hr (by simp; rfl) ?_ -- region 0
  refine E.seq ?_
  refine E.seq ?_
  refine E.reg hr (by simp; rfl) ?_ -- region 1
  refine E.block ?_ -- 0
  refine E.loop ?_
  refine EL.ind (fun i : Nat => { fr := [(0, .slice oa l.length c), (1, .func (.func 109) #[] #[.pointer (some b)]), (7, iv l.length), (8, iv i)], sz := 19, H := H, n := n, marks := [], vs := [0, 1, 7, 8] }) (fun i => l.length - i) (fun i => i ≤ l.length ∧ ∀ j (h : j < l.length), j < i → ¬ r < l[j]) 0 (.keep rfl rfl rfl (by simp) (Sub.refl _)) ⟨Nat.zero_le _, by omega⟩ (fun _ => rfl) ?_
  rintro i ⟨hi, hg⟩
  have hw : IntKind.i64.wrap ((i : Int) + 1) = (i : Int) + 1 := W_in (by omega) (by omega)
  refine E.seq ?_
  refine E.reg hr (by simp; rfl) ?_ -- region 2
  refine E.seq ?_
  by_cases hil : i < l.length
  · obtain ⟨a, rfl, hf, hc⟩ := hcell i hil
    refine E.cond (t := true) (by simp [hil]) (fun _ => ?_) (fun h => by cases h)
    refine E.skip ?_
    refine E.seq ?_
    refine E.block ?_ -- 1
    refine E.seq ?_
    refine E.reg hr (by simp; rfl) ?_ -- region 3
    refine E.seq ?_
    refine E.reg hr (by simp [-cellA, -flat, run_vcall_tmp, vcallF, target, hil, hf, hc, g109, hb]; rfl) ?_ -- region 4
    by_cases hz : r < l[i]
    · refine E.cond (t := true) (by simp [hz]) (fun _ => ?_) (fun h => by cases h)
      refine E.seq ?_
      refine E.reg hr (by simp; rfl) ?_ -- region 5
      refine E.ret ?_
      have : l.findIdx? (fun m => decide (r < m)) = some i := by
        rw [List.findIdx?_eq_some_iff_getElem]
        exact ⟨hil, by simpa using hz, fun j hj => by simpa using hg j (by omega) hj⟩
      exact pureK.ret rfl rfl (by simp [idxV, this]) (Sub.refl _)
    · refine E.cond (t := false) (by simp [hz]) (fun h => by cases h) (fun _ => ?_)
      refine E.skip ?_
      refine E.reg hr (by simp [hw]; rfl) ?_ -- region 6
      exact ⟨i + 1, .keep rfl rfl rfl (by simp) (Sub.refl _), ⟨hil, fun j hj hlt => by
        rcases Nat.lt_or_ge j i with h | h
        · exact hg j hj h
        · have : j = i := by omega
          subst this; exact hz⟩, by dsimp only; omega⟩
  · refine E.cond (t := false) (by simp [hil]) (fun h => by cases h) (fun _ => ?_)
    refine E.exit ?_ -- 0
    refine E.seq ?_
    refine E.reg hr (by simp; rfl) ?_ -- region 7
    refine E.ret ?_
    have : l.findIdx? (fun m => decide (r < m)) = none := by
      rw [List.findIdx?_eq_none_iff]
      intro x hx
      obtain ⟨j, hj, rfl⟩ := List.getElem_of_mem hx
      simpa using hg j hj (by omega)
    exact pureK.ret rfl rfl (by simp [idxV, this]) (Sub.refl _)
def g164 (args : List Value) (H : Heap) (n : Nat) : R := match args with
  | [v, .func (.func 109) ⟨[]⟩ ⟨[.pointer (some b)]⟩] => match intV H v, cellA H b.block b.off with
    | some l, some (.int .i64 r) => some (iv (idxV (fun m => decide (r < m)) l), H, n)
    | _, _ => none
  | _ => none
theorem ok164 : EntOk Tryz.prog (164, g164) := by
  intro args H n v H' n' h
  simp only [g164] at h
  split at h
  · split at h
    · rename_i h1 h2
      injection h with h; injection h with e1 e2; injection e2 with e2 e3; subst e1 e2 e3
      exact w164 h1 h2
    · cases h
  · cases h
theorem w107 {H : Heap} {n : Nat} {v : Value} {l : List Int} {r : Int} {b : Addr} (hN : intV H v = some l) (hb : cellA H b.block b.off = some (iv r)) : AC Tryz.prog 107 [v, .func (.func 109) #[] #[.pointer (some b)]] H n (.bool (l.any fun m => decide (r < m))) H n := by
  have hr := recT_ok (P := Tryz.prog) (l := [(164, g164)]) (by simp [ok164])
  refine AC.pure Tryz.func107 rfl (by kernel_rfl) rfl [] rfl ?_
  refine E.seq ?_
  refine E.reg hr (by simp; rfl) ?_ -- region 0
  refine E.seq ?_
  refine E.reg hr (by simp [-cellA, g164, hN, hb, idxV_any]; rfl) ?_ -- region 1
  refine E.ret ?_
  exact pureK.ret rfl rfl (by simp) (Sub.refl _)
def g107 (args : List Value) (H : Heap) (n : Nat) : R := match args with
  | [v, .func (.func 109) ⟨[]⟩ ⟨[.pointer (some b)]⟩] => match intV H v, cellA H b.block b.off with
    | some l, some (.int .i64 r) => some (.bool (l.any fun m => decide (r < m)), H, n)
    | _, _ => none
  | _ => none
theorem ok107 : EntOk Tryz.prog (107, g107) := by
  intro args H n v H' n' h
  simp only [g107] at h
  split at h
  · split at h
    · rename_i h1 h2
      injection h with h; injection h with e1 e2; injection e2 with e2 e3; subst e1 e2 e3
      exact w107 h1 h2
    · cases h
  · cases h
end Go.Proofs.YtkongcnmkiihjaaGreatDoor

namespace Go.Proofs.YtkongcnmkiihjaaGreatDoor
open Go Go.Ab Go.Proofs
/-! ### rows of another length -/
theorem w103 {H : Heap} {n : Nat} {b : Addr} {v r : Value} {ls : List (List Int)} {l : List Int} (hb : cellA H b.block b.off = some v) (hN : nestV H v = some ls) (hl : intV H r = some l) (hpos : 0 < ls.length) : AC Tryz.prog 103 [r, .pointer (some b)] H n (.bool (!decide (l.length = len0 ls))) H n := by
  have hr := recT_ok (P := Tryz.prog) (l := []) (by simp)
  obtain ⟨oa, c, rfl, hlt, _, hrow⟩ := nestV_form hN
  obtain ⟨ob, d, rfl, _, _, _⟩ := intV_form hl
  obtain ⟨a, r0, rfl, hf, hc, hv⟩ := hrow 0 hpos
  obtain ⟨od, e, rfl, _, _, _⟩ := intV_form hv
  rw [Nat.add_zero] at hc
  have hh : (len0 ls) = ls[0].length := by
    cases ls with
    | nil => simp at hpos
    | cons x xs => rfl
  have hd : decide ((l.length : Int) = (ls[0].length : Int)) = decide (l.length = len0 ls) := by rw [hh, decide_eq_decide]; omega
  refine AC.pure Tryz.func103 rfl (by kernel_rfl) rfl [] rfl ?_
  refine E.seq ?_
  refine E.reg hr (by simp; rfl) ?_ -- region 0
  refine E.seq ?_
  refine E.reg hr (by simp [-cellA, -flat, hb, hf, hc, hpos, hd]; rfl) ?_ -- region 1
  refine E.ret ?_
  exact pureK.ret rfl rfl (by simp) (Sub.refl _)
def g103 (args : List Value) (H : Heap) (n : Nat) : R := match args with
  | [r, .pointer (some b)] => match cellA H b.block b.off, intV H r with
    | some v, some l => match nestV H v with
      | some ls => if 0 < ls.length then some (.bool (!decide (l.length = len0 ls)), H, n) else none
      | none => none
    | _, _ => none
  | _ => none
theorem ok103 : EntOk Tryz.prog (103, g103) := by
  intro args H n v H' n' h
  simp only [g103] at h
  split at h
  · split at h
    · rename_i h1 h2
      split at h
      · rename_i h3
        split at h
        · rename_i h4
          injection h with h; injection h with e1 e2; injection e2 with e2 e3; subst e1 e2 e3
          exact w103 h1 h3 h2 h4
        · cases h
      · cases h
    · cases h
  · cases h
def idxN (k : Nat) (ls : List (List Int)) : Int := match ls.findIdx? (fun l => !decide (l.length = k)) with
  | some i => i
  | none => -1
theorem idxN_any (k : Nat) (ls : List (List Int)) : decide (0 ≤ idxN k ls) = ls.any fun l => !decide (l.length = k) := by
  unfold idxN
  cases h : ls.findIdx? (fun l => !decide (l.length = k)) with
  | none =>
    rw [List.findIdx?_eq_none_iff] at h
    have : ls.any (fun l => !decide (l.length = k)) = false := by rw [List.any_eq_false]; intro x hx; rw [h x hx]; decide
    rw [this]; rfl
  | some i =>
    have h2 : ls.any (fun l => !decide (l.length = k)) = true := by
      rw [List.findIdx?_eq_some_iff_getElem] at h
      obtain ⟨hi, h1, _⟩ := h
      exact List.any_eq_true.2 ⟨ls[i], List.getElem_mem hi, h1⟩
    rw [h2]
    show decide ((0 : Int) ≤ (i : Int)) = true
    exact decide_eq_true (by omega)
theorem w162 {H : Heap} {n : Nat} {v u : Value} {ls ms : List (List Int)} {b : Addr} (hN : nestV H v = some ls) (hb : cellA H b.block b.off = some u) (hM : nestV H u = some ms) (hpos : 0 < ms.length) : AC Tryz.prog 162 [v, .func (.func 103) #[] #[.pointer (some b)]] H n (iv (idxN (len0 ms) ls)) H n := by
  have hr := recT_ok (P := Tryz.prog) (l := [(103, g103)]) (by simp [ok103])
  obtain ⟨oa, c, rfl, hlt, _, hrow⟩ := nestV_form hN
  refine AC.pure Tryz.func162 rfl (by kernel_rfl) rfl [0, 1, 7, 8] rfl ?_
  refine E.seq ?_
  refine E.reg hr (by simp; rfl) ?_ -- region 0
  refine E.seq ?_
  refine E.seq ?_
  refine E.reg hr (by simp; rfl) ?_ -- region 1
  refine E.block ?_ -- 0
  refine E.loop ?_
  refine EL.ind (fun i : Nat => { fr := [(0, .slice oa ls.length c), (1, .func (.func 103) #[] #[.pointer (some b)]), (7, iv ls.length), (8, iv i)], sz := 19, H := H, n := n, marks := [], vs := [0, 1, 7, 8] }) (fun i => ls.length - i) (fun i => i ≤ ls.length ∧ ∀ j (h : j < ls.length), j < i → ls[j].length = len0 ms) 0 (.keep rfl rfl rfl (by simp) (Sub.refl _)) ⟨Nat.zero_le _, by omega⟩ (fun _ => rfl) ?_
  rintro i ⟨hi, hg⟩
  have hw : IntKind.i64.wrap ((i : Int) + 1) = (i : Int) + 1 := W_in (by omega) (by omega)
  refine E.seq ?_
  refine E.reg hr (by simp; rfl) ?_ -- region 2
  refine E.seq ?_
  by_cases hil : i < ls.length
  · obtain ⟨a, r, rfl, hf, hc, hv⟩ := hrow i hil
    refine E.cond (t := true) (by simp [hil]) (fun _ => ?_) (fun h => by cases h)
    refine E.skip ?_
    refine E.seq ?_
    refine E.block ?_ -- 1
    refine E.seq ?_
    refine E.reg hr (by simp; rfl) ?_ -- region 3
    refine E.seq ?_
    refine E.reg hr (by simp [-cellA, -flat, run_vcall_tmp, vcallF, target, hil, hf, hc, g103, hb, hv, hM, hpos]; rfl) ?_ -- region 4
    by_cases hz : ls[i].length = len0 ms
    · refine E.cond (t := false) (by simp [hz]) (fun h => by cases h) (fun _ => ?_)
      refine E.skip ?_
      refine E.reg hr (by simp [hw]; rfl) ?_ -- region 6
      exact ⟨i + 1, .keep rfl rfl rfl (by simp) (Sub.refl _), ⟨hil, fun j hj hlt => by
        rcases Nat.lt_or_ge j i with h | h
        · exact hg j hj h
        · have : j = i := by omega
          subst this; exact hz⟩, by dsimp only; omega⟩
    · refine E.cond (t := true) (by simp [hz]) (fun _ => ?_) (fun h => by cases h)
      refine E.seq ?_
      refine E.reg hr (by simp; rfl) ?_ -- region 5
      refine E.ret ?_
      have : ls.findIdx? (fun l => !decide (l.length = len0 ms)) = some i := by
        rw [List.findIdx?_eq_some_iff_getElem]
        exact ⟨hil, by simpa using hz, fun j hj => by simpa using hg j (by omega) hj⟩
      exact pureK.ret rfl rfl (by simp [idxN, this]) (Sub.refl _)
  · refine E.cond (t := false) (by simp [hil]) (fun h => by cases h) (fun _ => ?_)
    refine E.exit ?_ -- 0
    refine E.seq ?_
    refine E.reg hr (by simp; rfl) ?_ -- region 7
    refine E.ret ?_
    have : ls.findIdx? (fun l => !decide (l.length = len0 ms)) = none := by
      rw [List.findIdx?_eq_none_iff]
      intro x hx
      obtain ⟨j, hj, rfl⟩ := List.getElem_of_mem hx
      simpa using hg j hj (by omega)
    exact pureK.ret rfl rfl (by simp [idxN, this]) (Sub.refl _)
def g162 (args : List Value) (H : Heap) (n : Nat) : R := match args with
  | [v, .func (.func 103) ⟨[]⟩ ⟨[.pointer (some b)]⟩] => match nestV H v, cellA H b.block b.off with
    | some ls, some u => match nestV H u with
      | some ms => if 0 < ms.length then some (iv (idxN (len0 ms) ls), H, n) else none
      | none => none
    | _, _ => none
  | _ => none
theorem ok162 : EntOk Tryz.prog (162, g162) := by
  intro args H n v H' n' h
  simp only [g162] at h
  split at h
  · split at h
    · rename_i h1 h2
      split at h
      · rename_i h3
        split at h
        · rename_i h4
          injection h with h; injection h with e1 e2; injection e2 with e2 e3; subst e1 e2 e3
          exact w162 h1 h2 h3 h4
        · cases h
      · cases h
    · cases h
  · cases h
theorem w102 {H : Heap} {n : Nat} {v u : Value} {ls ms : List (List Int)} {b : Addr} (hN : nestV H v = some ls) (hb : cellA H b.block b.off = some u) (hM : nestV H u = some ms) (hpos : 0 < ms.length) : AC Tryz.prog 102 [v, .func (.func 103) #[] #[.pointer (some b)]] H n (.bool (ls.any fun l => !decide (l.length = len0 ms))) H n := by
  have hr := recT_ok (P := Tryz.prog) (l := [(162, g162)]) (by simp [ok162])
  refine AC.pure Tryz.func102 rfl (by kernel_rfl) rfl [] rfl ?_
  refine E.seq ?_
  refine E.reg hr (by simp; rfl) ?_ -- region 0
  refine E.seq ?_
  refine E.reg hr (by simp [-cellA, g162, hN, hb, hM, hpos, idxN_any]; rfl) ?_ -- region 1
  refine E.ret ?_
  exact pureK.ret rfl rfl (by simp) (Sub.refl _)
def g102 (args : List Value) (H : Heap) (n : Nat) : R := match args with
  | [v, .func (.func 103) ⟨[]⟩ ⟨[.pointer (some b)]⟩] => match nestV H v, cellA H b.block b.off with
    | some ls, some u => match nestV H u with
      | some ms => if 0 < ms.length then some (.bool (ls.any fun l => !decide (l.length = len0 ms)), H, n) else none
      | none => none
    | _, _ => none
  | _ => none
theorem ok102 : EntOk Tryz.prog (102, g102) := by
  intro args H n v H' n' h
  simp only [g102] at h
  split at h
  · split at h
    · rename_i h1 h2
      split at h
      · rename_i h3
        split at h
        · rename_i h4
          injection h with h; injection h with e1 e2; injection e2 with e2 e3; subst e1 e2 e3
          exact w102 h1 h2 h3 h4
        · cases h
      · cases h
    · cases h
  · cases h
/-! ### the greatest number -/
def maxV (l : List Int) : Int := match l with
  | [] => 0
  | x :: xs => xs.foldl max x
theorem maxV_step {l : List Int} {i : Nat} (h0 : 0 < i) (hi : i < l.length) : max (maxV (l.take i)) l[i] = maxV (l.take (i + 1)) := by
  cases l with
  | nil => simp at hi
  | cons x xs =>
    cases i with
    | zero => omega
    | succ i =>
      simp only [List.length_cons] at hi
      simp only [List.take_succ_cons, maxV, List.getElem_cons_succ]
      rw [List.take_succ_eq_append_getElem (by omega : i < xs.length), List.foldl_append]
      rfl
theorem w110 {H : Heap} {n : Nat} {v : Value} {l : List Int} (hN : intV H v = some l) (hne : l ≠ []) : AC Tryz.prog 110 [v] H n (iv (maxV l)) H n := by
  have hr := recT_ok (P := Tryz.prog) (l := []) (by simp)
  obtain ⟨oa, c, rfl, hlt, _, hcell⟩ := intV_form hN
  have hpos : 0 < l.length := List.length_pos_iff.2 hne
  obtain ⟨a, rfl, hf, hc⟩ := hcell 0 hpos
  rw [Nat.add_zero] at hc
  refine AC.pure Tryz.func110 rfl (by kernel_rfl) rfl [0, 3, 4] rfl ?_
  refine E.seq ?_
  refine E.reg hr (by simp; rfl) ?_ -- region 0
  refine E.seq ?_
  refine E.seq ?_
  refine E.reg hr (by simp; rfl) ?_ -- region 1
  refine E.cond (t := false) (by simp; omega) (fun h => by cases h) (fun _ => ?_)
  refine E.skip ?_
  refine E.seq ?_
  refine E.reg hr (by simp [-cellA, -flat, hf, hc, hpos]; rfl) ?_ -- region 3
  refine E.seq ?_
  refine E.seq ?_
  refine E.reg hr (by simp; rfl) ?_ -- region 4
  refine E.block ?_ -- 0
  refine E.loop ?_
  refine EL.ind (fun i : Nat => { fr := [(0, .slice (some a) l.length c), (3, iv (maxV (l.take i))), (4, iv i)], sz := 25, H := H, n := n, marks := [], vs := [0, 3, 4] }) (fun i => l.length - i) (fun i => 0 < i ∧ i ≤ l.length) 1 (.keep rfl rfl rfl (by cases l with | nil => simp at hpos | cons x xs => simp [maxV]) (Sub.refl _)) ⟨by omega, by omega⟩ (fun _ => rfl) ?_
  rintro i ⟨h0, hi⟩
  have hw : IntKind.i64.wrap ((i : Int) + 1) = (i : Int) + 1 := W_in (by omega) (by omega)
  refine E.seq ?_
  refine E.seq ?_
  refine E.reg hr (by simp; rfl) ?_ -- region 5
  by_cases hil : i < l.length
  · obtain ⟨a', e, _, hc'⟩ := hcell i hil
    injection e with e; subst e
    have hmx := maxV_step h0 hil
    refine E.cond (t := true) (by simp [hil]) (fun _ => ?_) (fun h => by cases h)
    refine E.skip ?_
    refine E.seq ?_
    refine E.block ?_ -- 1
    refine E.reg hr (by simp [-cellA, -flat, hil, hf, hc', max33, hmx]; rfl) ?_ -- region 7
    refine E.reg hr (by simp [hw]; rfl) ?_ -- region 6
    exact ⟨i + 1, .keep rfl rfl rfl (by simp) (Sub.refl _), ⟨by omega, hil⟩, by dsimp only; omega⟩
  · refine E.cond (t := false) (by simp [hil]) (fun h => by cases h) (fun _ => ?_)
    refine E.exit ?_ -- 0
    refine E.seq ?_
    refine E.reg hr (by simp; rfl) ?_ -- region 8
    refine E.ret ?_
    exact pureK.ret rfl rfl (by simp [List.take_of_length_le (show l.length ≤ i by omega)]) (Sub.refl _)
def g110 (args : List Value) (H : Heap) (n : Nat) : R := match args with
  | [v] => match intV H v with
    | some l => if l = [] then none else some (iv (maxV l), H, n)
    | none => none
  | _ => none
theorem ok110 : EntOk Tryz.prog (110, g110) := by
  intro args H n v H' n' h
  simp only [g110] at h
  split at h
  · split at h
    · rename_i h1
      split at h
      · cases h
      · rename_i h2
        injection h with h; injection h with e1 e2; injection e2 with e2 e3; subst e1 e2 e3
        exact w110 h1 h2
    · cases h
  · cases h
end Go.Proofs.YtkongcnmkiihjaaGreatDoor

namespace Go.Proofs.YtkongcnmkiihjaaGreatDoor
open Go Go.Ab Go.Proofs
def mv (q m k : Nat) : Nat := if k = q then m else k
theorem mv_lt {q m k : Nat} (h : k < q) : mv q m k = k := if_neg (by omega)
theorem mv_eq {q m : Nat} : mv q m q = m := if_pos rfl
/-- a list that is made, beside blocks 'X' that stay as they are: its block under the name 'q' -/
theorem Leads.outX {P : Program} {n q m t : Nat} {s s2 : St} {H X : Heap} {l : List Int} (hold : ∀ k b, hget H k = some b → k < n ∧ scB (· < n) b) (hkeep : Sub H s.H) (hs2 : s2.H = outB q t l ++ (X ++ H)) (hnq : n ≤ q) (hX : ∀ x ∈ X, n ≤ x.1 ∧ x.1 < q ∧ hget s.H x.1 = some x.2 ∧ scB (· < q) x.2 ∧ carried x.2 ∧ x.2.own = true) (hg : l ≠ [] → q ≤ m ∧ hget s.H m = some (.ext (l.map iv) t 1)) (hn : s2.n = q + 1) (hz : s2.sz = s.sz) (hm : s.marks = [] ∧ s2.marks = [])
    (hf : ∀ x ∈ s2.fr, (lk s.fr x.1 = some x.2 ∧ sc (· < q) x.2) ∨ (x.2 = outI q l ∧ lk s.fr x.1 = some (outI m l))) : Leads P n s s2 := by
  have hfix : ∀ k, k < q → mv q m k = k := fun k hk => mv_lt hk
  refine Leads.renR (A := outB q t l ++ X) (H := H) (mv q m) (by rw [hs2, List.append_assoc]) hold hkeep (fun k hk => mv_lt (by omega)) (by omega) hz hm (fun t v hv => ?_) (fun x hx => ?_) fun x hx y hy e => ?_
  · rcases hf (t, v) (lk_mem _ _ _ hv) with ⟨h1, h2⟩ | ⟨h1, h2⟩
    · exact .inr ⟨by rw [ren_fix hfix v h2]; exact h1, sc_mono (fun k hk => by show k < _; have hk : k < q := hk; omega) v h2⟩
    · dsimp only at h1 h2
      subst h1
      refine .inr ⟨?_, sc_out (by omega)⟩
      rw [h2, ren_out (ρ := mv q m) (m := m) mv_eq]
  · rcases List.mem_append.1 hx with hx | hx
    · by_cases hl : l = []
      · subst hl; cases hx
      · rw [outB_ne hl, List.mem_singleton] at hx
        subst hx
        obtain ⟨h1, h2⟩ := hg hl
        refine ⟨hnq, by dsimp only; omega, ?_, ?_, ?_, trivial, rfl⟩
        · rw [mv_eq]; omega
        · simp [mv_eq, h2, renB]
        · simp [scB]
    · obtain ⟨h1, h2, h3, h4, h5, h6⟩ := hX x hx
      refine ⟨h1, by omega, ?_, ?_, scB_mono (fun k hk => by show k < _; have hk : k < q := hk; omega) _ h4, h5, h6⟩
      · rw [hfix _ h2]; exact h1
      · rw [hfix _ h2, renB_fix hfix _ h4]; exact h3
  · have hone : ∀ z ∈ outB q t l ++ X, (z.1 = q ∧ l ≠ []) ∨ z.1 < q := fun z hz => by
      rcases List.mem_append.1 hz with hz | hz
      · by_cases hl : l = []
        · subst hl; cases hz
        · rw [outB_ne hl, List.mem_singleton] at hz
          subst hz
          exact .inl ⟨rfl, hl⟩
      · exact .inr (hX z hz).2.1
    rcases hone x hx with ⟨e1, hl⟩ | h1 <;> rcases hone y hy with ⟨e2, _⟩ | h2
    · rw [e1, e2]
    · have := (hg hl).1
      rw [hfix _ h2, e1, mv_eq] at e
      omega
    · have := (hg ‹_›).1
      rw [hfix _ h1, e2, mv_eq] at e
      omega
    · rwa [hfix _ h1, hfix _ h2] at e
/-! ### the rows that may follow -/
def alw (up dn : Int) (row : Nat) : Nat → List Int → List Int
  | _, [] => []
  | j, x :: l => if mayB up dn row j = true then x :: alw up dn row (j + 1) l else alw up dn row (j + 1) l
theorem alw_append (up dn : Int) (row : Nat) : ∀ (a b : List Int) (j : Nat), alw up dn row j (a ++ b) = alw up dn row j a ++ alw up dn row (j + a.length) b
  | [], b, j => rfl
  | x :: a, b, j => by
    simp only [List.cons_append, alw, alw_append up dn row a b (j + 1), List.length_cons]
    rw [show j + 1 + a.length = j + (a.length + 1) by omega]
    split <;> rfl
theorem alw_succ {up dn : Int} {row : Nat} {l : List Int} {i : Nat} (hi : i < l.length) : alw up dn row 0 (l.take (i + 1)) = if mayB up dn row i = true then alw up dn row 0 (l.take i) ++ [l[i]] else alw up dn row 0 (l.take i) := by
  rw [List.take_succ_eq_append_getElem hi, alw_append]
  have : (l.take i).length = i := by simp; omega
  rw [this, Nat.zero_add]
  simp only [alw]
  split <;> simp
theorem alw_len (up dn : Int) (row : Nat) : ∀ (l : List Int) (j : Nat), (alw up dn row j l).length ≤ l.length
  | [], _ => by simp [alw]
  | x :: l, j => by
    have := alw_len up dn row l (j + 1)
    simp only [alw]
    split <;> simp <;> omega
theorem box_cells {q t n ty : Nat} {l : List Int} {a b : Value} {H : Heap} (h : n ≠ q) : cellsA (outB q t l ++ ((n, .cells [a, b] ty) :: H)) n 0 2 = some [a, b] := by
  rw [cellsA_eq, hget_out h, hget_cons, if_pos rfl]
  simp
theorem gMay_eq {up dn : Int} {a b : Nat} (ha : a < 2147483648) (hb : b < 2147483648) : ∀ (H : Heap) (n : Nat), gMay [.agg #[iv up, iv dn], iv a, iv b] H n = some (.bool (mayB up dn a b), H, n) := by
  intro H n
  have hc : (0 : Int) ≤ a ∧ (a : Int) < 2147483648 ∧ (0 : Int) ≤ b ∧ (b : Int) < 2147483648 := by omega
  simp only [gMay, hc, and_self, if_true]
theorem r108 {HX : Heap} {n m : Nat} {up dn x y : Int} {b : Bool} {gm : List Value → Heap → Nat → R} {f0 f1 : Value} {f2 f3 f4 f5 f6 f7 : Value} {fr : Fr} {vs : List Nat} (hbox : cellsA HX n 0 2 = some [iv up, iv dn]) (hgm : ∀ H n, gm [.agg #[iv up, iv dn], iv x, iv y] H n = some (.bool b, H, n)) :
    opsF Tryz.prog (recT [(112, gm)]) #[⟨some 17, .load 45 (.tmp 4), 45, "path.go:122", #[], none⟩, ⟨some 18, .move (.tmp 2), 3, "path.go:122", #[], none⟩, ⟨some 19, .move (.tmp 8), 3, "path.go:122", #[], none⟩, ⟨some 20, .call ⟨.value (.func 112), #[.tmp 17, .tmp 18, .tmp 19], #[45, 3, 3]⟩, 4, "path.go:122", #[⟨0, .data⟩, ⟨1, .data⟩, ⟨2, .data⟩], none⟩] [⟨some 17, .load 45 (.tmp 4), 45, "path.go:122", #[], none⟩, ⟨some 18, .move (.tmp 2), 3, "path.go:122", #[], none⟩, ⟨some 19, .move (.tmp 8), 3, "path.go:122", #[], none⟩, ⟨some 20, .call ⟨.value (.func 112), #[.tmp 17, .tmp 18, .tmp 19], #[45, 3, 3]⟩, 4, "path.go:122", #[⟨0, .data⟩, ⟨1, .data⟩, ⟨2, .data⟩], none⟩]
      { fr := (9, f0) :: (8, iv y) :: (16, f1) :: (15, f2) :: (14, f3) :: (13, f4) :: (7, f5) :: (2, iv x) :: (4, .pointer (some ⟨n, 0, none⟩)) :: (10, f6) :: (11, f7) :: fr, sz := 27, H := HX, n := m, marks := [], vs := vs } = some { fr := (20, .bool b) :: (19, iv y) :: (18, iv x) :: (17, .agg #[iv up, iv dn]) :: (9, f0) :: (8, iv y) :: (16, f1) :: (15, f2) :: (14, f3) :: (13, f4) :: (7, f5) :: (2, iv x) :: (4, .pointer (some ⟨n, 0, none⟩)) :: (10, f6) :: (11, f7) :: fr, sz := 27, H := HX, n := m, marks := [], vs := vs } := by
  simp [-cellA, -cellsA, hbox, hgm]
set_option maxRecDepth 20000 in
theorem w108 {H : Heap} {n : Nat} {v : Value} {l : List Int} (up dn : Int) (row : Nat) (hrow : row < 2147483648) (hN : intV H v = some l) (hne : alw up dn row 0 l ≠ []) : AC Tryz.prog 108 [v, limA up dn, iv row] H n (outI n (alw up dn row 0 l)) (outB n 3 (alw up dn row 0 l) ++ H) (n + 1) := by
  refine AC.given fun hold hsc _ => AC.tidied (fun x hx => ?_) ?_
  · unfold outB at hx
    split at hx
    · cases hx
    · rw [List.mem_singleton] at hx; subst hx; exact Nat.le_refl _
  replace hN := int_tidy hold hN
  replace hold := tidy_old hold
  have hr := recT_ok (P := Tryz.prog) (l := [(112, gMay)]) (by simpa using ok112)
  obtain ⟨oa, c, rfl, hlt, _, hcell⟩ := intV_form hN
  have hsc : sc (· < n) (.slice oa l.length c) := hsc.1
  have hsc1 : sc (· < n + 1) (.slice oa l.length c) := sc_mono (fun k hk => by show k < n + 1; have hk : k < n := hk; omega) _ hsc
  have hS : Sub (tidy n H) (tidy n H) := Sub.refl _
  refine AC.outList Tryz.func108 rfl (by kernel_rfl) rfl [7, 2, 4, 10, 11, 12] hne ?_
  refine E.seq ?_
  refine E.reg hr (by simp; rfl) ?_ -- region 0
  refine E.seq ?_
  refine E.reg hr (by simp; rfl) ?_ -- region 1
  refine E.seq ?_
  refine E.seq ?_
  refine E.reg hr (by simp; rfl) ?_ -- region 2
  refine E.block ?_ -- 0
  refine E.loop ?_
  refine EL.ind (fun i : Nat => { fr := [(7, outI (n + 1) (alw up dn row 0 (l.take i))), (2, iv row), (4, .pointer (some ⟨n, 0, none⟩)), (10, .slice oa l.length c), (11, iv l.length), (12, iv i)], sz := 27, H := outB (n + 1) 3 (alw up dn row 0 (l.take i)) ++ ([(n, .cells [iv up, iv dn] 45)] ++ tidy n H), n := n + 1 + 1, marks := [], vs := [7, 2, 4, 10, 11, 12] }) (fun i => l.length - i) (fun i => i ≤ l.length) 0 (Leads.outX (m := 0) (t := 3) hold (Sub.cons (by simp) hS) rfl (by omega) (by simp) (fun h => absurd rfl h) rfl rfl ⟨rfl, rfl⟩ (by simp [-sc, hsc1, sc, alw])) (Nat.zero_le _) (fun _ => rfl) ?_
  intro i hi
  have hw : IntKind.i64.wrap ((i : Int) + 1) = (i : Int) + 1 := W_in (by omega) (by omega)
  refine E.seq ?_
  refine E.reg hr (by simp; rfl) ?_ -- region 3
  refine E.seq ?_
  by_cases hil : i < l.length
  · obtain ⟨a, rfl, hf, hc⟩ := hcell i hil
    have ha := cellA_lt tidy_lt hc
    have hno : hget ((n, .cells [iv up, iv dn] 45) :: tidy n H) (n + 1) = none := by simp
    have hbig : Sub (tidy n H) (outB (n + 1) 3 (alw up dn row 0 (l.take i)) ++ ((n, .cells [iv up, iv dn] 45) :: tidy n H)) := (Sub.cons (by simp) hS).trans (sub_out hno)
    have hc' := hbig.cell hc
    have hbox := box_cells (q := n + 1) (t := 3) (n := n) (ty := 45) (l := alw up dn row 0 (l.take i)) (a := iv up) (b := iv dn) (H := tidy n H) (by omega)
    have hgm := gMay_eq (up := up) (dn := dn) hrow (show i < 2147483648 by omega)
    refine E.cond (t := true) (by simp [hil]) (fun _ => ?_) (fun h => by cases h)
    refine E.skip ?_
    refine E.seq ?_
    refine E.block ?_ -- 1
    refine E.seq ?_
    refine E.reg hr (by simp [-cellA, -flat, hil, hf, hc']; rfl) ?_ -- region 4
    refine E.seq ?_
    refine E.reg hr (r108 hbox hgm) ?_ -- region 5
    by_cases hmay : mayB up dn row i = true
    · have hts : alw up dn row 0 (l.take i) ++ [l[i]] = alw up dn row 0 (l.take (i + 1)) := by rw [alw_succ hil, if_pos hmay]
      have hlen := alw_len up dn row (l.take i) 0
      have happ := app_out (st := 24) (t := 3) (n := n + 1) (k := n + 1 + 1) (m := n + 1 + 1 + 1) (l := alw up dn row 0 (l.take i)) (x := l[i]) (H := (n, .cells [iv up, iv dn] 45) :: tidy n H) (.inl ⟨rfl, rfl⟩) (by omega) (hdel_none hno) (by simp at hlen; omega)
      rw [hts] at happ
      refine E.cond (t := true) (by simp [hmay]) (fun _ => ?_) (fun h => by cases h)
      refine E.reg hr (by simp [-builtinA, happ]; rfl) ?_ -- region 6
      refine E.reg hr (by simp [hw]; rfl) ?_ -- region 7
      exact ⟨i + 1, Leads.outX (m := n + 1 + 1 + 1) (l := alw up dn row 0 (l.take (i + 1))) (t := 3) hold (Sub.cons (by simp [Nat.add_assoc]) (Sub.cons (by simp [Nat.add_assoc]) (Sub.cons (by simp) hS))) rfl (by omega) (by simp [Nat.add_assoc]) (fun _ => ⟨by omega, by simp⟩) rfl rfl ⟨rfl, rfl⟩ (by simp [show a.block < n + 1 by omega]), by omega, by dsimp only; omega⟩
    · have hts : alw up dn row 0 (l.take (i + 1)) = alw up dn row 0 (l.take i) := by rw [alw_succ hil, if_neg hmay]
      refine E.cond (t := false) (by simp [hmay]) (fun h => by cases h) (fun _ => ?_)
      refine E.skip ?_
      refine E.reg hr (by simp [hw]; rfl) ?_ -- region 7
      exact ⟨i + 1, by dsimp only; rw [hts]; exact .keep rfl rfl rfl (by simp) (Sub.refl _), by omega, by dsimp only; omega⟩
  · refine E.cond (t := false) (by simp [hil]) (fun h => by cases h) (fun _ => ?_)
    have hti : l.take i = l := List.take_of_length_le (by omega)
    refine E.exit ?_ -- 0
    refine E.seq ?_
    refine E.reg hr (by simp; rfl) ?_ -- region 8
    refine E.ret ?_
    have hno : hget ((n, .cells [iv up, iv dn] 45) :: tidy n H) (n + 1) = none := by simp
    refine outK.ret rfl rfl (outK_out (m := n + 1) (by simp [hti]) (by omega) (fun h => ?_) ((Sub.cons (by simp) hS).trans (sub_out hno)))
    dsimp only
    rw [hti, outB_ne h]
    simp
def g108 (args : List Value) (H : Heap) (n : Nat) : R := match args with
  | [v, .agg ⟨[.int .i64 up, .int .i64 dn]⟩, .int .i64 row] => match intV H v with
    | some l => if 0 ≤ row ∧ row < 2147483648 ∧ alw up dn row.toNat 0 l ≠ [] then some (outI n (alw up dn row.toNat 0 l), outB n 3 (alw up dn row.toNat 0 l) ++ H, n + 1) else none
    | none => none
  | _ => none
theorem ok108 : EntOk Tryz.prog (108, g108) := by
  intro args H n v H' n' h
  simp only [g108] at h
  split at h
  · split at h
    · rename_i h1
      split at h
      · rename_i h2
        injection h with h; injection h with e1 e2; injection e2 with e2 e3; subst e1 e2 e3
        have := w108 (n := n) _ _ _ (by have := h2.1; have := h2.2.1; omega) h1 h2.2.2
        rwa [Int.toNat_of_nonneg h2.1] at this
      · cases h
    · cases h
  · cases h
end Go.Proofs.YtkongcnmkiihjaaGreatDoor

namespace Go.Proofs.YtkongcnmkiihjaaGreatDoor
open Go Go.Ab Go.Proofs
/-! ### lists joined -/
def zer (k : Nat) : List Value := List.replicate k (iv 0)
theorem afL_zer : ∀ k, afL (zer k) = true
  | 0 => rfl
  | k + 1 => by rw [zer, List.replicate_succ]; exact afL_zer k
theorem zero_cells (k : Nat) : (Builtin.zeroCells #[iv 0] k).toList = zer k := by
  unfold Builtin.zeroCells zer
  rw [Array.toList_map, Array.toList_range]
  apply List.ext_getElem
  · simp
  · intro i h1 h2
    simp [Nat.mod_one]
@[simp] theorem zer_len (k : Nat) : (zer k).length = k := List.length_replicate
theorem app_make {H : Heap} {n k : Nat} (hk : 0 < k) (hb : k < 4294967296) : builtinA Tryz.prog .append #[24, 3] H n [.slice none 0 0, iv k] = some (.slice (some ⟨n, 0, some 0⟩) k 0, (n, .ext (zer k) 3 1) :: H, n + 1) := by
  have h1 : (0 : Int) ≤ k ∧ (k : Int) ≤ 1099511627776 := by omega
  have h2 : k * 8 ≤ 1099511627776 ∧ k ≤ 1099511627776 := by omega
  have h3 : ¬ k = 0 := by omega
  have h4 : oneL (zer k) = true := by
    clear h1 h2 h3 hb hk
    induction k with
    | zero => rfl
    | succ k ih => rw [zer, List.replicate_succ]; exact ih
  have h5 : (Builtin.zeroCells #[Value.int .i64 0] k).toList = zer k := zero_cells k
  simp [h1, h2, h3, h4, h5, afL_zer]
set_option maxRecDepth 20000 in
theorem w163 {H : Heap} {n k : Nat} (hk : 0 < k) (hb : k < 4294967296) : AC Tryz.prog 163 [.slice none 0 0, iv k] H n (.slice (some ⟨n, 0, some 0⟩) 0 0) ([(n, .ext (zer k) 3 1)] ++ H) (n + 1) := by
  refine AC.given fun hold hsc _ => AC.tidied (by simp) ?_
  have hr := recT_ok (P := Tryz.prog) (l := []) (by simp)
  have hw0 : IntKind.i64.wrap (0 : Int) = 0 := by decide
  have hw : IntKind.i64.wrap (k : Int) = k := W_in (by omega) (by omega)
  refine AC.fresh Tryz.func163 rfl (by kernel_rfl) rfl [0, 1] (by omega) (show n < n + 1 by omega) (fun ρ => rfl) ?_
  refine E.seq ?_
  refine E.reg hr (by simp; rfl) ?_ -- region 0
  refine E.seq ?_
  refine E.seq ?_
  refine E.reg hr (by simp; rfl) ?_ -- region 1
  refine E.cond (t := false) (by simp) (fun h => by cases h) (fun _ => ?_)
  refine E.skip ?_
  refine E.seq ?_
  refine E.seq ?_
  refine E.reg hr (by simp [hw0, hw]; rfl) ?_ -- region 3
  refine E.seq ?_
  refine E.reg hr (by simp; rfl) ?_ -- region 4
  refine E.cond (t := true) (by simp [hk]) (fun _ => ?_) (fun h => by cases h)
  have hmk := app_make (H := tidy n H) (n := n) hk hb
  have hcap : builtinA Tryz.prog .cap #[24] (tidy n H) n [.slice none 0 0] = some (iv 0, tidy n H, n) := rfl
  have hlen : ∀ k H m, builtinA Tryz.prog .len #[24] H m [.slice (some ⟨n, 0, some 0⟩) k 0] = some (iv k, H, m) := fun _ _ _ => rfl
  have hlen0 : ∀ H m, builtinA Tryz.prog .len #[24] H m [.slice none 0 0] = some (iv 0, H, m) := fun _ _ => rfl
  refine E.reg hr (by simp [-builtinA, opSlice, evI, sliceA, boundA, usedA, hmk, hcap, hlen0, hk]; rfl) ?_ -- region 5
  refine E.seq ?_
  refine E.reg hr (by simp; rfl) ?_ -- region 6
  refine E.ret ?_
  refine outK.ret rfl rfl ⟨id, fun _ _ => rfl, rfl, fun k b hk => ?_, fun j b k c hj hk e => e, Sub.cons (by simp) (Sub.refl _)⟩
  rw [hget_cons] at hk
  split at hk
  · rename_i e
    subst e
    injection hk with hk
    subst hk
    exact ⟨Nat.le_refl _, Nat.lt_succ_self _, Nat.le_refl _, by simp [renL_fix (p := fun _ => False) (ρ := id) (fun _ h => h.elim) _ (scL_af _ _ (afL_zer _))], scL_af _ _ (afL_zer _), trivial, rfl⟩
  · cases hk
def g163 (args : List Value) (H : Heap) (n : Nat) : R := match args with
  | [.slice none 0 0, .int .i64 k] => if 0 < k ∧ k < 4294967296 then some (.slice (some ⟨n, 0, some 0⟩) 0 0, (n, .ext (zer k.toNat) 3 1) :: H, n + 1) else none
  | _ => none
theorem ok163 : EntOk Tryz.prog (163, g163) := by
  intro args H n v H' n' h
  simp only [g163] at h
  split at h
  · split at h
    · rename_i k hc
      injection h with h; injection h with e1 e2; injection e2 with e2 e3; subst e1 e2 e3
      have := w163 (H := H) (n := n) (k := k.toNat) (by omega) (by omega)
      rwa [Int.toNat_of_nonneg (by omega)] at this
    · cases h
  · cases h
theorem intV_src {H : Heap} {v : Value} {l : List Int} (h : intV H v = some l) (hne : l ≠ []) : ∃ a c, v = .slice (some a) l.length c ∧ flat a = true ∧ cellsA H a.block a.off l.length = some (l.map iv) := by
  obtain ⟨oa, c, rfl, hlt, _, hcell⟩ := intV_form h
  have hpos : 0 < l.length := List.length_pos_iff.2 hne
  obtain ⟨a, rfl, hf, hc⟩ := hcell 0 hpos
  refine ⟨a, c, rfl, hf, ?_⟩
  unfold intV listV at h
  simp only at h
  rw [if_pos hlt, if_neg (by omega), if_pos hf, Nat.mul_one] at h
  obtain ⟨cs, h1, h2⟩ := Option.bind_eq_some_iff.1 h
  rw [h1]
  congr 1
  have hl := (cellsA_cell h1 hpos).2
  have h3 := (mapO_get h2).2
  apply List.ext_getElem?
  intro i
  by_cases hi : i < l.length
  · have := h3 i _ (chunks_get 1 _ cs i hi)
    obtain ⟨a', e, _, hci⟩ := hcell i hi
    injection e with e
    subst e
    rw [← (cellsA_cell h1 hi).1, hci, List.getElem?_map, List.getElem?_eq_getElem hi]
    rfl
  · rw [List.getElem?_eq_none (by omega), List.getElem?_eq_none (by simp; omega)]
def sumL : List (List Int) → Nat
  | [] => 0
  | l :: ls => l.length + sumL ls
theorem sumL_append : ∀ a b : List (List Int), sumL (a ++ b) = sumL a + sumL b
  | [], b => by simp [sumL]
  | x :: a, b => by simp [sumL, sumL_append a b, Nat.add_assoc]
theorem sumL_flatten : ∀ ls : List (List Int), ls.flatten.length = sumL ls
  | [] => rfl
  | l :: ls => by rw [List.flatten_cons, List.length_append, sumL_flatten ls]; rfl
theorem sumL_take {ls : List (List Int)} {i : Nat} (hi : i < ls.length) : sumL (ls.take (i + 1)) = sumL (ls.take i) + ls[i].length := by
  rw [List.take_succ_eq_append_getElem hi, sumL_append]
  simp [sumL]
theorem sumL_le (ls : List (List Int)) (i : Nat) : sumL (ls.take i) ≤ sumL ls := by
  have := sumL_append (ls.take i) (ls.drop i)
  rw [List.take_append_drop] at this
  omega
theorem app_room {H : Heap} {n S : Nat} {done l : List Int} {v : Value} (h : intV ((n, .ext (done.map iv ++ zer (S - done.length)) 3 1) :: H) v = some l) (hS : done.length + l.length ≤ S) :
    builtinA Tryz.prog .append #[24, 24] ((n, .ext (done.map iv ++ zer (S - done.length)) 3 1) :: H) (n + 1) [.slice (some ⟨n, 0, some 0⟩) done.length 0, v] = some (.slice (some ⟨n, 0, some 0⟩) (done ++ l).length 0, (n, .ext ((done ++ l).map iv ++ zer (S - (done ++ l).length)) 3 1) :: H, n + 1) := by
  by_cases hne : l = []
  · subst hne
    obtain ⟨oa, c, rfl, hlt, _, hcell⟩ := intV_form h
    cases oa with
    | none => simp
    | some a => simp
  · obtain ⟨a, c, rfl, hf, hc⟩ := intV_src h hne
    have h1 : ¬ l.length = 0 := fun e => hne (List.length_eq_zero_iff.1 e)
    have h2 : done.length + (S - done.length) = S := by omega
    have hdrop : (zer (S - done.length)).drop l.length = zer (S - (done.length + l.length)) := by
      unfold zer
      rw [List.drop_replicate]
      congr 1
      omega
    have htake : List.take done.length (done.map iv ++ zer (S - done.length)) = done.map iv := by rw [List.take_append_of_le_length (by simp)]; exact List.take_of_length_le (by simp)
    have hd2 : List.drop (done.length + l.length) (done.map iv ++ zer (S - done.length)) = zer (S - (done.length + l.length)) := by
      rw [List.drop_append, List.drop_eq_nil_of_le (by simp), List.nil_append]
      simp only [List.length_map, Nat.add_sub_cancel_left]
      exact hdrop
    have h3 : done.length ≤ S := by omega
    simp [-cellsA, -flat, hf, hc, h1, h2, h3, hS, htake, hd2]
def flt (ls : List (List Int)) (j : Nat) : List Int := (ls.take j).flatten
theorem flt0 (ls : List (List Int)) : flt ls 0 = [] := rfl
set_option maxRecDepth 20000 in
theorem w105 {H : Heap} {n : Nat} {v : Value} {ls : List (List Int)} (hN : nestV H v = some ls) (hpos : 0 < sumL ls) (hbd : sumL ls < 2147483648) : AC Tryz.prog 105 [v] H n (outI n ls.flatten) (outB n 3 ls.flatten ++ H) (n + 1) := by
  have hfl := sumL_flatten ls
  have hne : ls.flatten ≠ [] := fun e => by rw [e] at hfl; simp at hfl; omega
  refine AC.given fun hold hsc _ => AC.tidied (fun x hx => ?_) ?_
  · rw [outB_ne hne, List.mem_singleton] at hx; subst hx; exact Nat.le_refl _
  replace hN := nest_tidy hold hN
  replace hold := tidy_old hold
  have hr := recT_ok (P := Tryz.prog) (l := [(163, g163)]) (by simp [ok163])
  obtain ⟨oa, c, rfl, hlt, _, hrow⟩ := nestV_form hN
  have hsc : sc (· < n) (.slice oa ls.length c) := hsc.1
  have hS : Sub (tidy n H) (tidy n H) := Sub.refl _
  refine AC.outList Tryz.func105 rfl (by kernel_rfl) rfl [0, 3, 6, 9, 10, 11, 25, 26, 27] hne ?_
  refine E.seq ?_
  refine E.reg hr (by simp; rfl) ?_ -- region 0
  refine E.seq ?_
  refine E.reg hr (by simp; rfl) ?_ -- region 1
  refine E.seq ?_
  refine E.seq ?_
  refine E.reg hr (by simp; rfl) ?_ -- region 2
  refine E.block ?_ -- 0
  refine E.loop ?_
  refine EL.ind (fun i : Nat => { fr := [(0, .slice oa ls.length c), (3, iv (sumL (ls.take i))), (9, .slice oa ls.length c), (10, iv ls.length), (11, iv i)], sz := 36, H := tidy n H, n := n, marks := [], vs := [0, 3, 6, 9, 10, 11, 25, 26, 27] }) (fun i => ls.length - i) (fun i => i ≤ ls.length) 0 (.keep rfl rfl rfl (by simp [sumL]) hS) (Nat.zero_le _) (fun _ => rfl) ?_
  intro i hi
  have hw : IntKind.i64.wrap ((i : Int) + 1) = (i : Int) + 1 := W_in (by omega) (by omega)
  refine E.seq ?_
  refine E.reg hr (by simp; rfl) ?_ -- region 3
  refine E.seq ?_
  by_cases hil : i < ls.length
  · obtain ⟨a, r, rfl, hf, hc, hv⟩ := hrow i hil
    obtain ⟨ob, cb, rfl, hlr, _, _⟩ := intV_form hv
    have hs1 := sumL_take hil
    have hs2 := sumL_le ls (i + 1)
    have hws : IntKind.i64.wrap ((sumL (ls.take i) : Int) + (ls[i].length : Int)) = ((sumL (ls.take (i + 1)) : Nat) : Int) := by
      rw [W_in (by omega) (by omega)]; omega
    refine E.cond (t := true) (by simp [hil]) (fun _ => ?_) (fun h => by cases h)
    refine E.skip ?_
    refine E.seq ?_
    refine E.block ?_ -- 1
    refine E.seq ?_
    refine E.reg hr (by simp [-cellA, -flat, hil, hf, hc]; rfl) ?_ -- region 4
    refine E.seq ?_
    refine E.reg hr (by simp [hws]; rfl) ?_ -- region 5
    refine E.seq ?_
    refine E.reg hr (by simp; rfl) ?_ -- region 6
    refine E.cond (t := false) (by simp) (fun h => by cases h) (fun _ => ?_)
    refine E.skip ?_
    refine E.reg hr (by simp [hw]; rfl) ?_ -- region 8
    exact ⟨i + 1, .keep rfl rfl rfl (by simp) hS, by omega, by dsimp only; omega⟩
  · refine E.cond (t := false) (by simp [hil]) (fun h => by cases h) (fun _ => ?_)
    have hti : ls.take i = ls := List.take_of_length_le (by omega)
    refine E.exit ?_ -- 0
    refine E.seq ?_
    have hg163 : ∀ H m, g163 [.slice none 0 0, iv (sumL ls)] H m = some (.slice (some ⟨m, 0, some 0⟩) 0 0, (m, .ext (zer (sumL ls)) 3 1) :: H, m + 1) := fun H m => by
      have hc : (0 : Int) < (sumL ls : Int) ∧ (sumL ls : Int) < 4294967296 := by omega
      simp only [g163, hc, and_self, if_true, Int.toNat_natCast]
    refine E.reg hr (by simp [hti, hg163]; rfl) ?_ -- region 9
    refine E.seq ?_
    refine E.seq ?_
    refine E.reg hr (by simp; rfl) ?_ -- region 10
    refine E.block ?_ -- 2
    refine E.loop ?_
    have hstart : ([] : List Int).map iv ++ zer (sumL ls - 0) = zer (sumL ls) := by simp
    refine EL.ind (fun i : Nat => { fr := [(6, .slice (some ⟨n, 0, some 0⟩) (flt ls i).length 0), (25, .slice oa ls.length c), (26, iv ls.length), (27, iv i)], sz := 36, H := (n, .ext ((flt ls i).map iv ++ zer (sumL ls - (flt ls i).length)) 3 1) :: tidy n H, n := n + 1, marks := [], vs := [0, 3, 6, 9, 10, 11, 25, 26, 27] }) (fun i => ls.length - i) (fun i => i ≤ ls.length) 0 (.keep rfl rfl rfl (by simp [flt0]) (by simp [flt0]; exact Sub.refl _)) (Nat.zero_le _) (fun _ => rfl) ?_
    intro j hj
    have hw : IntKind.i64.wrap ((j : Int) + 1) = (j : Int) + 1 := W_in (by omega) (by omega)
    refine E.seq ?_
    refine E.reg hr (by simp; rfl) ?_ -- region 11
    refine E.seq ?_
    have hfj : (flt ls j).length = sumL (ls.take j) := sumL_flatten (ls.take j)
    by_cases hjl : j < ls.length
    · obtain ⟨a, r, rfl, hf, hc, hv⟩ := hrow j hjl
      have hbig : Sub (tidy n H) ((n, .ext ((flt ls j).map iv ++ zer (sumL ls - (flt ls j).length)) 3 1) :: tidy n H) := Sub.cons (by simp) hS
      have hc' := hbig.cell hc
      have hv' := listV_mono decI_mono hbig hv
      have hs1 := sumL_take hjl
      have hs2 := sumL_le ls (j + 1)
      have happ := app_room (n := n) (S := sumL ls) (done := (flt ls j)) hv' (by omega)
      have hts : (flt ls j) ++ ls[j] = flt ls (j + 1) := by unfold flt; rw [List.take_succ_eq_append_getElem hjl, List.flatten_append]; simp
      rw [hts] at happ
      refine E.cond (t := true) (by simp [hjl]) (fun _ => ?_) (fun h => by cases h)
      refine E.skip ?_
      refine E.seq ?_
      refine E.block ?_ -- 3
      refine E.seq ?_
      refine E.reg hr (by simp [-cellA, -flat, hjl, hf, hc']; rfl) ?_ -- region 12
      refine E.reg hr (by simp [-builtinA, happ]; rfl) ?_ -- region 13
      refine E.reg hr (by simp [hw]; rfl) ?_ -- region 14
      exact ⟨j + 1, .keep rfl rfl rfl (by simp) (Sub.refl _), by omega, by dsimp only; omega⟩
    · refine E.cond (t := false) (by simp [hjl]) (fun h => by cases h) (fun _ => ?_)
      have htj : flt ls j = ls.flatten := by unfold flt; rw [List.take_of_length_le (by omega)]
      have hz : zer (sumL ls - ls.flatten.length) = [] := by rw [hfl, Nat.sub_self]; rfl
      refine E.exit ?_ -- 2
      refine E.seq ?_
      refine E.reg hr (by simp; rfl) ?_ -- region 15
      refine E.ret ?_
      refine outK.ret rfl rfl (outK_out (m := n) (by simp only [htj, outI_ne hne]; rfl) (Nat.le_refl _) (fun h => ?_) (Sub.cons (by simp) hS))
      dsimp only
      rw [htj, hget_cons, if_pos rfl, hz, List.append_nil]
def g105 (args : List Value) (H : Heap) (n : Nat) : R := match args with
  | [v] => match nestV H v with
    | some ls => if 0 < sumL ls ∧ sumL ls < 2147483648 then some (outI n ls.flatten, outB n 3 ls.flatten ++ H, n + 1) else none
    | none => none
  | _ => none
theorem ok105 : EntOk Tryz.prog (105, g105) := by
  intro args H n v H' n' h
  simp only [g105] at h
  split at h
  · split at h
    · rename_i h1
      split at h
      · rename_i h2
        injection h with h; injection h with e1 e2; injection e2 with e2 e3; subst e1 e2 e3
        exact w105 h1 h2.1 h2.2
      · cases h
    · cases h
  · cases h
end Go.Proofs.YtkongcnmkiihjaaGreatDoor
