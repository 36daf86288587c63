/-
The law VelocityPotentials, walked at whatever heap: it returns true (conditions: how the two lists are seen in the heap, where the two laid tables lie).
-/
import Derived.Test.YtkongcnmkiihjaaGreatDoorZf
import Derived.Test.YtkongcnmkiihjaaGreatDoorYb
namespace Go.Proofs.YtkongcnmkiihjaaGreatDoor
open Go Go.Ab Go.Proofs
theorem w27b (l : List Int) (o c : Nat) (hl : l.length < 2 ^ 31) : AC Tryz.prog 27 [.slice (some ⟨9, o, none⟩) l.length c] [(9, .inp o (l.map iv))] 10 (iv (firstV l)) [(9, .inp o (l.map iv))] 10 := by
  have hr := recT_ok (P := Tryz.prog) (l := [(94, g94)]) (by simp [ok94])
  have hl' : l.length < 2147483648 := by omega
  have ht : List.take l.length (l.map iv) = l.map iv := List.take_of_length_le (by simp)
  refine AC.pure Tryz.func27 rfl (by kernel_rfl) rfl [] rfl ?_
  refine E.seq ?_
  refine E.reg hr (by simp; rfl) ?_ -- region 0
  refine E.seq ?_
  refine E.reg hr (by simp [g94, intsAt, flat, hl', ht, intsOf_iv]; rfl) ?_ -- region 1
  refine E.ret ?_
  exact pureK.ret rfl rfl (by simp) (by repeat first | exact sub_refl _ | refine sub_cons rfl ?_)
theorem ok27b : EntOk Tryz.prog (27, g94) := by
  intro args H n v H' n' h
  simp only [g94] at h
  split at h
  · rename_i a len c
    rw [Option.map_eq_some_iff] at h
    obtain ⟨l, h1, h⟩ := h
    injection h with e1 e2; injection e2 with e2 e3; subst e1 e2 e3
    obtain ⟨hf, hc, hlen, hlt⟩ := intsAt_ok h1
    subst hlen
    exact AC.liftP rfl (Part.one (fun s => [s]) (by intro φ φ0 s s0 h; simp [denL, h]) (by intro p s h; exact ⟨h, trivial⟩) hf hc (afL_iv l) [] (by simp [Seen]) gsz fun c => ⟨_, _, w27b l _ c hlt⟩)
  · cases h
theorem takeNew_app {n : Nat} {B : Heap} : ∀ {A : Heap}, (∀ x ∈ A, n ≤ x.1) → takeNew n (A ++ B) = A ++ takeNew n B
  | [], _ => rfl
  | (k, b) :: A, h => by
    have : Nat.ble n k = true := Nat.ble_eq_true_of_le (h (k, b) (List.mem_cons_self ..))
    rw [List.cons_append, takeNew, this]
    simp only
    rw [takeNew_app fun x hx => h x (List.mem_cons_of_mem _ hx)]
    rfl
theorem plainH_app {B : Heap} : ∀ {A : Heap}, plainH A = true → plainH B = true → plainH (A ++ B) = true
  | [], _, h => h
  | (k, b) :: A, h1, h2 => by
    rw [plainH] at h1
    rw [List.cons_append, plainH]
    rw [Bool.and_eq_true] at h1 ⊢
    exact ⟨h1.1, plainH_app h1.2 h2⟩
theorem namesOk_app {n : Nat} {A B : Heap} (h1 : ∀ x ∈ A, x.1 < n) (h2 : namesOk n B = true) : namesOk n (A ++ B) = true := namesOk_iff.2 fun x hx => by
  rcases List.mem_append.1 hx with h | h
  · exact h1 x h
  · exact namesOk_iff.1 h2 x h
theorem plain_kbs {K : Kd} (hK : ∀ l, plainB2 (K.blk l) = true) : ∀ (ms : List Nat) (ls : List (List Int)), plainH (kbs K ms ls) = true
  | m :: ms, l :: ls => by rw [kbs, plainH, hK, plain_kbs hK ms ls]; rfl
  | [], _ => rfl
  | _ :: _, [] => rfl
theorem plain_nd {K : Kd} {O : Od} (hK : ∀ l, plainB2 (K.blk l) = true) (hO : ∀ l, plainB2 (O.blk l) = true) (n : Nat) (ls : List (List Int)) : plainH (ndB K O n ls) = true := by
  rw [ndB, plainH, hO, plain_kbs hK]; rfl
theorem plain_copy : ∀ l, plainB2 (kCopy.blk l) = true := fun l => by simp only [kCopy]; split <;> rfl
theorem plain_make : ∀ l, plainB2 (kMake.blk l) = true := fun _ => rfl
section
variable {n N : Nat} {H Hx : Heap} {p : List (List Int)} {v : Value}
theorem lisB_names : ∀ x ∈ lisB N p, N ≤ x.1 ∧ x.1 < lisN N p := fun x hx => by
  unfold lisB at hx
  unfold lisN
  split at hx
  · cases hx
  · rename_i h
    rw [if_neg h]
    exact ndB_names x hx
theorem lisN_le : N ≤ lisN N p := by unfold lisN; split <;> omega
theorem lisB_plain : plainH (lisB N p) = true := by
  unfold lisB
  split
  · rfl
  · exact plain_nd plain_copy (fun _ => rfl) _ _
theorem nest_lens (h : nestV H v = some p) : p.length < 2147483648 ∧ ∀ l ∈ p, l.length < 2147483648 := by
  obtain ⟨oa, c, rfl, hlt, _, hrow⟩ := nestV_form h
  refine ⟨hlt, fun l hl => ?_⟩
  obtain ⟨i, hi, rfl⟩ := List.getElem_of_mem hl
  obtain ⟨_, r, _, _, _, hv⟩ := hrow i hi
  obtain ⟨_, _, _, h, _⟩ := intV_form hv
  exact h
theorem hand25 (hn : namesOk N Hx = true) (hp : plainH Hx = true) (h : nestV Hx v = some p) :
    g25 [v] (frzH Hx) N = some (lisV N p, lisB N p ++ frzH Hx, lisN N p) ∧ takeNew N (lisB N p ++ frzH Hx) = lisB N p ∧ namesOk (lisN N p) (lisB N p) = true ∧ namesOk (lisN N p) (lisB N p ++ Hx) = true ∧ plainH (lisB N p ++ Hx) = true ∧ Sub Hx (lisB N p ++ Hx) ∧ nestV (lisB N p ++ Hx) (lisV N p) = some p := by
  have hno := namesOk_none hn
  have hb := lisB_names (N := N) (p := p)
  have hle := lisN_le (N := N) (p := p)
  refine ⟨?_, ?_, namesOk_iff.2 fun x hx => (hb x hx).2, namesOk_app (fun x hx => (hb x hx).2) (namesOk_mono hle _ hn), plainH_app lisB_plain hp, Sub.app (fun x hx => hno _ (hb x hx).1) (Sub.refl _), ?_⟩
  · simp only [g25]
    rw [show nestV (frzH Hx) v = some p by rw [show nestV (frzH Hx) v = nestV Hx v from nestV_frz]; exact h]
    rfl
  · rw [takeNew_app fun x hx => (hb x hx).1, takeNew_frz hn, List.append_nil]
  · by_cases e : p = []
    · subst e; rfl
    · obtain ⟨h1, h2⟩ := nest_lens h
      rw [show lisV N p = ndV oExt N p from if_neg e, show lisB N p = ndB kCopy oExt N p from if_neg e]
      exact nestV_nd h1 h2
end
end Go.Proofs.YtkongcnmkiihjaaGreatDoor

namespace Go.Proofs.YtkongcnmkiihjaaGreatDoor
open Go Go.Ab Go.Proofs
section
variable {n N : Nat} {H Hx : Heap} {p l : List (List Int)} {v u : Value}
theorem hand25' (hn : namesOk N Hx = true) (hp : plainH Hx = true) (h : nestV Hx v = some p) :
    ∃ V1 B1 N1 H1, g25 [v] (frzH Hx) N = some (V1, B1 ++ frzH Hx, N1) ∧ takeNew N (B1 ++ frzH Hx) = B1 ∧ namesOk N1 B1 = true ∧ N ≤ N1 ∧ B1 ++ Hx = H1 ∧ namesOk N1 H1 = true ∧ plainH H1 = true ∧ Sub Hx H1 ∧ nestV H1 V1 = some p := by
  obtain ⟨a1, a2, a3, a4, a5, a6, a7⟩ := hand25 hn hp h
  exact ⟨_, _, _, _, a1, a2, a3, lisN_le, rfl, a4, a5, a6, a7⟩
theorem hand24 (up dn : Int) (hn : namesOk N Hx = true) (hp : plainH Hx = true) (h : nestV Hx v = some p) (h0 : hget Hx 0 = some (.inp 0 freeV)) :
    ∃ pv H2 N2, g24 [v, limA up dn] Hx N = some (.tuple #[pv, iv (chkE p up dn)], H2, N2) ∧ N ≤ N2 ∧ namesOk N2 H2 = true ∧ plainH H2 = true ∧ Sub Hx H2 ∧ nestV H2 pv = some (if chkE p up dn = 0 then potR up dn p else []) := by
  have hg : g24 [v, limA up dn] Hx N = some (potV N p up dn, potB N p up dn ++ Hx, potN N p up dn) := by
    simp only [g24, h, h0]
    rw [if_pos trivial]
  rw [hg]
  by_cases hz : chkE p up dn = 0
  · obtain ⟨q1, q2, q3, q4, q5, q6⟩ := panE_zero (chkE_zero hz).1
    have hno := namesOk_none hn
    have hnm := @ndB_names kMake oMake N (potR up dn p)
    rw [potV, potB, potN, if_pos hz, if_pos hz, if_pos hz, if_pos hz, hz]
    refine ⟨_, _, _, rfl, by omega, namesOk_app (fun x hx => (hnm x hx).2) (namesOk_mono (by omega) _ hn), plainH_app (plain_nd plain_make (fun _ => rfl) _ _) hp, sub_nd hno, ?_⟩
    refine nestV_nd (by rw [potR_lt]; omega) fun x hx => ?_
    have := potR_rows (up := up) (dn := dn) p q5 x hx
    omega
  · rw [potV, potB, potN, if_neg hz, if_neg hz, if_neg hz, if_neg hz]
    exact ⟨_, _, _, rfl, Nat.le_refl _, hn, hp, Sub.refl _, rfl⟩
theorem hand30 (up dn : Int) (hn : namesOk N Hx = true) (hp : plainH Hx = true) (h : nestV Hx v = some p) (hz : chkE p up dn = 0) :
    ∃ pv H2 N2, g30 [v, limA up dn] Hx N = some (pv, H2, N2) ∧ N ≤ N2 ∧ namesOk N2 H2 = true ∧ plainH H2 = true ∧ Sub Hx H2 ∧ nestV H2 pv = some (potR up dn p) := by
  obtain ⟨hp0, _⟩ := chkE_zero hz
  obtain ⟨q1, q2, q3, q4, q5, q6⟩ := panE_zero hp0
  have hno := namesOk_none hn
  have hnm := @ndB_names kCopy oMake N (potR up dn p)
  have hg : g30 [v, limA up dn] Hx N = some (ndV oMake N (potR up dn p), ndB kCopy oMake N (potR up dn p) ++ Hx, N + 1 + (potR up dn p).length) := by
    simp only [g30, h, hp0, if_true]
  rw [hg]
  refine ⟨_, _, _, rfl, by omega, namesOk_app (fun x hx => (hnm x hx).2) (namesOk_mono (by omega) _ hn), plainH_app (plain_nd plain_copy (fun _ => rfl) _ _) hp, sub_nd hno, ?_⟩
  refine nestV_nd (by rw [potR_lt]; omega) fun x hx => ?_
  have := potR_rows (up := up) (dn := dn) p q5 x hx
  omega
theorem hand26 (up dn : Int) (h : nestV Hx v = some p) (hu : nestV Hx u = some l) (h0 : hget Hx 0 = some (.inp 0 freeV)) (hl : l.length ≤ 66) : g26 [v, limA up dn, u] Hx N = some (two (cpR p l up dn).1 (cpR p l up dn).2, Hx, N) := by
  simp only [g26, h, hu, h0]
  rw [if_pos ⟨trivial, hl⟩]
theorem hand31 (up dn : Int) (h : nestV Hx v = some p) (hu : nestV Hx u = some l) (hz : chkE p up dn = 0) : g31 [v, limA up dn, u] Hx N = some (two (cpR p l up dn).1 (cpR p l up dn).2, Hx, N) := by
  simp only [g31, h, hu, hz, if_true]
theorem cpR_err {up dn : Int} (hz : chkE p up dn ≠ 0) : cpR p l up dn = (0, chkE p up dn) := by
  have : cpE p l up dn = chkE p up dn := by unfold cpE; rw [firstV_cons, if_neg hz]
  unfold cpR
  rw [this, if_neg hz]
theorem alike_of {a b : Value} {x : List (List Int)} (h1 : nestV Hx a = some x) (h2 : nestV Hx b = some x) : g32 [a, b] Hx N = some (.bool true, Hx, N) := by
  have : alikeN Hx a b = true := by unfold alikeN; rw [h1, h2]; simp
  simp only [g32, this, if_true]
end
end Go.Proofs.YtkongcnmkiihjaaGreatDoor

namespace Go.Proofs.YtkongcnmkiihjaaGreatDoor
open Go Go.Ab Go.Proofs
/-! ### rows of whatever length: how long they are -/
def shortN (k : Nat) : Bool := decide (k ≤ 5) || decide (k = 17)
def shortL (ls : List Nat) : Bool := ls.all shortN && (decide (ls.length ≤ 5) || decide (ls.length = 65))
def LensV (H : Heap) (v : Value) (ks : List Nat) : Prop := ∃ oa c, v = .slice oa ks.length c ∧ ks.length < 9223372036854775808 ∧ ∀ i (hi : i < ks.length), ∃ a r c', oa = some a ∧ flat a = true ∧ cellsA H a.block (a.off + i) 1 = some [.slice r ks[i] c']
theorem one_cell {H : Heap} {k o : Nat} {x : Value} (h : cellsA H k o 1 = some [x]) : cellA H k o = some x := by
  obtain ⟨y, e, h⟩ := cells_one h
  injection e with e
  rw [e]; exact h
theorem LensV.mono {H H' : Heap} (hs : Sub H H') {v : Value} {ks : List Nat} (h : LensV H v ks) : LensV H' v ks := by
  obtain ⟨oa, c, e, h1, h2⟩ := h
  refine ⟨oa, c, e, h1, fun i hi => ?_⟩
  obtain ⟨a, r, c', e1, e2, e3⟩ := h2 i hi
  exact ⟨a, r, c', e1, e2, hs.cells e3⟩
theorem LensV.tidy {H : Heap} {n : Nat} (hl : ∀ k b, hget H k = some b → k < n) {v : Value} {ks : List Nat} (h : LensV H v ks) : LensV (Ab.tidy n H) v ks := by
  obtain ⟨oa, c, e, h1, h2⟩ := h
  refine ⟨oa, c, e, h1, fun i hi => ?_⟩
  obtain ⟨a, r, c', e1, e2, e3⟩ := h2 i hi
  exact ⟨a, r, c', e1, e2, cellsA_tidy hl e3⟩
theorem LensV.one {H : Heap} {v : Value} {ks js : List Nat} (h : LensV H v ks) (h' : LensV H v js) : ks = js := by
  obtain ⟨oa, c, rfl, h1, h2⟩ := h
  obtain ⟨oa', c', e, h1', h2'⟩ := h'
  injection e with e1 e2 e3
  subst e1
  apply List.ext_getElem e2
  intro i hi hi'
  obtain ⟨a, r, c1, e1, _, e3⟩ := h2 i hi
  obtain ⟨a', r', c1', e1', _, e3'⟩ := h2' i hi'
  rw [e1] at e1'
  injection e1' with e1'
  subst e1'
  rw [e3] at e3'
  injection e3' with e3'
  injection e3' with e3'
  injection e3'
theorem w23L {H : Heap} {n : Nat} {v : Value} {ls : List Nat} (hN : LensV H v ls) : AC Tryz.prog 23 [v] H n (.bool (shortL ls)) H n := by
  have hr := recT_ok (P := Tryz.prog) (l := []) (by simp)
  obtain ⟨oa, c, rfl, hlt, hrow⟩ := hN
  refine AC.pure Tryz.func23 rfl (by kernel_rfl) rfl [2, 0, 3] rfl ?_
  refine E.seq ?_
  refine E.reg hr (by simp; rfl) ?_ -- region 0
  refine E.seq ?_
  refine E.seq ?_
  refine E.reg hr (by simp; rfl) ?_ -- region 1
  refine E.block ?_ -- 0
  refine E.loop ?_
  refine EL.ind (fun i : Nat => { fr := [(2, .bool false), (0, .slice oa ls.length c), (3, iv i)], sz := 32, H := H, n := n, marks := [], vs := [2, 0, 3] }) (fun i => ls.length - i) (fun i => i ≤ ls.length ∧ (ls.drop i).all shortN = ls.all shortN) 0 (.keep rfl rfl rfl (by simp) (Sub.refl _)) ⟨Nat.zero_le _, rfl⟩ (fun _ => rfl) ?_
  rintro i ⟨hi, hg⟩
  have hw' : i < ls.length → IntKind.i64.wrap ((i : Int) + 1) = (i : Int) + 1 := fun h => W_in (by omega) (by omega)
  refine E.seq ?_
  refine E.seq ?_
  refine E.reg hr (by simp; rfl) ?_ -- region 2
  refine E.cond (by rfl) (fun h => ?_) (fun h => ?_)
  · simp at h
    have hw := hw' h
    obtain ⟨a, ob, cb, rfl, hf, hcs⟩ := hrow i h
    have hc := one_cell hcs
    rw [List.drop_eq_getElem_cons h, List.all_cons] at hg
    refine E.skip ?_
    refine E.seq ?_
    refine E.block ?_ -- 1
    refine E.seq ?_
    by_cases h5 : ls[i] ≤ 5
    · have h5' : ¬ (5 : Int) < ls[i] := by omega
      refine E.reg hr (by simp [-cellA, -flat, h, hf, hc, h5']; rfl) ?_ -- region 4
      refine E.cond (by rfl) (fun h => by cases h) (fun _ => ?_)
      refine E.skip ?_
      refine E.reg hr (by simp [hw]; rfl) ?_ -- region 3
      exact ⟨i + 1, .keep rfl rfl rfl (by simp) (Sub.refl _), ⟨by omega, by rw [← hg]; simp [shortN, h5]⟩, by dsimp only; omega⟩
    · have h5' : (5 : Int) < ls[i] := by omega
      refine E.reg hr (by simp [-cellA, -flat, h, hf, hc, h5']; rfl) ?_ -- region 4
      refine E.cond (by rfl) (fun h => ?_) (fun h => ?_)
      · simp at h
        refine E.seq ?_
        refine E.reg hr (by simp; rfl) ?_ -- region 5
        refine E.ret ?_
        exact pureK.ret rfl rfl (by simp [shortL, ← hg, shortN, h5]; omega) (Sub.refl _)
      · simp at h
        refine E.skip ?_
        refine E.reg hr (by simp [hw]; rfl) ?_ -- region 3
        exact ⟨i + 1, .keep rfl rfl rfl (by simp) (Sub.refl _), ⟨by omega, by rw [← hg]; simp [shortN, h5]; omega⟩, by dsimp only; omega⟩
  · simp at h
    rw [List.drop_eq_nil_of_le h] at hg
    refine E.exit ?_ -- 0
    by_cases h5 : ls.length ≤ 5
    · have h5' : (ls.length : Int) ≤ 5 := by omega
      refine E.seq ?_
      refine E.reg hr (by simp [h5']; rfl) ?_ -- region 6
      refine E.ret ?_
      exact pureK.ret rfl rfl (by simp [shortL, ← hg, h5]) (Sub.refl _)
    · have h5' : ¬ (ls.length : Int) ≤ 5 := by omega
      refine E.seq ?_
      refine E.reg hr (by simp [h5']; rfl) ?_ -- region 6
      refine E.ret ?_
      exact pureK.ret rfl rfl (by simp [shortL, ← hg, h5]; omega) (Sub.refl _)
open Classical in
noncomputable def g23L (args : List Value) (H : Heap) (n : Nat) : R := match args with
  | [v] => if h : ∃ ks, LensV H v ks then some (.bool (shortL (Classical.choose h)), H, n) else none
  | _ => none
theorem ok23L : EntOk Tryz.prog (23, g23L) := by
  intro args H n v H' n' h
  simp only [g23L] at h
  split at h
  · split at h
    · rename_i hc
      injection h with h; injection h with e1 e2; injection e2 with e2 e3; subst e1 e2 e3
      exact w23L (Classical.choose_spec hc)
    · cases h
  · cases h
theorem g23L_at {H : Heap} {n : Nat} {v : Value} {ks : List Nat} (h : LensV H v ks) : g23L [v] H n = some (.bool (shortL ks), H, n) := by
  have hc : ∃ ks, LensV H v ks := ⟨ks, h⟩
  simp only [g23L]
  rw [dif_pos hc, (Classical.choose_spec hc).one h]
set_option maxHeartbeats 600000 in
set_option maxRecDepth 50000 in
theorem wPot {H : Heap} {n : Nat} {v u : Value} {ks ms : List Nat} (up dn : Int) (hPk : LensV H v ks) (hLm : LensV H u ms) (hP : shortL ks = true → ∃ p, nestV H v = some p) (hL : ms.length ≤ 66 → (∀ m ∈ ms, m ≤ 18) → ∃ l, nestV H u = some l ∧ l.length = ms.length) (h0 : hget H 0 = some (.inp 0 freeV)) (h1 : hget H 1 = some (.inp 0 rangesV)) : AC Tryz.prog 4 [v, limA up dn, u] H n (.bool true) H n := by
  refine AC.given fun hold hsc hgn => AC.tidied (B := []) (by simp) ?_
  rw [gsz] at hgn
  replace hPk := LensV.tidy (fun k b h => (hold k b h).1) hPk
  replace hLm := LensV.tidy (fun k b h => (hold k b h).1) hLm
  have hP : shortL ks = true → ∃ p, nestV (tidy n H) v = some p := fun h => by
    obtain ⟨p, hp⟩ := hP h
    exact ⟨p, nest_tidy hold hp⟩
  have hL : ms.length ≤ 66 → (∀ m ∈ ms, m ≤ 18) → ∃ l, nestV (tidy n H) u = some l ∧ l.length = ms.length := fun h h' => by
    obtain ⟨l, hl, e⟩ := hL h h'
    exact ⟨l, nest_tidy hold hl, e⟩
  replace hold := tidy_old hold
  replace h0 := global_tidy hgn h0
  replace h1 : hget (tidy n H) 1 = some (.inp 0 rangesV) := hget_tidy.2 ⟨h1, by omega, rfl⟩
  have hr := recT_ok (P := Tryz.prog) (l := [(15, g15), (23, g23L), (25, g25), (24, g24), (26, g26), (28, g28), (29, g29), (27, g94), (30, g30), (31, g31), (32, g32)]) (by simp [ok15, ok23L, ok25, ok24, ok26, ok28, ok29, ok27b, ok30, ok31, ok32])
  obtain ⟨HX, hHX⟩ : ∃ HX, (n, Blk.cells [iv up, iv dn] 40) :: tidy n H = HX := ⟨_, rfl⟩
  have hS : Sub (tidy n H) HX := by rw [← hHX]; exact Sub.cons (by simp) (Sub.refl _)
  have hnm : namesOk (n + 1) HX = true := by rw [← hHX]; exact namesOk_put (by omega) (by simp)
  have hpl : plainH HX = true := by rw [← hHX, plainH, plainH_tidy]; rfl
  have hbox : hget HX n = some (.cells [iv up, iv dn] 40) := by rw [← hHX, hget_cons, if_pos rfl]
  have g0 := hS _ _ h0
  have g1 := hS _ _ h1
  have hg15 : ∀ m, g15 [] HX m = some (.bool true, HX, m) := fun m => by
    unfold g15
    rw [if_pos ⟨rfl, g1, g0⟩]
  have hg23 : ∀ m, g23L [v] HX m = some (.bool (shortL ks), HX, m) := fun m => g23L_at (hPk.mono hS)
  obtain ⟨ob, d, rfl, hlt2, hrow2⟩ := hLm
  refine AC.pure Tryz.func4 rfl (by kernel_rfl) rfl [0, 1, 2, 4, 6, 8, 9, 10, 11, 12, 13, 14, 15, 16, 28, 30, 31, 32, 33, 38, 65] rfl ?_
  refine E.seq ?_
  refine E.reg hr (by simp; rfl) ?_ -- region 0
  refine E.lead { fr := [(0, v), (2, .slice ob ms.length d), (4, .pointer (some ⟨n, 0, none⟩)), (6, .bool false)], sz := 94, H := HX, n := n + 1, marks := [], vs := [0, 1, 2, 4, 6, 8, 9, 10, 11, 12, 13, 14, 15, 16, 28, 30, 31, 32, 33, 38, 65] } (.keep rfl rfl rfl (by simp) (by rw [← hHX]; exact Sub.refl _)) ?_
  refine E.seq ?_
  refine E.seq ?_
  by_cases hsh : shortL ks = true ∧ ms.length ≤ 66
  · obtain ⟨hs1, hs2⟩ := hsh
    have hs3 : ¬ (66 : Int) < ms.length := by omega
    refine E.reg hr (by simp [hg15, hg23, hs1, hs3, yieldedA]; rfl) ?_ -- region 1
    refine E.cond (t := false) (by simp) (fun h => by cases h) (fun _ => ?_)
    refine E.skip ?_
    refine E.seq ?_
    refine E.seq ?_
    refine E.reg hr (by simp; rfl) ?_ -- region 3
    refine E.block ?_ -- 0
    refine E.loop ?_
    refine EL.ind (fun i : Nat => { fr := [(0, v), (2, .slice ob ms.length d), (4, .pointer (some ⟨n, 0, none⟩)), (30, .slice ob ms.length d), (31, iv ms.length), (32, iv i)], sz := 94, H := HX, n := n + 1, marks := [], vs := [0, 1, 2, 4, 6, 8, 9, 10, 11, 12, 13, 14, 15, 16, 28, 30, 31, 32, 33, 38, 65] }) (fun i => ms.length - i) (fun i => i ≤ ms.length ∧ ∀ j (hj : j < ms.length), j < i → ms[j] ≤ 18) 0 (.keep rfl rfl rfl (by simp) (Sub.refl _)) ⟨Nat.zero_le _, fun j hj h => by omega⟩ (fun _ => rfl) ?_
    rintro i ⟨hi, hg⟩
    have hw : IntKind.i64.wrap ((i : Int) + 1) = (i : Int) + 1 := W_in (by omega) (by omega)
    refine E.seq ?_
    refine E.reg hr (by simp; rfl) ?_ -- region 4
    refine E.seq ?_
    by_cases hil : i < ms.length
    · obtain ⟨b, oc, cr, rfl, hfb, hcb⟩ := hrow2 i hil
      have hcX := hS.cell (one_cell hcb)
      refine E.cond (t := true) (by simp [hil]) (fun _ => ?_) (fun h => by cases h)
      refine E.skip ?_
      refine E.seq ?_
      refine E.block ?_ -- 1
      refine E.seq ?_
      refine E.reg hr (by simp [-cellA, -flat, hil, hfb, hcX]; rfl) ?_ -- region 5
      refine E.seq ?_
      refine E.reg hr (by simp; rfl) ?_ -- region 6
      by_cases h18 : ms[i] ≤ 18
      · have h18' : ¬ (18 : Int) < ms[i] := by omega
        refine E.cond (t := false) (by simp [h18']) (fun h => by cases h) (fun _ => ?_)
        refine E.skip ?_
        refine E.reg hr (by simp [hw]; rfl) ?_ -- region 8
        exact ⟨i + 1, .keep rfl rfl rfl (by simp) (Sub.refl _), ⟨hil, fun j hj h => by
          rcases Nat.lt_or_ge j i with h' | h'
          · exact hg j hj h'
          · have : j = i := by omega
            subst this; exact h18⟩, by dsimp only; omega⟩
      · have h18' : (18 : Int) < ms[i] := by omega
        refine E.cond (t := true) (by simp [h18']) (fun _ => ?_) (fun h => by cases h)
        refine E.seq ?_
        refine E.reg hr (by simp [hg15]; rfl) ?_ -- region 7
        refine E.ret ?_
        exact pureK.ret rfl rfl (by simp) hS
    · refine E.cond (t := false) (by simp [hil]) (fun h => by cases h) (fun _ => ?_)
      have hnn : n < n + 1 := Nat.lt_succ_self _
      obtain ⟨p, hP⟩ := hP hs1
      obtain ⟨l, hL, hlm⟩ := hL hs2 fun m hm => by
        obtain ⟨j, hj, rfl⟩ := List.getElem_of_mem hm
        exact hg j hj (by omega)
      have hPX := listV_mono decNI_mono hS hP
      have hLX := listV_mono decNI_mono hS hL
      obtain ⟨e, he⟩ : ∃ e, chkE p up dn = e := ⟨_, rfl⟩
      have hlim : ∀ {K : Heap}, Sub HX K → loadA Tryz.prog 40 (readA [n] K) (.pointer (some ⟨n, 0, none⟩)) = some (limA up dn) ∧ loadA Tryz.prog 40 K (.pointer (some ⟨n, 0, none⟩)) = some (limA up dn) := fun hK => ⟨load40 (by rw [hget_readA, if_pos (by simp)]; exact hK _ _ hbox), load40 (hK _ _ hbox)⟩
      refine E.exit ?_ -- 0
      refine E.lead { fr := [(0, v), (2, .slice ob ms.length d), (4, .pointer (some ⟨n, 0, none⟩))], sz := 94, H := HX, n := n + 1, marks := [], vs := [0, 1, 2, 4, 6, 8, 9, 10, 11, 12, 13, 14, 15, 16, 28, 30, 31, 32, 33, 38, 65] } (.keep rfl rfl rfl (by simp) (Sub.refl _)) ?_
      generalize hsl : Value.slice ob ms.length d = u at hLX
      refine E.seq ?_
      obtain ⟨V1, B1, N1, H1, a1, a2, a3, a4, a5, a6, a7, a8, a9⟩ := hand25' hnm hpl hPX
      obtain ⟨pv, H2, N2, b1, b2, b3, b4, b5, b6⟩ := hand24 up dn a6 a7 a9 (a8 _ _ g0)
      rw [he] at b1 b6
      have hS1 := a8
      have hS2 := hS1.trans b5
      have hld1 := (hlim hS1).1
      refine E.drawU mixed hr [3] [1, 3] [1, 3] (by kernel_rfl) (by simp [-cellA, -flat, -readA, -loadA, hnm, hpl, hnn, a1, a2, a3, a4, a5, hld1, b1, b2, b3]; rfl) ?_ -- region 9
      have hPX2 := listV_mono decNI_mono hS2 hPX
      have hLX2 := listV_mono decNI_mono hS2 hLX
      obtain ⟨V3, B3, N3, H3, c1, c2, c3, c4, c5, c6, c7, c8, c9⟩ := hand25' b3 b4 hPX2
      have hLX3 := listV_mono decNI_mono c8 hLX2
      obtain ⟨V4, B4, N4, H4, d1, d2, d3, d4, d5, d6, d7, d8, d9⟩ := hand25' c6 c7 hLX3
      have hS3 := hS2.trans c8
      have hS4 := hS3.trans d8
      have hcp := hand26 (N := N4) up dn (listV_mono decNI_mono d8 c9) d9 (hS4 _ _ g0) (by omega)
      obtain ⟨r1, hr1⟩ : ∃ r1, (cpR p l up dn).1 = r1 := ⟨_, rfl⟩
      obtain ⟨r2, hr2⟩ : ∃ r2, (cpR p l up dn).2 = r2 := ⟨_, rfl⟩
      rw [hr1, hr2] at hcp
      have hld3 := (hlim hS3).1
      have hle2 : n + 1 ≤ N2 := by omega
      refine E.seq ?_
      refine E.lead { fr := [(0, v), (2, u), (4, .pointer (some ⟨n, 0, none⟩)), (9, pv), (10, iv e)], sz := 94, H := H2, n := N2, marks := [], vs := [0, 1, 2, 4, 6, 8, 9, 10, 11, 12, 13, 14, 15, 16, 28, 30, 31, 32, 33, 38, 65] } (.keep rfl rfl rfl (by simp) (Sub.refl _)) ?_
      have hnN2 : n < N2 := by omega
      refine E.drawU mixed hr [5] [1, 4, 5] [1, 4, 5] (by kernel_rfl) (by simp [-cellA, -flat, -readA, -loadA, b3, b4, hnN2, c1, c2, c3, c4, c5, c7, hld3, d1, d2, d3, d4, d5, d6, hcp]; rfl) ?_ -- region 10
      obtain ⟨H5, hH5⟩ : ∃ H5, (N4, Blk.cells [iv (panE p), iv (limE up dn)] 3) :: H4 = H5 := ⟨_, rfl⟩
      have hno4 := namesOk_none d6
      have hS5 : Sub HX H5 := by rw [← hH5]; exact hS4.trans (Sub.cons (hno4 _ (Nat.le_refl _)) (Sub.refl _))
      have hS25 : Sub H2 H5 := by rw [← hH5]; exact (c8.trans d8).trans (Sub.cons (hno4 _ (Nat.le_refl _)) (Sub.refl _))
      have nm5 : namesOk (N4 + 1) H5 = true := by rw [← hH5]; exact namesOk_put (by omega) (namesOk_mono (by omega) _ d6)
      have pl5 : plainH H5 = true := by rw [← hH5, plainH, d7]; rfl
      have hg28 : g28 [v] (frzH H4) N4 = some (iv (panE p), frzH H4, N4) := by
        simp only [g28]
        rw [show nestV (frzH H4) v = some p by rw [show nestV (frzH H4) v = nestV H4 v from nestV_frz]; exact listV_mono decNI_mono hS4 hPX]
        rfl
      have htk := takeNew_frz d6
      have hfe : firstV [panE p, limE up dn] = e := he
      have hld4 := (hlim hS4).1
      have hnN4 : n < N4 := by omega
      have hc5 : cellsA H5 N4 0 2 = some [iv (panE p), iv (limE up dn)] := by rw [← hH5, cellsA_eq, hget_cons, if_pos rfl]; rfl
      refine E.seq ?_
      refine E.lead { fr := [(0, v), (2, u), (4, .pointer (some ⟨n, 0, none⟩)), (9, pv), (10, iv e), (11, iv r1), (12, iv r2)], sz := 94, H := H4, n := N4, marks := [], vs := [0, 1, 2, 4, 6, 8, 9, 10, 11, 12, 13, 14, 15, 16, 28, 30, 31, 32, 33, 38, 65] } (.keep rfl rfl rfl (by simp) (Sub.refl _)) ?_
      refine E.drawU mixed hr [3, 4, 5] [1, 3, 4, 5] [1, 3, 4, 5] (by kernel_rfl) (by simp [-cellA, -cellsA, -flat, -readA, -loadA, flat_n, d6, d7, hnN4, hg28, htk, hld4, g29, hH5, nm5, g94, intsAt, intsOf, hc5, hfe]; rfl) ?_ -- region 11
      have hPX5 := listV_mono decNI_mono hS5 hPX
      have hLX5 := listV_mono decNI_mono hS5 hLX
      have hpv5 := listV_mono decNI_mono hS25 b6
      have hld5 := (hlim hS5).2
      obtain ⟨N5, hN5⟩ : ∃ N5, N4 + 1 = N5 := ⟨_, rfl⟩
      rw [hN5] at nm5 ⊢
      refine E.seq ?_
      refine E.lead { fr := [(0, v), (2, u), (4, .pointer (some ⟨n, 0, none⟩)), (9, pv), (10, iv e), (11, iv r1), (12, iv r2), (13, iv e)], sz := 94, H := H5, n := N5, marks := [], vs := [0, 1, 2, 4, 6, 8, 9, 10, 11, 12, 13, 14, 15, 16, 28, 30, 31, 32, 33, 38, 65] } (.keep rfl rfl rfl (by simp) (Sub.refl _)) ?_
      refine E.reg hr (by simp; rfl) ?_ -- region 12
      refine E.seq ?_
      refine E.reg hr (by simp; rfl) ?_ -- region 13
      refine E.seq ?_
      refine E.seq ?_
      refine E.reg hr (by simp; rfl) ?_ -- region 14
      by_cases hz : e = 0
      · subst hz
        rw [if_pos rfl] at hpv5
        obtain ⟨qv, H6, N6, e1, e2, e3, e4, e5, e6⟩ := hand30 up dn nm5 pl5 hPX5 he
        have h31 := hand31 (N := N6) (l := l) up dn (listV_mono decNI_mono e5 hPX5) (listV_mono decNI_mono e5 hLX5) he
        rw [hr1, hr2] at h31
        have hld6 := (hlim (hS5.trans e5)).2
        have h32 := alike_of (N := N6) (listV_mono decNI_mono e5 hpv5) e6
        refine E.cond (t := true) (by simp) (fun _ => ?_) (fun h => by cases h)
        refine E.seq ?_
        refine E.reg hr (by simp [-loadA, hld5, e1]; rfl) ?_ -- region 15
        refine E.reg hr (by simp [-loadA, hld6, h31]; rfl) ?_ -- region 16
        refine E.seq ?_
        refine E.reg hr (by simp [h32, yieldedA]; rfl) ?_ -- region 17
        refine E.ret ?_
        exact pureK.ret rfl rfl (by simp) ((hS.trans hS5).trans e5)
      · rw [if_neg hz] at hpv5
        have h32 := alike_of (N := N5) hpv5 (b := .slice none 0 0) rfl
        have hcr := cpR_err (l := l) (show chkE p up dn ≠ 0 by rw [he]; exact hz)
        rw [hcr, he] at hr1 hr2
        dsimp only at hr1 hr2
        subst hr1 hr2
        refine E.cond (t := false) (by simp [hz]) (fun h => by cases h) (fun _ => ?_)
        refine E.skip ?_
        refine E.seq ?_
        refine E.reg hr (by simp [h32, yieldedA]; rfl) ?_ -- region 17
        refine E.ret ?_
        exact pureK.ret rfl rfl (by simp) (hS.trans hS5)
  · by_cases hs1 : shortL ks = true
    · have hs3 : (66 : Int) < ms.length := by
        have : ¬ ms.length ≤ 66 := fun h => hsh ⟨hs1, h⟩
        omega
      refine E.reg hr (by simp [hg15, hg23, hs1, hs3, yieldedA]; rfl) ?_ -- region 1
      refine E.cond (t := true) (by simp) (fun _ => ?_) (fun h => by cases h)
      refine E.seq ?_
      refine E.reg hr (by simp [hg15]; rfl) ?_ -- region 2
      refine E.ret ?_
      exact pureK.ret rfl rfl (by simp) hS
    · have hs1 : shortL ks = false := by simpa using hs1
      refine E.reg hr (by simp [hg15, hg23, hs1, yieldedA, undefV]; rfl) ?_ -- region 1
      refine E.cond (t := true) (by simp) (fun _ => ?_) (fun h => by cases h)
      refine E.seq ?_
      refine E.reg hr (by simp [hg15]; rfl) ?_ -- region 2
      refine E.ret ?_
      exact pureK.ret rfl rfl (by simp) hS
end Go.Proofs.YtkongcnmkiihjaaGreatDoor
