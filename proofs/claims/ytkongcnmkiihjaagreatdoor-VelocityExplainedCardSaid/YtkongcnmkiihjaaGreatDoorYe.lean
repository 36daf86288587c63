/-
The walks of picks, their checks and the search for a contradiction, by the program and by the reference: both return the same (each a contract: no condition but those in its statement).
-/
import Derived.Test.YtkongcnmkiihjaaGreatDoorYd
namespace Go.Proofs.YtkongcnmkiihjaaGreatDoor
open Go Go.Ab Go.Proofs
@[simp] theorem inf160 : Tryz.prog.info? 160 = some Tryz.t160 := by kernel_rfl
@[simp] theorem inf96 : Tryz.prog.info? 96 = some Tryz.t96 := by kernel_rfl
attribute [simp] Tryz.t160 Tryz.t96
/-- a pick, as both programs hold it: three cells -/
structure Pk where
  t : Int
  q : Int
  e : Int
abbrev Pk.cells (p : Pk) : List Value := [iv p.t, iv p.q, iv p.e]
/-! ### slices of picks, three cells each -/
def pcs (l : List Pk) : List Value := l.flatMap Pk.cells
def pksOf : List Value → Option (List Pk)
  | [] => some []
  | .int .i64 t :: .int .i64 q :: .int .i64 e :: vs => (pksOf vs).map (⟨t, q, e⟩ :: ·)
  | _ => none
theorem pksOf_ok (cs : List Value) : ∀ l, pksOf cs = some l → cs = pcs l := by
  fun_induction pksOf cs with
  | case1 => intro l h; injection h with h; subst h; rfl
  | case2 t q e vs ih =>
    intro l h
    rw [Option.map_eq_some_iff] at h
    obtain ⟨l', h1, h2⟩ := h
    subst h2
    rw [ih _ h1]
    simp [pcs]
  | case3 => intro l h; cases h
theorem pksOf_pcs (l : List Pk) : pksOf (pcs l) = some l := by
  induction l with
  | nil => rfl
  | cons g l ih =>
    show pksOf (g.cells ++ pcs l) = _
    simp only [Pk.cells, List.cons_append, List.nil_append, pksOf, ih]
    rfl
@[simp] theorem pcs_length (l : List Pk) : (pcs l).length = l.length * 3 := by
  induction l with
  | nil => rfl
  | cons g l ih =>
    show (g.cells ++ pcs l).length = _
    rw [List.length_append, ih]
    simp
    omega
theorem afL_pcs (l : List Pk) : afL (pcs l) = true := by
  induction l with
  | nil => rfl
  | cons g l ih =>
    show afL (g.cells ++ pcs l) = true
    simp [Pk.cells, afL, ih]
@[simp] theorem renL_pcs (ρ : Nat → Nat) (l : List Pk) : renL ρ (pcs l) = pcs l := by
  rw [renL_eq]
  induction l with
  | nil => rfl
  | cons g l ih =>
    show (g.cells ++ pcs l).map (ren ρ) = g.cells ++ pcs l
    rw [List.map_append, ih]
    rfl
@[simp] theorem scL_pcs (p : Nat → Prop) (l : List Pk) : scL p (pcs l) := scL_af p _ (afL_pcs l)
theorem pcs_takeN (l : List Pk) : ∀ i, (pcs l).take (i * 3) = pcs (l.take i) := by
  induction l with
  | nil => intro i; simp [pcs]
  | cons g l ih =>
    intro i
    cases i with
    | zero => simp [pcs]
    | succ i =>
      rw [List.take_succ_cons, show (i + 1) * 3 = i * 3 + 3 by omega]
      show (g.cells ++ pcs l).take (i * 3 + 3) = g.cells ++ pcs (l.take i)
      rw [show i * 3 + 3 = g.cells.length + i * 3 by simp; omega, List.take_length_add_append, ih]
theorem pcs_drop (l : List Pk) : ∀ i, (pcs l).drop (i * 3) = pcs (l.drop i) := by
  induction l with
  | nil => intro i; simp [pcs]
  | cons g l ih =>
    intro i
    cases i with
    | zero => simp
    | succ i =>
      rw [List.drop_succ_cons, ← ih i, show (i + 1) * 3 = i * 3 + 3 by omega]
      show (g.cells ++ pcs l).drop (i * 3 + 3) = _
      rw [show i * 3 + 3 = g.cells.length + i * 3 by simp; omega, List.drop_append]
      simp
theorem pcs_at {l : List Pk} {i : Nat} (h : i < l.length) : (pcs l).drop (i * 3) = l[i].cells ++ pcs (l.drop (i + 1)) := by
  rw [pcs_drop, List.drop_eq_getElem_cons h]
  rfl
theorem pcs_get {l : List Pk} {i : Nat} (h : i < l.length) (k : Nat) (hk : k < 3) : (pcs l)[i * 3 + k]? = l[i].cells[k]? := by
  have := congrArg (·[k]?) (pcs_at h)
  simp only [List.getElem?_drop] at this
  rw [this, List.getElem?_append_left (by simpa using hk)]
theorem pcs_take {l : List Pk} {i : Nat} (h : i < l.length) : ((pcs l).drop (i * 3)).take 3 = l[i].cells := by
  rw [pcs_at h, List.take_append_of_le_length (by simp)]
  rfl
/-- a slice of picks with a block -/
def pksAt (H : Heap) (a : Addr) (len : Nat) : Option (List Pk) := if flat a && Nat.blt len 9223372036854775808 then (cellsA H a.block a.off (len * 3)).bind pksOf else none
theorem pksAt_ok {H : Heap} {a : Addr} {len : Nat} {l : List Pk} (h : pksAt H a len = some l) : flat a = true ∧ cellsA H a.block a.off (len * 3) = some (pcs l) ∧ l.length = len ∧ l.length < 2 ^ 63 := by
  unfold pksAt at h
  split at h
  · rename_i hf
    rw [Bool.and_eq_true] at hf
    rw [Option.bind_eq_some_iff] at h
    obtain ⟨cs, h1, h2⟩ := h
    have h3 := pksOf_ok _ _ h2
    subst h3
    have h4 := (cellsA_at h1).1
    rw [pcs_length] at h4
    exact ⟨hf.1, h1, by omega, by have := (blt_iff _ _).1 hf.2; omega⟩
  · cases h
theorem pcs_tE {l : List Pk} {i : Nat} (h : i < l.length) (h2 : i * 3 < (pcs l).length) : (pcs l)[i * 3] = iv l[i].t := by
  have := pcs_get h 0 (by omega)
  rw [Nat.add_zero, List.getElem?_eq_getElem h2] at this
  exact Option.some.inj this
theorem pcs_qE {l : List Pk} {i : Nat} (h : i < l.length) (h2 : i * 3 + 1 < (pcs l).length) : (pcs l)[i * 3 + 1] = iv l[i].q := by
  have := pcs_get h 1 (by omega)
  rw [List.getElem?_eq_getElem h2] at this
  exact Option.some.inj this
theorem pcs_eE {l : List Pk} {i : Nat} (h : i < l.length) (h2 : i * 3 + 2 < (pcs l).length) : (pcs l)[i * 3 + 2] = iv l[i].e := by
  have := pcs_get h 2 (by omega)
  rw [List.getElem?_eq_getElem h2] at this
  exact Option.some.inj this
theorem pcs_succ {l : List Pk} {i : Nat} (h : i < l.length) : pcs (l.take (i + 1)) = pcs (l.take i) ++ l[i].cells := by
  rw [List.take_succ_eq_append_getElem h]
  simp only [pcs, List.flatMap_append, List.flatMap_cons, List.flatMap_nil, List.append_nil]
/-- picks as they are handed: absent, or a slice -/
def pksR (H : Heap) : Value → Option (List Pk)
  | .slice none 0 0 => some []
  | .slice (some a) len _ => pksAt H a len
  | _ => none
/-- picks of one's own: absent, or a slice with room -/
def rowPks (H : Heap) (b len : Nat) : Option (List Pk) := match rowOf H b with
  | some (cs, 3) => match pksOf cs with
    | some l => if len = l.length ∧ len < 2 ^ 63 then some l else none
    | none => none
  | _ => none
theorem rowPks_ok {H : Heap} {b len : Nat} {l : List Pk} (h : rowPks H b len = some l) : rowOf H b = some (pcs l, 3) ∧ len = l.length ∧ l.length < 2 ^ 63 := by
  unfold rowPks at h
  split at h
  · rename_i cs hb
    split at h
    · rename_i l' hl
      split at h
      · rename_i hc
        injection h with h; subst h
        have := pksOf_ok _ _ hl
        subst this
        exact ⟨hb, hc.1, hc.1 ▸ hc.2⟩
      · cases h
    · cases h
  · cases h
def pksP (H : Heap) : Value → Option (List Pk)
  | .slice none 0 0 => some []
  | .slice (some ⟨b, 0, some 0⟩) len 0 => rowPks H b len
  | _ => none
end Go.Proofs.YtkongcnmkiihjaaGreatDoor

namespace Go.Proofs.YtkongcnmkiihjaaGreatDoor
open Go Go.Ab Go.Proofs
/-! ### picks of one's own -/
def S46 (l : List Pk) (o c : Nat) : Nat → St
  | 0 => { fr := [(3, .slice none 0 0), (6, .slice (some ⟨9, o, none⟩) l.length c), (7, iv l.length), (8, iv 0)], sz := 18, H := [(9, .inp o (pcs l))], n := 10, marks := [], vs := [3, 6, 7, 8] }
  | i + 1 => { fr := [(3, .slice (some ⟨10, 0, some 0⟩) (i + 1) 0), (6, .slice (some ⟨9, o, none⟩) l.length c), (7, iv l.length), (8, iv (i + 1 : Nat))], sz := 18, H := [(10, .ext (pcs (l.take (i + 1))) 160 3), (9, .inp o (pcs l))], n := 11, marks := [], vs := [3, 6, 7, 8] }
def tmsQ (l : List Pk) (v : Value) (H : Heap) : Prop := ∃ m, v = .slice (some ⟨m, 0, some 0⟩) l.length 0 ∧ hget H m = some (.ext (pcs l) 160 3) ∧ 10 ≤ m
set_option maxRecDepth 100000 in
theorem w46 (l : List Pk) (o c : Nat) (hne : l ≠ []) (hl : l.length ≤ 4096) : ∃ u H1 n1 H2, AC Tryz.prog 46 [.slice (some ⟨9, o, none⟩) l.length c] [(9, .inp o (pcs l))] 10 u H1 n1 ∧ tmsQ l u H2 ∧ (af u = false → H1 = H2) := by
  have hr := recT_ok (P := Tryz.prog) (l := []) (by simp)
  have hpos : 0 < l.length := List.length_pos_iff.2 hne
  refine AC.out Tryz.func46 rfl (by kernel_rfl) rfl [3, 6, 7, 8] ?_
  refine E.seq ?_
  refine E.reg hr (by simp; rfl) ?_ -- region 0
  refine E.seq ?_
  refine E.reg hr (by simp; rfl) ?_ -- region 1
  refine E.seq ?_
  refine E.seq ?_
  refine E.reg hr (by simp; rfl) ?_ -- region 2
  refine E.block ?_ -- 0
  refine E.loop ?_
  refine EL.ind (S46 l o c) (fun i => l.length - i) (fun i => i ≤ l.length) 0 (.less rfl rfl rfl (by simp [S46]) (by simp [S46])) (Nat.zero_le _) (fun i => by cases i <;> rfl) ?_
  intro i hi
  rcases i with _ | i
  · have hw : IntKind.i64.wrap 1 = 1 := W_in (by omega) (by omega)
    refine E.seq ?_
    refine E.reg hr (by simp [S46]; rfl) ?_ -- region 3
    refine E.seq ?_
    refine E.cond (by rfl) (fun h => ?_) (fun h => ?_)
    · simp at h
      have hx := pcs_take hpos
      have hts : pcs (l.take 1) = l[0].cells := by rw [pcs_succ hpos]; simp [pcs]
      have h7 : 3 ≤ l.length * 3 := by omega
      rw [Nat.zero_mul, List.drop_zero] at hx
      refine E.skip ?_
      refine E.seq ?_
      refine E.block ?_ -- 1
      refine E.seq ?_
      refine E.reg hr (by simp [hx, hpos, h7, Pk.cells]; rfl) ?_ -- region 4
      refine E.reg hr (by simp; rfl) ?_ -- region 5
      refine E.reg hr (by simp [hw]; rfl) ?_ -- region 6
      exact ⟨1, Leads.ren [12] rfl rfl rfl ⟨rfl, rfl⟩ (by simp [S46]) (by simp [S46, hts]), by omega, by dsimp only; omega⟩
    · simp at h
      exact absurd h hne
  · have hw : IntKind.i64.wrap ((i : Int) + 1 + 1) = (i : Int) + 1 + 1 := W_in (by omega) (by omega)
    have hlen : (pcs (l.take (i + 1))).length = (i + 1) * 3 := by rw [pcs_length, List.length_take, Nat.min_eq_left hi]
    have ht : List.take ((i + 1) * 3) (pcs (l.take (i + 1))) = pcs (l.take (i + 1)) := List.take_of_length_le (by omega)
    refine E.seq ?_
    refine E.reg hr (by simp [S46]; rfl) ?_ -- region 3
    refine E.seq ?_
    refine E.cond (by rfl) (fun h => ?_) (fun h => ?_)
    · simp at h
      have hlt : i + 1 < l.length := by omega
      have hltI : (i : Int) + 1 < l.length := by omega
      have hx := pcs_take hlt
      have hts := pcs_succ hlt
      have h7 : (i + 1) * 3 + 3 ≤ l.length * 3 := by omega
      have hno : ¬ (i + 1 + 1) * 3 ≤ (i + 1) * 3 := by omega
      have hsm : (i + 1 + 1) * 24 ≤ 1099511627776 ∧ (i + 1 + 1) * 3 ≤ 1099511627776 ∧ i + 1 + 1 ≤ 1099511627776 := by omega
      refine E.skip ?_
      refine E.seq ?_
      refine E.block ?_ -- 1
      refine E.seq ?_
      refine E.reg hr (by simp [hx, hltI, h7, Pk.cells]; rfl) ?_ -- region 4
      refine E.reg hr (by simp [hsm, ht, hlen, hno]; rfl) ?_ -- region 5
      refine E.reg hr (by simp [hw]; rfl) ?_ -- region 6
      exact ⟨i + 2, Leads.ren [13] rfl rfl rfl ⟨rfl, rfl⟩ (by simp [S46]) (by simp [S46, hts]), by omega, by dsimp only; omega⟩
    · simp at h
      have hal : l.take (i + 1) = l := List.take_of_length_le (by omega)
      have hll : l.length = i + 1 := by omega
      refine E.exit ?_ -- 0
      refine E.seq ?_
      refine E.reg hr (by simp; rfl) ?_ -- region 7
      refine E.ret ?_
      refine outK.ret rfl rfl ?_
      simp [tmsQ, hal, hll]
theorem w46e (o c : Nat) : AC Tryz.prog 46 [.slice (some ⟨9, o, none⟩) 0 c] [(9, .inp o (pcs []))] 10 (.slice none 0 0) [(9, .inp o (pcs []))] 10 := by
  have hr := recT_ok (P := Tryz.prog) (l := []) (by simp)
  refine AC.pure Tryz.func46 rfl (by kernel_rfl) rfl [3, 6, 7, 8] rfl ?_
  refine E.seq ?_
  refine E.reg hr (by simp; rfl) ?_ -- region 0
  refine E.seq ?_
  refine E.reg hr (by simp; rfl) ?_ -- region 1
  refine E.seq ?_
  refine E.seq ?_
  refine E.reg hr (by simp; rfl) ?_ -- region 2
  refine E.block ?_ -- 0
  refine E.loop ?_
  refine EL.step ?_
  refine E.seq ?_
  refine E.reg hr (by simp; rfl) ?_ -- region 3
  refine E.seq ?_
  refine E.cond (by rfl) (fun h => ?_) (fun h => ?_)
  · simp at h
  refine E.exit ?_ -- 0
  refine E.seq ?_
  refine E.reg hr (by simp; rfl) ?_ -- region 7
  refine E.ret ?_
  exact pureK.ret rfl rfl (by simp) (by repeat first | exact sub_refl _ | refine sub_cons rfl ?_)
theorem w46n : AC Tryz.prog 46 [.slice none 0 0] [] 9 (.slice none 0 0) [] 9 := by
  have hr := recT_ok (P := Tryz.prog) (l := []) (by simp)
  refine AC.pure Tryz.func46 rfl (by kernel_rfl) rfl [3, 6, 7, 8] rfl ?_
  refine E.seq ?_
  refine E.reg hr (by simp; rfl) ?_ -- region 0
  refine E.seq ?_
  refine E.reg hr (by simp; rfl) ?_ -- region 1
  refine E.seq ?_
  refine E.seq ?_
  refine E.reg hr (by simp; rfl) ?_ -- region 2
  refine E.block ?_ -- 0
  refine E.loop ?_
  refine EL.step ?_
  refine E.seq ?_
  refine E.reg hr (by simp; rfl) ?_ -- region 3
  refine E.seq ?_
  refine E.cond (by rfl) (fun h => ?_) (fun h => ?_)
  · simp at h
  refine E.exit ?_ -- 0
  refine E.seq ?_
  refine E.reg hr (by simp; rfl) ?_ -- region 7
  refine E.ret ?_
  exact pureK.ret rfl rfl (by simp) (by repeat first | exact sub_refl _ | refine sub_cons rfl ?_)
def g46 (args : List Value) (H : Heap) (n : Nat) : R := match args with
  | [v] => match pksR H v with
    | some l => if l = [] then some (.slice none 0 0, H, n) else if l.length ≤ 4096 then some (.slice (some ⟨n, 0, some 0⟩) l.length 0, (n, .ext (pcs l) 160 3) :: H, n + 1) else none
    | none => none
  | _ => none
theorem ok46 : EntOk Tryz.prog (46, g46) := by
  intro args H n v H' n' h'
  simp only [g46] at h'
  split at h'
  · rename_i x
    split at h'
    · rename_i l hx
      split at h'
      · rename_i hl
        subst hl
        injection h' with h'; injection h' with e1 e2; injection e2 with e2 e3; subst e1 e2 e3
        unfold pksR at hx
        split at hx
        · exact AC.liftP (by simp) (Part.plain (by simp) [] (by simp [Seen]) gsz ⟨_, _, w46n⟩)
        · obtain ⟨hf, hc, hlen, hlt⟩ := pksAt_ok hx
          subst hlen
          exact AC.liftP (by simp) (Part.one (fun s => [s]) (by intro φ φ0 s s0 h; simp [denL, h]) (by intro p s h; exact ⟨h, trivial⟩) hf hc (afL_pcs []) [] (by simp [Seen]) gsz fun c => ⟨_, _, w46e _ c⟩)
        · cases hx
      rename_i hne
      split at h'
      · rename_i hle
        injection h' with h'; injection h' with e1 e2; injection e2 with e2 e3; subst e1 e2 e3
        unfold pksR at hx
        split at hx
        · injection hx with hx; exact absurd hx.symm hne
        · obtain ⟨hf, hc, hlen, hlt⟩ := pksAt_ok hx
          subst hlen
          refine AC.liftF (names_sx _ _) (.inr ⟨_, _, _, rfl, afL_pcs l⟩) (Part.one (fun s => [s]) (by intro φ φ0 s s0 h; simp [denL, h]) (by intro p s h; exact ⟨h, trivial⟩) hf hc (afL_pcs l) [] (by simp [Seen]) gsz fun c => ?_)
          obtain ⟨u, H1, n1, H2, hAC, hq, hh⟩ := w46 l _ c hne hle
          obtain ⟨m, hv, hm, hle⟩ := hq
          subst hv
          have := hh rfl
          subst this
          exact ⟨m, _, _, hle, hm, hAC⟩
        · cases hx
      · cases h'
    · cases h'
  · cases h'
end Go.Proofs.YtkongcnmkiihjaaGreatDoor

namespace Go.Proofs.YtkongcnmkiihjaaGreatDoor
open Go Go.Ab Go.Proofs
/-! ### bounds, and a pick by itself -/
def bndE (lo hi : Int) : Int := firstV [velV lo, velV hi, whenV (decide (hi < lo)) 11]
abbrev ivl (lo hi : Int) : Value := .agg ⟨[iv lo, iv hi]⟩
theorem w119 (lo hi : Int) : AC Tryz.prog 119 [ivl lo hi] [] 9 (iv (bndE lo hi)) [] 9 := by
  have hr := recT_ok (P := Tryz.prog) (l := [(92, g92), (96, g96), (90, g90)]) (by simp [ok92, ok96, ok90])
  refine AC.pure Tryz.func119 rfl (by kernel_rfl) rfl [] rfl ?_
  refine E.seq ?_
  refine E.reg hr (by simp; rfl) ?_ -- region 0
  refine E.seq ?_
  have hE : firstV [velV lo, velV hi, whenV (decide (hi < lo)) 11] = bndE lo hi := rfl
  refine E.drawC mixed hr [11, 12, 13] [2, 5, 11, 12, 13] [1, 2, 5, 11, 12, 13] (by kernel_rfl) (by simp [g92, g96, g90, intsAt, intsOf, hE]; rfl) ?_ -- region 1
  refine E.ret ?_
  exact pureK.ret rfl rfl (by simp) (by repeat first | exact sub_refl _ | refine sub_cons rfl ?_)
def gBnd (args : List Value) (H : Heap) (n : Nat) : R := match args with
  | [.agg ⟨[.int .i64 lo, .int .i64 hi]⟩] => some (.int .i64 (bndE lo hi), H, n)
  | _ => none
theorem ok119 : EntOk Tryz.prog (119, gBnd) := by
  intro args H n v H' n' h
  simp only [gBnd] at h
  split at h
  · injection h with h; injection h with e1 e2; injection e2 with e2 e3; subst e1 e2 e3
    exact AC.liftP rfl (Part.plain (by simp) [] (by simp [Seen]) gsz ⟨_, _, w119 _ _⟩)
  · cases h
theorem w51 (lo hi : Int) : AC Tryz.prog 51 [ivl lo hi] [] 9 (iv (bndE lo hi)) [] 9 := by
  have hr := recT_ok (P := Tryz.prog) (l := [(64, g64), (99, g99), (94, g94)]) (by simp [ok64, ok99, ok94])
  refine AC.pure Tryz.func51 rfl (by kernel_rfl) rfl [] rfl ?_
  refine E.seq ?_
  refine E.reg hr (by simp; rfl) ?_ -- region 0
  refine E.seq ?_
  have hE : firstV [velV lo, velV hi, whenV (decide (hi < lo)) 11] = bndE lo hi := rfl
  refine E.drawC mixed hr [11, 12, 13] [2, 5, 11, 12, 13] [1, 2, 5, 11, 12, 13] (by kernel_rfl) (by simp [g64, g99, g94, intsAt, intsOf, hE]; rfl) ?_ -- region 1
  refine E.ret ?_
  exact pureK.ret rfl rfl (by simp) (by repeat first | exact sub_refl _ | refine sub_cons rfl ?_)
theorem ok51 : EntOk Tryz.prog (51, gBnd) := by
  intro args H n v H' n' h
  simp only [gBnd] at h
  split at h
  · injection h with h; injection h with e1 e2; injection e2 with e2 e3; subst e1 e2 e3
    exact AC.liftP rfl (Part.plain (by simp) [] (by simp [Seen]) gsz ⟨_, _, w51 _ _⟩)
  · cases h
def Pk.err (p : Pk) : Int := firstV [withinV p.t 1 1024, velV p.q, withinV p.e 0 1000000000]
theorem w129 (p : Pk) : AC Tryz.prog 129 [.agg ⟨p.cells⟩] [] 9 (iv p.err) [] 9 := by
  have hr := recT_ok (P := Tryz.prog) (l := [(91, g91), (92, g92), (90, g90)]) (by simp [ok91, ok92, ok90])
  refine AC.pure Tryz.func129 rfl (by kernel_rfl) rfl [] rfl ?_
  refine E.seq ?_
  refine E.reg hr (by simp; rfl) ?_ -- region 0
  refine E.seq ?_
  have hE : firstV [withinV p.t 1 1024, velV p.q, withinV p.e 0 1000000000] = p.err := rfl
  refine E.drawC mixed hr [8, 9, 10] [2, 5, 8, 9, 10] [1, 2, 5, 8, 9, 10] (by kernel_rfl) (by simp [g91, g92, g90, intsAt, intsOf, hE]; rfl) ?_ -- region 1
  refine E.ret ?_
  exact pureK.ret rfl rfl (by simp) (by repeat first | exact sub_refl _ | refine sub_cons rfl ?_)
def g129 (args : List Value) (H : Heap) (n : Nat) : R := match args with
  | [.agg ⟨[.int .i64 t, .int .i64 q, .int .i64 e]⟩] => some (.int .i64 (Pk.err ⟨t, q, e⟩), H, n)
  | _ => none
theorem ok129 : EntOk Tryz.prog (129, g129) := by
  intro args H n v H' n' h
  simp only [g129] at h
  split at h
  · injection h with h; injection h with e1 e2; injection e2 with e2 e3; subst e1 e2 e3
    exact AC.liftP rfl (Part.plain (by simp) [] (by simp [Seen]) gsz ⟨_, _, w129 ⟨_, _, _⟩⟩)
  · cases h
/-- a pick within its limits -/
def Pk.Ok (p : Pk) : Prop := 1 ≤ p.t ∧ p.t ≤ 1024 ∧ 1 ≤ p.q ∧ p.q ≤ 1000000000 ∧ 0 ≤ p.e ∧ p.e ≤ 1000000000
instance (p : Pk) : Decidable p.Ok := by unfold Pk.Ok; infer_instance
theorem Pk.err_zero {p : Pk} (h : p.err = 0) : p.Ok := by
  simp only [Pk.err, firstV, velV, withinV] at h
  by_cases h1 : p.t < 1 ∨ 1024 < p.t
  · simp [h1] at h
  by_cases h2 : p.q < 1 ∨ 1000000000 < p.q
  · simp [h1, h2] at h
  by_cases h3 : p.e < 0 ∨ 1000000000 < p.e
  · simp [h1, h2, h3] at h
  exact ⟨by omega, by omega, by omega, by omega, by omega, by omega⟩
def Pk.low (p : Pk) : Int := p.t * (p.q - p.e)
def Pk.high (p : Pk) : Int := p.t * (p.q + p.e)
theorem build74 {fr : Fr} {H : Heap} {n : Nat} {x y : Operand} {a b : Int} (hx : evO Tryz.prog fr x = some (iv a)) (hy : evO Tryz.prog fr y = some (iv b)) : opBuild Tryz.prog 74 #[(0, x), (1, y)] fr H n = some (.agg #[iv a, iv b], H, n) := by
  unfold opBuild
  simp only [evPs_cons, evPs_nil, hx, hy]
  kernel_rfl
theorem build74n {fr : Fr} {H : Heap} {n : Nat} : opBuild Tryz.prog 74 #[] fr H n = some (.agg #[iv 0, iv 0], H, n) := by kernel_rfl
theorem mul_in {t x : Int} (h1 : 0 ≤ t) (h2 : t ≤ 1024) (h3 : -2000000000 ≤ x) (h4 : x ≤ 2000000000) : -2048000000000 ≤ t * x ∧ t * x ≤ 2048000000000 := by
  have a : t * x ≤ t * 2000000000 := Int.mul_le_mul_of_nonneg_left h4 h1
  have b : t * (-2000000000) ≤ t * x := Int.mul_le_mul_of_nonneg_left h3 h1
  omega
theorem Pk.Ok.low {p : Pk} (h : p.Ok) : -2048000000000 ≤ p.low ∧ p.low ≤ 2048000000000 := by
  obtain ⟨h1, h2, h3, h4, h5, h6⟩ := h
  exact mul_in (by omega) h2 (by omega) (by omega)
theorem Pk.Ok.high {p : Pk} (h : p.Ok) : -2048000000000 ≤ p.high ∧ p.high ≤ 2048000000000 := by
  obtain ⟨h1, h2, h3, h4, h5, h6⟩ := h
  exact mul_in (by omega) h2 (by omega) (by omega)
theorem w122 (p : Pk) (h : p.Ok) : AC Tryz.prog 122 [.agg ⟨p.cells⟩] [] 9 (ivl p.low p.high) [] 9 := by
  have hr := recT_ok (P := Tryz.prog) (l := []) (by simp)
  refine AC.pure Tryz.func122 rfl (by kernel_rfl) rfl [] rfl ?_
  have hl := h.low
  have hh := h.high
  obtain ⟨h1, h2, h3, h4, h5, h6⟩ := h
  have e1 : IntKind.i64.wrap (p.q - p.e) = p.q - p.e := W_in (by omega) (by omega)
  have e2 : IntKind.i64.wrap (p.q + p.e) = p.q + p.e := W_in (by omega) (by omega)
  have e3 : IntKind.i64.wrap (p.t * (p.q - p.e)) = p.low := by rw [W_in]; rfl; exact Int.le_trans (by omega) hl.1; exact Int.le_trans hl.2 (by omega)
  have e4 : IntKind.i64.wrap (p.t * (p.q + p.e)) = p.high := by rw [W_in]; rfl; exact Int.le_trans (by omega) hh.1; exact Int.le_trans hh.2 (by omega)
  refine E.seq ?_
  refine E.reg hr (by simp; rfl) ?_ -- region 0
  refine E.seq ?_
  refine E.reg hr (by simp [e1, e2, e3, e4, build74 (a := p.low) (b := p.high)]; rfl) ?_ -- region 1
  refine E.ret ?_
  refine pureK.ret rfl (vs := [ivl p.low p.high]) ?_ rfl (by repeat first | exact sub_refl _ | refine sub_cons rfl ?_)
  simp [resultsA, resultA, Tryz.f122, loadA]
end Go.Proofs.YtkongcnmkiihjaaGreatDoor

namespace Go.Proofs.YtkongcnmkiihjaaGreatDoor
open Go Go.Ab Go.Proofs
/-! ### picks by their index, the start among them -/
/-- the pick ahead of index 'k'; ahead of the first one the start -/
def pkA (l : List Pk) : Nat → Pk
  | 0 => ⟨0, 0, 0⟩
  | j + 1 => l.getD j ⟨0, 0, 0⟩
theorem pkA_succ {l : List Pk} {j : Nat} (h : j < l.length) : pkA l (j + 1) = l[j] := by simp [pkA, List.getD_eq_getElem?_getD, List.getElem?_eq_getElem h]
def Pk.At (p : Pk) : Prop := 0 ≤ p.t ∧ p.t ≤ 1024 ∧ (-2048000000000 ≤ p.low ∧ p.low ≤ 2048000000000) ∧ (-2048000000000 ≤ p.high ∧ p.high ≤ 2048000000000)
theorem Pk.Ok.at {p : Pk} (h : p.Ok) : p.At := ⟨by have := h.1; omega, h.2.1, h.low, h.high⟩
def PksOk (l : List Pk) : Prop := ∀ p ∈ l, p.Ok
theorem PksOk.get {l : List Pk} (h : PksOk l) {j : Nat} (hj : j < l.length) : l[j].Ok := h _ (List.getElem_mem hj)
theorem PksOk.pkA {l : List Pk} (h : PksOk l) {k : Nat} (hk : k ≤ l.length) : (pkA l k).At := by
  cases k with
  | zero => exact ⟨by simp [Go.Proofs.YtkongcnmkiihjaaGreatDoor.pkA], by simp [Go.Proofs.YtkongcnmkiihjaaGreatDoor.pkA], by simp [Go.Proofs.YtkongcnmkiihjaaGreatDoor.pkA, Pk.low], by simp [Go.Proofs.YtkongcnmkiihjaaGreatDoor.pkA, Pk.high]⟩
  | succ j => rw [pkA_succ (by omega)]; exact (h.get (by omega)).at
abbrev rowV (k : Nat) : Value := .slice (some ⟨9, 0, some 0⟩) k 0
abbrev atV (p : Pk) : Value := .tuple #[iv p.t, ivl p.low p.high]
def g122 (args : List Value) (H : Heap) (n : Nat) : R := match args with
  | [.agg ⟨[.int .i64 t, .int .i64 q, .int .i64 e]⟩] => if Pk.Ok ⟨t, q, e⟩ then some (ivl (Pk.low ⟨t, q, e⟩) (Pk.high ⟨t, q, e⟩), H, n) else none
  | _ => none
theorem ok122 : EntOk Tryz.prog (122, g122) := by
  intro args H n v H' n' h
  simp only [g122] at h
  split at h
  · split at h
    · rename_i hc
      injection h with h; injection h with e1 e2; injection e2 with e2 e3; subst e1 e2 e3
      exact AC.liftP rfl (Part.plain (by simp) [] (by simp [Seen]) gsz ⟨_, _, w122 ⟨_, _, _⟩ hc⟩)
    · cases h
  · cases h
theorem w121s (l : List Pk) : AC Tryz.prog 121 [rowV l.length, iv (-1)] [(9, .row (pcs l) 3)] 10 (atV (pkA l 0)) [(9, .row (pcs l) 3)] 10 := by
  have hr := recT_ok (P := Tryz.prog) (l := []) (by simp)
  refine AC.pure Tryz.func121 rfl (by kernel_rfl) rfl [] rfl ?_
  refine E.seq ?_
  refine E.reg hr (by simp; rfl) ?_ -- region 0
  refine E.seq ?_
  refine E.seq ?_
  refine E.reg hr (by simp; rfl) ?_ -- region 1
  refine E.cond (t := true) (by simp) (fun _ => ?_) (fun h => by cases h)
  refine E.seq ?_
  refine E.reg hr (by simp [build74n]; rfl) ?_ -- region 2
  refine E.ret ?_
  refine pureK.ret rfl (vs := [iv 0, ivl 0 0]) ?_ rfl (by repeat first | exact sub_refl _ | refine sub_cons rfl ?_)
  simp [resultsA, resultA, Tryz.f121, loadA]
theorem w121 (l : List Pk) (j : Nat) (h : j < l.length) (ho : l[j].Ok) : AC Tryz.prog 121 [rowV l.length, iv j] [(9, .row (pcs l) 3)] 10 (atV (pkA l (j + 1))) [(9, .row (pcs l) 3)] 10 := by
  have hr := recT_ok (P := Tryz.prog) (l := [(122, g122)]) (by simp [ok122])
  refine AC.pure Tryz.func121 rfl (by kernel_rfl) rfl [] rfl ?_
  refine E.seq ?_
  refine E.reg hr (by simp; rfl) ?_ -- region 0
  refine E.seq ?_
  refine E.seq ?_
  have hne : ¬ (j : Int) = -1 := by omega
  have h3 : j * 3 + 3 ≤ l.length * 3 := by omega
  have h1 : j * 3 < l.length * 3 := by omega
  refine E.reg hr (by simp [hne]; rfl) ?_ -- region 1
  refine E.cond (t := false) (by simp) (fun h => by cases h) (fun _ => ?_)
  refine E.skip ?_
  refine E.seq ?_
  refine E.drawC mixed hr [11] [9, 11] [4, 8, 9, 11] (by kernel_rfl) (by simp [h, h3, h1, pcs_tE h, pcs_take h, g122, ho]; rfl) ?_ -- region 3
  refine E.ret ?_
  rw [pkA_succ h]
  refine pureK.ret rfl (vs := [iv l[j].t, ivl l[j].low l[j].high]) ?_ rfl (by repeat first | exact sub_refl _ | refine sub_cons rfl ?_)
  simp [resultsA, resultA, Tryz.f121, loadA]
/-- an index from the start on -/
def atOk (l : List Pk) (i : Int) : Bool := decide (-1 ≤ i ∧ i < l.length ∧ (i = -1 ∨ (pkA l (i + 1).toNat).Ok))
def pkI (l : List Pk) (i : Int) : Pk := pkA l (i + 1).toNat
theorem pkI_pred (l : List Pk) (k : Nat) : pkI l ((k : Int) - 1) = pkA l k := by simp [pkI]
theorem pkI_nat (l : List Pk) (j : Nat) : pkI l (j : Int) = pkA l (j + 1) := by
  unfold pkI
  rw [show ((j : Int) + 1).toNat = j + 1 by omega]
theorem atOk_pred {l : List Pk} (h : PksOk l) {k : Nat} (hk : k ≤ l.length) : atOk l ((k : Int) - 1) = true := by
  simp only [atOk, decide_eq_true_eq]
  refine ⟨by omega, by omega, ?_⟩
  rw [show ((k : Int) - 1 + 1).toNat = k by omega]
  cases k with
  | zero => exact .inl (by omega)
  | succ j => exact .inr (by rw [pkA_succ (by omega)]; exact h.get (by omega))
theorem atOk_nat {l : List Pk} (h : PksOk l) {j : Nat} (hj : j < l.length) : atOk l (j : Int) = true := by
  have := atOk_pred h (k := j + 1) (by omega)
  rwa [show ((j + 1 : Nat) : Int) - 1 = (j : Int) by omega] at this
def g121 (args : List Value) (H : Heap) (n : Nat) : R := match args with
  | [.slice (some ⟨b, 0, some 0⟩) len 0, .int .i64 i] => match rowPks H b len with
    | some l => if atOk l i = true then some (atV (pkI l i), H, n) else none
    | none => none
  | _ => none
theorem row_den {i : Int} : ∀ (φ φ0 : Vl) (a a0 : Value), den φ0 a0 = den φ a → denL φ0 [a0, iv i] = denL φ [a, iv i] := fun φ φ0 a a0 h => by simp [denL, den, h]
theorem row_sc {i : Int} : ∀ (p : Nat → Prop) (a : Value), sc p a → scL p [a, iv i] := fun _ _ h => ⟨h, trivial, trivial⟩
theorem ok121 : EntOk Tryz.prog (121, g121) := by
  intro args H n v H' n' h
  simp only [g121] at h
  split at h
  · rename_i b len i
    split at h
    · rename_i l hl
      split at h
      · rename_i hc
        simp only [atOk, decide_eq_true_eq] at hc
        obtain ⟨h1, h2, h3⟩ := hc
        injection h with h; injection h with e1 e2; injection e2 with e2 e3; subst e1 e2 e3
        obtain ⟨hb, rfl, hlt⟩ := rowPks_ok hl
        by_cases hi : i = -1
        · subst hi
          show AC Tryz.prog 121 _ H n (atV (pkA l 0)) H n
          exact AC.liftP (by simp [pkA]) (Part.row (fun x => [x, iv (-1)]) row_den row_sc hb (afL_pcs l) gsz ⟨_, _, w121s l⟩)
        · have hj : i = ((i.toNat : Nat) : Int) := by omega
          have hk : (i + 1).toNat = i.toNat + 1 := by omega
          have hlt2 : i.toNat < l.length := by omega
          have ho := h3.resolve_left hi
          rw [hk, pkA_succ hlt2] at ho
          have := w121 l i.toNat hlt2 ho
          rw [← hj] at this
          show AC Tryz.prog 121 _ H n (atV (pkA l (i + 1).toNat)) H n
          rw [hk]
          exact AC.liftP (by simp) (Part.row (fun x => [x, iv i]) row_den row_sc hb (afL_pcs l) gsz ⟨_, _, this⟩)
      · cases h
    · cases h
  · cases h
end Go.Proofs.YtkongcnmkiihjaaGreatDoor

namespace Go.Proofs.YtkongcnmkiihjaaGreatDoor
open Go Go.Ab Go.Proofs
theorem w125s (l : List Pk) (o c : Nat) : AC Tryz.prog 125 [.slice (some ⟨9, o, none⟩) l.length c, iv (-1)] [(9, .inp o (pcs l))] 10 (iv (pkA l 0).t) [(9, .inp o (pcs l))] 10 := by
  have hr := recT_ok (P := Tryz.prog) (l := []) (by simp)
  refine AC.pure Tryz.func125 rfl (by kernel_rfl) rfl [] rfl ?_
  refine E.seq ?_
  refine E.reg hr (by simp; rfl) ?_ -- region 0
  refine E.seq ?_
  refine E.seq ?_
  refine E.reg hr (by simp; rfl) ?_ -- region 1
  refine E.cond (t := true) (by simp) (fun _ => ?_) (fun h => by cases h)
  refine E.seq ?_
  refine E.reg hr (by simp; rfl) ?_ -- region 2
  refine E.ret ?_
  exact pureK.ret rfl rfl (by simp [pkA]) (by repeat first | exact sub_refl _ | refine sub_cons rfl ?_)
theorem w125 (l : List Pk) (o c j : Nat) (h : j < l.length) (_ho : l[j].Ok) : AC Tryz.prog 125 [.slice (some ⟨9, o, none⟩) l.length c, iv j] [(9, .inp o (pcs l))] 10 (iv (pkA l (j + 1)).t) [(9, .inp o (pcs l))] 10 := by
  have hr := recT_ok (P := Tryz.prog) (l := []) (by simp)
  refine AC.pure Tryz.func125 rfl (by kernel_rfl) rfl [] rfl ?_
  have hne : ¬ (j : Int) < 0 := by omega
  have h1 : j * 3 < l.length * 3 := by omega
  refine E.seq ?_
  refine E.reg hr (by simp; rfl) ?_ -- region 0
  refine E.seq ?_
  refine E.seq ?_
  refine E.reg hr (by simp [hne]; rfl) ?_ -- region 1
  refine E.cond (t := false) (by simp) (fun h => by cases h) (fun _ => ?_)
  refine E.skip ?_
  refine E.seq ?_
  refine E.reg hr (by simp [h, h1, pcs_tE h]; rfl) ?_ -- region 3
  refine E.ret ?_
  rw [pkA_succ h]
  exact pureK.ret rfl rfl (by simp) (by repeat first | exact sub_refl _ | refine sub_cons rfl ?_)
def g125 (args : List Value) (H : Heap) (n : Nat) : R := match args with
  | [.slice (some a) len _, .int .i64 i] => match pksAt H a len with
    | some l => if atOk l i = true then some (iv (pkI l i).t, H, n) else none
    | none => none
  | _ => none
theorem ok125 : EntOk Tryz.prog (125, g125) := by
  intro args H n v H' n' h
  simp only [g125] at h
  split at h
  · rename_i a len c0 i
    split at h
    · rename_i l hl
      split at h
      · rename_i hc
        simp only [atOk, decide_eq_true_eq] at hc
        obtain ⟨h1, h2, h3⟩ := hc
        injection h with h; injection h with e1 e2; injection e2 with e2 e3; subst e1 e2 e3
        obtain ⟨hf, hcs, rfl, hlt⟩ := pksAt_ok hl
        by_cases hi : i = -1
        · subst hi
          exact AC.liftP rfl (Part.one (fun x => [x, iv (-1)]) row_den row_sc hf hcs (afL_pcs l) [] (by simp [Seen]) gsz fun c => ⟨_, _, w125s l _ c⟩)
        · have hj : i = ((i.toNat : Nat) : Int) := by omega
          have hk : (i + 1).toNat = i.toNat + 1 := by omega
          have hlt2 : i.toNat < l.length := by omega
          have ho := h3.resolve_left hi
          rw [hk, pkA_succ hlt2] at ho
          show AC Tryz.prog 125 _ H n (iv (pkA l (i + 1).toNat).t) H n
          rw [hk]
          refine AC.liftP rfl (Part.one (fun x => [x, iv i]) row_den row_sc hf hcs (afL_pcs l) [] (by simp [Seen]) gsz fun c => ?_)
          have := w125 l a.off c i.toNat hlt2 ho
          rw [← hj] at this
          exact ⟨_, _, this⟩
      · cases h
    · cases h
  · cases h
theorem w126s (l : List Pk) (o c : Nat) : AC Tryz.prog 126 [.slice (some ⟨9, o, none⟩) l.length c, iv (-1)] [(9, .inp o (pcs l))] 10 (iv (pkA l 0).low) [(9, .inp o (pcs l))] 10 := by
  have hr := recT_ok (P := Tryz.prog) (l := []) (by simp)
  refine AC.pure Tryz.func126 rfl (by kernel_rfl) rfl [] rfl ?_
  refine E.seq ?_
  refine E.reg hr (by simp; rfl) ?_ -- region 0
  refine E.seq ?_
  refine E.seq ?_
  refine E.reg hr (by simp; rfl) ?_ -- region 1
  refine E.cond (t := true) (by simp) (fun _ => ?_) (fun h => by cases h)
  refine E.seq ?_
  refine E.reg hr (by simp; rfl) ?_ -- region 2
  refine E.ret ?_
  exact pureK.ret rfl rfl (by simp [pkA, Pk.low]) (by repeat first | exact sub_refl _ | refine sub_cons rfl ?_)
theorem w126 (l : List Pk) (o c j : Nat) (h : j < l.length) (ho : l[j].Ok) : AC Tryz.prog 126 [.slice (some ⟨9, o, none⟩) l.length c, iv j] [(9, .inp o (pcs l))] 10 (iv (pkA l (j + 1)).low) [(9, .inp o (pcs l))] 10 := by
  have hr := recT_ok (P := Tryz.prog) (l := []) (by simp)
  refine AC.pure Tryz.func126 rfl (by kernel_rfl) rfl [] rfl ?_
  have hne : ¬ (j : Int) < 0 := by omega
  have h1 : j * 3 < l.length * 3 := by omega
  have hl := ho.low
  obtain ⟨o1, o2, o3, o4, o5, o6⟩ := ho
  have e1 : IntKind.i64.wrap (l[j].q - l[j].e) = l[j].q - l[j].e := W_in (by omega) (by omega)
  have e2 : IntKind.i64.wrap (l[j].t * (l[j].q - l[j].e)) = l[j].low := by rw [W_in]; rfl; exact Int.le_trans (by omega) hl.1; exact Int.le_trans hl.2 (by omega)
  have h2 : j * 3 + 1 < l.length * 3 := by omega
  have h3 : j * 3 + 2 < l.length * 3 := by omega
  have i1 : o ≤ o + j * 3 + 1 := by omega
  have i2 : o + j * 3 + 1 - o = j * 3 + 1 := by omega
  have i3 : o ≤ o + j * 3 + 2 := by omega
  have i4 : o + j * 3 + 2 - o = j * 3 + 2 := by omega
  refine E.seq ?_
  refine E.reg hr (by simp; rfl) ?_ -- region 0
  refine E.seq ?_
  refine E.seq ?_
  refine E.reg hr (by simp [hne]; rfl) ?_ -- region 1
  refine E.cond (t := false) (by simp) (fun h => by cases h) (fun _ => ?_)
  refine E.skip ?_
  refine E.seq ?_
  refine E.drawC mixed hr [] [] [4, 9, 14] (by kernel_rfl) (by simp [h, h1, h2, h3, i1, i2, i3, i4, pcs_tE h, pcs_qE h, pcs_eE h, e1, e2]; rfl) ?_ -- region 3
  refine E.ret ?_
  rw [pkA_succ h]
  exact pureK.ret rfl rfl (by simp) (by repeat first | exact sub_refl _ | refine sub_cons rfl ?_)
def g126 (args : List Value) (H : Heap) (n : Nat) : R := match args with
  | [.slice (some a) len _, .int .i64 i] => match pksAt H a len with
    | some l => if atOk l i = true then some (iv (pkI l i).low, H, n) else none
    | none => none
  | _ => none
theorem ok126 : EntOk Tryz.prog (126, g126) := by
  intro args H n v H' n' h
  simp only [g126] at h
  split at h
  · rename_i a len c0 i
    split at h
    · rename_i l hl
      split at h
      · rename_i hc
        simp only [atOk, decide_eq_true_eq] at hc
        obtain ⟨h1, h2, h3⟩ := hc
        injection h with h; injection h with e1 e2; injection e2 with e2 e3; subst e1 e2 e3
        obtain ⟨hf, hcs, rfl, hlt⟩ := pksAt_ok hl
        by_cases hi : i = -1
        · subst hi
          exact AC.liftP rfl (Part.one (fun x => [x, iv (-1)]) row_den row_sc hf hcs (afL_pcs l) [] (by simp [Seen]) gsz fun c => ⟨_, _, w126s l _ c⟩)
        · have hj : i = ((i.toNat : Nat) : Int) := by omega
          have hk : (i + 1).toNat = i.toNat + 1 := by omega
          have hlt2 : i.toNat < l.length := by omega
          have ho := h3.resolve_left hi
          rw [hk, pkA_succ hlt2] at ho
          show AC Tryz.prog 126 _ H n (iv (pkA l (i + 1).toNat).low) H n
          rw [hk]
          refine AC.liftP rfl (Part.one (fun x => [x, iv i]) row_den row_sc hf hcs (afL_pcs l) [] (by simp [Seen]) gsz fun c => ?_)
          have := w126 l a.off c i.toNat hlt2 ho
          rw [← hj] at this
          exact ⟨_, _, this⟩
      · cases h
    · cases h
  · cases h
theorem w127s (l : List Pk) (o c : Nat) : AC Tryz.prog 127 [.slice (some ⟨9, o, none⟩) l.length c, iv (-1)] [(9, .inp o (pcs l))] 10 (iv (pkA l 0).high) [(9, .inp o (pcs l))] 10 := by
  have hr := recT_ok (P := Tryz.prog) (l := []) (by simp)
  refine AC.pure Tryz.func127 rfl (by kernel_rfl) rfl [] rfl ?_
  refine E.seq ?_
  refine E.reg hr (by simp; rfl) ?_ -- region 0
  refine E.seq ?_
  refine E.seq ?_
  refine E.reg hr (by simp; rfl) ?_ -- region 1
  refine E.cond (t := true) (by simp) (fun _ => ?_) (fun h => by cases h)
  refine E.seq ?_
  refine E.reg hr (by simp; rfl) ?_ -- region 2
  refine E.ret ?_
  exact pureK.ret rfl rfl (by simp [pkA, Pk.high]) (by repeat first | exact sub_refl _ | refine sub_cons rfl ?_)
theorem w127 (l : List Pk) (o c j : Nat) (h : j < l.length) (ho : l[j].Ok) : AC Tryz.prog 127 [.slice (some ⟨9, o, none⟩) l.length c, iv j] [(9, .inp o (pcs l))] 10 (iv (pkA l (j + 1)).high) [(9, .inp o (pcs l))] 10 := by
  have hr := recT_ok (P := Tryz.prog) (l := []) (by simp)
  refine AC.pure Tryz.func127 rfl (by kernel_rfl) rfl [] rfl ?_
  have hne : ¬ (j : Int) < 0 := by omega
  have h1 : j * 3 < l.length * 3 := by omega
  have hl := ho.high
  obtain ⟨o1, o2, o3, o4, o5, o6⟩ := ho
  have e1 : IntKind.i64.wrap (l[j].q + l[j].e) = l[j].q + l[j].e := W_in (by omega) (by omega)
  have e2 : IntKind.i64.wrap (l[j].t * (l[j].q + l[j].e)) = l[j].high := by rw [W_in]; rfl; exact Int.le_trans (by omega) hl.1; exact Int.le_trans hl.2 (by omega)
  have h2 : j * 3 + 1 < l.length * 3 := by omega
  have h3 : j * 3 + 2 < l.length * 3 := by omega
  have i1 : o ≤ o + j * 3 + 1 := by omega
  have i2 : o + j * 3 + 1 - o = j * 3 + 1 := by omega
  have i3 : o ≤ o + j * 3 + 2 := by omega
  have i4 : o + j * 3 + 2 - o = j * 3 + 2 := by omega
  refine E.seq ?_
  refine E.reg hr (by simp; rfl) ?_ -- region 0
  refine E.seq ?_
  refine E.seq ?_
  refine E.reg hr (by simp [hne]; rfl) ?_ -- region 1
  refine E.cond (t := false) (by simp) (fun h => by cases h) (fun _ => ?_)
  refine E.skip ?_
  refine E.seq ?_
  refine E.drawC mixed hr [] [] [4, 9, 14] (by kernel_rfl) (by simp [h, h1, h2, h3, i1, i2, i3, i4, pcs_tE h, pcs_qE h, pcs_eE h, e1, e2]; rfl) ?_ -- region 3
  refine E.ret ?_
  rw [pkA_succ h]
  exact pureK.ret rfl rfl (by simp) (by repeat first | exact sub_refl _ | refine sub_cons rfl ?_)
def g127 (args : List Value) (H : Heap) (n : Nat) : R := match args with
  | [.slice (some a) len _, .int .i64 i] => match pksAt H a len with
    | some l => if atOk l i = true then some (iv (pkI l i).high, H, n) else none
    | none => none
  | _ => none
theorem ok127 : EntOk Tryz.prog (127, g127) := by
  intro args H n v H' n' h
  simp only [g127] at h
  split at h
  · rename_i a len c0 i
    split at h
    · rename_i l hl
      split at h
      · rename_i hc
        simp only [atOk, decide_eq_true_eq] at hc
        obtain ⟨h1, h2, h3⟩ := hc
        injection h with h; injection h with e1 e2; injection e2 with e2 e3; subst e1 e2 e3
        obtain ⟨hf, hcs, rfl, hlt⟩ := pksAt_ok hl
        by_cases hi : i = -1
        · subst hi
          exact AC.liftP rfl (Part.one (fun x => [x, iv (-1)]) row_den row_sc hf hcs (afL_pcs l) [] (by simp [Seen]) gsz fun c => ⟨_, _, w127s l _ c⟩)
        · have hj : i = ((i.toNat : Nat) : Int) := by omega
          have hk : (i + 1).toNat = i.toNat + 1 := by omega
          have hlt2 : i.toNat < l.length := by omega
          have ho := h3.resolve_left hi
          rw [hk, pkA_succ hlt2] at ho
          show AC Tryz.prog 127 _ H n (iv (pkA l (i + 1).toNat).high) H n
          rw [hk]
          refine AC.liftP rfl (Part.one (fun x => [x, iv i]) row_den row_sc hf hcs (afL_pcs l) [] (by simp [Seen]) gsz fun c => ?_)
          have := w127 l a.off c i.toNat hlt2 ho
          rw [← hj] at this
          exact ⟨_, _, this⟩
      · cases h
    · cases h
  · cases h
end Go.Proofs.YtkongcnmkiihjaaGreatDoor

namespace Go.Proofs.YtkongcnmkiihjaaGreatDoor
open Go Go.Ab Go.Proofs
/-! ### the errors of picks -/
def pstE (last : Int) (p : Pk) : Int := firstV [p.err, whenV (decide (p.t ≤ last)) 11]
def pfE : Int → List Pk → Int
  | _, [] => 0
  | last, p :: l => if pstE last p = 0 then pfE p.t l else pstE last p
def pksE (l : List Pk) : Int := if 64 < l.length then 5 else pfE 0 l
theorem pksE_nil : pksE [] = 0 := rfl
theorem w56n : AC Tryz.prog 56 [.slice none 0 0] [] 9 (iv 0) [] 9 := by
  have hr := recT_ok (P := Tryz.prog) (l := []) (by simp)
  refine AC.pure Tryz.func56 rfl (by kernel_rfl) rfl [3, 10, 11, 12] rfl ?_
  refine E.seq ?_
  refine E.reg hr (by simp; rfl) ?_ -- region 0
  refine E.seq ?_
  refine E.seq ?_
  refine E.reg hr (by simp; rfl) ?_ -- region 1
  refine E.cond (t := false) (by simp) (fun h => by cases h) (fun _ => ?_)
  refine E.skip ?_
  refine E.seq ?_
  refine E.reg hr (by simp; rfl) ?_ -- region 3
  refine E.seq ?_
  refine E.seq ?_
  refine E.reg hr (by simp; rfl) ?_ -- region 4
  refine E.block ?_ -- 0
  refine E.loop ?_
  refine EL.step ?_
  refine E.seq ?_
  refine E.reg hr (by simp; rfl) ?_ -- region 5
  refine E.seq ?_
  refine E.cond (t := false) (by simp) (fun h => by cases h) (fun _ => ?_)
  refine E.exit ?_ -- 0
  refine E.seq ?_
  refine E.reg hr (by simp; rfl) ?_ -- region 12
  refine E.ret ?_
  exact pureK.ret rfl rfl (by simp) (by repeat first | exact sub_refl _ | refine sub_cons rfl ?_)
theorem w56 (l : List Pk) (k : Nat) (hk : l.length = k) (hl : k < 2 ^ 63) : AC Tryz.prog 56 [rowV k] [(9, .row (pcs l) 3)] 10 (iv (pksE l)) [(9, .row (pcs l) 3)] 10 := by
  have hr := recT_ok (P := Tryz.prog) (l := [(129, g129), (96, g96), (90, g90)]) (by simp [ok129, ok96, ok90])
  refine AC.pure Tryz.func56 rfl (by kernel_rfl) rfl [3, 10, 11, 12] rfl ?_
  refine E.seq ?_
  refine E.reg hr (by simp; rfl) ?_ -- region 0
  refine E.seq ?_
  refine E.seq ?_
  refine E.reg hr (by simp; rfl) ?_ -- region 1
  refine E.cond (by rfl) (fun h => ?_) (fun h => ?_)
  · simp at h
    have h' : 64 < l.length := by omega
    refine E.seq ?_
    refine E.reg hr (by simp; rfl) ?_ -- region 2
    refine E.ret ?_
    exact pureK.ret rfl rfl (by simp [pksE, h']) (by repeat first | exact sub_refl _ | refine sub_cons rfl ?_)
  · simp at h
    have h0 : pksE l = pfE 0 l := by unfold pksE; rw [if_neg (by omega)]
    have hk64 : k ≤ 64 := by omega
    refine E.skip ?_
    refine E.seq ?_
    refine E.reg hr (by simp; rfl) ?_ -- region 3
    refine E.seq ?_
    refine E.seq ?_
    refine E.reg hr (by simp; rfl) ?_ -- region 4
    refine E.block ?_ -- 0
    refine E.loop ?_
    refine EL.ind (fun a : Nat × Int => { fr := [(3, iv a.2), (10, rowV k), (11, iv k), (12, iv a.1)], sz := 31, H := [(9, .row (pcs l) 3)], n := 10, marks := [], vs := [3, 10, 11, 12] }) (fun a => k - a.1) (fun a => a.1 ≤ k ∧ pfE a.2 (l.drop a.1) = pfE 0 l) (0, 0) (.less rfl rfl rfl (by simp) (by simp)) ⟨Nat.zero_le _, rfl⟩ (fun _ => rfl) ?_
    rintro ⟨i, last⟩ ⟨hi, hg⟩
    dsimp only at hi hg
    have hw : IntKind.i64.wrap ((i : Int) + 1) = (i : Int) + 1 := W_in (by omega) (by omega)
    refine E.seq ?_
    refine E.reg hr (by simp; rfl) ?_ -- region 5
    refine E.seq ?_
    refine E.cond (by rfl) (fun h => ?_) (fun h => ?_)
    · simp at h
      have hil : i < l.length := by omega
      have h3 : i * 3 + 3 ≤ l.length * 3 := by omega
      rw [List.drop_eq_getElem_cons hil, pfE] at hg
      refine E.skip ?_
      refine E.seq ?_
      refine E.block ?_ -- 1
      refine E.seq ?_
      refine E.reg hr (by simp [h, h3, pcs_take hil]; rfl) ?_ -- region 6
      refine E.seq ?_
      refine E.seq ?_
      have hS : firstV [Pk.err ⟨l[i].t, l[i].q, l[i].e⟩, whenV (decide (l[i].t ≤ last)) 11] = pstE last l[i] := rfl
      refine E.drawC mixed hr [6, 7, 8] [1, 6, 7, 8] [0, 1, 6, 7, 8] (by kernel_rfl) (by simp [g129, g96, g90, intsAt, intsOf, hS]; rfl) ?_ -- region 7
      refine E.seq ?_
      refine E.reg hr (by simp; rfl) ?_ -- region 8
      refine E.cond (by rfl) (fun h1 => ?_) (fun h1 => ?_)
      · simp at h1
        refine E.seq ?_
        refine E.reg hr (by simp; rfl) ?_ -- region 9
        refine E.ret ?_
        rw [if_neg h1] at hg
        exact pureK.ret rfl rfl (by simp [h0, ← hg]) (by repeat first | exact sub_refl _ | refine sub_cons rfl ?_)
      · simp at h1
        refine E.skip ?_
        refine E.reg hr (by simp; rfl) ?_ -- region 10
        refine E.reg hr (by simp [hw]; rfl) ?_ -- region 11
        rw [if_pos h1] at hg
        exact ⟨(i + 1, l[i].t), Leads.ren [] rfl rfl rfl ⟨rfl, rfl⟩ (by simp) (by simp), ⟨h, hg⟩, by dsimp only; omega⟩
    · simp at h
      refine E.exit ?_ -- 0
      refine E.seq ?_
      refine E.reg hr (by simp; rfl) ?_ -- region 12
      refine E.ret ?_
      rw [List.drop_eq_nil_of_le (by omega), pfE] at hg
      exact pureK.ret rfl rfl (by simp [h0, ← hg]) (by repeat first | exact sub_refl _ | refine sub_cons rfl ?_)
def g56 (args : List Value) (H : Heap) (n : Nat) : R := match args with
  | [t] => (pksP H t).map fun l => (iv (pksE l), H, n)
  | _ => none
theorem ok56 : EntOk Tryz.prog (56, g56) := by
  intro args H n v H' n' h
  simp only [g56] at h
  split at h
  · rw [Option.map_eq_some_iff] at h
    obtain ⟨l, h1, h⟩ := h
    injection h with e1 e2; injection e2 with e2 e3; subst e1 e2 e3
    unfold pksP at h1
    split at h1
    · injection h1 with h1; subst h1
      exact AC.liftP rfl (Part.plain (by simp) [] (by simp [Seen]) gsz ⟨_, _, w56n⟩)
    · obtain ⟨hb, rfl, hlt⟩ := rowPks_ok h1
      exact AC.liftP rfl (Part.row (fun x => [x]) (by intro φ φ0 s s0 h; simp [denL, h]) (by intro p s h; exact ⟨h, trivial⟩) hb (afL_pcs l) gsz ⟨_, _, w56 l _ rfl hlt⟩)
    · cases h1
  · cases h
end Go.Proofs.YtkongcnmkiihjaaGreatDoor

namespace Go.Proofs.YtkongcnmkiihjaaGreatDoor
open Go Go.Ab Go.Proofs
theorem pstR (p : Pk) (b : Bool) : firstV [withinV p.t 1 1024, velV p.q, withinV p.e 0 1000000000, whenV b 11] = firstV [p.err, whenV b 11] := by
  simp only [Pk.err, firstV]
  by_cases h1 : withinV p.t 1 1024 = 0 <;> by_cases h2 : velV p.q = 0 <;> by_cases h3 : withinV p.e 0 1000000000 = 0 <;> simp [h1, h2, h3]
theorem pstE_zero (p : Pk) : firstV [p.err, whenV false 11] = pstE 0 p := by
  unfold pstE
  by_cases h : p.t ≤ 0
  · have : p.err ≠ 0 := fun e => by have := (Pk.err_zero e).1; omega
    simp [firstV, this]
  · simp [h]
def lastT (l : List Pk) (i : Nat) : Int := (pkA l i).t
theorem w50n : AC Tryz.prog 50 [.slice none 0 0] [] 9 (iv 0) [] 9 := by
  have hr := recT_ok (P := Tryz.prog) (l := []) (by simp)
  refine AC.pure Tryz.func50 rfl (by kernel_rfl) rfl [0, 3] rfl ?_
  refine E.seq ?_
  refine E.reg hr (by simp; rfl) ?_ -- region 0
  refine E.seq ?_
  refine E.seq ?_
  refine E.reg hr (by simp; rfl) ?_ -- region 1
  refine E.cond (t := false) (by simp) (fun h => by cases h) (fun _ => ?_)
  refine E.skip ?_
  refine E.seq ?_
  refine E.seq ?_
  refine E.reg hr (by simp; rfl) ?_ -- region 3
  refine E.block ?_ -- 0
  refine E.loop ?_
  refine EL.step ?_
  refine E.seq ?_
  refine E.seq ?_
  refine E.reg hr (by simp; rfl) ?_ -- region 4
  refine E.cond (t := false) (by simp) (fun h => by cases h) (fun _ => ?_)
  refine E.exit ?_ -- 0
  refine E.seq ?_
  refine E.reg hr (by simp; rfl) ?_ -- region 9
  refine E.ret ?_
  exact pureK.ret rfl rfl (by simp) (by repeat first | exact sub_refl _ | refine sub_cons rfl ?_)
set_option maxRecDepth 10000 in
theorem w50 (l : List Pk) (k : Nat) (hk : l.length = k) (o c : Nat) (hl : k < 2 ^ 63) : AC Tryz.prog 50 [.slice (some ⟨9, o, none⟩) k c] [(9, .inp o (pcs l))] 10 (iv (pksE l)) [(9, .inp o (pcs l))] 10 := by
  have hr := recT_ok (P := Tryz.prog) (l := [(37, g37), (64, g64), (99, g99), (94, g94)]) (by simp [ok37, ok64, ok99, ok94])
  refine AC.pure Tryz.func50 rfl (by kernel_rfl) rfl [0, 3] rfl ?_
  refine E.seq ?_
  refine E.reg hr (by simp; rfl) ?_ -- region 0
  refine E.seq ?_
  refine E.seq ?_
  refine E.reg hr (by simp; rfl) ?_ -- region 1
  refine E.cond (by rfl) (fun h => ?_) (fun h => ?_)
  · simp at h
    have h' : 64 < l.length := by omega
    refine E.seq ?_
    refine E.reg hr (by simp; rfl) ?_ -- region 2
    refine E.ret ?_
    exact pureK.ret rfl rfl (by simp [pksE, h']) (by repeat first | exact sub_refl _ | refine sub_cons rfl ?_)
  · simp at h
    have h0 : pksE l = pfE 0 l := by unfold pksE; rw [if_neg (by omega)]
    have hk64 : k ≤ 64 := by omega
    refine E.skip ?_
    refine E.seq ?_
    refine E.seq ?_
    refine E.reg hr (by simp; rfl) ?_ -- region 3
    refine E.block ?_ -- 0
    refine E.loop ?_
    refine EL.ind (fun i : Nat => { fr := [(0, .slice (some ⟨9, o, none⟩) k c), (3, iv i)], sz := 55, H := [(9, .inp o (pcs l))], n := 10, marks := [], vs := [0, 3] }) (fun i => k - i) (fun i => i ≤ k ∧ pfE (lastT l i) (l.drop i) = pfE 0 l) 0 (.less rfl rfl rfl (by simp) (by simp)) ⟨Nat.zero_le _, rfl⟩ (fun _ => rfl) ?_
    intro i ⟨hi, hg⟩
    have hw : IntKind.i64.wrap ((i : Int) + 1) = (i : Int) + 1 := W_in (by omega) (by omega)
    refine E.seq ?_
    refine E.seq ?_
    refine E.reg hr (by simp; rfl) ?_ -- region 4
    refine E.cond (by rfl) (fun h => ?_) (fun h => ?_)
    · simp at h
      have hil : i < l.length := by omega
      have a0 : i * 3 < l.length * 3 := by omega
      have a1 : i * 3 + 1 < l.length * 3 := by omega
      have a2 : i * 3 + 2 < l.length * 3 := by omega
      have i1 : o ≤ o + i * 3 + 1 := by omega
      have i2 : o + i * 3 + 1 - o = i * 3 + 1 := by omega
      have i3 : o ≤ o + i * 3 + 2 := by omega
      have i4 : o + i * 3 + 2 - o = i * 3 + 2 := by omega
      rw [List.drop_eq_getElem_cons hil, pfE] at hg
      have hnext : l[i].t = lastT l (i + 1) := by rw [lastT, pkA_succ hil]
      rw [hnext] at hg
      refine E.skip ?_
      refine E.seq ?_
      refine E.block ?_ -- 1
      refine E.seq ?_
      cases i with
      | zero =>
        have hS : firstV [withinV l[0].t 1 1024, velV l[0].q, withinV l[0].e 0 1000000000, whenV false 11] = pstE (lastT l 0) l[0] := by rw [pstR, pstE_zero]; rfl
        have z1 : 0 < l.length * 3 := by omega
        have z2 : 1 < l.length * 3 := by omega
        have z3 : 2 < l.length * 3 := by omega
        have y0 : (pcs l)[0]'(by rw [pcs_length]; exact z1) = iv l[0].t := pcs_tE (i := 0) hil _
        have y1 : (pcs l)[1]'(by rw [pcs_length]; exact z2) = iv l[0].q := pcs_qE (i := 0) hil _
        have y2 : (pcs l)[2]'(by rw [pcs_length]; exact z3) = iv l[0].e := pcs_eE (i := 0) hil _
        refine E.drawC mixed hr [17, 35, 36, 37] [5, 11, 17, 35, 36, 37] [4, 5, 11, 17, 27, 32, 35, 36, 37] (by kernel_rfl) (by simp [g37, g64, g99, g94, intsAt, intsOf, h, z1, z2, z3, y0, y1, y2, yieldedA, hS]; rfl) ?_ -- region 6
        refine E.seq ?_
        refine E.reg hr (by simp; rfl) ?_ -- region 7
        refine E.cond (by rfl) (fun h1 => ?_) (fun h1 => ?_)
        · simp at h1
          refine E.seq ?_
          refine E.reg hr (by simp; rfl) ?_ -- region 8
          refine E.ret ?_
          rw [if_neg h1] at hg
          exact pureK.ret rfl rfl (by simp [h0, ← hg]) (by repeat first | exact sub_refl _ | refine sub_cons rfl ?_)
        · simp at h1
          refine E.skip ?_
          refine E.reg hr (by simp [show IntKind.i64.wrap 1 = 1 from W_in (by omega) (by omega)]; rfl) ?_ -- region 5
          rw [if_pos h1] at hg
          exact ⟨1, Leads.ren [] rfl rfl rfl ⟨rfl, rfl⟩ (by simp) (by simp), ⟨h, hg⟩, by dsimp only; omega⟩
      | succ j =>
        have hj : j < k := by omega
        have hjl : j < l.length := by omega
        have j0 : j * 3 < l.length * 3 := by omega
        have hwj : IntKind.i64.wrap (j : Int) = (j : Int) := W_in (by omega) (by omega)
        have hm : max (0 : Int) (j : Int) = (j : Int) := by omega
        have hlast : lastT l (j + 1) = l[j].t := by rw [lastT, pkA_succ hjl]
        have hS : firstV [withinV l[j + 1].t 1 1024, velV l[j + 1].q, withinV l[j + 1].e 0 1000000000, whenV (decide (l[j + 1].t ≤ l[j].t)) 11] = pstE (lastT l (j + 1)) l[j + 1] := by rw [pstR, hlast]; rfl
        have hp : (0 : Int) < (j : Int) + 1 := by omega
        have hjk : (j : Int) + 1 < (k : Int) := by omega
        have hw2 : IntKind.i64.wrap ((j : Int) + 1 + 1) = (j : Int) + 1 + 1 := W_in (by omega) (by omega)
        refine E.drawC mixed hr [17, 35, 36, 37] [5, 11, 17, 35, 36, 37] [4, 5, 11, 17, 27, 32, 35, 36, 37] (by kernel_rfl) (by simp [g37, g64, g99, g94, intsAt, intsOf, h, hjk, hj, a0, a1, a2, i1, i2, i3, i4, j0, hwj, max33, hm, hp, pcs_tE hil, pcs_qE hil, pcs_eE hil, pcs_tE hjl, yieldedA, hS]; rfl) ?_ -- region 6
        refine E.seq ?_
        refine E.reg hr (by simp; rfl) ?_ -- region 7
        refine E.cond (by rfl) (fun h1 => ?_) (fun h1 => ?_)
        · simp at h1
          refine E.seq ?_
          refine E.reg hr (by simp; rfl) ?_ -- region 8
          refine E.ret ?_
          rw [if_neg h1] at hg
          exact pureK.ret rfl rfl (by simp [h0, ← hg]) (by repeat first | exact sub_refl _ | refine sub_cons rfl ?_)
        · simp at h1
          refine E.skip ?_
          refine E.reg hr (by simp [hw2]; rfl) ?_ -- region 5
          rw [if_pos h1] at hg
          exact ⟨j + 1 + 1, Leads.ren [] rfl rfl rfl ⟨rfl, rfl⟩ (by simp) (by simp), ⟨h, hg⟩, by dsimp only; omega⟩
    · simp at h
      refine E.exit ?_ -- 0
      refine E.seq ?_
      refine E.reg hr (by simp; rfl) ?_ -- region 9
      refine E.ret ?_
      rw [List.drop_eq_nil_of_le (by omega), pfE] at hg
      exact pureK.ret rfl rfl (by simp [h0, ← hg]) (by repeat first | exact sub_refl _ | refine sub_cons rfl ?_)
def g50 (args : List Value) (H : Heap) (n : Nat) : R := match args with
  | [t] => (pksR H t).map fun l => (iv (pksE l), H, n)
  | _ => none
theorem ok50 : EntOk Tryz.prog (50, g50) := by
  intro args H n v H' n' h
  simp only [g50] at h
  split at h
  · rw [Option.map_eq_some_iff] at h
    obtain ⟨l, h1, h⟩ := h
    injection h with e1 e2; injection e2 with e2 e3; subst e1 e2 e3
    unfold pksR at h1
    split at h1
    · injection h1 with h1; subst h1
      exact AC.liftP rfl (Part.plain (by simp) [] (by simp [Seen]) gsz ⟨_, _, w50n⟩)
    · obtain ⟨hf, hc, hlen, hlt⟩ := pksAt_ok h1
      exact AC.liftP rfl (Part.one (fun x => [x]) (by intro φ φ0 s s0 h; simp [denL, h]) (by intro p s h; exact ⟨h, trivial⟩) hf hc (afL_pcs l) [] (by simp [Seen]) gsz fun c => ⟨_, _, w50 l _ hlen _ c (hlen ▸ hlt)⟩)
    · cases h1
  · cases h
end Go.Proofs.YtkongcnmkiihjaaGreatDoor

namespace Go.Proofs.YtkongcnmkiihjaaGreatDoor
open Go Go.Ab Go.Proofs
/-! ### picks that contradict each other -/
theorem pfE_ok : ∀ (l : List Pk) (last : Int), pfE last l = 0 → PksOk l
  | [], _, _ => fun p hp => by cases hp
  | p :: l, last, h => by
    rw [pfE] at h
    by_cases h1 : pstE last p = 0
    · rw [if_pos h1] at h
      have ih := pfE_ok l _ h
      have he : p.err = 0 := by
        rw [pstE, firstV] at h1
        by_cases h2 : p.err = 0
        · exact h2
        · rw [if_neg h2] at h1; exact absurd h1 h2
      intro q hq
      rcases List.mem_cons.1 hq with rfl | hq
      · exact Pk.err_zero he
      · exact ih q hq
    · rw [if_neg h1] at h; exact absurd h h1
theorem pksE_ok {l : List Pk} (h : pksE l = 0) : PksOk l ∧ l.length ≤ 64 := by
  unfold pksE at h
  split at h
  · cases h
  · exact ⟨pfE_ok l 0 h, by omega⟩
def BndIn (lo hi : Int) : Prop := 1 ≤ lo ∧ lo ≤ 1000000000 ∧ 1 ≤ hi ∧ hi ≤ 1000000000 ∧ lo ≤ hi
instance (lo hi : Int) : Decidable (BndIn lo hi) := by unfold BndIn; infer_instance
theorem bndE_ok {lo hi : Int} (h : bndE lo hi = 0) : BndIn lo hi := by
  simp only [bndE, firstV, velV, withinV, whenV] at h
  by_cases h1 : lo < 1 ∨ 1000000000 < lo
  · simp [h1] at h
  by_cases h2 : hi < 1 ∨ 1000000000 < hi
  · simp [h1, h2] at h
  by_cases h3 : hi < lo
  · simp [h1, h2, h3] at h
  exact ⟨by omega, by omega, by omega, by omega, by omega⟩
def conP (x y : Pk) (lo hi : Int) : Bool := decide (x.high + hi * (y.t - x.t) < y.low) || decide (y.high < x.low + lo * (y.t - x.t))
theorem mul_in2 {b d : Int} (h1 : 1 ≤ b) (h2 : b ≤ 1000000000) (h3 : -1024 ≤ d) (h4 : d ≤ 1024) : -1024000000000 ≤ b * d ∧ b * d ≤ 1024000000000 := by
  have a1 : b * d ≤ b * 1024 := Int.mul_le_mul_of_nonneg_left h4 (by omega)
  have a2 : b * (-1024) ≤ b * d := Int.mul_le_mul_of_nonneg_left h3 (by omega)
  omega
instance (p : Pk) : Decidable p.At := by unfold Pk.At; infer_instance
abbrev bH (l : List Pk) : Heap := [(9, .row (pcs l) 3)]
set_option maxRecDepth 10000 in
theorem w120 (l : List Pk) (i j lo hi : Int) (hl : l.length < 2 ^ 63) (ai : atOk l i = true) (aj : atOk l j = true) (hx : (pkI l i).At) (hy : (pkI l j).At) (hb : BndIn lo hi) : AC Tryz.prog 120 [rowV l.length, iv i, iv j, ivl lo hi] (bH l) 10 (.bool (conP (pkI l i) (pkI l j) lo hi)) (bH l) 10 := by
  have hr := recT_ok (P := Tryz.prog) (l := [(121, g121)]) (by simp [ok121])
  refine AC.pure Tryz.func120 rfl (by kernel_rfl) rfl [] rfl ?_
  have hl' : l.length < 9223372036854775808 := by omega
  generalize hX : pkI l i = x at *
  generalize hY : pkI l j = y at *
  obtain ⟨x1, x2, ⟨x3, x4⟩, x5, x6⟩ := hx
  obtain ⟨y1, y2, ⟨y3, y4⟩, y5, y6⟩ := hy
  obtain ⟨b1, b2, b3, b4, b5⟩ := hb
  have m1 := mul_in2 b3 b4 (show -1024 ≤ y.t - x.t by omega) (by omega)
  have m2 := mul_in2 b1 b2 (show -1024 ≤ y.t - x.t by omega) (by omega)
  have e0 : IntKind.i64.wrap (y.t - x.t) = y.t - x.t := W_in (by omega) (by omega)
  have e1 : IntKind.i64.wrap (hi * (y.t - x.t)) = hi * (y.t - x.t) := W_in (by omega) (by omega)
  have e2 : IntKind.i64.wrap (x.high + hi * (y.t - x.t)) = x.high + hi * (y.t - x.t) := W_in (by omega) (by omega)
  have e3 : IntKind.i64.wrap (lo * (y.t - x.t)) = lo * (y.t - x.t) := W_in (by omega) (by omega)
  have e4 : IntKind.i64.wrap (x.low + lo * (y.t - x.t)) = x.low + lo * (y.t - x.t) := W_in (by omega) (by omega)
  refine E.seq ?_
  refine E.reg hr (by simp; rfl) ?_ -- region 0
  refine E.seq ?_
  refine E.reg hr (by simp [g121, rowPks, rowOf, pksOf_pcs, hl', ai, hX]; rfl) ?_ -- region 1
  refine E.seq ?_
  refine E.reg hr (by simp [g121, rowPks, rowOf, pksOf_pcs, hl', aj, hY]; rfl) ?_ -- region 2
  refine E.seq ?_
  by_cases hc : x.high + hi * (y.t - x.t) < y.low
  · refine E.reg hr (by simp [oneF_guard, yieldedA, e0, e1, e2, hc]; rfl) ?_ -- region 3
    refine E.ret ?_
    exact pureK.ret rfl rfl (by simp [conP, hc]) (by repeat first | exact sub_refl _ | refine sub_cons rfl ?_)
  · refine E.reg hr (by simp [oneF_guard, yieldedA, e0, e1, e2, e3, e4, hc]; rfl) ?_ -- region 3
    refine E.ret ?_
    exact pureK.ret rfl rfl (by simp [conP, hc]) (by repeat first | exact sub_refl _ | refine sub_cons rfl ?_)
def g120 (args : List Value) (H : Heap) (n : Nat) : R := match args with
  | [.slice (some ⟨b, 0, some 0⟩) len 0, .int .i64 i, .int .i64 j, .agg ⟨[.int .i64 lo, .int .i64 hi]⟩] => match rowPks H b len with
    | some l => if atOk l i = true ∧ atOk l j = true ∧ (pkI l i).At ∧ (pkI l j).At ∧ BndIn lo hi then some (.bool (conP (pkI l i) (pkI l j) lo hi), H, n) else none
    | none => none
  | _ => none
theorem ok120 : EntOk Tryz.prog (120, g120) := by
  intro args H n v H' n' h
  simp only [g120] at h
  split at h
  · split at h
    · rename_i l hl
      split at h
      · rename_i hc
        obtain ⟨h1, h2, h3, h4, h5⟩ := hc
        injection h with h; injection h with e1 e2; injection e2 with e2 e3; subst e1 e2 e3
        obtain ⟨hb, rfl, hlt⟩ := rowPks_ok hl
        exact AC.liftP rfl (Part.row (fun x => [x, iv _, iv _, ivl _ _]) (by intro φ φ0 s s0 h; simp [denL, den, h]) (by intro p s h; exact ⟨h, trivial, trivial, ⟨trivial, trivial, trivial⟩, trivial⟩) hb (afL_pcs l) gsz ⟨_, _, w120 l _ _ _ _ hlt h1 h2 h3 h4 h5⟩)
      · cases h
    · cases h
  · cases h
end Go.Proofs.YtkongcnmkiihjaaGreatDoor

namespace Go.Ab
open Go
/-- a scope that no jump leads back into -/
theorem E.scope {P : Program} {n0 : Nat} {b : Code} {st : St} {K : Ex → St → Prop} (h : E P n0 none b st (scopeK K)) : E P n0 none (.scope b) st K := by
  obtain ⟨e, st', h, k⟩ := h
  have go : (∀ l, e ≠ .goto l) → ATX P n0 none (.scope b) st e st' := fun he p φ M w0 hg hp hl a w φ1 hS hs =>
    wpIn_wide.2 (wp_scope_straight (wpIn_wide.1 (wpIn_mono (h p φ M w0 hg hp hl a w φ1 hS hs) fun e2 a1 w1 hh => by
      have he' := hh.1
      subst he'
      cases e with
      | goto l => exact absurd rfl (he l)
      | _ => exact hh)))
  cases e with
  | goto l => exact k.elim
  | _ => exact ⟨_, st', go (fun _ e => by cases e), k⟩
end Go.Ab
namespace Go.Proofs.YtkongcnmkiihjaaGreatDoor
open Go Go.Ab Go.Proofs
/-! ### the first two picks that contradict each other -/
def srJ (l : List Pk) (lo hi : Int) (k : Nat) : Nat → Nat → Option Nat
  | 0, _ => none
  | n + 1, j => if conP (pkA l k) (pkA l (j + 1)) lo hi then some j else srJ l lo hi k n (j + 1)
def srK (l : List Pk) (lo hi : Int) : Nat → Nat → Option (Nat × Nat)
  | 0, _ => none
  | n + 1, k => match srJ l lo hi k (l.length - k) k with
    | some j => some (k, j)
    | none => srK l lo hi n (k + 1)
def seek (l : List Pk) (lo hi : Int) : Option (Nat × Nat) := srK l lo hi (l.length + 1) 0
def refE (l : List Pk) (lo hi : Int) : Int := firstV [pksE l, bndE lo hi]
def refR (l : List Pk) (lo hi : Int) : Option (Nat × Nat) := if refE l lo hi = 0 then seek l lo hi else none
def prA : Option (Nat × Nat) → Int
  | some (k, _) => (k : Int) - 1
  | none => 0
def prB : Option (Nat × Nat) → Int
  | some (_, j) => j
  | none => 0
abbrev refV (r : Option (Nat × Nat)) (e : Int) : Value := .tuple #[ivl (prA r) (prB r), .bool r.isSome, iv e]
theorem refE_ok {l : List Pk} {lo hi : Int} (h : refE l lo hi = 0) : PksOk l ∧ l.length ≤ 64 ∧ BndIn lo hi := by
  simp only [refE, firstV] at h
  by_cases h1 : pksE l = 0
  · rw [if_pos h1] at h
    by_cases h2 : bndE lo hi = 0
    · exact ⟨(pksE_ok h1).1, (pksE_ok h1).2, bndE_ok h2⟩
    · rw [if_neg h2] at h; exact absurd h h2
  · rw [if_neg h1] at h; exact absurd h h1
theorem build76 {fr : Fr} {H : Heap} {n : Nat} {x y : Operand} {a b : Int} (hx : evO Tryz.prog fr x = some (iv a)) (hy : evO Tryz.prog fr y = some (iv b)) : opBuild Tryz.prog 76 #[(0, x), (1, y)] fr H n = some (.agg #[iv a, iv b], H, n) := by
  unfold opBuild
  simp only [evPs_cons, evPs_nil, hx, hy]
  kernel_rfl
theorem build76n {fr : Fr} {H : Heap} {n : Nat} : opBuild Tryz.prog 76 #[] fr H n = some (.agg #[iv 0, iv 0], H, n) := by kernel_rfl
/-- behind the loops: what was found -/
def S45 (l : List Pk) (lo hi : Int) (k : Nat) : St := { fr := [(0, rowV l.length), (3, .pointer (some ⟨10, 0, none⟩)), (4, .pointer (some ⟨11, 0, none⟩)), (8, .pointer (some ⟨12, 0, none⟩)), (9, .bool false), (10, iv ((k : Int) - 1))], sz := 46, H := [(12, .cells [iv 0, iv 0] 76), (11, .cells [iv 0, iv 0] 76), (10, .cells [iv lo, iv hi] 74), (9, .row (pcs l) 3)], n := 13, marks := [], vs := [0, 3, 4, 8, 9, 10, 11] }
def T45 (l : List Pk) (lo hi : Int) (k j : Nat) : St := { fr := [(0, rowV l.length), (3, .pointer (some ⟨10, 0, none⟩)), (4, .pointer (some ⟨11, 0, none⟩)), (8, .pointer (some ⟨12, 0, none⟩)), (9, .bool false), (10, iv ((k : Int) - 1)), (11, iv j)], sz := 46, H := [(12, .cells [iv 0, iv 0] 76), (11, .cells [iv 0, iv 0] 76), (10, .cells [iv lo, iv hi] 74), (9, .row (pcs l) 3)], n := 13, marks := [], vs := [0, 3, 4, 8, 9, 10, 11] }
set_option maxRecDepth 20000 in
theorem w45 (l : List Pk) (lo hi : Int) (hl : l.length < 2 ^ 63) : AC Tryz.prog 45 [rowV l.length, ivl lo hi] (bH l) 10 (refV (refR l lo hi) (refE l lo hi)) (bH l) 10 := by
  have hr := recT_ok (P := Tryz.prog) (l := [(56, g56), (119, gBnd), (90, g90), (120, g120)]) (by simp [ok56, ok119, ok90, ok120])
  have hl' : l.length < 9223372036854775808 := by omega
  refine AC.pure Tryz.func45 rfl (by kernel_rfl) rfl [0, 3, 4, 8, 9, 10, 11] rfl ?_
  refine E.seq ?_
  refine E.reg hr (by simp; rfl) ?_ -- region 0
  refine E.scope ?_
  refine E.seq ?_
  refine E.seq ?_
  have hE : firstV [pksE l, bndE lo hi] = refE l lo hi := rfl
  refine E.drawC mixed hr [3, 4, 5] [1, 3, 4, 5] [1, 3, 4, 5] (by kernel_rfl) (by simp [g56, pksP, rowPks, rowOf, pksOf_pcs, hl', gBnd, g90, intsAt, intsOf, hE]; rfl) ?_ -- region 1
  refine E.seq ?_
  refine E.reg hr (by simp; rfl) ?_ -- region 2
  refine E.cond (by rfl) (fun h => ?_) (fun h => ?_)
  · simp at h
    refine E.seq ?_
    refine E.reg hr (by simp [build76n]; rfl) ?_ -- region 3
    refine E.ret ?_
    refine pureK.ret rfl (vs := [ivl 0 0, .bool false, iv (refE l lo hi)]) ?_ (by simp [one, refR, h, prA, prB]) (by repeat first | exact sub_refl _ | refine sub_cons rfl ?_)
    simp [resultsA, resultA, Tryz.f45, loadA]
  · simp at h
    have hR : refR l lo hi = seek l lo hi := by rw [refR, if_pos h]
    obtain ⟨hok, h64, hb⟩ := refE_ok h
    rw [h, hR]
    refine E.skip ?_
    refine E.seq ?_
    refine E.reg hr (by simp; rfl) ?_ -- region 4
    refine E.seq ?_
    refine E.reg hr (by simp; rfl) ?_ -- region 5
    refine E.seq ?_
    refine E.label ?_
    refine E.seq ?_
    refine E.seq ?_
    refine E.reg hr (by simp; rfl) ?_ -- region 6
    refine E.block ?_ -- 0
    refine E.loop ?_
    refine EL.ind (S45 l lo hi) (fun k => l.length + 1 - k) (fun k => k ≤ l.length + 1 ∧ srK l lo hi (l.length + 1 - k) k = seek l lo hi) 0 (Leads.ren [10, 11, 13] rfl rfl rfl ⟨rfl, rfl⟩ (by simp [S45]) (by simp [S45])) ⟨Nat.zero_le _, rfl⟩ (fun _ => rfl) ?_
    intro k ⟨hk, hg⟩
    refine E.seq ?_
    refine E.seq ?_
    refine E.reg hr (by simp [S45]; rfl) ?_ -- region 7
    refine E.cond (by rfl) (fun h => ?_) (fun h => ?_)
    · simp at h
      have hkl : k ≤ l.length := by omega
      have hwk : IntKind.i64.wrap (k : Int) = (k : Int) := W_in (by omega) (by omega)
      rw [show l.length + 1 - k = (l.length - k) + 1 by omega, srK] at hg
      refine E.skip ?_
      refine E.seq ?_
      refine E.block ?_ -- 1
      refine E.seq ?_
      refine E.reg hr (by simp [hwk]; rfl) ?_ -- region 9
      refine E.block ?_ -- 2
      refine E.loop ?_
      refine EL.ind (T45 l lo hi k) (fun j => l.length - j) (fun j => k ≤ j ∧ j ≤ l.length ∧ srJ l lo hi k (l.length - j) j = srJ l lo hi k (l.length - k) k) k (.less rfl rfl rfl (by simp [T45]) (by simp [T45])) ⟨Nat.le_refl _, hkl, rfl⟩ (fun _ => rfl) ?_
      intro j ⟨hkj, hj, hgj⟩
      have hwj : IntKind.i64.wrap ((j : Int) + 1) = (j : Int) + 1 := W_in (by omega) (by omega)
      refine E.seq ?_
      refine E.seq ?_
      refine E.reg hr (by simp [T45]; rfl) ?_ -- region 10
      refine E.cond (by rfl) (fun h2 => ?_) (fun h2 => ?_)
      · simp at h2
        have hjl : j < l.length := by omega
        rw [show l.length - j = (l.length - (j + 1)) + 1 by omega, srJ] at hgj
        have a1 := atOk_pred hok hkl
        have a2 := atOk_nat hok hjl
        have a3 := hok.pkA hkl
        have a4 := hok.pkA (show j + 1 ≤ l.length by omega)
        have p1 := pkI_pred l k
        have p2 := pkI_nat l j
        refine E.skip ?_
        refine E.seq ?_
        refine E.block ?_ -- 3
        refine E.seq ?_
        refine E.reg hr (by simp [g120, rowPks, rowOf, pksOf_pcs, hl', a1, a2, a3, a4, p1, p2, hb]; rfl) ?_ -- region 12
        refine E.cond (by rfl) (fun h3 => ?_) (fun h3 => ?_)
        · rw [if_pos h3] at hgj
          rw [← hgj] at hg
          refine E.seq ?_
          refine E.reg hr (by simp [build76 (a := (k : Int) - 1) (b := (j : Int))]; rfl) ?_ -- region 13
          refine E.exit ?_ -- 0
          refine E.seq ?_
          refine E.reg hr (by simp; rfl) ?_ -- region 14
          refine E.ret ?_
          refine pureK.ret rfl (vs := [ivl ((k : Int) - 1) j, .bool true, iv 0]) ?_ (by simp [one, ← hg, prA, prB]) (by repeat first | exact sub_refl _ | refine sub_cons rfl ?_)
          simp [resultsA, resultA, Tryz.f45, loadA]
        · rw [if_neg (by rw [h3]; simp)] at hgj
          refine E.skip ?_
          refine E.reg hr (by simp [hwj]; rfl) ?_ -- region 11
          exact ⟨j + 1, .less rfl rfl rfl (by simp [T45]) (by simp [T45]), ⟨by omega, by omega, hgj⟩, by dsimp only; omega⟩
      · simp at h2
        rw [show l.length - j = 0 by omega, srJ] at hgj
        rw [← hgj] at hg
        refine E.exit ?_ -- 2
        refine E.reg hr (by simp [hwk]; rfl) ?_ -- region 8
        refine ⟨k + 1, .less rfl rfl rfl (by simp [S45]) (by simp [S45]), ⟨by omega, ?_⟩, by dsimp only; omega⟩
        rw [show l.length + 1 - (k + 1) = l.length - k by omega]
        exact hg
    · simp at h
      rw [show l.length + 1 - k = 0 by omega, srK] at hg
      refine E.exit ?_ -- 0
      refine E.seq ?_
      refine E.reg hr (by simp; rfl) ?_ -- region 14
      refine E.ret ?_
      refine pureK.ret rfl (vs := [ivl 0 0, .bool false, iv 0]) ?_ (by simp [one, ← hg, prA, prB]) (by repeat first | exact sub_refl _ | refine sub_cons rfl ?_)
      simp [resultsA, resultA, Tryz.f45, loadA]
end Go.Proofs.YtkongcnmkiihjaaGreatDoor

namespace Go.Proofs.YtkongcnmkiihjaaGreatDoor
open Go Go.Ab Go.Proofs
theorem refR_nil (lo hi : Int) : refR [] lo hi = none := by
  unfold refR
  split <;> rfl
set_option maxRecDepth 20000 in
theorem w45n (lo hi : Int) : AC Tryz.prog 45 [.slice none 0 0, ivl lo hi] [] 9 (refV (refR [] lo hi) (refE [] lo hi)) [] 9 := by
  have hr := recT_ok (P := Tryz.prog) (l := [(56, g56), (119, gBnd), (90, g90)]) (by simp [ok56, ok119, ok90])
  refine AC.pure Tryz.func45 rfl (by kernel_rfl) rfl [0, 3, 4, 8, 9, 10, 11] rfl ?_
  rw [refR_nil]
  refine E.seq ?_
  refine E.reg hr (by simp; rfl) ?_ -- region 0
  refine E.scope ?_
  refine E.seq ?_
  refine E.seq ?_
  have hE : firstV [pksE [], bndE lo hi] = refE [] lo hi := rfl
  refine E.drawC mixed hr [3, 4, 5] [1, 3, 4, 5] [1, 3, 4, 5] (by kernel_rfl) (by simp [g56, pksP, gBnd, g90, intsAt, intsOf, hE]; rfl) ?_ -- region 1
  refine E.seq ?_
  refine E.reg hr (by simp; rfl) ?_ -- region 2
  refine E.cond (by rfl) (fun h => ?_) (fun h => ?_)
  · simp at h
    refine E.seq ?_
    refine E.reg hr (by simp [build76n]; rfl) ?_ -- region 3
    refine E.ret ?_
    refine pureK.ret rfl (vs := [ivl 0 0, .bool false, iv (refE [] lo hi)]) ?_ (by simp [one, prA, prB]) (by repeat first | exact sub_refl _ | refine sub_cons rfl ?_)
    simp [resultsA, resultA, Tryz.f45, loadA]
  · simp at h
    rw [h]
    refine E.skip ?_
    refine E.seq ?_
    refine E.reg hr (by simp; rfl) ?_ -- region 4
    refine E.seq ?_
    refine E.reg hr (by simp; rfl) ?_ -- region 5
    refine E.seq ?_
    refine E.label ?_
    refine E.seq ?_
    refine E.seq ?_
    refine E.reg hr (by simp; rfl) ?_ -- region 6
    refine E.block ?_ -- 0
    refine E.loop ?_
    refine EL.step ?_
    refine E.seq ?_
    refine E.seq ?_
    refine E.reg hr (by simp; rfl) ?_ -- region 7
    refine E.cond (t := true) (by simp) (fun _ => ?_) (fun h => by cases h)
    refine E.skip ?_
    refine E.seq ?_
    refine E.block ?_ -- 1
    refine E.seq ?_
    refine E.reg hr (by simp [show IntKind.i64.wrap 0 = 0 from W_in (by omega) (by omega)]; rfl) ?_ -- region 9
    refine E.block ?_ -- 2
    refine E.loop ?_
    refine EL.step ?_
    refine E.seq ?_
    refine E.seq ?_
    refine E.reg hr (by simp; rfl) ?_ -- region 10
    refine E.cond (t := false) (by simp) (fun h => by cases h) (fun _ => ?_)
    refine E.exit ?_ -- 2
    refine E.reg hr (by simp [show IntKind.i64.wrap 0 = 0 from W_in (by omega) (by omega)]; rfl) ?_ -- region 8
    refine EL.step ?_
    refine E.seq ?_
    refine E.seq ?_
    refine E.reg hr (by simp; rfl) ?_ -- region 7
    refine E.cond (t := false) (by simp) (fun h => by cases h) (fun _ => ?_)
    refine E.exit ?_ -- 0
    refine E.seq ?_
    refine E.reg hr (by simp; rfl) ?_ -- region 14
    refine E.ret ?_
    refine pureK.ret rfl (vs := [ivl 0 0, .bool false, iv 0]) ?_ (by simp [one, prA, prB]) (by repeat first | exact sub_refl _ | refine sub_cons rfl ?_)
    simp [resultsA, resultA, Tryz.f45, loadA]
def g45 (args : List Value) (H : Heap) (n : Nat) : R := match args with
  | [t, .agg ⟨[.int .i64 lo, .int .i64 hi]⟩] => (pksP H t).map fun l => (refV (refR l lo hi) (refE l lo hi), H, n)
  | _ => none
theorem bnd_den {lo hi : Int} : ∀ (φ φ0 : Vl) (a a0 : Value), den φ0 a0 = den φ a → denL φ0 [a0, ivl lo hi] = denL φ [a, ivl lo hi] := fun φ φ0 a a0 h => by simp [denL, den, h]
theorem bnd_sc {lo hi : Int} : ∀ (p : Nat → Prop) (a : Value), sc p a → scL p [a, ivl lo hi] := fun _ _ h => ⟨h, ⟨trivial, trivial, trivial⟩, trivial⟩
theorem ok45 : EntOk Tryz.prog (45, g45) := by
  intro args H n v H' n' h
  simp only [g45] at h
  split at h
  · rw [Option.map_eq_some_iff] at h
    obtain ⟨l, h1, h⟩ := h
    injection h with e1 e2; injection e2 with e2 e3; subst e1 e2 e3
    unfold pksP at h1
    split at h1
    · injection h1 with h1; subst h1
      exact AC.liftP (by simp) (Part.plain (by simp) [] (by simp [Seen]) gsz ⟨_, _, w45n _ _⟩)
    · obtain ⟨hb, rfl, hlt⟩ := rowPks_ok h1
      exact AC.liftP (by simp) (Part.row (fun x => [x, ivl _ _]) bnd_den bnd_sc hb (afL_pcs l) gsz ⟨_, _, w45 l _ _ hlt⟩)
    · cases h1
  · cases h
end Go.Proofs.YtkongcnmkiihjaaGreatDoor

namespace Go.Proofs.YtkongcnmkiihjaaGreatDoor
open Go Go.Ab Go.Proofs
/-! ### the same by the reference -/
abbrev inpV (o k c : Nat) : Value := .slice (some ⟨9, o, none⟩) k c
abbrev skV (r : Option (Nat × Nat)) : Value := .tuple #[ivl (prA r) (prB r), .bool r.isSome]
def S52 (l : List Pk) (o c : Nat) (lo hi : Int) (k : Nat) : St := { fr := [(0, inpV o l.length c), (3, .pointer (some ⟨10, 0, none⟩)), (4, .pointer (some ⟨11, 0, none⟩)), (6, iv ((k : Int) - 1))], sz := 60, H := [(11, .cells [iv 0, iv 0] 76), (10, .cells [iv lo, iv hi] 74), (9, .inp o (pcs l))], n := 12, marks := [], vs := [0, 3, 4, 6, 7] }
def T52 (l : List Pk) (o c : Nat) (lo hi : Int) (k j : Nat) : St := { fr := [(0, inpV o l.length c), (3, .pointer (some ⟨10, 0, none⟩)), (4, .pointer (some ⟨11, 0, none⟩)), (6, iv ((k : Int) - 1)), (7, iv j)], sz := 60, H := [(11, .cells [iv 0, iv 0] 76), (10, .cells [iv lo, iv hi] 74), (9, .inp o (pcs l))], n := 12, marks := [], vs := [0, 3, 4, 6, 7] }
set_option maxRecDepth 20000 in
theorem w52 (l : List Pk) (o c : Nat) (lo hi : Int) (hok : PksOk l) (h64 : l.length ≤ 64) (hb : BndIn lo hi) : AC Tryz.prog 52 [inpV o l.length c, ivl lo hi] [(9, .inp o (pcs l))] 10 (skV (seek l lo hi)) [(9, .inp o (pcs l))] 10 := by
  have hr := recT_ok (P := Tryz.prog) (l := [(125, g125), (126, g126), (127, g127)]) (by simp [ok125, ok126, ok127])
  have hl' : l.length < 9223372036854775808 := by omega
  have ht : List.take (l.length * 3) (pcs l) = pcs l := List.take_of_length_le (by simp)
  refine AC.pure Tryz.func52 rfl (by kernel_rfl) rfl [0, 3, 4, 6, 7] rfl ?_
  refine E.seq ?_
  refine E.reg hr (by simp; rfl) ?_ -- region 0
  refine E.seq ?_
  refine E.seq ?_
  refine E.reg hr (by simp; rfl) ?_ -- region 1
  refine E.block ?_ -- 0
  refine E.loop ?_
  refine EL.ind (S52 l o c lo hi) (fun k => l.length + 1 - k) (fun k => k ≤ l.length + 1 ∧ srK l lo hi (l.length + 1 - k) k = seek l lo hi) 0 (Leads.ren [10, 11] rfl rfl rfl ⟨rfl, rfl⟩ (by simp [S52]) (by simp [S52])) ⟨Nat.zero_le _, rfl⟩ (fun _ => rfl) ?_
  intro k ⟨hk, hg⟩
  refine E.seq ?_
  refine E.seq ?_
  refine E.reg hr (by simp [S52]; rfl) ?_ -- region 2
  refine E.cond (by rfl) (fun h => ?_) (fun h => ?_)
  · simp at h
    have hkl : k ≤ l.length := by omega
    have hwk : IntKind.i64.wrap (k : Int) = (k : Int) := W_in (by omega) (by omega)
    rw [show l.length + 1 - k = (l.length - k) + 1 by omega, srK] at hg
    refine E.skip ?_
    refine E.seq ?_
    refine E.block ?_ -- 1
    refine E.seq ?_
    refine E.reg hr (by simp [hwk]; rfl) ?_ -- region 4
    refine E.block ?_ -- 2
    refine E.loop ?_
    refine EL.ind (T52 l o c lo hi k) (fun j => l.length - j) (fun j => k ≤ j ∧ j ≤ l.length ∧ srJ l lo hi k (l.length - j) j = srJ l lo hi k (l.length - k) k) k (.less rfl rfl rfl (by simp [T52]) (by simp [T52])) ⟨Nat.le_refl _, hkl, rfl⟩ (fun _ => rfl) ?_
    intro j ⟨hkj, hj, hgj⟩
    have hwj : IntKind.i64.wrap ((j : Int) + 1) = (j : Int) + 1 := W_in (by omega) (by omega)
    refine E.seq ?_
    refine E.seq ?_
    refine E.reg hr (by simp [T52]; rfl) ?_ -- region 5
    refine E.cond (by rfl) (fun h2 => ?_) (fun h2 => ?_)
    · simp at h2
      have hjl : j < l.length := by omega
      rw [show l.length - j = (l.length - (j + 1)) + 1 by omega, srJ] at hgj
      have a1 := atOk_pred hok hkl
      have a2 := atOk_nat hok hjl
      have p1 := pkI_pred l k
      have p2 := pkI_nat l j
      obtain ⟨x1, x2, ⟨x3, x4⟩, x5, x6⟩ := hok.pkA hkl
      obtain ⟨y1, y2, ⟨y3, y4⟩, y5, y6⟩ := hok.pkA (show j + 1 ≤ l.length by omega)
      generalize pkA l k = x at *
      generalize pkA l (j + 1) = y at *
      obtain ⟨b1, b2, b3, b4, b5⟩ := hb
      have m1 := mul_in2 b3 b4 (show -1024 ≤ y.t - x.t by omega) (by omega)
      have m2 := mul_in2 b1 b2 (show -1024 ≤ y.t - x.t by omega) (by omega)
      have e0 : IntKind.i64.wrap (y.t - x.t) = y.t - x.t := W_in (by omega) (by omega)
      have e1 : IntKind.i64.wrap (hi * (y.t - x.t)) = hi * (y.t - x.t) := W_in (by omega) (by omega)
      have e2 : IntKind.i64.wrap (x.high + hi * (y.t - x.t)) = x.high + hi * (y.t - x.t) := W_in (by omega) (by omega)
      have e3 : IntKind.i64.wrap (lo * (y.t - x.t)) = lo * (y.t - x.t) := W_in (by omega) (by omega)
      have e4 : IntKind.i64.wrap (x.low + lo * (y.t - x.t)) = x.low + lo * (y.t - x.t) := W_in (by omega) (by omega)
      refine E.skip ?_
      refine E.seq ?_
      refine E.block ?_ -- 3
      refine E.seq ?_
      refine E.reg hr (by simp [g125, pksAt, flat, ht, pksOf_pcs, hl', a1, a2, p1, p2, e0]; rfl) ?_ -- region 7
      refine E.seq ?_
      by_cases hc : x.high + hi * (y.t - x.t) < y.low
      · have hcon : conP x y lo hi = true := by simp [conP, hc]
        refine E.drawC mixed hr [] [2, 5, 15, 18] [2, 5, 15, 18] (by kernel_rfl) (by simp [yieldedA, g126, g127, pksAt, flat, ht, pksOf_pcs, hl', a1, a2, p1, p2, e1, e2, hc]; rfl) ?_ -- region 8
        rw [if_pos hcon] at hgj
        rw [← hgj] at hg
        refine E.cond (t := true) (by simp) (fun _ => ?_) (fun h => by cases h)
        refine E.seq ?_
        refine E.reg hr (by simp [build76 (a := (k : Int) - 1) (b := (j : Int))]; rfl) ?_ -- region 9
        refine E.ret ?_
        refine pureK.ret rfl (vs := [ivl ((k : Int) - 1) j, .bool true]) ?_ (by simp [one, ← hg, prA, prB]) (by repeat first | exact sub_refl _ | refine sub_cons rfl ?_)
        simp [resultsA, resultA, Tryz.f52, loadA]
      · refine E.drawC mixed hr [] [2, 5, 15, 18] [2, 5, 15, 18] (by kernel_rfl) (by simp [yieldedA, g126, g127, pksAt, flat, ht, pksOf_pcs, hl', a1, a2, p1, p2, e1, e2, e3, e4, hc]; rfl) ?_ -- region 8
        by_cases hd : y.high < x.low + lo * (y.t - x.t)
        · have hcon : conP x y lo hi = true := by simp [conP, hd]
          rw [if_pos hcon] at hgj
          rw [← hgj] at hg
          refine E.cond (t := true) (by simp [hd]) (fun _ => ?_) (fun h => by cases h)
          refine E.seq ?_
          refine E.reg hr (by simp [build76 (a := (k : Int) - 1) (b := (j : Int))]; rfl) ?_ -- region 9
          refine E.ret ?_
          refine pureK.ret rfl (vs := [ivl ((k : Int) - 1) j, .bool true]) ?_ (by simp [one, ← hg, prA, prB]) (by repeat first | exact sub_refl _ | refine sub_cons rfl ?_)
          simp [resultsA, resultA, Tryz.f52, loadA]
        · have hcon : ¬ conP x y lo hi = true := by simp [conP, hc, hd]
          rw [if_neg hcon] at hgj
          refine E.cond (t := false) (by simp [hd]) (fun h => by cases h) (fun _ => ?_)
          refine E.skip ?_
          refine E.reg hr (by simp [hwj]; rfl) ?_ -- region 6
          exact ⟨j + 1, .less rfl rfl rfl (by simp [T52]) (by simp [T52]), ⟨by omega, by omega, hgj⟩, by dsimp only; omega⟩
    · simp at h2
      rw [show l.length - j = 0 by omega, srJ] at hgj
      rw [← hgj] at hg
      refine E.exit ?_ -- 2
      refine E.reg hr (by simp [hwk]; rfl) ?_ -- region 3
      refine ⟨k + 1, .less rfl rfl rfl (by simp [S52]) (by simp [S52]), ⟨by omega, ?_⟩, by dsimp only; omega⟩
      rw [show l.length + 1 - (k + 1) = l.length - k by omega]
      exact hg
  · simp at h
    rw [show l.length + 1 - k = 0 by omega, srK] at hg
    refine E.exit ?_ -- 0
    refine E.seq ?_
    refine E.reg hr (by simp [build76n]; rfl) ?_ -- region 10
    refine E.ret ?_
    refine pureK.ret rfl (vs := [ivl 0 0, .bool false]) ?_ (by simp [one, ← hg, prA, prB]) (by repeat first | exact sub_refl _ | refine sub_cons rfl ?_)
    simp [resultsA, resultA, Tryz.f52, loadA]
set_option maxRecDepth 20000 in
theorem w52n (lo hi : Int) : AC Tryz.prog 52 [.slice none 0 0, ivl lo hi] [] 9 (skV none) [] 9 := by
  have hr := recT_ok (P := Tryz.prog) (l := []) (by simp)
  refine AC.pure Tryz.func52 rfl (by kernel_rfl) rfl [0, 3, 4, 6, 7] rfl ?_
  refine E.seq ?_
  refine E.reg hr (by simp; rfl) ?_ -- region 0
  refine E.seq ?_
  refine E.seq ?_
  refine E.reg hr (by simp; rfl) ?_ -- region 1
  refine E.block ?_ -- 0
  refine E.loop ?_
  refine EL.step ?_
  refine E.seq ?_
  refine E.seq ?_
  refine E.reg hr (by simp; rfl) ?_ -- region 2
  refine E.cond (t := true) (by simp) (fun _ => ?_) (fun h => by cases h)
  refine E.skip ?_
  refine E.seq ?_
  refine E.block ?_ -- 1
  refine E.seq ?_
  refine E.reg hr (by simp [show IntKind.i64.wrap 0 = 0 from W_in (by omega) (by omega)]; rfl) ?_ -- region 4
  refine E.block ?_ -- 2
  refine E.loop ?_
  refine EL.step ?_
  refine E.seq ?_
  refine E.seq ?_
  refine E.reg hr (by simp; rfl) ?_ -- region 5
  refine E.cond (t := false) (by simp) (fun h => by cases h) (fun _ => ?_)
  refine E.exit ?_ -- 2
  refine E.reg hr (by simp [show IntKind.i64.wrap 0 = 0 from W_in (by omega) (by omega)]; rfl) ?_ -- region 3
  refine EL.step ?_
  refine E.seq ?_
  refine E.seq ?_
  refine E.reg hr (by simp; rfl) ?_ -- region 2
  refine E.cond (t := false) (by simp) (fun h => by cases h) (fun _ => ?_)
  refine E.exit ?_ -- 0
  refine E.seq ?_
  refine E.reg hr (by simp [build76n]; rfl) ?_ -- region 10
  refine E.ret ?_
  refine pureK.ret rfl (vs := [ivl 0 0, .bool false]) ?_ (by simp [one, prA, prB]) (by repeat first | exact sub_refl _ | refine sub_cons rfl ?_)
  simp [resultsA, resultA, Tryz.f52, loadA]
def g52 (args : List Value) (H : Heap) (n : Nat) : R := match args with
  | [t, .agg ⟨[.int .i64 lo, .int .i64 hi]⟩] => match pksR H t with
    | some l => if refE l lo hi = 0 then some (skV (seek l lo hi), H, n) else none
    | none => none
  | _ => none
theorem seek_nil (lo hi : Int) : seek [] lo hi = none := rfl
theorem ok52 : EntOk Tryz.prog (52, g52) := by
  intro args H n v H' n' h
  simp only [g52] at h
  split at h
  · split at h
    · rename_i l h1
      split at h
      · rename_i hz
        injection h with h; injection h with e1 e2; injection e2 with e2 e3; subst e1 e2 e3
        obtain ⟨a, b, c⟩ := refE_ok hz
        unfold pksR at h1
        split at h1
        · injection h1 with h1; subst h1
          rw [seek_nil]
          exact AC.liftP (by simp) (Part.plain (by simp) [] (by simp [Seen]) gsz ⟨_, _, w52n _ _⟩)
        · obtain ⟨hf, hc, rfl, hlt⟩ := pksAt_ok h1
          exact AC.liftP (by simp) (Part.one (fun x => [x, ivl _ _]) bnd_den bnd_sc hf hc (afL_pcs l) [] (by simp [Seen]) gsz fun c0 => ⟨_, _, w52 l _ c0 _ _ a b c⟩)
        · cases h1
      · cases h
    · cases h
  · cases h
end Go.Proofs.YtkongcnmkiihjaaGreatDoor
