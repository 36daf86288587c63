/-
The walks of picks, their checks and the search for a contradiction, by the program and by the reference: both return the same (each a contract: no condition but those in its statement).
-/
import Derived.Test.YtkongcnmkiihjaaGreatDoorYd
namespace Go.Proofs.YtkongcnmkiihjaaGreatDoor
open Go Go.Ab Go.Proofs
@[simp] theorem inf160 : Tryz.prog.info? 160 = some Tryz.t160 := by kernel_rfl
@[simp] theorem inf96 : Tryz.prog.info? 96 = some Tryz.t96 := by kernel_rfl
attribute [simp] Tryz.t160 Tryz.t96
/-- a pick, as both programs hold it: three cells -/
structure Pk where
  t : Int
  q : Int
  e : Int
abbrev Pk.cells (p : Pk) : List Value := [iv p.t, iv p.q, iv p.e]
def pcs (l : List Pk) : List Value := l.flatMap Pk.cells
def pksOf : List Value → Option (List Pk)
  | [] => some []
  | .int .i64 t :: .int .i64 q :: .int .i64 e :: vs => (pksOf vs).map (⟨t, q, e⟩ :: ·)
  | _ => none
theorem pksOf_ok (cs : List Value) : ∀ l, pksOf cs = some l → cs = pcs l := by
  fun_induction pksOf cs with
  | case1 => intro l h; injection h with h; subst h; rfl
  | case2 t q e vs ih =>
    intro l h
    rw [Option.map_eq_some_iff] at h
    obtain ⟨l', h1, h2⟩ := h
    subst h2
    rw [ih _ h1]
    simp [pcs]
  | case3 => intro l h; cases h
theorem pksOf_pcs (l : List Pk) : pksOf (pcs l) = some l := by
  induction l with
  | nil => rfl
  | cons g l ih =>
    show pksOf (g.cells ++ pcs l) = _
    simp only [Pk.cells, List.cons_append, List.nil_append, pksOf, ih]
    rfl
@[simp] theorem pcs_length (l : List Pk) : (pcs l).length = l.length * 3 := by
  induction l with
  | nil => rfl
  | cons g l ih =>
    show (g.cells ++ pcs l).length = _
    rw [List.length_append, ih]
    simp
    omega
theorem afL_pcs (l : List Pk) : afL (pcs l) = true := by
  induction l with
  | nil => rfl
  | cons g l ih =>
    show afL (g.cells ++ pcs l) = true
    simp [Pk.cells, afL, ih]
@[simp] theorem renL_pcs (ρ : Nat → Nat) (l : List Pk) : renL ρ (pcs l) = pcs l := by
  rw [renL_eq]
  induction l with
  | nil => rfl
  | cons g l ih =>
    show (g.cells ++ pcs l).map (ren ρ) = g.cells ++ pcs l
    rw [List.map_append, ih]
    rfl
@[simp] theorem scL_pcs (p : Nat → Prop) (l : List Pk) : scL p (pcs l) := scL_af p _ (afL_pcs l)
theorem pcs_drop (l : List Pk) : ∀ i, (pcs l).drop (i * 3) = pcs (l.drop i) := by
  induction l with
  | nil => intro i; simp [pcs]
  | cons g l ih =>
    intro i
    cases i with
    | zero => simp
    | succ i =>
      rw [List.drop_succ_cons, ← ih i, show (i + 1) * 3 = i * 3 + 3 by omega]
      show (g.cells ++ pcs l).drop (i * 3 + 3) = _
      rw [show i * 3 + 3 = g.cells.length + i * 3 by simp; omega, List.drop_append]
      simp
theorem pcs_at {l : List Pk} {i : Nat} (h : i < l.length) : (pcs l).drop (i * 3) = l[i].cells ++ pcs (l.drop (i + 1)) := by
  rw [pcs_drop, List.drop_eq_getElem_cons h]
  rfl
theorem pcs_get {l : List Pk} {i : Nat} (h : i < l.length) (k : Nat) (hk : k < 3) : (pcs l)[i * 3 + k]? = l[i].cells[k]? := by
  have := congrArg (·[k]?) (pcs_at h)
  simp only [List.getElem?_drop] at this
  rw [this, List.getElem?_append_left (by simpa using hk)]
theorem pcs_take {l : List Pk} {i : Nat} (h : i < l.length) : ((pcs l).drop (i * 3)).take 3 = l[i].cells := by
  rw [pcs_at h, List.take_append_of_le_length (by simp)]
  rfl
/-- a slice of picks with a block -/
def pksAt (H : Heap) (a : Addr) (len : Nat) : Option (List Pk) := if flat a && Nat.blt len 9223372036854775808 then (cellsA H a.block a.off (len * 3)).bind pksOf else none
theorem pksAt_ok {H : Heap} {a : Addr} {len : Nat} {l : List Pk} (h : pksAt H a len = some l) : flat a = true ∧ cellsA H a.block a.off (len * 3) = some (pcs l) ∧ l.length = len ∧ l.length < 2 ^ 63 := by
  unfold pksAt at h
  split at h
  · rename_i hf
    rw [Bool.and_eq_true] at hf
    rw [Option.bind_eq_some_iff] at h
    obtain ⟨cs, h1, h2⟩ := h
    have h3 := pksOf_ok _ _ h2
    subst h3
    have h4 := (cellsA_at h1).1
    rw [pcs_length] at h4
    exact ⟨hf.1, h1, by omega, by have := (blt_iff _ _).1 hf.2; omega⟩
  · cases h
theorem pcs_tE {l : List Pk} {i : Nat} (h : i < l.length) (h2 : i * 3 < (pcs l).length) : (pcs l)[i * 3] = iv l[i].t := by
  have := pcs_get h 0 (by omega)
  rw [Nat.add_zero, List.getElem?_eq_getElem h2] at this
  exact Option.some.inj this
theorem pcs_qE {l : List Pk} {i : Nat} (h : i < l.length) (h2 : i * 3 + 1 < (pcs l).length) : (pcs l)[i * 3 + 1] = iv l[i].q := by
  have := pcs_get h 1 (by omega)
  rw [List.getElem?_eq_getElem h2] at this
  exact Option.some.inj this
theorem pcs_eE {l : List Pk} {i : Nat} (h : i < l.length) (h2 : i * 3 + 2 < (pcs l).length) : (pcs l)[i * 3 + 2] = iv l[i].e := by
  have := pcs_get h 2 (by omega)
  rw [List.getElem?_eq_getElem h2] at this
  exact Option.some.inj this
theorem pcs_succ {l : List Pk} {i : Nat} (h : i < l.length) : pcs (l.take (i + 1)) = pcs (l.take i) ++ l[i].cells := by
  rw [List.take_succ_eq_append_getElem h]
  simp only [pcs, List.flatMap_append, List.flatMap_cons, List.flatMap_nil, List.append_nil]
/-- picks as they are handed: absent, or a slice -/
def pksR (H : Heap) : Value → Option (List Pk)
  | .slice none 0 0 => some []
  | .slice (some a) len _ => pksAt H a len
  | _ => none
/-- picks of one's own: absent, or a slice with room -/
def rowPks (H : Heap) (b len : Nat) : Option (List Pk) := match rowOf H b with
  | some (cs, 3) => match pksOf cs with
    | some l => if len = l.length ∧ len < 2 ^ 63 then some l else none
    | none => none
  | _ => none
theorem rowPks_ok {H : Heap} {b len : Nat} {l : List Pk} (h : rowPks H b len = some l) : rowOf H b = some (pcs l, 3) ∧ len = l.length ∧ l.length < 2 ^ 63 := by
  unfold rowPks at h
  split at h
  · rename_i cs hb
    split at h
    · rename_i l' hl
      split at h
      · rename_i hc
        injection h with h; subst h
        have := pksOf_ok _ _ hl
        subst this
        exact ⟨hb, hc.1, hc.1 ▸ hc.2⟩
      · cases h
    · cases h
  · cases h
def pksP (H : Heap) : Value → Option (List Pk)
  | .slice none 0 0 => some []
  | .slice (some ⟨b, 0, some 0⟩) len 0 => rowPks H b len
  | _ => none
end Go.Proofs.YtkongcnmkiihjaaGreatDoor

namespace Go.Proofs.YtkongcnmkiihjaaGreatDoor
open Go Go.Ab Go.Proofs
def S46 (l : List Pk) (o c : Nat) : Nat → St
  | 0 => { fr := [(3, .slice none 0 0), (6, .slice (some ⟨9, o, none⟩) l.length c), (7, iv l.length), (8, iv 0)], sz := 18, H := [(9, .inp o (pcs l))], n := 10, marks := [], vs := [3, 6, 7, 8] }
  | i + 1 => { fr := [(3, .slice (some ⟨10, 0, some 0⟩) (i + 1) 0), (6, .slice (some ⟨9, o, none⟩) l.length c), (7, iv l.length), (8, iv (i + 1 : Nat))], sz := 18, H := [(10, .ext (pcs (l.take (i + 1))) 160 3), (9, .inp o (pcs l))], n := 11, marks := [], vs := [3, 6, 7, 8] }
def tmsQ (l : List Pk) (v : Value) (H : Heap) : Prop := ∃ m, v = .slice (some ⟨m, 0, some 0⟩) l.length 0 ∧ hget H m = some (.ext (pcs l) 160 3) ∧ 10 ≤ m
set_option maxRecDepth 100000 in
theorem w46 (l : List Pk) (o c : Nat) (hne : l ≠ []) (hl : l.length ≤ 4096) : ∃ u H1 n1 H2, AC Tryz.prog 46 [.slice (some ⟨9, o, none⟩) l.length c] [(9, .inp o (pcs l))] 10 u H1 n1 ∧ tmsQ l u H2 ∧ (af u = false → H1 = H2) := by
  have hr := recT_ok (P := Tryz.prog) (l := []) (by simp)
  have hpos : 0 < l.length := List.length_pos_iff.2 hne
  refine AC.out Tryz.func46 rfl (by kernel_rfl) rfl [3, 6, 7, 8] ?_
  refine E.seq ?_
  refine E.reg hr (by simp; rfl) ?_
  refine E.seq ?_
  refine E.reg hr (by simp; rfl) ?_
  refine E.seq ?_
  refine E.seq ?_
  refine E.reg hr (by simp; rfl) ?_
  refine E.block ?_
  refine E.loop ?_
  refine EL.ind (S46 l o c) (fun i => l.length - i) (fun i => i ≤ l.length) 0 (.less rfl rfl rfl (by simp [S46]) (by simp [S46])) (Nat.zero_le _) (fun i => by cases i <;> rfl) ?_
  intro i hi
  rcases i with _ | i
  · have hw : IntKind.i64.wrap 1 = 1 := W_in (by omega) (by omega)
    refine E.seq ?_
    refine E.reg hr (by simp [S46]; rfl) ?_
    refine E.seq ?_
    refine E.cond (by rfl) (fun h => ?_) (fun h => ?_)
    · simp at h
      have hx := pcs_take hpos
      have hts : pcs (l.take 1) = l[0].cells := by rw [pcs_succ hpos]; simp [pcs]
      have h7 : 3 ≤ l.length * 3 := by omega
      rw [Nat.zero_mul, List.drop_zero] at hx
      refine E.skip ?_
      refine E.seq ?_
      refine E.block ?_
      refine E.seq ?_
      refine E.reg hr (by simp [hx, hpos, h7, Pk.cells]; rfl) ?_
      refine E.reg hr (by simp; rfl) ?_
      refine E.reg hr (by simp [hw]; rfl) ?_
      exact ⟨1, Leads.ren [12] rfl rfl rfl ⟨rfl, rfl⟩ (by simp [S46]) (by simp [S46, hts]), by omega, by dsimp only; omega⟩
    · simp at h
      exact absurd h hne
  · have hw : IntKind.i64.wrap ((i : Int) + 1 + 1) = (i : Int) + 1 + 1 := W_in (by omega) (by omega)
    have hlen : (pcs (l.take (i + 1))).length = (i + 1) * 3 := by rw [pcs_length, List.length_take, Nat.min_eq_left hi]
    have ht : List.take ((i + 1) * 3) (pcs (l.take (i + 1))) = pcs (l.take (i + 1)) := List.take_of_length_le (by omega)
    refine E.seq ?_
    refine E.reg hr (by simp [S46]; rfl) ?_
    refine E.seq ?_
    refine E.cond (by rfl) (fun h => ?_) (fun h => ?_)
    · simp at h
      have hlt : i + 1 < l.length := by omega
      have hltI : (i : Int) + 1 < l.length := by omega
      have hx := pcs_take hlt
      have hts := pcs_succ hlt
      have h7 : (i + 1) * 3 + 3 ≤ l.length * 3 := by omega
      have hno : ¬ (i + 1 + 1) * 3 ≤ (i + 1) * 3 := by omega
      have hsm : (i + 1 + 1) * 24 ≤ 1099511627776 ∧ (i + 1 + 1) * 3 ≤ 1099511627776 ∧ i + 1 + 1 ≤ 1099511627776 := by omega
      refine E.skip ?_
      refine E.seq ?_
      refine E.block ?_
      refine E.seq ?_
      refine E.reg hr (by simp [hx, hltI, h7, Pk.cells]; rfl) ?_
      refine E.reg hr (by simp [hsm, ht, hlen, hno]; rfl) ?_
      refine E.reg hr (by simp [hw]; rfl) ?_
      exact ⟨i + 2, Leads.ren [13] rfl rfl rfl ⟨rfl, rfl⟩ (by simp [S46]) (by simp [S46, hts]), by omega, by dsimp only; omega⟩
    · simp at h
      have hal : l.take (i + 1) = l := List.take_of_length_le (by omega)
      have hll : l.length = i + 1 := by omega
      refine E.exit ?_
      refine E.seq ?_
      refine E.reg hr (by simp; rfl) ?_
      refine E.ret ?_
      refine outK.ret rfl rfl ?_
      simp [tmsQ, hal, hll]
theorem w46e (o c : Nat) : AC Tryz.prog 46 [.slice (some ⟨9, o, none⟩) 0 c] [(9, .inp o (pcs []))] 10 (.slice none 0 0) [(9, .inp o (pcs []))] 10 := by
  have hr := recT_ok (P := Tryz.prog) (l := []) (by simp)
  refine AC.pure Tryz.func46 rfl (by kernel_rfl) rfl [3, 6, 7, 8] rfl ?_
  refine E.seq ?_
  refine E.reg hr (by simp; rfl) ?_
  refine E.seq ?_
  refine E.reg hr (by simp; rfl) ?_
  refine E.seq ?_
  refine E.seq ?_
  refine E.reg hr (by simp; rfl) ?_
  refine E.block ?_
  refine E.loop ?_
  refine EL.step ?_
  refine E.seq ?_
  refine E.reg hr (by simp; rfl) ?_
  refine E.seq ?_
  refine E.cond (by rfl) (fun h => ?_) (fun h => ?_)
  · simp at h
  refine E.exit ?_
  refine E.seq ?_
  refine E.reg hr (by simp; rfl) ?_
  refine E.ret ?_
  exact pureK.ret rfl rfl (by simp) (by repeat first | exact sub_refl _ | refine sub_cons rfl ?_)
theorem w46n : AC Tryz.prog 46 [.slice none 0 0] [] 9 (.slice none 0 0) [] 9 := by
  have hr := recT_ok (P := Tryz.prog) (l := []) (by simp)
  refine AC.pure Tryz.func46 rfl (by kernel_rfl) rfl [3, 6, 7, 8] rfl ?_
  refine E.seq ?_
  refine E.reg hr (by simp; rfl) ?_
  refine E.seq ?_
  refine E.reg hr (by simp; rfl) ?_
  refine E.seq ?_
  refine E.seq ?_
  refine E.reg hr (by simp; rfl) ?_
  refine E.block ?_
  refine E.loop ?_
  refine EL.step ?_
  refine E.seq ?_
  refine E.reg hr (by simp; rfl) ?_
  refine E.seq ?_
  refine E.cond (by rfl) (fun h => ?_) (fun h => ?_)
  · simp at h
  refine E.exit ?_
  refine E.seq ?_
  refine E.reg hr (by simp; rfl) ?_
  refine E.ret ?_
  exact pureK.ret rfl rfl (by simp) (by repeat first | exact sub_refl _ | refine sub_cons rfl ?_)
def g46 (args : List Value) (H : Heap) (n : Nat) : R := match args with
  | [v] => match pksR H v with
    | some l => if l = [] then some (.slice none 0 0, H, n) else if l.length ≤ 4096 then some (.slice (some ⟨n, 0, some 0⟩) l.length 0, (n, .ext (pcs l) 160 3) :: H, n + 1) else none
    | none => none
  | _ => none
theorem ok46 : EntOk Tryz.prog (46, g46) := by
  intro args H n v H' n' h'
  simp only [g46] at h'
  split at h'
  · rename_i x
    split at h'
    · rename_i l hx
      split at h'
      · rename_i hl
        subst hl
        injection h' with h'; injection h' with e1 e2; injection e2 with e2 e3; subst e1 e2 e3
        unfold pksR at hx
        split at hx
        · exact AC.liftP (by simp) (Part.plain (by simp) [] (by simp [Seen]) gsz ⟨_, _, w46n⟩)
        · obtain ⟨hf, hc, hlen, hlt⟩ := pksAt_ok hx
          subst hlen
          exact AC.liftP (by simp) (Part.one (fun s => [s]) (by intro φ φ0 s s0 h; simp [denL, h]) (by intro p s h; exact ⟨h, trivial⟩) hf hc (afL_pcs []) [] (by simp [Seen]) gsz fun c => ⟨_, _, w46e _ c⟩)
        · cases hx
      rename_i hne
      split at h'
      · rename_i hle
        injection h' with h'; injection h' with e1 e2; injection e2 with e2 e3; subst e1 e2 e3
        unfold pksR at hx
        split at hx
        · injection hx with hx; exact absurd hx.symm hne
        · obtain ⟨hf, hc, hlen, hlt⟩ := pksAt_ok hx
          subst hlen
          refine AC.liftF (names_sx _ _) (.inr ⟨_, _, _, rfl, afL_pcs l⟩) (Part.one (fun s => [s]) (by intro φ φ0 s s0 h; simp [denL, h]) (by intro p s h; exact ⟨h, trivial⟩) hf hc (afL_pcs l) [] (by simp [Seen]) gsz fun c => ?_)
          obtain ⟨u, H1, n1, H2, hAC, hq, hh⟩ := w46 l _ c hne hle
          obtain ⟨m, hv, hm, hle⟩ := hq
          subst hv
          have := hh rfl
          subst this
          exact ⟨m, _, _, hle, hm, hAC⟩
        · cases hx
      · cases h'
    · cases h'
  · cases h'
end Go.Proofs.YtkongcnmkiihjaaGreatDoor

namespace Go.Proofs.YtkongcnmkiihjaaGreatDoor
open Go Go.Ab Go.Proofs
def Pk.err (p : Pk) : Int := firstV [withinV p.t 1 1024, velV p.q, withinV p.e 0 1000000000]
theorem w129 (p : Pk) : AC Tryz.prog 129 [.agg ⟨p.cells⟩] [] 9 (iv p.err) [] 9 := by
  have hr := recT_ok (P := Tryz.prog) (l := [(91, g91), (92, g92), (90, g90)]) (by simp [ok91, ok92, ok90])
  refine AC.pure Tryz.func129 rfl (by kernel_rfl) rfl [] rfl ?_
  refine E.seq ?_
  refine E.reg hr (by simp; rfl) ?_
  refine E.seq ?_
  have hE : firstV [withinV p.t 1 1024, velV p.q, withinV p.e 0 1000000000] = p.err := rfl
  refine E.drawC mixed hr [8, 9, 10] [2, 5, 8, 9, 10] [1, 2, 5, 8, 9, 10] (by kernel_rfl) (by simp [g91, g92, g90, intsAt, intsOf, hE]; rfl) ?_
  refine E.ret ?_
  exact pureK.ret rfl rfl (by simp) (by repeat first | exact sub_refl _ | refine sub_cons rfl ?_)
def g129 (args : List Value) (H : Heap) (n : Nat) : R := match args with
  | [.agg ⟨[.int .i64 t, .int .i64 q, .int .i64 e]⟩] => some (.int .i64 (Pk.err ⟨t, q, e⟩), H, n)
  | _ => none
theorem ok129 : EntOk Tryz.prog (129, g129) := by
  intro args H n v H' n' h
  simp only [g129] at h
  split at h
  · injection h with h; injection h with e1 e2; injection e2 with e2 e3; subst e1 e2 e3
    exact AC.liftP rfl (Part.plain (by simp) [] (by simp [Seen]) gsz ⟨_, _, w129 ⟨_, _, _⟩⟩)
  · cases h
/-- a pick within its limits -/
def Pk.Ok (p : Pk) : Prop := 1 ≤ p.t ∧ p.t ≤ 1024 ∧ 1 ≤ p.q ∧ p.q ≤ 1000000000 ∧ 0 ≤ p.e ∧ p.e ≤ 1000000000
instance (p : Pk) : Decidable p.Ok := by unfold Pk.Ok; infer_instance
theorem Pk.err_zero {p : Pk} (h : p.err = 0) : p.Ok := by
  simp only [Pk.err, firstV, velV, withinV] at h
  by_cases h1 : p.t < 1 ∨ 1024 < p.t
  · simp [h1] at h
  by_cases h2 : p.q < 1 ∨ 1000000000 < p.q
  · simp [h1, h2] at h
  by_cases h3 : p.e < 0 ∨ 1000000000 < p.e
  · simp [h1, h2, h3] at h
  exact ⟨by omega, by omega, by omega, by omega, by omega, by omega⟩
def Pk.low (p : Pk) : Int := p.t * (p.q - p.e)
def Pk.high (p : Pk) : Int := p.t * (p.q + p.e)
theorem mul_in {t x : Int} (h1 : 0 ≤ t) (h2 : t ≤ 1024) (h3 : -2000000000 ≤ x) (h4 : x ≤ 2000000000) : -2048000000000 ≤ t * x ∧ t * x ≤ 2048000000000 := by
  have a : t * x ≤ t * 2000000000 := Int.mul_le_mul_of_nonneg_left h4 h1
  have b : t * (-2000000000) ≤ t * x := Int.mul_le_mul_of_nonneg_left h3 h1
  omega
theorem Pk.Ok.low {p : Pk} (h : p.Ok) : -2048000000000 ≤ p.low ∧ p.low ≤ 2048000000000 := by
  obtain ⟨h1, h2, h3, h4, h5, h6⟩ := h
  exact mul_in (by omega) h2 (by omega) (by omega)
theorem Pk.Ok.high {p : Pk} (h : p.Ok) : -2048000000000 ≤ p.high ∧ p.high ≤ 2048000000000 := by
  obtain ⟨h1, h2, h3, h4, h5, h6⟩ := h
  exact mul_in (by omega) h2 (by omega) (by omega)
end Go.Proofs.YtkongcnmkiihjaaGreatDoor

namespace Go.Proofs.YtkongcnmkiihjaaGreatDoor
open Go Go.Ab Go.Proofs
/-- the pick ahead of index 'k'; ahead of the first one the start -/
def pkA (l : List Pk) : Nat → Pk
  | 0 => ⟨0, 0, 0⟩
  | j + 1 => l.getD j ⟨0, 0, 0⟩
theorem pkA_succ {l : List Pk} {j : Nat} (h : j < l.length) : pkA l (j + 1) = l[j] := by simp [pkA, List.getD_eq_getElem?_getD, List.getElem?_eq_getElem h]
def Pk.At (p : Pk) : Prop := 0 ≤ p.t ∧ p.t ≤ 1024 ∧ (-2048000000000 ≤ p.low ∧ p.low ≤ 2048000000000) ∧ (-2048000000000 ≤ p.high ∧ p.high ≤ 2048000000000)
theorem Pk.Ok.at {p : Pk} (h : p.Ok) : p.At := ⟨by have := h.1; omega, h.2.1, h.low, h.high⟩
def PksOk (l : List Pk) : Prop := ∀ p ∈ l, p.Ok
theorem PksOk.get {l : List Pk} (h : PksOk l) {j : Nat} (hj : j < l.length) : l[j].Ok := h _ (List.getElem_mem hj)
theorem PksOk.pkA {l : List Pk} (h : PksOk l) {k : Nat} (hk : k ≤ l.length) : (pkA l k).At := by
  cases k with
  | zero => exact ⟨by simp [Go.Proofs.YtkongcnmkiihjaaGreatDoor.pkA], by simp [Go.Proofs.YtkongcnmkiihjaaGreatDoor.pkA], by simp [Go.Proofs.YtkongcnmkiihjaaGreatDoor.pkA, Pk.low], by simp [Go.Proofs.YtkongcnmkiihjaaGreatDoor.pkA, Pk.high]⟩
  | succ j => rw [pkA_succ (by omega)]; exact (h.get (by omega)).at
abbrev rowV (k : Nat) : Value := .slice (some ⟨9, 0, some 0⟩) k 0
end Go.Proofs.YtkongcnmkiihjaaGreatDoor

namespace Go.Proofs.YtkongcnmkiihjaaGreatDoor
open Go Go.Ab Go.Proofs
end Go.Proofs.YtkongcnmkiihjaaGreatDoor

namespace Go.Proofs.YtkongcnmkiihjaaGreatDoor
open Go Go.Ab Go.Proofs
def pstE (last : Int) (p : Pk) : Int := firstV [p.err, whenV (decide (p.t ≤ last)) 11]
def pfE : Int → List Pk → Int
  | _, [] => 0
  | last, p :: l => if pstE last p = 0 then pfE p.t l else pstE last p
def pksE (l : List Pk) : Int := if 64 < l.length then 5 else pfE 0 l
theorem pksE_nil : pksE [] = 0 := rfl
theorem w56n : AC Tryz.prog 56 [.slice none 0 0] [] 9 (iv 0) [] 9 := by
  have hr := recT_ok (P := Tryz.prog) (l := []) (by simp)
  refine AC.pure Tryz.func56 rfl (by kernel_rfl) rfl [3, 10, 11, 12] rfl ?_
  refine E.seq ?_
  refine E.reg hr (by simp; rfl) ?_
  refine E.seq ?_
  refine E.seq ?_
  refine E.reg hr (by simp; rfl) ?_
  refine E.cond (t := false) (by simp) (fun h => by cases h) (fun _ => ?_)
  refine E.skip ?_
  refine E.seq ?_
  refine E.reg hr (by simp; rfl) ?_
  refine E.seq ?_
  refine E.seq ?_
  refine E.reg hr (by simp; rfl) ?_
  refine E.block ?_
  refine E.loop ?_
  refine EL.step ?_
  refine E.seq ?_
  refine E.reg hr (by simp; rfl) ?_
  refine E.seq ?_
  refine E.cond (t := false) (by simp) (fun h => by cases h) (fun _ => ?_)
  refine E.exit ?_
  refine E.seq ?_
  refine E.reg hr (by simp; rfl) ?_
  refine E.ret ?_
  exact pureK.ret rfl rfl (by simp) (by repeat first | exact sub_refl _ | refine sub_cons rfl ?_)
theorem w56 (l : List Pk) (k : Nat) (hk : l.length = k) (hl : k < 2 ^ 63) : AC Tryz.prog 56 [rowV k] [(9, .row (pcs l) 3)] 10 (iv (pksE l)) [(9, .row (pcs l) 3)] 10 := by
  have hr := recT_ok (P := Tryz.prog) (l := [(129, g129), (96, g96), (90, g90)]) (by simp [ok129, ok96, ok90])
  refine AC.pure Tryz.func56 rfl (by kernel_rfl) rfl [3, 10, 11, 12] rfl ?_
  refine E.seq ?_
  refine E.reg hr (by simp; rfl) ?_
  refine E.seq ?_
  refine E.seq ?_
  refine E.reg hr (by simp; rfl) ?_
  refine E.cond (by rfl) (fun h => ?_) (fun h => ?_)
  · simp at h
    have h' : 64 < l.length := by omega
    refine E.seq ?_
    refine E.reg hr (by simp; rfl) ?_
    refine E.ret ?_
    exact pureK.ret rfl rfl (by simp [pksE, h']) (by repeat first | exact sub_refl _ | refine sub_cons rfl ?_)
  · simp at h
    have h0 : pksE l = pfE 0 l := by unfold pksE; rw [if_neg (by omega)]
    have hk64 : k ≤ 64 := by omega
    refine E.skip ?_
    refine E.seq ?_
    refine E.reg hr (by simp; rfl) ?_
    refine E.seq ?_
    refine E.seq ?_
    refine E.reg hr (by simp; rfl) ?_
    refine E.block ?_
    refine E.loop ?_
    refine EL.ind (fun a : Nat × Int => { fr := [(3, iv a.2), (10, rowV k), (11, iv k), (12, iv a.1)], sz := 31, H := [(9, .row (pcs l) 3)], n := 10, marks := [], vs := [3, 10, 11, 12] }) (fun a => k - a.1) (fun a => a.1 ≤ k ∧ pfE a.2 (l.drop a.1) = pfE 0 l) (0, 0) (.less rfl rfl rfl (by simp) (by simp)) ⟨Nat.zero_le _, rfl⟩ (fun _ => rfl) ?_
    rintro ⟨i, last⟩ ⟨hi, hg⟩
    dsimp only at hi hg
    have hw : IntKind.i64.wrap ((i : Int) + 1) = (i : Int) + 1 := W_in (by omega) (by omega)
    refine E.seq ?_
    refine E.reg hr (by simp; rfl) ?_
    refine E.seq ?_
    refine E.cond (by rfl) (fun h => ?_) (fun h => ?_)
    · simp at h
      have hil : i < l.length := by omega
      have h3 : i * 3 + 3 ≤ l.length * 3 := by omega
      rw [List.drop_eq_getElem_cons hil, pfE] at hg
      refine E.skip ?_
      refine E.seq ?_
      refine E.block ?_
      refine E.seq ?_
      refine E.reg hr (by simp [h, h3, pcs_take hil]; rfl) ?_
      refine E.seq ?_
      refine E.seq ?_
      have hS : firstV [Pk.err ⟨l[i].t, l[i].q, l[i].e⟩, whenV (decide (l[i].t ≤ last)) 11] = pstE last l[i] := rfl
      refine E.drawC mixed hr [6, 7, 8] [1, 6, 7, 8] [0, 1, 6, 7, 8] (by kernel_rfl) (by simp [g129, g96, g90, intsAt, intsOf, hS]; rfl) ?_
      refine E.seq ?_
      refine E.reg hr (by simp; rfl) ?_
      refine E.cond (by rfl) (fun h1 => ?_) (fun h1 => ?_)
      · simp at h1
        refine E.seq ?_
        refine E.reg hr (by simp; rfl) ?_
        refine E.ret ?_
        rw [if_neg h1] at hg
        exact pureK.ret rfl rfl (by simp [h0, ← hg]) (by repeat first | exact sub_refl _ | refine sub_cons rfl ?_)
      · simp at h1
        refine E.skip ?_
        refine E.reg hr (by simp; rfl) ?_
        refine E.reg hr (by simp [hw]; rfl) ?_
        rw [if_pos h1] at hg
        exact ⟨(i + 1, l[i].t), Leads.ren [] rfl rfl rfl ⟨rfl, rfl⟩ (by simp) (by simp), ⟨h, hg⟩, by dsimp only; omega⟩
    · simp at h
      refine E.exit ?_
      refine E.seq ?_
      refine E.reg hr (by simp; rfl) ?_
      refine E.ret ?_
      rw [List.drop_eq_nil_of_le (by omega), pfE] at hg
      exact pureK.ret rfl rfl (by simp [h0, ← hg]) (by repeat first | exact sub_refl _ | refine sub_cons rfl ?_)
def g56 (args : List Value) (H : Heap) (n : Nat) : R := match args with
  | [t] => (pksP H t).map fun l => (iv (pksE l), H, n)
  | _ => none
theorem ok56 : EntOk Tryz.prog (56, g56) := by
  intro args H n v H' n' h
  simp only [g56] at h
  split at h
  · rw [Option.map_eq_some_iff] at h
    obtain ⟨l, h1, h⟩ := h
    injection h with e1 e2; injection e2 with e2 e3; subst e1 e2 e3
    unfold pksP at h1
    split at h1
    · injection h1 with h1; subst h1
      exact AC.liftP rfl (Part.plain (by simp) [] (by simp [Seen]) gsz ⟨_, _, w56n⟩)
    · obtain ⟨hb, rfl, hlt⟩ := rowPks_ok h1
      exact AC.liftP rfl (Part.row (fun x => [x]) (by intro φ φ0 s s0 h; simp [denL, h]) (by intro p s h; exact ⟨h, trivial⟩) hb (afL_pcs l) gsz ⟨_, _, w56 l _ rfl hlt⟩)
    · cases h1
  · cases h
end Go.Proofs.YtkongcnmkiihjaaGreatDoor

namespace Go.Proofs.YtkongcnmkiihjaaGreatDoor
open Go Go.Ab Go.Proofs
theorem pstR (p : Pk) (b : Bool) : firstV [withinV p.t 1 1024, velV p.q, withinV p.e 0 1000000000, whenV b 11] = firstV [p.err, whenV b 11] := by
  simp only [Pk.err, firstV]
  by_cases h1 : withinV p.t 1 1024 = 0 <;> by_cases h2 : velV p.q = 0 <;> by_cases h3 : withinV p.e 0 1000000000 = 0 <;> simp [h1, h2, h3]
theorem pstE_zero (p : Pk) : firstV [p.err, whenV false 11] = pstE 0 p := by
  unfold pstE
  by_cases h : p.t ≤ 0
  · have : p.err ≠ 0 := fun e => by have := (Pk.err_zero e).1; omega
    simp [firstV, this]
  · simp [h]
def lastT (l : List Pk) (i : Nat) : Int := (pkA l i).t
theorem w50n : AC Tryz.prog 50 [.slice none 0 0] [] 9 (iv 0) [] 9 := by
  have hr := recT_ok (P := Tryz.prog) (l := []) (by simp)
  refine AC.pure Tryz.func50 rfl (by kernel_rfl) rfl [0, 3] rfl ?_
  refine E.seq ?_
  refine E.reg hr (by simp; rfl) ?_
  refine E.seq ?_
  refine E.seq ?_
  refine E.reg hr (by simp; rfl) ?_
  refine E.cond (t := false) (by simp) (fun h => by cases h) (fun _ => ?_)
  refine E.skip ?_
  refine E.seq ?_
  refine E.seq ?_
  refine E.reg hr (by simp; rfl) ?_
  refine E.block ?_
  refine E.loop ?_
  refine EL.step ?_
  refine E.seq ?_
  refine E.seq ?_
  refine E.reg hr (by simp; rfl) ?_
  refine E.cond (t := false) (by simp) (fun h => by cases h) (fun _ => ?_)
  refine E.exit ?_
  refine E.seq ?_
  refine E.reg hr (by simp; rfl) ?_
  refine E.ret ?_
  exact pureK.ret rfl rfl (by simp) (by repeat first | exact sub_refl _ | refine sub_cons rfl ?_)
set_option maxRecDepth 10000 in
theorem w50 (l : List Pk) (k : Nat) (hk : l.length = k) (o c : Nat) (hl : k < 2 ^ 63) : AC Tryz.prog 50 [.slice (some ⟨9, o, none⟩) k c] [(9, .inp o (pcs l))] 10 (iv (pksE l)) [(9, .inp o (pcs l))] 10 := by
  have hr := recT_ok (P := Tryz.prog) (l := [(37, g37), (64, g64), (99, g99), (94, g94)]) (by simp [ok37, ok64, ok99, ok94])
  refine AC.pure Tryz.func50 rfl (by kernel_rfl) rfl [0, 3] rfl ?_
  refine E.seq ?_
  refine E.reg hr (by simp; rfl) ?_
  refine E.seq ?_
  refine E.seq ?_
  refine E.reg hr (by simp; rfl) ?_
  refine E.cond (by rfl) (fun h => ?_) (fun h => ?_)
  · simp at h
    have h' : 64 < l.length := by omega
    refine E.seq ?_
    refine E.reg hr (by simp; rfl) ?_
    refine E.ret ?_
    exact pureK.ret rfl rfl (by simp [pksE, h']) (by repeat first | exact sub_refl _ | refine sub_cons rfl ?_)
  · simp at h
    have h0 : pksE l = pfE 0 l := by unfold pksE; rw [if_neg (by omega)]
    have hk64 : k ≤ 64 := by omega
    refine E.skip ?_
    refine E.seq ?_
    refine E.seq ?_
    refine E.reg hr (by simp; rfl) ?_
    refine E.block ?_
    refine E.loop ?_
    refine EL.ind (fun i : Nat => { fr := [(0, .slice (some ⟨9, o, none⟩) k c), (3, iv i)], sz := 55, H := [(9, .inp o (pcs l))], n := 10, marks := [], vs := [0, 3] }) (fun i => k - i) (fun i => i ≤ k ∧ pfE (lastT l i) (l.drop i) = pfE 0 l) 0 (.less rfl rfl rfl (by simp) (by simp)) ⟨Nat.zero_le _, rfl⟩ (fun _ => rfl) ?_
    intro i ⟨hi, hg⟩
    have hw : IntKind.i64.wrap ((i : Int) + 1) = (i : Int) + 1 := W_in (by omega) (by omega)
    refine E.seq ?_
    refine E.seq ?_
    refine E.reg hr (by simp; rfl) ?_
    refine E.cond (by rfl) (fun h => ?_) (fun h => ?_)
    · simp at h
      have hil : i < l.length := by omega
      have a0 : i * 3 < l.length * 3 := by omega
      have a1 : i * 3 + 1 < l.length * 3 := by omega
      have a2 : i * 3 + 2 < l.length * 3 := by omega
      have i1 : o ≤ o + i * 3 + 1 := by omega
      have i2 : o + i * 3 + 1 - o = i * 3 + 1 := by omega
      have i3 : o ≤ o + i * 3 + 2 := by omega
      have i4 : o + i * 3 + 2 - o = i * 3 + 2 := by omega
      rw [List.drop_eq_getElem_cons hil, pfE] at hg
      have hnext : l[i].t = lastT l (i + 1) := by rw [lastT, pkA_succ hil]
      rw [hnext] at hg
      refine E.skip ?_
      refine E.seq ?_
      refine E.block ?_
      refine E.seq ?_
      cases i with
      | zero =>
        have hS : firstV [withinV l[0].t 1 1024, velV l[0].q, withinV l[0].e 0 1000000000, whenV false 11] = pstE (lastT l 0) l[0] := by rw [pstR, pstE_zero]; rfl
        have z1 : 0 < l.length * 3 := by omega
        have z2 : 1 < l.length * 3 := by omega
        have z3 : 2 < l.length * 3 := by omega
        have y0 : (pcs l)[0]'(by rw [pcs_length]; exact z1) = iv l[0].t := pcs_tE (i := 0) hil _
        have y1 : (pcs l)[1]'(by rw [pcs_length]; exact z2) = iv l[0].q := pcs_qE (i := 0) hil _
        have y2 : (pcs l)[2]'(by rw [pcs_length]; exact z3) = iv l[0].e := pcs_eE (i := 0) hil _
        refine E.drawC mixed hr [17, 35, 36, 37] [5, 11, 17, 35, 36, 37] [4, 5, 11, 17, 27, 32, 35, 36, 37] (by kernel_rfl) (by simp [g37, g64, g99, g94, intsAt, intsOf, h, z1, z2, z3, y0, y1, y2, yieldedA, hS]; rfl) ?_
        refine E.seq ?_
        refine E.reg hr (by simp; rfl) ?_
        refine E.cond (by rfl) (fun h1 => ?_) (fun h1 => ?_)
        · simp at h1
          refine E.seq ?_
          refine E.reg hr (by simp; rfl) ?_
          refine E.ret ?_
          rw [if_neg h1] at hg
          exact pureK.ret rfl rfl (by simp [h0, ← hg]) (by repeat first | exact sub_refl _ | refine sub_cons rfl ?_)
        · simp at h1
          refine E.skip ?_
          refine E.reg hr (by simp [show IntKind.i64.wrap 1 = 1 from W_in (by omega) (by omega)]; rfl) ?_
          rw [if_pos h1] at hg
          exact ⟨1, Leads.ren [] rfl rfl rfl ⟨rfl, rfl⟩ (by simp) (by simp), ⟨h, hg⟩, by dsimp only; omega⟩
      | succ j =>
        have hj : j < k := by omega
        have hjl : j < l.length := by omega
        have j0 : j * 3 < l.length * 3 := by omega
        have hwj : IntKind.i64.wrap (j : Int) = (j : Int) := W_in (by omega) (by omega)
        have hm : max (0 : Int) (j : Int) = (j : Int) := by omega
        have hlast : lastT l (j + 1) = l[j].t := by rw [lastT, pkA_succ hjl]
        have hS : firstV [withinV l[j + 1].t 1 1024, velV l[j + 1].q, withinV l[j + 1].e 0 1000000000, whenV (decide (l[j + 1].t ≤ l[j].t)) 11] = pstE (lastT l (j + 1)) l[j + 1] := by rw [pstR, hlast]; rfl
        have hp : (0 : Int) < (j : Int) + 1 := by omega
        have hjk : (j : Int) + 1 < (k : Int) := by omega
        have hw2 : IntKind.i64.wrap ((j : Int) + 1 + 1) = (j : Int) + 1 + 1 := W_in (by omega) (by omega)
        refine E.drawC mixed hr [17, 35, 36, 37] [5, 11, 17, 35, 36, 37] [4, 5, 11, 17, 27, 32, 35, 36, 37] (by kernel_rfl) (by simp [g37, g64, g99, g94, intsAt, intsOf, h, hjk, hj, a0, a1, a2, i1, i2, i3, i4, j0, hwj, max33, hm, hp, pcs_tE hil, pcs_qE hil, pcs_eE hil, pcs_tE hjl, yieldedA, hS]; rfl) ?_
        refine E.seq ?_
        refine E.reg hr (by simp; rfl) ?_
        refine E.cond (by rfl) (fun h1 => ?_) (fun h1 => ?_)
        · simp at h1
          refine E.seq ?_
          refine E.reg hr (by simp; rfl) ?_
          refine E.ret ?_
          rw [if_neg h1] at hg
          exact pureK.ret rfl rfl (by simp [h0, ← hg]) (by repeat first | exact sub_refl _ | refine sub_cons rfl ?_)
        · simp at h1
          refine E.skip ?_
          refine E.reg hr (by simp [hw2]; rfl) ?_
          rw [if_pos h1] at hg
          exact ⟨j + 1 + 1, Leads.ren [] rfl rfl rfl ⟨rfl, rfl⟩ (by simp) (by simp), ⟨h, hg⟩, by dsimp only; omega⟩
    · simp at h
      refine E.exit ?_
      refine E.seq ?_
      refine E.reg hr (by simp; rfl) ?_
      refine E.ret ?_
      rw [List.drop_eq_nil_of_le (by omega), pfE] at hg
      exact pureK.ret rfl rfl (by simp [h0, ← hg]) (by repeat first | exact sub_refl _ | refine sub_cons rfl ?_)
def g50 (args : List Value) (H : Heap) (n : Nat) : R := match args with
  | [t] => (pksR H t).map fun l => (iv (pksE l), H, n)
  | _ => none
theorem ok50 : EntOk Tryz.prog (50, g50) := by
  intro args H n v H' n' h
  simp only [g50] at h
  split at h
  · rw [Option.map_eq_some_iff] at h
    obtain ⟨l, h1, h⟩ := h
    injection h with e1 e2; injection e2 with e2 e3; subst e1 e2 e3
    unfold pksR at h1
    split at h1
    · injection h1 with h1; subst h1
      exact AC.liftP rfl (Part.plain (by simp) [] (by simp [Seen]) gsz ⟨_, _, w50n⟩)
    · obtain ⟨hf, hc, hlen, hlt⟩ := pksAt_ok h1
      exact AC.liftP rfl (Part.one (fun x => [x]) (by intro φ φ0 s s0 h; simp [denL, h]) (by intro p s h; exact ⟨h, trivial⟩) hf hc (afL_pcs l) [] (by simp [Seen]) gsz fun c => ⟨_, _, w50 l _ hlen _ c (hlen ▸ hlt)⟩)
    · cases h1
  · cases h
end Go.Proofs.YtkongcnmkiihjaaGreatDoor

namespace Go.Proofs.YtkongcnmkiihjaaGreatDoor
open Go Go.Ab Go.Proofs
theorem pfE_ok : ∀ (l : List Pk) (last : Int), pfE last l = 0 → PksOk l
  | [], _, _ => fun p hp => by cases hp
  | p :: l, last, h => by
    rw [pfE] at h
    by_cases h1 : pstE last p = 0
    · rw [if_pos h1] at h
      have ih := pfE_ok l _ h
      have he : p.err = 0 := by
        rw [pstE, firstV] at h1
        by_cases h2 : p.err = 0
        · exact h2
        · rw [if_neg h2] at h1; exact absurd h1 h2
      intro q hq
      rcases List.mem_cons.1 hq with rfl | hq
      · exact Pk.err_zero he
      · exact ih q hq
    · rw [if_neg h1] at h; exact absurd h h1
theorem pksE_ok {l : List Pk} (h : pksE l = 0) : PksOk l ∧ l.length ≤ 64 := by
  unfold pksE at h
  split at h
  · cases h
  · exact ⟨pfE_ok l 0 h, by omega⟩
def BndIn (lo hi : Int) : Prop := 1 ≤ lo ∧ lo ≤ 1000000000 ∧ 1 ≤ hi ∧ hi ≤ 1000000000 ∧ lo ≤ hi
instance (lo hi : Int) : Decidable (BndIn lo hi) := by unfold BndIn; infer_instance
instance (p : Pk) : Decidable p.At := by unfold Pk.At; infer_instance
end Go.Proofs.YtkongcnmkiihjaaGreatDoor

namespace Go.Ab
open Go
/-- a scope that no jump leads back into -/
theorem E.scope {P : Program} {n0 : Nat} {b : Code} {st : St} {K : Ex → St → Prop} (h : E P n0 none b st (scopeK K)) : E P n0 none (.scope b) st K := by
  obtain ⟨e, st', h, k⟩ := h
  have go : (∀ l, e ≠ .goto l) → ATX P n0 none (.scope b) st e st' := fun he p φ M w0 hg hp hl a w φ1 hS hs =>
    wpIn_wide.2 (wp_scope_straight (wpIn_wide.1 (wpIn_mono (h p φ M w0 hg hp hl a w φ1 hS hs) fun e2 a1 w1 hh => by
      have he' := hh.1
      subst he'
      cases e with
      | goto l => exact absurd rfl (he l)
      | _ => exact hh)))
  cases e with
  | goto l => exact k.elim
  | _ => exact ⟨_, st', go (fun _ e => by cases e), k⟩
end Go.Ab
namespace Go.Proofs.YtkongcnmkiihjaaGreatDoor
open Go Go.Ab Go.Proofs
end Go.Proofs.YtkongcnmkiihjaaGreatDoor

namespace Go.Proofs.YtkongcnmkiihjaaGreatDoor
open Go Go.Ab Go.Proofs
end Go.Proofs.YtkongcnmkiihjaaGreatDoor

namespace Go.Proofs.YtkongcnmkiihjaaGreatDoor
open Go Go.Ab Go.Proofs
end Go.Proofs.YtkongcnmkiihjaaGreatDoor
