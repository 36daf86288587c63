/-
The law VelocityTexts, walked, a way at a time (a theorem for each way through it: its conditions name the way).
-/
import Derived.Test.YtkongcnmkiihjaaGreatDoorYq
import Derived.Test.YtkongcnmkiihjaaGreatDoorYg
import Derived.Test.YtkongcnmkiihjaaGreatDoorYo
import Derived.Test.YtkongcnmkiihjaaGreatDoorFa
namespace Go.Proofs.YtkongcnmkiihjaaGreatDoor
open Go Go.Ab Go.Proofs
def S80 (l : List Pk) (o c : Nat) : Nat → St
  | 0 => { fr := [(3, .slice none 0 0), (6, .slice (some ⟨9, o, none⟩) l.length c), (7, iv l.length), (8, iv 0)], sz := 18, H := [(9, .inp o (pcs l))], n := 10, marks := [], vs := [3, 6, 7, 8] }
  | i + 1 => { fr := [(3, .slice (some ⟨10, 0, some 0⟩) (i + 1) 0), (6, .slice (some ⟨9, o, none⟩) l.length c), (7, iv l.length), (8, iv (i + 1 : Nat))], sz := 18, H := [(10, .ext (pcs (l.take (i + 1))) 100 3), (9, .inp o (pcs l))], n := 11, marks := [], vs := [3, 6, 7, 8] }
def tdQ (l : List Pk) (v : Value) (H : Heap) : Prop := ∃ m, v = .slice (some ⟨m, 0, some 0⟩) l.length 0 ∧ hget H m = some (.ext (pcs l) 100 3) ∧ 10 ≤ m
set_option maxRecDepth 100000 in
theorem w80 (l : List Pk) (o c : Nat) (hne : l ≠ []) (hl : l.length ≤ 4096) : ∃ u H1 n1 H2, AC Tryz.prog 80 [.slice (some ⟨9, o, none⟩) l.length c] [(9, .inp o (pcs l))] 10 u H1 n1 ∧ tdQ l u H2 ∧ (af u = false → H1 = H2) := by
  have hr := recT_ok (P := Tryz.prog) (l := []) (by simp)
  have hpos : 0 < l.length := List.length_pos_iff.2 hne
  refine AC.out Tryz.func80 rfl (by kernel_rfl) rfl [3, 6, 7, 8] ?_
  refine E.seq ?_
  refine E.reg hr (by simp; rfl) ?_
  refine E.seq ?_
  refine E.reg hr (by simp; rfl) ?_
  refine E.seq ?_
  refine E.seq ?_
  refine E.reg hr (by simp; rfl) ?_
  refine E.block ?_
  refine E.loop ?_
  refine EL.ind (S80 l o c) (fun i => l.length - i) (fun i => i ≤ l.length) 0 (.less rfl rfl rfl (by simp [S80]) (by simp [S80])) (Nat.zero_le _) (fun i => by cases i <;> rfl) ?_
  intro i hi
  rcases i with _ | i
  · have hw : IntKind.i64.wrap 1 = 1 := W_in (by omega) (by omega)
    refine E.seq ?_
    refine E.reg hr (by simp [S80]; rfl) ?_
    refine E.seq ?_
    refine E.cond (by rfl) (fun h => ?_) (fun h => ?_)
    · simp at h
      have hx := pcs_take hpos
      have hts : pcs (l.take 1) = l[0].cells := by rw [pcs_succ hpos]; simp [pcs]
      have h7 : 3 ≤ l.length * 3 := by omega
      rw [Nat.zero_mul, List.drop_zero] at hx
      refine E.skip ?_
      refine E.seq ?_
      refine E.block ?_
      refine E.seq ?_
      refine E.reg hr (by simp [hx, hpos, h7, Pk.cells]; rfl) ?_
      refine E.reg hr (by simp; rfl) ?_
      refine E.reg hr (by simp [hw]; rfl) ?_
      exact ⟨1, Leads.ren [12] rfl rfl rfl ⟨rfl, rfl⟩ (by simp [S80]) (by simp [S80, hts]), by omega, by dsimp only; omega⟩
    · simp at h
      exact absurd h hne
  · have hw : IntKind.i64.wrap ((i : Int) + 1 + 1) = (i : Int) + 1 + 1 := W_in (by omega) (by omega)
    have hlen : (pcs (l.take (i + 1))).length = (i + 1) * 3 := by rw [pcs_length, List.length_take, Nat.min_eq_left hi]
    have ht : List.take ((i + 1) * 3) (pcs (l.take (i + 1))) = pcs (l.take (i + 1)) := List.take_of_length_le (by omega)
    refine E.seq ?_
    refine E.reg hr (by simp [S80]; rfl) ?_
    refine E.seq ?_
    refine E.cond (by rfl) (fun h => ?_) (fun h => ?_)
    · simp at h
      have hlt : i + 1 < l.length := by omega
      have hltI : (i : Int) + 1 < l.length := by omega
      have hx := pcs_take hlt
      have hts := pcs_succ hlt
      have h7 : (i + 1) * 3 + 3 ≤ l.length * 3 := by omega
      have hno : ¬ (i + 1 + 1) * 3 ≤ (i + 1) * 3 := by omega
      have hsm : (i + 1 + 1) * 24 ≤ 1099511627776 ∧ (i + 1 + 1) * 3 ≤ 1099511627776 ∧ i + 1 + 1 ≤ 1099511627776 := by omega
      refine E.skip ?_
      refine E.seq ?_
      refine E.block ?_
      refine E.seq ?_
      refine E.reg hr (by simp [hx, hltI, h7, Pk.cells]; rfl) ?_
      refine E.reg hr (by simp [hsm, ht, hlen, hno]; rfl) ?_
      refine E.reg hr (by simp [hw]; rfl) ?_
      exact ⟨i + 2, Leads.ren [13] rfl rfl rfl ⟨rfl, rfl⟩ (by simp [S80]) (by simp [S80, hts]), by omega, by dsimp only; omega⟩
    · simp at h
      have hal : l.take (i + 1) = l := List.take_of_length_le (by omega)
      have hll : l.length = i + 1 := by omega
      refine E.exit ?_
      refine E.seq ?_
      refine E.reg hr (by simp; rfl) ?_
      refine E.ret ?_
      refine outK.ret rfl rfl ?_
      simp [tdQ, hal, hll]
theorem w80e (o c : Nat) : AC Tryz.prog 80 [.slice (some ⟨9, o, none⟩) 0 c] [(9, .inp o (pcs []))] 10 (.slice none 0 0) [(9, .inp o (pcs []))] 10 := by
  have hr := recT_ok (P := Tryz.prog) (l := []) (by simp)
  refine AC.pure Tryz.func80 rfl (by kernel_rfl) rfl [3, 6, 7, 8] rfl ?_
  refine E.seq ?_
  refine E.reg hr (by simp; rfl) ?_
  refine E.seq ?_
  refine E.reg hr (by simp; rfl) ?_
  refine E.seq ?_
  refine E.seq ?_
  refine E.reg hr (by simp; rfl) ?_
  refine E.block ?_
  refine E.loop ?_
  refine EL.step ?_
  refine E.seq ?_
  refine E.reg hr (by simp; rfl) ?_
  refine E.seq ?_
  refine E.cond (by rfl) (fun h => ?_) (fun h => ?_)
  · simp at h
  refine E.exit ?_
  refine E.seq ?_
  refine E.reg hr (by simp; rfl) ?_
  refine E.ret ?_
  exact pureK.ret rfl rfl (by simp) (by repeat first | exact sub_refl _ | refine sub_cons rfl ?_)
theorem w80n : AC Tryz.prog 80 [.slice none 0 0] [] 9 (.slice none 0 0) [] 9 := by
  have hr := recT_ok (P := Tryz.prog) (l := []) (by simp)
  refine AC.pure Tryz.func80 rfl (by kernel_rfl) rfl [3, 6, 7, 8] rfl ?_
  refine E.seq ?_
  refine E.reg hr (by simp; rfl) ?_
  refine E.seq ?_
  refine E.reg hr (by simp; rfl) ?_
  refine E.seq ?_
  refine E.seq ?_
  refine E.reg hr (by simp; rfl) ?_
  refine E.block ?_
  refine E.loop ?_
  refine EL.step ?_
  refine E.seq ?_
  refine E.reg hr (by simp; rfl) ?_
  refine E.seq ?_
  refine E.cond (by rfl) (fun h => ?_) (fun h => ?_)
  · simp at h
  refine E.exit ?_
  refine E.seq ?_
  refine E.reg hr (by simp; rfl) ?_
  refine E.ret ?_
  exact pureK.ret rfl rfl (by simp) (by repeat first | exact sub_refl _ | refine sub_cons rfl ?_)
def g80 (args : List Value) (H : Heap) (n : Nat) : R := match args with
  | [v] => match pksR H v with
    | some l => if l = [] then some (.slice none 0 0, H, n) else if l.length ≤ 4096 then some (.slice (some ⟨n, 0, some 0⟩) l.length 0, (n, .ext (pcs l) 100 3) :: H, n + 1) else none
    | none => none
  | _ => none
theorem ok80 : EntOk Tryz.prog (80, g80) := by
  intro args H n v H' n' h'
  simp only [g80] at h'
  split at h'
  · rename_i x
    split at h'
    · rename_i l hx
      split at h'
      · rename_i hl
        subst hl
        injection h' with h'; injection h' with e1 e2; injection e2 with e2 e3; subst e1 e2 e3
        unfold pksR at hx
        split at hx
        · exact AC.liftP (by simp) (Part.plain (by simp) [] (by simp [Seen]) gsz ⟨_, _, w80n⟩)
        · obtain ⟨hf, hc, hlen, hlt⟩ := pksAt_ok hx
          subst hlen
          exact AC.liftP (by simp) (Part.one (fun s => [s]) (by intro φ φ0 s s0 h; simp [denL, h]) (by intro p s h; exact ⟨h, trivial⟩) hf hc (afL_pcs []) [] (by simp [Seen]) gsz fun c => ⟨_, _, w80e _ c⟩)
        · cases hx
      rename_i hne
      split at h'
      · rename_i hle
        injection h' with h'; injection h' with e1 e2; injection e2 with e2 e3; subst e1 e2 e3
        unfold pksR at hx
        split at hx
        · injection hx with hx; exact absurd hx.symm hne
        · obtain ⟨hf, hc, hlen, hlt⟩ := pksAt_ok hx
          subst hlen
          refine AC.liftF (names_sx _ _) (.inr ⟨_, _, _, rfl, afL_pcs l⟩) (Part.one (fun s => [s]) (by intro φ φ0 s s0 h; simp [denL, h]) (by intro p s h; exact ⟨h, trivial⟩) hf hc (afL_pcs l) [] (by simp [Seen]) gsz fun c => ?_)
          obtain ⟨u, H1, n1, H2, hAC, hq, hh⟩ := w80 l _ c hne hle
          obtain ⟨m, hv, hm, hle⟩ := hq
          subst hv
          have := hh rfl
          subst this
          exact ⟨m, _, _, hle, hm, hAC⟩
        · cases hx
      · cases h'
    · cases h'
  · cases h'
theorem neq100 {x y : Operand} {H : Heap} {n : Nat} (a b c : Int) : binV Tryz.prog .neq 100 x y (.agg ⟨[iv a, iv b, iv c]⟩) (.agg ⟨[iv a, iv b, iv c]⟩) H n = some (.bool false, H, n) := by
  have he : runP Tryz.prog (Op.equalIn 10000 100 (.agg ⟨[iv a, iv b, iv c]⟩) (.agg ⟨[iv a, iv b, iv c]⟩)) = some true := by
    refine runP_eqStruct 9999 _ _ Tryz.underlying100 (by kernel_rfl) fun f hf => ?_
    simp at hf
    rcases hf with rfl | rfl | rfl
    · exact ⟨iv a, iv a, by kernel_rfl, by kernel_rfl, runP_eqInt 9998 a Tryz.underlying3⟩
    · exact ⟨iv b, iv b, by kernel_rfl, by kernel_rfl, runP_eqInt 9998 b Tryz.underlying3⟩
    · exact ⟨iv c, iv c, by kernel_rfl, by kernel_rfl, runP_eqInt 9998 c Tryz.underlying3⟩
  have h : runP Tryz.prog (do eqGuard .neq 100 x y (.agg ⟨[iv a, iv b, iv c]⟩) (.agg ⟨[iv a, iv b, iv c]⟩); binOp .neq 100 (.agg ⟨[iv a, iv b, iv c]⟩) (.agg ⟨[iv a, iv b, iv c]⟩)) = some (.bool false) := by
    rw [runP_bind']
    have h1 : runP Tryz.prog (eqGuard .neq 100 x y (.agg ⟨[iv a, iv b, iv c]⟩) (.agg ⟨[iv a, iv b, iv c]⟩)) = some () := by kernel_rfl
    rw [h1, Option.bind_some]
    show runP Tryz.prog (Op.equalIn 10000 100 (.agg ⟨[iv a, iv b, iv c]⟩) (.agg ⟨[iv a, iv b, iv c]⟩) >>= fun b => pure (Value.bool (!b))) = _
    rw [runP_bind', he]
    rfl
  have ha : afq (.agg ⟨[iv a, iv b, iv c]⟩) = true := rfl
  unfold binV
  rw [ha]
  simp only [Bool.and_self, if_true]
  rw [h]
  rfl
abbrev inpP (b o k c : Nat) : Value := .slice (some ⟨b, o, none⟩) k c
theorem w79nn : AC Tryz.prog 79 [.slice none 0 0, .slice none 0 0] [] 9 (.bool true) [] 9 := by
  have hr := recT_ok (P := Tryz.prog) (l := []) (by simp)
  refine AC.pure Tryz.func79 rfl (by kernel_rfl) rfl [0, 1, 5] rfl ?_
  refine E.seq ?_
  refine E.reg hr (by simp; rfl) ?_
  refine E.seq ?_
  refine E.seq ?_
  refine E.reg hr (by simp; rfl) ?_
  refine E.cond (t := false) (by rfl) (fun h => by cases h) (fun _ => ?_)
  refine E.skip ?_
  refine E.seq ?_
  refine E.seq ?_
  refine E.reg hr (by simp; rfl) ?_
  refine E.block ?_
  refine E.loop ?_
  refine EL.step ?_
  refine E.seq ?_
  refine E.seq ?_
  refine E.reg hr (by simp; rfl) ?_
  refine E.cond (t := false) (by rfl) (fun h => by cases h) (fun _ => ?_)
  refine E.exit ?_
  refine E.seq ?_
  refine E.reg hr (by simp; rfl) ?_
  refine E.ret ?_
  exact pureK.ret rfl rfl (by simp) (by repeat first | exact sub_refl _ | refine sub_cons rfl ?_)
theorem w79ne (o c : Nat) : AC Tryz.prog 79 [.slice none 0 0, inpP 9 o 0 c] [(9, .inp o (pcs []))] 10 (.bool true) [(9, .inp o (pcs []))] 10 := by
  have hr := recT_ok (P := Tryz.prog) (l := []) (by simp)
  refine AC.pure Tryz.func79 rfl (by kernel_rfl) rfl [0, 1, 5] rfl ?_
  refine E.seq ?_
  refine E.reg hr (by simp; rfl) ?_
  refine E.seq ?_
  refine E.seq ?_
  refine E.reg hr (by simp; rfl) ?_
  refine E.cond (t := false) (by rfl) (fun h => by cases h) (fun _ => ?_)
  refine E.skip ?_
  refine E.seq ?_
  refine E.seq ?_
  refine E.reg hr (by simp; rfl) ?_
  refine E.block ?_
  refine E.loop ?_
  refine EL.step ?_
  refine E.seq ?_
  refine E.seq ?_
  refine E.reg hr (by simp; rfl) ?_
  refine E.cond (t := false) (by rfl) (fun h => by cases h) (fun _ => ?_)
  refine E.exit ?_
  refine E.seq ?_
  refine E.reg hr (by simp; rfl) ?_
  refine E.ret ?_
  exact pureK.ret rfl rfl (by simp) (by repeat first | exact sub_refl _ | refine sub_cons rfl ?_)
set_option maxHeartbeats 4000000 in
set_option maxRecDepth 100000 in
theorem w79 (l : List Pk) (o c o2 c2 : Nat) (hl : l.length < 2 ^ 63) : AC Tryz.prog 79 [inpP 9 o l.length c, inpP 10 o2 l.length c2] [(10, .inp o2 (pcs l)), (9, .inp o (pcs l))] 11 (.bool true) [(10, .inp o2 (pcs l)), (9, .inp o (pcs l))] 11 := by
  have hr := recT_ok (P := Tryz.prog) (l := []) (by simp)
  refine AC.pure Tryz.func79 rfl (by kernel_rfl) rfl [0, 1, 5] rfl ?_
  refine E.seq ?_
  refine E.reg hr (by simp; rfl) ?_
  refine E.seq ?_
  refine E.seq ?_
  refine E.reg hr (by simp; rfl) ?_
  refine E.cond (t := false) (by rfl) (fun h => by cases h) (fun _ => ?_)
  refine E.skip ?_
  refine E.seq ?_
  refine E.seq ?_
  refine E.reg hr (by simp; rfl) ?_
  refine E.block ?_
  refine E.loop ?_
  refine EL.ind (fun i : Nat => { fr := [(0, inpP 9 o l.length c), (1, inpP 10 o2 l.length c2), (5, iv i)], sz := 26, H := [(10, .inp o2 (pcs l)), (9, .inp o (pcs l))], n := 11, marks := [], vs := [0, 1, 5] }) (fun i => l.length - i) (fun i => i ≤ l.length) 0 (.less rfl rfl rfl (by simp) (by simp)) (Nat.zero_le _) (fun _ => rfl) ?_
  intro i hi
  refine E.seq ?_
  refine E.seq ?_
  refine E.reg hr (by simp; rfl) ?_
  refine E.cond (by rfl) (fun h => ?_) (fun h => ?_)
  · simp at h
    have hlI : (i : Int) < l.length := by omega
    have hw : IntKind.i64.wrap ((i : Int) + 1) = (i : Int) + 1 := W_in (by omega) (by omega)
    have hx := pcs_take h
    obtain ⟨p, hp⟩ : ∃ p, p = l[i] := ⟨_, rfl⟩
    rw [← hp] at hx
    obtain ⟨t, q, e⟩ := p
    have h3 : i * 3 + 3 ≤ l.length * 3 := by omega
    refine E.skip ?_
    refine E.seq ?_
    refine E.block ?_
    refine E.seq ?_
    refine E.drawC mixed hr [] [] [3, 7] (by kernel_rfl) (by simp [hlI, h, h3, hx, neq100]; rfl) ?_
    refine E.cond (t := false) (by rfl) (fun h => by cases h) (fun _ => ?_)
    refine E.skip ?_
    refine E.reg hr (by simp [hw]; rfl) ?_
    exact ⟨i + 1, .less rfl rfl rfl (by simp) (by simp), by dsimp only; omega, by dsimp only; omega⟩
  · simp at h
    refine E.exit ?_
    refine E.seq ?_
    refine E.reg hr (by simp; rfl) ?_
    refine E.ret ?_
    exact pureK.ret rfl rfl (by simp) (by repeat first | exact sub_refl _ | refine sub_cons rfl ?_)
def alikeP (H : Heap) (s u : Value) : Prop := (s = .slice none 0 0 ∧ u = .slice none 0 0) ∨ (s = .slice none 0 0 ∧ ∃ a c, u = .slice (some a) 0 c ∧ pksAt H a 0 = some []) ∨
  ∃ (l : List Pk) (a : Addr) (c : Nat) (a2 : Addr) (c2 : Nat), s = .slice (some a) l.length c ∧ u = .slice (some a2) l.length c2 ∧ pksAt H a l.length = some l ∧ pksAt H a2 l.length = some l
open Classical in
noncomputable def g79 (args : List Value) (H : Heap) (n : Nat) : R := match args with
  | [s, u] => if alikeP H s u then some (.bool true, H, n) else none
  | _ => none
theorem ok79 : EntOk Tryz.prog (79, g79) := by
  intro args H n v H' n' hh
  simp only [g79] at hh
  split at hh
  · rename_i s u
    split at hh
    · rename_i hc
      injection hh with hh; injection hh with e1 e2; injection e2 with e2 e3; subst e1 e2 e3
      rcases hc with ⟨rfl, rfl⟩ | ⟨rfl, a, c, rfl, ha⟩ | ⟨l, a, c, a2, c2, rfl, rfl, h1, h2⟩
      · exact AC.liftP rfl (Part.plain (by simp) [] (by simp [Seen]) gsz ⟨_, _, w79nn⟩)
      · obtain ⟨hf, hc, hlen, hlt⟩ := pksAt_ok ha
        exact AC.liftP rfl (Part.one (fun x => [.slice none 0 0, x]) (by intro φ φ0 s s0 h; simp [denL, den, h]) (by intro p s h; exact ⟨by simp [sc], h, trivial⟩) hf hc (afL_pcs []) [] (by simp [Seen]) gsz fun c => ⟨_, _, w79ne _ c⟩)
      · obtain ⟨hf, hc, _, hlt⟩ := pksAt_ok h1
        obtain ⟨hf2, hc2, _, _⟩ := pksAt_ok h2
        exact AC.liftP rfl (Part.two (fun x y => [x, y]) (by intro φ φ0 s s0 u u0 h1 h2; simp [denL, h1, h2]) (by intro p s u h1 h2; exact ⟨h1, h2, trivial⟩) hf hc (afL_pcs l) hf2 hc2 (afL_pcs l) [] (by simp [Seen]) gsz fun c0 c02 => ⟨_, _, w79 l _ c0 _ c02 hlt⟩)
    · cases hh
  · cases hh
end Go.Proofs.YtkongcnmkiihjaaGreatDoor

namespace Go.Proofs.YtkongcnmkiihjaaGreatDoor
open Go Go.Ab Go.Proofs Go.RowKit
theorem names_t3 (k : Nat) : Names1 fun m => .tuple #[.slice (some ⟨m, 0, some 0⟩) k 0, iv 0, iv 0] := ⟨fun φ ψ m n h1 h2 => by simp [den, denL, h1, h2], fun p n h => by simp [sc, scL, h]⟩
abbrev tupN (a e : Int) : Value := .tuple #[.slice none 0 0, iv a, iv e]
abbrev tupX (m k : Nat) : Value := .tuple #[.slice (some ⟨m, 0, some 0⟩) k 0, iv 0, iv 0]
def g84 (args : List Value) (H : Heap) (n : Nat) : R := match args with
  | [.string s] => if s.size < 2147483648 then (match (parV s.data.toList).out with
    | [] => some (tupN (parV s.data.toList).at' (parV s.data.toList).e, H, n)
    | p :: l => some (tupX n (l.length + 1), (n, .ext (pcs (p :: l)) 160 3) :: H, n + 1)) else none
  | _ => none
theorem g84_nil {s : List UInt8} {H : Heap} {n : Nat} {a e : Int} (hl : s.length < 2147483648) (h : parV s = ⟨[], a, e⟩) : g84 [sL s] H n = some (tupN a e, H, n) := by simp [g84, ByteArray.size, hl, h]
theorem g84_cons {s : List UInt8} {H : Heap} {n : Nat} {Q : List Pk} {a e : Int} (hl : s.length < 2147483648) (h : parV s = ⟨Q, a, e⟩) (hQ : Q ≠ []) : g84 [sL s] H n = some (tupX n Q.length, (n, .ext (pcs Q) 160 3) :: H, n + 1) := by
  cases Q with
  | nil => exact absurd rfl hQ
  | cons q Q => simp [g84, ByteArray.size, hl, h]
theorem ok84 : EntOk Tryz.prog (84, g84) := by
  intro args H n v H' n' hh
  simp only [g84] at hh
  split at hh
  · rename_i s
    split at hh
    · rename_i hl
      obtain ⟨v0, H1, n1, hAC, hq⟩ := w84 s.data.toList (by rw [← Lib.size_eq]; exact hl)
      rw [show sL s.data.toList = .string s from congrArg Value.string (bA_data s)] at hAC
      unfold q84 at hq
      split at hh
      · rename_i hp
        rw [hp] at hq
        subst hq
        injection hh with hh; injection hh with e1 e2; injection e2 with e2 e3; subst e1 e2 e3
        exact AC.liftP rfl (Part.plain (by simp) [] (by simp [Seen]) gsz ⟨_, _, hAC⟩)
      · rename_i p l hp
        rw [hp] at hq
        obtain ⟨m, hv, hm, hle⟩ := hq
        subst hv
        injection hh with hh; injection hh with e1 e2; injection e2 with e2 e3; subst e1 e2 e3
        exact AC.liftF (names_t3 _) (.inr ⟨_, _, _, rfl, afL_pcs _⟩) (Part.plain (by simp) [] (by simp [Seen]) gsz ⟨m, _, _, hle, hm, hAC⟩)
    · cases hh
  · cases hh
abbrev GL : Heap := [(3, .tab powV), (1, .inp 0 rangesV), (0, .inp 0 freeV)]
@[simp] theorem renL_rangesT (ρ : Nat → Nat) : renL ρ rangesV = rangesV := by kernel_rfl
@[simp] theorem renL_freeT (ρ : Nat → Nat) : renL ρ freeV = freeV := by kernel_rfl
@[simp] theorem scL_rangesT (p : Nat → Prop) : scL p rangesV := scL_af _ _ af_rangesV
@[simp] theorem scL_freeT (p : Nat → Prop) : scL p freeV := scL_af _ _ af_freeV
theorem pcs_nil0 : pcs [] = [] := rfl
theorem alike_nn (H : Heap) : alikeP H (.slice none 0 0) (.slice none 0 0) := .inl ⟨rfl, rfl⟩
end Go.Proofs.YtkongcnmkiihjaaGreatDoor
