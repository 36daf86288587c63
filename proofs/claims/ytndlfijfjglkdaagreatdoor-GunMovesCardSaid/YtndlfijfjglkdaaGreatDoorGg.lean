/-
The walks of the references of Misfires and Retimed, of the checks of timings, and of the comparisons (each a contract: no condition but those in its statement).
-/
import Derived.Test.YtndlfijfjglkdaaGreatDoorGe
namespace Go.Proofs.YtndlfijfjglkdaaGreatDoor
open Go Go.Ab Go.Proofs
/-! ### timings of the reference -/
def timsW (H : Heap) : Value → Option (List Tim)
  | .slice none 0 0 => some []
  | .slice (some a) len _ => timsAt H a len
  | _ => none
def tickAt (ts : List Tim) (s : ByteArray) : Int := match ts.find? fun t => decide (t.gun = s) with
  | some t => t.tick
  | none => -1
theorem tickAt_hit {ts : List Tim} {s : ByteArray} {i : Nat} (hi : i < ts.length) (hn : ts[i].gun = s) (hb : ∀ j (_ : j < i) (h : j < ts.length), ts[j].gun ≠ s) : tickAt ts s = ts[i].tick := by
  have : ts.find? (fun t => decide (t.gun = s)) = some ts[i] := by
    rw [List.find?_eq_some_iff_getElem]
    exact ⟨by simp [hn], i, hi, rfl, fun j hj => by simpa using hb j hj (by omega)⟩
  unfold tickAt
  rw [this]
theorem tickAt_miss {ts : List Tim} {s : ByteArray} (hb : ∀ j (h : j < ts.length), ts[j].gun ≠ s) : tickAt ts s = -1 := by
  have : ts.find? (fun t => decide (t.gun = s)) = none := by
    rw [List.find?_eq_none]
    intro t ht
    obtain ⟨j, hj, rfl⟩ := List.getElem_of_mem ht
    simpa using hb j hj
  unfold tickAt
  rw [this]
abbrev tslV (o len c : Nat) : Value := .slice (some ⟨10, o, none⟩) len c
theorem w141 (ts : List Tim) (o c : Nat) (s : ByteArray) (hl : ts.length < 2 ^ 63) : AC Tryz.prog 141 [tslV o ts.length c, sv s] [(10, .inp o (tcs ts))] 11 (iv (tickAt ts s)) [(10, .inp o (tcs ts))] 11 := by
  have hr := recT_ok (P := Tryz.prog) (l := []) (by simp)
  refine AC.pure Tryz.func141 rfl (by kernel_rfl) rfl [0, 1, 5] rfl ?_
  refine E.seq ?_
  refine E.reg hr (by simp; rfl) ?_ -- region 0
  refine E.seq ?_
  refine E.seq ?_
  refine E.reg hr (by simp; rfl) ?_ -- region 1
  refine E.block ?_ -- 0
  refine E.loop ?_
  refine EL.ind (fun i : Nat => { fr := [(0, tslV o ts.length c), (1, sv s), (5, iv i)], sz := 24, H := [(10, .inp o (tcs ts))], n := 11, marks := [], vs := [0, 1, 5] }) (fun i => ts.length - i) (fun i => i ≤ ts.length ∧ ∀ j, j < i → ∀ h : j < ts.length, ts[j].gun ≠ s) 0 (.less rfl rfl rfl (by simp) (by simp)) ⟨Nat.zero_le _, fun j hj => absurd hj (by omega)⟩ (fun _ => rfl) ?_
  intro i ⟨hi, hg⟩
  have hw : IntKind.i64.wrap ((i : Int) + 1) = (i : Int) + 1 ∨ ¬ i < ts.length := by
    by_cases h : i < ts.length
    · exact .inl (W_in (by omega) (by omega))
    · exact .inr h
  refine E.seq ?_
  refine E.seq ?_
  refine E.reg hr (by simp; rfl) ?_ -- region 2
  refine E.cond (by rfl) (fun h => ?_) (fun h => ?_)
  · simp at h
    have hw := hw.resolve_right (by omega)
    refine E.skip ?_
    refine E.seq ?_
    refine E.block ?_ -- 1
    refine E.seq ?_
    refine E.reg hr (by simp [h, tcs_gunE h]; rfl) ?_ -- region 4
    refine E.cond (by rfl) (fun h2 => ?_) (fun h2 => ?_)
    · simp at h2
      have h7 : i * 2 + 1 < ts.length * 2 := by omega
      refine E.seq ?_
      refine E.reg hr (by simp [h, h7, tcs_tickE h, show o ≤ o + i * 2 + 1 by omega, show o + i * 2 + 1 - o = i * 2 + 1 by omega]; rfl) ?_ -- region 5
      refine E.ret ?_
      exact pureK.ret rfl rfl (by simp [tickAt_hit h h2 fun j h3 h4 => hg j h3 h4]) (by repeat first | exact sub_refl _ | refine sub_cons rfl ?_)
    · simp at h2
      refine E.skip ?_
      refine E.reg hr (by simp [hw]; rfl) ?_ -- region 3
      refine ⟨i + 1, .less rfl rfl rfl (by simp) (by simp), ⟨by omega, fun j hj h3 => ?_⟩, by dsimp only; omega⟩
      rcases Nat.lt_or_ge j i with h4 | h4
      · exact hg j h4 h3
      · obtain rfl : j = i := by omega
        exact h2
  · simp at h
    refine E.exit ?_ -- 0
    refine E.seq ?_
    refine E.reg hr (by simp; rfl) ?_ -- region 6
    refine E.ret ?_
    exact pureK.ret rfl rfl (by simp [tickAt_miss (ts := ts) (s := s) fun j h3 => hg j (by omega) h3]) (by repeat first | exact sub_refl _ | refine sub_cons rfl ?_)
def g141 (args : List Value) (H : Heap) (n : Nat) : R := match args with
  | [.slice (some a) len _, .string s] => (timsAt H a len).map fun ts => (iv (tickAt ts s), H, n)
  | _ => none
theorem ok141 : EntOk Tryz.prog (141, g141) := by
  intro args H n v H' n' h'
  simp only [g141] at h'
  split at h'
  · rename_i a len c s
    rw [Option.map_eq_some_iff] at h'
    obtain ⟨l, h1, h2⟩ := h'
    injection h2 with e1 e2; injection e2 with e2 e3; subst e1 e2 e3
    obtain ⟨hf, hc, hlen, hlt⟩ := timsAt_ok h1
    subst hlen
    exact AC.liftP rfl (Part.one (fun x => [x, sv s]) (by intro φ φ0 s s0 h; simp [denL, den, h]) (by intro p s h; exact ⟨h, trivial, trivial⟩) hf hc (afL_tcs l) [] (by simp [Seen]) gsz fun c => ⟨_, _, w141 l _ c s hlt⟩)
  · cases h'
def shortT (ts : List Tim) : Bool := ts.all (fun t => decide (t.gun.size ≤ 40)) && decide (ts.length ≤ 9)
theorem w57n : AC Tryz.prog 57 [.slice none 0 0] [] 10 (.bool (shortT [])) [] 10 := by
  have hr := recT_ok (P := Tryz.prog) (l := []) (by simp)
  refine AC.pure Tryz.func57 rfl (by kernel_rfl) rfl [0, 3] rfl ?_
  refine E.seq ?_
  refine E.reg hr (by simp; rfl) ?_ -- region 0
  refine E.seq ?_
  refine E.seq ?_
  refine E.reg hr (by simp; rfl) ?_ -- region 1
  refine E.block ?_ -- 0
  refine E.loop ?_
  refine EL.step ?_
  refine E.seq ?_
  refine E.seq ?_
  refine E.reg hr (by simp; rfl) ?_ -- region 2
  refine E.cond (by rfl) (fun h => ?_) (fun h => ?_)
  · simp at h
  refine E.exit ?_ -- 0
  refine E.seq ?_
  refine E.reg hr (by simp; rfl) ?_ -- region 6
  refine E.ret ?_
  exact pureK.ret rfl rfl (by simp [shortT]) (by repeat first | exact sub_refl _ | refine sub_cons rfl ?_)
theorem w57 (ts : List Tim) (o c : Nat) (hl : ts.length < 2 ^ 63) : AC Tryz.prog 57 [tslV o ts.length c] [(10, .inp o (tcs ts))] 11 (.bool (shortT ts)) [(10, .inp o (tcs ts))] 11 := by
  have hr := recT_ok (P := Tryz.prog) (l := []) (by simp)
  refine AC.pure Tryz.func57 rfl (by kernel_rfl) rfl [0, 3] rfl ?_
  refine E.seq ?_
  refine E.reg hr (by simp; rfl) ?_ -- region 0
  refine E.seq ?_
  refine E.seq ?_
  refine E.reg hr (by simp; rfl) ?_ -- region 1
  refine E.block ?_ -- 0
  refine E.loop ?_
  refine EL.ind (fun i : Nat => { fr := [(0, tslV o ts.length c), (3, iv i)], sz := 20, H := [(10, .inp o (tcs ts))], n := 11, marks := [], vs := [0, 3] }) (fun i => ts.length - i) (fun i => i ≤ ts.length ∧ ∀ j, j < i → ∀ h : j < ts.length, ts[j].gun.size ≤ 40) 0 (.less rfl rfl rfl (by simp) (by simp)) ⟨Nat.zero_le _, fun j hj => absurd hj (by omega)⟩ (fun _ => rfl) ?_
  intro i ⟨hi, hg⟩
  refine E.seq ?_
  refine E.seq ?_
  refine E.reg hr (by simp; rfl) ?_ -- region 2
  refine E.cond (by rfl) (fun h => ?_) (fun h => ?_)
  · simp at h
    have hw : IntKind.i64.wrap ((i : Int) + 1) = (i : Int) + 1 := W_in (by omega) (by omega)
    refine E.skip ?_
    refine E.seq ?_
    refine E.block ?_ -- 1
    refine E.seq ?_
    refine E.reg hr (by simp [h, tcs_gunE h]; rfl) ?_ -- region 4
    refine E.cond (by rfl) (fun h2 => ?_) (fun h2 => ?_)
    · simp at h2
      refine E.seq ?_
      refine E.reg hr (by simp; rfl) ?_ -- region 5
      refine E.ret ?_
      have : shortT ts = false := by
        unfold shortT
        rw [show ts.all (fun t => decide (t.gun.size ≤ 40)) = false from List.all_eq_false.2 ⟨ts[i], List.getElem_mem h, by simp; omega⟩, Bool.false_and]
      exact pureK.ret rfl rfl (by simp [this]) (by repeat first | exact sub_refl _ | refine sub_cons rfl ?_)
    · simp at h2
      refine E.skip ?_
      refine E.reg hr (by simp [hw]; rfl) ?_ -- region 3
      exact ⟨i + 1, .less rfl rfl rfl (by simp) (by simp), ⟨by omega, fun j hj h3 => if e : j = i then by subst e; omega else hg j (by omega) h3⟩, by dsimp only; omega⟩
  · simp at h
    refine E.exit ?_ -- 0
    have hall : shortT ts = decide (ts.length ≤ 9) := by
      unfold shortT
      rw [show ts.all (fun t => decide (t.gun.size ≤ 40)) = true from List.all_eq_true.2 fun x hx => by obtain ⟨j, hj, rfl⟩ := List.getElem_of_mem hx; simpa using hg j (by omega) hj, Bool.true_and]
    have e9 : ((ts.length : Int) ≤ 9) = (ts.length ≤ 9) := propext (by omega)
    refine E.seq ?_
    refine E.reg hr (by simp; rfl) ?_ -- region 6
    refine E.ret ?_
    exact pureK.ret rfl rfl (by simp [hall, e9]) (by repeat first | exact sub_refl _ | refine sub_cons rfl ?_)
/-- a function of one slice of timings -/
def gTim (F : List Tim → Value) (args : List Value) (H : Heap) (n : Nat) : R := match args with
  | [v] => (timsW H v).map fun l => (F l, H, n)
  | _ => none
theorem ok57 : EntOk Tryz.prog (57, gTim fun ts => .bool (shortT ts)) := by
  intro args H n v H' n' h'
  simp only [gTim] at h'
  split at h'
  · rw [Option.map_eq_some_iff] at h'
    obtain ⟨l, h1, h2⟩ := h'
    injection h2 with e1 e2; injection e2 with e2 e3; subst e1 e2 e3
    unfold timsW at h1
    split at h1
    · injection h1 with h1; subst h1
      exact AC.liftP rfl (Part.plain (by simp) [] (by simp [Seen]) gsz ⟨_, _, w57n⟩)
    · obtain ⟨hf, hc, hlen, hlt⟩ := timsAt_ok h1
      subst hlen
      exact AC.liftP rfl (Part.one (fun s => [s]) (by intro φ φ0 s s0 h; simp [denL, h]) (by intro p s h; exact ⟨h, trivial⟩) hf hc (afL_tcs l) [] (by simp [Seen]) gsz fun c => ⟨_, _, w57 l _ c hlt⟩)
    · cases h1
  · cases h'
/-! ### timings of one's own -/
theorem tcs_succ {l : List Tim} {i : Nat} (h : i < l.length) : tcs (l.take (i + 1)) = tcs (l.take i) ++ [sv l[i].gun, iv l[i].tick] := by
  rw [List.take_succ_eq_append_getElem h]
  simp only [tcs, List.flatMap_append, List.flatMap_cons, List.flatMap_nil, Tim.cells, List.append_nil]
def S59 (l : List Tim) (o c : Nat) : Nat → St
  | 0 => { fr := [(3, .slice none 0 0), (6, tslV o l.length c), (7, iv l.length), (8, iv 0)], sz := 18, H := [(10, .inp o (tcs l))], n := 11, marks := [], vs := [3, 6, 7, 8] }
  | i + 1 => { fr := [(3, .slice (some ⟨11, 0, some 0⟩) (i + 1) 0), (6, tslV o l.length c), (7, iv l.length), (8, iv (i + 1 : Nat))], sz := 18, H := [(11, .ext (tcs (l.take (i + 1))) 119 2), (10, .inp o (tcs l))], n := 12, marks := [], vs := [3, 6, 7, 8] }
def tmsQ (l : List Tim) (v : Value) (H : Heap) : Prop := ∃ m, v = .slice (some ⟨m, 0, some 0⟩) l.length 0 ∧ hget H m = some (.ext (tcs l) 119 2) ∧ 11 ≤ m
set_option maxRecDepth 100000 in
theorem w59 (l : List Tim) (o c : Nat) (hne : l ≠ []) (hl : l.length ≤ 4096) : ∃ u H1 n1 H2, AC Tryz.prog 59 [tslV o l.length c] [(10, .inp o (tcs l))] 11 u H1 n1 ∧ tmsQ l u H2 ∧ (af u = false → H1 = H2) := by
  have hr := recT_ok (P := Tryz.prog) (l := []) (by simp)
  have hpos : 0 < l.length := List.length_pos_iff.2 hne
  refine AC.out Tryz.func59 rfl (by kernel_rfl) rfl [3, 6, 7, 8] ?_
  refine E.seq ?_
  refine E.reg hr (by simp; rfl) ?_ -- region 0
  refine E.seq ?_
  refine E.reg hr (by simp; rfl) ?_ -- region 1
  refine E.seq ?_
  refine E.seq ?_
  refine E.reg hr (by simp; rfl) ?_ -- region 2
  refine E.block ?_ -- 0
  refine E.loop ?_
  refine EL.ind (S59 l o c) (fun i => l.length - i) (fun i => i ≤ l.length) 0 (.less rfl rfl rfl (by simp [S59]) (by simp [S59])) (Nat.zero_le _) (fun i => by cases i <;> rfl) ?_
  intro i hi
  rcases i with _ | i
  · have hw : IntKind.i64.wrap 1 = 1 := W_in (by omega) (by omega)
    refine E.seq ?_
    refine E.reg hr (by simp [S59]; rfl) ?_ -- region 3
    refine E.seq ?_
    refine E.cond (by rfl) (fun h => ?_) (fun h => ?_)
    · simp at h
      have hx := tcs_take hpos
      have hts : tcs (l.take 1) = [sv l[0].gun, iv l[0].tick] := by rw [tcs_succ hpos]; simp [tcs]
      have h7 : 2 ≤ l.length * 2 := by omega
      rw [Nat.zero_mul, List.drop_zero] at hx
      refine E.skip ?_
      refine E.seq ?_
      refine E.block ?_ -- 1
      refine E.seq ?_
      refine E.reg hr (by simp [hx, hpos, h7, Tim.cells]; rfl) ?_ -- region 4
      refine E.reg hr (by simp; rfl) ?_ -- region 5
      refine E.reg hr (by simp [hw]; rfl) ?_ -- region 6
      exact ⟨1, Leads.ren [13] rfl rfl rfl ⟨rfl, rfl⟩ (by simp [S59]) (by simp [S59, hts]), by omega, by dsimp only; omega⟩
    · simp at h
      exact absurd h hne
  · have hw : IntKind.i64.wrap ((i : Int) + 1 + 1) = (i : Int) + 1 + 1 := W_in (by omega) (by omega)
    have hlen : (tcs (l.take (i + 1))).length = (i + 1) * 2 := by rw [tcs_length, List.length_take, Nat.min_eq_left hi]
    have ht : List.take ((i + 1) * 2) (tcs (l.take (i + 1))) = tcs (l.take (i + 1)) := List.take_of_length_le (by omega)
    refine E.seq ?_
    refine E.reg hr (by simp [S59]; rfl) ?_ -- region 3
    refine E.seq ?_
    refine E.cond (by rfl) (fun h => ?_) (fun h => ?_)
    · simp at h
      have hlt : i + 1 < l.length := by omega
      have hltI : (i : Int) + 1 < l.length := by omega
      have hx := tcs_take hlt
      have hts := tcs_succ hlt
      have h7 : (i + 1) * 2 + 2 ≤ l.length * 2 := by omega
      have hno : ¬ (i + 1 + 1) * 2 ≤ (i + 1) * 2 := by omega
      have hsm : (i + 1 + 1) * 24 ≤ 1099511627776 ∧ (i + 1 + 1) * 2 ≤ 1099511627776 ∧ i + 1 + 1 ≤ 1099511627776 := by omega
      refine E.skip ?_
      refine E.seq ?_
      refine E.block ?_ -- 1
      refine E.seq ?_
      refine E.reg hr (by simp [hx, hltI, h7, Tim.cells]; rfl) ?_ -- region 4
      refine E.reg hr (by simp [hsm, ht, hlen, hno]; rfl) ?_ -- region 5
      refine E.reg hr (by simp [hw]; rfl) ?_ -- region 6
      exact ⟨i + 2, Leads.ren [14] rfl rfl rfl ⟨rfl, rfl⟩ (by simp [S59]) (by simp [S59, hts]), by omega, by dsimp only; omega⟩
    · simp at h
      have hal : l.take (i + 1) = l := List.take_of_length_le (by omega)
      have hll : l.length = i + 1 := by omega
      refine E.exit ?_ -- 0
      refine E.seq ?_
      refine E.reg hr (by simp; rfl) ?_ -- region 7
      refine E.ret ?_
      refine outK.ret rfl rfl ?_
      simp [tmsQ, hal, hll]
theorem w59e (o c : Nat) : AC Tryz.prog 59 [tslV o 0 c] [(10, .inp o (tcs []))] 11 (.slice none 0 0) [(10, .inp o (tcs []))] 11 := by
  have hr := recT_ok (P := Tryz.prog) (l := []) (by simp)
  refine AC.pure Tryz.func59 rfl (by kernel_rfl) rfl [3, 6, 7, 8] rfl ?_
  refine E.seq ?_
  refine E.reg hr (by simp; rfl) ?_ -- region 0
  refine E.seq ?_
  refine E.reg hr (by simp; rfl) ?_ -- region 1
  refine E.seq ?_
  refine E.seq ?_
  refine E.reg hr (by simp; rfl) ?_ -- region 2
  refine E.block ?_ -- 0
  refine E.loop ?_
  refine EL.step ?_
  refine E.seq ?_
  refine E.reg hr (by simp; rfl) ?_ -- region 3
  refine E.seq ?_
  refine E.cond (by rfl) (fun h => ?_) (fun h => ?_)
  · simp at h
  refine E.exit ?_ -- 0
  refine E.seq ?_
  refine E.reg hr (by simp; rfl) ?_ -- region 7
  refine E.ret ?_
  exact pureK.ret rfl rfl (by simp) (by repeat first | exact sub_refl _ | refine sub_cons rfl ?_)
theorem w59n : AC Tryz.prog 59 [.slice none 0 0] [] 10 (.slice none 0 0) [] 10 := by
  have hr := recT_ok (P := Tryz.prog) (l := []) (by simp)
  refine AC.pure Tryz.func59 rfl (by kernel_rfl) rfl [3, 6, 7, 8] rfl ?_
  refine E.seq ?_
  refine E.reg hr (by simp; rfl) ?_ -- region 0
  refine E.seq ?_
  refine E.reg hr (by simp; rfl) ?_ -- region 1
  refine E.seq ?_
  refine E.seq ?_
  refine E.reg hr (by simp; rfl) ?_ -- region 2
  refine E.block ?_ -- 0
  refine E.loop ?_
  refine EL.step ?_
  refine E.seq ?_
  refine E.reg hr (by simp; rfl) ?_ -- region 3
  refine E.seq ?_
  refine E.cond (by rfl) (fun h => ?_) (fun h => ?_)
  · simp at h
  refine E.exit ?_ -- 0
  refine E.seq ?_
  refine E.reg hr (by simp; rfl) ?_ -- region 7
  refine E.ret ?_
  exact pureK.ret rfl rfl (by simp) (by repeat first | exact sub_refl _ | refine sub_cons rfl ?_)
def g59 (args : List Value) (H : Heap) (n : Nat) : R := match args with
  | [v] => match timsW H v with
    | some l => if l = [] then some (.slice none 0 0, H, n) else if l.length ≤ 4096 then some (.slice (some ⟨n, 0, some 0⟩) l.length 0, (n, .ext (tcs l) 119 2) :: H, n + 1) else none
    | none => none
  | _ => none
theorem ok59 : EntOk Tryz.prog (59, g59) := by
  intro args H n v H' n' h'
  simp only [g59] at h'
  split at h'
  · rename_i x
    split at h'
    · rename_i l hx
      split at h'
      · rename_i hl
        subst hl
        injection h' with h'; injection h' with e1 e2; injection e2 with e2 e3; subst e1 e2 e3
        unfold timsW at hx
        split at hx
        · exact AC.liftP (by simp) (Part.plain (by simp) [] (by simp [Seen]) gsz ⟨_, _, w59n⟩)
        · obtain ⟨hf, hc, hlen, hlt⟩ := timsAt_ok hx
          subst hlen
          exact AC.liftP (by simp) (Part.one (fun s => [s]) (by intro φ φ0 s s0 h; simp [denL, h]) (by intro p s h; exact ⟨h, trivial⟩) hf hc (afL_tcs []) [] (by simp [Seen]) gsz fun c => ⟨_, _, w59e _ c⟩)
        · cases hx
      rename_i hne
      split at h'
      · rename_i hle
        injection h' with h'; injection h' with e1 e2; injection e2 with e2 e3; subst e1 e2 e3
        unfold timsW at hx
        split at hx
        · injection hx with hx; exact absurd hx.symm hne
        · obtain ⟨hf, hc, hlen, hlt⟩ := timsAt_ok hx
          subst hlen
          refine AC.liftF (names_sx _ _) (.inr ⟨_, _, _, rfl, afL_tcs l⟩) (Part.one (fun s => [s]) (by intro φ φ0 s s0 h; simp [denL, h]) (by intro p s h; exact ⟨h, trivial⟩) hf hc (afL_tcs l) [] (by simp [Seen]) gsz fun c => ?_)
          obtain ⟨u, H1, n1, H2, hAC, hq, hh⟩ := w59 l _ c hne hle
          obtain ⟨m, hv, hm, hle⟩ := hq
          subst hv
          have := hh rfl
          subst this
          exact ⟨m, _, _, hle, hm, hAC⟩
        · cases hx
      · cases h'
    · cases h'
  · cases h'
end Go.Proofs.YtndlfijfjglkdaaGreatDoor

namespace Go.Proofs.YtndlfijfjglkdaaGreatDoor
open Go Go.Ab Go.Proofs
/-! ### what is wrong with timings -/
def chkT (l : List Gun) (ts : List Tim) (j : Nat) : Int := match ts[j]? with
  | some t => firstV [if atV l t.gun l.length < 0 then 10 else 0, if hasW t.gun ((ts.take j).map (·.gun)) then 9 else 0, withinV t.tick 0 100000]
  | none => 0
def timE (l : List Gun) (ts : List Tim) : Int :=
  if firstV ((List.range ts.length).map (chkT l ts)) ≠ 0 then firstV ((List.range ts.length).map (chkT l ts)) else if ts.length < l.length then 32 else 0
theorem timE_hit {l : List Gun} {ts : List Tim} {i : Nat} (hi : i < ts.length) (hb : ∀ j, j < i → chkT l ts j = 0) (hne : chkT l ts i ≠ 0) : timE l ts = chkT l ts i := by
  unfold timE
  rw [firstV_map_hit hi hb hne, if_pos hne]
theorem timE_ok {l : List Gun} {ts : List Tim} (hb : ∀ j, j < ts.length → chkT l ts j = 0) : timE l ts = if ts.length < l.length then 32 else 0 := by
  unfold timE
  rw [firstV_map_zero hb, if_neg (by simp)]
set_option maxRecDepth 100000 in
theorem w61 (l : List Gun) (ts : List Tim) (o c o2 c2 : Nat) (hl : l.length < 2 ^ 63) (hts : ts.length < 2 ^ 63) : AC Tryz.prog 61 [strV o l.length c, .slice (some ⟨11, o2, none⟩) ts.length c2] [(11, .inp o2 (tcs ts)), (10, .inp o (gcs l))] 12 (iv (timE l ts)) [(11, .inp o2 (tcs ts)), (10, .inp o (gcs l))] 12 := by
  have hr := recT_ok (P := Tryz.prog) (l := [(75, g75), (62, g138)]) (by simp only [List.forall_mem_cons]; exact ⟨ok75, ok62, by simp⟩)
  have hat : ∀ X Y : Blk, gunsAt [(12, X), (11, Y), (10, .inp o (gcs l))] ⟨10, o, none⟩ l.length = some l := fun X Y => by
    unfold gunsAt
    simp [List.take_of_length_le, gunsOf_gcs, show l.length < 9223372036854775808 by omega]
  refine AC.pure Tryz.func61 rfl (by kernel_rfl) rfl [1, 2, 5, 6] rfl ?_
  refine E.seq ?_
  refine E.reg hr (by simp; rfl) ?_ -- region 0
  refine E.seq ?_
  refine E.seq ?_
  refine E.reg hr (by simp; rfl) ?_ -- region 1
  refine E.block ?_ -- 0
  refine E.loop ?_
  refine EL.ind (fun i : Nat => { fr := [(1, .slice (some ⟨11, o2, none⟩) ts.length c2), (2, .pointer (some ⟨12, 0, none⟩)), (5, iv i)], sz := 56, H := [(12, .cells [.slice (some ⟨10, o, none⟩) l.length c] 24), (11, .inp o2 (tcs ts)), (10, .inp o (gcs l))], n := 13, marks := [], vs := [1, 2, 5, 6] }) (fun i => ts.length - i) (fun i => i ≤ ts.length ∧ ∀ j, j < i → chkT l ts j = 0) 0 (.less rfl rfl rfl (by simp) (by simp)) ⟨Nat.zero_le _, fun j hj => absurd hj (by omega)⟩ (fun _ => rfl) ?_
  intro i ⟨hi, hg⟩
  refine E.seq ?_
  refine E.seq ?_
  refine E.reg hr (by simp; rfl) ?_ -- region 2
  refine E.cond (by rfl) (fun h => ?_) (fun h => ?_)
  · simp at h
    have hw : IntKind.i64.wrap ((i : Int) + 1) = (i : Int) + 1 := W_in (by omega) (by omega)
    have hC : chkT l ts i = firstV [if atV l ts[i].gun l.length < 0 then 10 else 0, if hasW ts[i].gun ((ts.take i).map (·.gun)) then 9 else 0, withinV ts[i].tick 0 100000] := by
      unfold chkT
      rw [List.getElem?_eq_getElem h]
    refine E.skip ?_
    refine E.seq ?_
    refine E.block ?_ -- 1
    refine E.seq ?_
    refine E.seq ?_
    refine E.drawC mixed hr [9] [9] [0, 5, 7, 9] (by kernel_rfl) (by simp [h, tcs_gunE h, g75, hat]; rfl) ?_ -- region 4
    refine E.cond (by rfl) (fun h2 => ?_) (fun h2 => ?_)
    · simp at h2
      refine E.seq ?_
      refine E.reg hr (by simp; rfl) ?_ -- region 5
      refine E.ret ?_
      have : chkT l ts i = 10 := by rw [hC, if_pos h2]; rfl
      exact pureK.ret rfl rfl (by simp [timE_hit h hg (by omega), this]) (by repeat first | exact sub_refl _ | refine sub_cons rfl ?_)
    · simp at h2
      refine E.skip ?_
      refine E.seq ?_
      refine E.seq ?_
      refine E.reg hr (by simp; rfl) ?_ -- region 6
      refine E.block ?_ -- 2
      refine E.loop ?_
      refine EL.ind (fun k : Nat => { fr := [(1, .slice (some ⟨11, o2, none⟩) ts.length c2), (2, .pointer (some ⟨12, 0, none⟩)), (5, iv i), (6, iv k)], sz := 56, H := [(12, .cells [.slice (some ⟨10, o, none⟩) l.length c] 24), (11, .inp o2 (tcs ts)), (10, .inp o (gcs l))], n := 13, marks := [], vs := [1, 2, 5, 6] }) (fun k => i - k) (fun k => k ≤ i ∧ ∀ j, j < k → ∀ h : j < ts.length, ts[j].gun ≠ ts[i].gun) 0 (.less rfl rfl rfl (by simp) (by simp)) ⟨Nat.zero_le _, fun j hj => absurd hj (by omega)⟩ (fun _ => rfl) ?_
      intro k ⟨hk, hgk⟩
      refine E.seq ?_
      refine E.seq ?_
      refine E.reg hr (by simp; rfl) ?_ -- region 7
      refine E.cond (by rfl) (fun h3 => ?_) (fun h3 => ?_)
      · simp at h3
        have hkt : k < ts.length := by omega
        have hwk : IntKind.i64.wrap ((k : Int) + 1) = (k : Int) + 1 := W_in (by omega) (by omega)
        refine E.skip ?_
        refine E.seq ?_
        refine E.block ?_ -- 3
        refine E.seq ?_
        refine E.drawC mixed hr [] [] [4, 9] (by kernel_rfl) (by simp [h, hkt, tcs_gunE h, tcs_gunE hkt]; rfl) ?_ -- region 9
        refine E.cond (by rfl) (fun h4 => ?_) (fun h4 => ?_)
        · simp at h4
          refine E.seq ?_
          refine E.reg hr (by simp; rfl) ?_ -- region 10
          refine E.ret ?_
          have hh : hasW ts[i].gun ((ts.take i).map (·.gun)) = true := hasW_iff.2 (List.mem_map.2 ⟨ts[k], by rw [List.mem_take_iff_getElem]; exact ⟨k, by omega, rfl⟩, h4⟩)
          have : chkT l ts i = 9 := by rw [hC, if_neg (by omega), if_pos hh]; rfl
          exact pureK.ret rfl rfl (by simp [timE_hit h hg (by omega), this]) (by repeat first | exact sub_refl _ | refine sub_cons rfl ?_)
        · simp at h4
          refine E.skip ?_
          refine E.reg hr (by simp [hwk]; rfl) ?_ -- region 8
          refine ⟨k + 1, .less rfl rfl rfl (by simp) (by simp), ⟨by omega, fun j hj h5 => ?_⟩, by dsimp only; omega⟩
          rcases Nat.lt_or_ge j k with h6 | h6
          · exact hgk j h6 h5
          · obtain rfl : j = k := by omega
            exact h4
      · simp at h3
        have hh : hasW ts[i].gun ((ts.take i).map (·.gun)) = false := by
          cases e : hasW ts[i].gun ((ts.take i).map (·.gun)) with
          | false => rfl
          | true =>
            obtain ⟨t, ht, e2⟩ := List.mem_map.1 (hasW_iff.1 e)
            rw [List.mem_take_iff_getElem] at ht
            obtain ⟨j, hj, rfl⟩ := ht
            exact absurd e2 (hgk j (by omega) (by omega))
        have hC2 : chkT l ts i = withinV ts[i].tick 0 100000 := by rw [hC, if_neg (by omega), hh]; simp [firstV]; omega
        have h7 : i * 2 + 1 < ts.length * 2 := by omega
        refine E.exit ?_ -- 2
        refine E.seq ?_
        refine E.reg hr (by simp [h, h7, tcs_tickE h, show o2 ≤ o2 + i * 2 + 1 by omega, show o2 + i * 2 + 1 - o2 = i * 2 + 1 by omega, g138]; rfl) ?_ -- region 11
        refine E.seq ?_
        refine E.reg hr (by simp; rfl) ?_ -- region 12
        refine E.cond (by rfl) (fun h5 => ?_) (fun h5 => ?_)
        · simp at h5
          refine E.seq ?_
          refine E.reg hr (by simp; rfl) ?_ -- region 13
          refine E.ret ?_
          exact pureK.ret rfl rfl (by simp [timE_hit h hg (by rw [hC2]; exact h5), hC2]) (by repeat first | exact sub_refl _ | refine sub_cons rfl ?_)
        · simp at h5
          refine E.skip ?_
          refine E.reg hr (by simp [hw]; rfl) ?_ -- region 3
          refine ⟨i + 1, .less rfl rfl rfl (by simp) (by simp), ⟨by omega, fun j hj => ?_⟩, by dsimp only; omega⟩
          rcases Nat.lt_or_ge j i with h6 | h6
          · exact hg j h6
          · obtain rfl : j = i := by omega
            rw [hC2]; exact h5
  · simp at h
    have hall := timE_ok (l := l) (ts := ts) fun j hj => hg j (by omega)
    refine E.exit ?_ -- 0
    refine E.seq ?_
    refine E.seq ?_
    refine E.reg hr (by simp; rfl) ?_ -- region 14
    refine E.cond (by rfl) (fun h2 => ?_) (fun h2 => ?_)
    · simp at h2
      refine E.seq ?_
      refine E.reg hr (by simp; rfl) ?_ -- region 15
      refine E.ret ?_
      exact pureK.ret rfl rfl (by simp [hall, h2]) (by repeat first | exact sub_refl _ | refine sub_cons rfl ?_)
    · simp at h2
      refine E.skip ?_
      refine E.seq ?_
      refine E.reg hr (by simp; rfl) ?_ -- region 16
      refine E.ret ?_
      exact pureK.ret rfl rfl (by simp [hall, show ¬ ts.length < l.length by omega]) (by repeat first | exact sub_refl _ | refine sub_cons rfl ?_)
theorem w61t (l : List Gun) (o c : Nat) (h1 : 1 ≤ l.length) (hl : l.length < 2 ^ 63) : AC Tryz.prog 61 [strV o l.length c, .slice none 0 0] [(10, .inp o (gcs l))] 11 (iv (timE l [])) [(10, .inp o (gcs l))] 11 := by
  have hr := recT_ok (P := Tryz.prog) (l := []) (by simp)
  refine AC.pure Tryz.func61 rfl (by kernel_rfl) rfl [1, 2, 5, 6] rfl ?_
  refine E.seq ?_
  refine E.reg hr (by simp; rfl) ?_ -- region 0
  refine E.seq ?_
  refine E.seq ?_
  refine E.reg hr (by simp; rfl) ?_ -- region 1
  refine E.block ?_ -- 0
  refine E.loop ?_
  refine EL.step ?_
  refine E.seq ?_
  refine E.seq ?_
  refine E.reg hr (by simp; rfl) ?_ -- region 2
  refine E.cond (by rfl) (fun h => ?_) (fun h => ?_)
  · simp at h
  refine E.exit ?_ -- 0
  refine E.seq ?_
  refine E.seq ?_
  refine E.reg hr (by simp; rfl) ?_ -- region 14
  refine E.cond (by rfl) (fun h2 => ?_) (fun h2 => ?_)
  · refine E.seq ?_
    refine E.reg hr (by simp; rfl) ?_ -- region 15
    refine E.ret ?_
    exact pureK.ret rfl rfl (by simp [timE, firstV, show 0 < l.length by omega]) (by repeat first | exact sub_refl _ | refine sub_cons rfl ?_)
  · simp at h2
    subst h2
    simp at h1
def g61 (args : List Value) (H : Heap) (n : Nat) : R := match args with
  | [.agg ⟨[.slice (some a) len _]⟩, .slice (some a2) len2 _] => match gunsAt H a len, timsAt H a2 len2 with
    | some l, some ts => some (iv (timE l ts), H, n)
    | _, _ => none
  | [.agg ⟨[.slice (some a) len _]⟩, .slice none 0 0] => match gunsAt H a len with
    | some l => if 1 ≤ l.length then some (iv (timE l []), H, n) else none
    | none => none
  | _ => none
theorem ok61 : EntOk Tryz.prog (61, g61) := by
  intro args H n v H' n' h'
  simp only [g61] at h'
  split at h'
  · rename_i a len c0 a2 len2 c02
    split at h'
    · rename_i l ts hl ht
      injection h' with h'; injection h' with e1 e2; injection e2 with e2 e3; subst e1 e2 e3
      obtain ⟨hf, hcl, hlen, hlt⟩ := gunsAt_ok hl
      obtain ⟨hf2, hct, hlen2, hlt2⟩ := timsAt_ok ht
      subst hlen hlen2
      exact AC.liftP rfl (Part.two (fun s u => [.agg ⟨[s]⟩, u]) (by intro φ φ0 s s0 u u0 h h'; simp [denL, den, h, h']) (by intro p s u h h'; exact ⟨⟨h, trivial⟩, h', trivial⟩) hf hcl (afL_gcs l) hf2 hct (afL_tcs ts) [] (by simp [Seen]) gsz fun c c2 => ⟨_, _, w61 l ts a.off c a2.off c2 hlt hlt2⟩)
    · cases h'
  · rename_i a len c0
    split at h'
    · rename_i l hl
      split at h'
      · rename_i h1
        injection h' with h'; injection h' with e1 e2; injection e2 with e2 e3; subst e1 e2 e3
        obtain ⟨hf, hcl, hlen, hlt⟩ := gunsAt_ok hl
        subst hlen
        exact AC.liftP rfl (Part.one (fun s => [.agg ⟨[s]⟩, .slice none 0 0]) (by intro φ φ0 s s0 h; simp [denL, den, h]) (by intro p s h; exact ⟨⟨h, trivial⟩, trivial, trivial⟩) hf hcl (afL_gcs l) [] (by simp [Seen]) gsz fun c => ⟨_, _, w61t l a.off c h1 hlt⟩)
      · cases h'
    · cases h'
  · cases h'
end Go.Proofs.YtndlfijfjglkdaaGreatDoor

namespace Go.Proofs.YtndlfijfjglkdaaGreatDoor
open Go Go.Ab Go.Proofs
/-! ### the reference's misfires -/
def lateT (l : List Gun) (ts : List Tim) (i : Nat) : Int := match l[i]? with
  | some g => IntKind.i64.wrap (tickAt ts g.name - g.d)
  | none => 0
def missTB (l : List Gun) (ts : List Tim) (lim : Int) (i : Nat) : Bool := decide (lim < max (lateT l ts i) (IntKind.i64.wrap (-(lateT l ts i))))
def missTN (l : List Gun) (ts : List Tim) (lim : Int) : Nat → List ByteArray
  | 0 => []
  | i + 1 => if missTB l ts lim i then missTN l ts lim i ++ [nameAt l i] else missTN l ts lim i
theorem missTN_len (l : List Gun) (ts : List Tim) (lim : Int) (i : Nat) : (missTN l ts lim i).length ≤ i := by
  induction i with
  | zero => simp [missTN]
  | succ i ih =>
    unfold missTN
    split
    · simp; omega
    · omega
theorem max33' (a b : Int) (c : Array Bool) : runP Tryz.prog (builtin .max #[3, 3] 3 c #[iv a, iv b]) = some (.value (iv (max a b))) := by
  have h : runP Tryz.prog (builtin .max #[3, 3] 3 c #[iv a, iv b]) = some (.value (.int .i64 (if b > a then b else a))) := rfl
  rw [h]
  congr 3
  split <;> omega
theorem gcs_dE' {l : List Gun} {i : Nat} (h : i < l.length) (h2 : i * 7 + 4 < (gcs l).length) : (gcs l)[i * 7 + 4] = iv l[i].d := by
  have := gcs_get h 4 (by omega)
  rw [List.getElem?_eq_getElem h2] at this
  exact Option.some.inj this
abbrev H63 (l : List Gun) (ts : List Tim) (o c o2 : Nat) : Heap := [(12, .cells [.slice (some ⟨10, o, none⟩) l.length c] 24), (11, .inp o2 (tcs ts)), (10, .inp o (gcs l))]
def S63 (l : List Gun) (ts : List Tim) (o c o2 c2 : Nat) (lim : Int) : Nat × Option (List ByteArray) → St
  | (i, none) => { fr := [(1, .slice (some ⟨11, o2, none⟩) ts.length c2), (2, iv lim), (3, .pointer (some ⟨12, 0, none⟩)), (7, .slice none 0 0), (8, iv i)], sz := 48, H := H63 l ts o c o2, n := 13, marks := [], vs := [1, 2, 3, 7, 8] }
  | (i, some w) => { fr := [(1, .slice (some ⟨11, o2, none⟩) ts.length c2), (2, iv lim), (3, .pointer (some ⟨12, 0, none⟩)), (7, .slice (some ⟨13, 0, some 0⟩) w.length 0), (8, iv i)], sz := 48, H := (13, .ext (w.map sv) 9 1) :: H63 l ts o c o2, n := 14, marks := [], vs := [1, 2, 3, 7, 8] }
def G63 (l : List Gun) (ts : List Tim) (lim : Int) : Nat × Option (List ByteArray) → Prop
  | (i, none) => i ≤ l.length ∧ missTN l ts lim i = []
  | (i, some w) => i ≤ l.length ∧ missTN l ts lim i = w ∧ w ≠ []
def wdsQ (W : List ByteArray) (v : Value) (H : Heap) : Prop := if W = [] then v = .slice none 0 0 else ∃ m, v = .slice (some ⟨m, 0, some 0⟩) W.length 0 ∧ hget H m = some (.ext (W.map sv) 9 1) ∧ 12 ≤ m
set_option maxRecDepth 100000 in
theorem w63 (l : List Gun) (ts : List Tim) (o c o2 c2 : Nat) (lim : Int) (hl : l.length ≤ 4096) (hts : ts.length < 2 ^ 63) : ∃ u H1 n1 H2, AC Tryz.prog 63 [strV o l.length c, .slice (some ⟨11, o2, none⟩) ts.length c2, iv lim] [(11, .inp o2 (tcs ts)), (10, .inp o (gcs l))] 12 u H1 n1 ∧ wdsQ (missTN l ts lim l.length) u H2 ∧ (af u = false → H1 = H2) := by
  have hr := recT_ok (P := Tryz.prog) (l := [(141, g141)]) (by simp only [List.forall_mem_cons]; exact ⟨ok141, by simp⟩)
  have htat : ∀ G : Heap, hget G 11 = some (.inp o2 (tcs ts)) → timsAt G ⟨11, o2, none⟩ ts.length = some ts := fun G hG => by
    unfold timsAt
    simp [hG, List.take_of_length_le, timsOf_tcs, show ts.length < 9223372036854775808 by omega]
  refine AC.out Tryz.func63 rfl (by kernel_rfl) rfl [1, 2, 3, 7, 8] ?_
  refine E.seq ?_
  refine E.reg hr (by simp; rfl) ?_ -- region 0
  refine E.seq ?_
  refine E.reg hr (by simp; rfl) ?_ -- region 1
  refine E.seq ?_
  refine E.seq ?_
  refine E.reg hr (by simp; rfl) ?_ -- region 2
  refine E.block ?_ -- 0
  refine E.loop ?_
  refine EL.ind (S63 l ts o c o2 c2 lim) (fun x => l.length - x.1) (G63 l ts lim) (0, none) (.less rfl rfl rfl (by simp [S63]) (by simp [S63])) ⟨Nat.zero_le _, rfl⟩ (fun x => by obtain ⟨i, _ | w⟩ := x <;> rfl) ?_
  intro ⟨i, w⟩ hgood
  have hi : i ≤ l.length := by cases w <;> exact hgood.1
  rcases w with _ | w
  · have hg := hgood.2
    refine E.seq ?_
    refine E.seq ?_
    refine E.reg hr (by simp [S63]; rfl) ?_ -- region 3
    refine E.cond (by rfl) (fun h3 => ?_) (fun h3 => ?_)
    · simp at h3
      have hw : IntKind.i64.wrap ((i : Int) + 1) = (i : Int) + 1 := W_in (by omega) (by omega)
      have h7 : i * 7 + 4 < l.length * 7 := by omega
      have h7n : i * 7 < l.length * 7 := by omega
      have hlv : IntKind.i64.wrap (tickAt ts l[i].name - l[i].d) = lateT l ts i := by unfold lateT; rw [List.getElem?_eq_getElem h3]
      have hna : nameAt l i = l[i].name := by unfold nameAt; rw [List.getElem?_eq_getElem h3]
      refine E.skip ?_
      refine E.seq ?_
      refine E.block ?_ -- 1
      refine E.seq ?_
      refine E.drawC mixed hr [] [7] [2, 6, 7] (by kernel_rfl) (by simp [h3, h7, h7n, gcs_nameE h3, gcs_dE' h3, g141, htat, hlv, show o ≤ o + i * 7 + 4 by omega, show o + i * 7 + 4 - o = i * 7 + 4 by omega]; rfl) ?_ -- region 5
      refine E.seq ?_
      have hmb : missTB l ts lim i = decide (lim < max (lateT l ts i) (IntKind.i64.wrap (-(lateT l ts i)))) := rfl
      refine E.regL hr { fr := [(37, .bool (missTB l ts lim i)), (1, .slice (some ⟨11, o2, none⟩) ts.length c2), (2, iv lim), (3, .pointer (some ⟨12, 0, none⟩)), (7, .slice none 0 0), (8, iv i)], sz := 48, H := H63 l ts o c o2, n := 13, marks := [], vs := [1, 2, 3, 7, 8] } ?_ ?_ -- region 6
      · refine ⟨_, by simp [max33']; rfl, ?_⟩
        exact .less rfl rfl rfl (by simp [hmb]) (by simp)
      refine E.cond (by rfl) (fun h4 => ?_) (fun h4 => ?_)
      · refine E.reg hr (by simp [h3, h7n, gcs_nameE h3]; rfl) ?_ -- region 7
        refine E.reg hr (by simp [hw]; rfl) ?_ -- region 4
        refine ⟨(i + 1, some [l[i].name]), Leads.ren [12, 14] rfl rfl rfl ⟨rfl, rfl⟩ (by simp [S63]) (by simp [S63]), ⟨by omega, by simp [missTN, h4, hg, hna], by simp⟩, by dsimp only; omega⟩
      · refine E.skip ?_
        refine E.reg hr (by simp [hw]; rfl) ?_ -- region 4
        exact ⟨(i + 1, none), Leads.ren [12] rfl rfl rfl ⟨rfl, rfl⟩ (by simp [S63]) (by simp [S63]), ⟨by omega, by simp [missTN, h4, hg]⟩, by dsimp only; omega⟩
    · simp at h3
      have hall : missTN l ts lim l.length = [] := by rw [← hg, show i = l.length by omega]
      refine E.exit ?_ -- 0
      refine E.seq ?_
      refine E.reg hr (by simp; rfl) ?_ -- region 8
      refine E.ret ?_
      refine outK.ret rfl rfl ?_
      simp [wdsQ, hall]
  · obtain ⟨_, hg, hne⟩ := hgood
    have hwlen : w.length ≤ i := hg ▸ missTN_len l ts lim i
    refine E.seq ?_
    refine E.seq ?_
    refine E.reg hr (by simp [S63]; rfl) ?_ -- region 3
    refine E.cond (by rfl) (fun h3 => ?_) (fun h3 => ?_)
    · simp at h3
      have hw : IntKind.i64.wrap ((i : Int) + 1) = (i : Int) + 1 := W_in (by omega) (by omega)
      have h7 : i * 7 + 4 < l.length * 7 := by omega
      have h7n : i * 7 < l.length * 7 := by omega
      have hlv : IntKind.i64.wrap (tickAt ts l[i].name - l[i].d) = lateT l ts i := by unfold lateT; rw [List.getElem?_eq_getElem h3]
      have hna : nameAt l i = l[i].name := by unfold nameAt; rw [List.getElem?_eq_getElem h3]
      have ht : List.take w.length (w.map sv) = w.map sv := List.take_of_length_le (by simp)
      have hsm : (w.length + 1) * 16 ≤ 1099511627776 ∧ w.length + 1 ≤ 1099511627776 := by omega
      refine E.skip ?_
      refine E.seq ?_
      refine E.block ?_ -- 1
      refine E.seq ?_
      refine E.drawC mixed hr [] [7] [2, 6, 7] (by kernel_rfl) (by simp [h3, h7, h7n, gcs_nameE h3, gcs_dE' h3, g141, htat, hlv, show o ≤ o + i * 7 + 4 by omega, show o + i * 7 + 4 - o = i * 7 + 4 by omega]; rfl) ?_ -- region 5
      refine E.seq ?_
      have hmb : missTB l ts lim i = decide (lim < max (lateT l ts i) (IntKind.i64.wrap (-(lateT l ts i)))) := rfl
      refine E.regL hr { fr := [(37, .bool (missTB l ts lim i)), (1, .slice (some ⟨11, o2, none⟩) ts.length c2), (2, iv lim), (3, .pointer (some ⟨12, 0, none⟩)), (7, .slice (some ⟨13, 0, some 0⟩) w.length 0), (8, iv i)], sz := 48, H := (13, .ext (w.map sv) 9 1) :: H63 l ts o c o2, n := 14, marks := [], vs := [1, 2, 3, 7, 8] } ?_ ?_ -- region 6
      · refine ⟨_, by simp [max33']; rfl, ?_⟩
        exact .less rfl rfl rfl (by simp [hmb]) (by simp)
      refine E.cond (by rfl) (fun h4 => ?_) (fun h4 => ?_)
      · refine E.reg hr (by simp [h3, h7n, gcs_nameE h3, ht, hsm]; rfl) ?_ -- region 7
        refine E.reg hr (by simp [hw]; rfl) ?_ -- region 4
        refine ⟨(i + 1, some (w ++ [l[i].name])), Leads.ren [12, 15] rfl rfl rfl ⟨rfl, rfl⟩ (by simp [S63]) (by simp [S63]), ⟨by omega, by simp [missTN, h4, hg, hna], by simp⟩, by dsimp only; omega⟩
      · refine E.skip ?_
        refine E.reg hr (by simp [hw]; rfl) ?_ -- region 4
        exact ⟨(i + 1, some w), Leads.ren [12, 13] rfl rfl rfl ⟨rfl, rfl⟩ (by simp [S63]) (by simp [S63]), ⟨by omega, by simp [missTN, h4, hg], hne⟩, by dsimp only; omega⟩
    · simp at h3
      have hall : missTN l ts lim l.length = w := by rw [← hg, show i = l.length by omega]
      refine E.exit ?_ -- 0
      refine E.seq ?_
      refine E.reg hr (by simp; rfl) ?_ -- region 8
      refine E.ret ?_
      refine outK.ret rfl rfl ?_
      simp [wdsQ, hall, hne]
def gWds (W : List ByteArray) (H : Heap) (n : Nat) : R := if W = [] then some (.slice none 0 0, H, n) else some (.slice (some ⟨n, 0, some 0⟩) W.length 0, (n, .ext (W.map sv) 9 1) :: H, n + 1)
def g63 (args : List Value) (H : Heap) (n : Nat) : R := match args with
  | [.agg ⟨[.slice (some a) len _]⟩, .slice (some a2) len2 _, .int .i64 lim] => match gunsAt H a len, timsAt H a2 len2 with
    | some l, some ts => if l.length ≤ 4096 then gWds (missTN l ts lim l.length) H n else none
    | _, _ => none
  | _ => none
theorem ok63 : EntOk Tryz.prog (63, g63) := by
  intro args H n v H' n' h'
  simp only [g63] at h'
  split at h'
  · rename_i a len c0 a2 len2 c02 lim
    split at h'
    · rename_i l ts hl ht
      split at h'
      · rename_i h4
        obtain ⟨hf, hcl, hlen, hlt⟩ := gunsAt_ok hl
        obtain ⟨hf2, hct, hlen2, hlt2⟩ := timsAt_ok ht
        subst hlen hlen2
        have hp := fun (R : List Value → Heap → Nat → Prop) (hR : _) => Part.two (P := Tryz.prog) (H := H) (n := n) (R := R) (len := l.length) (cap := c0) (len2 := ts.length) (cap2 := c02) (fun s u => [.agg ⟨[s]⟩, u, iv lim]) (by intro φ φ0 s s0 u u0 h h'; simp [denL, den, h, h']) (by intro p s u h h'; exact ⟨⟨h, trivial⟩, h', trivial, trivial⟩) hf hcl (afL_gcs l) hf2 hct (afL_tcs ts) [] (by simp [Seen]) gsz hR
        have hw := fun c c2 => w63 l ts a.off c a2.off c2 lim h4 hlt2
        unfold gWds at h'
        split at h'
        · rename_i he
          injection h' with h'; injection h' with e1 e2; injection e2 with e2 e3; subst e1 e2 e3
          refine AC.liftP (by simp) (hp _ fun c c2 => ?_)
          obtain ⟨u, H1, n1, H2, hAC, hq, _⟩ := hw c c2
          unfold wdsQ at hq
          rw [if_pos he] at hq
          subst hq
          exact ⟨_, _, hAC⟩
        · rename_i he
          injection h' with h'; injection h' with e1 e2; injection e2 with e2 e3; subst e1 e2 e3
          refine AC.liftF (names_sx _ _) (.inr ⟨_, _, _, rfl, afL_sv _⟩) (hp _ fun c c2 => ?_)
          obtain ⟨u, H1, n1, H2, hAC, hq, hh⟩ := hw c c2
          unfold wdsQ at hq
          rw [if_neg he] at hq
          obtain ⟨m, hu, hm, hle⟩ := hq
          subst hu
          have := hh (by simp)
          subst this
          exact ⟨m, _, _, hle, hm, hAC⟩
      · cases h'
    · cases h'
  · cases h'
end Go.Proofs.YtndlfijfjglkdaaGreatDoor

namespace Go.Proofs.YtndlfijfjglkdaaGreatDoor
open Go Go.Ab Go.Proofs
/-! ### told -/
abbrev H55 (o : Nat) (l : List Gun) (c : Nat) (s : Value) : Heap := [(13, .cells [s] 24), (12, .cells [.slice none 0 0] 24), (11, .cells [.slice (some ⟨10, o, none⟩) l.length c] 32), (10, .inp o (gcs l))]
def S55 (l : List Gun) (o c : Nat) : Nat → St
  | 0 => { fr := [(2, .pointer (some ⟨12, 0, none⟩)), (3, .pointer (some ⟨13, 0, none⟩)), (7, .slice (some ⟨10, o, none⟩) l.length c), (8, iv l.length), (9, iv 0)], sz := 21, H := H55 o l c (.slice none 0 0), n := 14, marks := [], vs := [2, 3, 7, 8, 9] }
  | i + 1 => { fr := [(2, .pointer (some ⟨12, 0, none⟩)), (3, .pointer (some ⟨13, 0, none⟩)), (7, .slice (some ⟨10, o, none⟩) l.length c), (8, iv l.length), (9, iv (i + 1 : Nat))], sz := 21, H := (14, .ext (gcs (l.take (i + 1))) 94 7) :: H55 o l c (.slice (some ⟨14, 0, some 0⟩) (i + 1) 0), n := 15, marks := [], vs := [2, 3, 7, 8, 9] }
/-- a string of guns in memory of one's own -/
def strQ55 (l : List Gun) (u : Value) (H : Heap) : Prop := if l = [] then u = nilV else ∃ m, u = .agg ⟨[.slice (some ⟨m, 0, some 0⟩) l.length 0]⟩ ∧ hget H m = some (.ext (gcs l) 94 7) ∧ 11 ≤ m
set_option maxRecDepth 100000 in
theorem w55 (l : List Gun) (o c : Nat) (hne : l ≠ []) (hl : l.length ≤ 4096) : ∃ u H1 n1 H2, AC Tryz.prog 55 [strV o l.length c] [(10, .inp o (gcs l))] 11 u H1 n1 ∧ strQ55 l u H2 ∧ (af u = false → H1 = H2) := by
  have hr := recT_ok (P := Tryz.prog) (l := []) (by simp)
  have hpos : 0 < l.length := List.length_pos_iff.2 hne
  refine AC.out Tryz.func55 rfl (by kernel_rfl) rfl [2, 3, 7, 8, 9] ?_
  refine E.seq ?_
  refine E.reg hr (by simp; rfl) ?_ -- region 0
  refine E.seq ?_
  refine E.reg hr (by simp; rfl) ?_ -- region 1
  refine E.seq ?_
  refine E.seq ?_
  refine E.reg hr (by simp; rfl) ?_ -- region 2
  refine E.block ?_ -- 0
  refine E.loop ?_
  refine EL.ind (S55 l o c) (fun i => l.length - i) (fun i => i ≤ l.length) 0 (.less rfl rfl rfl (by simp [S55]) (by simp [S55])) (Nat.zero_le _) (fun i => by cases i <;> rfl) ?_
  intro i hi
  rcases i with _ | i
  · have hw : IntKind.i64.wrap 1 = 1 := W_in (by omega) (by omega)
    refine E.seq ?_
    refine E.reg hr (by simp [S55]; rfl) ?_ -- region 3
    refine E.seq ?_
    refine E.cond (by rfl) (fun h => ?_) (fun h => ?_)
    · simp at h
      have hx := gcs_take hpos
      have hts : gcs (l.take 1) = l[0].cells := by rw [gcs_succ hpos]; simp [gcs]
      have h7 : 7 ≤ l.length * 7 := by omega
      rw [Nat.zero_mul, List.drop_zero] at hx
      refine E.skip ?_
      refine E.seq ?_
      refine E.block ?_ -- 1
      refine E.seq ?_
      refine E.reg hr (by simp [hx, hpos, h7]; rfl) ?_ -- region 4
      refine E.reg hr (by simp; rfl) ?_ -- region 5
      refine E.reg hr (by simp [hw]; rfl) ?_ -- region 6
      exact ⟨1, Leads.ren [11, 12, 13, 16] rfl rfl rfl ⟨rfl, rfl⟩ (by simp [S55]) (by simp [S55, hts]), by omega, by dsimp only; omega⟩
    · simp at h
      exact absurd h hne
  · have hw : IntKind.i64.wrap ((i : Int) + 1 + 1) = (i : Int) + 1 + 1 := W_in (by omega) (by omega)
    have hlen : (gcs (l.take (i + 1))).length = (i + 1) * 7 := by rw [gcs_length, List.length_take, Nat.min_eq_left hi]
    have ht : List.take ((i + 1) * 7) (gcs (l.take (i + 1))) = gcs (l.take (i + 1)) := List.take_of_length_le (by omega)
    refine E.seq ?_
    refine E.reg hr (by simp [S55]; rfl) ?_ -- region 3
    refine E.seq ?_
    refine E.cond (by rfl) (fun h => ?_) (fun h => ?_)
    · simp at h
      have hlt : i + 1 < l.length := by omega
      have hltI : (i : Int) + 1 < l.length := by omega
      have hx := gcs_take hlt
      have hts := gcs_succ hlt
      have h7 : (i + 1) * 7 + 7 ≤ l.length * 7 := by omega
      have hno : ¬ (i + 1 + 1) * 7 ≤ (i + 1) * 7 := by omega
      have hsm : (i + 1 + 1) * 64 ≤ 1099511627776 ∧ (i + 1 + 1) * 7 ≤ 1099511627776 ∧ i + 1 + 1 ≤ 1099511627776 := by omega
      refine E.skip ?_
      refine E.seq ?_
      refine E.block ?_ -- 1
      refine E.seq ?_
      refine E.reg hr (by simp [hx, hltI, h7]; rfl) ?_ -- region 4
      refine E.reg hr (by simp [hsm, ht, hlen, hno]; rfl) ?_ -- region 5
      refine E.reg hr (by simp [hw]; rfl) ?_ -- region 6
      exact ⟨i + 2, Leads.ren [11, 12, 13, 17] rfl rfl rfl ⟨rfl, rfl⟩ (by simp [S55]) (by simp [S55, hts]), by omega, by dsimp only; omega⟩
    · simp at h
      have hal : l.take (i + 1) = l := List.take_of_length_le (by omega)
      have hll : l.length = i + 1 := by omega
      refine E.exit ?_ -- 0
      refine E.seq ?_
      refine E.reg hr (by simp; rfl) ?_ -- region 7
      refine E.ret ?_
      refine outK.ret rfl rfl ?_
      simp [strQ55, hne, hal, hll]
      exact ⟨14, by kernel_rfl, by simp, by omega⟩
set_option maxRecDepth 100000 in
theorem w55e (o c : Nat) : AC Tryz.prog 55 [strV o 0 c] [(10, .inp o (gcs []))] 11 nilV [(10, .inp o (gcs []))] 11 := by
  have hr := recT_ok (P := Tryz.prog) (l := []) (by simp)
  refine AC.pure Tryz.func55 rfl (by kernel_rfl) rfl [2, 3, 7, 8, 9] rfl ?_
  refine E.seq ?_
  refine E.reg hr (by simp; rfl) ?_ -- region 0
  refine E.seq ?_
  refine E.reg hr (by simp; rfl) ?_ -- region 1
  refine E.seq ?_
  refine E.seq ?_
  refine E.reg hr (by simp; rfl) ?_ -- region 2
  refine E.block ?_ -- 0
  refine E.loop ?_
  refine EL.step ?_
  refine E.seq ?_
  refine E.reg hr (by simp; rfl) ?_ -- region 3
  refine E.seq ?_
  refine E.cond (by rfl) (fun h => ?_) (fun h => ?_)
  · simp at h
  refine E.exit ?_ -- 0
  refine E.seq ?_
  refine E.reg hr (by simp; rfl) ?_ -- region 7
  refine E.ret ?_
  exact pureK.ret rfl rfl (by simp; kernel_rfl) (by repeat first | exact sub_refl _ | refine sub_cons rfl ?_)
set_option maxRecDepth 100000 in
theorem w55n : AC Tryz.prog 55 [nilV] [] 10 nilV [] 10 := by
  have hr := recT_ok (P := Tryz.prog) (l := []) (by simp)
  refine AC.pure Tryz.func55 rfl (by kernel_rfl) rfl [2, 3, 7, 8, 9] rfl ?_
  refine E.seq ?_
  refine E.reg hr (by simp; rfl) ?_ -- region 0
  refine E.seq ?_
  refine E.reg hr (by simp; rfl) ?_ -- region 1
  refine E.seq ?_
  refine E.seq ?_
  refine E.reg hr (by simp; rfl) ?_ -- region 2
  refine E.block ?_ -- 0
  refine E.loop ?_
  refine EL.step ?_
  refine E.seq ?_
  refine E.reg hr (by simp; rfl) ?_ -- region 3
  refine E.seq ?_
  refine E.cond (by rfl) (fun h => ?_) (fun h => ?_)
  · simp at h
  refine E.exit ?_ -- 0
  refine E.seq ?_
  refine E.reg hr (by simp; rfl) ?_ -- region 7
  refine E.ret ?_
  exact pureK.ret rfl rfl (by simp; kernel_rfl) (by repeat first | exact sub_refl _ | refine sub_cons rfl ?_)
def g55 (args : List Value) (H : Heap) (n : Nat) : R := match args with
  | [v] => match strAt H v with
    | some l => if l = [] then some (nilV, H, n) else if l.length ≤ 4096 then some (.agg ⟨[.slice (some ⟨n, 0, some 0⟩) l.length 0]⟩, (n, .ext (gcs l) 94 7) :: H, n + 1) else none
    | none => none
  | _ => none
theorem ok55 : EntOk Tryz.prog (55, g55) := by
  intro args H n v H' n' h'
  simp only [g55] at h'
  split at h'
  · rename_i x
    split at h'
    · rename_i l hx
      split at h'
      · rename_i hl
        subst hl
        injection h' with h'; injection h' with e1 e2; injection e2 with e2 e3; subst e1 e2 e3
        unfold strAt at hx
        split at hx
        · exact AC.liftP (by simp) (Part.plain (by simp) [] (by simp [Seen]) gsz ⟨_, _, w55n⟩)
        · obtain ⟨hf, hc, hlen, hlt⟩ := gunsAt_ok hx
          subst hlen
          exact AC.liftP (by simp) (Part.one (fun s => [.agg ⟨[s]⟩]) (by intro φ φ0 s s0 h; simp [denL, den, h]) (by intro p s h; exact ⟨⟨h, trivial⟩, trivial⟩) hf hc (afL_gcs []) [] (by simp [Seen]) gsz fun c => ⟨_, _, w55e _ c⟩)
        · cases hx
      rename_i hne
      split at h'
      · rename_i hle
        injection h' with h'; injection h' with e1 e2; injection e2 with e2 e3; subst e1 e2 e3
        unfold strAt at hx
        split at hx
        · injection hx with hx; exact absurd hx.symm hne
        · obtain ⟨hf, hc, hlen, hlt⟩ := gunsAt_ok hx
          subst hlen
          refine AC.liftF (names_str _ _) (.inr ⟨_, _, _, rfl, afL_gcs l⟩) (Part.one (fun s => [.agg ⟨[s]⟩]) (by intro φ φ0 s s0 h; simp [denL, den, h]) (by intro p s h; exact ⟨⟨h, trivial⟩, trivial⟩) hf hc (afL_gcs l) [] (by simp [Seen]) gsz fun c => ?_)
          obtain ⟨u, H1, n1, H2, hAC, hq, hh⟩ := w55 l _ c hne hle
          unfold strQ55 at hq
          rw [if_neg hne] at hq
          obtain ⟨m, hv, hm, hle⟩ := hq
          subst hv
          have := hh rfl
          subst this
          exact ⟨m, _, _, hle, hm, hAC⟩
        · cases hx
      · cases h'
    · cases h'
  · cases h'
/-! ### the reference's Retimed -/
def reF (ts : List Tim) (g : Gun) : Gun := { g with d := tickAt ts g.name }
def rtB (l : List Gun) (ts : List Tim) : Bool := l.all fun g => decide (withinV (tickAt ts g.name) 0 16 = 0)
def rtR (l : List Gun) (ts : List Tim) : Option (List Gun) × Int := if rtB l ts then (some (l.map (reF ts)), 0) else (none, 3)
theorem withinV_ne {a lo hi : Int} (h : withinV a lo hi ≠ 0) : withinV a lo hi = 3 := by
  unfold withinV at h ⊢
  split
  · rfl
  · rename_i hc; rw [if_neg hc] at h; exact absurd rfl h
theorem build24n {fr : Fr} {H : Heap} {n : Nat} : opBuild Tryz.prog 24 #[] fr H n = some (nilV, H, n) := by kernel_rfl
abbrev H64 (l : List Gun) (ts : List Tim) (o c o2 : Nat) (s : Value) : Heap := [(14, .cells [s] 24), (13, .cells [.slice none 0 0] 24), (12, .cells [.slice (some ⟨10, o, none⟩) l.length c] 24), (11, .inp o2 (tcs ts)), (10, .inp o (gcs l))]
def S64 (l : List Gun) (ts : List Tim) (o c o2 c2 : Nat) : Nat → St
  | 0 => { fr := [(1, .slice (some ⟨11, o2, none⟩) ts.length c2), (2, .pointer (some ⟨12, 0, none⟩)), (4, .pointer (some ⟨13, 0, none⟩)), (6, .pointer (some ⟨14, 0, none⟩)), (7, iv 0)], sz := 41, H := H64 l ts o c o2 (.slice none 0 0), n := 15, marks := [], vs := [1, 2, 4, 6, 7] }
  | i + 1 => { fr := [(1, .slice (some ⟨11, o2, none⟩) ts.length c2), (2, .pointer (some ⟨12, 0, none⟩)), (4, .pointer (some ⟨13, 0, none⟩)), (6, .pointer (some ⟨14, 0, none⟩)), (7, iv (i + 1 : Nat))], sz := 41, H := (15, .ext (gcs (tk (reF ts) l (i + 1))) 94 7) :: H64 l ts o c o2 (.slice (some ⟨15, 0, some 0⟩) (i + 1) 0), n := 16, marks := [], vs := [1, 2, 4, 6, 7] }
def rtQ (r : Option (List Gun) × Int) (v : Value) (H : Heap) : Prop := match r with
  | (none, e) => v = .tuple #[nilV, iv e]
  | (some k, e) => ∃ m, v = .tuple #[.agg ⟨[.slice (some ⟨m, 0, some 0⟩) k.length 0]⟩, iv e] ∧ hget H m = some (.ext (gcs k) 94 7) ∧ 12 ≤ m
theorem gcs_snoc (l : List Gun) (g : Gun) : gcs (l ++ [g]) = gcs l ++ g.cells := by simp [gcs]
set_option maxRecDepth 100000 in
theorem w64 (l : List Gun) (ts : List Tim) (o c o2 c2 : Nat) (hne : l ≠ []) (hl : l.length ≤ 4096) (hts : ts.length < 2 ^ 63) : ∃ u H1 n1 H2, AC Tryz.prog 64 [strV o l.length c, .slice (some ⟨11, o2, none⟩) ts.length c2] [(11, .inp o2 (tcs ts)), (10, .inp o (gcs l))] 12 u H1 n1 ∧ rtQ (rtR l ts) u H2 ∧ (af u = false → H1 = H2) := by
  have hr := recT_ok (P := Tryz.prog) (l := [(141, g141), (62, g138)]) (by simp only [List.forall_mem_cons]; exact ⟨ok141, ok62, by simp⟩)
  have hpos : 0 < l.length := List.length_pos_iff.2 hne
  have htat : ∀ G : Heap, hget G 11 = some (.inp o2 (tcs ts)) → timsAt G ⟨11, o2, none⟩ ts.length = some ts := fun G hG => by
    unfold timsAt
    simp [hG, List.take_of_length_le, timsOf_tcs, show ts.length < 9223372036854775808 by omega]
  refine AC.out Tryz.func64 rfl (by kernel_rfl) rfl [1, 2, 4, 6, 7] ?_
  refine E.seq ?_
  refine E.reg hr (by simp; rfl) ?_ -- region 0
  refine E.seq ?_
  refine E.reg hr (by simp; rfl) ?_ -- region 1
  refine E.seq ?_
  refine E.seq ?_
  refine E.reg hr (by simp; rfl) ?_ -- region 2
  refine E.block ?_ -- 0
  refine E.loop ?_
  refine EL.ind (S64 l ts o c o2 c2) (fun i => l.length - i) (fun i => i ≤ l.length ∧ ∀ j, j < i → ∀ h : j < l.length, withinV (tickAt ts l[j].name) 0 16 = 0) 0 (.less rfl rfl rfl (by simp [S64]) (by simp [S64])) ⟨Nat.zero_le _, fun j hj => absurd hj (by omega)⟩ (fun i => by cases i <;> rfl) ?_
  intro i ⟨hi, hg⟩
  have hend : l.length ≤ i → rtR l ts = (some (l.map (reF ts)), 0) := fun h => by
    unfold rtR rtB
    rw [if_pos (List.all_eq_true.2 fun g hgm => by obtain ⟨j, hj, rfl⟩ := List.getElem_of_mem hgm; exact decide_eq_true (hg j (by omega) hj))]
  have hbad : ∀ h : i < l.length, withinV (tickAt ts l[i].name) 0 16 ≠ 0 → rtR l ts = (none, 3) := fun h hb => by
    unfold rtR
    rw [if_neg]
    intro ha
    exact hb (of_decide_eq_true (List.all_eq_true.1 ha _ (List.getElem_mem h)))
  rcases i with _ | i
  · have hw : IntKind.i64.wrap 1 = 1 := W_in (by omega) (by omega)
    refine E.seq ?_
    refine E.seq ?_
    refine E.reg hr (by simp [S64]; rfl) ?_ -- region 3
    refine E.cond (by rfl) (fun h => ?_) (fun h => ?_)
    · simp at h
      have hlt : 0 < l.length := hpos
      have hx := gcs_take hpos
      have h7 : 7 ≤ l.length * 7 := by omega
      rw [Nat.zero_mul, List.drop_zero] at hx
      have hts : gcs (tk (reF ts) l 1) = (reF ts l[0]).cells := by rw [tk_succ (reF ts) hpos]; simp [gcs]
      refine E.skip ?_
      refine E.seq ?_
      refine E.block ?_ -- 1
      refine E.seq ?_
      refine E.reg hr (by simp [hx, hpos, h7]; rfl) ?_ -- region 5
      refine E.seq ?_
      refine E.reg hr (by simp [g141, htat]; rfl) ?_ -- region 6
      refine E.seq ?_
      refine E.seq ?_
      refine E.reg hr (by simp [g138]; rfl) ?_ -- region 7
      refine E.seq ?_
      refine E.reg hr (by simp; rfl) ?_ -- region 8
      refine E.cond (by rfl) (fun h2 => ?_) (fun h2 => ?_)
      · simp at h2
        have h3 := withinV_ne h2
        refine E.seq ?_
        refine E.reg hr (by simp [build24n]; rfl) ?_ -- region 9
        refine E.ret ?_
        refine outK.ret rfl rfl ?_
        simp [rtQ, hbad hlt h2, h3]
        kernel_rfl
      · simp at h2
        refine E.skip ?_
        refine E.reg hr (by simp; rfl) ?_ -- region 10
        refine E.reg hr (by simp [hw]; rfl) ?_ -- region 4
        refine ⟨1, Leads.ren [12, 13, 14, 17] rfl rfl rfl ⟨rfl, rfl⟩ (by simp [S64]) (by simp [S64, hts, reF]), ⟨by omega, fun j hj h3 => ?_⟩, by dsimp only; omega⟩
        rcases Nat.lt_or_ge j (0) with h4 | h4
        · exact hg j h4 h3
        · obtain rfl : j = 0 := by omega
          exact h2
    · simp at h
      exact absurd h hne
  · have hw : IntKind.i64.wrap ((i : Int) + 1 + 1) = (i : Int) + 1 + 1 := W_in (by omega) (by omega)
    have hlen : (gcs (tk (reF ts) l (i + 1))).length = (i + 1) * 7 := by rw [gcs_length, tk_length _ hi]
    have ht : List.take ((i + 1) * 7) (gcs (tk (reF ts) l (i + 1))) = gcs (tk (reF ts) l (i + 1)) := List.take_of_length_le (by omega)
    refine E.seq ?_
    refine E.seq ?_
    refine E.reg hr (by simp [S64]; rfl) ?_ -- region 3
    refine E.cond (by rfl) (fun h => ?_) (fun h => ?_)
    · simp at h
      have hlt : i + 1 < l.length := by omega
      have hltI : (i : Int) + 1 < l.length := by omega
      have hx := gcs_take hlt
      have h7 : (i + 1) * 7 + 7 ≤ l.length * 7 := by omega
      have hno : ¬ (i + 1 + 1) * 7 ≤ (i + 1) * 7 := by omega
      have hsm : (i + 1 + 1) * 64 ≤ 1099511627776 ∧ (i + 1 + 1) * 7 ≤ 1099511627776 ∧ i + 1 + 1 ≤ 1099511627776 := by omega
      have hts : gcs (tk (reF ts) l (i + 1 + 1)) = gcs (tk (reF ts) l (i + 1)) ++ (reF ts l[i + 1]).cells := by rw [tk_succ (reF ts) hlt, gcs_snoc]
      refine E.skip ?_
      refine E.seq ?_
      refine E.block ?_ -- 1
      refine E.seq ?_
      refine E.reg hr (by simp [hx, hltI, h7]; rfl) ?_ -- region 5
      refine E.seq ?_
      refine E.reg hr (by simp [g141, htat]; rfl) ?_ -- region 6
      refine E.seq ?_
      refine E.seq ?_
      refine E.reg hr (by simp [g138]; rfl) ?_ -- region 7
      refine E.seq ?_
      refine E.reg hr (by simp; rfl) ?_ -- region 8
      refine E.cond (by rfl) (fun h2 => ?_) (fun h2 => ?_)
      · simp at h2
        have h3 := withinV_ne h2
        refine E.seq ?_
        refine E.reg hr (by simp [build24n]; rfl) ?_ -- region 9
        refine E.ret ?_
        refine outK.ret rfl rfl ?_
        simp [rtQ, hbad hlt h2, h3]
        kernel_rfl
      · simp at h2
        refine E.skip ?_
        refine E.reg hr (by simp [hsm, ht, hlen, hno]; rfl) ?_ -- region 10
        refine E.reg hr (by simp [hw]; rfl) ?_ -- region 4
        refine ⟨i + 2, Leads.ren [12, 13, 14, 18] rfl rfl rfl ⟨rfl, rfl⟩ (by simp [S64]) (by simp [S64, hts, reF]), ⟨by omega, fun j hj h3 => ?_⟩, by dsimp only; omega⟩
        rcases Nat.lt_or_ge j (i + 1) with h4 | h4
        · exact hg j h4 h3
        · obtain rfl : j = i + 1 := by omega
          exact h2
    · simp at h
      have hal : tk (reF ts) l (i + 1) = l.map (reF ts) := tk_all _ (by omega)
      have hll : l.length = i + 1 := by omega
      refine E.exit ?_ -- 0
      refine E.seq ?_
      refine E.reg hr (by simp; rfl) ?_ -- region 11
      refine E.ret ?_
      refine outK.ret rfl rfl ?_
      rw [hend (by omega)]
      simp [rtQ, hal, hll]
      exact ⟨15, by kernel_rfl, by simp, by omega⟩
def gRt (r : Option (List Gun) × Int) (H : Heap) (n : Nat) : R := match r with
  | (none, e) => some (.tuple #[nilV, iv e], H, n)
  | (some k, e) => some (.tuple #[.agg ⟨[.slice (some ⟨n, 0, some 0⟩) k.length 0]⟩, iv e], (n, .ext (gcs k) 94 7) :: H, n + 1)
def g64 (args : List Value) (H : Heap) (n : Nat) : R := match args with
  | [.agg ⟨[.slice (some a) len _]⟩, .slice (some a2) len2 _] => match gunsAt H a len, timsAt H a2 len2 with
    | some l, some ts => if l ≠ [] ∧ l.length ≤ 4096 then gRt (rtR l ts) H n else none
    | _, _ => none
  | _ => none
theorem ok64 : EntOk Tryz.prog (64, g64) := by
  intro args H n v H' n' h'
  simp only [g64] at h'
  split at h'
  · rename_i a len c0 a2 len2 c02
    split at h'
    · rename_i l ts hl ht
      split at h'
      · rename_i hc
        obtain ⟨hf, hcl, hlen, hlt⟩ := gunsAt_ok hl
        obtain ⟨hf2, hct, hlen2, hlt2⟩ := timsAt_ok ht
        subst hlen hlen2
        have hp := fun (R : List Value → Heap → Nat → Prop) (hR : _) => Part.two (P := Tryz.prog) (H := H) (n := n) (R := R) (len := l.length) (cap := c0) (len2 := ts.length) (cap2 := c02) (fun s u => [.agg ⟨[s]⟩, u]) (by intro φ φ0 s s0 u u0 h h'; simp [denL, den, h, h']) (by intro p s u h h'; exact ⟨⟨h, trivial⟩, h', trivial⟩) hf hcl (afL_gcs l) hf2 hct (afL_tcs ts) [] (by simp [Seen]) gsz hR
        have hw := fun c c2 => w64 l ts a.off c a2.off c2 hc.1 hc.2 hlt2
        unfold gRt at h'
        split at h'
        · rename_i e hv
          injection h' with h'; injection h' with e1 e2; injection e2 with e2 e3; subst e1 e2 e3
          refine AC.liftP (by simp) (hp _ fun c c2 => ?_)
          obtain ⟨u, H1, n1, H2, hAC, hq, _⟩ := hw c c2
          rw [hv] at hq
          unfold rtQ at hq
          dsimp only at hq
          subst hq
          exact ⟨_, _, hAC⟩
        · rename_i k e hv
          injection h' with h'; injection h' with e1 e2; injection e2 with e2 e3; subst e1 e2 e3
          refine AC.liftF (vf := fun m => .tuple #[.agg ⟨[.slice (some ⟨m, 0, some 0⟩) k.length 0]⟩, iv e]) ⟨fun φ ψ m n h1 h2 => by simp [den, denL, h1, h2], fun p n h => by simp [sc, scL, h]⟩ (.inr ⟨_, _, _, rfl, afL_gcs k⟩) (hp _ fun c c2 => ?_)
          obtain ⟨u, H1, n1, H2, hAC, hq, hh⟩ := hw c c2
          rw [hv] at hq
          unfold rtQ at hq
          dsimp only at hq
          obtain ⟨m, hu, hm, hle⟩ := hq
          subst hu
          have := hh (by simp)
          subst this
          exact ⟨m, _, _, hle, hm, hAC⟩
      · cases h'
    · cases h'
  · cases h'
end Go.Proofs.YtndlfijfjglkdaaGreatDoor

namespace Go.Proofs.YtndlfijfjglkdaaGreatDoor
open Go Go.Ab Go.Proofs
/-! ### equal guns are equal -/
section
variable {P : Program}
theorem runP_bind' {α β : Type} (a : Sem α) (g : α → Sem β) : runP P (a >>= g) = (runP P a).bind fun x => runP P (g x) := runP_bind a g
theorem runP_pure {α : Type} (a : α) : runP P (pure a : Sem α) = some a := rfl
theorem runP_program : runP P program = some P := rfl
theorem runP_und' {t : TypeId} {d : TypeDesc} (h : P.underlying t = some d) : runP P (underlying t) = some d := by
  show runP P (match P.underlying t with | some d => _ | none => _) = _
  rw [h]
  rfl
theorem runP_ite {α : Type} {c : Prop} [Decidable c] (a b : Sem α) : runP P (if c then a else b) = if c then runP P a else runP P b := by
  split <;> rfl
theorem runP_eqStruct (d : Nat) {t : TypeId} {fs : Array Field} (xs ys : Array Value) (ht : P.underlying t = some (.struct fs)) (hp : P.stoodInHeld t = false)
    (h : ∀ f ∈ fs.toList, ∃ a b, runP P (part f.type xs f.offset) = some a ∧ runP P (part f.type ys f.offset) = some b ∧ runP P (Op.equalIn d f.type a b) = some true) : runP P (Op.equalIn (d + 1) t (.agg xs) (.agg ys)) = some true := by
  simp only [Op.equalIn, runP_bind', runP_und' ht, Option.bind_some, runP_program, hp, Bool.false_eq_true, if_false]
  rw [← Array.forIn_toList]
  generalize fs.toList = fl at h
  induction fl with
  | nil => rfl
  | cons f fl ih =>
    obtain ⟨a, b, h1, h2, h3⟩ := h f (List.mem_cons_self ..)
    have ih := ih fun f hf => h f (List.mem_cons_of_mem _ hf)
    simp only [List.forIn_cons, runP_bind', runP_ite]
    split
    · simp only [h1, h2, h3, Option.bind_some, Bool.not_true, Bool.false_eq_true, if_false, runP_pure]
      exact ih
    · simp only [runP_pure, Option.bind_some]
      exact ih
theorem runP_eqInt (d : Nat) {t : TypeId} {k k' : IntKind} (n : Int) (h : P.underlying t = some (.int k')) : runP P (Op.equalIn (d + 1) t (.int k n) (.int k n)) = some true := by
  simp only [Op.equalIn, runP_bind', runP_und' h, Option.bind_some, if_true, runP_pure, beq_self_eq_true]
theorem bytes_beq (s : ByteArray) : (s == s) = true := by
  obtain ⟨⟨x⟩⟩ := s
  show ((⟨x⟩ : Array UInt8) == ⟨x⟩) = true
  simp
theorem runP_eqStr (d : Nat) {t : TypeId} (s : ByteArray) (h : P.underlying t = some .string) : runP P (Op.equalIn (d + 1) t (.string s) (.string s)) = some true := by
  simp only [Op.equalIn, runP_bind', runP_und' h, Option.bind_some, runP_pure, bytes_beq]
end
theorem eq_pair {t : TypeId} {f1 f2 : Field} (ht : Tryz.prog.underlying t = some (.struct #[f1, f2])) (hp : Tryz.prog.stoodInHeld t = false) (h1 : f1.type = 3 ∧ f1.offset = 0) (h2 : f2.type = 3 ∧ f2.offset = 1) (a b : Int) (d : Nat) : runP Tryz.prog (Op.equalIn (d + 2) t (.agg #[iv a, iv b]) (.agg #[iv a, iv b])) = some true := by
  refine runP_eqStruct (d + 1) _ _ ht hp fun f hf => ?_
  simp at hf
  rcases hf with rfl | rfl
  · rw [h1.1, h1.2]
    exact ⟨iv a, iv a, by kernel_rfl, by kernel_rfl, runP_eqInt d a Tryz.underlying3⟩
  · rw [h2.1, h2.2]
    exact ⟨iv b, iv b, by kernel_rfl, by kernel_rfl, runP_eqInt d b Tryz.underlying3⟩
set_option maxRecDepth 100000 in
theorem eq_gun (g : Gun) : runP Tryz.prog (Op.equalIn 10000 94 (.agg ⟨g.cells⟩) (.agg ⟨g.cells⟩)) = some true := by
  refine runP_eqStruct 9999 _ _ Tryz.underlying94 (by kernel_rfl) fun f hf => ?_
  simp at hf
  rcases hf with rfl | rfl | rfl | rfl | rfl
  · exact ⟨sv g.name, sv g.name, by kernel_rfl, by kernel_rfl, runP_eqStr 9998 g.name Tryz.underlying9⟩
  · exact ⟨iv g.v, iv g.v, by kernel_rfl, by kernel_rfl, runP_eqInt 9998 g.v Tryz.underlying3⟩
  · exact ⟨.agg #[iv g.x, iv g.y], .agg #[iv g.x, iv g.y], by kernel_rfl, by kernel_rfl, eq_pair Tryz.underlying90 (by kernel_rfl) ⟨rfl, rfl⟩ ⟨rfl, rfl⟩ g.x g.y 9997⟩
  · exact ⟨iv g.d, iv g.d, by kernel_rfl, by kernel_rfl, runP_eqInt 9998 g.d Tryz.underlying3⟩
  · exact ⟨.agg #[iv g.lo, iv g.hi], .agg #[iv g.lo, iv g.hi], by kernel_rfl, by kernel_rfl, eq_pair Tryz.underlying92 (by kernel_rfl) ⟨rfl, rfl⟩ ⟨rfl, rfl⟩ g.lo g.hi 9997⟩
set_option maxRecDepth 100000 in
theorem neq_gun {x y : Operand} {H : Heap} {n : Nat} (g : Gun) : binV Tryz.prog .neq 94 x y (.agg ⟨g.cells⟩) (.agg ⟨g.cells⟩) H n = some (.bool false, H, n) := by
  have h : runP Tryz.prog (do eqGuard .neq 94 x y (.agg ⟨g.cells⟩) (.agg ⟨g.cells⟩); binOp .neq 94 (.agg ⟨g.cells⟩) (.agg ⟨g.cells⟩)) = some (.bool false) := by
    rw [runP_bind']
    have h1 : runP Tryz.prog (eqGuard .neq 94 x y (.agg ⟨g.cells⟩) (.agg ⟨g.cells⟩)) = some () := by kernel_rfl
    rw [h1, Option.bind_some]
    show runP Tryz.prog (Op.equalIn 10000 94 (.agg ⟨g.cells⟩) (.agg ⟨g.cells⟩) >>= fun b => pure (Value.bool (!b))) = _
    rw [runP_bind', eq_gun]
    rfl
  have ha : afq (.agg ⟨g.cells⟩) = true := rfl
  unfold binV
  rw [ha]
  simp only [Bool.and_self, if_true]
  rw [h]
  rfl
/-! ### equal lists are equal -/
theorem w110 (l : List ByteArray) (o o2 c c2 : Nat) (hl : l.length < 2 ^ 31) : AC Tryz.prog 110 [.slice (some ⟨10, o, none⟩) l.length c, .slice (some ⟨11, o2, none⟩) l.length c2] [(11, .inp o2 (l.map sv)), (10, .inp o (l.map sv))] 12 (.bool true) [(11, .inp o2 (l.map sv)), (10, .inp o (l.map sv))] 12 := by
  have hr := recT_ok (P := Tryz.prog) (l := []) (by simp)
  refine AC.pure Tryz.func110 rfl (by kernel_rfl) rfl [0, 1, 5] rfl ?_
  refine E.seq ?_
  refine E.reg hr (by simp; rfl) ?_ -- region 0
  refine E.seq ?_
  refine E.seq ?_
  refine E.reg hr (by simp; rfl) ?_ -- region 1
  refine E.cond (by rfl) (fun h => ?_) (fun h => ?_)
  · simp at h
  refine E.skip ?_
  refine E.seq ?_
  refine E.seq ?_
  refine E.reg hr (by simp; rfl) ?_ -- region 3
  refine E.block ?_ -- 0
  refine E.loop ?_
  refine EL.ind (fun i : Nat => { fr := [(0, .slice (some ⟨10, o, none⟩) l.length c), (1, .slice (some ⟨11, o2, none⟩) l.length c2), (5, iv i)], sz := 26, H := [(11, .inp o2 (l.map sv)), (10, .inp o (l.map sv))], n := 12, marks := [], vs := [0, 1, 5] }) (fun i => l.length - i) (fun i => i ≤ l.length) 0 (.less rfl rfl rfl (by simp) (by simp)) (Nat.zero_le _) (fun _ => rfl) ?_
  intro i hi
  have hw : IntKind.i64.wrap ((i : Int) + 1) = (i : Int) + 1 := W_in (by omega) (by omega)
  refine E.seq ?_
  refine E.seq ?_
  refine E.reg hr (by simp; rfl) ?_ -- region 4
  refine E.cond (by rfl) (fun h2 => ?_) (fun h2 => ?_)
  · simp at h2
    refine E.skip ?_
    refine E.seq ?_
    refine E.block ?_ -- 1
    refine E.seq ?_
    refine E.drawC mixed hr [] [] [3, 7] (by kernel_rfl) (by simp [h2]; rfl) ?_ -- region 6
    refine E.cond (by rfl) (fun h3 => ?_) (fun h3 => ?_)
    · simp at h3
    refine E.skip ?_
    refine E.reg hr (by simp [hw]; rfl) ?_ -- region 5
    exact ⟨i + 1, .less rfl rfl rfl (by simp) (by simp), h2, by dsimp only; omega⟩
  · refine E.exit ?_ -- 0
    refine E.seq ?_
    refine E.reg hr (by simp; rfl) ?_ -- region 8
    refine E.ret ?_
    exact pureK.ret rfl rfl (by simp) (by repeat first | exact sub_refl _ | refine sub_cons rfl ?_)
theorem w110n : AC Tryz.prog 110 [.slice none 0 0, .slice none 0 0] [] 10 (.bool true) [] 10 := by
  have hr := recT_ok (P := Tryz.prog) (l := []) (by simp)
  refine AC.pure Tryz.func110 rfl (by kernel_rfl) rfl [0, 1, 5] rfl ?_
  refine E.seq ?_
  refine E.reg hr (by simp; rfl) ?_ -- region 0
  refine E.seq ?_
  refine E.seq ?_
  refine E.reg hr (by simp; rfl) ?_ -- region 1
  refine E.cond (by rfl) (fun h => ?_) (fun h => ?_)
  · simp at h
  refine E.skip ?_
  refine E.seq ?_
  refine E.seq ?_
  refine E.reg hr (by simp; rfl) ?_ -- region 3
  refine E.block ?_ -- 0
  refine E.loop ?_
  refine EL.step ?_
  refine E.seq ?_
  refine E.seq ?_
  refine E.reg hr (by simp; rfl) ?_ -- region 4
  refine E.cond (by rfl) (fun h2 => ?_) (fun h2 => ?_)
  · simp at h2
  refine E.exit ?_ -- 0
  refine E.seq ?_
  refine E.reg hr (by simp; rfl) ?_ -- region 8
  refine E.ret ?_
  exact pureK.ret rfl rfl (by simp) (by repeat first | exact sub_refl _ | refine sub_cons rfl ?_)
def g110 (args : List Value) (H : Heap) (n : Nat) : R := match args with
  | [.slice none 0 0, .slice none 0 0] => some (.bool true, H, n)
  | [.slice (some a) len _, .slice (some b) len2 _] => match strsAt H a len, strsAt H b len2 with
    | some l, some k => if l = k then some (.bool true, H, n) else none
    | _, _ => none
  | _ => none
theorem ok110 : EntOk Tryz.prog (110, g110) := by
  intro args H n v H' n' h'
  simp only [g110] at h'
  split at h'
  · injection h' with h'; injection h' with e1 e2; injection e2 with e2 e3; subst e1 e2 e3
    exact AC.liftP rfl (Part.plain (by simp) [] (by simp [Seen]) gsz ⟨_, _, w110n⟩)
  · rename_i a len c0 b len2 c02
    split at h'
    · rename_i l k hl hk
      split at h'
      · rename_i e
        subst e
        injection h' with h'; injection h' with e1 e2; injection e2 with e2 e3; subst e1 e2 e3
        obtain ⟨hf, hc, hlen, hlt⟩ := strsAt_ok hl
        obtain ⟨hf2, hc2, hlen2, hlt2⟩ := strsAt_ok hk
        subst hlen
        have : len2 = l.length := hlen2.symm
        subst this
        exact AC.liftP rfl (Part.two (fun s u => [s, u]) (by intro φ φ0 s s0 u u0 h h'; simp [denL, h, h']) (by intro p s u h h'; exact ⟨h, h', trivial⟩) hf hc (afL_sv l) hf2 hc2 (afL_sv l) [] (by simp [Seen]) gsz fun c c2 => ⟨_, _, w110 l _ _ c c2 hlt⟩)
      · cases h'
    · cases h'
  · cases h'
theorem w65e (e : Int) (he : e ≠ 0) : AC Tryz.prog 65 [.slice none 0 0, iv e, iv e, .slice none 0 0] [] 10 (.bool true) [] 10 := by
  have hr := recT_ok (P := Tryz.prog) (l := []) (by simp)
  refine AC.pure Tryz.func65 rfl (by kernel_rfl) rfl [8] rfl ?_
  refine E.seq ?_
  refine E.reg hr (by simp; rfl) ?_ -- region 0
  refine E.seq ?_
  refine E.reg hr (by simp [he, undefV]; rfl) ?_ -- region 1
  refine E.ret ?_
  exact pureK.ret rfl rfl (by simp) (by repeat first | exact sub_refl _ | refine sub_cons rfl ?_)
theorem w65n : AC Tryz.prog 65 [.slice none 0 0, iv 0, iv 0, .slice none 0 0] [] 10 (.bool true) [] 10 := by
  have hr := recT_ok (P := Tryz.prog) (l := [(110, g110)]) (by simp only [List.forall_mem_cons]; exact ⟨ok110, by simp⟩)
  refine AC.pure Tryz.func65 rfl (by kernel_rfl) rfl [8] rfl ?_
  refine E.seq ?_
  refine E.reg hr (by simp; rfl) ?_ -- region 0
  refine E.seq ?_
  refine E.reg hr (by simp [g110, undefV]; rfl) ?_ -- region 1
  refine E.ret ?_
  exact pureK.ret rfl rfl (by simp) (by repeat first | exact sub_refl _ | refine sub_cons rfl ?_)
theorem w65 (l : List ByteArray) (o o2 c c2 : Nat) (hl : l.length < 2 ^ 31) : AC Tryz.prog 65 [.slice (some ⟨10, o, none⟩) l.length c, iv 0, iv 0, .slice (some ⟨11, o2, none⟩) l.length c2] [(11, .inp o2 (l.map sv)), (10, .inp o (l.map sv))] 12 (.bool true) [(11, .inp o2 (l.map sv)), (10, .inp o (l.map sv))] 12 := by
  have hr := recT_ok (P := Tryz.prog) (l := [(110, g110)]) (by simp only [List.forall_mem_cons]; exact ⟨ok110, by simp⟩)
  have h1 : strsAt [(11, .inp o2 (l.map sv)), (10, .inp o (l.map sv))] ⟨10, o, none⟩ l.length = some l := by
    unfold strsAt
    simp [List.take_of_length_le, strsOf_sv, show l.length < 2147483648 by omega]
  have h2 : strsAt [(11, .inp o2 (l.map sv)), (10, .inp o (l.map sv))] ⟨11, o2, none⟩ l.length = some l := by
    unfold strsAt
    simp [List.take_of_length_le, strsOf_sv, show l.length < 2147483648 by omega]
  refine AC.pure Tryz.func65 rfl (by kernel_rfl) rfl [8] rfl ?_
  refine E.seq ?_
  refine E.reg hr (by simp; rfl) ?_ -- region 0
  refine E.seq ?_
  refine E.reg hr (by simp [g110, h1, h2, undefV]; rfl) ?_ -- region 1
  refine E.ret ?_
  exact pureK.ret rfl rfl (by simp) (by repeat first | exact sub_refl _ | refine sub_cons rfl ?_)
def g65 (args : List Value) (H : Heap) (n : Nat) : R := match args with
  | [.slice none 0 0, .int .i64 e, .int .i64 b, .slice none 0 0] => if e = b then some (.bool true, H, n) else none
  | [.slice (some a) len _, .int .i64 e, .int .i64 b, .slice (some a2) len2 _] => if e = 0 ∧ b = 0 then (match strsAt H a len, strsAt H a2 len2 with
    | some l, some k => if l = k then some (.bool true, H, n) else none
    | _, _ => none) else none
  | _ => none
theorem ok65 : EntOk Tryz.prog (65, g65) := by
  intro args H n v H' n' h'
  simp only [g65] at h'
  split at h'
  · rename_i e b
    split at h'
    · rename_i he
      subst he
      injection h' with h'; injection h' with e1 e2; injection e2 with e2 e3; subst e1 e2 e3
      by_cases h0 : e = 0
      · subst h0
        exact AC.liftP rfl (Part.plain (by simp) [] (by simp [Seen]) gsz ⟨_, _, w65n⟩)
      · exact AC.liftP rfl (Part.plain (by simp) [] (by simp [Seen]) gsz ⟨_, _, w65e e h0⟩)
    · cases h'
  · rename_i a len c0 e b a2 len2 c02
    split at h'
    · rename_i he
      obtain ⟨rfl, rfl⟩ := he
      split at h'
      · rename_i l k hl hk
        split at h'
        · rename_i e
          subst e
          injection h' with h'; injection h' with e1 e2; injection e2 with e2 e3; subst e1 e2 e3
          obtain ⟨hf, hc, hlen, hlt⟩ := strsAt_ok hl
          obtain ⟨hf2, hc2, hlen2, hlt2⟩ := strsAt_ok hk
          subst hlen
          have : len2 = l.length := hlen2.symm
          subst this
          exact AC.liftP rfl (Part.two (fun s u => [s, iv 0, iv 0, u]) (by intro φ φ0 s s0 u u0 h h'; simp [denL, den, h, h']) (by intro p s u h h'; exact ⟨h, trivial, trivial, h', trivial⟩) hf hc (afL_sv l) hf2 hc2 (afL_sv l) [] (by simp [Seen]) gsz fun c c2 => ⟨_, _, w65 l _ _ c c2 hlt⟩)
        · cases h'
      · cases h'
    · cases h'
  · cases h'
theorem w66n : AC Tryz.prog 66 [nilV, nilV] [] 10 (.bool true) [] 10 := by
  have hr := recT_ok (P := Tryz.prog) (l := []) (by simp)
  refine AC.pure Tryz.func66 rfl (by kernel_rfl) rfl [2, 3, 5] rfl ?_
  refine E.seq ?_
  refine E.reg hr (by simp; rfl) ?_ -- region 0
  refine E.seq ?_
  refine E.seq ?_
  refine E.reg hr (by simp; rfl) ?_ -- region 1
  refine E.cond (by rfl) (fun h => ?_) (fun h => ?_)
  · simp at h
  refine E.skip ?_
  refine E.seq ?_
  refine E.seq ?_
  refine E.reg hr (by simp; rfl) ?_ -- region 3
  refine E.block ?_ -- 0
  refine E.loop ?_
  refine EL.step ?_
  refine E.seq ?_
  refine E.seq ?_
  refine E.reg hr (by simp; rfl) ?_ -- region 4
  refine E.cond (by rfl) (fun h2 => ?_) (fun h2 => ?_)
  · simp at h2
  refine E.exit ?_ -- 0
  refine E.seq ?_
  refine E.reg hr (by simp; rfl) ?_ -- region 8
  refine E.ret ?_
  exact pureK.ret rfl rfl (by simp) (by repeat first | exact sub_refl _ | refine sub_cons rfl ?_)
set_option maxRecDepth 100000 in
theorem w66 (l : List Gun) (o o2 c c2 : Nat) (hl : l.length < 2 ^ 63) : AC Tryz.prog 66 [strV o l.length c, .agg ⟨[.slice (some ⟨11, o2, none⟩) l.length c2]⟩] [(11, .inp o2 (gcs l)), (10, .inp o (gcs l))] 12 (.bool true) [(11, .inp o2 (gcs l)), (10, .inp o (gcs l))] 12 := by
  have hr := recT_ok (P := Tryz.prog) (l := []) (by simp)
  refine AC.pure Tryz.func66 rfl (by kernel_rfl) rfl [2, 3, 5] rfl ?_
  refine E.seq ?_
  refine E.reg hr (by simp; rfl) ?_ -- region 0
  refine E.seq ?_
  refine E.seq ?_
  refine E.reg hr (by simp; rfl) ?_ -- region 1
  refine E.cond (by rfl) (fun h => ?_) (fun h => ?_)
  · simp at h
  refine E.skip ?_
  refine E.seq ?_
  refine E.seq ?_
  refine E.reg hr (by simp; rfl) ?_ -- region 3
  refine E.block ?_ -- 0
  refine E.loop ?_
  refine EL.ind (fun i : Nat => { fr := [(2, .pointer (some ⟨12, 0, none⟩)), (3, .pointer (some ⟨13, 0, none⟩)), (5, iv i)], sz := 31, H := [(13, .cells [.slice (some ⟨11, o2, none⟩) l.length c2] 24), (12, .cells [.slice (some ⟨10, o, none⟩) l.length c] 24), (11, .inp o2 (gcs l)), (10, .inp o (gcs l))], n := 14, marks := [], vs := [2, 3, 5] }) (fun i => l.length - i) (fun i => i ≤ l.length) 0 (.less rfl rfl rfl (by simp) (by simp)) (Nat.zero_le _) (fun _ => rfl) ?_
  intro i hi
  refine E.seq ?_
  refine E.seq ?_
  refine E.reg hr (by simp; rfl) ?_ -- region 4
  refine E.cond (by rfl) (fun h2 => ?_) (fun h2 => ?_)
  · simp at h2
    have hw : IntKind.i64.wrap ((i : Int) + 1) = (i : Int) + 1 := W_in (by omega) (by omega)
    have h7 : i * 7 + 7 ≤ l.length * 7 := by omega
    have hx := gcs_take h2
    refine E.skip ?_
    refine E.seq ?_
    refine E.block ?_ -- 1
    refine E.seq ?_
    refine E.drawC mixed hr [] [] [1, 4, 6, 9] (by kernel_rfl) (by simp [h2, h7, hx, neq_gun]; rfl) ?_ -- region 6
    refine E.cond (by rfl) (fun h3 => ?_) (fun h3 => ?_)
    · simp at h3
    refine E.skip ?_
    refine E.reg hr (by simp [hw]; rfl) ?_ -- region 5
    exact ⟨i + 1, .less rfl rfl rfl (by simp) (by simp), h2, by dsimp only; omega⟩
  · refine E.exit ?_ -- 0
    refine E.seq ?_
    refine E.reg hr (by simp; rfl) ?_ -- region 8
    refine E.ret ?_
    exact pureK.ret rfl rfl (by simp) (by repeat first | exact sub_refl _ | refine sub_cons rfl ?_)
open Classical in
/-- both read as the same list -/
noncomputable def g66 (args : List Value) (H : Heap) (n : Nat) : R := match args with
  | [.agg ⟨[.slice none 0 0]⟩, .agg ⟨[.slice none 0 0]⟩] => some (.bool true, H, n)
  | [.agg ⟨[.slice (some a) len _]⟩, .agg ⟨[.slice (some b) len2 _]⟩] => match gunsAt H a len, gunsAt H b len2 with
    | some l, some k => if l = k then some (.bool true, H, n) else none
    | _, _ => none
  | _ => none
theorem ok66 : EntOk Tryz.prog (66, g66) := by
  intro args H n v H' n' h'
  simp only [g66] at h'
  split at h'
  · injection h' with h'; injection h' with e1 e2; injection e2 with e2 e3; subst e1 e2 e3
    exact AC.liftP rfl (Part.plain (by simp) [] (by simp [Seen]) gsz ⟨_, _, w66n⟩)
  · rename_i a len c0 b len2 c02
    split at h'
    · rename_i l k hl hk
      split at h'
      · rename_i e
        subst e
        injection h' with h'; injection h' with e1 e2; injection e2 with e2 e3; subst e1 e2 e3
        obtain ⟨hf, hc, hlen, hlt⟩ := gunsAt_ok hl
        obtain ⟨hf2, hc2, hlen2, hlt2⟩ := gunsAt_ok hk
        subst hlen
        have : len2 = l.length := hlen2.symm
        subst this
        exact AC.liftP rfl (Part.two (fun s u => [.agg ⟨[s]⟩, .agg ⟨[u]⟩]) (by intro φ φ0 s s0 u u0 h h'; simp [denL, den, h, h']) (by intro p s u h h'; exact ⟨⟨h, trivial⟩, ⟨h', trivial⟩, trivial⟩) hf hc (afL_gcs l) hf2 hc2 (afL_gcs l) [] (by simp [Seen]) gsz fun c c2 => ⟨_, _, w66 l _ _ c c2 hlt⟩)
      · cases h'
    · cases h'
  · cases h'
end Go.Proofs.YtndlfijfjglkdaaGreatDoor
