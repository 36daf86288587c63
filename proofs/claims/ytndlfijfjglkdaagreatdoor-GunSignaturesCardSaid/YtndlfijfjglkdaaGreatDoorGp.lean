/-
The walks of the checks of shifts, of the signature of a string, and of the numbers that choose shifts; strings changed gun by gun (each under the conditions in its statement).
-/
import Derived.Test.YtndlfijfjglkdaaGreatDoorGn
import Derived.Test.YtndlfijfjglkdaaGreatDoorGo
import Derived.Test.YtndlfijfjglkdaaGreatDoorGm
import Derived.Test.YtndlfijfjglkdaaGreatDoorGf
namespace Go.Ab
open Go
/-- one block with room and one slice, read only; and globals -/
theorem Part.rowOneG {P : Program} {H : Heap} {n : Nat} {R : List Value → Heap → Nat → Prop} (mk : Value → Value → List Value) (hmk : ∀ φ φ0 s s0 u u0, den φ0 s0 = den φ s → den φ0 u0 = den φ u → denL φ0 (mk s0 u0) = denL φ (mk s u)) (hms : ∀ (p : Nat → Prop) s u, sc p s → sc p u → scL p (mk s u))
    {b len skip sz : Nat} {cs : List Value} (hb : rowOf H b = some (cs, sz)) (haf : afL cs = true) {a2 : Addr} {len2 cap2 m2 : Nat} {cs2 : List Value} (hf2 : flat a2 = true) (hc2 : cellsA H a2.block a2.off m2 = some cs2) (haf2 : afL cs2 = true) (G : Heap) (hG : Seen P H G) {N : Nat} (hN : P.globals.size = N)
    (h : ∀ c2, R (mk (.slice (some ⟨N, 0, some 0⟩) len skip) (.slice (some ⟨N + 1, a2.off, none⟩) len2 c2)) ((N + 1, .inp a2.off cs2) :: (N, .row cs sz) :: G) (N + 2)) : Part P (mk (.slice (some ⟨b, 0, some 0⟩) len skip) (.slice (some a2) len2 cap2)) H n R :=
  Part.genG [⟨b, .row cs sz⟩, ⟨a2.block, .inp a2.off cs2⟩] G hG hN (fun v hv => by
    rcases List.mem_cons.1 hv with rfl | hv
    · exact ⟨hb, haf⟩
    · rw [List.mem_singleton] at hv
      subst hv
      exact ⟨⟨m2, hc2⟩, haf2⟩) fun φ => by
    obtain ⟨c2', hd2⟩ := den_flat φ (ad := a2) (l := len2) (c := cap2) hf2
    refine ⟨_, fun φ0 hl => hmk φ φ0 _ (.slice (some ⟨N, 0, some 0⟩) len skip) _ (.slice (some ⟨N + 1, a2.off, none⟩) len2 c2') ?_ ?_, hms _ _ _ (show N < N + 2 by omega) (show N + 1 < N + 2 by omega), h c2'⟩
    · have h0 := hl 0 _ rfl
      simp only [Nat.add_zero] at h0
      simp only [den, h0.1, h0.2]
    · have h1 := (hl 1 _ rfl).1
      rw [hd2]; simp only [den, h1]
end Go.Ab

namespace Go.Proofs.YtndlfijfjglkdaaGreatDoor
open Go Go.Ab Go.Proofs
def shC (l : List Gun) (sh : List Int) (i : Nat) : Int := match l[i]?, sh[i]? with
  | some g, some n => withinV n g.lo g.hi
  | _, _ => 0
/-- what is wrong with shifts for a string -/
def shE (l : List Gun) (sh : List Int) : Int := if sh.length = l.length then firstV ((List.range l.length).map (shC l sh)) else 2
theorem shC_at {l : List Gun} {sh : List Int} {i : Nat} (h : i < l.length) (h2 : i < sh.length) : shC l sh i = withinV sh[i] l[i].lo l[i].hi := by
  unfold shC
  rw [List.getElem?_eq_getElem h, List.getElem?_eq_getElem h2]
theorem shE_hit {l : List Gun} {sh : List Int} (he : sh.length = l.length) {i : Nat} (hi : i < l.length) (hb : ∀ j, j < i → shC l sh j = 0) (hne : shC l sh i ≠ 0) : shE l sh = shC l sh i := by
  unfold shE
  rw [if_pos he, firstV_map_hit hi hb hne]
theorem shE_ok {l : List Gun} {sh : List Int} (he : sh.length = l.length) (hb : ∀ j, j < l.length → shC l sh j = 0) : shE l sh = 0 := by
  unfold shE
  rw [if_pos he, firstV_map_zero hb]
theorem shE_zero {l : List Gun} {sh : List Int} (h : shE l sh = 0) : sh.length = l.length ∧ ∀ i (hi : i < l.length) (h2 : i < sh.length), l[i].lo ≤ sh[i] ∧ sh[i] ≤ l[i].hi := by
  unfold shE at h
  split at h
  · rename_i he
    refine ⟨he, fun i hi h2 => ?_⟩
    have := (firstV_zero _).1 h (shC l sh i) (List.mem_map.2 ⟨i, List.mem_range.2 hi, rfl⟩)
    rw [shC_at hi h2] at this
    exact (withinV_zero _ _ _).1 this
  · cases h
theorem gcs_loE {l : List Gun} {i : Nat} (h : i < l.length) (h2 : i * 7 + 5 < (gcs l).length) : (gcs l)[i * 7 + 5] = iv l[i].lo := by
  have := gcs_get h 5 (by omega)
  rw [List.getElem?_eq_getElem h2] at this
  exact Option.some.inj this
theorem gcs_hiE {l : List Gun} {i : Nat} (h : i < l.length) (h2 : i * 7 + 6 < (gcs l).length) : (gcs l)[i * 7 + 6] = iv l[i].hi := by
  have := gcs_get h 6 (by omega)
  rw [List.getElem?_eq_getElem h2] at this
  exact Option.some.inj this
set_option maxRecDepth 100000 in
theorem w132 (l : List Gun) (o2 c2 : Nat) (sh : List Int) (h1 : 1 ≤ l.length) (h8 : l.length ≤ 8) : AC Tryz.prog 132 [rowV l.length, .slice (some ⟨11, o2, none⟩) sh.length c2] [(11, .inp o2 (sh.map iv)), (10, .row (gcs l) 7)] 12 (iv (shE l sh)) [(11, .inp o2 (sh.map iv)), (10, .row (gcs l) 7)] 12 := by
  have hr := recT_ok (P := Tryz.prog) (l := [(138, g138)]) (by simp only [List.forall_mem_cons]; exact ⟨ok138, by simp⟩)
  refine AC.pure Tryz.func132 rfl (by kernel_rfl) rfl [2, 14, 15, 16] rfl ?_
  refine E.seq ?_
  refine E.reg hr (by simp; rfl) ?_
  refine E.seq ?_
  refine E.seq ?_
  by_cases he : sh.length = l.length
  rotate_left
  · have heI : ¬ (sh.length : Int) = l.length := by omega
    refine E.reg hr (by simp [heI]; rfl) ?_
    refine E.cond (by rfl) (fun h => ?_) (fun h => ?_)
    rotate_left
    · simp at h
    refine E.seq ?_
    refine E.reg hr (by simp; rfl) ?_
    refine E.ret ?_
    exact pureK.ret rfl rfl (by simp [shE, he]) (by repeat first | exact sub_refl _ | refine sub_cons rfl ?_)
  refine E.reg hr (by simp [he]; rfl) ?_
  refine E.cond (by rfl) (fun h => ?_) (fun h => ?_)
  · simp at h
  refine E.skip ?_
  refine E.seq ?_
  refine E.seq ?_
  refine E.reg hr (by simp; rfl) ?_
  refine E.block ?_
  refine E.loop ?_
  refine EL.ind (fun i : Nat => { fr := [(2, .pointer (some ⟨12, 0, none⟩)), (14, .slice (some ⟨11, o2, none⟩) sh.length c2), (15, iv l.length), (16, iv i)], sz := 41, H := (12, .cells [.slice (some ⟨10, 0, some 0⟩) l.length 0] 32) :: [(11, .inp o2 (sh.map iv)), (10, .row (gcs l) 7)], n := 13, marks := [], vs := [2, 14, 15, 16] }) (fun i => l.length - i) (fun i => i ≤ l.length ∧ ∀ j, j < i → shC l sh j = 0) 0 (.less rfl rfl rfl (by simp [he]) (by simp)) ⟨Nat.zero_le _, fun j hj => absurd hj (by omega)⟩ (fun _ => rfl) ?_
  intro i ⟨hi, hg⟩
  have hw : IntKind.i64.wrap ((i : Int) + 1) = (i : Int) + 1 := W_in (by omega) (by omega)
  refine E.seq ?_
  refine E.reg hr (by simp; rfl) ?_
  refine E.seq ?_
  refine E.cond (by rfl) (fun h => ?_) (fun h => ?_)
  · simp at h
    have hs : i < sh.length := by omega
    have hiI : (i : Int) < l.length := by omega
    have hsI : (i : Int) < sh.length := by omega
    have c5 : i * 7 + 5 < l.length * 7 := by omega
    have c6 : i * 7 + 6 < l.length * 7 := by omega
    have hlo := gcs_loE h (by simp; omega)
    have hhi := gcs_hiE h (by simp; omega)
    have hc := shC_at h hs
    refine E.skip ?_
    refine E.seq ?_
    refine E.block ?_
    refine E.seq ?_
    refine E.reg hr (by simp [hs, hsI]; rfl) ?_
    refine E.seq ?_
    refine E.drawC mixed hr [15] [15] [2, 7, 9, 14, 15] (by kernel_rfl) (by simp [hiI, c5, c6, hlo, hhi, g138, ← hc]; rfl) ?_
    refine E.seq ?_
    refine E.reg hr (by simp; rfl) ?_
    refine E.cond (by rfl) (fun h2 => ?_) (fun h2 => ?_)
    · simp at h2
      refine E.seq ?_
      refine E.reg hr (by simp; rfl) ?_
      refine E.ret ?_
      exact pureK.ret rfl rfl (by simp [shE_hit he h hg h2]) (by repeat first | exact sub_refl _ | refine sub_cons rfl ?_)
    · simp at h2
      refine E.skip ?_
      refine E.reg hr (by simp [hw]; rfl) ?_
      exact ⟨i + 1, .less rfl rfl rfl (by simp) (by simp), ⟨h, fun j hj => if e : j = i then e ▸ h2 else hg j (by omega)⟩, by dsimp only; omega⟩
  · simp at h
    refine E.exit ?_
    refine E.seq ?_
    refine E.reg hr (by simp; rfl) ?_
    refine E.ret ?_
    exact pureK.ret rfl rfl (by simp [shE_ok he fun j hj => hg j (by omega)]) (by repeat first | exact sub_refl _ | refine sub_cons rfl ?_)
set_option maxRecDepth 100000 in
theorem w44 (l : List Gun) (o c o2 c2 : Nat) (sh : List Int) (h1 : 1 ≤ l.length) (h8 : l.length ≤ 8) : AC Tryz.prog 44 [strV o l.length c, .slice (some ⟨11, o2, none⟩) sh.length c2] [(11, .inp o2 (sh.map iv)), (10, .inp o (gcs l))] 12 (iv (shE l sh)) [(11, .inp o2 (sh.map iv)), (10, .inp o (gcs l))] 12 := by
  have hr := recT_ok (P := Tryz.prog) (l := [(62, g138)]) (by simp only [List.forall_mem_cons]; exact ⟨ok62, by simp⟩)
  refine AC.pure Tryz.func44 rfl (by kernel_rfl) rfl [1, 2, 5] rfl ?_
  refine E.seq ?_
  refine E.reg hr (by simp; rfl) ?_
  refine E.seq ?_
  refine E.seq ?_
  by_cases he : sh.length = l.length
  rotate_left
  · have heI : ¬ (sh.length : Int) = l.length := by omega
    refine E.reg hr (by simp [heI]; rfl) ?_
    refine E.cond (by rfl) (fun h => ?_) (fun h => ?_)
    rotate_left
    · simp at h
    refine E.seq ?_
    refine E.reg hr (by simp; rfl) ?_
    refine E.ret ?_
    exact pureK.ret rfl rfl (by simp [shE, he]) (by repeat first | exact sub_refl _ | refine sub_cons rfl ?_)
  refine E.reg hr (by simp [he]; rfl) ?_
  refine E.cond (by rfl) (fun h => ?_) (fun h => ?_)
  · simp at h
  refine E.skip ?_
  refine E.seq ?_
  refine E.seq ?_
  refine E.reg hr (by simp; rfl) ?_
  refine E.block ?_
  refine E.loop ?_
  refine EL.ind (fun i : Nat => { fr := [(1, .slice (some ⟨11, o2, none⟩) sh.length c2), (2, .pointer (some ⟨12, 0, none⟩)), (5, iv i)], sz := 41, H := (12, .cells [.slice (some ⟨10, o, none⟩) l.length c] 24) :: [(11, .inp o2 (sh.map iv)), (10, .inp o (gcs l))], n := 13, marks := [], vs := [1, 2, 5] }) (fun i => l.length - i) (fun i => i ≤ l.length ∧ ∀ j, j < i → shC l sh j = 0) 0 (.less rfl rfl rfl (by simp [he]) (by simp)) ⟨Nat.zero_le _, fun j hj => absurd hj (by omega)⟩ (fun _ => rfl) ?_
  intro i ⟨hi, hg⟩
  have hw : IntKind.i64.wrap ((i : Int) + 1) = (i : Int) + 1 := W_in (by omega) (by omega)
  refine E.seq ?_
  refine E.seq ?_
  refine E.reg hr (by simp [he]; rfl) ?_
  refine E.cond (by rfl) (fun h => ?_) (fun h => ?_)
  · simp at h
    have hs : i < sh.length := by omega
    have hiI : (i : Int) < l.length := by omega
    have hsI : (i : Int) < sh.length := by omega
    have c5 : i * 7 + 5 < l.length * 7 := by omega
    have c6 : i * 7 + 6 < l.length * 7 := by omega
    have hlo := gcs_loE h (by simp; omega)
    have hhi := gcs_hiE h (by simp; omega)
    have o5 : o ≤ o + i * 7 + 5 := by omega
    have o6 : o + i * 7 + 5 - o = i * 7 + 5 := by omega
    have o7 : o ≤ o + i * 7 + 6 := by omega
    have o8 : o + i * 7 + 6 - o = i * 7 + 6 := by omega
    have hc := shC_at h hs
    refine E.skip ?_
    refine E.seq ?_
    refine E.block ?_
    refine E.seq ?_
    refine E.drawC mixed hr [18] [18] [3, 5, 10, 12, 17, 18] (by kernel_rfl) (by simp [hs, h, hiI, c5, c6, hlo, hhi, o5, o6, o7, o8, g138, ← hc]; rfl) ?_
    refine E.seq ?_
    refine E.reg hr (by simp; rfl) ?_
    refine E.cond (by rfl) (fun h2 => ?_) (fun h2 => ?_)
    · simp at h2
      refine E.seq ?_
      refine E.reg hr (by simp; rfl) ?_
      refine E.ret ?_
      exact pureK.ret rfl rfl (by simp [shE_hit he h hg h2]) (by repeat first | exact sub_refl _ | refine sub_cons rfl ?_)
    · simp at h2
      refine E.skip ?_
      refine E.reg hr (by simp [hw]; rfl) ?_
      exact ⟨i + 1, .less rfl rfl rfl (by simp [he]) (by simp), ⟨h, fun j hj => if e : j = i then e ▸ h2 else hg j (by omega)⟩, by dsimp only; omega⟩
  · simp at h
    refine E.exit ?_
    refine E.seq ?_
    refine E.reg hr (by simp; rfl) ?_
    refine E.ret ?_
    exact pureK.ret rfl rfl (by simp [shE_ok he fun j hj => hg j (by omega)]) (by repeat first | exact sub_refl _ | refine sub_cons rfl ?_)
theorem w132n (l : List Gun) (h1 : 1 ≤ l.length) : AC Tryz.prog 132 [rowV l.length, .slice none 0 0] [(10, .row (gcs l) 7)] 11 (iv (shE l [])) [(10, .row (gcs l) 7)] 11 := by
  have hr := recT_ok (P := Tryz.prog) (l := []) (by simp)
  have he : ¬ 0 = l.length := by omega
  have hne : l ≠ [] := fun e => by subst e; simp at h1
  refine AC.pure Tryz.func132 rfl (by kernel_rfl) rfl [2, 14, 15, 16] rfl ?_
  refine E.seq ?_
  refine E.reg hr (by simp; rfl) ?_
  refine E.seq ?_
  refine E.seq ?_
  refine E.reg hr (by simp; rfl) ?_
  refine E.cond (by rfl) (fun h => ?_) (fun h => ?_)
  rotate_left
  · simp [hne, eq_comm] at h
  refine E.seq ?_
  refine E.reg hr (by simp; rfl) ?_
  refine E.ret ?_
  exact pureK.ret rfl rfl (by simp [shE, he]) (by repeat first | exact sub_refl _ | refine sub_cons rfl ?_)
theorem w44n (l : List Gun) (o c : Nat) (h1 : 1 ≤ l.length) : AC Tryz.prog 44 [strV o l.length c, .slice none 0 0] [(10, .inp o (gcs l))] 11 (iv (shE l [])) [(10, .inp o (gcs l))] 11 := by
  have hr := recT_ok (P := Tryz.prog) (l := []) (by simp)
  have he : ¬ 0 = l.length := by omega
  have hne : l ≠ [] := fun e => by subst e; simp at h1
  refine AC.pure Tryz.func44 rfl (by kernel_rfl) rfl [1, 2, 5] rfl ?_
  refine E.seq ?_
  refine E.reg hr (by simp; rfl) ?_
  refine E.seq ?_
  refine E.seq ?_
  refine E.reg hr (by simp; rfl) ?_
  refine E.cond (by rfl) (fun h => ?_) (fun h => ?_)
  rotate_left
  · simp [hne, eq_comm] at h
  refine E.seq ?_
  refine E.reg hr (by simp; rfl) ?_
  refine E.ret ?_
  exact pureK.ret rfl rfl (by simp [shE, he]) (by repeat first | exact sub_refl _ | refine sub_cons rfl ?_)
/-- a slice of integers, or an absent one -/
def intsW (H : Heap) : Value → Option (List Int)
  | .slice none 0 0 => some []
  | .slice (some a) len _ => intsAt H a len
  | _ => none
def g132 (args : List Value) (H : Heap) (n : Nat) : R := match args with
  | [.agg ⟨[.slice (some ⟨b, 0, some 0⟩) len 0]⟩, t] => match rowGuns H b len, intsW H t with
    | some l, some sh => if 1 ≤ l.length ∧ l.length ≤ 8 then some (iv (shE l sh), H, n) else none
    | _, _ => none
  | _ => none
theorem ok132 : EntOk Tryz.prog (132, g132) := by
  intro args H n v H' n' h'
  simp only [g132] at h'
  split at h'
  · split at h'
    · rename_i l sh hg ht
      split at h'
      · rename_i hc
        obtain ⟨h1, h8⟩ := hc
        injection h' with h'; injection h' with e1 e2; injection e2 with e2 e3; subst e1 e2 e3
        obtain ⟨hb, rfl, _⟩ := rowGuns_ok hg
        unfold intsW at ht
        split at ht
        · injection ht with ht; subst ht
          exact AC.liftP rfl (Part.row (fun x => [.agg ⟨[x]⟩, .slice none 0 0]) (by intro φ φ0 s s0 h; simp [denL, den, h]) (by intro p s h; exact ⟨⟨h, trivial⟩, trivial, trivial⟩) hb (afL_gcs l) gsz ⟨_, _, w132n l h1⟩)
        · obtain ⟨hf, hc, hlen, _⟩ := intsAt_ok ht
          subst hlen
          exact AC.liftP rfl (Part.rowOne (fun x y => [.agg ⟨[x]⟩, y]) (by intro φ φ0 s s0 u u0 h h2; simp [denL, den, h, h2]) (by intro p s u h h2; exact ⟨⟨h, trivial⟩, h2, trivial⟩) hb (afL_gcs l) hf hc (afL_iv sh) gsz fun c2 => ⟨_, _, w132 l _ c2 sh h1 h8⟩)
        · cases ht
      · cases h'
    · cases h'
  · cases h'
def g44 (args : List Value) (H : Heap) (n : Nat) : R := match args with
  | [v, t] => match strAt H v, intsW H t with
    | some l, some sh => if 1 ≤ l.length ∧ l.length ≤ 8 then some (iv (shE l sh), H, n) else none
    | _, _ => none
  | _ => none
theorem ok44 : EntOk Tryz.prog (44, g44) := by
  intro args H n v H' n' h'
  simp only [g44] at h'
  split at h'
  · split at h'
    · rename_i l sh hg ht
      split at h'
      · rename_i hc
        obtain ⟨h1, h8⟩ := hc
        injection h' with h'; injection h' with e1 e2; injection e2 with e2 e3; subst e1 e2 e3
        unfold strAt at hg
        split at hg
        · injection hg with hg; subst hg; simp at h1
        · obtain ⟨hf, hc, hlen, _⟩ := gunsAt_ok hg
          subst hlen
          unfold intsW at ht
          split at ht
          · injection ht with ht; subst ht
            exact AC.liftP rfl (Part.one (fun x => [.agg ⟨[x]⟩, .slice none 0 0]) (by intro φ φ0 s s0 h; simp [denL, den, h]) (by intro p s h; exact ⟨⟨h, trivial⟩, trivial, trivial⟩) hf hc (afL_gcs l) [] (by simp [Seen]) gsz fun c => ⟨_, _, w44n l _ c h1⟩)
          · obtain ⟨hf2, hc2, hlen, _⟩ := intsAt_ok ht
            subst hlen
            exact AC.liftP rfl (Part.two (fun x y => [.agg ⟨[x]⟩, y]) (by intro φ φ0 s s0 u u0 h h2; simp [denL, den, h, h2]) (by intro p s u h h2; exact ⟨⟨h, trivial⟩, h2, trivial⟩) hf hc (afL_gcs l) hf2 hc2 (afL_iv sh) [] (by simp [Seen]) gsz fun c c2 => ⟨_, _, w44 l _ c _ c2 sh h1 h8⟩)
          · cases ht
        · cases hg
      · cases h'
    · cases h'
  · cases h'
end Go.Proofs.YtndlfijfjglkdaaGreatDoor

namespace Go.Proofs.YtndlfijfjglkdaaGreatDoor
open Go Go.Ab Go.Proofs
theorem w134 (i : Int) : AC Tryz.prog 134 [iv i] [] 10 (.bool true) [] 10 := by
  have hr := recT_ok (P := Tryz.prog) (l := []) (by simp)
  refine AC.pure Tryz.func134 rfl (by kernel_rfl) rfl [] rfl ?_
  refine E.seq ?_
  refine E.reg hr (by simp; rfl) ?_
  refine E.seq ?_
  refine E.reg hr (by simp; rfl) ?_
  refine E.ret ?_
  exact pureK.ret rfl rfl (by simp) (by repeat first | exact sub_refl _ | refine sub_cons rfl ?_)
def g134 (args : List Value) (H : Heap) (n : Nat) : R := match args with
  | [.int .i64 _] => some (.bool true, H, n)
  | _ => none
theorem ok134 : EntOk Tryz.prog (134, g134) := by
  intro args H n v H' n' h'
  simp only [g134] at h'
  split at h'
  · injection h' with h'; injection h' with e1 e2; injection e2 with e2 e3; subst e1 e2 e3
    exact AC.liftP rfl (Part.plain (by simp) [] (by simp [Seen]) gsz ⟨_, _, w134 _⟩)
  · cases h'
@[simp] theorem oneL_iv (l : List Int) : oneL (l.map iv) = true := by
  induction l with
  | nil => rfl
  | cons a l ih => simp [oneL, ih]
theorem w42 (sh : List Int) (o c : Nat) (hne : sh ≠ []) (hl : sh.length ≤ 4096) : ∃ u H1 n1 H2, AC Tryz.prog 42 [.slice (some ⟨10, o, none⟩) sh.length c] [(10, .inp o (sh.map iv))] 11 u H1 n1 ∧ intQ 11 sh u H2 ∧ (af u = false → H1 = H2) := by
  have hr := recT_ok (P := Tryz.prog) (l := []) (by simp)
  have hpos : 0 < sh.length := List.length_pos_iff.2 hne
  have ht : List.take sh.length (sh.map iv) = sh.map iv := List.take_of_length_le (by simp)
  have hsm : sh.length * 8 ≤ 1099511627776 ∧ sh.length ≤ 1099511627776 := by omega
  have hn0 : ¬ sh.length = 0 := by omega
  refine AC.out Tryz.func42 rfl (by kernel_rfl) rfl [] ?_
  refine E.seq ?_
  refine E.reg hr (by simp; rfl) ?_
  refine E.seq ?_
  refine E.reg hr (by simp [ht, hsm, hne]; rfl) ?_
  refine E.ret ?_
  refine outK.ret rfl rfl ?_
  exact ⟨12, by simp, by simp, by omega⟩
def emQ (k : Nat) (u : Value) (H : Heap) : Prop := ∃ m, u = .slice (some ⟨m, 0, none⟩) 0 0 ∧ hget H m = some (.cells [] 3) ∧ k ≤ m
theorem w42e (o c : Nat) : ∃ u H1 n1 H2, AC Tryz.prog 42 [.slice (some ⟨10, o, none⟩) 0 c] [(10, .inp o [])] 11 u H1 n1 ∧ emQ 11 u H2 ∧ (af u = false → H1 = H2) := by
  have hr := recT_ok (P := Tryz.prog) (l := []) (by simp)
  refine AC.out Tryz.func42 rfl (by kernel_rfl) rfl [] ?_
  refine E.seq ?_
  refine E.reg hr (by simp; rfl) ?_
  refine E.seq ?_
  refine E.reg hr (by simp; rfl) ?_
  refine E.ret ?_
  refine outK.ret rfl rfl ?_
  exact ⟨11, by simp, by simp, by omega⟩
theorem w42n : ∃ u H1 n1 H2, AC Tryz.prog 42 [.slice none 0 0] [] 10 u H1 n1 ∧ emQ 10 u H2 ∧ (af u = false → H1 = H2) := by
  have hr := recT_ok (P := Tryz.prog) (l := []) (by simp)
  refine AC.out Tryz.func42 rfl (by kernel_rfl) rfl [] ?_
  refine E.seq ?_
  refine E.reg hr (by simp; rfl) ?_
  refine E.seq ?_
  refine E.reg hr (by simp; rfl) ?_
  refine E.ret ?_
  refine outK.ret rfl rfl ?_
  exact ⟨10, by simp, by simp, by omega⟩
def g42 (args : List Value) (H : Heap) (n : Nat) : R := match args with
  | [t] => match intsW H t with
    | some sh => if sh = [] then some (.slice (some ⟨n, 0, none⟩) 0 0, (n, .cells [] 3) :: H, n + 1) else if sh.length ≤ 4096 then some (.slice (some ⟨n, 0, some 0⟩) sh.length 0, (n, .ext (sh.map iv) 3 1) :: H, n + 1) else none
    | none => none
  | _ => none
theorem ok42 : EntOk Tryz.prog (42, g42) := by
  intro args H n v H' n' h'
  simp only [g42] at h'
  split at h'
  · split at h'
    · rename_i sh ht
      split at h'
      · rename_i he
        subst he
        injection h' with h'; injection h' with e1 e2; injection e2 with e2 e3; subst e1 e2 e3
        unfold intsW at ht
        split at ht
        · refine AC.liftF (names_fl 0 0) (.inl ⟨_, _, rfl, rfl⟩) (Part.plain (by simp) [] (by simp [Seen]) gsz ?_)
          obtain ⟨u, H1, n1, H2, hAC, ⟨m, hu, hm, hle⟩, hh⟩ := w42n
          subst hu
          have := hh (by simp)
          subst this
          exact ⟨m, _, _, hle, hm, hAC⟩
        · obtain ⟨hf, hc, hlen, _⟩ := intsAt_ok ht
          subst hlen
          refine AC.liftF (names_fl 0 0) (.inl ⟨_, _, rfl, rfl⟩) (Part.one (fun x => [x]) (by intro φ φ0 s s0 h; simp [denL, h]) (by intro p s h; exact ⟨h, trivial⟩) hf hc (afL_iv []) [] (by simp [Seen]) gsz fun c => ?_)
          obtain ⟨u, H1, n1, H2, hAC, ⟨m, hu, hm, hle⟩, hh⟩ := w42e _ c
          subst hu
          have := hh (by simp)
          subst this
          exact ⟨m, _, _, hle, hm, hAC⟩
        · cases ht
      · rename_i hne
        split at h'
        · rename_i hl
          injection h' with h'; injection h' with e1 e2; injection e2 with e2 e3; subst e1 e2 e3
          unfold intsW at ht
          split at ht
          · injection ht with ht; exact absurd ht.symm hne
          · obtain ⟨hf, hc, hlen, _⟩ := intsAt_ok ht
            subst hlen
            refine AC.liftF (names_sx _ _) (.inr ⟨_, _, _, rfl, afL_iv _⟩) (Part.one (fun x => [x]) (by intro φ φ0 s s0 h; simp [denL, h]) (by intro p s h; exact ⟨h, trivial⟩) hf hc (afL_iv sh) [] (by simp [Seen]) gsz fun c => ?_)
            obtain ⟨u, H1, n1, H2, hAC, ⟨m, hu, hm, hle⟩, hh⟩ := w42 sh _ c hne hl
            subst hu
            have := hh (by simp)
            subst this
            exact ⟨m, _, _, hle, hm, hAC⟩
          · cases ht
        · cases h'
    · cases h'
  · cases h'
def vAt (l : List Gun) (i : Nat) : Int := match l[i]? with
  | some g => g.v
  | none => 0
def sigN (l : List Gun) (sh : List Int) (d : ByteArray) (W : Nat) : Nat → List Int
  | 0 => zeros W
  | i + 1 => addAll (sigN l sh d W i) ((arrL d l).getD i 0) (vAt l i) (sh.getD i 0)
@[simp] theorem sigN_length (l : List Gun) (sh : List Int) (d : ByteArray) (W : Nat) : ∀ i, (sigN l sh d W i).length = W
  | 0 => by simp [sigN]
  | i + 1 => by simp [sigN, sigN_length l sh d W i]
theorem arrL_length (d : ByteArray) (l : List Gun) : (arrL d l).length = l.length := by simp [arrL]
theorem arrL_bounds {l : List Gun} (hst : strE l = 0) (d : ByteArray) : ∀ x ∈ arrL d l, 0 ≤ x ∧ x ≤ 149 := by
  intro x hx
  obtain ⟨g, hg, rfl⟩ := List.mem_map.1 hx
  have hb := strE_inB hst
  obtain ⟨i, hi, rfl⟩ := List.getElem_of_mem hg
  have h1 := (strE_len hst).1
  have h2 := co_bound (F := fOf d) hb (List.getElem_mem hi)
  have h3 := least_bound (F := fOf d) hb h1
  obtain ⟨_, _, _, _, h4, h5⟩ := hb l[i] (List.getElem_mem hi)
  have h6 := minN_le (l.map (coG (fOf d))) (l.length - 1) (by simp; omega) i (by simpa using hi) (by omega)
  rw [List.getElem_map] at h6
  have h7 : leastV (fOf d) l ≤ coG (fOf d) l[i] := h6
  unfold arrG
  have e : (coG (fOf d) l[i] - leastV (fOf d) l).tdiv 15 = (coG (fOf d) l[i] - leastV (fOf d) l) / 15 := Int.tdiv_eq_ediv_of_nonneg (by omega)
  rw [e]
  omega
abbrev fn134 : Value := .func (.func 134) #[] #[]
abbrev H133 (l : List Gun) (sh : List Int) (o2 : Nat) : Heap := [(11, .inp o2 (sh.map iv)), (10, .row (gcs l) 7)]
def sigQ (r : List Int) (W : Nat) (u : Value) (H : Heap) : Prop := ∃ m, u = .slice (some ⟨m, 0, none⟩) W W ∧ hget H m = some (.cells (r.map iv) 3) ∧ 12 ≤ m
set_option maxRecDepth 100000 in
theorem w133 (l : List Gun) (sh : List Int) (d : ByteArray) (w : Int) (o2 c2 : Nat) (hst : strE l = 0) (hd : hasW d dirs = true) (hsh : shE l sh = 0) (hw : 1 ≤ w ∧ w ≤ 64) : ∃ u H1 n1 H2, AC Tryz.prog 133 [rowV l.length, .slice (some ⟨11, o2, none⟩) sh.length c2, sv d, iv w, fn134] (H133 l sh o2) 12 u H1 n1 ∧ sigQ (sigN l sh d w.toNat l.length) w.toNat u H2 ∧ (af u = false → H1 = H2) := by
  have hr := recT_ok (P := Tryz.prog) (l := [(116, g116), (134, g134), (128, g128)]) (by simp only [List.forall_mem_cons]; exact ⟨ok116, ok134, ok128, by simp⟩)
  obtain ⟨h1, h8⟩ := strE_len hst
  obtain ⟨hse, hsb⟩ := shE_zero hsh
  have hrow : ∀ G : Heap, hget G 10 = some (.row (gcs l) 7) → rowGuns G 10 l.length = some l := fun G hG => by
    unfold rowGuns rowOf
    rw [hG]
    simp [gunsOf_gcs, show l.length < 9223372036854775808 by omega]
  have hal := arrL_length d l
  refine AC.out Tryz.func133 rfl (by kernel_rfl) rfl [1, 4, 5, 11, 18, 19, 20] ?_
  refine E.seq ?_
  refine E.reg hr (by simp; rfl) ?_
  refine E.seq ?_
  refine E.reg hr (by simp [mk45 (w := w) (by omega) (by omega)]; rw [show List.replicate w.toNat (iv 0) = (zeros w.toNat).map iv by simp [zeros]]) ?_
  refine E.seq ?_
  refine E.seq ?_
  refine E.reg hr (by simp [g116, hrow, hst, hd]; rfl) ?_
  refine E.block ?_
  refine E.loop ?_
  refine EL.ind (fun i : Nat => { fr := [(1, .slice (some ⟨11, o2, none⟩) sh.length c2), (4, fn134), (5, .pointer (some ⟨12, 0, none⟩)), (11, .slice (some ⟨13, 0, none⟩) w.toNat w.toNat), (18, .slice (some ⟨14, 0, some 0⟩) (arrL d l).length 0), (19, iv (arrL d l).length), (20, iv i)], sz := 43, H := (14, .ext ((arrL d l).map iv) 3 1) :: (13, .cells ((sigN l sh d w.toNat i).map iv) 3) :: (12, .cells [.slice (some ⟨10, 0, some 0⟩) l.length 0] 32) :: H133 l sh o2, n := 15, marks := [], vs := [1, 4, 5, 11, 18, 19, 20] }) (fun i => l.length - i) (fun i => i ≤ l.length) 0 (.less rfl rfl rfl (by simp) (by simp [sigN])) (Nat.zero_le _) (fun _ => rfl) ?_
  intro i hi
  refine E.seq ?_
  refine E.reg hr (by simp; rfl) ?_
  refine E.seq ?_
  refine E.cond (by rfl) (fun h => ?_) (fun h => ?_)
  · simp at h
    have hil : i < l.length := by omega
    have hia : i < (arrL d l).length := by omega
    have his : i < sh.length := by omega
    have hilI : (i : Int) < l.length := by omega
    have hiaI : (i : Int) < (arrL d l).length := by omega
    have hisI : (i : Int) < sh.length := by omega
    have hwi : IntKind.i64.wrap ((i : Int) + 1) = (i : Int) + 1 := W_in (by omega) (by omega)
    have c1 : i * 7 + 1 < l.length * 7 := by omega
    have hvE := gcs_vE hil (by simp; omega)
    have hab := arrL_bounds hst d _ (List.getElem_mem hia)
    have hab1 := hab.1
    have hab2 : (arrL d l)[i] ≤ 4096 := by omega
    obtain ⟨hvb, _, _, _, hlo, hhi⟩ := gun_nums hst l[i] (List.getElem_mem hil)
    have hsi := hsb i hil his
    have hs0 : 0 ≤ sh[i] := by omega
    have hs4 : sh[i] ≤ 4 := by omega
    have hwl : (sigN l sh d w.toNat i).length = w.toNat := sigN_length ..
    have hw31 : w.toNat < 2147483648 := by omega
    have hio : intsOf ((sigN l sh d w.toNat i).map iv) = some (sigN l sh d w.toNat i) := intsOf_iv _
    have hsucc : (sigN l sh d w.toNat (i + 1)).map iv = (addAll (sigN l sh d w.toNat i) (arrL d l)[i] l[i].v sh[i]).map iv := by
      rw [sigN, List.getD_eq_getElem?_getD, List.getD_eq_getElem?_getD, List.getElem?_eq_getElem hia, List.getElem?_eq_getElem his]
      unfold vAt
      rw [List.getElem?_eq_getElem hil]
      rfl
    refine E.skip ?_
    refine E.seq ?_
    refine E.block ?_
    refine E.seq ?_
    refine E.reg hr (by simp [hia, hiaI]; rfl) ?_
    refine E.seq ?_
    refine E.reg hr (by simp [g134]; rfl) ?_
    refine E.cond (by rfl) (fun h2 => ?_) (fun h2 => ?_)
    rotate_left
    · simp at h2
    refine E.drawC mixed hr [12] [12] [3, 7, 11, 12] (by kernel_rfl) (by simp [hilI, c1, hvE, his, hisI, g128, hio, hwl, hw31, hab1, hab2, hvb.1, hvb.2, hs0, hs4]; rfl) ?_
    refine E.reg hr (by simp [hwi]; rfl) ?_
    exact ⟨i + 1, .less rfl rfl rfl (by simp) (by simp [hsucc]), hil, by dsimp only; omega⟩
  · simp at h
    have hil : i = l.length := by omega
    subst hil
    refine E.exit ?_
    refine E.seq ?_
    refine E.reg hr (by simp; rfl) ?_
    refine E.ret ?_
    refine outK.ret rfl rfl ?_
    exact ⟨13, by simp, by simp, by omega⟩
def g133 (args : List Value) (H : Heap) (n : Nat) : R := match args with
  | [.agg ⟨[.slice (some ⟨b, 0, some 0⟩) len 0]⟩, .slice (some a) slen _, .string d, .int .i64 w, .func (.func 134) ⟨[]⟩ ⟨[]⟩] => match rowGuns H b len, intsAt H a slen with
    | some l, some sh => if strE l = 0 ∧ hasW d dirs = true ∧ shE l sh = 0 ∧ 1 ≤ w ∧ w ≤ 64 then some (.slice (some ⟨n, 0, none⟩) w.toNat w.toNat, (n, .cells ((sigN l sh d w.toNat l.length).map iv) 3) :: H, n + 1) else none
    | _, _ => none
  | _ => none
theorem ok133 : EntOk Tryz.prog (133, g133) := by
  intro args H n v H' n' h'
  simp only [g133] at h'
  split at h'
  · split at h'
    · rename_i l sh hg ht
      split at h'
      · rename_i hc
        obtain ⟨hst, hd, hsh, hw1, hw2⟩ := hc
        injection h' with h'; injection h' with e1 e2; injection e2 with e2 e3; subst e1 e2 e3
        obtain ⟨hb, rfl, _⟩ := rowGuns_ok hg
        obtain ⟨hf, hc, hlen, _⟩ := intsAt_ok ht
        subst hlen
        refine AC.liftF (names_fl _ _) (.inl ⟨_, _, rfl, afL_iv _⟩) (Part.rowOne (fun x y => [.agg ⟨[x]⟩, y, sv _, iv _, fn134]) (by intro φ φ0 s s0 u u0 h h2; simp [denL, den, h, h2]) (by intro p s u h h2; exact ⟨⟨h, trivial⟩, h2, trivial, trivial, ⟨trivial, trivial⟩, trivial⟩) hb (afL_gcs l) hf hc (afL_iv sh) gsz fun c2 => ?_)
        obtain ⟨u, H1, n1, H2, hAC, ⟨m, hu, hm, hle⟩, hh⟩ := w133 l sh _ _ _ c2 hst hd hsh ⟨hw1, hw2⟩
        subst hu
        have := hh (by simp)
        subst this
        exact ⟨m, _, _, hle, hm, hAC⟩
      · cases h'
    · cases h'
  · cases h'
end Go.Proofs.YtndlfijfjglkdaaGreatDoor

namespace Go.Proofs.YtndlfijfjglkdaaGreatDoor
open Go Go.Ab Go.Proofs
theorem pulse256 {v s i : Int} (hv : 1 ≤ v ∧ v ≤ 64) : -256 ≤ pulseV v s i ∧ pulseV v s i ≤ 256 := by
  have a4 : IntKind.i64.wrap (4 * v) = 4 * v := W_in (by omega) (by omega)
  have a2 : IntKind.i64.wrap (2 * v) = 2 * v := W_in (by omega) (by omega)
  have am2 : IntKind.i64.wrap (0 - 2 * v) = 0 - 2 * v := W_in (by omega) (by omega)
  unfold pulseV
  rw [a4, a2, am2]
  split
  · omega
  · split
    · omega
    · split
      · omega
      · split <;> omega
theorem addAll_get {l : List Int} {b v s : Int} (hv : 1 ≤ v ∧ v ≤ 64) (hs : 0 ≤ s ∧ s ≤ 4) (hb : 0 ≤ b ∧ b ≤ 4096) {j : Nat} (hj : j < l.length) {x : Int} (hx : l[j]? = some x) (hxb : -100000 ≤ x ∧ x ≤ 100000) : (addAll l b v s)[j]? = some (x + pulseV v s (j - b)) := by
  obtain ⟨hp, hp1, hp2⟩ := period_bounds hv hs
  have hq : IntKind.i64.wrap ((periodV v s).tdiv 2) = periodV v s / 2 := by rw [Int.tdiv_eq_ediv_of_nonneg (by omega), W_in (by omega) (by omega)]
  have h2p : IntKind.i64.wrap (2 * periodV v s) = 2 * periodV v s := W_in (by omega) (by omega)
  have a4 : IntKind.i64.wrap (4 * v) = 4 * v := W_in (by omega) (by omega)
  have a2 : IntKind.i64.wrap (2 * v) = 2 * v := W_in (by omega) (by omega)
  have am : IntKind.i64.wrap (-2 * v) = -2 * v := W_in (by omega) (by omega)
  have am2 : IntKind.i64.wrap (0 - 2 * v) = 0 - 2 * v := W_in (by omega) (by omega)
  unfold addAll
  rw [addAt_get (by omega) (by simpa using hj), addAt_get (by omega) (by simpa using hj), addAt_get (by omega) (by simpa using hj), addAt_get (by omega) hj, hx]
  unfold pulseV
  rw [hq, h2p, a4, a2, am, am2]
  generalize periodV v s = p at *
  have wr : ∀ y : Int, -200000 ≤ y → y ≤ 200000 → IntKind.i64.wrap y = y := fun y h1 h2 => W_in (by omega) (by omega)
  by_cases c0 : (j : Int) - b = 0
  · rw [if_pos c0, if_neg (by omega), if_neg (by omega), if_neg (by omega), if_pos (by omega)]; simp only [Option.getD_some]; rw [wr _ (by omega) (by omega)]
  · rw [if_neg c0]
    by_cases c1 : (j : Int) - b = p / 2
    · rw [if_pos c1, if_neg (by omega), if_neg (by omega), if_pos (by omega), if_neg (by omega)]; simp only [Option.getD_some]; rw [wr _ (by omega) (by omega)]; congr 1; omega
    · rw [if_neg c1]
      by_cases c2 : (j : Int) - b = p
      · rw [if_pos c2, if_neg (by omega), if_pos (by omega), if_neg (by omega), if_neg (by omega)]; simp only [Option.getD_some]; rw [wr _ (by omega) (by omega)]
      · rw [if_neg c2]
        by_cases c3 : (j : Int) - b = 2 * p
        · rw [if_pos c3, if_pos (by omega), if_neg (by omega), if_neg (by omega), if_neg (by omega)]; simp only [Option.getD_some]; rw [wr _ (by omega) (by omega)]
        · rw [if_neg c3, if_neg (by omega), if_neg (by omega), if_neg (by omega), if_neg (by omega)]; simp
/-- what the first guns of a string sound at an index, each with its shift -/
def sumP (l : List Gun) (sh : List Int) (d : ByteArray) (j : Int) : Nat → Int
  | 0 => 0
  | i + 1 => sumP l sh d j i + pulseV (vAt l i) (sh.getD i 0) (j - (arrL d l).getD i 0)
theorem vAt_at {l : List Gun} {i : Nat} (h : i < l.length) : vAt l i = l[i].v := by
  unfold vAt
  rw [List.getElem?_eq_getElem h]
theorem getD_at {l : List Int} {i : Nat} (h : i < l.length) : l.getD i 0 = l[i] := by
  rw [List.getD_eq_getElem?_getD, List.getElem?_eq_getElem h]; rfl
theorem sum_bound {l : List Gun} {sh : List Int} (hst : strE l = 0) (d : ByteArray) (j : Int) : ∀ i, i ≤ l.length → -(256 * (i : Int)) ≤ sumP l sh d j i ∧ sumP l sh d j i ≤ 256 * (i : Int)
  | 0, _ => by simp [sumP]
  | i + 1, h => by
    have ih := sum_bound (sh := sh) hst d j i (by omega)
    obtain ⟨hv, _⟩ := gun_nums hst l[i] (List.getElem_mem (by omega))
    have hp := pulse256 (s := sh.getD i 0) (i := j - (arrL d l).getD i 0) hv
    rw [sumP, vAt_at (by omega)]
    omega
theorem sigN_get {l : List Gun} {sh : List Int} (hst : strE l = 0) (hsh : shE l sh = 0) (d : ByteArray) {W j : Nat} (hj : j < W) : ∀ i, i ≤ l.length → (sigN l sh d W i)[j]? = some (sumP l sh d j i)
  | 0, _ => by simp [sigN, sumP, zeros, hj]
  | i + 1, h => by
    have ih := sigN_get hst hsh d hj i (by omega)
    obtain ⟨hse, hsb⟩ := shE_zero hsh
    obtain ⟨hv, _, _, _, hlo, hhi⟩ := gun_nums hst l[i] (List.getElem_mem (by omega))
    have hb := sum_bound (sh := sh) hst d j i (by omega)
    have h8 := (strE_len hst).2
    have hia : i < (arrL d l).length := by rw [arrL_length]; omega
    have ha := arrL_bounds hst d _ (List.getElem_mem hia)
    have hsi := hsb i (by omega) (by omega)
    rw [sigN, sumP, vAt_at (by omega), getD_at hia, getD_at (l := sh) (by omega)]
    exact addAll_get hv (by omega) (by omega) (by simpa using hj) ih (by omega)
theorem sig_samp {l : List Gun} {sh : List Int} (hst : strE l = 0) (hsh : shE l sh = 0) (d : ByteArray) {w : Int} (hw : 1 ≤ w ∧ w ≤ 64) : sampAll (sigN l sh d w.toNat l.length) := by
  refine ⟨fun e => by have := congrArg List.length e; simp at this; omega, by simp; omega, fun x hx => ?_⟩
  obtain ⟨j, hj, rfl⟩ := List.getElem_of_mem hx
  have h1 := sigN_get hst hsh d (W := w.toNat) (j := j) (by simpa using hj) l.length (Nat.le_refl _)
  rw [List.getElem?_eq_getElem hj] at h1
  injection h1 with h1
  have h8 := (strE_len hst).2
  have := sum_bound (sh := sh) hst d j l.length (Nat.le_refl _)
  rw [h1]
  omega
def sigE (l : List Gun) (sh : List Int) (d : ByteArray) (w : Int) : Int := if strE l = 0 then firstV [shE l sh, dirE d, withinV w 1 64] else strE l
theorem sigE_zero {l : List Gun} {sh : List Int} {d : ByteArray} {w : Int} (h : sigE l sh d w = 0) : strE l = 0 ∧ shE l sh = 0 ∧ hasW d dirs = true ∧ 1 ≤ w ∧ w ≤ 64 := by
  unfold sigE at h
  split at h
  · rename_i hst
    have hz := (firstV_zero _).1 h
    exact ⟨hst, hz _ (by simp), dirE_zero (hz _ (by simp)), (withinV_zero _ _ _).1 (hz (withinV w 1 64) (by simp))⟩
  · rename_i h2; exact absurd h h2
def sgQ (k : Nat) (l : List Gun) (sh : List Int) (d : ByteArray) (w : Int) (u : Value) (H : Heap) : Prop := if sigE l sh d w = 0 then ∃ m, u = .tuple #[.slice (some ⟨m, 0, some 0⟩) w.toNat 0, iv 0] ∧ hget H m = some (.ext (((sigN l sh d w.toNat l.length).map sampB).map fv) 98 1) ∧ k ≤ m else u = .tuple #[.slice none 0 0, iv (sigE l sh d w)]
abbrev H41 (l : List Gun) (sh : List Int) (o2 : Nat) : Heap := [(11, .inp o2 (sh.map iv)), (10, .row (gcs l) 7), (0, .inp 0 names0)]
set_option maxRecDepth 100000 in
theorem w41 (l : List Gun) (sh : List Int) (d : ByteArray) (w : Int) (o2 c2 : Nat) (hl : l.length < 2 ^ 63) (hs31 : sh.length < 2 ^ 31) : ∃ u H1 n1 H2, AC Tryz.prog 41 [rowV l.length, .slice (some ⟨11, o2, none⟩) sh.length c2, sv d, iv w] (H41 l sh o2) 12 u H1 n1 ∧ sgQ 12 l sh d w u H2 ∧ (af u = false → H1 = H2) := by
  have hr := recT_ok (P := Tryz.prog) (l := [(31, g31), (132, g132), (115, g115), (127, g1 fun a => withinV a 1 64), (113, g113), (133, g133), (129, g129)]) (by simp only [List.forall_mem_cons]; exact ⟨ok31, ok132, ok115, ok127, ok113, ok133, ok129, by simp⟩)
  have hrow : ∀ G : Heap, hget G 10 = some (.row (gcs l) 7) → rowGuns G 10 l.length = some l := fun G hG => by
    unfold rowGuns rowOf
    rw [hG]
    simp [gunsOf_gcs, show l.length < 9223372036854775808 by omega]
  have hin : ∀ G : Heap, hget G 11 = some (.inp o2 (sh.map iv)) → intsAt G ⟨11, o2, none⟩ sh.length = some sh := fun G hG => by
    unfold intsAt
    simp [hG, List.take_of_length_le, intsOf_iv, show sh.length < 2147483648 by omega]
  refine AC.out Tryz.func41 rfl (by kernel_rfl) rfl [] ?_
  refine E.seq ?_
  refine E.reg hr (by simp; rfl) ?_
  refine E.seq ?_
  refine E.seq ?_
  refine E.reg hr (by simp [g31, rowOf, gunsOf_gcs, hl]; rfl) ?_
  refine E.seq ?_
  refine E.reg hr (by simp; rfl) ?_
  refine E.cond (by rfl) (fun h => ?_) (fun h => ?_)
  · simp at h
    refine E.seq ?_
    refine E.reg hr (by simp; rfl) ?_
    refine E.ret ?_
    refine outK.ret rfl rfl ?_
    simp [sgQ, sigE, h]
  simp at h
  obtain ⟨h1, h8⟩ := strE_len h
  refine E.skip ?_
  refine E.seq ?_
  refine E.seq ?_
  refine E.reg hr (by simp [g132, hrow, intsW, hin, h1, h8, g115, g113]; rfl) ?_
  refine E.seq ?_
  refine E.reg hr (by simp; rfl) ?_
  have hE : sigE l sh d w = firstV [shE l sh, dirE d, withinV w 1 64] := by simp [sigE, h]
  refine E.cond (by rfl) (fun h2 => ?_) (fun h2 => ?_)
  · simp at h2
    refine E.seq ?_
    refine E.reg hr (by simp; rfl) ?_
    refine E.ret ?_
    refine outK.ret rfl rfl ?_
    simp [sgQ, hE, h2]
  · simp at h2
    obtain ⟨_, hsh, hd, hw⟩ := sigE_zero (hE.trans h2)
    have hsa := sig_samp h hsh d hw
    obtain ⟨r, hrr⟩ : ∃ r, r = sigN l sh d w.toNat l.length := ⟨_, rfl⟩
    have hrl : r.length = w.toNat := by rw [hrr]; simp
    rw [← hrr] at hsa
    have hne := hsa.1
    have hir : ∀ (G : Heap) (b : Nat), hget G b = some (.cells (r.map iv) 3) → intsAt G ⟨b, 0, none⟩ w.toNat = some r := fun G b hG => by
      unfold intsAt
      simp [hG, List.take_of_length_le, hrl, intsOf_iv, show w.toNat < 2147483648 by omega]
    refine E.skip ?_
    refine E.seq ?_
    refine E.reg hr (by simp [g133, hrow, hin, h, hd, hsh, hw, ← hrr, g129, hir, hsa, gFlts, hne]; rfl) ?_
    refine E.ret ?_
    refine outK.ret rfl rfl ?_
    have he0 : sigE l sh d w = 0 := hE.trans h2
    unfold sgQ
    rw [if_pos he0]
    exact ⟨_, by simp [hrl]; rfl, by simp [hrr], by omega⟩
set_option maxRecDepth 100000 in
theorem w41n (sh : List Int) (d : ByteArray) (w : Int) (o2 c2 : Nat) : AC Tryz.prog 41 [nilV, .slice (some ⟨10, o2, none⟩) sh.length c2, sv d, iv w] [(10, .inp o2 (sh.map iv)), (0, .inp 0 names0)] 11 (.tuple #[.slice none 0 0, iv 12]) [(10, .inp o2 (sh.map iv)), (0, .inp 0 names0)] 11 := by
  have hr := recT_ok (P := Tryz.prog) (l := [(31, g31)]) (by simp only [List.forall_mem_cons]; exact ⟨ok31, by simp⟩)
  refine AC.pure Tryz.func41 rfl (by kernel_rfl) rfl [] rfl ?_
  refine E.seq ?_
  refine E.reg hr (by simp; rfl) ?_
  refine E.seq ?_
  refine E.seq ?_
  refine E.reg hr (by simp [g31, strE]; rfl) ?_
  refine E.seq ?_
  refine E.reg hr (by simp; rfl) ?_
  refine E.cond (by rfl) (fun h => ?_) (fun h => ?_)
  rotate_left
  · simp at h
  refine E.seq ?_
  refine E.reg hr (by simp; rfl) ?_
  refine E.ret ?_
  exact pureK.ret rfl rfl (by simp) (by repeat first | exact sub_refl _ | refine sub_cons rfl ?_)
def gSig (l : List Gun) (sh : List Int) (d : ByteArray) (w : Int) (H : Heap) (n : Nat) : R := if sigE l sh d w = 0 then some (.tuple #[.slice (some ⟨n, 0, some 0⟩) w.toNat 0, iv 0], (n, .ext (((sigN l sh d w.toNat l.length).map sampB).map fv) 98 1) :: H, n + 1) else some (.tuple #[.slice none 0 0, iv (sigE l sh d w)], H, n)
open Classical in
noncomputable def g41 (args : List Value) (H : Heap) (n : Nat) : R := match args with
  | [v, .slice (some a) slen _, .string d, .int .i64 w] => match strR H v, intsAt H a slen with
    | some l, some sh => if hget H 0 = some (.inp 0 names0) then gSig l sh d w H n else none
    | _, _ => none
  | _ => none
theorem sigE_nil (sh : List Int) (d : ByteArray) (w : Int) : sigE [] sh d w = 12 := by simp [sigE, strE]
theorem names_tx (l c : Nat) (e : Int) : Names1 fun m => .tuple #[.slice (some ⟨m, 0, some 0⟩) l c, iv e] := ⟨fun φ ψ m n h1 h2 => by simp [den, denL, h1, h2], fun p n h => by simp [sc, scL, h]⟩
theorem ok41 : EntOk Tryz.prog (41, g41) := by
  intro args H n v H' n' h'
  simp only [g41] at h'
  split at h'
  · rename_i v0 a slen cap0 d w
    split at h'
    · rename_i l sh hg ht
      split at h'
      · rename_i h0
        obtain ⟨hf, hc, hlen, hs31⟩ := intsAt_ok ht
        subst hlen
        unfold strR at hg
        split at hg
        · injection hg with hg; subst hg
          unfold gSig at h'
          rw [sigE_nil, if_neg (by decide)] at h'
          injection h' with h'; injection h' with e1 e2; injection e2 with e2 e3; subst e1 e2 e3
          exact AC.liftP rfl (Part.one (fun x => [nilV, x, sv _, iv _]) (by intro φ φ0 s s0 h; simp [denL, den, h]) (by intro p s h; exact ⟨⟨trivial, trivial⟩, h, trivial, trivial, trivial⟩) hf hc (afL_iv sh) [(0, .inp 0 names0)] (seen0 h0) gsz fun c => ⟨_, _, w41n sh _ _ _ c⟩)
        · split at hg
          · rename_i l' hg'
            split at hg
            · injection hg with hg; subst hg
              obtain ⟨hb, rfl, hlt⟩ := rowGuns_ok hg'
              have hp := fun R hR => Part.rowOneG (P := Tryz.prog) (H := H) (n := n) (R := R) (fun x y => [.agg ⟨[x]⟩, y, sv d, iv w]) (by intro φ φ0 s s0 u u0 h h2; simp [denL, den, h, h2]) (by intro p s u h h2; exact ⟨⟨h, trivial⟩, h2, trivial, trivial, trivial⟩) hb (afL_gcs l') (len := l'.length) (skip := 0) (len2 := sh.length) (cap2 := cap0) hf hc (afL_iv sh) [(0, .inp 0 names0)] (seen0 h0) gsz hR
              unfold gSig at h'
              split at h'
              · rename_i he
                injection h' with h'; injection h' with e1 e2; injection e2 with e2 e3; subst e1 e2 e3
                refine AC.liftF (names_tx _ _ _) (.inr ⟨_, _, _, rfl, afL_fv _⟩) (hp _ fun c2 => ?_)
                obtain ⟨u, H1, n1, H2, hAC, hq, hh⟩ := w41 l' sh _ _ _ c2 hlt hs31
                unfold sgQ at hq
                rw [if_pos he] at hq
                obtain ⟨m, hu, hm, hle⟩ := hq
                subst hu
                have := hh (by simp)
                subst this
                exact ⟨m, _, _, hle, hm, hAC⟩
              · rename_i he
                injection h' with h'; injection h' with e1 e2; injection e2 with e2 e3; subst e1 e2 e3
                refine AC.liftP rfl (hp _ fun c2 => ?_)
                obtain ⟨u, H1, n1, H2, hAC, hq, _⟩ := w41 l' sh _ _ _ c2 hlt hs31
                unfold sgQ at hq
                rw [if_neg he] at hq
                subst hq
                exact ⟨_, _, hAC⟩
            · cases hg
          · cases hg
        · cases hg
      · cases h'
    · cases h'
  · cases h'
end Go.Proofs.YtndlfijfjglkdaaGreatDoor

namespace Go.Proofs.YtndlfijfjglkdaaGreatDoor
open Go Go.Ab Go.Proofs
theorem gun_order {l : List Gun} (h : strE l = 0) : ∀ g ∈ l, g.lo ≤ g.hi := by
  intro g hg
  obtain ⟨i, hi, rfl⟩ := List.getElem_of_mem hg
  have hl := strE_len h
  unfold strE at h
  rw [if_neg (by omega), if_neg (by omega)] at h
  have hc := (firstV_zero _).1 h (gunChk l i) (List.mem_map.2 ⟨i, by simpa using hi, rfl⟩)
  rw [gunChk_at hi] at hc
  have h2 := (firstV_zero _).1 hc l[i].err (by simp)
  unfold Gun.err at h2
  have h3 := (firstV_zero _).1 h2 (if l[i].hi < l[i].lo then 11 else 0) (by simp)
  split at h3
  · cases h3
  · omega
end Go.Proofs.YtndlfijfjglkdaaGreatDoor

namespace Go.Proofs.YtndlfijfjglkdaaGreatDoor
open Go Go.Ab Go.Proofs
def mapTo (f : Gun → Gun) (l : List Gun) (i : Nat) : List Gun := (l.take i).map f ++ l.drop i
section
variable {f : Gun → Gun} {l : List Gun} {i : Nat}
@[simp] theorem mapTo_zero (f : Gun → Gun) (l : List Gun) : mapTo f l 0 = l := by simp [mapTo]
end
end Go.Proofs.YtndlfijfjglkdaaGreatDoor
