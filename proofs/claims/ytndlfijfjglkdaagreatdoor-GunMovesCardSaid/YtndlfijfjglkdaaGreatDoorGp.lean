/-
The walks of the checks of shifts, of the signature of a string, and of the numbers that choose shifts; strings changed gun by gun (each under the conditions in its statement).
-/
import Derived.Test.YtndlfijfjglkdaaGreatDoorGn
import Derived.Test.YtndlfijfjglkdaaGreatDoorGo
import Derived.Test.YtndlfijfjglkdaaGreatDoorGm
import Derived.Test.YtndlfijfjglkdaaGreatDoorGf
namespace Go.Ab
open Go
/-- one block with room and one slice, read only; and globals -/
theorem Part.rowOneG {P : Program} {H : Heap} {n : Nat} {R : List Value → Heap → Nat → Prop} (mk : Value → Value → List Value) (hmk : ∀ φ φ0 s s0 u u0, den φ0 s0 = den φ s → den φ0 u0 = den φ u → denL φ0 (mk s0 u0) = denL φ (mk s u)) (hms : ∀ (p : Nat → Prop) s u, sc p s → sc p u → scL p (mk s u))
    {b len skip sz : Nat} {cs : List Value} (hb : rowOf H b = some (cs, sz)) (haf : afL cs = true) {a2 : Addr} {len2 cap2 m2 : Nat} {cs2 : List Value} (hf2 : flat a2 = true) (hc2 : cellsA H a2.block a2.off m2 = some cs2) (haf2 : afL cs2 = true) (G : Heap) (hG : Seen P H G) {N : Nat} (hN : P.globals.size = N)
    (h : ∀ c2, R (mk (.slice (some ⟨N, 0, some 0⟩) len skip) (.slice (some ⟨N + 1, a2.off, none⟩) len2 c2)) ((N + 1, .inp a2.off cs2) :: (N, .row cs sz) :: G) (N + 2)) : Part P (mk (.slice (some ⟨b, 0, some 0⟩) len skip) (.slice (some a2) len2 cap2)) H n R :=
  Part.genG [⟨b, .row cs sz⟩, ⟨a2.block, .inp a2.off cs2⟩] G hG hN (fun v hv => by
    rcases List.mem_cons.1 hv with rfl | hv
    · exact ⟨hb, haf⟩
    · rw [List.mem_singleton] at hv
      subst hv
      exact ⟨⟨m2, hc2⟩, haf2⟩) fun φ => by
    obtain ⟨c2', hd2⟩ := den_flat φ (ad := a2) (l := len2) (c := cap2) hf2
    refine ⟨_, fun φ0 hl => hmk φ φ0 _ (.slice (some ⟨N, 0, some 0⟩) len skip) _ (.slice (some ⟨N + 1, a2.off, none⟩) len2 c2') ?_ ?_, hms _ _ _ (show N < N + 2 by omega) (show N + 1 < N + 2 by omega), h c2'⟩
    · have h0 := hl 0 _ rfl
      simp only [Nat.add_zero] at h0
      simp only [den, h0.1, h0.2]
    · have h1 := (hl 1 _ rfl).1
      rw [hd2]; simp only [den, h1]
end Go.Ab

namespace Go.Proofs.YtndlfijfjglkdaaGreatDoor
open Go Go.Ab Go.Proofs
/-! ### shifts -/
def shC (l : List Gun) (sh : List Int) (i : Nat) : Int := match l[i]?, sh[i]? with
  | some g, some n => withinV n g.lo g.hi
  | _, _ => 0
/-- what is wrong with shifts for a string -/
def shE (l : List Gun) (sh : List Int) : Int := if sh.length = l.length then firstV ((List.range l.length).map (shC l sh)) else 2
theorem shC_at {l : List Gun} {sh : List Int} {i : Nat} (h : i < l.length) (h2 : i < sh.length) : shC l sh i = withinV sh[i] l[i].lo l[i].hi := by
  unfold shC
  rw [List.getElem?_eq_getElem h, List.getElem?_eq_getElem h2]
theorem shE_hit {l : List Gun} {sh : List Int} (he : sh.length = l.length) {i : Nat} (hi : i < l.length) (hb : ∀ j, j < i → shC l sh j = 0) (hne : shC l sh i ≠ 0) : shE l sh = shC l sh i := by
  unfold shE
  rw [if_pos he, firstV_map_hit hi hb hne]
theorem shE_ok {l : List Gun} {sh : List Int} (he : sh.length = l.length) (hb : ∀ j, j < l.length → shC l sh j = 0) : shE l sh = 0 := by
  unfold shE
  rw [if_pos he, firstV_map_zero hb]
theorem shE_zero {l : List Gun} {sh : List Int} (h : shE l sh = 0) : sh.length = l.length ∧ ∀ i (hi : i < l.length) (h2 : i < sh.length), l[i].lo ≤ sh[i] ∧ sh[i] ≤ l[i].hi := by
  unfold shE at h
  split at h
  · rename_i he
    refine ⟨he, fun i hi h2 => ?_⟩
    have := (firstV_zero _).1 h (shC l sh i) (List.mem_map.2 ⟨i, List.mem_range.2 hi, rfl⟩)
    rw [shC_at hi h2] at this
    exact (withinV_zero _ _ _).1 this
  · cases h
theorem gcs_loE {l : List Gun} {i : Nat} (h : i < l.length) (h2 : i * 7 + 5 < (gcs l).length) : (gcs l)[i * 7 + 5] = iv l[i].lo := by
  have := gcs_get h 5 (by omega)
  rw [List.getElem?_eq_getElem h2] at this
  exact Option.some.inj this
theorem gcs_hiE {l : List Gun} {i : Nat} (h : i < l.length) (h2 : i * 7 + 6 < (gcs l).length) : (gcs l)[i * 7 + 6] = iv l[i].hi := by
  have := gcs_get h 6 (by omega)
  rw [List.getElem?_eq_getElem h2] at this
  exact Option.some.inj this
set_option maxRecDepth 100000 in
theorem w132 (l : List Gun) (o2 c2 : Nat) (sh : List Int) (h1 : 1 ≤ l.length) (h8 : l.length ≤ 8) : AC Tryz.prog 132 [rowV l.length, .slice (some ⟨11, o2, none⟩) sh.length c2] [(11, .inp o2 (sh.map iv)), (10, .row (gcs l) 7)] 12 (iv (shE l sh)) [(11, .inp o2 (sh.map iv)), (10, .row (gcs l) 7)] 12 := by
  have hr := recT_ok (P := Tryz.prog) (l := [(138, g138)]) (by simp only [List.forall_mem_cons]; exact ⟨ok138, by simp⟩)
  refine AC.pure Tryz.func132 rfl (by kernel_rfl) rfl [2, 14, 15, 16] rfl ?_
  refine E.seq ?_
  refine E.reg hr (by simp; rfl) ?_ -- region 0
  refine E.seq ?_
  refine E.seq ?_
  by_cases he : sh.length = l.length
  rotate_left
  · have heI : ¬ (sh.length : Int) = l.length := by omega
    refine E.reg hr (by simp [heI]; rfl) ?_ -- region 1
    refine E.cond (by rfl) (fun h => ?_) (fun h => ?_)
    rotate_left
    · simp at h
    refine E.seq ?_
    refine E.reg hr (by simp; rfl) ?_ -- region 2
    refine E.ret ?_
    exact pureK.ret rfl rfl (by simp [shE, he]) (by repeat first | exact sub_refl _ | refine sub_cons rfl ?_)
  refine E.reg hr (by simp [he]; rfl) ?_ -- region 1
  refine E.cond (by rfl) (fun h => ?_) (fun h => ?_)
  · simp at h
  refine E.skip ?_
  refine E.seq ?_
  refine E.seq ?_
  refine E.reg hr (by simp; rfl) ?_ -- region 3
  refine E.block ?_ -- 0
  refine E.loop ?_
  refine EL.ind (fun i : Nat => { fr := [(2, .pointer (some ⟨12, 0, none⟩)), (14, .slice (some ⟨11, o2, none⟩) sh.length c2), (15, iv l.length), (16, iv i)], sz := 41, H := (12, .cells [.slice (some ⟨10, 0, some 0⟩) l.length 0] 32) :: [(11, .inp o2 (sh.map iv)), (10, .row (gcs l) 7)], n := 13, marks := [], vs := [2, 14, 15, 16] }) (fun i => l.length - i) (fun i => i ≤ l.length ∧ ∀ j, j < i → shC l sh j = 0) 0 (.less rfl rfl rfl (by simp [he]) (by simp)) ⟨Nat.zero_le _, fun j hj => absurd hj (by omega)⟩ (fun _ => rfl) ?_
  intro i ⟨hi, hg⟩
  have hw : IntKind.i64.wrap ((i : Int) + 1) = (i : Int) + 1 := W_in (by omega) (by omega)
  refine E.seq ?_
  refine E.reg hr (by simp; rfl) ?_ -- region 4
  refine E.seq ?_
  refine E.cond (by rfl) (fun h => ?_) (fun h => ?_)
  · simp at h
    have hs : i < sh.length := by omega
    have hiI : (i : Int) < l.length := by omega
    have hsI : (i : Int) < sh.length := by omega
    have c5 : i * 7 + 5 < l.length * 7 := by omega
    have c6 : i * 7 + 6 < l.length * 7 := by omega
    have hlo := gcs_loE h (by simp; omega)
    have hhi := gcs_hiE h (by simp; omega)
    have hc := shC_at h hs
    refine E.skip ?_
    refine E.seq ?_
    refine E.block ?_ -- 1
    refine E.seq ?_
    refine E.reg hr (by simp [hs, hsI]; rfl) ?_ -- region 5
    refine E.seq ?_
    refine E.drawC mixed hr [15] [15] [2, 7, 9, 14, 15] (by kernel_rfl) (by simp [hiI, c5, c6, hlo, hhi, g138, ← hc]; rfl) ?_ -- region 6
    refine E.seq ?_
    refine E.reg hr (by simp; rfl) ?_ -- region 7
    refine E.cond (by rfl) (fun h2 => ?_) (fun h2 => ?_)
    · simp at h2
      refine E.seq ?_
      refine E.reg hr (by simp; rfl) ?_ -- region 8
      refine E.ret ?_
      exact pureK.ret rfl rfl (by simp [shE_hit he h hg h2]) (by repeat first | exact sub_refl _ | refine sub_cons rfl ?_)
    · simp at h2
      refine E.skip ?_
      refine E.reg hr (by simp [hw]; rfl) ?_ -- region 9
      exact ⟨i + 1, .less rfl rfl rfl (by simp) (by simp), ⟨h, fun j hj => if e : j = i then e ▸ h2 else hg j (by omega)⟩, by dsimp only; omega⟩
  · simp at h
    refine E.exit ?_ -- 0
    refine E.seq ?_
    refine E.reg hr (by simp; rfl) ?_ -- region 10
    refine E.ret ?_
    exact pureK.ret rfl rfl (by simp [shE_ok he fun j hj => hg j (by omega)]) (by repeat first | exact sub_refl _ | refine sub_cons rfl ?_)
set_option maxRecDepth 100000 in
theorem w44 (l : List Gun) (o c o2 c2 : Nat) (sh : List Int) (h1 : 1 ≤ l.length) (h8 : l.length ≤ 8) : AC Tryz.prog 44 [strV o l.length c, .slice (some ⟨11, o2, none⟩) sh.length c2] [(11, .inp o2 (sh.map iv)), (10, .inp o (gcs l))] 12 (iv (shE l sh)) [(11, .inp o2 (sh.map iv)), (10, .inp o (gcs l))] 12 := by
  have hr := recT_ok (P := Tryz.prog) (l := [(62, g138)]) (by simp only [List.forall_mem_cons]; exact ⟨ok62, by simp⟩)
  refine AC.pure Tryz.func44 rfl (by kernel_rfl) rfl [1, 2, 5] rfl ?_
  refine E.seq ?_
  refine E.reg hr (by simp; rfl) ?_ -- region 0
  refine E.seq ?_
  refine E.seq ?_
  by_cases he : sh.length = l.length
  rotate_left
  · have heI : ¬ (sh.length : Int) = l.length := by omega
    refine E.reg hr (by simp [heI]; rfl) ?_ -- region 1
    refine E.cond (by rfl) (fun h => ?_) (fun h => ?_)
    rotate_left
    · simp at h
    refine E.seq ?_
    refine E.reg hr (by simp; rfl) ?_ -- region 2
    refine E.ret ?_
    exact pureK.ret rfl rfl (by simp [shE, he]) (by repeat first | exact sub_refl _ | refine sub_cons rfl ?_)
  refine E.reg hr (by simp [he]; rfl) ?_ -- region 1
  refine E.cond (by rfl) (fun h => ?_) (fun h => ?_)
  · simp at h
  refine E.skip ?_
  refine E.seq ?_
  refine E.seq ?_
  refine E.reg hr (by simp; rfl) ?_ -- region 3
  refine E.block ?_ -- 0
  refine E.loop ?_
  refine EL.ind (fun i : Nat => { fr := [(1, .slice (some ⟨11, o2, none⟩) sh.length c2), (2, .pointer (some ⟨12, 0, none⟩)), (5, iv i)], sz := 41, H := (12, .cells [.slice (some ⟨10, o, none⟩) l.length c] 24) :: [(11, .inp o2 (sh.map iv)), (10, .inp o (gcs l))], n := 13, marks := [], vs := [1, 2, 5] }) (fun i => l.length - i) (fun i => i ≤ l.length ∧ ∀ j, j < i → shC l sh j = 0) 0 (.less rfl rfl rfl (by simp [he]) (by simp)) ⟨Nat.zero_le _, fun j hj => absurd hj (by omega)⟩ (fun _ => rfl) ?_
  intro i ⟨hi, hg⟩
  have hw : IntKind.i64.wrap ((i : Int) + 1) = (i : Int) + 1 := W_in (by omega) (by omega)
  refine E.seq ?_
  refine E.seq ?_
  refine E.reg hr (by simp [he]; rfl) ?_ -- region 4
  refine E.cond (by rfl) (fun h => ?_) (fun h => ?_)
  · simp at h
    have hs : i < sh.length := by omega
    have hiI : (i : Int) < l.length := by omega
    have hsI : (i : Int) < sh.length := by omega
    have c5 : i * 7 + 5 < l.length * 7 := by omega
    have c6 : i * 7 + 6 < l.length * 7 := by omega
    have hlo := gcs_loE h (by simp; omega)
    have hhi := gcs_hiE h (by simp; omega)
    have o5 : o ≤ o + i * 7 + 5 := by omega
    have o6 : o + i * 7 + 5 - o = i * 7 + 5 := by omega
    have o7 : o ≤ o + i * 7 + 6 := by omega
    have o8 : o + i * 7 + 6 - o = i * 7 + 6 := by omega
    have hc := shC_at h hs
    refine E.skip ?_
    refine E.seq ?_
    refine E.block ?_ -- 1
    refine E.seq ?_
    refine E.drawC mixed hr [18] [18] [3, 5, 10, 12, 17, 18] (by kernel_rfl) (by simp [hs, h, hiI, c5, c6, hlo, hhi, o5, o6, o7, o8, g138, ← hc]; rfl) ?_ -- region 6
    refine E.seq ?_
    refine E.reg hr (by simp; rfl) ?_ -- region 7
    refine E.cond (by rfl) (fun h2 => ?_) (fun h2 => ?_)
    · simp at h2
      refine E.seq ?_
      refine E.reg hr (by simp; rfl) ?_ -- region 8
      refine E.ret ?_
      exact pureK.ret rfl rfl (by simp [shE_hit he h hg h2]) (by repeat first | exact sub_refl _ | refine sub_cons rfl ?_)
    · simp at h2
      refine E.skip ?_
      refine E.reg hr (by simp [hw]; rfl) ?_ -- region 5
      exact ⟨i + 1, .less rfl rfl rfl (by simp [he]) (by simp), ⟨h, fun j hj => if e : j = i then e ▸ h2 else hg j (by omega)⟩, by dsimp only; omega⟩
  · simp at h
    refine E.exit ?_ -- 0
    refine E.seq ?_
    refine E.reg hr (by simp; rfl) ?_ -- region 9
    refine E.ret ?_
    exact pureK.ret rfl rfl (by simp [shE_ok he fun j hj => hg j (by omega)]) (by repeat first | exact sub_refl _ | refine sub_cons rfl ?_)
theorem w132n (l : List Gun) (h1 : 1 ≤ l.length) : AC Tryz.prog 132 [rowV l.length, .slice none 0 0] [(10, .row (gcs l) 7)] 11 (iv (shE l [])) [(10, .row (gcs l) 7)] 11 := by
  have hr := recT_ok (P := Tryz.prog) (l := []) (by simp)
  have he : ¬ 0 = l.length := by omega
  have hne : l ≠ [] := fun e => by subst e; simp at h1
  refine AC.pure Tryz.func132 rfl (by kernel_rfl) rfl [2, 14, 15, 16] rfl ?_
  refine E.seq ?_
  refine E.reg hr (by simp; rfl) ?_ -- region 0
  refine E.seq ?_
  refine E.seq ?_
  refine E.reg hr (by simp; rfl) ?_ -- region 1
  refine E.cond (by rfl) (fun h => ?_) (fun h => ?_)
  rotate_left
  · simp [hne, eq_comm] at h
  refine E.seq ?_
  refine E.reg hr (by simp; rfl) ?_ -- region 2
  refine E.ret ?_
  exact pureK.ret rfl rfl (by simp [shE, he]) (by repeat first | exact sub_refl _ | refine sub_cons rfl ?_)
theorem w44n (l : List Gun) (o c : Nat) (h1 : 1 ≤ l.length) : AC Tryz.prog 44 [strV o l.length c, .slice none 0 0] [(10, .inp o (gcs l))] 11 (iv (shE l [])) [(10, .inp o (gcs l))] 11 := by
  have hr := recT_ok (P := Tryz.prog) (l := []) (by simp)
  have he : ¬ 0 = l.length := by omega
  have hne : l ≠ [] := fun e => by subst e; simp at h1
  refine AC.pure Tryz.func44 rfl (by kernel_rfl) rfl [1, 2, 5] rfl ?_
  refine E.seq ?_
  refine E.reg hr (by simp; rfl) ?_ -- region 0
  refine E.seq ?_
  refine E.seq ?_
  refine E.reg hr (by simp; rfl) ?_ -- region 1
  refine E.cond (by rfl) (fun h => ?_) (fun h => ?_)
  rotate_left
  · simp [hne, eq_comm] at h
  refine E.seq ?_
  refine E.reg hr (by simp; rfl) ?_ -- region 2
  refine E.ret ?_
  exact pureK.ret rfl rfl (by simp [shE, he]) (by repeat first | exact sub_refl _ | refine sub_cons rfl ?_)
/-- a slice of integers, or an absent one -/
def intsW (H : Heap) : Value → Option (List Int)
  | .slice none 0 0 => some []
  | .slice (some a) len _ => intsAt H a len
  | _ => none
def g132 (args : List Value) (H : Heap) (n : Nat) : R := match args with
  | [.agg ⟨[.slice (some ⟨b, 0, some 0⟩) len 0]⟩, t] => match rowGuns H b len, intsW H t with
    | some l, some sh => if 1 ≤ l.length ∧ l.length ≤ 8 then some (iv (shE l sh), H, n) else none
    | _, _ => none
  | _ => none
theorem ok132 : EntOk Tryz.prog (132, g132) := by
  intro args H n v H' n' h'
  simp only [g132] at h'
  split at h'
  · split at h'
    · rename_i l sh hg ht
      split at h'
      · rename_i hc
        obtain ⟨h1, h8⟩ := hc
        injection h' with h'; injection h' with e1 e2; injection e2 with e2 e3; subst e1 e2 e3
        obtain ⟨hb, rfl, _⟩ := rowGuns_ok hg
        unfold intsW at ht
        split at ht
        · injection ht with ht; subst ht
          exact AC.liftP rfl (Part.row (fun x => [.agg ⟨[x]⟩, .slice none 0 0]) (by intro φ φ0 s s0 h; simp [denL, den, h]) (by intro p s h; exact ⟨⟨h, trivial⟩, trivial, trivial⟩) hb (afL_gcs l) gsz ⟨_, _, w132n l h1⟩)
        · obtain ⟨hf, hc, hlen, _⟩ := intsAt_ok ht
          subst hlen
          exact AC.liftP rfl (Part.rowOne (fun x y => [.agg ⟨[x]⟩, y]) (by intro φ φ0 s s0 u u0 h h2; simp [denL, den, h, h2]) (by intro p s u h h2; exact ⟨⟨h, trivial⟩, h2, trivial⟩) hb (afL_gcs l) hf hc (afL_iv sh) gsz fun c2 => ⟨_, _, w132 l _ c2 sh h1 h8⟩)
        · cases ht
      · cases h'
    · cases h'
  · cases h'
def g44 (args : List Value) (H : Heap) (n : Nat) : R := match args with
  | [v, t] => match strAt H v, intsW H t with
    | some l, some sh => if 1 ≤ l.length ∧ l.length ≤ 8 then some (iv (shE l sh), H, n) else none
    | _, _ => none
  | _ => none
theorem ok44 : EntOk Tryz.prog (44, g44) := by
  intro args H n v H' n' h'
  simp only [g44] at h'
  split at h'
  · split at h'
    · rename_i l sh hg ht
      split at h'
      · rename_i hc
        obtain ⟨h1, h8⟩ := hc
        injection h' with h'; injection h' with e1 e2; injection e2 with e2 e3; subst e1 e2 e3
        unfold strAt at hg
        split at hg
        · injection hg with hg; subst hg; simp at h1
        · obtain ⟨hf, hc, hlen, _⟩ := gunsAt_ok hg
          subst hlen
          unfold intsW at ht
          split at ht
          · injection ht with ht; subst ht
            exact AC.liftP rfl (Part.one (fun x => [.agg ⟨[x]⟩, .slice none 0 0]) (by intro φ φ0 s s0 h; simp [denL, den, h]) (by intro p s h; exact ⟨⟨h, trivial⟩, trivial, trivial⟩) hf hc (afL_gcs l) [] (by simp [Seen]) gsz fun c => ⟨_, _, w44n l _ c h1⟩)
          · obtain ⟨hf2, hc2, hlen, _⟩ := intsAt_ok ht
            subst hlen
            exact AC.liftP rfl (Part.two (fun x y => [.agg ⟨[x]⟩, y]) (by intro φ φ0 s s0 u u0 h h2; simp [denL, den, h, h2]) (by intro p s u h h2; exact ⟨⟨h, trivial⟩, h2, trivial⟩) hf hc (afL_gcs l) hf2 hc2 (afL_iv sh) [] (by simp [Seen]) gsz fun c c2 => ⟨_, _, w44 l _ c _ c2 sh h1 h8⟩)
          · cases ht
        · cases hg
      · cases h'
    · cases h'
  · cases h'
end Go.Proofs.YtndlfijfjglkdaaGreatDoor

namespace Go.Proofs.YtndlfijfjglkdaaGreatDoor
open Go Go.Ab Go.Proofs
theorem w134 (i : Int) : AC Tryz.prog 134 [iv i] [] 10 (.bool true) [] 10 := by
  have hr := recT_ok (P := Tryz.prog) (l := []) (by simp)
  refine AC.pure Tryz.func134 rfl (by kernel_rfl) rfl [] rfl ?_
  refine E.seq ?_
  refine E.reg hr (by simp; rfl) ?_ -- region 0
  refine E.seq ?_
  refine E.reg hr (by simp; rfl) ?_ -- region 1
  refine E.ret ?_
  exact pureK.ret rfl rfl (by simp) (by repeat first | exact sub_refl _ | refine sub_cons rfl ?_)
def g134 (args : List Value) (H : Heap) (n : Nat) : R := match args with
  | [.int .i64 _] => some (.bool true, H, n)
  | _ => none
theorem ok134 : EntOk Tryz.prog (134, g134) := by
  intro args H n v H' n' h'
  simp only [g134] at h'
  split at h'
  · injection h' with h'; injection h' with e1 e2; injection e2 with e2 e3; subst e1 e2 e3
    exact AC.liftP rfl (Part.plain (by simp) [] (by simp [Seen]) gsz ⟨_, _, w134 _⟩)
  · cases h'
/-! ### a copy of integers -/
@[simp] theorem oneL_iv (l : List Int) : oneL (l.map iv) = true := by
  induction l with
  | nil => rfl
  | cons a l ih => simp [oneL, ih]
theorem w42 (sh : List Int) (o c : Nat) (hne : sh ≠ []) (hl : sh.length ≤ 4096) : ∃ u H1 n1 H2, AC Tryz.prog 42 [.slice (some ⟨10, o, none⟩) sh.length c] [(10, .inp o (sh.map iv))] 11 u H1 n1 ∧ intQ 11 sh u H2 ∧ (af u = false → H1 = H2) := by
  have hr := recT_ok (P := Tryz.prog) (l := []) (by simp)
  have hpos : 0 < sh.length := List.length_pos_iff.2 hne
  have ht : List.take sh.length (sh.map iv) = sh.map iv := List.take_of_length_le (by simp)
  have hsm : sh.length * 8 ≤ 1099511627776 ∧ sh.length ≤ 1099511627776 := by omega
  have hn0 : ¬ sh.length = 0 := by omega
  refine AC.out Tryz.func42 rfl (by kernel_rfl) rfl [] ?_
  refine E.seq ?_
  refine E.reg hr (by simp; rfl) ?_ -- region 0
  refine E.seq ?_
  refine E.reg hr (by simp [ht, hsm, hne]; rfl) ?_ -- region 1
  refine E.ret ?_
  refine outK.ret rfl rfl ?_
  exact ⟨12, by simp, by simp, by omega⟩
def emQ (k : Nat) (u : Value) (H : Heap) : Prop := ∃ m, u = .slice (some ⟨m, 0, none⟩) 0 0 ∧ hget H m = some (.cells [] 3) ∧ k ≤ m
theorem w42e (o c : Nat) : ∃ u H1 n1 H2, AC Tryz.prog 42 [.slice (some ⟨10, o, none⟩) 0 c] [(10, .inp o [])] 11 u H1 n1 ∧ emQ 11 u H2 ∧ (af u = false → H1 = H2) := by
  have hr := recT_ok (P := Tryz.prog) (l := []) (by simp)
  refine AC.out Tryz.func42 rfl (by kernel_rfl) rfl [] ?_
  refine E.seq ?_
  refine E.reg hr (by simp; rfl) ?_ -- region 0
  refine E.seq ?_
  refine E.reg hr (by simp; rfl) ?_ -- region 1
  refine E.ret ?_
  refine outK.ret rfl rfl ?_
  exact ⟨11, by simp, by simp, by omega⟩
theorem w42n : ∃ u H1 n1 H2, AC Tryz.prog 42 [.slice none 0 0] [] 10 u H1 n1 ∧ emQ 10 u H2 ∧ (af u = false → H1 = H2) := by
  have hr := recT_ok (P := Tryz.prog) (l := []) (by simp)
  refine AC.out Tryz.func42 rfl (by kernel_rfl) rfl [] ?_
  refine E.seq ?_
  refine E.reg hr (by simp; rfl) ?_ -- region 0
  refine E.seq ?_
  refine E.reg hr (by simp; rfl) ?_ -- region 1
  refine E.ret ?_
  refine outK.ret rfl rfl ?_
  exact ⟨10, by simp, by simp, by omega⟩
def g42 (args : List Value) (H : Heap) (n : Nat) : R := match args with
  | [t] => match intsW H t with
    | some sh => if sh = [] then some (.slice (some ⟨n, 0, none⟩) 0 0, (n, .cells [] 3) :: H, n + 1) else if sh.length ≤ 4096 then some (.slice (some ⟨n, 0, some 0⟩) sh.length 0, (n, .ext (sh.map iv) 3 1) :: H, n + 1) else none
    | none => none
  | _ => none
theorem ok42 : EntOk Tryz.prog (42, g42) := by
  intro args H n v H' n' h'
  simp only [g42] at h'
  split at h'
  · split at h'
    · rename_i sh ht
      split at h'
      · rename_i he
        subst he
        injection h' with h'; injection h' with e1 e2; injection e2 with e2 e3; subst e1 e2 e3
        unfold intsW at ht
        split at ht
        · refine AC.liftF (names_fl 0 0) (.inl ⟨_, _, rfl, rfl⟩) (Part.plain (by simp) [] (by simp [Seen]) gsz ?_)
          obtain ⟨u, H1, n1, H2, hAC, ⟨m, hu, hm, hle⟩, hh⟩ := w42n
          subst hu
          have := hh (by simp)
          subst this
          exact ⟨m, _, _, hle, hm, hAC⟩
        · obtain ⟨hf, hc, hlen, _⟩ := intsAt_ok ht
          subst hlen
          refine AC.liftF (names_fl 0 0) (.inl ⟨_, _, rfl, rfl⟩) (Part.one (fun x => [x]) (by intro φ φ0 s s0 h; simp [denL, h]) (by intro p s h; exact ⟨h, trivial⟩) hf hc (afL_iv []) [] (by simp [Seen]) gsz fun c => ?_)
          obtain ⟨u, H1, n1, H2, hAC, ⟨m, hu, hm, hle⟩, hh⟩ := w42e _ c
          subst hu
          have := hh (by simp)
          subst this
          exact ⟨m, _, _, hle, hm, hAC⟩
        · cases ht
      · rename_i hne
        split at h'
        · rename_i hl
          injection h' with h'; injection h' with e1 e2; injection e2 with e2 e3; subst e1 e2 e3
          unfold intsW at ht
          split at ht
          · injection ht with ht; exact absurd ht.symm hne
          · obtain ⟨hf, hc, hlen, _⟩ := intsAt_ok ht
            subst hlen
            refine AC.liftF (names_sx _ _) (.inr ⟨_, _, _, rfl, afL_iv _⟩) (Part.one (fun x => [x]) (by intro φ φ0 s s0 h; simp [denL, h]) (by intro p s h; exact ⟨h, trivial⟩) hf hc (afL_iv sh) [] (by simp [Seen]) gsz fun c => ?_)
            obtain ⟨u, H1, n1, H2, hAC, ⟨m, hu, hm, hle⟩, hh⟩ := w42 sh _ c hne hl
            subst hu
            have := hh (by simp)
            subst this
            exact ⟨m, _, _, hle, hm, hAC⟩
          · cases ht
        · cases h'
    · cases h'
  · cases h'
/-! ### the signature of a string -/
def vAt (l : List Gun) (i : Nat) : Int := match l[i]? with
  | some g => g.v
  | none => 0
def sigN (l : List Gun) (sh : List Int) (d : ByteArray) (W : Nat) : Nat → List Int
  | 0 => zeros W
  | i + 1 => addAll (sigN l sh d W i) ((arrL d l).getD i 0) (vAt l i) (sh.getD i 0)
@[simp] theorem sigN_length (l : List Gun) (sh : List Int) (d : ByteArray) (W : Nat) : ∀ i, (sigN l sh d W i).length = W
  | 0 => by simp [sigN]
  | i + 1 => by simp [sigN, sigN_length l sh d W i]
theorem arrL_length (d : ByteArray) (l : List Gun) : (arrL d l).length = l.length := by simp [arrL]
theorem arrL_bounds {l : List Gun} (hst : strE l = 0) (d : ByteArray) : ∀ x ∈ arrL d l, 0 ≤ x ∧ x ≤ 149 := by
  intro x hx
  obtain ⟨g, hg, rfl⟩ := List.mem_map.1 hx
  have hb := strE_inB hst
  obtain ⟨i, hi, rfl⟩ := List.getElem_of_mem hg
  have h1 := (strE_len hst).1
  have h2 := co_bound (F := fOf d) hb (List.getElem_mem hi)
  have h3 := least_bound (F := fOf d) hb h1
  obtain ⟨_, _, _, _, h4, h5⟩ := hb l[i] (List.getElem_mem hi)
  have h6 := minN_le (l.map (coG (fOf d))) (l.length - 1) (by simp; omega) i (by simpa using hi) (by omega)
  rw [List.getElem_map] at h6
  have h7 : leastV (fOf d) l ≤ coG (fOf d) l[i] := h6
  unfold arrG
  have e : (coG (fOf d) l[i] - leastV (fOf d) l).tdiv 15 = (coG (fOf d) l[i] - leastV (fOf d) l) / 15 := Int.tdiv_eq_ediv_of_nonneg (by omega)
  rw [e]
  omega
abbrev fn134 : Value := .func (.func 134) #[] #[]
abbrev H133 (l : List Gun) (sh : List Int) (o2 : Nat) : Heap := [(11, .inp o2 (sh.map iv)), (10, .row (gcs l) 7)]
def sigQ (r : List Int) (W : Nat) (u : Value) (H : Heap) : Prop := ∃ m, u = .slice (some ⟨m, 0, none⟩) W W ∧ hget H m = some (.cells (r.map iv) 3) ∧ 12 ≤ m
set_option maxRecDepth 100000 in
theorem w133 (l : List Gun) (sh : List Int) (d : ByteArray) (w : Int) (o2 c2 : Nat) (hst : strE l = 0) (hd : hasW d dirs = true) (hsh : shE l sh = 0) (hw : 1 ≤ w ∧ w ≤ 64) : ∃ u H1 n1 H2, AC Tryz.prog 133 [rowV l.length, .slice (some ⟨11, o2, none⟩) sh.length c2, sv d, iv w, fn134] (H133 l sh o2) 12 u H1 n1 ∧ sigQ (sigN l sh d w.toNat l.length) w.toNat u H2 ∧ (af u = false → H1 = H2) := by
  have hr := recT_ok (P := Tryz.prog) (l := [(116, g116), (134, g134), (128, g128)]) (by simp only [List.forall_mem_cons]; exact ⟨ok116, ok134, ok128, by simp⟩)
  obtain ⟨h1, h8⟩ := strE_len hst
  obtain ⟨hse, hsb⟩ := shE_zero hsh
  have hrow : ∀ G : Heap, hget G 10 = some (.row (gcs l) 7) → rowGuns G 10 l.length = some l := fun G hG => by
    unfold rowGuns rowOf
    rw [hG]
    simp [gunsOf_gcs, show l.length < 9223372036854775808 by omega]
  have hal := arrL_length d l
  refine AC.out Tryz.func133 rfl (by kernel_rfl) rfl [1, 4, 5, 11, 18, 19, 20] ?_
  refine E.seq ?_
  refine E.reg hr (by simp; rfl) ?_ -- region 0
  refine E.seq ?_
  refine E.reg hr (by simp [mk45 (w := w) (by omega) (by omega)]; rw [show List.replicate w.toNat (iv 0) = (zeros w.toNat).map iv by simp [zeros]]) ?_ -- region 1
  refine E.seq ?_
  refine E.seq ?_
  refine E.reg hr (by simp [g116, hrow, hst, hd]; rfl) ?_ -- region 2
  refine E.block ?_ -- 0
  refine E.loop ?_
  refine EL.ind (fun i : Nat => { fr := [(1, .slice (some ⟨11, o2, none⟩) sh.length c2), (4, fn134), (5, .pointer (some ⟨12, 0, none⟩)), (11, .slice (some ⟨13, 0, none⟩) w.toNat w.toNat), (18, .slice (some ⟨14, 0, some 0⟩) (arrL d l).length 0), (19, iv (arrL d l).length), (20, iv i)], sz := 43, H := (14, .ext ((arrL d l).map iv) 3 1) :: (13, .cells ((sigN l sh d w.toNat i).map iv) 3) :: (12, .cells [.slice (some ⟨10, 0, some 0⟩) l.length 0] 32) :: H133 l sh o2, n := 15, marks := [], vs := [1, 4, 5, 11, 18, 19, 20] }) (fun i => l.length - i) (fun i => i ≤ l.length) 0 (.less rfl rfl rfl (by simp) (by simp [sigN])) (Nat.zero_le _) (fun _ => rfl) ?_
  intro i hi
  refine E.seq ?_
  refine E.reg hr (by simp; rfl) ?_ -- region 3
  refine E.seq ?_
  refine E.cond (by rfl) (fun h => ?_) (fun h => ?_)
  · simp at h
    have hil : i < l.length := by omega
    have hia : i < (arrL d l).length := by omega
    have his : i < sh.length := by omega
    have hilI : (i : Int) < l.length := by omega
    have hiaI : (i : Int) < (arrL d l).length := by omega
    have hisI : (i : Int) < sh.length := by omega
    have hwi : IntKind.i64.wrap ((i : Int) + 1) = (i : Int) + 1 := W_in (by omega) (by omega)
    have c1 : i * 7 + 1 < l.length * 7 := by omega
    have hvE := gcs_vE hil (by simp; omega)
    have hab := arrL_bounds hst d _ (List.getElem_mem hia)
    have hab1 := hab.1
    have hab2 : (arrL d l)[i] ≤ 4096 := by omega
    obtain ⟨hvb, _, _, _, hlo, hhi⟩ := gun_nums hst l[i] (List.getElem_mem hil)
    have hsi := hsb i hil his
    have hs0 : 0 ≤ sh[i] := by omega
    have hs4 : sh[i] ≤ 4 := by omega
    have hwl : (sigN l sh d w.toNat i).length = w.toNat := sigN_length ..
    have hw31 : w.toNat < 2147483648 := by omega
    have hio : intsOf ((sigN l sh d w.toNat i).map iv) = some (sigN l sh d w.toNat i) := intsOf_iv _
    have hsucc : (sigN l sh d w.toNat (i + 1)).map iv = (addAll (sigN l sh d w.toNat i) (arrL d l)[i] l[i].v sh[i]).map iv := by
      rw [sigN, List.getD_eq_getElem?_getD, List.getD_eq_getElem?_getD, List.getElem?_eq_getElem hia, List.getElem?_eq_getElem his]
      unfold vAt
      rw [List.getElem?_eq_getElem hil]
      rfl
    refine E.skip ?_
    refine E.seq ?_
    refine E.block ?_ -- 1
    refine E.seq ?_
    refine E.reg hr (by simp [hia, hiaI]; rfl) ?_ -- region 4
    refine E.seq ?_
    refine E.reg hr (by simp [g134]; rfl) ?_ -- region 5
    refine E.cond (by rfl) (fun h2 => ?_) (fun h2 => ?_)
    rotate_left
    · simp at h2
    refine E.drawC mixed hr [12] [12] [3, 7, 11, 12] (by kernel_rfl) (by simp [hilI, c1, hvE, his, hisI, g128, hio, hwl, hw31, hab1, hab2, hvb.1, hvb.2, hs0, hs4]; rfl) ?_ -- region 6
    refine E.reg hr (by simp [hwi]; rfl) ?_ -- region 7
    exact ⟨i + 1, .less rfl rfl rfl (by simp) (by simp [hsucc]), hil, by dsimp only; omega⟩
  · simp at h
    have hil : i = l.length := by omega
    subst hil
    refine E.exit ?_ -- 0
    refine E.seq ?_
    refine E.reg hr (by simp; rfl) ?_ -- region 8
    refine E.ret ?_
    refine outK.ret rfl rfl ?_
    exact ⟨13, by simp, by simp, by omega⟩
def g133 (args : List Value) (H : Heap) (n : Nat) : R := match args with
  | [.agg ⟨[.slice (some ⟨b, 0, some 0⟩) len 0]⟩, .slice (some a) slen _, .string d, .int .i64 w, .func (.func 134) ⟨[]⟩ ⟨[]⟩] => match rowGuns H b len, intsAt H a slen with
    | some l, some sh => if strE l = 0 ∧ hasW d dirs = true ∧ shE l sh = 0 ∧ 1 ≤ w ∧ w ≤ 64 then some (.slice (some ⟨n, 0, none⟩) w.toNat w.toNat, (n, .cells ((sigN l sh d w.toNat l.length).map iv) 3) :: H, n + 1) else none
    | _, _ => none
  | _ => none
theorem ok133 : EntOk Tryz.prog (133, g133) := by
  intro args H n v H' n' h'
  simp only [g133] at h'
  split at h'
  · split at h'
    · rename_i l sh hg ht
      split at h'
      · rename_i hc
        obtain ⟨hst, hd, hsh, hw1, hw2⟩ := hc
        injection h' with h'; injection h' with e1 e2; injection e2 with e2 e3; subst e1 e2 e3
        obtain ⟨hb, rfl, _⟩ := rowGuns_ok hg
        obtain ⟨hf, hc, hlen, _⟩ := intsAt_ok ht
        subst hlen
        refine AC.liftF (names_fl _ _) (.inl ⟨_, _, rfl, afL_iv _⟩) (Part.rowOne (fun x y => [.agg ⟨[x]⟩, y, sv _, iv _, fn134]) (by intro φ φ0 s s0 u u0 h h2; simp [denL, den, h, h2]) (by intro p s u h h2; exact ⟨⟨h, trivial⟩, h2, trivial, trivial, ⟨trivial, trivial⟩, trivial⟩) hb (afL_gcs l) hf hc (afL_iv sh) gsz fun c2 => ?_)
        obtain ⟨u, H1, n1, H2, hAC, ⟨m, hu, hm, hle⟩, hh⟩ := w133 l sh _ _ _ c2 hst hd hsh ⟨hw1, hw2⟩
        subst hu
        have := hh (by simp)
        subst this
        exact ⟨m, _, _, hle, hm, hAC⟩
      · cases h'
    · cases h'
  · cases h'
end Go.Proofs.YtndlfijfjglkdaaGreatDoor

namespace Go.Proofs.YtndlfijfjglkdaaGreatDoor
open Go Go.Ab Go.Proofs
/-! ### plain: what a signature is at an index -/
theorem pulse256 {v s i : Int} (hv : 1 ≤ v ∧ v ≤ 64) : -256 ≤ pulseV v s i ∧ pulseV v s i ≤ 256 := by
  have a4 : IntKind.i64.wrap (4 * v) = 4 * v := W_in (by omega) (by omega)
  have a2 : IntKind.i64.wrap (2 * v) = 2 * v := W_in (by omega) (by omega)
  have am2 : IntKind.i64.wrap (0 - 2 * v) = 0 - 2 * v := W_in (by omega) (by omega)
  unfold pulseV
  rw [a4, a2, am2]
  split
  · omega
  · split
    · omega
    · split
      · omega
      · split <;> omega
theorem addAll_get {l : List Int} {b v s : Int} (hv : 1 ≤ v ∧ v ≤ 64) (hs : 0 ≤ s ∧ s ≤ 4) (hb : 0 ≤ b ∧ b ≤ 4096) {j : Nat} (hj : j < l.length) {x : Int} (hx : l[j]? = some x) (hxb : -100000 ≤ x ∧ x ≤ 100000) : (addAll l b v s)[j]? = some (x + pulseV v s (j - b)) := by
  obtain ⟨hp, hp1, hp2⟩ := period_bounds hv hs
  have hq : IntKind.i64.wrap ((periodV v s).tdiv 2) = periodV v s / 2 := by rw [Int.tdiv_eq_ediv_of_nonneg (by omega), W_in (by omega) (by omega)]
  have h2p : IntKind.i64.wrap (2 * periodV v s) = 2 * periodV v s := W_in (by omega) (by omega)
  have a4 : IntKind.i64.wrap (4 * v) = 4 * v := W_in (by omega) (by omega)
  have a2 : IntKind.i64.wrap (2 * v) = 2 * v := W_in (by omega) (by omega)
  have am : IntKind.i64.wrap (-2 * v) = -2 * v := W_in (by omega) (by omega)
  have am2 : IntKind.i64.wrap (0 - 2 * v) = 0 - 2 * v := W_in (by omega) (by omega)
  unfold addAll
  rw [addAt_get (by omega) (by simpa using hj), addAt_get (by omega) (by simpa using hj), addAt_get (by omega) (by simpa using hj), addAt_get (by omega) hj, hx]
  unfold pulseV
  rw [hq, h2p, a4, a2, am, am2]
  generalize periodV v s = p at *
  have wr : ∀ y : Int, -200000 ≤ y → y ≤ 200000 → IntKind.i64.wrap y = y := fun y h1 h2 => W_in (by omega) (by omega)
  by_cases c0 : (j : Int) - b = 0
  · rw [if_pos c0, if_neg (by omega), if_neg (by omega), if_neg (by omega), if_pos (by omega)]; simp only [Option.getD_some]; rw [wr _ (by omega) (by omega)]
  · rw [if_neg c0]
    by_cases c1 : (j : Int) - b = p / 2
    · rw [if_pos c1, if_neg (by omega), if_neg (by omega), if_pos (by omega), if_neg (by omega)]; simp only [Option.getD_some]; rw [wr _ (by omega) (by omega)]; congr 1; omega
    · rw [if_neg c1]
      by_cases c2 : (j : Int) - b = p
      · rw [if_pos c2, if_neg (by omega), if_pos (by omega), if_neg (by omega), if_neg (by omega)]; simp only [Option.getD_some]; rw [wr _ (by omega) (by omega)]
      · rw [if_neg c2]
        by_cases c3 : (j : Int) - b = 2 * p
        · rw [if_pos c3, if_pos (by omega), if_neg (by omega), if_neg (by omega), if_neg (by omega)]; simp only [Option.getD_some]; rw [wr _ (by omega) (by omega)]
        · rw [if_neg c3, if_neg (by omega), if_neg (by omega), if_neg (by omega), if_neg (by omega)]; simp
/-- what the first guns of a string sound at an index, each with its shift -/
def sumP (l : List Gun) (sh : List Int) (d : ByteArray) (j : Int) : Nat → Int
  | 0 => 0
  | i + 1 => sumP l sh d j i + pulseV (vAt l i) (sh.getD i 0) (j - (arrL d l).getD i 0)
theorem vAt_at {l : List Gun} {i : Nat} (h : i < l.length) : vAt l i = l[i].v := by
  unfold vAt
  rw [List.getElem?_eq_getElem h]
theorem getD_at {l : List Int} {i : Nat} (h : i < l.length) : l.getD i 0 = l[i] := by
  rw [List.getD_eq_getElem?_getD, List.getElem?_eq_getElem h]; rfl
theorem sum_bound {l : List Gun} {sh : List Int} (hst : strE l = 0) (d : ByteArray) (j : Int) : ∀ i, i ≤ l.length → -(256 * (i : Int)) ≤ sumP l sh d j i ∧ sumP l sh d j i ≤ 256 * (i : Int)
  | 0, _ => by simp [sumP]
  | i + 1, h => by
    have ih := sum_bound (sh := sh) hst d j i (by omega)
    obtain ⟨hv, _⟩ := gun_nums hst l[i] (List.getElem_mem (by omega))
    have hp := pulse256 (s := sh.getD i 0) (i := j - (arrL d l).getD i 0) hv
    rw [sumP, vAt_at (by omega)]
    omega
theorem sigN_get {l : List Gun} {sh : List Int} (hst : strE l = 0) (hsh : shE l sh = 0) (d : ByteArray) {W j : Nat} (hj : j < W) : ∀ i, i ≤ l.length → (sigN l sh d W i)[j]? = some (sumP l sh d j i)
  | 0, _ => by simp [sigN, sumP, zeros, hj]
  | i + 1, h => by
    have ih := sigN_get hst hsh d hj i (by omega)
    obtain ⟨hse, hsb⟩ := shE_zero hsh
    obtain ⟨hv, _, _, _, hlo, hhi⟩ := gun_nums hst l[i] (List.getElem_mem (by omega))
    have hb := sum_bound (sh := sh) hst d j i (by omega)
    have h8 := (strE_len hst).2
    have hia : i < (arrL d l).length := by rw [arrL_length]; omega
    have ha := arrL_bounds hst d _ (List.getElem_mem hia)
    have hsi := hsb i (by omega) (by omega)
    rw [sigN, sumP, vAt_at (by omega), getD_at hia, getD_at (l := sh) (by omega)]
    exact addAll_get hv (by omega) (by omega) (by simpa using hj) ih (by omega)
theorem sig_samp {l : List Gun} {sh : List Int} (hst : strE l = 0) (hsh : shE l sh = 0) (d : ByteArray) {w : Int} (hw : 1 ≤ w ∧ w ≤ 64) : sampAll (sigN l sh d w.toNat l.length) := by
  refine ⟨fun e => by have := congrArg List.length e; simp at this; omega, by simp; omega, fun x hx => ?_⟩
  obtain ⟨j, hj, rfl⟩ := List.getElem_of_mem hx
  have h1 := sigN_get hst hsh d (W := w.toNat) (j := j) (by simpa using hj) l.length (Nat.le_refl _)
  rw [List.getElem?_eq_getElem hj] at h1
  injection h1 with h1
  have h8 := (strE_len hst).2
  have := sum_bound (sh := sh) hst d j l.length (Nat.le_refl _)
  rw [h1]
  omega
theorem ints3 {G : Heap} {b : Nat} {t : TypeId} {x y z : Int} (h : hget G b = some (.cells [iv x, iv y, iv z] t)) : intsAt G ⟨b, 0, none⟩ 3 = some [x, y, z] := by
  unfold intsAt
  simp [h, intsOf]
/-! ### Signature -/
def sigE (l : List Gun) (sh : List Int) (d : ByteArray) (w : Int) : Int := if strE l = 0 then firstV [shE l sh, dirE d, withinV w 1 64] else strE l
theorem sigE_zero {l : List Gun} {sh : List Int} {d : ByteArray} {w : Int} (h : sigE l sh d w = 0) : strE l = 0 ∧ shE l sh = 0 ∧ hasW d dirs = true ∧ 1 ≤ w ∧ w ≤ 64 := by
  unfold sigE at h
  split at h
  · rename_i hst
    have hz := (firstV_zero _).1 h
    exact ⟨hst, hz _ (by simp), dirE_zero (hz _ (by simp)), (withinV_zero _ _ _).1 (hz (withinV w 1 64) (by simp))⟩
  · rename_i h2; exact absurd h h2
def sgQ (k : Nat) (l : List Gun) (sh : List Int) (d : ByteArray) (w : Int) (u : Value) (H : Heap) : Prop := if sigE l sh d w = 0 then ∃ m, u = .tuple #[.slice (some ⟨m, 0, some 0⟩) w.toNat 0, iv 0] ∧ hget H m = some (.ext (((sigN l sh d w.toNat l.length).map sampB).map fv) 98 1) ∧ k ≤ m else u = .tuple #[.slice none 0 0, iv (sigE l sh d w)]
abbrev H41 (l : List Gun) (sh : List Int) (o2 : Nat) : Heap := [(11, .inp o2 (sh.map iv)), (10, .row (gcs l) 7), (0, .inp 0 names0)]
set_option maxRecDepth 100000 in
theorem w41 (l : List Gun) (sh : List Int) (d : ByteArray) (w : Int) (o2 c2 : Nat) (hl : l.length < 2 ^ 63) (hs31 : sh.length < 2 ^ 31) : ∃ u H1 n1 H2, AC Tryz.prog 41 [rowV l.length, .slice (some ⟨11, o2, none⟩) sh.length c2, sv d, iv w] (H41 l sh o2) 12 u H1 n1 ∧ sgQ 12 l sh d w u H2 ∧ (af u = false → H1 = H2) := by
  have hr := recT_ok (P := Tryz.prog) (l := [(31, g31), (132, g132), (115, g115), (127, g1 fun a => withinV a 1 64), (113, g113), (133, g133), (129, g129)]) (by simp only [List.forall_mem_cons]; exact ⟨ok31, ok132, ok115, ok127, ok113, ok133, ok129, by simp⟩)
  have hrow : ∀ G : Heap, hget G 10 = some (.row (gcs l) 7) → rowGuns G 10 l.length = some l := fun G hG => by
    unfold rowGuns rowOf
    rw [hG]
    simp [gunsOf_gcs, show l.length < 9223372036854775808 by omega]
  have hin : ∀ G : Heap, hget G 11 = some (.inp o2 (sh.map iv)) → intsAt G ⟨11, o2, none⟩ sh.length = some sh := fun G hG => by
    unfold intsAt
    simp [hG, List.take_of_length_le, intsOf_iv, show sh.length < 2147483648 by omega]
  refine AC.out Tryz.func41 rfl (by kernel_rfl) rfl [] ?_
  refine E.seq ?_
  refine E.reg hr (by simp; rfl) ?_ -- region 0
  refine E.seq ?_
  refine E.seq ?_
  refine E.reg hr (by simp [g31, rowOf, gunsOf_gcs, hl]; rfl) ?_ -- region 1
  refine E.seq ?_
  refine E.reg hr (by simp; rfl) ?_ -- region 2
  refine E.cond (by rfl) (fun h => ?_) (fun h => ?_)
  · simp at h
    refine E.seq ?_
    refine E.reg hr (by simp; rfl) ?_ -- region 3
    refine E.ret ?_
    refine outK.ret rfl rfl ?_
    simp [sgQ, sigE, h]
  simp at h
  obtain ⟨h1, h8⟩ := strE_len h
  refine E.skip ?_
  refine E.seq ?_
  refine E.seq ?_
  refine E.reg hr (by simp [g132, hrow, intsW, hin, h1, h8, g115, g113]; rfl) ?_ -- region 4
  refine E.seq ?_
  refine E.reg hr (by simp; rfl) ?_ -- region 5
  have hE : sigE l sh d w = firstV [shE l sh, dirE d, withinV w 1 64] := by simp [sigE, h]
  refine E.cond (by rfl) (fun h2 => ?_) (fun h2 => ?_)
  · simp at h2
    refine E.seq ?_
    refine E.reg hr (by simp; rfl) ?_ -- region 6
    refine E.ret ?_
    refine outK.ret rfl rfl ?_
    simp [sgQ, hE, h2]
  · simp at h2
    obtain ⟨_, hsh, hd, hw⟩ := sigE_zero (hE.trans h2)
    have hsa := sig_samp h hsh d hw
    obtain ⟨r, hrr⟩ : ∃ r, r = sigN l sh d w.toNat l.length := ⟨_, rfl⟩
    have hrl : r.length = w.toNat := by rw [hrr]; simp
    rw [← hrr] at hsa
    have hne := hsa.1
    have hir : ∀ (G : Heap) (b : Nat), hget G b = some (.cells (r.map iv) 3) → intsAt G ⟨b, 0, none⟩ w.toNat = some r := fun G b hG => by
      unfold intsAt
      simp [hG, List.take_of_length_le, hrl, intsOf_iv, show w.toNat < 2147483648 by omega]
    refine E.skip ?_
    refine E.seq ?_
    refine E.reg hr (by simp [g133, hrow, hin, h, hd, hsh, hw, ← hrr, g129, hir, hsa, gFlts, hne]; rfl) ?_ -- region 7
    refine E.ret ?_
    refine outK.ret rfl rfl ?_
    have he0 : sigE l sh d w = 0 := hE.trans h2
    unfold sgQ
    rw [if_pos he0]
    exact ⟨_, by simp [hrl]; rfl, by simp [hrr], by omega⟩
set_option maxRecDepth 100000 in
theorem w41n (sh : List Int) (d : ByteArray) (w : Int) (o2 c2 : Nat) : AC Tryz.prog 41 [nilV, .slice (some ⟨10, o2, none⟩) sh.length c2, sv d, iv w] [(10, .inp o2 (sh.map iv)), (0, .inp 0 names0)] 11 (.tuple #[.slice none 0 0, iv 12]) [(10, .inp o2 (sh.map iv)), (0, .inp 0 names0)] 11 := by
  have hr := recT_ok (P := Tryz.prog) (l := [(31, g31)]) (by simp only [List.forall_mem_cons]; exact ⟨ok31, by simp⟩)
  refine AC.pure Tryz.func41 rfl (by kernel_rfl) rfl [] rfl ?_
  refine E.seq ?_
  refine E.reg hr (by simp; rfl) ?_ -- region 0
  refine E.seq ?_
  refine E.seq ?_
  refine E.reg hr (by simp [g31, strE]; rfl) ?_ -- region 1
  refine E.seq ?_
  refine E.reg hr (by simp; rfl) ?_ -- region 2
  refine E.cond (by rfl) (fun h => ?_) (fun h => ?_)
  rotate_left
  · simp at h
  refine E.seq ?_
  refine E.reg hr (by simp; rfl) ?_ -- region 3
  refine E.ret ?_
  exact pureK.ret rfl rfl (by simp) (by repeat first | exact sub_refl _ | refine sub_cons rfl ?_)
def gSig (l : List Gun) (sh : List Int) (d : ByteArray) (w : Int) (H : Heap) (n : Nat) : R := if sigE l sh d w = 0 then some (.tuple #[.slice (some ⟨n, 0, some 0⟩) w.toNat 0, iv 0], (n, .ext (((sigN l sh d w.toNat l.length).map sampB).map fv) 98 1) :: H, n + 1) else some (.tuple #[.slice none 0 0, iv (sigE l sh d w)], H, n)
open Classical in
noncomputable def g41 (args : List Value) (H : Heap) (n : Nat) : R := match args with
  | [v, .slice (some a) slen _, .string d, .int .i64 w] => match strR H v, intsAt H a slen with
    | some l, some sh => if hget H 0 = some (.inp 0 names0) then gSig l sh d w H n else none
    | _, _ => none
  | _ => none
theorem sigE_nil (sh : List Int) (d : ByteArray) (w : Int) : sigE [] sh d w = 12 := by simp [sigE, strE]
theorem names_tx (l c : Nat) (e : Int) : Names1 fun m => .tuple #[.slice (some ⟨m, 0, some 0⟩) l c, iv e] := ⟨fun φ ψ m n h1 h2 => by simp [den, denL, h1, h2], fun p n h => by simp [sc, scL, h]⟩
theorem ok41 : EntOk Tryz.prog (41, g41) := by
  intro args H n v H' n' h'
  simp only [g41] at h'
  split at h'
  · rename_i v0 a slen cap0 d w
    split at h'
    · rename_i l sh hg ht
      split at h'
      · rename_i h0
        obtain ⟨hf, hc, hlen, hs31⟩ := intsAt_ok ht
        subst hlen
        unfold strR at hg
        split at hg
        · injection hg with hg; subst hg
          unfold gSig at h'
          rw [sigE_nil, if_neg (by decide)] at h'
          injection h' with h'; injection h' with e1 e2; injection e2 with e2 e3; subst e1 e2 e3
          exact AC.liftP rfl (Part.one (fun x => [nilV, x, sv _, iv _]) (by intro φ φ0 s s0 h; simp [denL, den, h]) (by intro p s h; exact ⟨⟨trivial, trivial⟩, h, trivial, trivial, trivial⟩) hf hc (afL_iv sh) [(0, .inp 0 names0)] (seen0 h0) gsz fun c => ⟨_, _, w41n sh _ _ _ c⟩)
        · split at hg
          · rename_i l' hg'
            split at hg
            · injection hg with hg; subst hg
              obtain ⟨hb, rfl, hlt⟩ := rowGuns_ok hg'
              have hp := fun R hR => Part.rowOneG (P := Tryz.prog) (H := H) (n := n) (R := R) (fun x y => [.agg ⟨[x]⟩, y, sv d, iv w]) (by intro φ φ0 s s0 u u0 h h2; simp [denL, den, h, h2]) (by intro p s u h h2; exact ⟨⟨h, trivial⟩, h2, trivial, trivial, trivial⟩) hb (afL_gcs l') (len := l'.length) (skip := 0) (len2 := sh.length) (cap2 := cap0) hf hc (afL_iv sh) [(0, .inp 0 names0)] (seen0 h0) gsz hR
              unfold gSig at h'
              split at h'
              · rename_i he
                injection h' with h'; injection h' with e1 e2; injection e2 with e2 e3; subst e1 e2 e3
                refine AC.liftF (names_tx _ _ _) (.inr ⟨_, _, _, rfl, afL_fv _⟩) (hp _ fun c2 => ?_)
                obtain ⟨u, H1, n1, H2, hAC, hq, hh⟩ := w41 l' sh _ _ _ c2 hlt hs31
                unfold sgQ at hq
                rw [if_pos he] at hq
                obtain ⟨m, hu, hm, hle⟩ := hq
                subst hu
                have := hh (by simp)
                subst this
                exact ⟨m, _, _, hle, hm, hAC⟩
              · rename_i he
                injection h' with h'; injection h' with e1 e2; injection e2 with e2 e3; subst e1 e2 e3
                refine AC.liftP rfl (hp _ fun c2 => ?_)
                obtain ⟨u, H1, n1, H2, hAC, hq, _⟩ := w41 l' sh _ _ _ c2 hlt hs31
                unfold sgQ at hq
                rw [if_neg he] at hq
                subst hq
                exact ⟨_, _, hAC⟩
            · cases hg
          · cases hg
        · cases hg
      · cases h'
    · cases h'
  · cases h'
end Go.Proofs.YtndlfijfjglkdaaGreatDoor

namespace Go.Proofs.YtndlfijfjglkdaaGreatDoor
open Go Go.Ab Go.Proofs
/-! ### a direction by a number -/
theorem dirs_length : dirs.length = 5 := rfl
def dN (n : Int) : ByteArray := dirs.getD (n.toNat % 5) ⟨#[]⟩
theorem w53 (n : Int) (hn : 0 ≤ n ∧ n ≤ 255) : AC Tryz.prog 53 [bv n] [] 10 (sv (dN n)) [] 10 := by
  have hr := recT_ok (P := Tryz.prog) (l := [(119, g119)]) (by simp only [List.forall_mem_cons]; exact ⟨ok119, by simp⟩)
  have hwn : IntKind.i64.wrap n = n := W_in (by omega) (by omega)
  have hmod : n.tmod 5 = ((n.toNat % 5 : Nat) : Int) := by
    rw [Int.tmod_eq_emod_of_nonneg hn.1]; omega
  have hj : n.toNat % 5 < 5 := Nat.mod_lt _ (by omega)
  obtain ⟨j, hje⟩ : ∃ j, j = n.toNat % 5 := ⟨_, rfl⟩
  rw [← hje] at hmod hj
  have hjI : (j : Int) < 5 := by omega
  have hjd : j < dirs.length := hj
  refine AC.pure Tryz.func53 rfl (by kernel_rfl) rfl [] rfl ?_
  refine E.seq ?_
  refine E.reg hr (by simp; rfl) ?_ -- region 0
  refine E.seq ?_
  refine E.reg hr (by simp [g119, opConvert, cv53, hwn, bin_rem (show (5 : Int) ≠ 0 by decide), hmod, hj, hjI, dirs_length]; rfl) ?_ -- region 1
  refine E.ret ?_
  exact pureK.ret rfl rfl (by simp [dN, ← hje, hjd]) (by repeat first | exact sub_refl _ | refine sub_cons rfl ?_)
def g53 (args : List Value) (H : Heap) (n : Nat) : R := match args with
  | [.int .u8 k] => if 0 ≤ k ∧ k ≤ 255 then some (sv (dN k), H, n) else none
  | _ => none
theorem ok53 : EntOk Tryz.prog (53, g53) := by
  intro args H n v H' n' h'
  simp only [g53] at h'
  split at h'
  · split at h'
    · rename_i hk
      injection h' with h'; injection h' with e1 e2; injection e2 with e2 e3; subst e1 e2 e3
      exact AC.liftP rfl (Part.plain (by simp) [] (by simp [Seen]) gsz ⟨_, _, w53 _ hk⟩)
    · cases h'
  · cases h'
theorem dN_dir (n : Int) : hasW (dN n) dirs = true := by
  have hj : n.toNat % 5 < dirs.length := Nat.mod_lt _ (by omega)
  unfold dN
  rw [List.getD_eq_getElem?_getD, List.getElem?_eq_getElem hj, Option.getD_some]
  exact hasW_iff.2 (List.getElem_mem hj)
/-! ### shifts by numbers -/
def kAt (ns : List Int) (i : Nat) : Int := (ns[i]?).getD 0
def shF (l : List Gun) (ns : List Int) (i : Nat) : Int := match l[i]? with
  | some g => g.lo + (kAt ns i).tmod (g.hi - g.lo + 1)
  | none => 0
def shL (l : List Gun) (ns : List Int) : List Int := rl (shF l ns) l.length
theorem gun_order {l : List Gun} (h : strE l = 0) : ∀ g ∈ l, g.lo ≤ g.hi := by
  intro g hg
  obtain ⟨i, hi, rfl⟩ := List.getElem_of_mem hg
  have hl := strE_len h
  unfold strE at h
  rw [if_neg (by omega), if_neg (by omega)] at h
  have hc := (firstV_zero _).1 h (gunChk l i) (List.mem_map.2 ⟨i, by simpa using hi, rfl⟩)
  rw [gunChk_at hi] at hc
  have h2 := (firstV_zero _).1 hc l[i].err (by simp)
  unfold Gun.err at h2
  have h3 := (firstV_zero _).1 h2 (if l[i].hi < l[i].lo then 11 else 0) (by simp)
  split at h3
  · cases h3
  · omega
theorem kAt_bound {ns : List Int} (hns : ∀ x ∈ ns, 0 ≤ x ∧ x ≤ 255) (i : Nat) : 0 ≤ kAt ns i ∧ kAt ns i ≤ 255 := by
  unfold kAt
  cases h : ns[i]? with
  | none => simp
  | some x => exact hns x (List.mem_of_getElem? h)
theorem shF_bound {l : List Gun} (hst : strE l = 0) {ns : List Int} (hns : ∀ x ∈ ns, 0 ≤ x ∧ x ≤ 255) {i : Nat} (hi : i < l.length) : shF l ns i = l[i].lo + (kAt ns i).tmod (l[i].hi - l[i].lo + 1) ∧ 0 ≤ (kAt ns i).tmod (l[i].hi - l[i].lo + 1) ∧ (kAt ns i).tmod (l[i].hi - l[i].lo + 1) ≤ l[i].hi - l[i].lo := by
  have hk := kAt_bound hns i
  have ho := gun_order hst l[i] (List.getElem_mem hi)
  refine ⟨by unfold shF; rw [List.getElem?_eq_getElem hi], ?_, ?_⟩
  · rw [Int.tmod_eq_emod_of_nonneg hk.1]; exact Int.emod_nonneg _ (by omega)
  · rw [Int.tmod_eq_emod_of_nonneg hk.1]
    have := Int.emod_lt_of_pos (kAt ns i) (show 0 < l[i].hi - l[i].lo + 1 by omega)
    omega
theorem shL_ok {l : List Gun} (hst : strE l = 0) {ns : List Int} (hns : ∀ x ∈ ns, 0 ≤ x ∧ x ≤ 255) : shE l (shL l ns) = 0 := by
  have hlen : (shL l ns).length = l.length := by simp [shL]
  refine shE_ok hlen fun j hj => ?_
  rw [shC_at hj (by omega)]
  have h := shF_bound hst hns hj
  rw [withinV_zero]
  simp only [shL, rl_getElem]
  rw [h.1]
  omega
def S54n (l : List Gun) (o c : Nat) : Nat → St
  | 0 => { fr := [(1, .slice none 0 0), (5, .slice none 0 0), (10, .slice (some ⟨10, o, none⟩) l.length c), (11, iv l.length), (12, iv 0)], sz := 45, H := (11, .cells [.slice (some ⟨10, o, none⟩) l.length c] 24) :: [(10, .inp o (gcs l))], n := 12, marks := [], vs := [1, 5, 10, 11, 12] }
  | i + 1 => { fr := [(1, .slice none 0 0), (5, .slice (some ⟨12, 0, some 0⟩) (i + 1) 0), (10, .slice (some ⟨10, o, none⟩) l.length c), (11, iv l.length), (12, iv (i + 1 : Nat))], sz := 45, H := (12, .ext ((rl (shF l ([] : List Int)) (i + 1)).map iv) 3 1) :: (11, .cells [.slice (some ⟨10, o, none⟩) l.length c] 24) :: [(10, .inp o (gcs l))], n := 13, marks := [], vs := [1, 5, 10, 11, 12] }
set_option maxRecDepth 100000 in
theorem w54n (l : List Gun) (o c : Nat) (hst : strE l = 0) : ∃ u H1 n1 H2, AC Tryz.prog 54 [strV o l.length c, .slice none 0 0] [(10, .inp o (gcs l))] 11 u H1 n1 ∧ intQ 11 (shL l ([] : List Int)) u H2 ∧ (af u = false → H1 = H2) := by
  have hr := recT_ok (P := Tryz.prog) (l := []) (by simp)
  obtain ⟨h1, h8⟩ := strE_len hst
  have hpos : 0 < l.length := h1
  refine AC.out Tryz.func54 rfl (by kernel_rfl) rfl [1, 5, 10, 11, 12] ?_
  refine E.seq ?_
  refine E.reg hr (by simp; rfl) ?_ -- region 0
  refine E.seq ?_
  refine E.reg hr (by simp; rfl) ?_ -- region 1
  refine E.seq ?_
  refine E.seq ?_
  refine E.reg hr (by simp; rfl) ?_ -- region 2
  refine E.block ?_ -- 0
  refine E.loop ?_
  refine EL.ind (S54n l o c) (fun i => l.length - i) (fun i => i ≤ l.length) 0 (.less rfl rfl rfl (by simp [S54n]) (by simp [S54n])) (Nat.zero_le _) (fun i => by cases i <;> rfl) ?_
  intro i hi
  rcases i with _ | i
  · have hw : IntKind.i64.wrap 1 = 1 := W_in (by omega) (by omega)
    refine E.seq ?_
    refine E.reg hr (by simp [S54n]; rfl) ?_ -- region 3
    refine E.seq ?_
    refine E.cond (by rfl) (fun h => ?_) (fun h => ?_)
    · simp at h
      have hlt := hpos
      have hx := gcs_take hpos
      have h7 : 7 ≤ l.length * 7 := by omega
      rw [Nat.zero_mul, List.drop_zero] at hx
      obtain ⟨e1, e2, e3⟩ := shF_bound hst (ns := []) (by simp) hlt
      obtain ⟨_, _, _, _, hlo, hhi⟩ := gun_nums hst l[0] (List.getElem_mem hlt)
      have ho := gun_order hst l[0] (List.getElem_mem hlt)
      have q1 : IntKind.i64.wrap (l[0].hi - l[0].lo) = l[0].hi - l[0].lo := W_in (by omega) (by omega)
      have q2 : IntKind.i64.wrap (l[0].hi - l[0].lo + 1) = l[0].hi - l[0].lo + 1 := W_in (by omega) (by omega)
      have q3 : l[0].hi - l[0].lo + 1 ≠ 0 := by omega
      have q4 : IntKind.i64.wrap (l[0].lo + (kAt ([] : List Int) (0)).tmod (l[0].hi - l[0].lo + 1)) = shF l ([] : List Int) (0) := by rw [e1]; exact W_in (by omega) (by omega)
      have hts : (rl (shF l ([] : List Int)) 1).map iv = [iv (shF l ([] : List Int) 0)] := rfl
      refine E.skip ?_
      refine E.seq ?_
      refine E.block ?_ -- 1
      refine E.seq ?_
      refine E.reg hr (by simp [hx, hpos, h7]; rfl) ?_ -- region 4
      refine E.seq ?_
      refine E.reg hr (by simp; rfl) ?_ -- region 5
      refine E.seq ?_
      refine E.seq ?_
      refine E.reg hr (by simp; rfl) ?_ -- region 6
      refine E.cond (by rfl) (fun h2 => ?_) (fun h2 => ?_)
      · simp at h2
      refine E.skip ?_
      rw [show kAt ([] : List Int) (0) = 0 by simp [kAt], Int.zero_tmod, Int.add_zero] at q4
      refine E.drawC mixed hr [15, 16] [15, 16] [3, 7, 10, 15, 16] (by kernel_rfl) (by simp [q1, q2, bin_rem q3, q4]; rfl) ?_ -- region 8
      refine E.reg hr (by simp [hw]; rfl) ?_ -- region 9
      exact ⟨1, Leads.ren [11, 14] rfl rfl rfl ⟨rfl, rfl⟩ (by simp [S54n]) (by simp [S54n, hts]), by omega, by dsimp only; omega⟩
    · simp at h
      simp [h] at h1
  · have hw : IntKind.i64.wrap ((i : Int) + 1 + 1) = (i : Int) + 1 + 1 := W_in (by omega) (by omega)
    have ht : List.take (i + 1) ((rl (shF l ([] : List Int)) (i + 1)).map iv) = (rl (shF l ([] : List Int)) (i + 1)).map iv := List.take_of_length_le (by simp)
    refine E.seq ?_
    refine E.reg hr (by simp [S54n]; rfl) ?_ -- region 3
    refine E.seq ?_
    refine E.cond (by rfl) (fun h => ?_) (fun h => ?_)
    · simp at h
      have hlt : i + 1 < l.length := by omega
      have hltI : (i : Int) + 1 < l.length := by omega
      have hx := gcs_take hlt
      have h7 : (i + 1) * 7 + 7 ≤ l.length * 7 := by omega
      have hsm : (i + 1 + 1) * 8 ≤ 1099511627776 ∧ i + 1 + 1 ≤ 1099511627776 := by omega
      obtain ⟨e1, e2, e3⟩ := shF_bound hst (ns := []) (by simp) hlt
      obtain ⟨_, _, _, _, hlo, hhi⟩ := gun_nums hst l[i + 1] (List.getElem_mem hlt)
      have ho := gun_order hst l[i + 1] (List.getElem_mem hlt)
      have q1 : IntKind.i64.wrap (l[i + 1].hi - l[i + 1].lo) = l[i + 1].hi - l[i + 1].lo := W_in (by omega) (by omega)
      have q2 : IntKind.i64.wrap (l[i + 1].hi - l[i + 1].lo + 1) = l[i + 1].hi - l[i + 1].lo + 1 := W_in (by omega) (by omega)
      have q3 : l[i + 1].hi - l[i + 1].lo + 1 ≠ 0 := by omega
      have q4 : IntKind.i64.wrap (l[i + 1].lo + (kAt ([] : List Int) (i + 1)).tmod (l[i + 1].hi - l[i + 1].lo + 1)) = shF l ([] : List Int) (i + 1) := by rw [e1]; exact W_in (by omega) (by omega)
      have hts : (rl (shF l ([] : List Int)) (i + 1 + 1)).map iv = (rl (shF l ([] : List Int)) (i + 1)).map iv ++ [iv (shF l ([] : List Int) (i + 1))] := by rw [rl_succ, List.map_append]; rfl
      refine E.skip ?_
      refine E.seq ?_
      refine E.block ?_ -- 1
      refine E.seq ?_
      refine E.reg hr (by simp [hx, hltI, h7]; rfl) ?_ -- region 4
      refine E.seq ?_
      refine E.reg hr (by simp; rfl) ?_ -- region 5
      refine E.seq ?_
      refine E.seq ?_
      refine E.reg hr (by simp; rfl) ?_ -- region 6
      refine E.cond (by rfl) (fun h2 => ?_) (fun h2 => ?_)
      · simp at h2; omega
      refine E.skip ?_
      rw [show kAt ([] : List Int) (i + 1) = 0 by simp [kAt], Int.zero_tmod, Int.add_zero] at q4
      refine E.drawC mixed hr [15, 16] [15, 16] [3, 7, 10, 15, 16] (by kernel_rfl) (by simp [q1, q2, bin_rem q3, q4, ht, hsm]; rfl) ?_ -- region 8
      refine E.reg hr (by simp [hw]; rfl) ?_ -- region 9
      exact ⟨i + 2, Leads.ren [11, 15] rfl rfl rfl ⟨rfl, rfl⟩ (by simp [S54n]) (by simp [S54n, hts]), by omega, by dsimp only; omega⟩
    · simp at h
      have hll : l.length = i + 1 := by omega
      refine E.exit ?_ -- 0
      refine E.seq ?_
      refine E.reg hr (by simp; rfl) ?_ -- region 10
      refine E.ret ?_
      refine outK.ret rfl rfl ?_
      exact ⟨12, by simp [shL, hll], by simp [shL, hll], by omega⟩
def S54 (l : List Gun) (ns : List Int) (o c o2 c2 : Nat) : Nat → St
  | 0 => { fr := [(1, .slice (some ⟨11, o2, none⟩) ns.length c2), (5, .slice none 0 0), (10, .slice (some ⟨10, o, none⟩) l.length c), (11, iv l.length), (12, iv 0)], sz := 45, H := (12, .cells [.slice (some ⟨10, o, none⟩) l.length c] 24) :: [(11, .inp o2 (ns.map bv)), (10, .inp o (gcs l))], n := 13, marks := [], vs := [1, 5, 10, 11, 12] }
  | i + 1 => { fr := [(1, .slice (some ⟨11, o2, none⟩) ns.length c2), (5, .slice (some ⟨13, 0, some 0⟩) (i + 1) 0), (10, .slice (some ⟨10, o, none⟩) l.length c), (11, iv l.length), (12, iv (i + 1 : Nat))], sz := 45, H := (13, .ext ((rl (shF l ns) (i + 1)).map iv) 3 1) :: (12, .cells [.slice (some ⟨10, o, none⟩) l.length c] 24) :: [(11, .inp o2 (ns.map bv)), (10, .inp o (gcs l))], n := 14, marks := [], vs := [1, 5, 10, 11, 12] }
set_option maxRecDepth 100000 in
theorem w54 (l : List Gun) (ns : List Int) (o c o2 c2 : Nat) (hst : strE l = 0) (hns : ∀ x ∈ ns, 0 ≤ x ∧ x ≤ 255) (hnl : ns.length < 2 ^ 31) : ∃ u H1 n1 H2, AC Tryz.prog 54 [strV o l.length c, .slice (some ⟨11, o2, none⟩) ns.length c2] [(11, .inp o2 (ns.map bv)), (10, .inp o (gcs l))] 12 u H1 n1 ∧ intQ 12 (shL l ns) u H2 ∧ (af u = false → H1 = H2) := by
  have hr := recT_ok (P := Tryz.prog) (l := []) (by simp)
  obtain ⟨h1, h8⟩ := strE_len hst
  have hpos : 0 < l.length := h1
  refine AC.out Tryz.func54 rfl (by kernel_rfl) rfl [1, 5, 10, 11, 12] ?_
  refine E.seq ?_
  refine E.reg hr (by simp; rfl) ?_ -- region 0
  refine E.seq ?_
  refine E.reg hr (by simp; rfl) ?_ -- region 1
  refine E.seq ?_
  refine E.seq ?_
  refine E.reg hr (by simp; rfl) ?_ -- region 2
  refine E.block ?_ -- 0
  refine E.loop ?_
  refine EL.ind (S54 l ns o c o2 c2) (fun i => l.length - i) (fun i => i ≤ l.length) 0 (.less rfl rfl rfl (by simp [S54]) (by simp [S54])) (Nat.zero_le _) (fun i => by cases i <;> rfl) ?_
  intro i hi
  rcases i with _ | i
  · have hw : IntKind.i64.wrap 1 = 1 := W_in (by omega) (by omega)
    refine E.seq ?_
    refine E.reg hr (by simp [S54]; rfl) ?_ -- region 3
    refine E.seq ?_
    refine E.cond (by rfl) (fun h => ?_) (fun h => ?_)
    · simp at h
      have hlt := hpos
      have hx := gcs_take hpos
      have h7 : 7 ≤ l.length * 7 := by omega
      rw [Nat.zero_mul, List.drop_zero] at hx
      obtain ⟨e1, e2, e3⟩ := shF_bound hst  hns hlt
      obtain ⟨_, _, _, _, hlo, hhi⟩ := gun_nums hst l[0] (List.getElem_mem hlt)
      have ho := gun_order hst l[0] (List.getElem_mem hlt)
      have q1 : IntKind.i64.wrap (l[0].hi - l[0].lo) = l[0].hi - l[0].lo := W_in (by omega) (by omega)
      have q2 : IntKind.i64.wrap (l[0].hi - l[0].lo + 1) = l[0].hi - l[0].lo + 1 := W_in (by omega) (by omega)
      have q3 : l[0].hi - l[0].lo + 1 ≠ 0 := by omega
      have q4 : IntKind.i64.wrap (l[0].lo + (kAt ns (0)).tmod (l[0].hi - l[0].lo + 1)) = shF l ns (0) := by rw [e1]; exact W_in (by omega) (by omega)
      have hts : (rl (shF l ns) 1).map iv = [iv (shF l ns 0)] := rfl
      refine E.skip ?_
      refine E.seq ?_
      refine E.block ?_ -- 1
      refine E.seq ?_
      refine E.reg hr (by simp [hx, hpos, h7]; rfl) ?_ -- region 4
      refine E.seq ?_
      refine E.reg hr (by simp; rfl) ?_ -- region 5
      refine E.seq ?_
      refine E.seq ?_
      by_cases hk : 0 < ns.length
      · have hkI : (0 : Int) < ns.length := by omega
        have hke : kAt ns (0) = ns[0] := by unfold kAt; rw [List.getElem?_eq_getElem hk]; rfl
        have hkb := hns _ (List.getElem_mem hk)
        have hkw : IntKind.i64.wrap ns[0] = ns[0] := W_in (by omega) (by omega)
        rw [hke] at q4
        refine E.reg hr (by simp [hk]; rfl) ?_ -- region 6
        refine E.cond (by rfl) (fun h2 => ?_) (fun h2 => ?_)
        rotate_left
        · simp at h2
        refine E.reg hr (by simp [hk, opConvert, cv53, hkw]; rfl) ?_ -- region 7
        refine E.drawC mixed hr [15, 16] [15, 16] [3, 7, 10, 15, 16] (by kernel_rfl) (by simp [q1, q2, bin_rem q3, q4]; rfl) ?_ -- region 8
        refine E.reg hr (by simp [hw]; rfl) ?_ -- region 9
        exact ⟨1, Leads.ren [12, 15] rfl rfl rfl ⟨rfl, rfl⟩ (by simp [S54]) (by simp [S54, hts]), by omega, by dsimp only; omega⟩
      · have hkI : ¬ (0 : Int) < ns.length := by omega
        have hke : kAt ns (0) = 0 := by unfold kAt; rw [List.getElem?_eq_none (by omega)]; rfl
        rw [hke, Int.zero_tmod, Int.add_zero] at q4
        refine E.reg hr (by simp [hk]; rfl) ?_ -- region 6
        refine E.cond (by rfl) (fun h2 => ?_) (fun h2 => ?_)
        · simp at h2
        refine E.skip ?_
        refine E.drawC mixed hr [15, 16] [15, 16] [3, 7, 10, 15, 16] (by kernel_rfl) (by simp [q1, q2, bin_rem q3, q4]; rfl) ?_ -- region 8
        refine E.reg hr (by simp [hw]; rfl) ?_ -- region 9
        exact ⟨1, Leads.ren [12, 15] rfl rfl rfl ⟨rfl, rfl⟩ (by simp [S54]) (by simp [S54, hts]), by omega, by dsimp only; omega⟩
    · simp at h
      simp [h] at h1
  · have hw : IntKind.i64.wrap ((i : Int) + 1 + 1) = (i : Int) + 1 + 1 := W_in (by omega) (by omega)
    have ht : List.take (i + 1) ((rl (shF l ns) (i + 1)).map iv) = (rl (shF l ns) (i + 1)).map iv := List.take_of_length_le (by simp)
    refine E.seq ?_
    refine E.reg hr (by simp [S54]; rfl) ?_ -- region 3
    refine E.seq ?_
    refine E.cond (by rfl) (fun h => ?_) (fun h => ?_)
    · simp at h
      have hlt : i + 1 < l.length := by omega
      have hltI : (i : Int) + 1 < l.length := by omega
      have hx := gcs_take hlt
      have h7 : (i + 1) * 7 + 7 ≤ l.length * 7 := by omega
      have hsm : (i + 1 + 1) * 8 ≤ 1099511627776 ∧ i + 1 + 1 ≤ 1099511627776 := by omega
      obtain ⟨e1, e2, e3⟩ := shF_bound hst  hns hlt
      obtain ⟨_, _, _, _, hlo, hhi⟩ := gun_nums hst l[i + 1] (List.getElem_mem hlt)
      have ho := gun_order hst l[i + 1] (List.getElem_mem hlt)
      have q1 : IntKind.i64.wrap (l[i + 1].hi - l[i + 1].lo) = l[i + 1].hi - l[i + 1].lo := W_in (by omega) (by omega)
      have q2 : IntKind.i64.wrap (l[i + 1].hi - l[i + 1].lo + 1) = l[i + 1].hi - l[i + 1].lo + 1 := W_in (by omega) (by omega)
      have q3 : l[i + 1].hi - l[i + 1].lo + 1 ≠ 0 := by omega
      have q4 : IntKind.i64.wrap (l[i + 1].lo + (kAt ns (i + 1)).tmod (l[i + 1].hi - l[i + 1].lo + 1)) = shF l ns (i + 1) := by rw [e1]; exact W_in (by omega) (by omega)
      have hts : (rl (shF l ns) (i + 1 + 1)).map iv = (rl (shF l ns) (i + 1)).map iv ++ [iv (shF l ns (i + 1))] := by rw [rl_succ, List.map_append]; rfl
      refine E.skip ?_
      refine E.seq ?_
      refine E.block ?_ -- 1
      refine E.seq ?_
      refine E.reg hr (by simp [hx, hltI, h7]; rfl) ?_ -- region 4
      refine E.seq ?_
      refine E.reg hr (by simp; rfl) ?_ -- region 5
      refine E.seq ?_
      refine E.seq ?_
      by_cases hk : i + 1 < ns.length
      · have hkI : (i : Int) + 1 < ns.length := by omega
        have hke : kAt ns (i + 1) = ns[i + 1] := by unfold kAt; rw [List.getElem?_eq_getElem hk]; rfl
        have hkb := hns _ (List.getElem_mem hk)
        have hkw : IntKind.i64.wrap ns[i + 1] = ns[i + 1] := W_in (by omega) (by omega)
        rw [hke] at q4
        refine E.reg hr (by simp [hkI]; rfl) ?_ -- region 6
        refine E.cond (by rfl) (fun h2 => ?_) (fun h2 => ?_)
        rotate_left
        · simp at h2
        refine E.reg hr (by simp [hk, hkI, opConvert, cv53, hkw]; rfl) ?_ -- region 7
        refine E.drawC mixed hr [15, 16] [15, 16] [3, 7, 10, 15, 16] (by kernel_rfl) (by simp [q1, q2, bin_rem q3, q4, ht, hsm]; rfl) ?_ -- region 8
        refine E.reg hr (by simp [hw]; rfl) ?_ -- region 9
        exact ⟨i + 2, Leads.ren [12, 16] rfl rfl rfl ⟨rfl, rfl⟩ (by simp [S54]) (by simp [S54, hts]), by omega, by dsimp only; omega⟩
      · have hkI : ¬ (i : Int) + 1 < ns.length := by omega
        have hke : kAt ns (i + 1) = 0 := by unfold kAt; rw [List.getElem?_eq_none (by omega)]; rfl
        rw [hke, Int.zero_tmod, Int.add_zero] at q4
        refine E.reg hr (by simp [hkI]; rfl) ?_ -- region 6
        refine E.cond (by rfl) (fun h2 => ?_) (fun h2 => ?_)
        · simp at h2
        refine E.skip ?_
        refine E.drawC mixed hr [15, 16] [15, 16] [3, 7, 10, 15, 16] (by kernel_rfl) (by simp [q1, q2, bin_rem q3, q4, ht, hsm]; rfl) ?_ -- region 8
        refine E.reg hr (by simp [hw]; rfl) ?_ -- region 9
        exact ⟨i + 2, Leads.ren [12, 16] rfl rfl rfl ⟨rfl, rfl⟩ (by simp [S54]) (by simp [S54, hts]), by omega, by dsimp only; omega⟩
    · simp at h
      have hll : l.length = i + 1 := by omega
      refine E.exit ?_ -- 0
      refine E.seq ?_
      refine E.reg hr (by simp; rfl) ?_ -- region 10
      refine E.ret ?_
      refine outK.ret rfl rfl ?_
      exact ⟨13, by simp [shL, hll], by simp [shL, hll], by omega⟩
theorem names_u8 (l : List Int) : afL (l.map bv) = true := by
  induction l with
  | nil => rfl
  | cons a l ih => simp
end Go.Proofs.YtndlfijfjglkdaaGreatDoor

namespace Go.Proofs.YtndlfijfjglkdaaGreatDoor
open Go Go.Ab Go.Proofs
/-! ### entries -/
def u8Of : List Value → Option (List Int)
  | [] => some []
  | .int .u8 n :: vs => (u8Of vs).map (n :: ·)
  | _ => none
theorem u8Of_ok : ∀ (cs : List Value) (l : List Int), u8Of cs = some l → cs = l.map bv
  | [], l, h => by simp [u8Of] at h; subst h; rfl
  | c :: cs, l, h => by
    unfold u8Of at h
    split at h
    · rename_i h1; cases h1
    · rename_i n vs h1
      injection h1 with h1 h2; subst h1 h2
      rw [Option.map_eq_some_iff] at h
      obtain ⟨l', h2, h3⟩ := h
      subst h3
      rw [u8Of_ok _ _ h2]; rfl
    · cases h
theorem u8Of_bv : ∀ l : List Int, u8Of (l.map bv) = some l
  | [] => rfl
  | x :: l => by simp [u8Of, u8Of_bv l]
/-- a slice of bytes, or an absent one -/
def u8W (H : Heap) : Value → Option (List Int)
  | .slice none 0 0 => some []
  | .slice (some a) len _ => if flat a && Nat.blt len 2147483648 then (cellsA H a.block a.off len).bind u8Of else none
  | _ => none
theorem u8At_ok {H : Heap} {a : Addr} {len : Nat} {l : List Int} (h : (if flat a && Nat.blt len 2147483648 then (cellsA H a.block a.off len).bind u8Of else none) = some l) : flat a = true ∧ cellsA H a.block a.off len = some (l.map bv) ∧ l.length = len ∧ l.length < 2 ^ 31 := by
  split at h
  · rename_i hf
    rw [Bool.and_eq_true] at hf
    rw [Option.bind_eq_some_iff] at h
    obtain ⟨cs, h1, h2⟩ := h
    have h3 := u8Of_ok _ _ h2
    subst h3
    have h4 := (cellsA_at h1).1
    rw [List.length_map] at h4
    exact ⟨hf.1, h1, h4, by have := (blt_iff _ _).1 hf.2; omega⟩
  · cases h
def g54 (args : List Value) (H : Heap) (n : Nat) : R := match args with
  | [v, t] => match strAt H v, u8W H t with
    | some l, some ns => if strE l = 0 ∧ ∀ x ∈ ns, 0 ≤ x ∧ x ≤ 255 then some (.slice (some ⟨n, 0, some 0⟩) (shL l ns).length 0, (n, .ext ((shL l ns).map iv) 3 1) :: H, n + 1) else none
    | _, _ => none
  | _ => none
theorem ok54 : EntOk Tryz.prog (54, g54) := by
  intro args H n v H' n' h'
  simp only [g54] at h'
  split at h'
  · split at h'
    · rename_i l ns hg ht
      split at h'
      · rename_i hc
        obtain ⟨hst, hns⟩ := hc
        have h1 := (strE_len hst).1
        injection h' with h'; injection h' with e1 e2; injection e2 with e2 e3; subst e1 e2 e3
        unfold strAt at hg
        split at hg
        · injection hg with hg; subst hg; simp at h1
        · obtain ⟨hf, hc, hlen, _⟩ := gunsAt_ok hg
          subst hlen
          unfold u8W at ht
          split at ht
          · injection ht with ht; subst ht
            refine AC.liftF (names_sx _ _) (.inr ⟨_, _, _, rfl, afL_iv _⟩) (Part.one (fun x => [.agg ⟨[x]⟩, .slice none 0 0]) (by intro φ φ0 s s0 h; simp [denL, den, h]) (by intro p s h; exact ⟨⟨h, trivial⟩, trivial, trivial⟩) hf hc (afL_gcs l) [] (by simp [Seen]) gsz fun c => ?_)
            obtain ⟨u, H1, n1, H2, hAC, ⟨m, hu, hm, hle⟩, hh⟩ := w54n l _ c hst
            subst hu
            have := hh (by simp)
            subst this
            exact ⟨m, _, _, hle, hm, hAC⟩
          · obtain ⟨hf2, hc2, hlen, h31⟩ := u8At_ok ht
            subst hlen
            refine AC.liftF (names_sx _ _) (.inr ⟨_, _, _, rfl, afL_iv _⟩) (Part.two (fun x y => [.agg ⟨[x]⟩, y]) (by intro φ φ0 s s0 u u0 h h2; simp [denL, den, h, h2]) (by intro p s u h h2; exact ⟨⟨h, trivial⟩, h2, trivial⟩) hf hc (afL_gcs l) hf2 hc2 (names_u8 ns) [] (by simp [Seen]) gsz fun c c2 => ?_)
            obtain ⟨u, H1, n1, H2, hAC, ⟨m, hu, hm, hle⟩, hh⟩ := w54 l ns _ c _ c2 hst hns h31
            subst hu
            have := hh (by simp)
            subst this
            exact ⟨m, _, _, hle, hm, hAC⟩
          · cases ht
        · cases hg
      · cases h'
    · cases h'
  · cases h'
/-! ### plain: strings changed gun by gun -/
def mapTo (f : Gun → Gun) (l : List Gun) (i : Nat) : List Gun := (l.take i).map f ++ l.drop i
section
variable {f : Gun → Gun} {l : List Gun} {i : Nat}
@[simp] theorem mapTo_zero (f : Gun → Gun) (l : List Gun) : mapTo f l 0 = l := by simp [mapTo]
theorem mapTo_all (f : Gun → Gun) (l : List Gun) : mapTo f l l.length = l.map f := by simp [mapTo]
theorem mapTo_length (h : i ≤ l.length) : (mapTo f l i).length = l.length := by simp [mapTo]; omega
theorem mapTo_get (h : i < l.length) (h2 : i < (mapTo f l i).length) : (mapTo f l i)[i] = l[i] := by
  have e : (mapTo f l i)[i]? = l[i]? := by
    unfold mapTo
    rw [List.getElem?_append_right (by simp; omega)]
    simp only [List.length_map, List.length_take, List.getElem?_drop]
    congr 1
    omega
  rw [List.getElem?_eq_getElem h, List.getElem?_eq_getElem h2] at e
  exact Option.some.inj e
theorem mapTo_succ (h : i < l.length) : (mapTo f l i).set i (f l[i]) = mapTo f l (i + 1) := by
  have hl : ((l.take i).map f).length = i := by simp; omega
  unfold mapTo
  rw [List.set_append_right _ _ (by omega), hl, Nat.sub_self, List.drop_eq_getElem_cons h, List.set_cons_zero, List.take_succ_eq_append_getElem h, List.map_append, List.append_assoc]
  rfl
end
theorem gcs_split {k : List Gun} {i : Nat} (h : i < k.length) (g : Gun) : gcs k = gcs (k.take i) ++ (k[i].cells ++ gcs (k.drop (i + 1))) ∧ gcs (k.set i g) = gcs (k.take i) ++ (g.cells ++ gcs (k.drop (i + 1))) ∧ (gcs (k.take i)).length = i * 7 := by
  refine ⟨?_, ?_, by rw [gcs_length, List.length_take]; omega⟩
  · conv => lhs; rw [← List.take_append_drop i k, List.drop_eq_getElem_cons h]
    rw [gcs_append]; rfl
  · rw [List.set_eq_take_append_cons_drop, if_pos h, gcs_append]; rfl
theorem gcs_setXY {k : List Gun} {i : Nat} (h : i < k.length) (x y : Int) : (gcs k).take (i * 7 + 2) ++ iv x :: iv y :: (gcs k).drop (i * 7 + 4) = gcs (k.set i { k[i] with x := x, y := y }) := by
  obtain ⟨e1, e2, e3⟩ := gcs_split h { k[i] with x := x, y := y }
  rw [e2, e1, ← e3, List.take_length_add_append, List.drop_length_add_append]
  simp [Gun.cells]
theorem gcs_setX {k : List Gun} {i : Nat} (h : i < k.length) (x : Int) : (gcs k).take (i * 7 + 2) ++ iv x :: (gcs k).drop (i * 7 + 3) = gcs (k.set i { k[i] with x := x }) := by
  obtain ⟨e1, e2, e3⟩ := gcs_split h { k[i] with x := x }
  rw [e2, e1, ← e3, List.take_length_add_append, List.drop_length_add_append]
  simp [Gun.cells]
/-- a change that keeps the names, and is right gun by gun -/
theorem strE_map {l : List Gun} {f : Gun → Gun} (hst : strE l = 0) (hn : ∀ g, (f g).name = g.name) (he : ∀ g ∈ l, (f g).err = 0) : strE (l.map f) = 0 := by
  obtain ⟨h1, h8⟩ := strE_len hst
  refine strE_ok (by rw [List.length_map]; omega) (by simpa using h8) fun j hj => ?_
  have hj' : j < l.length := by simpa using hj
  unfold strE at hst
  rw [if_neg (by omega), if_neg (by omega)] at hst
  have hc := (firstV_zero _).1 hst (gunChk l j) (List.mem_map.2 ⟨j, by simpa using hj', rfl⟩)
  rw [gunChk_at hj'] at hc
  have hz := (firstV_zero _).1 hc
  have ha : atV (l.map f) l[j].name j = atV l l[j].name j := by
    unfold atV
    rw [← List.map_take, List.findIdx?_map]
    simp only [Function.comp_def, hn]
  rw [gunChk_at hj]
  refine (firstV_zero _).2 fun x hx => ?_
  simp only [List.getElem_map, hn, ha, List.mem_cons, List.not_mem_nil, or_false] at hx
  rcases hx with rfl | rfl | rfl
  · exact hz _ (by simp)
  · exact hz _ (by simp)
  · exact he _ (List.getElem_mem hj')
theorem err_of {g : Gun} (hv : 1 ≤ g.v ∧ g.v ≤ 64) (hx : -1000 ≤ g.x ∧ g.x ≤ 1000) (hy : -1000 ≤ g.y ∧ g.y ≤ 1000) (hd : 0 ≤ g.d ∧ g.d ≤ 16) (hlo : 0 ≤ g.lo ∧ g.lo ≤ 4) (hhi : 0 ≤ g.hi ∧ g.hi ≤ 4) (ho : g.lo ≤ g.hi) : g.err = 0 := by
  unfold Gun.err
  refine (firstV_zero _).2 fun e he => ?_
  simp only [List.mem_cons, List.not_mem_nil, or_false] at he
  rcases he with rfl | rfl | rfl | rfl | rfl | rfl | rfl
  · exact (withinV_zero _ _ _).2 hv
  · exact (withinV_zero _ _ _).2 hx
  · exact (withinV_zero _ _ _).2 hy
  · exact (withinV_zero _ _ _).2 hd
  · exact (withinV_zero _ _ _).2 hlo
  · exact (withinV_zero _ _ _).2 hhi
  · rw [if_neg (by omega)]
theorem minN_add (κ : Int) (l : List Int) : ∀ i, i < l.length → minN (l.map (· + κ)) i = minN l i + κ
  | 0, h => by simp [minN, h]
  | i + 1, h => by
    have ih := minN_add κ l i (by omega)
    simp only [minN, ih]
    rw [List.getElem?_map, List.getElem?_eq_getElem h]
    simp only [Option.map_some, Option.getD_some]
    omega
/-- all coordinates moved as much, all ticks as much -/
theorem arr_gen {F F' : Nat} {l : List Gun} {f : Gun → Gun} {δ κ : Int} (h1 : 1 ≤ l.length) (hf : ∀ g ∈ l, (f g).d = g.d + δ ∧ coG F' (f g) = coG F g + κ) : (l.map f).map (arrG F' (l.map f)) = (l.map (arrG F l)).map (· + δ) := by
  have hc : (l.map f).map (coG F') = (l.map (coG F)).map (· + κ) := by
    rw [List.map_map, List.map_map]
    exact List.map_congr_left fun g hg => (hf g hg).2
  have hm : leastV F' (l.map f) = leastV F l + κ := by
    unfold leastV
    rw [hc, List.length_map, minN_add κ _ _ (by simp; omega)]
  rw [List.map_map, List.map_map]
  refine List.map_congr_left fun g hg => ?_
  simp only [Function.comp_apply, arrG, hm, (hf g hg).1, (hf g hg).2]
  rw [show coG F g + κ - (leastV F l + κ) = coG F g - leastV F l by omega]
  omega
theorem sum_gen {l : List Gun} {f : Gun → Gun} {sh : List Int} {d d' : ByteArray} {δ : Int} (hv : ∀ g, (f g).v = g.v) (ha : arrL d' (l.map f) = (arrL d l).map (· + δ)) (j : Int) : ∀ i, i ≤ l.length → sumP (l.map f) sh d' (j + δ) i = sumP l sh d j i
  | 0, _ => rfl
  | i + 1, h => by
    have ih := sum_gen (sh := sh) hv ha j i (by omega)
    have hia : i < (arrL d l).length := by rw [arrL_length]; omega
    have e1 : vAt (l.map f) i = vAt l i := by
      rw [vAt_at (by simp; omega), vAt_at (by omega), List.getElem_map, hv]
    have e2 : (arrL d' (l.map f)).getD i 0 = (arrL d l).getD i 0 + δ := by
      rw [ha, getD_at (by simpa using hia), getD_at hia, List.getElem_map]
    rw [sumP, sumP, ih, e1, e2]
    rw [show j + δ - ((arrL d l).getD i 0 + δ) = j - (arrL d l).getD i 0 by omega]
theorem sig_same {l : List Gun} {f : Gun → Gun} {sh : List Int} {d d' : ByteArray} (hst : strE l = 0) (hsh : shE l sh = 0) (hst' : strE (l.map f) = 0) (hsh' : shE (l.map f) sh = 0) (hv : ∀ g, (f g).v = g.v) (ha : arrL d' (l.map f) = arrL d l) (W : Nat) : sigN (l.map f) sh d' W (l.map f).length = sigN l sh d W l.length := by
  apply List.ext_getElem?
  intro j
  by_cases hj : j < W
  · rw [sigN_get hst' hsh' d' hj _ (Nat.le_refl _), sigN_get hst hsh d hj _ (Nat.le_refl _), List.length_map]
    have := sum_gen (δ := 0) (sh := sh) (d := d) hv (ha.trans (by simp)) j l.length (Nat.le_refl _)
    rw [Int.add_zero] at this
    rw [this]
  · rw [List.getElem?_eq_none (by simp; omega), List.getElem?_eq_none (by simp; omega)]
theorem pulse_neg {v s i : Int} (hv : 1 ≤ v ∧ v ≤ 64) (hs : 0 ≤ s ∧ s ≤ 4) (hi : i < 0) : pulseV v s i = 0 := by
  obtain ⟨hp, hp1, hp2⟩ := period_bounds hv hs
  have hq : IntKind.i64.wrap ((periodV v s).tdiv 2) = periodV v s / 2 := by rw [Int.tdiv_eq_ediv_of_nonneg (by omega), W_in (by omega) (by omega)]
  have h2p : IntKind.i64.wrap (2 * periodV v s) = 2 * periodV v s := W_in (by omega) (by omega)
  unfold pulseV
  rw [hq, h2p, if_neg (by omega), if_neg (by omega), if_neg (by omega), if_neg (by omega)]
theorem sum_early {l : List Gun} {sh : List Int} (hst : strE l = 0) (hsh : shE l sh = 0) (d : ByteArray) (j : Int) (hj : ∀ x ∈ arrL d l, j < x) : ∀ i, i ≤ l.length → sumP l sh d j i = 0
  | 0, _ => rfl
  | i + 1, h => by
    have ih := sum_early hst hsh d j hj i (by omega)
    obtain ⟨hse, hsb⟩ := shE_zero hsh
    obtain ⟨hv, _, _, _, hlo, hhi⟩ := gun_nums hst l[i] (List.getElem_mem h)
    have hia : i < (arrL d l).length := by rw [arrL_length]; omega
    have hsi := hsb i h (by omega)
    have := hj _ (List.getElem_mem hia)
    rw [sumP, ih, vAt_at h, getD_at hia, getD_at (l := sh) (by omega), pulse_neg hv (by omega) (by omega)]
    rfl
/-- a tick later: the same signature, a tick later -/
theorem sig_later {l : List Gun} {f : Gun → Gun} {sh : List Int} {d : ByteArray} (hst : strE l = 0) (hsh : shE l sh = 0) (hst' : strE (l.map f) = 0) (hsh' : shE (l.map f) sh = 0) (hv : ∀ g, (f g).v = g.v) (ha : arrL d (l.map f) = (arrL d l).map (· + 1)) {W : Nat} (hW : 1 ≤ W) : sigN (l.map f) sh d W (l.map f).length = 0 :: (sigN l sh d W l.length).take (W - 1) := by
  apply List.ext_getElem?
  intro j
  by_cases hj : j < W
  · rw [sigN_get hst' hsh' d hj _ (Nat.le_refl _)]
    cases j with
    | zero =>
      have hz : sumP (l.map f) sh d ((0 : Nat) : Int) (l.map f).length = 0 := sum_early hst' hsh' d _ (fun x hx => by
        rw [ha] at hx
        obtain ⟨y, hy, rfl⟩ := List.mem_map.1 hx
        have := arrL_bounds hst d y hy
        omega) _ (Nat.le_refl _)
      rw [hz]
      rfl
    | succ j =>
      have := sum_gen (sh := sh) hv ha (j : Int) l.length (Nat.le_refl _)
      rw [List.getElem?_cons_succ, List.getElem?_take, if_pos (by omega), sigN_get hst hsh d (by omega) _ (Nat.le_refl _), List.length_map, ← this]
      rfl
  · rw [List.getElem?_eq_none (by simp; omega), List.getElem?_eq_none (by simp; omega)]
end Go.Proofs.YtndlfijfjglkdaaGreatDoor
