/-
The program's functions that cut a text into fields and numbers, walked (each a contract: no condition but those in its statement).
-/
import Derived.Test.YtkongcnmkiihjaaGreatDoorYn
import Derived.Test.YtkongcnmkiihjaaGreatDoorTb
import Derived.Test.YtkongcnmkiihjaaGreatDoorAj
namespace Go.Proofs.YtkongcnmkiihjaaGreatDoor
open Go Go.Ab Go.Proofs
theorem W32 {a : Int} (h0 : -2147483648 ≤ a) (h1 : a ≤ 2147483647) : IntKind.i32.wrap a = a := IntWalk.i32_in a ⟨h0, h1⟩
theorem pI_bad {s : List UInt8} (h : preI s = false) : pI s = (0, false) := by unfold pI; rw [h]; rfl
theorem preI_long {s : List UInt8} (h : 10 < s.length) : preI s = false := by simp [preI, show ¬ s.length ≤ 10 by omega]
set_option maxHeartbeats 4000000 in
set_option maxRecDepth 100000 in
theorem w202 (s : List UInt8) (hl : s.length < 2147483648) : AC Tryz.prog 202 [sL s] [] 9 (tupI (pI s)) [] 9 := by
  have hr := recT_ok (P := Tryz.prog) (l := []) (by simp)
  refine AC.pure Tryz.func202 rfl (by kernel_rfl) rfl [0, 4, 8] rfl ?_
  refine E.seq ?_
  refine E.reg hr (by simp; rfl) ?_
  refine E.seq ?_
  refine E.reg hr (by simp; rfl) ?_
  refine E.seq ?_
  refine E.seq ?_
  refine E.reg hr (by simp; rfl) ?_
  refine E.block ?_
  refine E.loop ?_
  refine EL.ind (fun i : Nat => { fr := [(0, sL s), (4, iv (valD (s.take i))), (8, .pointer (some ⟨9, 0, none⟩))], sz := 42, H := [(9, .iter (bA s) i)], n := 10, marks := [], vs := [0, 4, 8] }) (fun i => s.length - i) (fun i => i ≤ s.length ∧ (0 < i → s.length ≤ 10) ∧ ∀ j (h : j < s.length), j < i → digB s[j] = true) 0 (.less rfl rfl rfl (by simp [valD]) (by simp)) ⟨Nat.zero_le _, fun h => absurd h (by omega), fun j _ hj => absurd hj (by omega)⟩ (fun _ => rfl) ?_
  intro i ⟨hi, hi10, hg⟩
  refine E.seq ?_
  by_cases h : i < s.length
  · have hsz : i < (bA s).size := by rw [bA_size]; exact h
    have hb := u8_bd s[i]
    obtain ⟨x, hx⟩ : ∃ x, x = Utf8.decode (bA s) i := ⟨_, rfl⟩
    obtain ⟨r, k⟩ := x
    have hlow : digB s[i] = true → r = s[i].toNat ∧ k = 1 := fun hd => by
      simp only [digB, decide_eq_true_eq] at hd
      rw [decode_low h (by omega)] at hx
      injection hx with h1 h2
      exact ⟨h1, h2⟩
    have hhigh : digB s[i] = false → r < 48 ∨ 57 < r := fun hd => by
      simp only [digB, decide_eq_false_iff_not] at hd
      by_cases hlt : s[i].toNat < 128
      · rw [decode_low h hlt] at hx
        injection hx with h1 h2
        omega
      · have := decode_high h hlt
        rw [← hx] at this
        dsimp only at this
        omega
    refine E.reg hr (by simp [opNext, hsz, ← hx]; rfl) ?_
    refine E.seq ?_
    refine E.cond (t := true) (by rfl) (fun _ => ?_) (fun h => by cases h)
    refine E.skip ?_
    refine E.block ?_
    refine E.seq ?_
    refine E.reg hr (by simp; rfl) ?_
    refine E.seq ?_
    refine E.seq ?_
    by_cases hgood : digB s[i] = true ∧ s.length ≤ 10
    · obtain ⟨hd, h10⟩ := hgood
      obtain ⟨rfl, rfl⟩ := hlow hd
      have hd' := hd
      simp only [digB, decide_eq_true_eq] at hd
      have hd1 : ¬ ((s[i].toNat : Nat) : Int) < 48 := by omega
      have hd2 : ¬ (57 : Int) < ((s[i].toNat : Nat) : Int) := by omega
      have h10I : ¬ (10 : Int) < (s.length : Int) := by omega
      refine E.reg hr (by simp [hd1, hd2, h10I]; rfl) ?_
      refine E.cond (t := false) (by rfl) (fun h => by cases h) (fun _ => ?_)
      have hbd : 0 ≤ valD (s.take i) ∧ valD (s.take i) + 1 ≤ 10 ^ i := by
        have := valD_bd (s := s.take i) (fun b hb => by
          obtain ⟨j, hj, rfl⟩ := List.getElem_of_mem hb
          simp only [List.length_take] at hj
          rw [List.getElem_take]
          exact hg j (by omega) (by omega)) i (by rw [List.length_take]; omega)
        rwa [List.take_take, Nat.min_self] at this
      have hp := pow_le10 (i := i) (by omega)
      have w1 : IntKind.i64.wrap (10 * valD (s.take i)) = 10 * valD (s.take i) := W_in (by omega) (by omega)
      have w2 : IntKind.i32.wrap (((s[i].toNat : Nat) : Int) - 48) = ((s[i].toNat : Nat) : Int) - 48 := W32 (by omega) (by omega)
      have w3 : IntKind.i64.wrap (10 * valD (s.take i) + (((s[i].toNat : Nat) : Int) - 48)) = 10 * valD (s.take i) + (((s[i].toNat : Nat) : Int) - 48) := W_in (by omega) (by omega)
      have hc := conv213 (a := ((s[i].toNat : Nat) : Int) - 48) (by omega) (by omega)
      have hsn : valD (s.take (i + 1)) = 10 * valD (s.take i) + (((s[i].toNat : Nat) : Int) - 48) := by rw [List.take_succ_eq_append_getElem h, valD_snoc]
      refine E.skip ?_
      refine E.reg hr (by simp [w1, w2, w3, opConvert, hc]; rfl) ?_
      refine ⟨i + 1, .less rfl rfl rfl (by simp [hsn]) (by simp), ⟨by omega, fun _ => h10, fun j hj hji => ?_⟩, by dsimp only; omega⟩
      by_cases hji' : j = i
      · subst hji'
        exact hd'
      · exact hg j hj (by omega)
    · have hv : pI s = (0, false) := by
        by_cases h10 : 10 < s.length
        · exact pI_bad (preI_long h10)
        · refine pI_bad (preI_bad h ?_)
          cases hdd : digB s[i] with
          | true => exact absurd ⟨hdd, by omega⟩ hgood
          | false => rfl
      refine E.regL hr { fr := [(22, .bool true)], sz := 42, H := [(9, .iter (bA s) (i + k))], n := 10, marks := [], vs := [0, 4, 8] } ?_ ?_
      · by_cases hr1 : (r : Int) < 48
        · refine ⟨_, by simp [hr1]; rfl, ?_⟩; exact .less rfl rfl rfl (by simp) (by simp)
        · by_cases hr2 : (57 : Int) < (r : Int)
          · refine ⟨_, by simp [hr1, hr2]; rfl, ?_⟩; exact .less rfl rfl rfl (by simp) (by simp)
          · have h10 : (10 : Int) < (s.length : Int) := by
              cases hdd : digB s[i] with
              | true =>
                have : ¬ s.length ≤ 10 := fun h => hgood ⟨hdd, h⟩
                omega
              | false =>
                have := hhigh hdd
                omega
            refine ⟨_, by simp [hr1, hr2, h10]; rfl, ?_⟩; exact .less rfl rfl rfl (by simp) (by simp)
      refine E.cond (t := true) (by rfl) (fun _ => ?_) (fun h => by cases h)
      refine E.seq ?_
      refine E.reg hr (by simp; rfl) ?_
      refine E.ret ?_
      exact pureK.ret rfl rfl (by simp [hv]) (by repeat first | exact sub_refl _ | refine sub_cons rfl ?_)
  · have hsz : ¬ i < (bA s).size := by rw [bA_size]; exact h
    have hal : s.take i = s := List.take_of_length_le (by omega)
    refine E.reg hr (by simp [opNext, hsz]; rfl) ?_
    refine E.seq ?_
    refine E.cond (t := false) (by rfl) (fun h => by cases h) (fun _ => ?_)
    refine E.exit ?_
    refine E.seq ?_
    by_cases h0 : s = []
    · subst h0
      refine E.drawC mixed hr [] [] [] (by kernel_rfl) (by simp; rfl) ?_
      refine E.ret ?_
      exact pureK.ret rfl rfl (by simp [pI_nil, valD]) (by repeat first | exact sub_refl _ | refine sub_cons rfl ?_)
    have hpos : 0 < s.length := List.length_pos_iff.2 h0
    have hpre : preI s = true := preI_good h0 (hi10 (by omega)) fun j hj => hg j hj (by omega)
    have hv : pI s = (valD s, leadB s) := by unfold pI; rw [hpre]; rfl
    have hhd : s.head? = some s[0] := by cases s with | nil => exact absurd rfl h0 | cons a b => rfl
    by_cases h1 : s.length = 1
    · have h1I : (s.length : Int) = 1 := by omega
      have hle : leadB s = true := by simp [leadB, h1]
      refine E.drawC mixed hr [] [] [] (by kernel_rfl) (by simp [h0, h1I, hal]; rfl) ?_
      refine E.ret ?_
      exact pureK.ret rfl rfl (by simp [hv, hle]) (by repeat first | exact sub_refl _ | refine sub_cons rfl ?_)
    · have h1I : ¬ (s.length : Int) = 1 := by omega
      have hle : leadB s = !decide (((s[0].toNat : Nat) : Int) = 48) := by
        have : decide (((s[0].toNat : Nat) : Int) = 48) = decide (s[0] = 48) := by
          by_cases e : s[0] = 48
          · rw [decide_eq_true e, decide_eq_true (by rw [e]; rfl)]
          · rw [decide_eq_false e, decide_eq_false (fun e2 => e (UInt8.toNat_inj.1 (by have : (48 : UInt8).toNat = 48 := rfl; omega)))]
        rw [this]
        simp [leadB, hhd, h1]
      refine E.drawC mixed hr [] [] [] (by kernel_rfl) (by simp [h0, h1I, hal, index_str0 hpos]; rfl) ?_
      refine E.ret ?_
      exact pureK.ret rfl rfl (by simp [hv, hle]) (by repeat first | exact sub_refl _ | refine sub_cons rfl ?_)
abbrev g202 := gSB fun s => tupI (pI s)
theorem ok202 : EntOk Tryz.prog (202, g202) := okSB (fun _ => rfl) w202
end Go.Proofs.YtkongcnmkiihjaaGreatDoor

namespace Go.Proofs.YtkongcnmkiihjaaGreatDoor
open Go Go.Ab Go.Proofs Go.RowKit
theorem w222 (s : List UInt8) (c : UInt8) (H : Heap) (n : Nat) : AC Tryz.prog 222 [sL s, sL [c]] H n (iv (Lib.indexByte s c)) H n := by
  refine AC.of_calls (by kernel_rfl) rfl fun p φ w hB hsc => ?_
  exact (Tryz.stringslite_Index_one (bA s) c w).mono fun e w' hh => ⟨hh.1, hh.2 ▸ Below.refl _ _⟩
def gIx (c : UInt8) (args : List Value) (H : Heap) (n : Nat) : R := match args with
  | [.string s, .string t] => if t = bA [c] then some (iv (Lib.indexByte s.data.toList c), H, n) else none
  | _ => none
theorem gIx_eq (c : UInt8) (s : List UInt8) (H : Heap) (n : Nat) : gIx c [sL s, sL [c]] H n = some (iv (Lib.indexByte s c), H, n) := by simp [gIx]
theorem ok222 (c : UInt8) : EntOk Tryz.prog (222, gIx c) := by
  intro args H n v H' n' hh
  simp only [gIx] at hh
  split at hh
  · rename_i s t
    split at hh
    · rename_i ht
      subst ht
      injection hh with hh; injection hh with e1 e2; injection e2 with e2 e3; subst e1 e2 e3
      have := w222 s.data.toList c H n
      rwa [show sL s.data.toList = .string s from congrArg Value.string (bA_data s)] at this
    · cases hh
  · cases hh
abbrev cutS (s : List UInt8) : List UInt8 × List UInt8 × Bool := Lib.cut s [32]
abbrev tupC (x : List UInt8 × List UInt8 × Bool) : Value := .tuple #[sL x.1, sL x.2.1, .bool x.2.2]
set_option maxHeartbeats 4000000 in
set_option maxRecDepth 100000 in
theorem w200 (s : List UInt8) (hl : s.length < 2147483648) : AC Tryz.prog 200 [sL s, sL [32]] [] 9 (tupC (cutS s)) [] 9 := by
  have hr := recT_ok (P := Tryz.prog) (l := [(222, gIx 32)]) (by simp only [List.forall_mem_cons]; exact ⟨ok222 32, by simp⟩)
  refine AC.pure Tryz.func200 rfl (by kernel_rfl) rfl [] rfl ?_
  refine E.seq ?_
  refine E.reg hr (by simp; rfl) ?_
  refine E.seq ?_
  refine E.seq ?_
  refine E.reg hr (by simp [gIx_eq]; rfl) ?_
  refine E.seq ?_
  rcases first_cut 32 s with ⟨h1, h2⟩ | ⟨a, r, h1, h2, h3⟩
  · have hc := (cut_byte 32 s).1 h2
    refine E.reg hr (by simp [h1]; rfl) ?_
    refine E.cond (t := false) (by rfl) (fun h => by cases h) (fun _ => ?_)
    refine E.skip ?_
    refine E.seq ?_
    refine E.reg hr (by simp; rfl) ?_
    refine E.ret ?_
    exact pureK.ret rfl rfl (by simp [cutS, hc]) (by repeat first | exact sub_refl _ | refine sub_cons rfl ?_)
  · have hc := (cut_byte 32 s).2 a r h1 h2
    have hsl : s.length = a.length + (r.length + 1) := by rw [h1]; simp
    have e1 := slice_hi (s := s) (b := a.length) (by omega)
    have e2 := slice_lo (s := s) (a := a.length + 1) (by omega)
    rw [show s.take a.length = a by rw [h1]; simp] at e1
    rw [show s.drop (a.length + 1) = r by rw [h1]; simp] at e2
    rw [show (((a.length + 1 : Nat)) : Int) = (a.length : Int) + 1 by omega] at e2
    have hw : IntKind.i64.wrap ((a.length : Int) + 1) = (a.length : Int) + 1 := W_in (by omega) (by omega)
    refine E.reg hr (by simp [h3]; rfl) ?_
    refine E.cond (t := true) (by rfl) (fun _ => ?_) (fun h => by cases h)
    refine E.seq ?_
    refine E.drawC mixed hr [] [] [2, 8] (by kernel_rfl) (by simp [opSlice, evI, hw, e1, e2]; rfl) ?_
    refine E.ret ?_
    exact pureK.ret rfl rfl (by simp [cutS, hc]) (by repeat first | exact sub_refl _ | refine sub_cons rfl ?_)
def gCt (args : List Value) (H : Heap) (n : Nat) : R := match args with
  | [.string s, .string t] => if t = bA [32] ∧ s.size < 2147483648 then some (tupC (cutS s.data.toList), H, n) else none
  | _ => none
theorem gCt_eq {s : List UInt8} {H : Heap} {n : Nat} (h : s.length < 2147483648) : gCt [sL s, sL [32]] H n = some (tupC (cutS s), H, n) := by simp [gCt, ByteArray.size, h]
theorem okCt {f : FuncId} (h : ∀ s : List UInt8, s.length < 2147483648 → AC Tryz.prog f [sL s, sL [32]] [] 9 (tupC (cutS s)) [] 9) : EntOk Tryz.prog (f, gCt) := by
  intro args H n v H' n' hh
  simp only [gCt] at hh
  split at hh
  · rename_i s t
    split at hh
    · rename_i ht
      obtain ⟨rfl, hl⟩ := ht
      injection hh with hh; injection hh with e1 e2; injection e2 with e2 e3; subst e1 e2 e3
      have := h s.data.toList (by rw [← Lib.size_eq]; exact hl)
      rw [show sL s.data.toList = .string s from congrArg Value.string (bA_data s)] at this
      exact AC.liftP rfl (Part.plain (by simp) [] (by simp [Seen]) gsz ⟨_, _, this⟩)
    · cases hh
  · cases hh
theorem w184 (s : List UInt8) (hl : s.length < 2147483648) : AC Tryz.prog 184 [sL s, sL [32]] [] 9 (tupC (cutS s)) [] 9 := by
  have hr := recT_ok (P := Tryz.prog) (l := [(200, gCt)]) (by simp only [List.forall_mem_cons]; exact ⟨okCt w200, by simp⟩)
  refine AC.pure Tryz.func184 rfl (by kernel_rfl) rfl [] rfl ?_
  refine E.seq ?_
  refine E.reg hr (by simp; rfl) ?_
  refine E.seq ?_
  refine E.reg hr (by simp [gCt_eq hl]; rfl) ?_
  refine E.ret ?_
  exact pureK.ret rfl rfl (by simp) (by repeat first | exact sub_refl _ | refine sub_cons rfl ?_)
theorem ok184 : EntOk Tryz.prog (184, gCt) := okCt w184
theorem hi9 : (Tryz.prog.info? 9).map (fun i => (i.zero, i.size, i.bytes)) = some (some (.string ByteArray.empty), 1, 16) := by kernel_rfl
theorem splitB_spl (s : List UInt8) (c : UInt8) : Lib.splitB (bA [c]) 0 (Lib.countB (bA s) (bA [c])) (bA s) = (spl c s).map bA := by
  have h := Lib.splitB_data (bA [c]) 0 (Lib.countB (bA s) (bA [c])) (bA s)
  have hk : Lib.countB (bA s) (bA [c]) = s.count c := Lib.count_one c s
  have h2 : Lib.splitK [c] 0 (s.count c) s = spl c s := splitK_byte c _ s rfl
  rw [hk] at h ⊢
  rw [← h2, show Lib.splitK [c] 0 (s.count c) s = _ from h.symm, List.map_map]
  conv => lhs; rw [← List.map_id (Lib.splitB (bA [c]) 0 (s.count c) (bA s))]
  exact List.map_congr_left fun x _ => (bA_data x).symm
theorem spl_len (c : UInt8) (s : List UInt8) : (spl c s).length = Lib.countB (bA s) (bA [c]) + 1 := by
  have := Lib.splitB_all (bA [c]) (by rw [bA_size]; simp) 0 _ (bA s) rfl
  rw [splitB_spl, List.length_map] at this
  exact this
theorem w201 (s : List UInt8) (c : UInt8) (hl : s.length < 2147483648) (H : Heap) (n : Nat) : AC Tryz.prog 201 [sL s, sL [c], iv 0, iv (-1)] H n (.slice (some ⟨n, 0, none⟩) (spl c s).length (spl c s).length) ((n, .cells (sls (spl c s)) 9) :: H) (n + 1) := by
  refine AC.of_new (by kernel_rfl) (afL_sls _) fun p φ w hB hsc => ?_
  have hle := Lib.countB_le (bA [c]) (by rw [bA_size]; simp) (bA s).size (bA s) (Nat.le_refl _)
  have hz : (bA s).size < 4294967281 := by rw [bA_size]; omega
  have core := Any.strings_genSplit_core Tryz.lays221 hi9 (bA s) (bA [c]) 0 (-1) (Lib.countB (bA s) (bA [c]) + 1) w hz (by rw [bA_size]; simp) (Nat.zero_le _)
    (fun x cs hx => by
      have := Tryz.strings_Index_one x c (w.alloc (.cells cs 9))
      rw [← Lib.index_one] at this
      exact this)
    (by
      have := Tryz.strings_Count_one (bA s) c w
      rw [show Lib.countByte (bA s).data.toList c = Lib.countB (bA s) (bA [c]) from (Lib.count_one c s).symm] at this
      exact this) (by decide) (by decide) (by rw [if_pos (by decide)]; omega)
  rw [Nat.add_sub_cancel, splitB_spl] at core
  refine core.mono fun e w' hh => ?_
  obtain ⟨h1, h2⟩ := hh
  have hc : Lib.cellsOf ((spl c s).map bA) (Lib.countB (bA s) (bA [c]) + 1) = (sls (spl c s)).toArray := by
    have := Lib.cellsOf_full ((spl c s).map bA)
    rw [List.length_map, spl_len, List.map_map] at this
    exact this
  rw [hc] at h2
  rw [List.length_map, ← spl_len] at h1
  exact ⟨h1, h2⟩
end Go.Proofs.YtkongcnmkiihjaaGreatDoor

namespace Go.Proofs.YtkongcnmkiihjaaGreatDoor
open Go Go.Ab Go.Proofs Go.RowKit
def g201 (args : List Value) (H : Heap) (n : Nat) : R := match args with
  | [.string s, .string t, .int .i64 a, .int .i64 b] => if t = bA [32] ∧ s.size < 2147483648 ∧ a = 0 ∧ b = -1 then some (.slice (some ⟨n, 0, none⟩) (spl 32 s.data.toList).length (spl 32 s.data.toList).length, (n, .cells (sls (spl 32 s.data.toList)) 9) :: H, n + 1) else none
  | _ => none
theorem ok201 : EntOk Tryz.prog (201, g201) := by
  intro args H n v H' n' hh
  simp only [g201] at hh
  split at hh
  · rename_i s t a b
    split at hh
    · rename_i ht
      obtain ⟨rfl, hl, rfl, rfl⟩ := ht
      injection hh with hh; injection hh with e1 e2; injection e2 with e2 e3; subst e1 e2 e3
      have := w201 s.data.toList 32 (by rw [← Lib.size_eq]; exact hl) H n
      rwa [show sL s.data.toList = .string s from congrArg Value.string (bA_data s)] at this
    · cases hh
  · cases hh
theorem w185 (s : List UInt8) (hl : s.length < 2147483648) : ∃ u H1 n1 H2, AC Tryz.prog 185 [sL s, sL [32]] [] 9 u H1 n1 ∧ (∃ m, u = .slice (some ⟨m, 0, none⟩) (spl 32 s).length (spl 32 s).length ∧ hget H2 m = some (.cells (sls (spl 32 s)) 9) ∧ 9 ≤ m) ∧ (af u = false → H1 = H2) := by
  have hr := recT_ok (P := Tryz.prog) (l := [(201, g201)]) (by simp only [List.forall_mem_cons]; exact ⟨ok201, by simp⟩)
  have hc : ∀ H n, g201 [sL s, sL [32], .int .i64 0, .int .i64 (-1)] H n = some (.slice (some ⟨n, 0, none⟩) (spl 32 s).length (spl 32 s).length, (n, .cells (sls (spl 32 s)) 9) :: H, n + 1) := fun H n => by simp [g201, ByteArray.size, hl]
  refine AC.out Tryz.func185 rfl (by kernel_rfl) rfl [] ?_
  refine E.seq ?_
  refine E.reg hr (by simp; rfl) ?_
  refine E.seq ?_
  refine E.reg hr (by simp [hc]; rfl) ?_
  refine E.ret ?_
  refine outK.ret rfl rfl ?_
  exact ⟨9, by simp, by simp, by omega⟩
def g185 (args : List Value) (H : Heap) (n : Nat) : R := match args with
  | [.string s, .string t] => if t = bA [32] ∧ s.size < 2147483648 then some (.slice (some ⟨n, 0, none⟩) (spl 32 s.data.toList).length (spl 32 s.data.toList).length, (n, .cells (sls (spl 32 s.data.toList)) 9) :: H, n + 1) else none
  | _ => none
theorem g185_eq {s : List UInt8} {H : Heap} {n : Nat} (hl : s.length < 2147483648) : g185 [sL s, sL [32]] H n = some (.slice (some ⟨n, 0, none⟩) (spl 32 s).length (spl 32 s).length, (n, .cells (sls (spl 32 s)) 9) :: H, n + 1) := by simp [g185, ByteArray.size, hl]
theorem ok185 : EntOk Tryz.prog (185, g185) := by
  intro args H n v H' n' hh
  simp only [g185] at hh
  split at hh
  · rename_i s t
    split at hh
    · rename_i ht
      obtain ⟨rfl, hl⟩ := ht
      injection hh with hh; injection hh with e1 e2; injection e2 with e2 e3; subst e1 e2 e3
      obtain ⟨u, H1, n1, H2, hAC, ⟨m, hv, hm, hle⟩, hh2⟩ := w185 s.data.toList (by rw [← Lib.size_eq]; exact hl)
      rw [show sL s.data.toList = .string s from congrArg Value.string (bA_data s)] at hAC
      subst hv
      have := hh2 rfl
      subst this
      exact AC.liftF (names_fl _ _) (.inl ⟨_, _, rfl, afL_sls _⟩) (Part.plain (by simp) [] (by simp [Seen]) gsz ⟨m, _, _, hle, hm, hAC⟩)
    · cases hh
  · cases hh
@[simp] theorem run_nilCheck {P : Program} {r : Rec} {st : St} {dst ty ps af g} {x : Operand} : runOp P r ⟨dst, .nilCheck x, ty, ps, af, g⟩ st = opNilcheck P x st.fr st.H st.n := rfl
attribute [local simp] opNilcheck
abbrev H186 (f : Value) (a b c : Int) (sl : Value) (wr : Bool) (ws : List (List UInt8)) : Heap := [(13, .cells [f] 260), (12, .cells [iv a, iv b, iv c] 160), (11, .cells [sl, .bool wr] 256), (10, .cells (sls ws) 9), (9, .cells [iv 0, iv 0, iv 0] 160)]
abbrev ptr11 : Value := .pointer (some ⟨11, 0, none⟩)
def nx (j m : Nat) : Value := if m = 0 then .slice (some ⟨10, j, none⟩) 0 0 else .slice (some ⟨10, j + 1, none⟩) m m
set_option maxHeartbeats 4000000 in
set_option maxRecDepth 100000 in
theorem w186m (f : Value) (a b c : Int) (o : Nat) (wr : Bool) (ws : List (List UInt8)) : AC Tryz.prog 186 [ptr11] (H186 f a b c (.slice (some ⟨10, o, none⟩) 0 0) wr ws) 14 (iv 0) (H186 f a b c (.slice (some ⟨10, o, none⟩) 0 0) true ws) 14 := by
  have hr := recT_ok (P := Tryz.prog) (l := []) (by simp)
  refine AC.body Tryz.func186 rfl (by kernel_rfl) rfl [] ?_
  refine E.seq ?_
  refine E.reg hr (by simp; rfl) ?_
  refine E.seq ?_
  refine E.seq ?_
  refine E.reg hr (by simp; rfl) ?_
  refine E.cond (t := true) (by rfl) (fun _ => ?_) (fun h => by cases h)
  refine E.seq ?_
  refine E.reg hr (by simp; rfl) ?_
  refine E.seq ?_
  refine E.reg hr (by simp; rfl) ?_
  refine E.ret ?_
  exact ⟨.inr rfl, by simp [leaveF, shutA, resultsA, resultA, Tryz.results186, dropOk]⟩
set_option maxHeartbeats 4000000 in
set_option maxRecDepth 100000 in
theorem w186p (f : Value) (a b0 c : Int) (j m : Nat) (wr : Bool) (ws : List (List UInt8)) (y : List UInt8) (hy : (sls ws)[j]? = some (sL y)) (hyl : y.length < 2147483648) (_hm : m < 2147483650) : AC Tryz.prog 186 [ptr11] (H186 f a b0 c (.slice (some ⟨10, j, none⟩) (m + 1) (m + 1)) wr ws) 14 (iv (pI y).1) (H186 f a b0 c (nx j m) (wr || !(pI y).2) ws) 14 := by
  have hr := recT_ok (P := Tryz.prog) (l := [(202, g202)]) (by simp only [List.forall_mem_cons]; exact ⟨ok202, by simp⟩)
  have hcall : ∀ H n, g202 [sL y] H n = some (tupI (pI y), H, n) := fun H n => gSB_eq hyl
  have hm1 : ¬ (m : Int) + 1 = 0 := by omega
  have hm2 : (0 : Int) < (m : Int) + 1 := by omega
  refine AC.body Tryz.func186 rfl (by kernel_rfl) rfl [] ?_
  refine E.seq ?_
  refine E.reg hr (by simp; rfl) ?_
  refine E.seq ?_
  refine E.seq ?_
  refine E.reg hr (by simp [hm1]; rfl) ?_
  refine E.cond (t := false) (by rfl) (fun h => by cases h) (fun _ => ?_)
  refine E.skip ?_
  refine E.seq ?_
  refine E.reg hr (by simp [hm2, hy, hcall]; rfl) ?_
  refine E.seq ?_
  obtain ⟨x, hx⟩ : ∃ x, x = pI y := ⟨_, rfl⟩
  rw [← hx] at hcall ⊢
  obtain ⟨z, b⟩ := x
  refine E.regL hr { fr := [(0, ptr11), (3, iv z), (4, .bool b), (2, iv 0)], sz := 44, H := H186 f a b0 c (nx j m) wr ws, n := 14, marks := [], vs := [] } ?_ ?_
  · by_cases h0 : m = 0
    · subst h0
      refine ⟨_, by simp [opSlice, evI]; rfl, ?_⟩
      exact .less rfl rfl rfl (by simp) (by simp [nx])
    · have h1 : 0 < m := by omega
      refine ⟨_, by simp [opSlice, evI, sliceA, boundA]; rfl, ?_⟩
      exact .less rfl rfl rfl (by simp) (by simp [nx, h0])
  refine E.seq ?_
  cases wr <;> cases b <;>
    (refine E.reg hr (by simp; rfl) ?_
     refine E.seq ?_
     refine E.reg hr (by simp; rfl) ?_
     refine E.ret ?_
     exact ⟨.inr rfl, by simp [leaveF, shutA, resultsA, resultA, Tryz.results186, dropOk]⟩)
end Go.Proofs.YtkongcnmkiihjaaGreatDoor

namespace Go.Proofs.YtkongcnmkiihjaaGreatDoor
open Go Go.Ab Go.Proofs Go.RowKit
attribute [local simp] run_vcall_tmp vcallF target opNilcheck
theorem cut_words (s : List UInt8) : (cutS s).1 = headW s ∧ spl 32 (cutS s).2.1 = restW s := by
  rcases first_cut 32 s with ⟨_, h2⟩ | ⟨a, r, h1, h2, _⟩
  · rw [cutS, (cut_byte 32 s).1 h2, headW, restW, spl_miss h2]
    exact ⟨rfl, rfl⟩
  · rw [cutS, (cut_byte 32 s).2 a r h1 h2, headW, restW, h1, spl_hit h2]
    refine ⟨rfl, ?_⟩
    cases hs : spl 32 r with
    | nil => exact absurd hs (spl_ne 32 r)
    | cons x y => rfl
theorem cut_len (s : List UInt8) : (cutS s).2.1.length ≤ s.length := by
  rcases first_cut 32 s with ⟨_, h2⟩ | ⟨a, r, h1, h2, _⟩
  · rw [cutS, (cut_byte 32 s).1 h2]; simp
  · rw [cutS, (cut_byte 32 s).2 a r h1 h2, h1]; simp; omega
theorem spW_len (c : UInt8) (s : List UInt8) : (spW c s).length ≤ s.length := by
  have h : ∀ (k : Nat) (s : List UInt8), s.length ≤ k → (spW c s).length ≤ s.length := by
    intro k
    induction k with
    | zero =>
      intro s hs
      have : s = [] := List.length_eq_zero_iff.1 (by omega)
      subst this
      exact Nat.le_refl _
    | succ k ih =>
      intro s hs
      rcases first_cut c s with ⟨_, h2⟩ | ⟨a, r, h1, h2, _⟩
      · rw [(sp_miss h2).2]; omega
      · rw [h1, (sp_hit h2).2]
        have hl : s.length = a.length + (r.length + 1) := by rw [h1]; simp
        have := ih r (by omega)
        simp
        omega
  exact h s.length s (Nat.le_refl _)
theorem spl_word_len (c : UInt8) (s : List UInt8) : ∀ w ∈ spl c s, w.length < s.length + 1 := by
  intro w hw
  rcases List.mem_append.1 hw with h | h
  · exact spD_len c s w h
  · rw [List.mem_singleton] at h
    subst h
    have := spW_len c s
    omega
abbrev fnF (k : Nat) : Value := .func (.func k) #[] #[]
abbrev flds : Value := .agg ⟨[fnF 203, fnF 204, fnF 205]⟩
theorem build260a {fr : Fr} {H : Heap} {n : Nat} : opBuild Tryz.prog 260 #[(0, .func 203)] fr H n = some (.agg #[fnF 203], H, n) := by kernel_rfl
theorem build260b {fr : Fr} {H : Heap} {n : Nat} : opBuild Tryz.prog 260 #[(0, .func 204)] fr H n = some (.agg #[fnF 204], H, n) := by kernel_rfl
theorem build260c {fr : Fr} {H : Heap} {n : Nat} : opBuild Tryz.prog 260 #[(0, .func 205)] fr H n = some (.agg #[fnF 205], H, n) := by kernel_rfl
set_option maxRecDepth 100000 in
theorem w187 : AC Tryz.prog 187 [] [] 9 flds [] 9 := by
  have hr := recT_ok (P := Tryz.prog) (l := []) (by simp)
  refine AC.pure Tryz.func187 rfl (by kernel_rfl) rfl [] rfl ?_
  refine E.seq ?_
  refine E.reg hr (by simp; rfl) ?_
  refine E.seq ?_
  refine E.reg hr (by simp [build260a, build260b, build260c]; rfl) ?_
  refine E.ret ?_
  exact pureK.ret rfl rfl (by kernel_rfl) (by repeat first | exact sub_refl _ | refine sub_cons rfl ?_)
def g187 (args : List Value) (H : Heap) (n : Nat) : R := match args with
  | [] => some (flds, H, n)
  | _ => none
theorem ok187 : EntOk Tryz.prog (187, g187) := by
  intro args H n v H' n' hh
  simp only [g187] at hh
  split at hh
  · injection hh with hh; injection hh with e1 e2; injection e2 with e2 e3; subst e1 e2 e3
    exact AC.liftP rfl (Part.plain (by simp) [] (by simp [Seen]) gsz ⟨_, _, w187⟩)
  · cases hh
abbrev ptr12 : Value := .pointer (some ⟨12, 0, none⟩)
theorem w203 (f : Value) (a b c x : Int) (sl : Value) (wr : Bool) (ws : List (List UInt8)) : AC Tryz.prog 203 [ptr12, iv x] (H186 f a b c sl wr ws) 14 (.tuple #[]) (H186 f x b c sl wr ws) 14 := by
  have hr := recT_ok (P := Tryz.prog) (l := []) (by simp)
  refine AC.body Tryz.func203 rfl (by kernel_rfl) rfl [] ?_
  refine E.reg hr (by simp; rfl) ?_
  exact ⟨.inl rfl, by simp [leaveF, shutA, resultsA, Tryz.results203, dropOk]⟩
theorem w204 (f : Value) (a b c x : Int) (sl : Value) (wr : Bool) (ws : List (List UInt8)) : AC Tryz.prog 204 [ptr12, iv x] (H186 f a b c sl wr ws) 14 (.tuple #[]) (H186 f a x c sl wr ws) 14 := by
  have hr := recT_ok (P := Tryz.prog) (l := []) (by simp)
  refine AC.body Tryz.func204 rfl (by kernel_rfl) rfl [] ?_
  refine E.reg hr (by simp; rfl) ?_
  exact ⟨.inl rfl, by simp [leaveF, shutA, resultsA, Tryz.results204, dropOk]⟩
theorem w205 (f : Value) (a b c x : Int) (sl : Value) (wr : Bool) (ws : List (List UInt8)) : AC Tryz.prog 205 [ptr12, iv x] (H186 f a b c sl wr ws) 14 (.tuple #[]) (H186 f a b x sl wr ws) 14 := by
  have hr := recT_ok (P := Tryz.prog) (l := []) (by simp)
  refine AC.body Tryz.func205 rfl (by kernel_rfl) rfl [] ?_
  refine E.reg hr (by simp; rfl) ?_
  exact ⟨.inl rfl, by simp [leaveF, shutA, resultsA, Tryz.results205, dropOk]⟩
end Go.Proofs.YtkongcnmkiihjaaGreatDoor

namespace Go.Proofs.YtkongcnmkiihjaaGreatDoor
open Go Go.Ab Go.Proofs Go.RowKit
attribute [local simp] run_vcall_tmp vcallF target opNilcheck
abbrev fn186 : Value := .func (.func 186) #[ptr11] #[]
abbrev H157 (a b c : Int) (sl : Value) (wr : Bool) (ws : List (List UInt8)) : Heap := [(12, .cells [iv a, iv b, iv c] 160), (11, .cells [sl, .bool wr] 256), (10, .cells (sls ws) 9), (9, .cells [iv 0, iv 0, iv 0] 160)]
abbrev S157 (j : Int) (a b c : Int) (sl : Value) (wr : Bool) (ws : List (List UInt8)) : St := { fr := [(2, .pointer (some ⟨9, 0, none⟩)), (3, .bool false), (7, ptr11), (8, fn186), (9, ptr12), (28, flds), (29, iv j)], sz := 53, H := H157 a b c sl wr ws, n := 13, marks := [], vs := [2, 3, 7, 8, 9, 28, 29] }
theorem call_of {f : FuncId} {args : List Value} {H H' : Heap} {n n' : Nat} {v : Value} (h : AC Tryz.prog f args H n v H' n') : ∃ q : Rec, RecOk Tryz.prog q 0 ∧ q.call f args H n = some (v, H', n') :=
  ⟨recV Tryz.prog (fun _ _ _ => none) (fun _ _ _ _ => some (v, H', n')), recV_ok, recV_call rfl h⟩
@[simp] theorem inf260 : Tryz.prog.info? 260 = some Tryz.t260 := by kernel_rfl
@[simp] theorem inf256 : Tryz.prog.info? 256 = some Tryz.t256 := by kernel_rfl
attribute [local simp] Tryz.t260 Tryz.t256
theorem build256 {fr : Fr} {H : Heap} {n b k : Nat} {x : Operand} (hx : evO Tryz.prog fr x = some (.slice (some ⟨b, 0, none⟩) k k)) : opBuild Tryz.prog 256 #[(0, x)] fr H n = some (.agg #[.slice (some ⟨b, 0, none⟩) k k, .bool false], H, n) := by
  unfold opBuild
  simp only [evPs, hx]
  kernel_rfl
theorem build160z {fr : Fr} {H : Heap} {n : Nat} : opBuild Tryz.prog 160 #[] fr H n = some (.agg #[iv 0, iv 0, iv 0], H, n) := by kernel_rfl
set_option maxHeartbeats 16000000 in
set_option maxRecDepth 100000 in
theorem w157 (s : List UInt8) (hl : s.length < 2147483648) : AC Tryz.prog 157 [sL s] [] 9 (tupP (prsV s)) [] 9 := by
  have hr := recT_ok (P := Tryz.prog) (l := [(184, gCt), (185, g185), (187, g187)]) (by simp only [List.forall_mem_cons]; exact ⟨ok184, ok185, ok187, by simp⟩)
  obtain ⟨hcw, hcr⟩ := cut_words s
  have hcl := cut_len s
  have hct : ∀ H n, gCt [sL s, sL [32]] H n = some (tupC (cutS s), H, n) := fun H n => gCt_eq (by omega)
  obtain ⟨x, hx⟩ : ∃ x, x = cutS s := ⟨_, rfl⟩
  rw [← hx] at hcw hcr hcl hct
  obtain ⟨wd, rs, fd⟩ := x
  dsimp only at hcw hcr hcl
  refine AC.pure Tryz.func157 rfl (by kernel_rfl) rfl [2, 3, 7, 8, 9, 28, 29] rfl ?_
  refine E.seq ?_
  refine E.reg hr (by simp; rfl) ?_
  refine E.seq ?_
  refine E.reg hr (by simp [hct]; rfl) ?_
  refine E.seq ?_
  refine E.seq ?_
  by_cases hp : wd = pickB
  rotate_left
  · have hv : prsV s = (⟨0, 0, 0⟩, false) := by unfold prsV; rw [← hcw, if_neg hp]
    refine E.reg hr (by simp [hp]; rfl) ?_
    refine E.cond (t := true) (by rfl) (fun _ => ?_) (fun h => by cases h)
    refine E.seq ?_
    refine E.reg hr (by simp [build160z]; rfl) ?_
    refine E.ret ?_
    exact pureK.ret rfl rfl (by simp [hv]; kernel_rfl) (by repeat first | exact sub_refl _ | refine sub_cons rfl ?_)
  have hv : prsV s = (⟨(numA pI (restW s) 0).1, (numA pI (restW s) 1).1, (numA pI (restW s) 2).1⟩, (numA pI (restW s) 0).2 && (numA pI (restW s) 1).2 && (numA pI (restW s) 2).2 && decide ((restW s).length ≤ 3)) := by unfold prsV; rw [← hcw, if_pos hp]
  rw [← hcr] at hv
  subst hp
  refine E.reg hr (by simp; rfl) ?_
  refine E.cond (t := false) (by rfl) (fun h => by cases h) (fun _ => ?_)
  refine E.skip ?_
  refine E.seq ?_
  have hsp : ∀ H n, g185 [sL rs, sL [32]] H n = some (.slice (some ⟨n, 0, none⟩) (spl 32 rs).length (spl 32 rs).length, (n, .cells (sls (spl 32 rs)) 9) :: H, n + 1) := fun H n => g185_eq (by omega)
  have hwl : ∀ w ∈ spl 32 rs, w.length < 2147483648 := fun w hw => by
    have := spl_word_len 32 rs w hw
    omega
  have hkl : (spl 32 rs).length < 2147483650 := by
    have h1 := spF_len 32 rs [] []
    rw [show (spF 32 rs [] []).1 = spD 32 rs from rfl] at h1
    simp [spl] at h1 ⊢
    omega
  have hne := spl_ne 32 rs
  obtain ⟨ws, hws⟩ : ∃ ws, ws = spl 32 rs := ⟨_, rfl⟩
  rw [← hws] at hsp hwl hkl hne hv
  refine E.reg hr (by simp [hsp, build256 (b := 10) (k := ws.length)]; rfl) ?_
  refine E.seq ?_
  refine E.reg hr (by simp [opMakefunc]; rfl) ?_
  refine E.seq ?_
  refine E.reg hr (by simp; rfl) ?_
  refine E.seq ?_
  refine E.seq ?_
  refine E.reg hr (by simp [g187]; rfl) ?_
  refine E.block ?_
  refine E.loop ?_
  refine EL.lead (S157 0 0 0 0 (.slice (some ⟨10, 0, none⟩) ws.length ws.length) false ws) (.less rfl rfl rfl (by simp) (by simp)) ?_
  match ws, hne, hv, hwl, hkl with
  | [w0], _, hv, hwl, hkl =>
    obtain ⟨x0, hx0⟩ : ∃ x, x = pI w0 := ⟨_, rfl⟩
    obtain ⟨z0, b0⟩ := x0
    obtain ⟨v0, hv0⟩ : ∃ v, v = (false || !b0) := ⟨_, rfl⟩
    have a0 : AC Tryz.prog 186 [ptr11] (H186 (fnF 203) 0 0 0 (.slice (some ⟨10, 0, none⟩) (1) (1)) false ([w0])) 14 (iv z0) (H186 (fnF 203) 0 0 0 (.slice (some ⟨10, 0, none⟩) (0) (0)) v0 ([w0])) 14 := by
      have := w186p (fnF 203) 0 0 0 0 (0) false ([w0]) w0 rfl (hwl _ (by simp)) (by omega)
      rw [← hx0, ← hv0] at this
      exact this
    refine EL.step ?_
    refine E.seq ?_
    refine E.reg hr (by simp; rfl) ?_
    refine E.seq ?_
    refine E.cond (t := true) (by rfl) (fun _ => ?_) (fun h => by cases h)
    refine E.skip ?_
    refine E.seq ?_
    refine E.block ?_
    refine E.seq ?_
    refine E.reg hr (by simp [partA]; rfl) ?_
    refine E.seq ?_
    obtain ⟨q0, hq0, hc0⟩ := call_of a0
    refine E.reg hq0 (by simp [hc0]; rfl) ?_
    obtain ⟨p0, hp0, hd0⟩ := call_of (w203 (fnF 203) 0 0 0 z0 (.slice (some ⟨10, 0, none⟩) (0) (0)) v0 ([w0]))
    refine E.reg hp0 (by simp [hd0]; rfl) ?_
    refine E.reg hr (by simp [show IntKind.i64.wrap 1 = 1 from W_in (by omega) (by omega)]; rfl) ?_
    refine EL.lead (S157 1 z0 0 0 (.slice (some ⟨10, 0, none⟩) (0) (0)) v0 ([w0])) (Leads.ren [9, 10, 11, 12] rfl rfl rfl ⟨rfl, rfl⟩ (by simp) (by simp)) ?_
    have a1 := w186m (fnF 204) z0 0 0 0 v0 ([w0])
    refine EL.step ?_
    refine E.seq ?_
    refine E.reg hr (by simp; rfl) ?_
    refine E.seq ?_
    refine E.cond (t := true) (by rfl) (fun _ => ?_) (fun h => by cases h)
    refine E.skip ?_
    refine E.seq ?_
    refine E.block ?_
    refine E.seq ?_
    refine E.reg hr (by simp [partA]; rfl) ?_
    refine E.seq ?_
    obtain ⟨q1, hq1, hc1⟩ := call_of a1
    refine E.reg hq1 (by simp [hc1]; rfl) ?_
    obtain ⟨p1, hp1, hd1⟩ := call_of (w204 (fnF 204) z0 0 0 0 (.slice (some ⟨10, 0, none⟩) (0) (0)) true ([w0]))
    refine E.reg hp1 (by simp [hd1]; rfl) ?_
    refine E.reg hr (by simp [show IntKind.i64.wrap 2 = 2 from W_in (by omega) (by omega)]; rfl) ?_
    refine EL.lead (S157 2 z0 0 0 (.slice (some ⟨10, 0, none⟩) (0) (0)) true ([w0])) (Leads.ren [9, 10, 11, 12] rfl rfl rfl ⟨rfl, rfl⟩ (by simp) (by simp)) ?_
    have a2 := w186m (fnF 205) z0 0 0 0 true ([w0])
    refine EL.step ?_
    refine E.seq ?_
    refine E.reg hr (by simp; rfl) ?_
    refine E.seq ?_
    refine E.cond (t := true) (by rfl) (fun _ => ?_) (fun h => by cases h)
    refine E.skip ?_
    refine E.seq ?_
    refine E.block ?_
    refine E.seq ?_
    refine E.reg hr (by simp [partA]; rfl) ?_
    refine E.seq ?_
    obtain ⟨q2, hq2, hc2⟩ := call_of a2
    refine E.reg hq2 (by simp [hc2]; rfl) ?_
    obtain ⟨p2, hp2, hd2⟩ := call_of (w205 (fnF 205) z0 0 0 0 (.slice (some ⟨10, 0, none⟩) (0) (0)) true ([w0]))
    refine E.reg hp2 (by simp [hd2]; rfl) ?_
    refine E.reg hr (by simp [show IntKind.i64.wrap 3 = 3 from W_in (by omega) (by omega)]; rfl) ?_
    refine EL.lead (S157 3 z0 0 0 (.slice (some ⟨10, 0, none⟩) (0) (0)) true ([w0])) (Leads.ren [9, 10, 11, 12] rfl rfl rfl ⟨rfl, rfl⟩ (by simp) (by simp)) ?_
    refine EL.step ?_
    refine E.seq ?_
    refine E.reg hr (by simp; rfl) ?_
    refine E.seq ?_
    refine E.cond (t := false) (by rfl) (fun h => by cases h) (fun _ => ?_)
    refine E.exit ?_
    refine E.seq ?_
    simp only [numA, List.getElem?_cons_zero, List.getElem?_cons_succ, List.getElem?_nil, List.length_cons, List.length_nil, ← hx0] at hv
    (refine E.drawW mixed hr [] [] [0, 4, 10] [7, 8, 9, 10, 11, 12, 13] 14 (by kernel_rfl) (by simp; rfl) ?_
     refine E.ret ?_
     exact pureK.ret rfl rfl (by simp [hv]; try kernel_rfl) (by repeat first | exact sub_refl _ | refine sub_cons rfl ?_))
  | [w0, w1], _, hv, hwl, hkl =>
    obtain ⟨x0, hx0⟩ : ∃ x, x = pI w0 := ⟨_, rfl⟩
    obtain ⟨z0, b0⟩ := x0
    obtain ⟨x1, hx1⟩ : ∃ x, x = pI w1 := ⟨_, rfl⟩
    obtain ⟨z1, b1⟩ := x1
    obtain ⟨v0, hv0⟩ : ∃ v, v = (false || !b0) := ⟨_, rfl⟩
    have a0 : AC Tryz.prog 186 [ptr11] (H186 (fnF 203) 0 0 0 (.slice (some ⟨10, 0, none⟩) (2) (2)) false ([w0, w1])) 14 (iv z0) (H186 (fnF 203) 0 0 0 (.slice (some ⟨10, 1, none⟩) (1) (1)) v0 ([w0, w1])) 14 := by
      have := w186p (fnF 203) 0 0 0 0 (1) false ([w0, w1]) w0 rfl (hwl _ (by simp)) (by omega)
      rw [← hx0, ← hv0] at this
      exact this
    refine EL.step ?_
    refine E.seq ?_
    refine E.reg hr (by simp; rfl) ?_
    refine E.seq ?_
    refine E.cond (t := true) (by rfl) (fun _ => ?_) (fun h => by cases h)
    refine E.skip ?_
    refine E.seq ?_
    refine E.block ?_
    refine E.seq ?_
    refine E.reg hr (by simp [partA]; rfl) ?_
    refine E.seq ?_
    obtain ⟨q0, hq0, hc0⟩ := call_of a0
    refine E.reg hq0 (by simp [hc0]; rfl) ?_
    obtain ⟨p0, hp0, hd0⟩ := call_of (w203 (fnF 203) 0 0 0 z0 (.slice (some ⟨10, 1, none⟩) (1) (1)) v0 ([w0, w1]))
    refine E.reg hp0 (by simp [hd0]; rfl) ?_
    refine E.reg hr (by simp [show IntKind.i64.wrap 1 = 1 from W_in (by omega) (by omega)]; rfl) ?_
    refine EL.lead (S157 1 z0 0 0 (.slice (some ⟨10, 1, none⟩) (1) (1)) v0 ([w0, w1])) (Leads.ren [9, 10, 11, 12] rfl rfl rfl ⟨rfl, rfl⟩ (by simp) (by simp)) ?_
    obtain ⟨v1, hv1⟩ : ∃ v, v = (v0 || !b1) := ⟨_, rfl⟩
    have a1 : AC Tryz.prog 186 [ptr11] (H186 (fnF 204) z0 0 0 (.slice (some ⟨10, 1, none⟩) (1) (1)) v0 ([w0, w1])) 14 (iv z1) (H186 (fnF 204) z0 0 0 (.slice (some ⟨10, 1, none⟩) (0) (0)) v1 ([w0, w1])) 14 := by
      have := w186p (fnF 204) z0 0 0 1 (0) v0 ([w0, w1]) w1 rfl (hwl _ (by simp)) (by omega)
      rw [← hx1, ← hv1] at this
      exact this
    refine EL.step ?_
    refine E.seq ?_
    refine E.reg hr (by simp; rfl) ?_
    refine E.seq ?_
    refine E.cond (t := true) (by rfl) (fun _ => ?_) (fun h => by cases h)
    refine E.skip ?_
    refine E.seq ?_
    refine E.block ?_
    refine E.seq ?_
    refine E.reg hr (by simp [partA]; rfl) ?_
    refine E.seq ?_
    obtain ⟨q1, hq1, hc1⟩ := call_of a1
    refine E.reg hq1 (by simp [hc1]; rfl) ?_
    obtain ⟨p1, hp1, hd1⟩ := call_of (w204 (fnF 204) z0 0 0 z1 (.slice (some ⟨10, 1, none⟩) (0) (0)) v1 ([w0, w1]))
    refine E.reg hp1 (by simp [hd1]; rfl) ?_
    refine E.reg hr (by simp [show IntKind.i64.wrap 2 = 2 from W_in (by omega) (by omega)]; rfl) ?_
    refine EL.lead (S157 2 z0 z1 0 (.slice (some ⟨10, 1, none⟩) (0) (0)) v1 ([w0, w1])) (Leads.ren [9, 10, 11, 12] rfl rfl rfl ⟨rfl, rfl⟩ (by simp) (by simp)) ?_
    have a2 := w186m (fnF 205) z0 z1 0 1 v1 ([w0, w1])
    refine EL.step ?_
    refine E.seq ?_
    refine E.reg hr (by simp; rfl) ?_
    refine E.seq ?_
    refine E.cond (t := true) (by rfl) (fun _ => ?_) (fun h => by cases h)
    refine E.skip ?_
    refine E.seq ?_
    refine E.block ?_
    refine E.seq ?_
    refine E.reg hr (by simp [partA]; rfl) ?_
    refine E.seq ?_
    obtain ⟨q2, hq2, hc2⟩ := call_of a2
    refine E.reg hq2 (by simp [hc2]; rfl) ?_
    obtain ⟨p2, hp2, hd2⟩ := call_of (w205 (fnF 205) z0 z1 0 0 (.slice (some ⟨10, 1, none⟩) (0) (0)) true ([w0, w1]))
    refine E.reg hp2 (by simp [hd2]; rfl) ?_
    refine E.reg hr (by simp [show IntKind.i64.wrap 3 = 3 from W_in (by omega) (by omega)]; rfl) ?_
    refine EL.lead (S157 3 z0 z1 0 (.slice (some ⟨10, 1, none⟩) (0) (0)) true ([w0, w1])) (Leads.ren [9, 10, 11, 12] rfl rfl rfl ⟨rfl, rfl⟩ (by simp) (by simp)) ?_
    refine EL.step ?_
    refine E.seq ?_
    refine E.reg hr (by simp; rfl) ?_
    refine E.seq ?_
    refine E.cond (t := false) (by rfl) (fun h => by cases h) (fun _ => ?_)
    refine E.exit ?_
    refine E.seq ?_
    simp only [numA, List.getElem?_cons_zero, List.getElem?_cons_succ, List.getElem?_nil, List.length_cons, List.length_nil, ← hx0, ← hx1] at hv
    (refine E.drawW mixed hr [] [] [0, 4, 10] [7, 8, 9, 10, 11, 12, 13] 14 (by kernel_rfl) (by simp; rfl) ?_
     refine E.ret ?_
     exact pureK.ret rfl rfl (by simp [hv]; try kernel_rfl) (by repeat first | exact sub_refl _ | refine sub_cons rfl ?_))
  | [w0, w1, w2], _, hv, hwl, hkl =>
    obtain ⟨x0, hx0⟩ : ∃ x, x = pI w0 := ⟨_, rfl⟩
    obtain ⟨z0, b0⟩ := x0
    obtain ⟨x1, hx1⟩ : ∃ x, x = pI w1 := ⟨_, rfl⟩
    obtain ⟨z1, b1⟩ := x1
    obtain ⟨x2, hx2⟩ : ∃ x, x = pI w2 := ⟨_, rfl⟩
    obtain ⟨z2, b2⟩ := x2
    obtain ⟨v0, hv0⟩ : ∃ v, v = (false || !b0) := ⟨_, rfl⟩
    have a0 : AC Tryz.prog 186 [ptr11] (H186 (fnF 203) 0 0 0 (.slice (some ⟨10, 0, none⟩) (3) (3)) false ([w0, w1, w2])) 14 (iv z0) (H186 (fnF 203) 0 0 0 (.slice (some ⟨10, 1, none⟩) (2) (2)) v0 ([w0, w1, w2])) 14 := by
      have := w186p (fnF 203) 0 0 0 0 (2) false ([w0, w1, w2]) w0 rfl (hwl _ (by simp)) (by omega)
      rw [← hx0, ← hv0] at this
      exact this
    refine EL.step ?_
    refine E.seq ?_
    refine E.reg hr (by simp; rfl) ?_
    refine E.seq ?_
    refine E.cond (t := true) (by rfl) (fun _ => ?_) (fun h => by cases h)
    refine E.skip ?_
    refine E.seq ?_
    refine E.block ?_
    refine E.seq ?_
    refine E.reg hr (by simp [partA]; rfl) ?_
    refine E.seq ?_
    obtain ⟨q0, hq0, hc0⟩ := call_of a0
    refine E.reg hq0 (by simp [hc0]; rfl) ?_
    obtain ⟨p0, hp0, hd0⟩ := call_of (w203 (fnF 203) 0 0 0 z0 (.slice (some ⟨10, 1, none⟩) (2) (2)) v0 ([w0, w1, w2]))
    refine E.reg hp0 (by simp [hd0]; rfl) ?_
    refine E.reg hr (by simp [show IntKind.i64.wrap 1 = 1 from W_in (by omega) (by omega)]; rfl) ?_
    refine EL.lead (S157 1 z0 0 0 (.slice (some ⟨10, 1, none⟩) (2) (2)) v0 ([w0, w1, w2])) (Leads.ren [9, 10, 11, 12] rfl rfl rfl ⟨rfl, rfl⟩ (by simp) (by simp)) ?_
    obtain ⟨v1, hv1⟩ : ∃ v, v = (v0 || !b1) := ⟨_, rfl⟩
    have a1 : AC Tryz.prog 186 [ptr11] (H186 (fnF 204) z0 0 0 (.slice (some ⟨10, 1, none⟩) (2) (2)) v0 ([w0, w1, w2])) 14 (iv z1) (H186 (fnF 204) z0 0 0 (.slice (some ⟨10, 2, none⟩) (1) (1)) v1 ([w0, w1, w2])) 14 := by
      have := w186p (fnF 204) z0 0 0 1 (1) v0 ([w0, w1, w2]) w1 rfl (hwl _ (by simp)) (by omega)
      rw [← hx1, ← hv1] at this
      exact this
    refine EL.step ?_
    refine E.seq ?_
    refine E.reg hr (by simp; rfl) ?_
    refine E.seq ?_
    refine E.cond (t := true) (by rfl) (fun _ => ?_) (fun h => by cases h)
    refine E.skip ?_
    refine E.seq ?_
    refine E.block ?_
    refine E.seq ?_
    refine E.reg hr (by simp [partA]; rfl) ?_
    refine E.seq ?_
    obtain ⟨q1, hq1, hc1⟩ := call_of a1
    refine E.reg hq1 (by simp [hc1]; rfl) ?_
    obtain ⟨p1, hp1, hd1⟩ := call_of (w204 (fnF 204) z0 0 0 z1 (.slice (some ⟨10, 2, none⟩) (1) (1)) v1 ([w0, w1, w2]))
    refine E.reg hp1 (by simp [hd1]; rfl) ?_
    refine E.reg hr (by simp [show IntKind.i64.wrap 2 = 2 from W_in (by omega) (by omega)]; rfl) ?_
    refine EL.lead (S157 2 z0 z1 0 (.slice (some ⟨10, 2, none⟩) (1) (1)) v1 ([w0, w1, w2])) (Leads.ren [9, 10, 11, 12] rfl rfl rfl ⟨rfl, rfl⟩ (by simp) (by simp)) ?_
    obtain ⟨v2, hv2⟩ : ∃ v, v = (v1 || !b2) := ⟨_, rfl⟩
    have a2 : AC Tryz.prog 186 [ptr11] (H186 (fnF 205) z0 z1 0 (.slice (some ⟨10, 2, none⟩) (1) (1)) v1 ([w0, w1, w2])) 14 (iv z2) (H186 (fnF 205) z0 z1 0 (.slice (some ⟨10, 2, none⟩) (0) (0)) v2 ([w0, w1, w2])) 14 := by
      have := w186p (fnF 205) z0 z1 0 2 (0) v1 ([w0, w1, w2]) w2 rfl (hwl _ (by simp)) (by omega)
      rw [← hx2, ← hv2] at this
      exact this
    refine EL.step ?_
    refine E.seq ?_
    refine E.reg hr (by simp; rfl) ?_
    refine E.seq ?_
    refine E.cond (t := true) (by rfl) (fun _ => ?_) (fun h => by cases h)
    refine E.skip ?_
    refine E.seq ?_
    refine E.block ?_
    refine E.seq ?_
    refine E.reg hr (by simp [partA]; rfl) ?_
    refine E.seq ?_
    obtain ⟨q2, hq2, hc2⟩ := call_of a2
    refine E.reg hq2 (by simp [hc2]; rfl) ?_
    obtain ⟨p2, hp2, hd2⟩ := call_of (w205 (fnF 205) z0 z1 0 z2 (.slice (some ⟨10, 2, none⟩) (0) (0)) v2 ([w0, w1, w2]))
    refine E.reg hp2 (by simp [hd2]; rfl) ?_
    refine E.reg hr (by simp [show IntKind.i64.wrap 3 = 3 from W_in (by omega) (by omega)]; rfl) ?_
    refine EL.lead (S157 3 z0 z1 z2 (.slice (some ⟨10, 2, none⟩) (0) (0)) v2 ([w0, w1, w2])) (Leads.ren [9, 10, 11, 12] rfl rfl rfl ⟨rfl, rfl⟩ (by simp) (by simp)) ?_
    refine EL.step ?_
    refine E.seq ?_
    refine E.reg hr (by simp; rfl) ?_
    refine E.seq ?_
    refine E.cond (t := false) (by rfl) (fun h => by cases h) (fun _ => ?_)
    refine E.exit ?_
    refine E.seq ?_
    simp only [numA, List.getElem?_cons_zero, List.getElem?_cons_succ, List.length_cons, List.length_nil, ← hx0, ← hx1, ← hx2] at hv
    cases b0 <;> cases b1 <;> cases b2 <;>
      (simp only [Bool.not_true, Bool.not_false, Bool.or_true, Bool.or_false] at hv0
       subst hv0
       simp only [Bool.not_true, Bool.not_false, Bool.or_true, Bool.or_false] at hv1
       subst hv1
       simp only [Bool.not_true, Bool.not_false, Bool.or_true, Bool.or_false] at hv2
       subst hv2
       refine E.drawW mixed hr [] [] [0, 4, 10] [7, 8, 9, 10, 11, 12, 13] 14 (by kernel_rfl) (by simp; rfl) ?_
       refine E.ret ?_
       exact pureK.ret rfl rfl (by simp [hv]; try kernel_rfl) (by repeat first | exact sub_refl _ | refine sub_cons rfl ?_))
  | w0 :: w1 :: w2 :: w3 :: t, _, hv, hwl, hkl =>
    obtain ⟨x0, hx0⟩ : ∃ x, x = pI w0 := ⟨_, rfl⟩
    obtain ⟨z0, b0⟩ := x0
    obtain ⟨x1, hx1⟩ : ∃ x, x = pI w1 := ⟨_, rfl⟩
    obtain ⟨z1, b1⟩ := x1
    obtain ⟨x2, hx2⟩ : ∃ x, x = pI w2 := ⟨_, rfl⟩
    obtain ⟨z2, b2⟩ := x2
    obtain ⟨v0, hv0⟩ : ∃ v, v = (false || !b0) := ⟨_, rfl⟩
    have a0 : AC Tryz.prog 186 [ptr11] (H186 (fnF 203) 0 0 0 (.slice (some ⟨10, 0, none⟩) (t.length + 4) (t.length + 4)) false (w0 :: w1 :: w2 :: w3 :: t)) 14 (iv z0) (H186 (fnF 203) 0 0 0 (.slice (some ⟨10, 1, none⟩) (t.length + 3) (t.length + 3)) v0 (w0 :: w1 :: w2 :: w3 :: t)) 14 := by
      have := w186p (fnF 203) 0 0 0 0 (t.length + 3) false (w0 :: w1 :: w2 :: w3 :: t) w0 rfl (hwl _ (by simp)) (by simp at hkl; omega)
      rw [← hx0, ← hv0] at this
      exact this
    refine EL.step ?_
    refine E.seq ?_
    refine E.reg hr (by simp; rfl) ?_
    refine E.seq ?_
    refine E.cond (t := true) (by rfl) (fun _ => ?_) (fun h => by cases h)
    refine E.skip ?_
    refine E.seq ?_
    refine E.block ?_
    refine E.seq ?_
    refine E.reg hr (by simp [partA]; rfl) ?_
    refine E.seq ?_
    obtain ⟨q0, hq0, hc0⟩ := call_of a0
    refine E.reg hq0 (by simp [hc0]; rfl) ?_
    obtain ⟨p0, hp0, hd0⟩ := call_of (w203 (fnF 203) 0 0 0 z0 (.slice (some ⟨10, 1, none⟩) (t.length + 3) (t.length + 3)) v0 (w0 :: w1 :: w2 :: w3 :: t))
    refine E.reg hp0 (by simp [hd0]; rfl) ?_
    refine E.reg hr (by simp [show IntKind.i64.wrap 1 = 1 from W_in (by omega) (by omega)]; rfl) ?_
    refine EL.lead (S157 1 z0 0 0 (.slice (some ⟨10, 1, none⟩) (t.length + 3) (t.length + 3)) v0 (w0 :: w1 :: w2 :: w3 :: t)) (Leads.ren [9, 10, 11, 12] rfl rfl rfl ⟨rfl, rfl⟩ (by simp) (by simp)) ?_
    obtain ⟨v1, hv1⟩ : ∃ v, v = (v0 || !b1) := ⟨_, rfl⟩
    have a1 : AC Tryz.prog 186 [ptr11] (H186 (fnF 204) z0 0 0 (.slice (some ⟨10, 1, none⟩) (t.length + 3) (t.length + 3)) v0 (w0 :: w1 :: w2 :: w3 :: t)) 14 (iv z1) (H186 (fnF 204) z0 0 0 (.slice (some ⟨10, 2, none⟩) (t.length + 2) (t.length + 2)) v1 (w0 :: w1 :: w2 :: w3 :: t)) 14 := by
      have := w186p (fnF 204) z0 0 0 1 (t.length + 2) v0 (w0 :: w1 :: w2 :: w3 :: t) w1 rfl (hwl _ (by simp)) (by simp at hkl; omega)
      rw [← hx1, ← hv1] at this
      exact this
    refine EL.step ?_
    refine E.seq ?_
    refine E.reg hr (by simp; rfl) ?_
    refine E.seq ?_
    refine E.cond (t := true) (by rfl) (fun _ => ?_) (fun h => by cases h)
    refine E.skip ?_
    refine E.seq ?_
    refine E.block ?_
    refine E.seq ?_
    refine E.reg hr (by simp [partA]; rfl) ?_
    refine E.seq ?_
    obtain ⟨q1, hq1, hc1⟩ := call_of a1
    refine E.reg hq1 (by simp [hc1]; rfl) ?_
    obtain ⟨p1, hp1, hd1⟩ := call_of (w204 (fnF 204) z0 0 0 z1 (.slice (some ⟨10, 2, none⟩) (t.length + 2) (t.length + 2)) v1 (w0 :: w1 :: w2 :: w3 :: t))
    refine E.reg hp1 (by simp [hd1]; rfl) ?_
    refine E.reg hr (by simp [show IntKind.i64.wrap 2 = 2 from W_in (by omega) (by omega)]; rfl) ?_
    refine EL.lead (S157 2 z0 z1 0 (.slice (some ⟨10, 2, none⟩) (t.length + 2) (t.length + 2)) v1 (w0 :: w1 :: w2 :: w3 :: t)) (Leads.ren [9, 10, 11, 12] rfl rfl rfl ⟨rfl, rfl⟩ (by simp) (by simp)) ?_
    obtain ⟨v2, hv2⟩ : ∃ v, v = (v1 || !b2) := ⟨_, rfl⟩
    have a2 : AC Tryz.prog 186 [ptr11] (H186 (fnF 205) z0 z1 0 (.slice (some ⟨10, 2, none⟩) (t.length + 2) (t.length + 2)) v1 (w0 :: w1 :: w2 :: w3 :: t)) 14 (iv z2) (H186 (fnF 205) z0 z1 0 (.slice (some ⟨10, 3, none⟩) (t.length + 1) (t.length + 1)) v2 (w0 :: w1 :: w2 :: w3 :: t)) 14 := by
      have := w186p (fnF 205) z0 z1 0 2 (t.length + 1) v1 (w0 :: w1 :: w2 :: w3 :: t) w2 rfl (hwl _ (by simp)) (by simp at hkl; omega)
      rw [← hx2, ← hv2] at this
      exact this
    refine EL.step ?_
    refine E.seq ?_
    refine E.reg hr (by simp; rfl) ?_
    refine E.seq ?_
    refine E.cond (t := true) (by rfl) (fun _ => ?_) (fun h => by cases h)
    refine E.skip ?_
    refine E.seq ?_
    refine E.block ?_
    refine E.seq ?_
    refine E.reg hr (by simp [partA]; rfl) ?_
    refine E.seq ?_
    obtain ⟨q2, hq2, hc2⟩ := call_of a2
    refine E.reg hq2 (by simp [hc2]; rfl) ?_
    obtain ⟨p2, hp2, hd2⟩ := call_of (w205 (fnF 205) z0 z1 0 z2 (.slice (some ⟨10, 3, none⟩) (t.length + 1) (t.length + 1)) v2 (w0 :: w1 :: w2 :: w3 :: t))
    refine E.reg hp2 (by simp [hd2]; rfl) ?_
    refine E.reg hr (by simp [show IntKind.i64.wrap 3 = 3 from W_in (by omega) (by omega)]; rfl) ?_
    refine EL.lead (S157 3 z0 z1 z2 (.slice (some ⟨10, 3, none⟩) (t.length + 1) (t.length + 1)) v2 (w0 :: w1 :: w2 :: w3 :: t)) (Leads.ren [9, 10, 11, 12] rfl rfl rfl ⟨rfl, rfl⟩ (by simp) (by simp)) ?_
    refine EL.step ?_
    refine E.seq ?_
    refine E.reg hr (by simp; rfl) ?_
    refine E.seq ?_
    refine E.cond (t := false) (by rfl) (fun h => by cases h) (fun _ => ?_)
    refine E.exit ?_
    refine E.seq ?_
    simp only [numA, List.getElem?_cons_zero, List.getElem?_cons_succ, List.length_cons, ← hx0, ← hx1, ← hx2] at hv
    cases b0 <;> cases b1 <;> cases b2 <;>
      (simp only [Bool.not_true, Bool.not_false, Bool.or_true, Bool.or_false] at hv0
       subst hv0
       simp only [Bool.not_true, Bool.not_false, Bool.or_true, Bool.or_false] at hv1
       subst hv1
       simp only [Bool.not_true, Bool.not_false, Bool.or_true, Bool.or_false] at hv2
       subst hv2
       refine E.drawW mixed hr [] [] [0, 4, 10] [7, 8, 9, 10, 11, 12, 13] 14 (by kernel_rfl) (by simp [show ¬ (t.length : Int) + 1 = 0 by omega]; rfl) ?_
       refine E.ret ?_
       exact pureK.ret rfl rfl (by simp [hv]; try kernel_rfl) (by repeat first | exact sub_refl _ | refine sub_cons rfl ?_))
abbrev g157 := gSB fun s => tupP (prsV s)
theorem ok157 : EntOk Tryz.prog (157, g157) := okSB (fun _ => rfl) w157
end Go.Proofs.YtkongcnmkiihjaaGreatDoor

namespace Go.Proofs.YtkongcnmkiihjaaGreatDoor
open Go Go.Ab Go.Proofs Go.RowKit
def csV (s : List UInt8) : List UInt8 × Bool := if s.getLast? = some 10 then (s.dropLast, true) else (s, false)
theorem csV_line (w : List UInt8) : csV (w ++ [10]) = (w, true) := by simp [csV]
theorem csV_rest {w : List UInt8} (h : (10 : UInt8) ∉ w) : csV w = (w, false) := by
  unfold csV
  rw [if_neg]
  intro e
  exact h (List.mem_of_getLast? e)
def g2S (F : List UInt8 → Value) (args : List Value) (H : Heap) (n : Nat) : R := match args with
  | [.string s, .string t] => if t = bA [10] ∧ s.size < 2147483648 then some (F s.data.toList, H, n) else none
  | _ => none
theorem g2S_eq {F : List UInt8 → Value} {s : List UInt8} {H : Heap} {n : Nat} (h : s.length < 2147483648) : g2S F [sL s, sL [10]] H n = some (F s, H, n) := by simp [g2S, ByteArray.size, h]
theorem ok2S {f : FuncId} {F : List UInt8 → Value} (haf : ∀ s, af (F s) = true) (h : ∀ s : List UInt8, s.length < 2147483648 → AC Tryz.prog f [sL s, sL [10]] [] 9 (F s) [] 9) : EntOk Tryz.prog (f, g2S F) := by
  intro args H n v H' n' hh
  simp only [g2S] at hh
  split at hh
  · rename_i s t
    split at hh
    · rename_i ht
      obtain ⟨rfl, hl⟩ := ht
      injection hh with hh; injection hh with e1 e2; injection e2 with e2 e3; subst e1 e2 e3
      have := h s.data.toList (by rw [← Lib.size_eq]; exact hl)
      rw [show sL s.data.toList = .string s from congrArg Value.string (bA_data s)] at this
      exact AC.liftP (haf _) (Part.plain (by simp) [] (by simp [Seen]) gsz ⟨_, _, this⟩)
    · cases hh
  · cases hh
theorem w199 (s : List UInt8) (hl : s.length < 2147483648) : AC Tryz.prog 199 [sL s, sL [10]] [] 9 (.bool (csV s).2) [] 9 := by
  have hr := recT_ok (P := Tryz.prog) (l := []) (by simp)
  refine AC.pure Tryz.func199 rfl (by kernel_rfl) rfl [] rfl ?_
  refine E.seq ?_
  refine E.reg hr (by simp; rfl) ?_
  refine E.seq ?_
  rcases List.eq_nil_or_concat s with rfl | ⟨w, x, rfl⟩
  · refine E.reg hr (by simp; rfl) ?_
    refine E.ret ?_
    exact pureK.ret rfl rfl (by simp [csV]) (by repeat first | exact sub_refl _ | refine sub_cons rfl ?_)
  · rw [List.concat_eq_append] at hl ⊢
    have hll : (w ++ [x]).length = w.length + 1 := by simp
    rw [hll] at hl
    have hwl : IntKind.i64.wrap (w.length : Int) = (w.length : Int) := W_in (by omega) (by omega)
    have hs := slice_lo (s := w ++ [x]) (a := w.length) (by simp)
    rw [show (w ++ [x]).drop w.length = [x] by simp] at hs
    have h1 : (1 : Int) ≤ (w.length : Int) + 1 := by omega
    have hv : (csV (w ++ [x])).2 = decide (x = 10) := by
      unfold csV
      by_cases hx : x = 10
      · subst hx; simp
      · simp [hx]
    refine E.reg hr (by simp [opSlice, evI, hwl, hs, h1]; rfl) ?_
    refine E.ret ?_
    exact pureK.ret rfl rfl (by simp [hv]) (by repeat first | exact sub_refl _ | refine sub_cons rfl ?_)
abbrev tupL (x : List UInt8 × Bool) : Value := .tuple #[sL x.1, .bool x.2]
theorem w183 (s : List UInt8) (hl : s.length < 2147483648) : AC Tryz.prog 183 [sL s, sL [10]] [] 9 (tupL (csV s)) [] 9 := by
  have hr := recT_ok (P := Tryz.prog) (l := [(199, g2S fun s => .bool (csV s).2)]) (by simp only [List.forall_mem_cons]; exact ⟨ok2S (fun _ => rfl) w199, by simp⟩)
  have hc : ∀ H n, g2S (fun s => .bool (csV s).2) [sL s, sL [10]] H n = some (.bool (csV s).2, H, n) := fun H n => g2S_eq hl
  refine AC.pure Tryz.func183 rfl (by kernel_rfl) rfl [] rfl ?_
  refine E.seq ?_
  refine E.reg hr (by simp; rfl) ?_
  refine E.seq ?_
  refine E.seq ?_
  by_cases h : s.getLast? = some 10
  · have hv : csV s = (s.dropLast, true) := by unfold csV; rw [if_pos h]
    have hne : s ≠ [] := fun e => by rw [e] at h; cases h
    have hpos : 0 < s.length := List.length_pos_iff.2 hne
    obtain ⟨k, hk⟩ : ∃ k, s.length = k + 1 := ⟨s.length - 1, by omega⟩
    have hwk : IntKind.i64.wrap (k : Int) = (k : Int) := W_in (by omega) (by omega)
    have hs := slice_hi (s := s) (b := k) (by omega)
    rw [show s.take k = s.dropLast by rw [List.dropLast_eq_take, hk]; rfl] at hs
    refine E.reg hr (by simp [hc, hv]; rfl) ?_
    refine E.cond (t := false) (by rfl) (fun h => by cases h) (fun _ => ?_)
    refine E.skip ?_
    refine E.seq ?_
    refine E.reg hr (by simp [opSlice, evI, hk, hwk, hs]; rfl) ?_
    refine E.ret ?_
    exact pureK.ret rfl rfl (by simp [hv]) (by repeat first | exact sub_refl _ | refine sub_cons rfl ?_)
  · have hv : csV s = (s, false) := by unfold csV; rw [if_neg h]
    refine E.reg hr (by simp [hc, hv]; rfl) ?_
    refine E.cond (t := true) (by rfl) (fun _ => ?_) (fun h => by cases h)
    refine E.seq ?_
    refine E.reg hr (by simp; rfl) ?_
    refine E.ret ?_
    exact pureK.ret rfl rfl (by simp [hv]) (by repeat first | exact sub_refl _ | refine sub_cons rfl ?_)
abbrev g156 := g2S fun s => tupL (csV s)
theorem w156 (s : List UInt8) (hl : s.length < 2147483648) : AC Tryz.prog 156 [sL s, sL [10]] [] 9 (tupL (csV s)) [] 9 := by
  have hr := recT_ok (P := Tryz.prog) (l := [(183, g156)]) (by simp only [List.forall_mem_cons]; exact ⟨ok2S (fun _ => rfl) w183, by simp⟩)
  have hc : ∀ H n, g156 [sL s, sL [10]] H n = some (tupL (csV s), H, n) := fun H n => g2S_eq hl
  refine AC.pure Tryz.func156 rfl (by kernel_rfl) rfl [] rfl ?_
  refine E.seq ?_
  refine E.reg hr (by simp; rfl) ?_
  refine E.seq ?_
  refine E.reg hr (by simp [hc]; rfl) ?_
  refine E.ret ?_
  exact pureK.ret rfl rfl (by simp) (by repeat first | exact sub_refl _ | refine sub_cons rfl ?_)
theorem ok156 : EntOk Tryz.prog (156, g156) := ok2S (fun _ => rfl) w156
theorem w198 (s : List UInt8) (H : Heap) (n : Nat) : AC Tryz.prog 198 [sL s, .int .u8 10] H n (iv (Lib.indexByte s 10)) H n := by
  refine AC.of_calls (by kernel_rfl) rfl fun p φ w hB hsc => ?_
  exact (Tryz.stringslite_IndexByte (bA s) 10 w).mono fun e w' hh => ⟨hh.1, hh.2 ▸ Below.refl _ _⟩
def gIb (args : List Value) (H : Heap) (n : Nat) : R := match args with
  | [.string s, .int .u8 x] => if x = 10 then some (iv (Lib.indexByte s.data.toList 10), H, n) else none
  | _ => none
@[simp] theorem gIb_eq (s : List UInt8) (H : Heap) (n : Nat) : gIb [sL s, .int .u8 10] H n = some (iv (Lib.indexByte s 10), H, n) := by simp [gIb]
theorem ok198 : EntOk Tryz.prog (198, gIb) := by
  intro args H n v H' n' hh
  simp only [gIb] at hh
  split at hh
  · rename_i s x
    split at hh
    · rename_i hx
      subst hx
      injection hh with hh; injection hh with e1 e2; injection e2 with e2 e3; subst e1 e2 e3
      have := w198 s.data.toList H n
      rwa [show sL s.data.toList = .string s from congrArg Value.string (bA_data s)] at this
    · cases hh
  · cases hh
theorem w182 (s : List UInt8) : AC Tryz.prog 182 [sL s, .int .u8 10] [] 9 (iv (Lib.indexByte s 10)) [] 9 := by
  have hr := recT_ok (P := Tryz.prog) (l := [(198, gIb)]) (by simp only [List.forall_mem_cons]; exact ⟨ok198, by simp⟩)
  refine AC.pure Tryz.func182 rfl (by kernel_rfl) rfl [] rfl ?_
  refine E.seq ?_
  refine E.reg hr (by simp; rfl) ?_
  refine E.seq ?_
  refine E.reg hr (by simp; rfl) ?_
  refine E.ret ?_
  exact pureK.ret rfl rfl (by simp) (by repeat first | exact sub_refl _ | refine sub_cons rfl ?_)
theorem ok182 : EntOk Tryz.prog (182, gIb) := by
  intro args H n v H' n' hh
  simp only [gIb] at hh
  split at hh
  · rename_i s x
    split at hh
    · rename_i hx
      subst hx
      injection hh with hh; injection hh with e1 e2; injection e2 with e2 e3; subst e1 e2 e3
      have := w182 s.data.toList
      rw [show sL s.data.toList = .string s from congrArg Value.string (bA_data s)] at this
      exact AC.liftP rfl (Part.plain (by simp) [] (by simp [Seen]) gsz ⟨_, _, this⟩)
    · cases hh
  · cases hh
end Go.Proofs.YtkongcnmkiihjaaGreatDoor
