/-
The law VelocityBack, walked, a way at a time (a theorem for each way through it: its conditions name the way); what was read is printed as it was; a text without its last byte is wrong in its last line.
-/
import Derived.Test.YtkongcnmkiihjaaGreatDoorYr
import Derived.Test.YtkongcnmkiihjaaGreatDoorYn
namespace Go.Proofs.YtkongcnmkiihjaaGreatDoor
open Go Go.Ab Go.Proofs Go.RowKit
theorem parV_cases (s : List UInt8) : (∃ a e, parV s = ⟨[], a, e⟩) ∨ ∃ Q, Q ≠ [] ∧ Q.length ≤ 64 ∧ parV s = ⟨Q, 0, 0⟩ := by
  unfold parV
  split
  · exact .inl ⟨_, _, rfl⟩
  split
  · exact .inl ⟨_, _, rfl⟩
  split
  · exact .inl ⟨_, _, rfl⟩
  split
  · exact .inl ⟨_, _, rfl⟩
  · rename_i he
    have he : pksE (pksD (spD 10 s)) = 0 := by simpa using he
    by_cases hQ : pksD (spD 10 s) = []
    · exact .inl ⟨0, 0, by rw [hQ]⟩
    · exact .inr ⟨_, hQ, (pksE_ok he).2, rfl⟩
end Go.Proofs.YtkongcnmkiihjaaGreatDoor

namespace Go.Proofs.YtkongcnmkiihjaaGreatDoor
open Go Go.Ab Go.Proofs
def unS (c : UInt8) (D : List (List UInt8)) : List UInt8 := D.flatMap fun w => w ++ [c]
theorem spF_join (c : UInt8) : ∀ (s : List UInt8) (d : List (List UInt8)) (w : List UInt8), unS c (spF c s d w).1 ++ (spF c s d w).2 = unS c d ++ w ++ s
  | [], d, w => by simp [spF]
  | x :: s, d, w => by
    unfold spF
    split
    · rename_i h
      subst h
      rw [spF_join x s]
      simp [unS]
    · rw [spF_join c s]
      simp
theorem sp_join (c : UInt8) (s : List UInt8) : unS c (spD c s) ++ spW c s = s := by
  rw [spD, spW, spF_join]; rfl
theorem digB_iff {b : UInt8} : digB b = true ↔ 48 ≤ b.toNat ∧ b.toNat ≤ 57 := by simp [digB]
theorem fold_le : ∀ (s : List UInt8) (m n : Int), 0 ≤ m → m ≤ n → s.all digB = true → m ≤ s.foldl stepD n
  | [], _, _, _, h, _ => h
  | b :: s, m, n, h0, h, hs => by
    simp only [List.all_cons, Bool.and_eq_true] at hs
    have := digB_iff.1 hs.1
    exact fold_le s m _ h0 (by simp only [stepD]; omega) hs.2
theorem val_nonneg {s : List UInt8} (hs : s.all digB = true) : 0 ≤ valD s := fold_le s 0 0 (by omega) (by omega) hs
theorem val_pos {b : UInt8} {s : List UInt8} (hs : (b :: s).all digB = true) (hb : b ≠ 48) : 1 ≤ valD (b :: s) := by
  simp only [List.all_cons, Bool.and_eq_true] at hs
  have h1 := digB_iff.1 hs.1
  have h2 : b.toNat ≠ 48 := fun e => hb (UInt8.toNat_inj.1 e)
  exact fold_le s 1 _ (by omega) (by simp only [stepD]; omega) hs.2
theorem ofNat_dig {b : UInt8} {u : Nat} (h : b.toNat = 48 + u) : UInt8.ofNat (48 + u) = b := by rw [← h]; exact UInt8.ofNat_toNat
theorem dd_val : ∀ (k : Nat) (s : List UInt8), s.length = k → s ≠ [] → s.all digB = true → leadB s = true → Lib.decDigits (valD s).toNat = s := by
  intro k
  induction k with
  | zero => intro s h h2; exact absurd (List.length_eq_zero_iff.1 h) h2
  | succ k ih =>
    intro s hk hne hs hl
    obtain ⟨b, x, rfl⟩ : ∃ b x, s = b ++ [x] := ⟨s.dropLast, s.getLast hne, (List.dropLast_concat_getLast hne).symm⟩
    simp only [List.all_append, List.all_cons, List.all_nil, Bool.and_true, Bool.and_eq_true] at hs
    obtain ⟨hb, hx⟩ := hs
    have hx := digB_iff.1 hx
    have hv : valD (b ++ [x]) = 10 * valD b + ((x.toNat : Int) - 48) := by simp [valD, stepD]
    have h0 := val_nonneg hb
    cases hbe : b with
    | nil =>
      subst hbe
      have hv0 : valD ([] : List UInt8) = 0 := rfl
      rw [hv0] at hv
      have e : (valD ([] ++ [x])).toNat = x.toNat - 48 := by rw [hv]; omega
      rw [e, Lib.decDigits, dif_pos (by omega), ofNat_dig (b := x) (by omega)]
      rfl
    | cons y b' =>
      rw [← hbe]
      have hh : y ≠ 48 := by
        intro e
        subst e
        simp [leadB, hbe] at hl
      have hp : 1 ≤ valD b := by rw [hbe]; exact val_pos (hbe ▸ hb) hh
      have hlb : leadB b = true := by rw [hbe]; simp [leadB, hh]
      have := ih b (by simp at hk; exact hk) (by simp [hbe]) hb hlb
      have e1 : (valD (b ++ [x])).toNat / 10 = (valD b).toNat := by rw [hv]; omega
      have e2 : (valD (b ++ [x])).toNat % 10 = x.toNat - 48 := by rw [hv]; omega
      have e3 : ¬ (valD (b ++ [x])).toNat < 10 := by rw [hv]; omega
      rw [Lib.decDigits, dif_neg e3, e1, e2, this, ofNat_dig (b := x) (by omega)]
theorem rI_back {s : List UInt8} (h : (rI s).2 = true) : dd (rI s).1 = s := by
  unfold rI at h ⊢
  split at h
  · rename_i hc
    rw [if_pos hc]
    simp only [preI, Bool.and_eq_true, Bool.not_eq_true', decide_eq_false_iff_not, decide_eq_true_eq] at hc
    exact dd_val _ s rfl hc.1.1.1 hc.1.2 hc.2
  · cases h
theorem spl_join {c : UInt8} {s : List UInt8} {D : List (List UInt8)} {w : List UInt8} (h : spl c s = D ++ [w]) : s = unS c D ++ w := by
  have h1 := List.append_inj' (h.symm.trans rfl : D ++ [w] = spD c s ++ [spW c s]) rfl
  have h2 := h1.2
  injection h2 with h2
  have := sp_join c s
  rw [← h1.1, ← h2] at this
  exact this.symm
theorem lin_back {s : List UInt8} (h : (linV s).2 = true) : bodyT (linV s).1 = s := by
  unfold linV at h ⊢
  split at h
  · rename_i hc
    rw [if_pos hc]
    obtain ⟨h4, hh⟩ := hc
    obtain ⟨w, a, b, c, hw⟩ : ∃ w a b c, spl 32 s = [w, a, b, c] := by
      match hs : spl 32 s, h4 with
      | [w, a, b, c], _ => exact ⟨w, a, b, c, rfl⟩
    have hwp : w = pickB := by rw [headW, hw] at hh; exact hh
    subst hwp
    simp only [hw, numA, List.getElem?_cons_succ, List.getElem?_cons_zero, Bool.and_eq_true] at h ⊢
    rw [bodyT, rI_back h.1.1, rI_back h.1.2, rI_back h.2, spl_join (D := [pickB, a, b]) (w := c) hw]
    simp [unS]
  · cases h
theorem goodN_le {D : List (List UInt8)} (h : ¬ goodN D < D.length) : ∀ w ∈ D, (linV w).2 = true := by
  unfold goodN at h
  split at h
  · rename_i i hi
    exact absurd (List.findIdx?_eq_some_iff_findIdx_eq.1 hi).1 h
  · rename_i hn
    intro w hw
    simpa using List.findIdx?_eq_none_iff.1 hn w hw
theorem prT_pksD : ∀ {D : List (List UInt8)}, (∀ w ∈ D, (linV w).2 = true) → prT (pksD D) = unS 10 D
  | [], _ => rfl
  | w :: D, h => by
    have h1 := lin_back (h w (List.mem_cons_self ..))
    have h2 := prT_pksD (D := D) fun v hv => h v (List.mem_cons_of_mem _ hv)
    have e : prT (pksD (w :: D)) = bodyT (linV w).1 ++ [10] ++ prT (pksD D) := by simp [prT, pksD, lineT, bodyT]
    rw [e, h1, h2]
    simp [unS]
theorem par_back {s : List UInt8} (h : (parV s).e = 0) : prT (parV s).out = s := by
  unfold parV at h ⊢
  split at h
  · cases h
  split at h
  · cases h
  split at h
  · cases h
  split at h
  · rename_i hc
    exact absurd h hc
  · rename_i h1 h2 h3 h4
    rw [if_neg h1, if_neg h2, if_neg h3, if_neg h4]
    have h3 : spW 10 s = [] := by simpa using h3
    have := sp_join 10 s
    rw [h3, List.append_nil] at this
    exact (prT_pksD (goodN_le h2)).trans this
theorem par_backQ {s : List UInt8} {Q : List Pk} {a : Int} (h : parV s = ⟨Q, a, 0⟩) : prT Q = s := by
  have := par_back (s := s) (by rw [h])
  rwa [h] at this
theorem par_ok {s : List UInt8} {Q : List Pk} {a : Int} (h : parV s = ⟨Q, a, 0⟩) : pksE Q = 0 := by
  unfold parV at h
  split at h
  · injection h with _ _ h; cases h
  split at h
  · injection h with _ _ h; cases h
  split at h
  · injection h with _ _ h; cases h
  split at h
  · rename_i hc
    injection h with _ _ h
    exact absurd h hc
  · rename_i hc
    injection h with h _ _
    rw [← h]
    simpa using hc
theorem sp_prT_app (l : List Pk) {r : List UInt8} (hr : (10 : UInt8) ∉ r) : spD 10 (prT l ++ r) = l.map bodyT ∧ spW 10 (prT l ++ r) = r := by
  induction l with
  | nil => exact sp_miss hr
  | cons p l ih =>
    have e : prT (p :: l) ++ r = bodyT p ++ 10 :: (prT l ++ r) := by simp [prT, lineT, bodyT]
    rw [e, (sp_hit (body_no p)).1, (sp_hit (body_no p)).2, ih.1, ih.2]
    exact ⟨rfl, rfl⟩
theorem prT_cut {l : List Pk} (hl : l ≠ []) : ∃ l' p, l = l' ++ [p] ∧ prT l = prT l' ++ bodyT p ++ [10] := by
  refine ⟨l.dropLast, l.getLast hl, (List.dropLast_concat_getLast hl).symm, ?_⟩
  conv => lhs; rw [← List.dropLast_concat_getLast hl]
  simp [prT, lineT, bodyT]
theorem prT_pos {l : List Pk} (hl : l ≠ []) : 1 ≤ (prT l).length := by
  obtain ⟨l', p, _, e⟩ := prT_cut hl
  rw [e]; simp; omega
theorem par_cut {l : List Pk} (hl : l ≠ []) (h : PksOk l) (hn : l.length ≤ 100) : parV ((prT l).take ((prT l).length - 1)) = ⟨[], (l.length : Int) - 1, 25⟩ := by
  have hlen := prT_len h
  obtain ⟨l', p, e1, e2⟩ := prT_cut hl
  have e3 : (prT l).take ((prT l).length - 1) = prT l' ++ bodyT p := by
    rw [e2, List.length_append, show (prT l' ++ bodyT p).length + [(10 : UInt8)].length - 1 = (prT l' ++ bodyT p).length by simp, List.take_left']
    rfl
  have hle : ((prT l).take ((prT l).length - 1)).length ≤ (prT l).length := by rw [List.length_take]; omega
  obtain ⟨d, w⟩ := sp_prT_app l' (body_no p)
  rw [e3] at hle ⊢
  have hg : goodN (l'.map bodyT) = (l'.map bodyT).length := goodN_all fun w hw => by
    obtain ⟨q, hq, rfl⟩ := List.mem_map.1 hw
    rw [linV_line (h q (by rw [e1]; exact List.mem_append_left _ hq))]
  unfold parV
  rw [if_neg (by omega), d, w, hg, if_neg (by omega), if_pos (by simp [bodyT, pickB])]
  rw [e1]
  simp
end Go.Proofs.YtkongcnmkiihjaaGreatDoor

namespace Go.Proofs.YtkongcnmkiihjaaGreatDoor
open Go Go.Ab Go.Proofs Go.RowKit
theorem par_nil : parV [] = ⟨[], 0, 0⟩ := by simp [parV, spD, spF, spW, goodN, pksD, pksE_nil]
theorem gSp_ne {c : UInt8} {s : List UInt8} {x : Int} {H : Heap} {n : Nat} (hx : x = ((c.toNat : Nat) : Int)) (hl : s.length < 2147483648) (h : spD c s ≠ []) : gSp c [sL s, .int .u8 x] H n = some (.slice (some ⟨n, 0, some 0⟩) ((spD c s).length + 1) 0, (n, .ext (sls (spD c s) ++ [sL (spW c s)]) 9 1) :: H, n + 1) := by
  cases hs : spD c s with
  | nil => exact absurd hs h
  | cons d D => exact gSp_cons hx hl hs
theorem gSp_pr {l : List Pk} {H : Heap} {n : Nat} (hne : l ≠ []) (hl : (prT l).length < 2147483648) : gSp 10 [sL (prT l), .int .u8 10] H n = some (.slice (some ⟨n, 0, some 0⟩) (l.length + 1) 0, (n, .ext (sls (l.map bodyT) ++ [sL []]) 9 1) :: H, n + 1) := by
  have h := gSp_ne (c := 10) (s := prT l) (x := 10) (H := H) (n := n) rfl hl (by rw [(sp_prT l).1]; simpa using hne)
  rw [(sp_prT l).1, (sp_prT l).2] at h
  simpa using h
theorem gSp_e {H : Heap} {n : Nat} : gSp 10 [sL [], .int .u8 10] H n = some (.slice (some ⟨n, 0, none⟩) 1 1, (n, .cells [sL []] 9) :: H, n + 1) :=
  gSp_nil (c := 10) (s := []) (x := 10) rfl (by simp) rfl
theorem alike_xi {H : Heap} {m o c : Nat} {Q : List Pk} {t : TypeId} (h1 : hget H m = some (.ext (pcs Q) t 3)) (h2 : pksAt H ⟨9, o, none⟩ Q.length = some Q) (hl : Q.length < 9223372036854775808) : alikeP H (.slice (some ⟨m, 0, some 0⟩) Q.length 0) (inpP 9 o Q.length c) :=
  .inr (.inr ⟨Q, _, _, _, _, rfl, rfl, pksR_ext h1 hl, h2⟩)
theorem alike_ne {H : Heap} {o c : Nat} (h2 : pksAt H ⟨9, o, none⟩ 0 = some []) : alikeP H (.slice none 0 0) (inpP 9 o 0 c) := .inr (.inl ⟨rfl, _, _, rfl, h2⟩)
noncomputable abbrev lst14 : List Ent := [(15, g15), (44, g44), (46, g46), (83, g83), (84, g84), (50, g50), (87, gSp 10), (80, g80), (79, g79)]
theorem ok14 : RecOk Tryz.prog (recT lst14) 0 := recT_ok (P := Tryz.prog) (l := lst14) (by simp only [List.forall_mem_cons]; exact ⟨ok15, ok44, ok46, ok83, ok84, ok50, okSp 10, ok80, ok79, by simp⟩)
set_option maxHeartbeats 4000000 in
set_option maxRecDepth 100000 in
theorem w14nb (s : List UInt8) (hs : s.length ≤ 200) (a e : Int) (he0 : ¬ e = 0) (hpv : parV s = ⟨[], a, e⟩) : AC Tryz.prog 14 [.slice none 0 0, sL s] GL 9 (.bool true) GL 9 := by
  have hr := ok14
  have hsI : ¬ (200 : Int) < (s.length : Int) := by omega
  have hsl : s.length < 2147483648 := by omega
  have c84 := fun H n => g84_nil (H := H) (n := n) hsl hpv
  have c84e := fun H n => g84_nil (s := []) (H := H) (n := n) (by simp) par_nil
  refine AC.pure Tryz.func14 rfl (by kernel_rfl) rfl [] rfl ?_
  refine E.seq ?_
  refine E.reg hr (by simp; rfl) ?_
  refine E.seq ?_
  refine E.seq ?_
  refine E.reg hr (by simp [g15, g44, g50, pksR, pksE_nil, hsI]; rfl) ?_
  refine E.cond (t := false) (by rfl) (fun h => by cases h) (fun _ => ?_)
  refine E.skip ?_
  refine E.seq ?_
  refine E.reg hr (by simp [g46, g83, pksR]; rfl) ?_
  refine E.seq ?_
  refine E.reg hr (by simp [c84e]; rfl) ?_
  refine E.seq ?_
  refine E.seq ?_
  refine E.reg hr (by simp [g79, g80, pksR, gSp_e, alike_nn]; rfl) ?_
  refine E.cond (t := false) (by rfl) (fun h => by cases h) (fun _ => ?_)
  refine E.skip ?_
  refine E.seq ?_
  refine E.seq ?_
  refine E.reg hr (by simp [c84]; rfl) ?_
  refine E.seq ?_
  refine E.reg hr (by simp [he0]; rfl) ?_
  refine E.cond (t := false) (by rfl) (fun h => by cases h) (fun _ => ?_)
  refine E.skip ?_
  refine E.seq ?_
  refine E.seq ?_
  refine E.reg hr (by simp []; rfl) ?_
  refine E.cond (t := true) (by rfl) (fun _ => ?_) (fun h => by cases h)
  refine E.seq ?_
  refine E.reg hr (by simp []; rfl) ?_
  refine E.ret ?_
  exact pureK.ret rfl rfl (by simp) (by repeat first | exact sub_refl _ | refine sub_cons rfl ?_)
set_option maxHeartbeats 4000000 in
set_option maxRecDepth 100000 in
theorem w14nz : AC Tryz.prog 14 [.slice none 0 0, sL []] GL 9 (.bool true) GL 9 := by
  have hr := ok14
  have c84e := fun H n => g84_nil (s := []) (H := H) (n := n) (by simp) par_nil
  refine AC.pure Tryz.func14 rfl (by kernel_rfl) rfl [] rfl ?_
  refine E.seq ?_
  refine E.reg hr (by simp; rfl) ?_
  refine E.seq ?_
  refine E.seq ?_
  refine E.reg hr (by simp [g15, g44, g50, pksR, pksE_nil]; rfl) ?_
  refine E.cond (t := false) (by rfl) (fun h => by cases h) (fun _ => ?_)
  refine E.skip ?_
  refine E.seq ?_
  refine E.reg hr (by simp [g46, g83, pksR]; rfl) ?_
  refine E.seq ?_
  refine E.reg hr (by simp [c84e]; rfl) ?_
  refine E.seq ?_
  refine E.seq ?_
  refine E.reg hr (by simp [g79, g80, pksR, gSp_e, alike_nn]; rfl) ?_
  refine E.cond (t := false) (by rfl) (fun h => by cases h) (fun _ => ?_)
  refine E.skip ?_
  refine E.seq ?_
  refine E.seq ?_
  refine E.reg hr (by simp [c84e]; rfl) ?_
  refine E.seq ?_
  refine E.reg hr (by simp []; rfl) ?_
  refine E.cond (t := true) (by rfl) (fun _ => ?_) (fun h => by cases h)
  refine E.seq ?_
  refine E.reg hr (by simp [g83]; rfl) ?_
  refine E.seq ?_
  refine E.reg hr (by simp []; rfl) ?_
  refine E.cond (t := false) (by rfl) (fun h => by cases h) (fun _ => ?_)
  refine E.skip ?_
  refine E.seq ?_
  refine E.seq ?_
  refine E.reg hr (by simp []; rfl) ?_
  refine E.cond (t := true) (by rfl) (fun _ => ?_) (fun h => by cases h)
  refine E.seq ?_
  refine E.reg hr (by simp []; rfl) ?_
  refine E.ret ?_
  exact pureK.ret rfl rfl (by simp) (by repeat first | exact sub_refl _ | refine sub_cons rfl ?_)
set_option maxHeartbeats 4000000 in
set_option maxRecDepth 100000 in
theorem w14nx (s : List UInt8) (hs : s.length ≤ 200) (Q : List Pk) (hQ : Q ≠ []) (hQl : Q.length ≤ 64) (hpv : parV s = ⟨Q, 0, 0⟩) : AC Tryz.prog 14 [.slice none 0 0, sL s] GL 9 (.bool true) GL 9 := by
  have hr := ok14
  have hsI : ¬ (200 : Int) < (s.length : Int) := by omega
  have hsl : s.length < 2147483648 := by omega
  have c84e := fun H n => g84_nil (s := []) (H := H) (n := n) (by simp) par_nil
  have c84 := fun H n => g84_cons (H := H) (n := n) hsl hpv hQ
  have hQ9 : Q.length < 9223372036854775808 := by omega
  have hQ4 : Q.length ≤ 4096 := by omega
  have htQ : List.take (Q.length * 3) (pcs Q) = pcs Q := List.take_of_length_le (by simp)
  have heQ : pksE Q = 0 := par_ok hpv
  have hbk : prT Q = s := par_backQ hpv
  refine AC.pure Tryz.func14 rfl (by kernel_rfl) rfl [] rfl ?_
  refine E.seq ?_
  refine E.reg hr (by simp; rfl) ?_
  refine E.seq ?_
  refine E.seq ?_
  refine E.reg hr (by simp [g15, g44, g50, pksR, pksE_nil, hsI]; rfl) ?_
  refine E.cond (t := false) (by rfl) (fun h => by cases h) (fun _ => ?_)
  refine E.skip ?_
  refine E.seq ?_
  refine E.reg hr (by simp [g46, g83, pksR]; rfl) ?_
  refine E.seq ?_
  refine E.reg hr (by simp [c84e]; rfl) ?_
  refine E.seq ?_
  refine E.seq ?_
  refine E.reg hr (by simp [g79, g80, pksR, gSp_e, alike_nn]; rfl) ?_
  refine E.cond (t := false) (by rfl) (fun h => by cases h) (fun _ => ?_)
  refine E.skip ?_
  refine E.seq ?_
  refine E.seq ?_
  refine E.reg hr (by simp [c84]; rfl) ?_
  refine E.seq ?_
  refine E.reg hr (by simp []; rfl) ?_
  refine E.cond (t := true) (by rfl) (fun _ => ?_) (fun h => by cases h)
  refine E.seq ?_
  refine E.reg hr (by simp [g83, pksOf_pcs, hQ9, hQ, pksP, rowPks, rowOf, prV, heQ, hbk]; rfl) ?_
  refine E.seq ?_
  refine E.reg hr (by simp []; rfl) ?_
  refine E.cond (t := false) (by rfl) (fun h => by cases h) (fun _ => ?_)
  refine E.skip ?_
  refine E.seq ?_
  refine E.seq ?_
  refine E.reg hr (by simp []; rfl) ?_
  refine E.cond (t := true) (by rfl) (fun _ => ?_) (fun h => by cases h)
  refine E.seq ?_
  refine E.reg hr (by simp []; rfl) ?_
  refine E.ret ?_
  exact pureK.ret rfl rfl (by simp) (by repeat first | exact sub_refl _ | refine sub_cons rfl ?_)
set_option maxHeartbeats 4000000 in
set_option maxRecDepth 100000 in
theorem w14eb (o c : Nat) (s : List UInt8) (hs : s.length ≤ 200) (a e : Int) (he0 : ¬ e = 0) (hpv : parV s = ⟨[], a, e⟩) : AC Tryz.prog 14 [inpP 9 o 0 c, sL s] ((9, .inp o (pcs [])) :: GL) 10 (.bool true) ((9, .inp o (pcs [])) :: GL) 10 := by
  have hr := ok14
  have hsI : ¬ (200 : Int) < (s.length : Int) := by omega
  have hsl : s.length < 2147483648 := by omega
  have c84 := fun H n => g84_nil (H := H) (n := n) hsl hpv
  have c84e := fun H n => g84_nil (s := []) (H := H) (n := n) (by simp) par_nil
  refine AC.pure Tryz.func14 rfl (by kernel_rfl) rfl [] rfl ?_
  refine E.seq ?_
  refine E.reg hr (by simp; rfl) ?_
  refine E.seq ?_
  refine E.seq ?_
  refine E.reg hr (by simp [g15, g44, g50, flat, pksOf, pcs_nil0, pksR, pksAt, pksE_nil, shortK, hsI]; rfl) ?_
  refine E.cond (t := false) (by rfl) (fun h => by cases h) (fun _ => ?_)
  refine E.skip ?_
  refine E.seq ?_
  refine E.reg hr (by simp [g46, g83, flat, pksOf, pksR, pksAt]; rfl) ?_
  refine E.seq ?_
  refine E.reg hr (by simp [c84e]; rfl) ?_
  refine E.seq ?_
  refine E.seq ?_
  refine E.reg hr (by simp [g79, g80, flat, pksOf, pksR, pksAt, gSp_e, alike_ne]; rfl) ?_
  refine E.cond (t := false) (by rfl) (fun h => by cases h) (fun _ => ?_)
  refine E.skip ?_
  refine E.seq ?_
  refine E.seq ?_
  refine E.reg hr (by simp [c84]; rfl) ?_
  refine E.seq ?_
  refine E.reg hr (by simp [he0]; rfl) ?_
  refine E.cond (t := false) (by rfl) (fun h => by cases h) (fun _ => ?_)
  refine E.skip ?_
  refine E.seq ?_
  refine E.seq ?_
  refine E.reg hr (by simp []; rfl) ?_
  refine E.cond (t := true) (by rfl) (fun _ => ?_) (fun h => by cases h)
  refine E.seq ?_
  refine E.reg hr (by simp []; rfl) ?_
  refine E.ret ?_
  exact pureK.ret rfl rfl (by simp) (by repeat first | exact sub_refl _ | refine sub_cons rfl ?_)
set_option maxHeartbeats 4000000 in
set_option maxRecDepth 100000 in
theorem w14ez (o c : Nat) : AC Tryz.prog 14 [inpP 9 o 0 c, sL []] ((9, .inp o (pcs [])) :: GL) 10 (.bool true) ((9, .inp o (pcs [])) :: GL) 10 := by
  have hr := ok14
  have c84e := fun H n => g84_nil (s := []) (H := H) (n := n) (by simp) par_nil
  refine AC.pure Tryz.func14 rfl (by kernel_rfl) rfl [] rfl ?_
  refine E.seq ?_
  refine E.reg hr (by simp; rfl) ?_
  refine E.seq ?_
  refine E.seq ?_
  refine E.reg hr (by simp [g15, g44, g50, flat, pksOf, pcs_nil0, pksR, pksAt, pksE_nil, shortK]; rfl) ?_
  refine E.cond (t := false) (by rfl) (fun h => by cases h) (fun _ => ?_)
  refine E.skip ?_
  refine E.seq ?_
  refine E.reg hr (by simp [g46, g83, flat, pksOf, pksR, pksAt]; rfl) ?_
  refine E.seq ?_
  refine E.reg hr (by simp [c84e]; rfl) ?_
  refine E.seq ?_
  refine E.seq ?_
  refine E.reg hr (by simp [g79, g80, flat, pksOf, pksR, pksAt, gSp_e, alike_ne]; rfl) ?_
  refine E.cond (t := false) (by rfl) (fun h => by cases h) (fun _ => ?_)
  refine E.skip ?_
  refine E.seq ?_
  refine E.seq ?_
  refine E.reg hr (by simp [c84e]; rfl) ?_
  refine E.seq ?_
  refine E.reg hr (by simp []; rfl) ?_
  refine E.cond (t := true) (by rfl) (fun _ => ?_) (fun h => by cases h)
  refine E.seq ?_
  refine E.reg hr (by simp [g83]; rfl) ?_
  refine E.seq ?_
  refine E.reg hr (by simp []; rfl) ?_
  refine E.cond (t := false) (by rfl) (fun h => by cases h) (fun _ => ?_)
  refine E.skip ?_
  refine E.seq ?_
  refine E.seq ?_
  refine E.reg hr (by simp []; rfl) ?_
  refine E.cond (t := true) (by rfl) (fun _ => ?_) (fun h => by cases h)
  refine E.seq ?_
  refine E.reg hr (by simp []; rfl) ?_
  refine E.ret ?_
  exact pureK.ret rfl rfl (by simp) (by repeat first | exact sub_refl _ | refine sub_cons rfl ?_)
set_option maxHeartbeats 4000000 in
set_option maxRecDepth 100000 in
theorem w14ex (o c : Nat) (s : List UInt8) (hs : s.length ≤ 200) (Q : List Pk) (hQ : Q ≠ []) (hQl : Q.length ≤ 64) (hpv : parV s = ⟨Q, 0, 0⟩) : AC Tryz.prog 14 [inpP 9 o 0 c, sL s] ((9, .inp o (pcs [])) :: GL) 10 (.bool true) ((9, .inp o (pcs [])) :: GL) 10 := by
  have hr := ok14
  have hsI : ¬ (200 : Int) < (s.length : Int) := by omega
  have hsl : s.length < 2147483648 := by omega
  have c84e := fun H n => g84_nil (s := []) (H := H) (n := n) (by simp) par_nil
  have c84 := fun H n => g84_cons (H := H) (n := n) hsl hpv hQ
  have hQ9 : Q.length < 9223372036854775808 := by omega
  have hQ4 : Q.length ≤ 4096 := by omega
  have htQ : List.take (Q.length * 3) (pcs Q) = pcs Q := List.take_of_length_le (by simp)
  have heQ : pksE Q = 0 := par_ok hpv
  have hbk : prT Q = s := par_backQ hpv
  refine AC.pure Tryz.func14 rfl (by kernel_rfl) rfl [] rfl ?_
  refine E.seq ?_
  refine E.reg hr (by simp; rfl) ?_
  refine E.seq ?_
  refine E.seq ?_
  refine E.reg hr (by simp [g15, g44, g50, flat, pksOf, pcs_nil0, pksR, pksAt, pksE_nil, shortK, hsI]; rfl) ?_
  refine E.cond (t := false) (by rfl) (fun h => by cases h) (fun _ => ?_)
  refine E.skip ?_
  refine E.seq ?_
  refine E.reg hr (by simp [g46, g83, flat, pksOf, pksR, pksAt]; rfl) ?_
  refine E.seq ?_
  refine E.reg hr (by simp [c84e]; rfl) ?_
  refine E.seq ?_
  refine E.seq ?_
  refine E.reg hr (by simp [g79, g80, flat, pksOf, pksR, pksAt, gSp_e, alike_ne]; rfl) ?_
  refine E.cond (t := false) (by rfl) (fun h => by cases h) (fun _ => ?_)
  refine E.skip ?_
  refine E.seq ?_
  refine E.seq ?_
  refine E.reg hr (by simp [c84]; rfl) ?_
  refine E.seq ?_
  refine E.reg hr (by simp []; rfl) ?_
  refine E.cond (t := true) (by rfl) (fun _ => ?_) (fun h => by cases h)
  refine E.seq ?_
  refine E.reg hr (by simp [g83, pksOf_pcs, hQ9, hQ, pksP, rowPks, rowOf, prV, heQ, hbk]; rfl) ?_
  refine E.seq ?_
  refine E.reg hr (by simp []; rfl) ?_
  refine E.cond (t := false) (by rfl) (fun h => by cases h) (fun _ => ?_)
  refine E.skip ?_
  refine E.seq ?_
  refine E.seq ?_
  refine E.reg hr (by simp []; rfl) ?_
  refine E.cond (t := true) (by rfl) (fun _ => ?_) (fun h => by cases h)
  refine E.seq ?_
  refine E.reg hr (by simp []; rfl) ?_
  refine E.ret ?_
  exact pureK.ret rfl rfl (by simp) (by repeat first | exact sub_refl _ | refine sub_cons rfl ?_)
set_option maxHeartbeats 4000000 in
set_option maxRecDepth 100000 in
theorem w14pb (l : List Pk) (o c : Nat) (hne : l ≠ []) (hsh : shortK l.length = true) (he : pksE l = 0) (s : List UInt8) (hs : s.length ≤ 200) (a e : Int) (he0 : ¬ e = 0) (hpv : parV s = ⟨[], a, e⟩) : AC Tryz.prog 14 [inpP 9 o l.length c, sL s] ((9, .inp o (pcs l)) :: GL) 10 (.bool true) ((9, .inp o (pcs l)) :: GL) 10 := by
  have hr := ok14
  have hsI : ¬ (200 : Int) < (s.length : Int) := by omega
  have hsl : s.length < 2147483648 := by omega
  have c84 := fun H n => g84_nil (H := H) (n := n) hsl hpv
  obtain ⟨hok, hlen⟩ := pksE_ok he
  have hl' : l.length < 9223372036854775808 := by omega
  have h4 : l.length ≤ 4096 := by omega
  have ht : List.take (l.length * 3) (pcs l) = pcs l := List.take_of_length_le (by simp)
  have hpl := prT_len hok
  have hp1 := prT_pos hne
  have hpm : (prT l).length < 2147483648 := by omega
  have c84t := fun H n => g84_cons (s := prT l) (H := H) (n := n) hpm (par_prT hok he (by omega)) hne
  have c84c := fun H n => g84_nil (s := (prT l).take ((prT l).length - 1)) (H := H) (n := n) (by rw [List.length_take]; omega) (par_cut hne hok (by omega))
  have cSp := fun H n => gSp_pr (H := H) (n := n) hne hpm
  have hW1 : IntKind.i64.wrap ((l.length : Int) + 1) = (l.length : Int) + 1 := W_in (by omega) (by omega)
  have hW2 : IntKind.i64.wrap ((l.length : Int) - 1) = (l.length : Int) - 1 := W_in (by omega) (by omega)
  have hW3 : IntKind.i64.wrap (((prT l).length : Int) - 1) = (((prT l).length - 1 : Nat) : Int) := by rw [W_in (by omega) (by omega)]; omega
  have hcut := slice_hi (s := prT l) (b := (prT l).length - 1) (by omega)
  refine AC.pure Tryz.func14 rfl (by kernel_rfl) rfl [] rfl ?_
  refine E.seq ?_
  refine E.reg hr (by simp; rfl) ?_
  refine E.seq ?_
  refine E.seq ?_
  refine E.reg hr (by simp [g15, g44, g50, flat, ht, pksOf_pcs, hl', pksR, pksAt, he, hsh, hsI]; rfl) ?_
  refine E.cond (t := false) (by rfl) (fun h => by cases h) (fun _ => ?_)
  refine E.skip ?_
  refine E.seq ?_
  refine E.reg hr (by simp [g46, g83, flat, ht, pksOf_pcs, hl', h4, hne, pksR, pksAt, pksP, rowPks, rowOf, prV, he]; rfl) ?_
  refine E.seq ?_
  refine E.reg hr (by simp [c84t]; rfl) ?_
  refine E.seq ?_
  refine E.seq ?_
  refine E.reg hr (by simp [g79, g80, flat, ht, pksOf_pcs, hl', h4, hne, pksR, pksAt, cSp, alike_xi (Q := l) (t := 100), hW1]; rfl) ?_
  refine E.cond (t := false) (by rfl) (fun h => by cases h) (fun _ => ?_)
  refine E.skip ?_
  refine E.seq ?_
  refine E.seq ?_
  refine E.reg hr (by simp [c84]; rfl) ?_
  refine E.seq ?_
  refine E.reg hr (by simp [he0]; rfl) ?_
  refine E.cond (t := false) (by rfl) (fun h => by cases h) (fun _ => ?_)
  refine E.skip ?_
  refine E.seq ?_
  refine E.seq ?_
  refine E.reg hr (by simp [hne]; rfl) ?_
  refine E.cond (t := false) (by rfl) (fun h => by cases h) (fun _ => ?_)
  refine E.skip ?_
  refine E.seq ?_
  refine E.reg hr (by simp [hW3, opSlice, evI, hcut, c84c]; rfl) ?_
  refine E.seq ?_
  refine E.reg hr (by simp [hW2]; rfl) ?_
  refine E.ret ?_
  exact pureK.ret rfl rfl (by simp) (by repeat first | exact sub_refl _ | refine sub_cons rfl ?_)
set_option maxHeartbeats 4000000 in
set_option maxRecDepth 100000 in
theorem w14pz (l : List Pk) (o c : Nat) (hne : l ≠ []) (hsh : shortK l.length = true) (he : pksE l = 0) : AC Tryz.prog 14 [inpP 9 o l.length c, sL []] ((9, .inp o (pcs l)) :: GL) 10 (.bool true) ((9, .inp o (pcs l)) :: GL) 10 := by
  have hr := ok14
  have c84e := fun H n => g84_nil (s := []) (H := H) (n := n) (by simp) par_nil
  obtain ⟨hok, hlen⟩ := pksE_ok he
  have hl' : l.length < 9223372036854775808 := by omega
  have h4 : l.length ≤ 4096 := by omega
  have ht : List.take (l.length * 3) (pcs l) = pcs l := List.take_of_length_le (by simp)
  have hpl := prT_len hok
  have hp1 := prT_pos hne
  have hpm : (prT l).length < 2147483648 := by omega
  have c84t := fun H n => g84_cons (s := prT l) (H := H) (n := n) hpm (par_prT hok he (by omega)) hne
  have c84c := fun H n => g84_nil (s := (prT l).take ((prT l).length - 1)) (H := H) (n := n) (by rw [List.length_take]; omega) (par_cut hne hok (by omega))
  have cSp := fun H n => gSp_pr (H := H) (n := n) hne hpm
  have hW1 : IntKind.i64.wrap ((l.length : Int) + 1) = (l.length : Int) + 1 := W_in (by omega) (by omega)
  have hW2 : IntKind.i64.wrap ((l.length : Int) - 1) = (l.length : Int) - 1 := W_in (by omega) (by omega)
  have hW3 : IntKind.i64.wrap (((prT l).length : Int) - 1) = (((prT l).length - 1 : Nat) : Int) := by rw [W_in (by omega) (by omega)]; omega
  have hcut := slice_hi (s := prT l) (b := (prT l).length - 1) (by omega)
  refine AC.pure Tryz.func14 rfl (by kernel_rfl) rfl [] rfl ?_
  refine E.seq ?_
  refine E.reg hr (by simp; rfl) ?_
  refine E.seq ?_
  refine E.seq ?_
  refine E.reg hr (by simp [g15, g44, g50, flat, ht, pksOf_pcs, hl', pksR, pksAt, he, hsh]; rfl) ?_
  refine E.cond (t := false) (by rfl) (fun h => by cases h) (fun _ => ?_)
  refine E.skip ?_
  refine E.seq ?_
  refine E.reg hr (by simp [g46, g83, flat, ht, pksOf_pcs, hl', h4, hne, pksR, pksAt, pksP, rowPks, rowOf, prV, he]; rfl) ?_
  refine E.seq ?_
  refine E.reg hr (by simp [c84t]; rfl) ?_
  refine E.seq ?_
  refine E.seq ?_
  refine E.reg hr (by simp [g79, g80, flat, ht, pksOf_pcs, hl', h4, hne, pksR, pksAt, cSp, alike_xi (Q := l) (t := 100), hW1]; rfl) ?_
  refine E.cond (t := false) (by rfl) (fun h => by cases h) (fun _ => ?_)
  refine E.skip ?_
  refine E.seq ?_
  refine E.seq ?_
  refine E.reg hr (by simp [c84e]; rfl) ?_
  refine E.seq ?_
  refine E.reg hr (by simp []; rfl) ?_
  refine E.cond (t := true) (by rfl) (fun _ => ?_) (fun h => by cases h)
  refine E.seq ?_
  refine E.reg hr (by simp [g83]; rfl) ?_
  refine E.seq ?_
  refine E.reg hr (by simp []; rfl) ?_
  refine E.cond (t := false) (by rfl) (fun h => by cases h) (fun _ => ?_)
  refine E.skip ?_
  refine E.seq ?_
  refine E.seq ?_
  refine E.reg hr (by simp [hne]; rfl) ?_
  refine E.cond (t := false) (by rfl) (fun h => by cases h) (fun _ => ?_)
  refine E.skip ?_
  refine E.seq ?_
  refine E.reg hr (by simp [hW3, opSlice, evI, hcut, c84c]; rfl) ?_
  refine E.seq ?_
  refine E.reg hr (by simp [hW2]; rfl) ?_
  refine E.ret ?_
  exact pureK.ret rfl rfl (by simp) (by repeat first | exact sub_refl _ | refine sub_cons rfl ?_)
set_option maxHeartbeats 4000000 in
set_option maxRecDepth 100000 in
theorem w14px (l : List Pk) (o c : Nat) (hne : l ≠ []) (hsh : shortK l.length = true) (he : pksE l = 0) (s : List UInt8) (hs : s.length ≤ 200) (Q : List Pk) (hQ : Q ≠ []) (hQl : Q.length ≤ 64) (hpv : parV s = ⟨Q, 0, 0⟩) : AC Tryz.prog 14 [inpP 9 o l.length c, sL s] ((9, .inp o (pcs l)) :: GL) 10 (.bool true) ((9, .inp o (pcs l)) :: GL) 10 := by
  have hr := ok14
  have hsI : ¬ (200 : Int) < (s.length : Int) := by omega
  have hsl : s.length < 2147483648 := by omega
  have c84 := fun H n => g84_cons (H := H) (n := n) hsl hpv hQ
  have hQ9 : Q.length < 9223372036854775808 := by omega
  have hQ4 : Q.length ≤ 4096 := by omega
  have htQ : List.take (Q.length * 3) (pcs Q) = pcs Q := List.take_of_length_le (by simp)
  have heQ : pksE Q = 0 := par_ok hpv
  have hbk : prT Q = s := par_backQ hpv
  obtain ⟨hok, hlen⟩ := pksE_ok he
  have hl' : l.length < 9223372036854775808 := by omega
  have h4 : l.length ≤ 4096 := by omega
  have ht : List.take (l.length * 3) (pcs l) = pcs l := List.take_of_length_le (by simp)
  have hpl := prT_len hok
  have hp1 := prT_pos hne
  have hpm : (prT l).length < 2147483648 := by omega
  have c84t := fun H n => g84_cons (s := prT l) (H := H) (n := n) hpm (par_prT hok he (by omega)) hne
  have c84c := fun H n => g84_nil (s := (prT l).take ((prT l).length - 1)) (H := H) (n := n) (by rw [List.length_take]; omega) (par_cut hne hok (by omega))
  have cSp := fun H n => gSp_pr (H := H) (n := n) hne hpm
  have hW1 : IntKind.i64.wrap ((l.length : Int) + 1) = (l.length : Int) + 1 := W_in (by omega) (by omega)
  have hW2 : IntKind.i64.wrap ((l.length : Int) - 1) = (l.length : Int) - 1 := W_in (by omega) (by omega)
  have hW3 : IntKind.i64.wrap (((prT l).length : Int) - 1) = (((prT l).length - 1 : Nat) : Int) := by rw [W_in (by omega) (by omega)]; omega
  have hcut := slice_hi (s := prT l) (b := (prT l).length - 1) (by omega)
  refine AC.pure Tryz.func14 rfl (by kernel_rfl) rfl [] rfl ?_
  refine E.seq ?_
  refine E.reg hr (by simp; rfl) ?_
  refine E.seq ?_
  refine E.seq ?_
  refine E.reg hr (by simp [g15, g44, g50, flat, ht, pksOf_pcs, hl', pksR, pksAt, he, hsh, hsI]; rfl) ?_
  refine E.cond (t := false) (by rfl) (fun h => by cases h) (fun _ => ?_)
  refine E.skip ?_
  refine E.seq ?_
  refine E.reg hr (by simp [g46, g83, flat, ht, pksOf_pcs, hl', h4, hne, pksR, pksAt, pksP, rowPks, rowOf, prV, he]; rfl) ?_
  refine E.seq ?_
  refine E.reg hr (by simp [c84t]; rfl) ?_
  refine E.seq ?_
  refine E.seq ?_
  refine E.reg hr (by simp [g79, g80, flat, ht, pksOf_pcs, hl', h4, hne, pksR, pksAt, cSp, alike_xi (Q := l) (t := 100), hW1]; rfl) ?_
  refine E.cond (t := false) (by rfl) (fun h => by cases h) (fun _ => ?_)
  refine E.skip ?_
  refine E.seq ?_
  refine E.seq ?_
  refine E.reg hr (by simp [c84]; rfl) ?_
  refine E.seq ?_
  refine E.reg hr (by simp []; rfl) ?_
  refine E.cond (t := true) (by rfl) (fun _ => ?_) (fun h => by cases h)
  refine E.seq ?_
  refine E.reg hr (by simp [g83, pksOf_pcs, hQ9, hQ, pksP, rowPks, rowOf, prV, heQ, hbk]; rfl) ?_
  refine E.seq ?_
  refine E.reg hr (by simp []; rfl) ?_
  refine E.cond (t := false) (by rfl) (fun h => by cases h) (fun _ => ?_)
  refine E.skip ?_
  refine E.seq ?_
  refine E.seq ?_
  refine E.reg hr (by simp [hne]; rfl) ?_
  refine E.cond (t := false) (by rfl) (fun h => by cases h) (fun _ => ?_)
  refine E.skip ?_
  refine E.seq ?_
  refine E.reg hr (by simp [hW3, opSlice, evI, hcut, c84c]; rfl) ?_
  refine E.seq ?_
  refine E.reg hr (by simp [hW2]; rfl) ?_
  refine E.ret ?_
  exact pureK.ret rfl rfl (by simp) (by repeat first | exact sub_refl _ | refine sub_cons rfl ?_)
end Go.Proofs.YtkongcnmkiihjaaGreatDoor
