/-
The plain reckoning behind the law GunTimes, and the law walked, for whatever its two slices read as.
-/
import Derived.Test.YtndlfijfjglkdaaGreatDoorGg
import Derived.Test.YtndlfijfjglkdaaGreatDoorGf
namespace Go.Proofs.YtndlfijfjglkdaaGreatDoor
open Go Go.Ab Go.Proofs
/-! ### no timings, no guns -/
theorem timsV_nil {l : List Gun} (h1 : 1 ≤ l.length) : timsV l [] = (some (List.replicate l.length (-1)), 32) := by
  have : (-1 : Int) ∈ List.replicate l.length (-1 : Int) := by rw [List.mem_replicate]; exact ⟨by omega, rfl⟩
  unfold timsV ticksF
  simp only [this, decide_true, whenV, if_true]
set_option maxRecDepth 100000 in
theorem w137t (l : List Gun) (o c : Nat) (h1 : 1 ≤ l.length) (h8 : l.length ≤ 8) : ∃ u H1 n1 H2, AC Tryz.prog 137 [strV o l.length c, .slice none 0 0] [(10, .inp o (gcs l))] 11 u H1 n1 ∧ tkQ (timsV l []) u H2 ∧ (af u = false → H1 = H2) := by
  have hr := recT_ok (P := Tryz.prog) (l := [(114, g114), (198, g198), (199, g199)]) (by simp only [List.forall_mem_cons]; exact ⟨ok114, ok198, ok199, by simp⟩)
  have hio : intsOf (List.replicate l.length (iv (-1))) = some (List.replicate l.length (-1)) := by
    have := intsOf_iv (List.replicate l.length (-1))
    rwa [List.map_replicate] at this
  have hin : ∀ W : Heap, intsAt ((13, .cells (List.replicate l.length (iv (-1))) 3) :: W) ⟨13, 0, none⟩ l.length = some (List.replicate l.length (-1)) := fun W => by
    unfold intsAt
    simp [hio, show l.length < 2147483648 by omega]
  have hmem : (-1 : Int) ∈ List.replicate l.length (-1 : Int) := by rw [List.mem_replicate]; exact ⟨by omega, rfl⟩
  have h0 : l ≠ [] := fun e => by subst e; simp at h1
  refine AC.out Tryz.func137 rfl (by kernel_rfl) rfl [2, 6, 16, 17, 18] ?_
  refine E.seq ?_
  refine E.reg hr (by simp; rfl) ?_ -- region 0
  refine E.seq ?_
  have hL : (1 : Int) ≤ l.length ∧ (l.length : Int) ≤ 8 := by omega
  refine E.reg hr (by simp [g198, hL, intsAt, intsOf]; rfl) ?_ -- region 1
  refine E.seq ?_
  refine E.seq ?_
  refine E.reg hr (by simp; rfl) ?_ -- region 2
  refine E.block ?_ -- 0
  refine E.loop ?_
  refine EL.step ?_
  refine E.seq ?_
  refine E.reg hr (by simp; rfl) ?_ -- region 3
  refine E.seq ?_
  refine E.cond (by rfl) (fun h => ?_) (fun h => ?_)
  · simp at h
  refine E.exit ?_ -- 0
  refine E.seq ?_
  refine E.reg hr (by simp [g199, g114, hin, hmem, h0, whenV]; rfl) ?_ -- region 13
  refine E.ret ?_
  refine outK.ret rfl rfl ?_
  rw [timsV_nil h1]
  simp [tkQ]
def g137' (args : List Value) (H : Heap) (n : Nat) : R := match args with
  | [.agg ⟨[.slice (some a) len _]⟩, .slice none 0 0] => match gunsAt H a len with
    | some l => if 1 ≤ l.length ∧ l.length ≤ 8 then gTk (timsV l []) H n else none
    | none => none
  | _ => none
theorem ok137' : EntOk Tryz.prog (137, g137') := by
  intro args H n v H' n' h'
  simp only [g137'] at h'
  split at h'
  · rename_i a len c0
    split at h'
    · rename_i l hl
      split at h'
      · rename_i hc
        obtain ⟨hf, hcl, hlen, hlt⟩ := gunsAt_ok hl
        subst hlen
        have hp := fun (R : List Value → Heap → Nat → Prop) (hR : _) => Part.one (P := Tryz.prog) (H := H) (n := n) (R := R) (len := l.length) (cap := c0) (fun s => [.agg ⟨[s]⟩, .slice none 0 0]) (by intro φ φ0 s s0 h; simp [denL, den, h]) (by intro p s h; exact ⟨⟨h, trivial⟩, trivial, trivial⟩) hf hcl (afL_gcs l) [] (by simp [Seen]) gsz hR
        have hw := fun c => w137t l a.off c hc.1 hc.2
        rw [timsV_nil hc.1] at h' hw
        simp only [gTk] at h'
        injection h' with h'; injection h' with e1 e2; injection e2 with e2 e3; subst e1 e2 e3
        refine AC.liftF (vf := fun m => .tuple #[.slice (some ⟨m, 0, none⟩) (List.replicate l.length (-1 : Int)).length (List.replicate l.length (-1 : Int)).length, iv 32]) ⟨fun φ ψ m n h1 h2 => by simp [den, denL, h1], fun p n h => by simp [sc, scL, h]⟩ (.inl ⟨_, _, rfl, afL_iv _⟩) (hp _ fun c => ?_)
        obtain ⟨u, H1, n1, H2, hAC, hq, hh⟩ := hw c
        obtain ⟨m, hu, hm, hle⟩ := hq
        subst hu
        have := hh (by simp)
        subst this
        exact ⟨m, _, _, by omega, hm, hAC⟩
      · cases h'
    · cases h'
  · cases h'
theorem misR_none (ts : List Tim) (lim : Int) : misR [] ts lim = ([], 12) := by simp [misR, strE]
theorem retR_none (ts : List Tim) : retR [] ts = (none, 12) := by simp [retR, strE]
theorem w58n1 (lim : Int) : AC Tryz.prog 58 [nilV, .slice none 0 0, iv lim] [] 10 (.tuple #[.slice none 0 0, iv 12]) [] 10 := by
  have hr := recT_ok (P := Tryz.prog) (l := [(31, g31)]) (by simp only [List.forall_mem_cons]; exact ⟨ok31, by simp⟩)
  refine AC.pure Tryz.func58 rfl (by kernel_rfl) rfl [2, 9, 12, 36, 37, 38] rfl ?_
  refine E.seq ?_
  refine E.reg hr (by simp; rfl) ?_ -- region 0
  refine E.seq ?_
  refine E.seq ?_
  refine E.reg hr (by simp [g31, strE]; rfl) ?_ -- region 1
  refine E.seq ?_
  refine E.reg hr (by simp; rfl) ?_ -- region 2
  refine E.cond (by rfl) (fun h => ?_) (fun h => ?_)
  rotate_left
  · simp at h
  refine E.seq ?_
  refine E.reg hr (by simp; rfl) ?_ -- region 3
  refine E.ret ?_
  exact pureK.ret rfl rfl (by simp) (by repeat first | exact sub_refl _ | refine sub_cons rfl ?_)
set_option maxRecDepth 100000 in
theorem w60n1 : AC Tryz.prog 60 [nilV, .slice none 0 0] [] 10 (.tuple #[nilV, iv 12]) [] 10 := by
  have hr := recT_ok (P := Tryz.prog) (l := [(31, g31)]) (by simp only [List.forall_mem_cons]; exact ⟨ok31, by simp⟩)
  refine AC.pure Tryz.func60 rfl (by kernel_rfl) rfl [4, 7, 10, 43, 44] rfl ?_
  refine E.seq ?_
  refine E.reg hr (by simp; rfl) ?_ -- region 0
  refine E.seq ?_
  refine E.seq ?_
  refine E.reg hr (by simp [g31, strE]; rfl) ?_ -- region 1
  refine E.seq ?_
  refine E.reg hr (by simp; rfl) ?_ -- region 2
  refine E.cond (by rfl) (fun h => ?_) (fun h => ?_)
  rotate_left
  · simp at h
  refine E.seq ?_
  refine E.reg hr (by simp [build32n]; rfl) ?_ -- region 3
  refine E.ret ?_
  exact pureK.ret rfl rfl (by simp; kernel_rfl) (by repeat first | exact sub_refl _ | refine sub_cons rfl ?_)
theorem w58n2 (ts : List Tim) (o c : Nat) (lim : Int) : AC Tryz.prog 58 [nilV, tslV o ts.length c, iv lim] [(10, .inp o (tcs ts))] 11 (.tuple #[.slice none 0 0, iv 12]) [(10, .inp o (tcs ts))] 11 := by
  have hr := recT_ok (P := Tryz.prog) (l := [(31, g31)]) (by simp only [List.forall_mem_cons]; exact ⟨ok31, by simp⟩)
  refine AC.pure Tryz.func58 rfl (by kernel_rfl) rfl [2, 9, 12, 36, 37, 38] rfl ?_
  refine E.seq ?_
  refine E.reg hr (by simp; rfl) ?_ -- region 0
  refine E.seq ?_
  refine E.seq ?_
  refine E.reg hr (by simp [g31, strE]; rfl) ?_ -- region 1
  refine E.seq ?_
  refine E.reg hr (by simp; rfl) ?_ -- region 2
  refine E.cond (by rfl) (fun h => ?_) (fun h => ?_)
  rotate_left
  · simp at h
  refine E.seq ?_
  refine E.reg hr (by simp; rfl) ?_ -- region 3
  refine E.ret ?_
  exact pureK.ret rfl rfl (by simp) (by repeat first | exact sub_refl _ | refine sub_cons rfl ?_)
set_option maxRecDepth 100000 in
theorem w60n2 (ts : List Tim) (o c : Nat) : AC Tryz.prog 60 [nilV, tslV o ts.length c] [(10, .inp o (tcs ts))] 11 (.tuple #[nilV, iv 12]) [(10, .inp o (tcs ts))] 11 := by
  have hr := recT_ok (P := Tryz.prog) (l := [(31, g31)]) (by simp only [List.forall_mem_cons]; exact ⟨ok31, by simp⟩)
  refine AC.pure Tryz.func60 rfl (by kernel_rfl) rfl [4, 7, 10, 43, 44] rfl ?_
  refine E.seq ?_
  refine E.reg hr (by simp; rfl) ?_ -- region 0
  refine E.seq ?_
  refine E.seq ?_
  refine E.reg hr (by simp [g31, strE]; rfl) ?_ -- region 1
  refine E.seq ?_
  refine E.reg hr (by simp; rfl) ?_ -- region 2
  refine E.cond (by rfl) (fun h => ?_) (fun h => ?_)
  rotate_left
  · simp at h
  refine E.seq ?_
  refine E.reg hr (by simp [build32n]; rfl) ?_ -- region 3
  refine E.ret ?_
  exact pureK.ret rfl rfl (by simp; kernel_rfl) (by repeat first | exact sub_refl _ | refine sub_cons rfl ?_)
set_option maxRecDepth 100000 in
theorem w58t (l : List Gun) (lim : Int) (hl : l.length < 2 ^ 63) (h1 : 1 ≤ l.length) : AC Tryz.prog 58 [rowV l.length, .slice none 0 0, iv lim] [(10, .row (gcs l) 7)] 11 (.tuple #[.slice none 0 0, iv (misR l [] lim).2]) [(10, .row (gcs l) 7)] 11 := by
  have hr := recT_ok (P := Tryz.prog) (l := [(31, g31), (137, g137'), (138, g138), (113, g113)]) (by simp only [List.forall_mem_cons]; exact ⟨ok31, ok137', ok138, ok113, by simp⟩)
  refine AC.pure Tryz.func58 rfl (by kernel_rfl) rfl [2, 9, 12, 36, 37, 38] rfl ?_
  refine E.seq ?_
  refine E.reg hr (by simp; rfl) ?_ -- region 0
  refine E.seq ?_
  refine E.seq ?_
  refine E.reg hr (by simp [g31, rowOf, gunsOf_gcs, hl]; rfl) ?_ -- region 1
  refine E.seq ?_
  refine E.reg hr (by simp; rfl) ?_ -- region 2
  refine E.cond (by rfl) (fun h => ?_) (fun h => ?_)
  · simp at h
    refine E.seq ?_
    refine E.reg hr (by simp; rfl) ?_ -- region 3
    refine E.ret ?_
    exact pureK.ret rfl rfl (by simp [misR, h]) (by repeat first | exact sub_refl _ | refine sub_cons rfl ?_)
  · simp at h
    obtain ⟨_, h8⟩ := strE_len h
    have hgat : ∀ G : Heap, hget G 10 = some (.row (gcs l) 7) → gunsAt G ⟨10, 0, some 0⟩ l.length = some l := fun G hG => by
      unfold gunsAt
      simp [hG, List.take_of_length_le, gunsOf_gcs, show l.length < 9223372036854775808 by omega]
    have hf : firstV [32, withinV lim 0 16] = 32 := by simp [firstV]
    have hm : misR l [] lim = ([], 32) := by
      unfold misR
      rw [if_neg (by simp [h]), timsV_nil h1]
      simp [hf]
    refine E.skip ?_
    refine E.seq ?_
    refine E.reg hr (by simp [g137', hgat, h1, h8, timsV_nil h1, gTk]; rfl) ?_ -- region 4
    refine E.seq ?_
    refine E.seq ?_
    refine E.reg hr (by simp [g138, g113, intsAt, intsOf, hf]; rfl) ?_ -- region 5
    refine E.seq ?_
    refine E.reg hr (by simp; rfl) ?_ -- region 6
    refine E.cond (by rfl) (fun h2 => ?_) (fun h2 => ?_)
    · refine E.seq ?_
      refine E.reg hr (by simp; rfl) ?_ -- region 7
      refine E.ret ?_
      exact pureK.ret rfl rfl (by simp [hm]) (by repeat first | exact sub_refl _ | refine sub_cons rfl ?_)
    · simp at h2
set_option maxRecDepth 100000 in
theorem w60t (l : List Gun) (hl : l.length < 2 ^ 63) (h1 : 1 ≤ l.length) : AC Tryz.prog 60 [rowV l.length, .slice none 0 0] [(10, .row (gcs l) 7)] 11 (.tuple #[nilV, iv (retR l []).2]) [(10, .row (gcs l) 7)] 11 := by
  have hr := recT_ok (P := Tryz.prog) (l := [(31, g31), (137, g137'), (139, g139), (113, g113)]) (by simp only [List.forall_mem_cons]; exact ⟨ok31, ok137', ok139, ok113, by simp⟩)
  refine AC.pure Tryz.func60 rfl (by kernel_rfl) rfl [4, 7, 10, 43, 44] rfl ?_
  refine E.seq ?_
  refine E.reg hr (by simp; rfl) ?_ -- region 0
  refine E.seq ?_
  refine E.seq ?_
  refine E.reg hr (by simp [g31, rowOf, gunsOf_gcs, hl]; rfl) ?_ -- region 1
  refine E.seq ?_
  refine E.reg hr (by simp; rfl) ?_ -- region 2
  refine E.cond (by rfl) (fun h => ?_) (fun h => ?_)
  · simp at h
    refine E.seq ?_
    refine E.reg hr (by simp [build32n]; rfl) ?_ -- region 3
    refine E.ret ?_
    exact pureK.ret rfl rfl (by simp [retR, h]; kernel_rfl) (by repeat first | exact sub_refl _ | refine sub_cons rfl ?_)
  · simp at h
    obtain ⟨_, h8⟩ := strE_len h
    have hne : l ≠ [] := fun e => by subst e; simp at h1
    have hgat : ∀ G : Heap, hget G 10 = some (.row (gcs l) 7) → gunsAt G ⟨10, 0, some 0⟩ l.length = some l := fun G hG => by
      unfold gunsAt
      simp [hG, List.take_of_length_le, gunsOf_gcs, show l.length < 9223372036854775808 by omega]
    generalize hR : List.replicate l.length (-1 : Int) = rep
    have hrl : rep.length = l.length := by rw [← hR]; simp
    have htv : timsV l [] = (some rep, 32) := by rw [timsV_nil h1, hR]
    have hrne : rep ≠ [] := fun e => by rw [e] at hrl; simp at hrl; omega
    have h31 : rep.length < 2147483648 := by omega
    have h4 : rep.length ≤ 4096 := by omega
    have hf : ∀ x, firstV [32, x] = 32 := fun x => by simp [firstV]
    have hm : retR l [] = (none, 32) := by
      unfold retR
      rw [if_neg (by simp [h]), htv]
      simp [hf]
    have hin : ∀ G : Heap, hget G 13 = some (.cells (rep.map iv) 3) → intsAt G ⟨13, 0, none⟩ rep.length = some rep := fun G hG => by
      unfold intsAt
      simp [hG, List.take_of_length_le, intsOf_iv, h31]
    have hin2 : ∀ G : Heap, hget G 14 = some (.ext ((wL rep).map iv) 27 1) → intsAt G ⟨14, 0, some 0⟩ rep.length = some (wL rep) := fun G hG => by
      unfold intsAt
      simp [hG, List.take_of_length_le, intsOf_iv, h31]
    refine E.skip ?_
    refine E.seq ?_
    refine E.reg hr (by simp [g137', hgat, h1, h8, htv, gTk]; rfl) ?_ -- region 4
    refine E.seq ?_
    refine E.seq ?_
    have hin3 : ∀ G : Heap, hget G 15 = some (.cells [iv 32, iv (firstV (wL rep))] 27) → intsAt G ⟨15, 0, none⟩ 2 = some [32, firstV (wL rep)] := fun G hG => by
      simp [intsAt, hG, intsOf]
    refine E.reg hr (by simp [g139, g113, hin, hin2, hin3, hrne, h4, hf]; rfl) ?_ -- region 5
    refine E.seq ?_
    refine E.reg hr (by simp; rfl) ?_ -- region 6
    refine E.cond (by rfl) (fun h2 => ?_) (fun h2 => ?_)
    · refine E.seq ?_
      refine E.reg hr (by simp [build32n]; rfl) ?_ -- region 7
      refine E.ret ?_
      exact pureK.ret rfl rfl (by simp [hm]; kernel_rfl) (by repeat first | exact sub_refl _ | refine sub_cons rfl ?_)
    · simp at h2
/-! ### entries: with or without guns, with or without timings -/
def strR (H : Heap) : Value → Option (List Gun)
  | .agg ⟨[.slice none 0 0]⟩ => some []
  | .agg ⟨[.slice (some ⟨b, 0, some 0⟩) len 0]⟩ => match rowGuns H b len with
    | some l => if 1 ≤ l.length then some l else none
    | none => none
  | _ => none
theorem misR_nilts {l : List Gun} (h1 : 1 ≤ l.length) (lim : Int) : (misR l [] lim).1 = [] := by
  unfold misR
  split
  · rfl
  · rw [timsV_nil h1]
    simp [firstV]
theorem retR_nilts {l : List Gun} (h1 : 1 ≤ l.length) : (retR l []).1 = none := by
  unfold retR
  split
  · rfl
  · rw [timsV_nil h1]
    simp [firstV]
def g58' (args : List Value) (H : Heap) (n : Nat) : R := match args with
  | [v, t, .int .i64 lim] => match strR H v, timsW H t with
    | some l, some ts => gMis (misR l ts lim) H n
    | _, _ => none
  | _ => none
theorem ok58' : EntOk Tryz.prog (58, g58') := by
  intro args H n v H' n' h'
  simp only [g58'] at h'
  split at h'
  · rename_i sv tv lim
    split at h'
    · rename_i l ts hs ht
      unfold strR at hs
      split at hs
      · injection hs with hs; subst hs
        rw [misR_none] at h'
        simp only [gMis, if_true] at h'
        injection h' with h'; injection h' with e1 e2; injection e2 with e2 e3; subst e1 e2 e3
        unfold timsW at ht
        split at ht
        · exact AC.liftP (by simp) (Part.plain (by simp) [] (by simp [Seen]) gsz ⟨_, _, w58n1 lim⟩)
        · obtain ⟨hf2, hct, hlen2, hlt2⟩ := timsAt_ok ht
          subst hlen2
          exact AC.liftP (by simp) (Part.one (fun s => [nilV, s, iv lim]) (by intro φ φ0 s s0 h; simp [denL, den, h]) (by intro p s h; exact ⟨⟨trivial, trivial⟩, h, trivial, trivial⟩) hf2 hct (afL_tcs ts) [] (by simp [Seen]) gsz fun c => ⟨_, _, w58n2 ts _ c lim⟩)
        · cases ht
      · rename_i b len
        split at hs
        · rename_i l' hl
          split at hs
          · rename_i h1
            injection hs with hs; subst hs
            unfold timsW at ht
            split at ht
            · injection ht with ht; subst ht
              obtain ⟨hb, hlen, hlt⟩ := rowGuns_ok hl
              subst hlen
              unfold gMis at h'
              rw [if_pos (misR_nilts h1 lim)] at h'
              injection h' with h'; injection h' with e1 e2; injection e2 with e2 e3; subst e1 e2 e3
              exact AC.liftP (by simp) (Part.row (fun x => [.agg ⟨[x]⟩, .slice none 0 0, iv lim]) (by intro φ φ0 s s0 h; simp [denL, den, h]) (by intro p s h; exact ⟨⟨h, trivial⟩, trivial, trivial, trivial⟩) hb (afL_gcs l') gsz ⟨_, _, w58t l' lim hlt h1⟩)
            · refine ok58 _ _ _ _ _ _ ?_
              simp only [g58, hl, ht]
              exact h'
            · cases ht
          · cases hs
        · cases hs
      · cases hs
    · cases h'
  · cases h'
def g60' (args : List Value) (H : Heap) (n : Nat) : R := match args with
  | [v, t] => match strR H v, timsW H t with
    | some l, some ts => gRet (retR l ts) H n
    | _, _ => none
  | _ => none
theorem ok60' : EntOk Tryz.prog (60, g60') := by
  intro args H n v H' n' h'
  simp only [g60'] at h'
  split at h'
  · rename_i sv tv
    split at h'
    · rename_i l ts hs ht
      unfold strR at hs
      split at hs
      · injection hs with hs; subst hs
        rw [retR_none] at h'
        simp only [gRet] at h'
        injection h' with h'; injection h' with e1 e2; injection e2 with e2 e3; subst e1 e2 e3
        unfold timsW at ht
        split at ht
        · exact AC.liftP (by simp) (Part.plain (by simp) [] (by simp [Seen]) gsz ⟨_, _, w60n1⟩)
        · obtain ⟨hf2, hct, hlen2, hlt2⟩ := timsAt_ok ht
          subst hlen2
          exact AC.liftP (by simp) (Part.one (fun s => [nilV, s]) (by intro φ φ0 s s0 h; simp [denL, den, h]) (by intro p s h; exact ⟨⟨trivial, trivial⟩, h, trivial⟩) hf2 hct (afL_tcs ts) [] (by simp [Seen]) gsz fun c => ⟨_, _, w60n2 ts _ c⟩)
        · cases ht
      · rename_i b len
        split at hs
        · rename_i l' hl
          split at hs
          · rename_i h1
            injection hs with hs; subst hs
            unfold timsW at ht
            split at ht
            · injection ht with ht; subst ht
              obtain ⟨hb, hlen, hlt⟩ := rowGuns_ok hl
              subst hlen
              have hn := retR_nilts h1
              rcases hrr : retR l' [] with ⟨_ | k, e⟩
              · rw [hrr] at h'
                simp only [gRet] at h'
                injection h' with h'; injection h' with e1 e2; injection e2 with e2 e3; subst e1 e2 e3
                have hw := w60t l' hlt h1
                rw [hrr] at hw
                exact AC.liftP (by simp) (Part.row (fun x => [.agg ⟨[x]⟩, .slice none 0 0]) (by intro φ φ0 s s0 h; simp [denL, den, h]) (by intro p s h; exact ⟨⟨h, trivial⟩, trivial, trivial⟩) hb (afL_gcs l') gsz ⟨_, _, hw⟩)
              · rw [hrr] at hn
                cases hn
            · refine ok60 _ _ _ _ _ _ ?_
              simp only [g60, hl, ht]
              exact h'
            · cases ht
          · cases hs
        · cases hs
      · cases hs
    · cases h'
  · cases h'
end Go.Proofs.YtndlfijfjglkdaaGreatDoor

namespace Go.Proofs.YtndlfijfjglkdaaGreatDoor
open Go Go.Ab Go.Proofs
/-! ### plain: the program and the reference agree on timings -/
theorem first_bad (f : Nat → Int) : ∀ n, (¬ ∀ k, k < n → f k = 0) → ∃ i, i < n ∧ f i ≠ 0 ∧ ∀ k, k < i → f k = 0
  | 0, h => absurd (fun k hk => absurd hk (by omega)) h
  | n + 1, h => by
    by_cases hn : ∀ k, k < n → f k = 0
    · refine ⟨n, by omega, fun e => h fun k hk => ?_, hn⟩
      rcases Nat.lt_or_ge k n with h1 | h1
      · exact hn k h1
      · obtain rfl : k = n := by omega
        exact e
    · obtain ⟨i, h1, h2, h3⟩ := first_bad f n hn
      exact ⟨i, by omega, h2, h3⟩
theorem atV_name {l : List Gun} {s : ByteArray} {k : Nat} (h : atV l s l.length = k) (hk : k < l.length) : l[k].name = s := by
  unfold atV at h
  split at h
  · rename_i i hi
    have : i = k := by omega
    subst this
    rw [List.take_length] at hi
    obtain ⟨h1, h2, _⟩ := List.findIdx?_eq_some_iff_getElem.1 hi
    simpa using h2
  · omega
theorem tickAt_none {ts : List Tim} {s : ByteArray} (h : hasW s (ts.map (·.gun)) = false) : tickAt ts s = -1 :=
  tickAt_miss fun j hj e => by
    have : hasW s (ts.map (·.gun)) = true := hasW_iff.2 (List.mem_map.2 ⟨ts[j], List.getElem_mem hj, e⟩)
    rw [h] at this
    cases this
theorem tickAt_some {ts : List Tim} {s : ByteArray} (h : hasW s (ts.map (·.gun)) = true) : ∃ t ∈ ts, t.gun = s ∧ tickAt ts s = t.tick := by
  obtain ⟨t, ht, e⟩ := List.mem_map.1 (hasW_iff.1 h)
  unfold tickAt
  split
  · rename_i t' h'
    exact ⟨t', List.mem_of_find?_eq_some h', by simpa using List.find?_some h', rfl⟩
  · rename_i h'
    rw [List.find?_eq_none] at h'
    exact absurd (decide_eq_true e) (h' t ht)
theorem tickAt_snoc (a : List Tim) (t : Tim) (s : ByteArray) : tickAt (a ++ [t]) s = if hasW s (a.map (·.gun)) = true then tickAt a s else if t.gun = s then t.tick else -1 := by
  split
  · rename_i h
    obtain ⟨u, hu, e1, _⟩ := tickAt_some h
    have : (a.find? fun t => decide (t.gun = s)).isSome = true := by
      rw [List.find?_isSome]
      exact ⟨u, hu, decide_eq_true e1⟩
    obtain ⟨v, hv⟩ := Option.isSome_iff_exists.1 this
    unfold tickAt
    rw [List.find?_append, hv]
    rfl
  · rename_i h
    have h : hasW s (a.map (·.gun)) = false := by simpa using h
    have hn : a.find? (fun t => decide (t.gun = s)) = none := by
      rw [List.find?_eq_none]
      intro u hu hd
      have : hasW s (a.map (·.gun)) = true := hasW_iff.2 (List.mem_map.2 ⟨u, hu, of_decide_eq_true hd⟩)
      rw [h] at this
      cases this
    unfold tickAt
    rw [List.find?_append, hn]
    by_cases e : t.gun = s
    · simp [e]
    · simp [e]
def outT (l : List Gun) (ts : List Tim) (j : Nat) : List Int := l.map fun g => tickAt (ts.take j) g.name
@[simp] theorem outT_length (l : List Gun) (ts : List Tim) (j : Nat) : (outT l ts j).length = l.length := by simp [outT]
theorem outT_get {l : List Gun} {ts : List Tim} {j i : Nat} (h : i < (outT l ts j).length) (h2 : i < l.length) : (outT l ts j)[i] = tickAt (ts.take j) l[i].name := by simp [outT]
theorem outT_zero (l : List Gun) (ts : List Tim) : outT l ts 0 = List.replicate l.length (-1) := by
  unfold outT
  refine List.eq_replicate_iff.2 ⟨by simp, fun x hx => ?_⟩
  obtain ⟨g, _, rfl⟩ := List.mem_map.1 hx
  rfl
section
variable {l : List Gun} {ts : List Tim} {j : Nat}
theorem chkT_at (h : j < ts.length) : chkT l ts j = firstV [if atV l ts[j].gun l.length < 0 then 10 else 0, if hasW ts[j].gun ((ts.take j).map (·.gun)) then 9 else 0, withinV ts[j].tick 0 100000] := by
  unfold chkT
  rw [List.getElem?_eq_getElem h]
theorem chkT_zero (h : j < ts.length) (hz : chkT l ts j = 0) : 0 ≤ atV l ts[j].gun l.length ∧ hasW ts[j].gun ((ts.take j).map (·.gun)) = false ∧ 0 ≤ ts[j].tick ∧ ts[j].tick ≤ 100000 := by
  rw [chkT_at h, firstV_zero] at hz
  have h1 := hz (if atV l ts[j].gun l.length < 0 then 10 else 0) (by simp)
  have h2 := hz (if hasW ts[j].gun ((ts.take j).map (·.gun)) then 9 else 0) (by simp)
  have h3 := (withinV_zero _ _ _).1 (hz (withinV ts[j].tick 0 100000) (by simp))
  refine ⟨?_, ?_, h3⟩
  · by_cases h : atV l ts[j].gun l.length < 0
    · rw [if_pos h] at h1; omega
    · omega
  · cases hh : hasW ts[j].gun ((ts.take j).map (·.gun)) with
    | false => rfl
    | true => rw [hh] at h2; simp at h2
theorem ticks_pre (hok : ∀ k, k < j → chkT l ts k = 0) : ∀ t ∈ ts.take j, 0 ≤ t.tick ∧ t.tick ≤ 100000 := by
  intro t ht
  rw [List.mem_take_iff_getElem] at ht
  obtain ⟨i, hi, rfl⟩ := ht
  exact (chkT_zero (by omega) (hok i (by omega))).2.2
theorem tickAt_bounds (hok : ∀ k, k < j → chkT l ts k = 0) (s : ByteArray) : -1 ≤ tickAt (ts.take j) s ∧ tickAt (ts.take j) s ≤ 100000 ∧ (0 ≤ tickAt (ts.take j) s ↔ hasW s ((ts.take j).map (·.gun)) = true) := by
  cases hh : hasW s ((ts.take j).map (·.gun)) with
  | false =>
    rw [tickAt_none hh]
    refine ⟨by omega, by omega, ?_⟩
    simp
  | true =>
    obtain ⟨t, ht, _, e⟩ := tickAt_some hh
    have := ticks_pre hok t ht
    rw [e]
    exact ⟨by omega, this.2, by simp [this.1]⟩
theorem step_err (hok : ∀ k, k < j → chkT l ts k = 0) (h : j < ts.length) : tickE l (outT l ts j) ts[j] = chkT l ts j := by
  rw [chkT_at h]
  unfold tickE
  by_cases hneg : atV l ts[j].gun l.length < 0
  · rw [if_pos hneg, if_pos hneg]; rfl
  · obtain ⟨k, hk, hkl⟩ := atV_lt (Int.not_lt.1 hneg)
    have hn := atV_name hk hkl
    have hb := (tickAt_bounds hok l[k].name).2.2
    rw [if_neg hneg, if_neg hneg, hk]
    have hg : ((outT l ts j)[(k : Int).toNat]?).getD 0 = tickAt (ts.take j) l[k].name := by
      rw [show (k : Int).toNat = k from rfl, List.getElem?_eq_getElem (by simpa using hkl)]
      exact outT_get _ hkl
    rw [hg]
    rw [hn] at hb ⊢
    cases hh : hasW ts[j].gun ((ts.take j).map (·.gun)) with
    | false =>
      have : ¬ 0 ≤ tickAt (ts.take j) ts[j].gun := fun h => by rw [hb.1 h] at hh; cases hh
      simp [whenV, this, firstV]
    | true =>
      have : 0 ≤ tickAt (ts.take j) ts[j].gun := hb.2 hh
      simp [whenV, this, firstV]
theorem step_out (hst : strE l = 0) (h : j < ts.length) (hz : chkT l ts j = 0) : (outT l ts j).set (atV l ts[j].gun l.length).toNat ts[j].tick = outT l ts (j + 1) ∧ ∃ k, k < l.length ∧ (atV l ts[j].gun l.length).toNat = k ∧ (outT l ts j)[k]? = some (-1) := by
  obtain ⟨h1, h2, h3, h4⟩ := chkT_zero h hz
  obtain ⟨k, hk, hkl⟩ := atV_lt h1
  have hn := atV_name hk hkl
  have ht : ts.take (j + 1) = ts.take j ++ [ts[j]] := List.take_succ_eq_append_getElem h
  rw [hk, show (k : Int).toNat = k from rfl]
  refine ⟨?_, k, hkl, rfl, ?_⟩
  · apply List.ext_getElem
    · simp
    · intro q hq1 hq2
      have hql : q < l.length := by simpa using hq2
      rw [List.getElem_set, outT_get _ hql, outT_get _ hql, ht, tickAt_snoc]
      by_cases e : k = q
      · subst e
        rw [if_pos rfl, hn, if_neg (by rw [h2]; exact Bool.false_ne_true), if_pos rfl]
      · rw [if_neg e]
        have hne : ts[j].gun ≠ l[q].name := fun e2 => by
          rw [← hn] at e2
          rcases Nat.lt_or_gt_of_ne e with h5 | h5
          · exact names_apart hst hql h5 e2
          · exact names_apart hst hkl h5 e2.symm
        split
        · rfl
        · rename_i hh
          exact tickAt_none (Bool.eq_false_iff.2 hh)
  · rw [List.getElem?_eq_getElem (by simpa using hkl), outT_get _ hkl, hn, tickAt_none h2]
end
theorem count_drop {x : Int} : ∀ (o : List Int) (k : Nat) (t : Int), o[k]? = some x → t ≠ x → (o.set k t).count x + 1 = o.count x
  | [], k, t, h, _ => by simp at h
  | a :: o, 0, t, h, ht => by
    simp at h
    subst h
    simp [ht]
  | a :: o, k + 1, t, h, ht => by
    have ih := count_drop o k t (by simpa using h) ht
    simp only [List.set_cons_succ, List.count_cons]
    omega
theorem count_out {l : List Gun} {ts : List Tim} (hst : strE l = 0) : ∀ j, j ≤ ts.length → (∀ k, k < j → chkT l ts k = 0) → (outT l ts j).count (-1) + j = l.length
  | 0, _, _ => by rw [outT_zero, List.count_replicate_self]; rfl
  | j + 1, hj, hok => by
    have ih := count_out hst j (by omega) fun k hk => hok k (by omega)
    have hz := hok j (by omega)
    obtain ⟨e1, k, hk, e2, e3⟩ := step_out hst (show j < ts.length by omega) hz
    have h3 := (chkT_zero (show j < ts.length by omega) hz).2.2
    have hc := count_drop (outT l ts j) k ts[j].tick e3 (by omega)
    rw [← e1, e2]
    omega
theorem ticks_all {l : List Gun} {ts : List Tim} (hst : strE l = 0) (hall : ∀ k, k < ts.length → chkT l ts k = 0) : ∀ d j, j + d = ts.length → ticksF l (outT l ts j) (ts.drop j) = (some (outT l ts ts.length), if ts.length < l.length then 32 else 0)
  | 0, j, hj => by
    obtain rfl : j = ts.length := by omega
    have hc := count_out hst ts.length (Nat.le_refl _) hall
    rw [List.drop_length]
    unfold ticksF
    by_cases hm : (-1 : Int) ∈ outT l ts ts.length
    · have := List.count_pos_iff.2 hm
      rw [if_pos (by omega)]
      simp [hm, whenV]
    · have := List.count_eq_zero.2 hm
      rw [if_neg (by omega)]
      simp [hm, whenV]
  | d + 1, j, hj => by
    have hjl : j < ts.length := by omega
    rw [List.drop_eq_getElem_cons hjl]
    unfold ticksF
    have hz := hall j hjl
    rw [step_err (fun k hk => hall k (by omega)) hjl, if_pos hz, (step_out hst hjl hz).1]
    exact ticks_all hst hall d (j + 1) (by omega)
theorem ticks_bad {l : List Gun} {ts : List Tim} (hst : strE l = 0) {i : Nat} (hi : i < ts.length) (hok : ∀ k, k < i → chkT l ts k = 0) (hne : chkT l ts i ≠ 0) : ∀ d j, j + d = i → ticksF l (outT l ts j) (ts.drop j) = (none, chkT l ts i)
  | 0, j, hj => by
    obtain rfl : j = i := by omega
    rw [List.drop_eq_getElem_cons hi]
    unfold ticksF
    rw [step_err hok hi, if_neg hne]
  | d + 1, j, hj => by
    have hjl : j < ts.length := by omega
    rw [List.drop_eq_getElem_cons hjl]
    unfold ticksF
    have hz := hok j (by omega)
    rw [step_err (fun k hk => hok k (by omega)) hjl, if_pos hz, (step_out hst hjl hz).1]
    exact ticks_bad hst hi hok hne d (j + 1) (by omega)
theorem firstV_wL (o : List Int) : firstV (wL o) = if o.all (fun x => decide (wF x = 0)) then 0 else 3 := by
  unfold wL
  induction o with
  | nil => rfl
  | cons x o ih =>
    simp only [List.map_cons, firstV, List.all_cons, ih]
    by_cases h : wF x = 0
    · simp [h]
    · have : wF x = 3 := withinV_ne h
      simp [this]
/-- what the statement about timings needs -/
theorem times_law {l : List Gun} (ts : List Tim) (lim : Int) (hst : strE l = 0) :
    (timE l ts ≠ 0 → misR l ts lim = ([], timE l ts) ∧ retR l ts = (none, timE l ts)) ∧
    (timE l ts = 0 → misR l ts lim = (if withinV lim 0 16 ≠ 0 then ([], withinV lim 0 16) else (missTN l ts lim l.length, 0)) ∧ retR l ts = rtR l ts ∧ ts ≠ []) := by
  have h1 := (strE_len hst).1
  by_cases hall : ∀ k, k < ts.length → chkT l ts k = 0
  · have htE := timE_ok hall
    have htv : timsV l ts = (some (outT l ts ts.length), if ts.length < l.length then 32 else 0) := by
      have := ticks_all hst hall ts.length 0 (by omega)
      rw [outT_zero, List.drop_zero] at this
      exact this
    rw [htE]
    by_cases hlt : ts.length < l.length
    · rw [if_pos hlt] at htv ⊢
      refine ⟨fun _ => ?_, fun h => absurd h (by omega)⟩
      have hf : ∀ x, firstV [32, x] = 32 := fun x => by simp [firstV]
      constructor
      · unfold misR; rw [if_neg (by simp [hst]), htv]; simp [hf]
      · unfold retR; rw [if_neg (by simp [hst]), htv]; simp [hf]
    · rw [if_neg hlt] at htv ⊢
      refine ⟨fun h => absurd rfl h, fun _ => ?_⟩
      have hf : ∀ x, firstV [0, x] = x := fun x => by simp [firstV]; omega
      have htk : ts.take ts.length = ts := List.take_length
      have hbd := fun s => tickAt_bounds hall s
      rw [htk] at hbd
      have hlate : ∀ i, i < l.length → lateV l (outT l ts ts.length) i = lateT l ts i ∧ -100017 ≤ lateT l ts i ∧ lateT l ts i ≤ 100017 := fun i hi => by
        have hd := gun_d hst hi
        have hb := hbd l[i].name
        unfold lateV lateT
        rw [List.getElem?_eq_getElem hi, List.getElem?_eq_getElem (by simpa using hi)]
        simp only
        rw [outT_get _ hi, htk]
        refine ⟨rfl, ?_⟩
        rw [W_in (by omega) (by omega)]
        omega
      have hmiss : ∀ i, i ≤ l.length → missN l (outT l ts ts.length) lim i = missTN l ts lim i := by
        intro i
        induction i with
        | zero => intro _; rfl
        | succ i ih =>
          intro hi
          have hb : missB l (outT l ts ts.length) lim i = missTB l ts lim i := by
            obtain ⟨e1, e2, e3⟩ := hlate i (by omega)
            unfold missB missTB
            rw [e1, W_in (x := -lateT l ts i) (by omega) (by omega), Bool.eq_iff_iff, Bool.or_eq_true, decide_eq_true_iff, decide_eq_true_iff, decide_eq_true_iff]
            omega
          unfold missN missTN
          rw [hb, ih (by omega)]
      refine ⟨?_, ?_, fun e => ?_⟩
      · unfold misR
        rw [if_neg (by simp [hst]), htv]
        simp only [hf]
        rw [hmiss l.length (Nat.le_refl _)]
      · unfold retR rtR
        rw [if_neg (by simp [hst]), htv]
        simp only [hf]
        have hall2 : (outT l ts ts.length).all (fun x => decide (wF x = 0)) = rtB l ts := by
          unfold outT rtB
          rw [htk, List.all_map]
          rfl
        rw [firstV_wL, hall2]
        have hret : retV l (outT l ts ts.length) = l.map (reF ts) := by
          unfold retV
          apply List.ext_getElem
          · simp
          · intro q hq1 hq2
            have hql : q < l.length := by simpa using hq2
            rw [List.getElem_zipWith, List.getElem_map, outT_get _ hql, htk]
            rfl
        cases rtB l ts with
        | true => simp [hret]
        | false => simp
      · subst e
        exact hlt (show 0 < l.length by have := (strE_len hst).1; omega)
  · obtain ⟨i, hi, hne, hok⟩ := first_bad (chkT l ts) ts.length hall
    have htE := timE_hit hi hok hne
    have htv : timsV l ts = (none, chkT l ts i) := by
      have := ticks_bad hst hi hok hne i 0 (by omega)
      rw [outT_zero, List.drop_zero] at this
      exact this
    rw [htE]
    refine ⟨fun _ => ?_, fun h => absurd h hne⟩
    constructor
    · unfold misR; rw [if_neg (by simp [hst]), htv]; simp [firstV, hne]
    · unfold retR; rw [if_neg (by simp [hst]), htv]
end Go.Proofs.YtndlfijfjglkdaaGreatDoor

namespace Go.Proofs.YtndlfijfjglkdaaGreatDoor
open Go Go.Ab Go.Proofs
/-! ### entries by what their arguments read as -/
def g61' (args : List Value) (H : Heap) (n : Nat) : R := match args with
  | [v, t] => match strAt H v, timsW H t with
    | some l, some ts => if 1 ≤ l.length then some (iv (timE l ts), H, n) else none
    | _, _ => none
  | _ => none
theorem ok61' : EntOk Tryz.prog (61, g61') := by
  intro args H n v H' n' h'
  simp only [g61'] at h'
  split at h'
  · split at h'
    · rename_i l ts hs ht
      split at h'
      · rename_i h1
        unfold strAt at hs
        split at hs
        · injection hs with hs; subst hs; simp at h1
        · unfold timsW at ht
          split at ht
          · injection ht with ht; subst ht
            refine ok61 _ _ _ _ _ _ ?_
            simp only [g61, hs, h1, if_true]
            exact h'
          · refine ok61 _ _ _ _ _ _ ?_
            simp only [g61, hs, ht]
            exact h'
          · cases ht
        · cases hs
      · cases h'
    · cases h'
  · cases h'
def g63' (args : List Value) (H : Heap) (n : Nat) : R := match args with
  | [v, t, .int .i64 lim] => match strAt H v, timsW H t with
    | some l, some ts => if 1 ≤ l.length ∧ l.length ≤ 4096 ∧ 1 ≤ ts.length then gWds (missTN l ts lim l.length) H n else none
    | _, _ => none
  | _ => none
theorem ok63' : EntOk Tryz.prog (63, g63') := by
  intro args H n v H' n' h'
  simp only [g63'] at h'
  split at h'
  · split at h'
    · rename_i l ts hs ht
      split at h'
      · rename_i hc
        unfold strAt at hs
        split at hs
        · injection hs with hs; subst hs; simp at hc
        · unfold timsW at ht
          split at ht
          · injection ht with ht; subst ht; simp at hc
          · refine ok63 _ _ _ _ _ _ ?_
            simp only [g63, hs, ht, hc.2.1, if_true]
            exact h'
          · cases ht
        · cases hs
      · cases h'
    · cases h'
  · cases h'
def g64' (args : List Value) (H : Heap) (n : Nat) : R := match args with
  | [v, t] => match strAt H v, timsW H t with
    | some l, some ts => if 1 ≤ l.length ∧ l.length ≤ 4096 ∧ 1 ≤ ts.length then gRt (rtR l ts) H n else none
    | _, _ => none
  | _ => none
theorem ok64' : EntOk Tryz.prog (64, g64') := by
  intro args H n v H' n' h'
  simp only [g64'] at h'
  split at h'
  · split at h'
    · rename_i l ts hs ht
      split at h'
      · rename_i hc
        have hne : l ≠ [] := fun e => by subst e; simp at hc
        unfold strAt at hs
        split at hs
        · injection hs with hs; exact absurd hs.symm hne
        · unfold timsW at ht
          split at ht
          · injection ht with ht; subst ht; simp at hc
          · refine ok64 _ _ _ _ _ _ ?_
            simp only [g64, hs, ht, if_pos (And.intro hne hc.2.1)]
            exact h'
          · cases ht
        · cases hs
      · cases h'
    · cases h'
  · cases h'
theorem timsW_none (H : Heap) : timsW H (.slice none 0 0) = some [] := rfl
theorem timsW_at (H : Heap) (a : Addr) (len cap : Nat) : timsW H (.slice (some a) len cap) = timsAt H a len := rfl
abbrev H8 (o0 o1 : Nat) (cs0 cs1 : List Value) : Heap := [(11, .inp o1 cs1), (10, .inp o0 cs0), (3, .inp 0 tab3), (0, .inp 0 names0)]
abbrev vs8 : List Nat := [1, 2, 3, 7, 8, 9, 10, 11, 12, 13, 14, 15]
def S8 (o0 o1 : Nat) (cs0 cs1 : List Value) (sl tl : Value) (lim e : Int) : St := { fr := [(1, tl), (2, iv lim), (3, .pointer (some ⟨12, 0, none⟩)), (7, .slice none 0 0), (8, iv e), (9, .pointer (some ⟨13, 0, none⟩)), (10, iv e)], sz := 89, H := (13, .cells [.slice none 0 0] 32) :: (12, .cells [sl] 24) :: H8 o0 o1 cs0 cs1, n := 14, marks := [], vs := vs8 }
set_option maxRecDepth 100000 in
set_option maxHeartbeats 4000000 in
theorem w8 (sl tl : Value) (l : List Gun) (ts : List Tim) (lim : Int) (o0 o1 : Nat) (cs0 cs1 : List Value)
    (hs : ∀ G : Heap, hget G 10 = some (.inp o0 cs0) → strAt G (.agg ⟨[sl]⟩) = some l) (ht : ∀ G : Heap, hget G 11 = some (.inp o1 cs1) → timsW G tl = some ts) (hl63 : l.length < 2 ^ 63)
    (r0 : ∀ olds, renL (rnm 12 olds) cs0 = cs0) (r1 : ∀ olds, renL (rnm 12 olds) cs1 = cs1) (rs : ∀ olds, ren (rnm 12 olds) sl = sl) (rt : ∀ olds, ren (rnm 12 olds) tl = tl)
    (c0 : ∀ p : Nat → Prop, scL p cs0) (c1 : ∀ p : Nat → Prop, scL p cs1) (ss : sc (fun x => x < 14) sl) (st : sc (fun x => x < 14) tl) :
    AC Tryz.prog 8 [.agg ⟨[sl]⟩, tl, iv lim] (H8 o0 o1 cs0 cs1) 12 (.bool true) (H8 o0 o1 cs0 cs1) 12 := by
  have hr := recT_ok (P := Tryz.prog) (l := [(18, g18), (19, gStr fun l => .bool (shortS l)), (57, gTim fun ts => .bool (shortT ts)), (21, g21), (59, g59), (58, g58'), (60, g60'), (24, gStr fun l => iv (strE l)), (61, g61'), (62, g138), (27, g113), (63, g63'), (64, g64'), (65, g65), (55, g55), (66, g66)]) (by simp only [List.forall_mem_cons]; exact ⟨ok18, ok19, ok57, ok21, ok59, ok58', ok60', ok24, ok61', ok62, ok27, ok63', ok64', ok65, ok55, ok66, by simp⟩)
  refine AC.pure Tryz.func8 rfl (by kernel_rfl) rfl vs8 rfl ?_
  refine E.seq ?_
  refine E.reg hr (by simp; rfl) ?_ -- region 0
  refine E.seq ?_
  refine E.seq ?_
  cases hsh : shortS l with
  | false =>
    refine E.reg hr (by simp [g18, gStr, hs, hsh, undefV]; rfl) ?_ -- region 1
    refine E.cond (by rfl) (fun h => ?_) (fun h => ?_)
    · refine E.seq ?_
      refine E.reg hr (by simp [g18]; rfl) ?_ -- region 2
      refine E.ret ?_
      exact pureK.ret rfl rfl (by simp) (by repeat first | exact sub_refl _ | refine sub_cons rfl ?_)
    · simp at h
  | true =>
  cases hth : shortT ts with
  | false =>
    refine E.reg hr (by simp [g18, gStr, gTim, hs, ht, hsh, hth]; rfl) ?_ -- region 1
    refine E.cond (by rfl) (fun h => ?_) (fun h => ?_)
    · refine E.seq ?_
      refine E.reg hr (by simp [g18]; rfl) ?_ -- region 2
      refine E.ret ?_
      exact pureK.ret rfl rfl (by simp) (by repeat first | exact sub_refl _ | refine sub_cons rfl ?_)
    · simp at h
  | true =>
  refine E.reg hr (by simp [g18, gStr, gTim, hs, ht, hsh, hth]; rfl) ?_ -- region 1
  refine E.cond (by rfl) (fun h => ?_) (fun h => ?_)
  · simp at h
  refine E.skip ?_
  have hl9 : l.length ≤ 4096 := by
    unfold shortS at hsh
    simp at hsh
    omega
  have ht9 : ts.length ≤ 4096 := by
    unfold shortT at hth
    simp at hth
    omega
  have hrow : ∀ (G : Heap) (b : Nat), hget G b = some (.ext (gcs l) 95 7) → rowGuns G b l.length = some l := fun G b hG => by
    unfold rowGuns rowOf
    rw [hG]
    simp [gunsOf_gcs, hl63]
  have htims : ∀ (G : Heap) (b : Nat), hget G b = some (.ext (tcs ts) 119 2) → timsAt G ⟨b, 0, some 0⟩ ts.length = some ts := fun G b hG => by
    unfold timsAt
    simp [hG, List.take_of_length_le, timsOf_tcs, show ts.length < 9223372036854775808 by omega]
  by_cases hst : strE l = 0
  rotate_left
  · have hmis : misR l ts lim = ([], strE l) := by unfold misR; rw [if_pos hst]
    have hret : retR l ts = (none, strE l) := by unfold retR; rw [if_pos hst]
    have hf : ∀ x, firstV [strE l, x] = strE l := fun x => by simp [firstV, hst]
    refine E.cut2 (S8 o0 o1 cs0 cs1 sl tl lim (strE l)) ?_ ?_
    · by_cases hl0 : l = []
      · subst hl0
        by_cases ht0 : ts = []
        · subst ht0
          refine E.reg hr (by simp [g21, hs, g59, ht, g58', strR, timsW_none, timsW_at, hmis, gMis]; rfl) ?_ -- region 3
          refine E.reg hr (by simp [g21, hs, g59, ht, g60', strR, timsW_none, timsW_at, hret, gRet]; rfl) ?_ -- region 4
          exact Leads.ren [12, 13] rfl rfl rfl ⟨rfl, rfl⟩ (by simp [S8, rs, rt, ss, st]) (by simp [S8, rs, r0, r1, c0, c1, ss])
        · refine E.reg hr (by simp [g21, hs, g59, ht, ht0, ht9, g58', strR, timsW_none, timsW_at, htims, hmis, gMis]; rfl) ?_ -- region 3
          refine E.reg hr (by simp [g21, hs, g59, ht, ht0, ht9, g60', strR, timsW_none, timsW_at, htims, hret, gRet]; rfl) ?_ -- region 4
          exact Leads.ren [12, 15] rfl rfl rfl ⟨rfl, rfl⟩ (by simp [S8, rs, rt, ss, st]) (by simp [S8, rs, r0, r1, c0, c1, ss])
      · have h1 : 1 ≤ l.length := List.length_pos_iff.2 hl0
        by_cases ht0 : ts = []
        · subst ht0
          refine E.reg hr (by simp [g21, hs, hl0, hl9, g59, ht, g58', strR, hrow, h1, timsW_none, timsW_at, hmis, gMis]; rfl) ?_ -- region 3
          refine E.reg hr (by simp [g21, hs, hl0, hl9, g59, ht, g60', strR, hrow, h1, timsW_none, timsW_at, hret, gRet]; rfl) ?_ -- region 4
          exact Leads.ren [12, 15] rfl rfl rfl ⟨rfl, rfl⟩ (by simp [S8, rs, rt, ss, st]) (by simp [S8, rs, r0, r1, c0, c1, ss])
        · refine E.reg hr (by simp [g21, hs, hl0, hl9, g59, ht, ht0, ht9, g58', strR, hrow, h1, timsW_none, timsW_at, htims, hmis, gMis]; rfl) ?_ -- region 3
          refine E.reg hr (by simp [g21, hs, hl0, hl9, g59, ht, ht0, ht9, g60', strR, hrow, h1, timsW_none, timsW_at, htims, hret, gRet]; rfl) ?_ -- region 4
          exact Leads.ren [12, 17] rfl rfl rfl ⟨rfl, rfl⟩ (by simp [S8, rs, rt, ss, st]) (by simp [S8, rs, r0, r1, c0, c1, ss])
    refine E.seq ?_
    refine E.reg hr (by simp [S8, gStr, hs]; rfl) ?_ -- region 5
    refine E.seq ?_
    refine E.seq ?_
    refine E.reg hr (by simp; rfl) ?_ -- region 6
    refine E.cond (by rfl) (fun h => ?_) (fun h => ?_)
    · simp at h
      exact absurd h hst
    refine E.skip ?_
    refine E.seq ?_
    refine E.reg hr (by simp [g138, g113, intsAt, intsOf, hf]; rfl) ?_ -- region 8
    refine E.seq ?_
    refine E.reg hr (by simp; rfl) ?_ -- region 9
    refine E.seq ?_
    refine E.reg hr (by simp; rfl) ?_ -- region 10
    refine E.seq ?_
    refine E.seq ?_
    refine E.reg hr (by simp; rfl) ?_ -- region 11
    refine E.cond (by rfl) (fun h => ?_) (fun h => ?_)
    · simp at h
      exact absurd h hst
    refine E.skip ?_
    refine E.seq ?_
    refine E.seq ?_
    refine E.reg hr (by simp; rfl) ?_ -- region 13
    refine E.cond (by rfl) (fun h => ?_) (fun h => ?_)
    · simp at h
      exact absurd h hst
    refine E.skip ?_
    refine E.seq ?_
    refine E.drawC mixed hr [4, 9] [4, 7, 9] [4, 6, 7, 9] (by kernel_rfl) (by simp [g65, g55, strAt, g66]; rfl) ?_ -- region 15
    refine E.ret ?_
    exact pureK.ret rfl rfl (by simp) (by repeat first | exact sub_refl _ | refine sub_cons rfl ?_)
  have h1 := (strE_len hst).1
  have hl0 : l ≠ [] := fun e => by subst e; simp at h1
  obtain ⟨hbad, hgood⟩ := times_law ts lim hst
  by_cases hte : timE l ts = 0
  rotate_left
  · obtain ⟨hmis, hret⟩ := hbad hte
    have hf : ∀ x, firstV [timE l ts, x] = timE l ts := fun x => by simp [firstV, hte]
    refine E.cut2 (S8 o0 o1 cs0 cs1 sl tl lim (timE l ts)) ?_ ?_
    · by_cases ht0 : ts = []
      · subst ht0
        refine E.reg hr (by simp [g21, hs, hl0, hl9, g59, ht, g58', strR, hrow, h1, timsW_none, timsW_at, hmis, gMis]; rfl) ?_ -- region 3
        refine E.reg hr (by simp [g21, hs, hl0, hl9, g59, ht, g60', strR, hrow, h1, timsW_none, timsW_at, hret, gRet]; rfl) ?_ -- region 4
        exact Leads.ren [12, 15] rfl rfl rfl ⟨rfl, rfl⟩ (by simp [S8, rs, rt, ss, st]) (by simp [S8, rs, r0, r1, c0, c1, ss])
      · refine E.reg hr (by simp [g21, hs, hl0, hl9, g59, ht, ht0, ht9, g58', strR, hrow, h1, timsW_none, timsW_at, htims, hmis, gMis]; rfl) ?_ -- region 3
        refine E.reg hr (by simp [g21, hs, hl0, hl9, g59, ht, ht0, ht9, g60', strR, hrow, h1, timsW_none, timsW_at, htims, hret, gRet]; rfl) ?_ -- region 4
        exact Leads.ren [12, 17] rfl rfl rfl ⟨rfl, rfl⟩ (by simp [S8, rs, rt, ss, st]) (by simp [S8, rs, r0, r1, c0, c1, ss])
    refine E.seq ?_
    refine E.reg hr (by simp [S8, gStr, hs, hst]; rfl) ?_ -- region 5
    refine E.seq ?_
    refine E.seq ?_
    refine E.reg hr (by simp; rfl) ?_ -- region 6
    refine E.cond (by rfl) (fun h => ?_) (fun h => ?_)
    rotate_left
    · simp at h
    refine E.reg hr (by simp [g61', hs, ht, h1]; rfl) ?_ -- region 7
    refine E.seq ?_
    refine E.reg hr (by simp [g138, g113, intsAt, intsOf, hf]; rfl) ?_ -- region 8
    refine E.seq ?_
    refine E.reg hr (by simp; rfl) ?_ -- region 9
    refine E.seq ?_
    refine E.reg hr (by simp; rfl) ?_ -- region 10
    refine E.seq ?_
    refine E.seq ?_
    refine E.reg hr (by simp; rfl) ?_ -- region 11
    refine E.cond (by rfl) (fun h => ?_) (fun h => ?_)
    · simp at h
      exact absurd h hte
    refine E.skip ?_
    refine E.seq ?_
    refine E.seq ?_
    refine E.reg hr (by simp; rfl) ?_ -- region 13
    refine E.cond (by rfl) (fun h => ?_) (fun h => ?_)
    · simp at h
      exact absurd h hte
    refine E.skip ?_
    refine E.seq ?_
    refine E.drawC mixed hr [4, 9] [4, 7, 9] [4, 6, 7, 9] (by kernel_rfl) (by simp [g65, g55, strAt, g66]; rfl) ?_ -- region 15
    refine E.ret ?_
    exact pureK.ret rfl rfl (by simp) (by repeat first | exact sub_refl _ | refine sub_cons rfl ?_)
  obtain ⟨hmis, hret, ht0⟩ := hgood hte
  have ht1 : 1 ≤ ts.length := List.length_pos_iff.2 ht0
  have hf : ∀ x, firstV [0, x] = x := fun x => by simp [firstV]; omega
  generalize hW : missTN l ts lim l.length = W at hmis
  have hWl : W.length ≤ 4096 := by
    have := missTN_len l ts lim l.length
    rw [hW] at this
    omega
  have hsat : ∀ (G : Heap) (b : Nat), hget G b = some (.ext (W.map sv) 9 1) → strsAt G ⟨b, 0, some 0⟩ W.length = some W := fun G b hG => by
    unfold strsAt
    simp [hG, List.take_of_length_le, strsOf_sv, show W.length < 2147483648 by omega]
  by_cases hw : withinV lim 0 16 = 0
  rotate_left
  · rw [if_pos hw] at hmis
    rcases hR : rtR l ts with ⟨_ | K, e⟩
    · have he : e = 3 := by
        unfold rtR at hR
        split at hR
        · simp at hR
        · simp at hR; omega
      subst he
      refine E.seq ?_
      refine E.reg hr (by simp [g21, hs, hl0, hl9, g59, ht, ht0, ht9, g58', strR, hrow, h1, timsW_none, timsW_at, htims, hmis, gMis]; rfl) ?_ -- region 3
      refine E.seq ?_
      refine E.reg hr (by simp [g21, hs, hl0, hl9, g59, ht, ht0, ht9, g60', strR, hrow, h1, timsW_none, timsW_at, htims, hret, hR, gRet]; rfl) ?_ -- region 4
      refine E.seq ?_
      refine E.reg hr (by simp [gStr, hs, hst]; rfl) ?_ -- region 5
      refine E.seq ?_
      refine E.seq ?_
      refine E.reg hr (by simp; rfl) ?_ -- region 6
      refine E.cond (by rfl) (fun h => ?_) (fun h => ?_)
      rotate_left
      · simp at h
      refine E.reg hr (by simp [g61', hs, ht, h1, hte]; rfl) ?_ -- region 7
      refine E.seq ?_
      refine E.reg hr (by simp [g138, g113, intsAt, intsOf, hf]; rfl) ?_ -- region 8
      refine E.seq ?_
      refine E.reg hr (by simp; rfl) ?_ -- region 9
      refine E.seq ?_
      refine E.reg hr (by simp; rfl) ?_ -- region 10
      refine E.seq ?_
      refine E.seq ?_
      refine E.reg hr (by simp; rfl) ?_ -- region 11
      refine E.cond (by rfl) (fun h => ?_) (fun h => ?_)
      · simp at h
        exact absurd h hw
      refine E.skip ?_
      refine E.seq ?_
      refine E.seq ?_
      refine E.reg hr (by simp; rfl) ?_ -- region 13
      refine E.cond (by rfl) (fun h => ?_) (fun h => ?_)
      rotate_left
      · simp at h
      refine E.reg hr (by simp [g64', hs, ht, h1, hl9, ht1, hR, gRt]; rfl) ?_ -- region 14
      refine E.seq ?_
      refine E.drawC mixed hr [4, 9] [4, 7, 9] [4, 6, 7, 9] (by kernel_rfl) (by simp [g65, g55, strAt, g66]; rfl) ?_ -- region 15
      refine E.ret ?_
      exact pureK.ret rfl rfl (by simp) (by repeat first | exact sub_refl _ | refine sub_cons rfl ?_)
    · obtain ⟨rfl, hKl, hKne⟩ : e = 0 ∧ K.length ≤ 4096 ∧ K ≠ [] := by
        unfold rtR at hR
        split at hR
        · simp at hR
          obtain ⟨hR1, hR2⟩ := hR
          subst hR1
          exact ⟨by omega, by simpa using hl9, by simpa using hl0⟩
        · simp at hR
      have hK1 : ∀ (G : Heap) (b : Nat), hget G b = some (.inp 0 (gcs K)) → gunsAt G ⟨b, 0, none⟩ K.length = some K := fun G b hG => by
        unfold gunsAt
        simp [hG, List.take_of_length_le, gunsOf_gcs, show K.length < 9223372036854775808 by omega]
      have hK2 : ∀ (G : Heap) (b : Nat), hget G b = some (.ext (gcs K) 94 7) → gunsAt G ⟨b, 0, some 0⟩ K.length = some K := fun G b hG => by
        unfold gunsAt
        simp [hG, List.take_of_length_le, gunsOf_gcs, show K.length < 9223372036854775808 by omega]
      refine E.seq ?_
      refine E.reg hr (by simp [g21, hs, hl0, hl9, g59, ht, ht0, ht9, g58', strR, hrow, h1, timsW_none, timsW_at, htims, hmis, gMis]; rfl) ?_ -- region 3
      refine E.seq ?_
      refine E.reg hr (by simp [g21, hs, hl0, hl9, g59, ht, ht0, ht9, g60', strR, hrow, h1, timsW_none, timsW_at, htims, hret, hR, gRet]; rfl) ?_ -- region 4
      refine E.seq ?_
      refine E.reg hr (by simp [gStr, hs, hst]; rfl) ?_ -- region 5
      refine E.seq ?_
      refine E.seq ?_
      refine E.reg hr (by simp; rfl) ?_ -- region 6
      refine E.cond (by rfl) (fun h => ?_) (fun h => ?_)
      rotate_left
      · simp at h
      refine E.reg hr (by simp [g61', hs, ht, h1, hte]; rfl) ?_ -- region 7
      refine E.seq ?_
      refine E.reg hr (by simp [g138, g113, intsAt, intsOf, hf]; rfl) ?_ -- region 8
      refine E.seq ?_
      refine E.reg hr (by simp; rfl) ?_ -- region 9
      refine E.seq ?_
      refine E.reg hr (by simp; rfl) ?_ -- region 10
      refine E.seq ?_
      refine E.seq ?_
      refine E.reg hr (by simp; rfl) ?_ -- region 11
      refine E.cond (by rfl) (fun h => ?_) (fun h => ?_)
      · simp at h
        exact absurd h hw
      refine E.skip ?_
      refine E.seq ?_
      refine E.seq ?_
      refine E.reg hr (by simp; rfl) ?_ -- region 13
      refine E.cond (by rfl) (fun h => ?_) (fun h => ?_)
      rotate_left
      · simp at h
      refine E.reg hr (by simp [g64', hs, ht, h1, hl9, ht1, hR, gRt]; rfl) ?_ -- region 14
      refine E.seq ?_
      refine E.drawC mixed hr [4, 9] [4, 7, 9] [4, 6, 7, 9] (by kernel_rfl) (by simp [g65, g55, strAt, g66, hK1, hK2, hKne, hKl]; rfl) ?_ -- region 15
      refine E.ret ?_
      exact pureK.ret rfl rfl (by simp) (by repeat first | exact sub_refl _ | refine sub_cons rfl ?_)
  rw [if_neg (by simp [hw])] at hmis
  by_cases hW0 : W = []
  · rcases hR : rtR l ts with ⟨_ | K, e⟩
    · have he : e = 3 := by
        unfold rtR at hR
        split at hR
        · simp at hR
        · simp at hR; omega
      subst he
      refine E.seq ?_
      refine E.reg hr (by simp [g21, hs, hl0, hl9, g59, ht, ht0, ht9, g58', strR, hrow, h1, timsW_none, timsW_at, htims, hmis, gMis, hW0]; rfl) ?_ -- region 3
      refine E.seq ?_
      refine E.reg hr (by simp [g21, hs, hl0, hl9, g59, ht, ht0, ht9, g60', strR, hrow, h1, timsW_none, timsW_at, htims, hret, hR, gRet]; rfl) ?_ -- region 4
      refine E.seq ?_
      refine E.reg hr (by simp [gStr, hs, hst]; rfl) ?_ -- region 5
      refine E.seq ?_
      refine E.seq ?_
      refine E.reg hr (by simp; rfl) ?_ -- region 6
      refine E.cond (by rfl) (fun h => ?_) (fun h => ?_)
      rotate_left
      · simp at h
      refine E.reg hr (by simp [g61', hs, ht, h1, hte]; rfl) ?_ -- region 7
      refine E.seq ?_
      refine E.reg hr (by simp [g138, g113, intsAt, intsOf, hf, hw]; rfl) ?_ -- region 8
      refine E.seq ?_
      refine E.reg hr (by simp; rfl) ?_ -- region 9
      refine E.seq ?_
      refine E.reg hr (by simp; rfl) ?_ -- region 10
      refine E.seq ?_
      refine E.seq ?_
      refine E.reg hr (by simp; rfl) ?_ -- region 11
      refine E.cond (by rfl) (fun h => ?_) (fun h => ?_)
      rotate_left
      · simp at h
      refine E.reg hr (by simp [g63', hs, ht, h1, hl9, ht1, hW, gWds, hW0]; rfl) ?_ -- region 12
      refine E.seq ?_
      refine E.seq ?_
      refine E.reg hr (by simp; rfl) ?_ -- region 13
      refine E.cond (by rfl) (fun h => ?_) (fun h => ?_)
      rotate_left
      · simp at h
      refine E.reg hr (by simp [g64', hs, ht, h1, hl9, ht1, hR, gRt]; rfl) ?_ -- region 14
      refine E.seq ?_
      refine E.drawC mixed hr [4, 9] [4, 7, 9] [4, 6, 7, 9] (by kernel_rfl) (by simp [g65, g55, strAt, g66]; rfl) ?_ -- region 15
      refine E.ret ?_
      exact pureK.ret rfl rfl (by simp) (by repeat first | exact sub_refl _ | refine sub_cons rfl ?_)
    · obtain ⟨rfl, hKl, hKne⟩ : e = 0 ∧ K.length ≤ 4096 ∧ K ≠ [] := by
        unfold rtR at hR
        split at hR
        · simp at hR
          obtain ⟨hR1, hR2⟩ := hR
          subst hR1
          exact ⟨by omega, by simpa using hl9, by simpa using hl0⟩
        · simp at hR
      have hK1 : ∀ (G : Heap) (b : Nat), hget G b = some (.inp 0 (gcs K)) → gunsAt G ⟨b, 0, none⟩ K.length = some K := fun G b hG => by
        unfold gunsAt
        simp [hG, List.take_of_length_le, gunsOf_gcs, show K.length < 9223372036854775808 by omega]
      have hK2 : ∀ (G : Heap) (b : Nat), hget G b = some (.ext (gcs K) 94 7) → gunsAt G ⟨b, 0, some 0⟩ K.length = some K := fun G b hG => by
        unfold gunsAt
        simp [hG, List.take_of_length_le, gunsOf_gcs, show K.length < 9223372036854775808 by omega]
      refine E.seq ?_
      refine E.reg hr (by simp [g21, hs, hl0, hl9, g59, ht, ht0, ht9, g58', strR, hrow, h1, timsW_none, timsW_at, htims, hmis, gMis, hW0]; rfl) ?_ -- region 3
      refine E.seq ?_
      refine E.reg hr (by simp [g21, hs, hl0, hl9, g59, ht, ht0, ht9, g60', strR, hrow, h1, timsW_none, timsW_at, htims, hret, hR, gRet]; rfl) ?_ -- region 4
      refine E.seq ?_
      refine E.reg hr (by simp [gStr, hs, hst]; rfl) ?_ -- region 5
      refine E.seq ?_
      refine E.seq ?_
      refine E.reg hr (by simp; rfl) ?_ -- region 6
      refine E.cond (by rfl) (fun h => ?_) (fun h => ?_)
      rotate_left
      · simp at h
      refine E.reg hr (by simp [g61', hs, ht, h1, hte]; rfl) ?_ -- region 7
      refine E.seq ?_
      refine E.reg hr (by simp [g138, g113, intsAt, intsOf, hf, hw]; rfl) ?_ -- region 8
      refine E.seq ?_
      refine E.reg hr (by simp; rfl) ?_ -- region 9
      refine E.seq ?_
      refine E.reg hr (by simp; rfl) ?_ -- region 10
      refine E.seq ?_
      refine E.seq ?_
      refine E.reg hr (by simp; rfl) ?_ -- region 11
      refine E.cond (by rfl) (fun h => ?_) (fun h => ?_)
      rotate_left
      · simp at h
      refine E.reg hr (by simp [g63', hs, ht, h1, hl9, ht1, hW, gWds, hW0]; rfl) ?_ -- region 12
      refine E.seq ?_
      refine E.seq ?_
      refine E.reg hr (by simp; rfl) ?_ -- region 13
      refine E.cond (by rfl) (fun h => ?_) (fun h => ?_)
      rotate_left
      · simp at h
      refine E.reg hr (by simp [g64', hs, ht, h1, hl9, ht1, hR, gRt]; rfl) ?_ -- region 14
      refine E.seq ?_
      refine E.drawC mixed hr [4, 9] [4, 7, 9] [4, 6, 7, 9] (by kernel_rfl) (by simp [g65, g55, strAt, g66, hK1, hK2, hKne, hKl]; rfl) ?_ -- region 15
      refine E.ret ?_
      exact pureK.ret rfl rfl (by simp) (by repeat first | exact sub_refl _ | refine sub_cons rfl ?_)
  · rcases hR : rtR l ts with ⟨_ | K, e⟩
    · have he : e = 3 := by
        unfold rtR at hR
        split at hR
        · simp at hR
        · simp at hR; omega
      subst he
      refine E.seq ?_
      refine E.reg hr (by simp [g21, hs, hl0, hl9, g59, ht, ht0, ht9, g58', strR, hrow, h1, timsW_none, timsW_at, htims, hmis, gMis, hW0]; rfl) ?_ -- region 3
      refine E.seq ?_
      refine E.reg hr (by simp [g21, hs, hl0, hl9, g59, ht, ht0, ht9, g60', strR, hrow, h1, timsW_none, timsW_at, htims, hret, hR, gRet]; rfl) ?_ -- region 4
      refine E.seq ?_
      refine E.reg hr (by simp [gStr, hs, hst]; rfl) ?_ -- region 5
      refine E.seq ?_
      refine E.seq ?_
      refine E.reg hr (by simp; rfl) ?_ -- region 6
      refine E.cond (by rfl) (fun h => ?_) (fun h => ?_)
      rotate_left
      · simp at h
      refine E.reg hr (by simp [g61', hs, ht, h1, hte]; rfl) ?_ -- region 7
      refine E.seq ?_
      refine E.reg hr (by simp [g138, g113, intsAt, intsOf, hf, hw]; rfl) ?_ -- region 8
      refine E.seq ?_
      refine E.reg hr (by simp; rfl) ?_ -- region 9
      refine E.seq ?_
      refine E.reg hr (by simp; rfl) ?_ -- region 10
      refine E.seq ?_
      refine E.seq ?_
      refine E.reg hr (by simp; rfl) ?_ -- region 11
      refine E.cond (by rfl) (fun h => ?_) (fun h => ?_)
      rotate_left
      · simp at h
      refine E.reg hr (by simp [g63', hs, ht, h1, hl9, ht1, hW, gWds, hW0]; rfl) ?_ -- region 12
      refine E.seq ?_
      refine E.seq ?_
      refine E.reg hr (by simp; rfl) ?_ -- region 13
      refine E.cond (by rfl) (fun h => ?_) (fun h => ?_)
      rotate_left
      · simp at h
      refine E.reg hr (by simp [g64', hs, ht, h1, hl9, ht1, hR, gRt]; rfl) ?_ -- region 14
      refine E.seq ?_
      refine E.drawC mixed hr [4, 9] [4, 7, 9] [4, 6, 7, 9] (by kernel_rfl) (by simp [g65, g55, strAt, g66, hsat]; rfl) ?_ -- region 15
      refine E.ret ?_
      exact pureK.ret rfl rfl (by simp) (by repeat first | exact sub_refl _ | refine sub_cons rfl ?_)
    · obtain ⟨rfl, hKl, hKne⟩ : e = 0 ∧ K.length ≤ 4096 ∧ K ≠ [] := by
        unfold rtR at hR
        split at hR
        · simp at hR
          obtain ⟨hR1, hR2⟩ := hR
          subst hR1
          exact ⟨by omega, by simpa using hl9, by simpa using hl0⟩
        · simp at hR
      have hK1 : ∀ (G : Heap) (b : Nat), hget G b = some (.inp 0 (gcs K)) → gunsAt G ⟨b, 0, none⟩ K.length = some K := fun G b hG => by
        unfold gunsAt
        simp [hG, List.take_of_length_le, gunsOf_gcs, show K.length < 9223372036854775808 by omega]
      have hK2 : ∀ (G : Heap) (b : Nat), hget G b = some (.ext (gcs K) 94 7) → gunsAt G ⟨b, 0, some 0⟩ K.length = some K := fun G b hG => by
        unfold gunsAt
        simp [hG, List.take_of_length_le, gunsOf_gcs, show K.length < 9223372036854775808 by omega]
      refine E.seq ?_
      refine E.reg hr (by simp [g21, hs, hl0, hl9, g59, ht, ht0, ht9, g58', strR, hrow, h1, timsW_none, timsW_at, htims, hmis, gMis, hW0]; rfl) ?_ -- region 3
      refine E.seq ?_
      refine E.reg hr (by simp [g21, hs, hl0, hl9, g59, ht, ht0, ht9, g60', strR, hrow, h1, timsW_none, timsW_at, htims, hret, hR, gRet]; rfl) ?_ -- region 4
      refine E.seq ?_
      refine E.reg hr (by simp [gStr, hs, hst]; rfl) ?_ -- region 5
      refine E.seq ?_
      refine E.seq ?_
      refine E.reg hr (by simp; rfl) ?_ -- region 6
      refine E.cond (by rfl) (fun h => ?_) (fun h => ?_)
      rotate_left
      · simp at h
      refine E.reg hr (by simp [g61', hs, ht, h1, hte]; rfl) ?_ -- region 7
      refine E.seq ?_
      refine E.reg hr (by simp [g138, g113, intsAt, intsOf, hf, hw]; rfl) ?_ -- region 8
      refine E.seq ?_
      refine E.reg hr (by simp; rfl) ?_ -- region 9
      refine E.seq ?_
      refine E.reg hr (by simp; rfl) ?_ -- region 10
      refine E.seq ?_
      refine E.seq ?_
      refine E.reg hr (by simp; rfl) ?_ -- region 11
      refine E.cond (by rfl) (fun h => ?_) (fun h => ?_)
      rotate_left
      · simp at h
      refine E.reg hr (by simp [g63', hs, ht, h1, hl9, ht1, hW, gWds, hW0]; rfl) ?_ -- region 12
      refine E.seq ?_
      refine E.seq ?_
      refine E.reg hr (by simp; rfl) ?_ -- region 13
      refine E.cond (by rfl) (fun h => ?_) (fun h => ?_)
      rotate_left
      · simp at h
      refine E.reg hr (by simp [g64', hs, ht, h1, hl9, ht1, hR, gRt]; rfl) ?_ -- region 14
      refine E.seq ?_
      refine E.drawC mixed hr [4, 9] [4, 7, 9] [4, 6, 7, 9] (by kernel_rfl) (by simp [g65, g55, strAt, g66, hsat, hK1, hK2, hKne, hKl]; rfl) ?_ -- region 15
      refine E.ret ?_
      exact pureK.ret rfl rfl (by simp) (by repeat first | exact sub_refl _ | refine sub_cons rfl ?_)
end Go.Proofs.YtndlfijfjglkdaaGreatDoor
