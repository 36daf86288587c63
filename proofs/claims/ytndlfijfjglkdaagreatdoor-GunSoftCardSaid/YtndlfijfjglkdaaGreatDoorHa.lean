/-
The plain reckoning of a soft start's steps (permitted, in the order of volumes, none too short, none to spare), copied lists joined, and the law GunSoft walked: it returns true for every string of guns and every number of a step.
-/
import Derived.Test.YtndlfijfjglkdaaGreatDoorGx
import Derived.Test.YtndlfijfjglkdaaGreatDoorGw
namespace Go.Proofs.YtndlfijfjglkdaaGreatDoor
open Go Go.Ab Go.Proofs Go.Soft
section
variable {l : List Gun} (hb : ∀ g ∈ l, 1 ≤ g.v ∧ g.v ≤ 64) (hd : Dis l)
include hb in
theorem sorted_le : (sorted l).Pairwise fun a b => a.v ≤ b.v := by
  rw [← ordN_map hb, List.pairwise_map, ordN_eq hb]
  refine List.Pairwise.imp (fun {a b} h => ?_) (byVol_ord _)
  rw [← volAt_getD, ← volAt_getD]
  unfold Lt at h
  omega
include hb hd in
theorem nms_nodup : (nmsG (sorted l)).Nodup := by
  have h1 := byVol_ord (vol := volAt l) l.length
  rw [← ordN_eq hb] at h1
  rw [← ordN_map hb, nmsG, List.map_map, List.nodup_iff_pairwise_ne, List.pairwise_map]
  refine List.Pairwise.imp_of_mem (fun {a b} ha hbm h e => ?_) h1
  have la := ordN_lt hb ha
  have lb := ordN_lt hb hbm
  simp only [Function.comp_apply, List.getD_eq_getElem?_getD, List.getElem?_eq_getElem la, List.getElem?_eq_getElem lb, Option.getD_some] at e
  have := hd a b la lb e
  subst this
  exact Lt.asymm h h
end
theorem pair_le {Z : List Gun} (h : Z.Pairwise fun a b => a.v ≤ b.v) {j k : Nat} (hj : j < Z.length) (hk : k < Z.length) (hjk : j ≤ k) : Z[j].v ≤ Z[k].v := by
  rcases Nat.lt_or_eq_of_le hjk with h1 | h1
  · exact (List.pairwise_iff_getElem.1 h) j k hj hk h1
  · subst h1; exact Int.le_refl _
theorem nms_len (l : List Gun) : (nmsG l).length = l.length := by rw [nmsG, List.length_map]
theorem nms_get {Z : List Gun} {j : Nat} (h : j < Z.length) : (nmsG Z)[j]'(by rw [nms_len]; exact h) = Z[j].name := by
  unfold nmsG
  rw [List.getElem_map]
theorem nms_dis {Z : List Gun} (h : (nmsG Z).Nodup) : Dis Z := fun i j hi hj e => by
  rw [List.nodup_iff_pairwise_ne, List.pairwise_iff_getElem] at h
  have hi' : i < (nmsG Z).length := by rw [nms_len]; exact hi
  have hj' : j < (nmsG Z).length := by rw [nms_len]; exact hj
  rcases Nat.lt_trichotomy i j with h1 | h1 | h1
  · exact absurd (by rw [nms_get hi, nms_get hj]; exact e) (h i j hi' hj' h1)
  · exact h1
  · exact absurd (by rw [nms_get hi, nms_get hj]; exact e.symm) (h j i hj' hi' h1)
theorem nms_mem {Z : List Gun} {s : ByteArray} : s ∈ nmsG Z ↔ ∃ g ∈ Z, g.name = s := by
  unfold nmsG
  rw [List.mem_map]
theorem nms_take {Z : List Gun} {f : Nat} (h : f < Z.length) : nmsG (Z.take (f + 1)) = nmsG (Z.take f) ++ [Z[f].name] := by
  unfold nmsG
  rw [List.take_succ_eq_append_getElem h, List.map_append]
  rfl
/-- a name among the first ones -/
theorem nms_first {Z : List Gun} (hd : Dis Z) {f m : Nat} (hm : m < Z.length) : Z[m].name ∈ nmsG (Z.take f) ↔ m < f := by
  rw [nms_mem]
  constructor
  · rintro ⟨g, hg, e⟩
    obtain ⟨j, hj, rfl⟩ := List.getElem_of_mem hg
    rw [List.length_take] at hj
    rw [List.getElem_take] at e
    have := hd j m (by omega) hm e
    omega
  · intro h
    refine ⟨Z[m], ?_, rfl⟩
    rw [List.mem_take_iff_getElem]
    exact ⟨m, by omega, rfl⟩
theorem vs_get {l : List Gun} {k : Nat} (h : k < (sorted l).length) : (vsG l)[k]'(by rw [vsG_len, ← sorted_len]; exact h) = (sorted l)[k].v := by
  unfold vsG
  rw [List.getElem_map]
theorem sum_nms {l : List Gun} (hd : Dis l) : ∀ f, f ≤ l.length → sumN l (nmsG ((sorted l).take f)) = sumTo (vsG l) f
  | 0, _ => by simp [nmsG, sumN, sumTo]
  | f + 1, h => by
    have hf : f < (sorted l).length := by rw [sorted_len]; omega
    have hm : (sorted l)[f] ∈ l := sorted_mem.1 (List.getElem_mem hf)
    obtain ⟨i, hi, e⟩ := List.getElem_of_mem hm
    rw [nms_take hf, sumN_snoc, sum_nms hd f (by omega), sumTo_succ (by rw [vsG_len]; omega), vs_get hf, ← e, hd.vol hi]
/-- the least of those that wait -/
theorem least_wait {l : List Gun} (hb : ∀ g ∈ l, 1 ≤ g.v ∧ g.v ≤ 64) (hd : Dis l) {f : Nat} (hf : f < (sorted l).length) : (leastG (waitN l (nmsG ((sorted l).take f)))).v = (sorted l)[f].v := by
  have hs := sorted_le hb
  have hz := nms_dis (nms_nodup hb hd)
  have hin : ∀ g, g ∈ waitN l (nmsG ((sorted l).take f)) ↔ ∃ m, ∃ h : m < (sorted l).length, f ≤ m ∧ (sorted l)[m] = g := fun g => by
    unfold waitN
    rw [List.mem_filter]
    constructor
    · rintro ⟨h1, h2⟩
      obtain ⟨m, hm, rfl⟩ := List.getElem_of_mem (sorted_mem.2 h1)
      refine ⟨m, hm, ?_, rfl⟩
      refine Nat.le_of_not_lt fun hlt => ?_
      have := hasW_iff.2 ((nms_first hz hm).2 hlt)
      rw [this] at h2
      cases h2
    · rintro ⟨m, hm, hfm, rfl⟩
      refine ⟨sorted_mem.1 (List.getElem_mem hm), ?_⟩
      cases e : hasW (sorted l)[m].name (nmsG ((sorted l).take f)) with
      | false => rfl
      | true =>
        have := (nms_first hz hm).1 (hasW_iff.1 e)
        omega
  obtain ⟨W, hW⟩ : ∃ W, waitN l (nmsG ((sorted l).take f)) = W := ⟨_, rfl⟩
  rw [hW] at hin ⊢
  have h1 : (sorted l)[f] ∈ W := (hin _).2 ⟨f, hf, Nat.le_refl _, rfl⟩
  obtain ⟨j, hj, e⟩ := List.getElem_of_mem h1
  have h2 := minG_le (W := W) (W.length - 1) j hj (by omega) (by omega)
  have h3 := minG_mem (W := W) (W.length - 1) (by omega)
  obtain ⟨m, hm, hfm, e2⟩ := (hin _).1 h3
  have h4 := pair_le hs hf hm hfm
  rw [e] at h2
  rw [e2] at h4
  show (minG W (W.length - 1)).v = _
  omega
def Known (l : List Gun) (s : ByteArray) : Prop := ∃ i, ∃ h : i < l.length, l[i].name = s
theorem known_pos {l : List Gun} {s : ByteArray} (h : Known l s) : ¬ atV l s l.length < 0 := by
  intro hn
  obtain ⟨i, hi, e⟩ := h
  unfold atV at hn
  split at hn
  · omega
  · rename_i hf
    rw [List.take_length, List.findIdx?_eq_none_iff] at hf
    have := hf _ (List.getElem_mem hi)
    simp [e] at this
theorem rowP_nodup {l : List Gun} : ∀ {r seen : List ByteArray}, (∀ s ∈ r, Known l s) → (seen ++ r).Nodup → rowP l seen r = 0
  | [], _, _, _ => rfl
  | s :: r, seen, hk, hn => by
    have h1 : s ∉ seen := fun h => by
      rw [List.nodup_append] at hn
      exact hn.2.2 s h s (List.mem_cons_self ..) rfl
    have h2 : nameP l seen s = 0 := by
      unfold nameP
      rw [if_neg (known_pos (hk s (List.mem_cons_self ..))), if_neg fun h => h1 (hasW_iff.1 h)]
    rw [rowP, if_pos h2]
    exact rowP_nodup (fun x hx => hk x (List.mem_cons_of_mem _ hx)) (by rw [List.append_assoc]; exact hn)
theorem stpP_nodup {l : List Gun} : ∀ {ls : List (List ByteArray)} {seen : List ByteArray}, (∀ r ∈ ls, r ≠ []) → (∀ s ∈ ls.flatten, Known l s) → (seen ++ ls.flatten).Nodup → stpP l seen ls = if (seen ++ ls.flatten).length < l.length then 32 else 0
  | [], seen, _, _, _ => by simp [stpP]
  | r :: ls, seen, hne, hk, hn => by
    rw [List.flatten_cons, ← List.append_assoc] at hn
    have h1 : rowP l seen r = 0 := rowP_nodup (fun s hs => hk s (by rw [List.flatten_cons]; exact List.mem_append_left _ hs)) (List.nodup_append.1 hn).1
    rw [stpP, if_neg (hne r (List.mem_cons_self ..)), if_pos h1, stpP_nodup (fun x hx => hne x (List.mem_cons_of_mem _ hx)) (fun s hs => hk s (by rw [List.flatten_cons]; exact List.mem_append_right _ hs)) hn, List.flatten_cons, List.append_assoc]
abbrev rowN (l : List Gun) (f t : Nat) : List ByteArray := nmsG (((sorted l).take t).drop f)
theorem softL_eq (l : List Gun) : softL l = [((sorted l).getD 0 zeroG).name] :: (cuts (vsG l) (l.length - 1) 1).map fun p => rowN l p.1 p.2 := by
  unfold softL softD
  rw [List.map_cons, List.map_map, vsG_len]
  rfl
theorem stopAt_le {V : List Int} {f : Nat} : ∀ (k to : Nat), stopAt V f k to = to ∨ sumTo V (stopAt V f k to) ≤ 2 * sumTo V f
  | 0, to => .inl rfl
  | k + 1, to => by
    rw [stopAt]
    split
    · rename_i h
      rcases stopAt_le (V := V) (f := f) k (to + 1) with e | e
      · rw [e]; exact .inr h.2
      · exact .inr e
    · exact .inl rfl
theorem stopAt_gt {V : List Int} {f : Nat} : ∀ (k to : Nat), V.length - to ≤ k → stopAt V f k to < V.length → 2 * sumTo V f < sumTo V (stopAt V f k to + 1)
  | 0, to, h, h2 => by rw [stopAt] at h2; omega
  | k + 1, to, h, h2 => by
    rw [stopAt] at h2 ⊢
    split
    · rename_i h3
      rw [if_pos h3] at h2
      exact stopAt_gt k (to + 1) (by omega) h2
    · rename_i h3
      rw [if_neg h3] at h2
      have : ¬ sumTo V (to + 1) ≤ 2 * sumTo V f := fun h4 => h3 ⟨h2, h4⟩
      omega
def nxt (l : List Gun) (i f : Nat) : Nat := if i = 0 then 1 else nextS (vsG l) f
/-- the step 'i' begins at the gun 'f' -/
structure At (l : List Gun) (i f : Nat) : Prop where
  le : f ≤ l.length
  pos : (i = 0 ∧ f = 0) ∨ (1 ≤ i ∧ 1 ≤ f ∧ (softL l).drop i = (cuts (vsG l) (l.length - f) f).map fun p => rowN l p.1 p.2)
  seen : seenN (softL l) i = nmsG ((sorted l).take f)
structure Nx (l : List Gun) (i f t : Nat) : Prop where
  lt : f < t
  le : t ≤ l.length
  row : rowAt (softL l) i = rowN l f t
  next : At l (i + 1) t
  more : t - f = 1 ∨ (i ≠ 0 ∧ sumTo (vsG l) t ≤ 2 * sumTo (vsG l) f)
  stop : i ≠ 0 → t < l.length → 2 * sumTo (vsG l) f < sumTo (vsG l) (t + 1)
theorem at_zero (l : List Gun) : At l 0 0 := ⟨Nat.zero_le _, .inl ⟨rfl, rfl⟩, by simp [nmsG]⟩
theorem row_first {l : List Gun} (h : 0 < l.length) : rowN l 0 1 = [((sorted l).getD 0 zeroG).name] := by
  have hz : 0 < (sorted l).length := by rw [sorted_len]; exact h
  have e := nms_take hz
  rw [rowN, List.drop_zero, e, List.getD_eq_getElem?_getD, List.getElem?_eq_getElem hz]
  rfl
theorem row_app {Z : List Gun} {f t : Nat} (h : f ≤ t) : nmsG (Z.take f) ++ nmsG ((Z.take t).drop f) = nmsG (Z.take t) := by
  unfold nmsG
  rw [← List.map_append]
  congr 1
  have e1 : Z.take f = (Z.take t).take f := by rw [List.take_take, Nat.min_eq_left h]
  rw [e1, List.take_append_drop]
theorem at_next {l : List Gun} (hl : 0 < l.length) {i f : Nat} (h : At l i f) (hi : i < (softL l).length) : f < l.length ∧ Nx l i f (nxt l i f) := by
  rcases h.pos with ⟨rfl, rfl⟩ | ⟨h1, h2, h3⟩
  · have hn : nxt l 0 0 = 1 := if_pos rfl
    have hrow : rowAt (softL l) 0 = rowN l 0 1 := by
      rw [row_first hl, softL_eq]
      rfl
    rw [hn]
    refine ⟨hl, Nat.lt_succ_self 0, hl, hrow, ⟨hl, .inr ⟨Nat.le_refl _, Nat.le_refl _, by rw [softL_eq]; rfl⟩, ?_⟩, .inl rfl, fun h => absurd rfl h⟩
    have e := flat_succ hi
    rw [← rowAt_eq hi, hrow] at e
    rw [show seenN (softL l) (0 + 1) = _ from e]
    simp [rowN]
  · have hfl : f < l.length := by
      refine Nat.lt_of_not_le fun hge => ?_
      have hc : cuts (vsG l) (l.length - f) f = [] := by rw [show l.length - f = 0 by omega]; rfl
      rw [hc, List.map_nil] at h3
      have := congrArg List.length h3
      rw [List.length_drop, List.length_nil] at this
      omega
    have hvl := vsG_len l
    have hn : nxt l i f = nextS (vsG l) f := if_neg (by omega)
    have hgo := cuts_go (V := vsG l) (from' := f) (by omega) (l.length - f) (by omega)
    have hgt := nextS_gt (V := vsG l) (from' := f) (by omega)
    rw [hgo, List.map_cons, hvl] at h3
    have hrow : rowAt (softL l) i = rowN l f (nextS (vsG l) f) := by
      have h4 : ((softL l).drop i)[0]? = some (rowN l f (nextS (vsG l) f)) := by rw [h3]; rfl
      rw [List.getElem?_drop, Nat.add_zero] at h4
      rw [rowAt_eq hi]
      rw [List.getElem?_eq_getElem hi] at h4
      exact Option.some.inj h4
    rw [hn]
    refine ⟨hfl, hgt.1, by omega, hrow, ⟨by omega, .inr ⟨by omega, by omega, ?_⟩, ?_⟩, ?_, fun _ htl => ?_⟩
    · have h5 : (softL l).drop (i + 1) = ((softL l).drop i).tail := by rw [← List.drop_one, List.drop_drop]
      rw [h5, h3]
      rfl
    · have e := flat_succ hi
      rw [← rowAt_eq hi, hrow] at e
      rw [show seenN (softL l) (i + 1) = _ from e, show ((softL l).take i).flatten = _ from h.seen]
      exact row_app (by omega)
    · rcases stopAt_le (V := vsG l) (f := f) ((vsG l).length - (f + 1)) (f + 1) with e | e
      · left
        unfold nextS
        rw [e]
        omega
      · exact .inr ⟨by omega, e⟩
    · exact stopAt_gt (V := vsG l) (f := f) ((vsG l).length - (f + 1)) (f + 1) (Nat.le_refl _) (by show nextS (vsG l) f < _; omega)
theorem at_end {l : List Gun} (_ : 0 < l.length) {i f : Nat} (h : At l i f) (hi : ¬ i < (softL l).length) : f = l.length := by
  rcases h.pos with ⟨rfl, rfl⟩ | ⟨h1, h2, h3⟩
  · exact absurd (by rw [softL_eq]; simp) hi
  · have hfl : ¬ f < l.length := fun hfl => by
      have hgo := cuts_go (V := vsG l) (from' := f) (by rw [vsG_len]; exact hfl) (l.length - f) (by rw [vsG_len]; exact Nat.le_refl _)
      rw [hgo, List.drop_eq_nil_of_le (by omega)] at h3
      simp at h3
    have := h.le
    omega
theorem at_reach {l : List Gun} (hl : 0 < l.length) : ∀ i, i ≤ (softL l).length → ∃ f, At l i f
  | 0, _ => ⟨0, at_zero l⟩
  | i + 1, h => by
    obtain ⟨f, hf⟩ := at_reach hl i (by omega)
    exact ⟨_, (at_next hl hf (by omega)).2.next⟩
theorem nx_more {l : List Gun} (hl : 0 < l.length) {i f t : Nat} (h : Nx l i f t) : i + 1 < (softL l).length ↔ t < l.length := by
  constructor
  · exact fun hi => (at_next hl h.next hi).1
  · intro ht
    refine Nat.lt_of_not_le fun hge => ?_
    have := at_end hl h.next (by omega)
    omega
theorem softL_len2 {l : List Gun} (hl : 0 < l.length) : (softL l).length ≤ l.length ∧ 0 < (softL l).length := by
  rw [softL_eq, List.length_cons, List.length_map]
  have := cuts_len (V := vsG l) (l.length - 1) 1
  omega
theorem softL_flat {l : List Gun} (hl : 0 < l.length) : (softL l).flatten = nmsG (sorted l) := by
  obtain ⟨f, hf⟩ := at_reach hl (softL l).length (Nat.le_refl _)
  have hfe := at_end hl hf (Nat.lt_irrefl _)
  have := hf.seen
  rw [hfe] at this
  unfold seenN at this
  rw [List.take_length] at this
  rw [this, List.take_of_length_le (by rw [sorted_len]; exact Nat.le_refl _)]
theorem known_sorted {l : List Gun} {s : ByteArray} (h : s ∈ nmsG (sorted l)) : Known l s := by
  obtain ⟨g, hg, rfl⟩ := nms_mem.1 h
  obtain ⟨i, hi, e⟩ := List.getElem_of_mem (sorted_mem.1 hg)
  exact ⟨i, hi, by rw [e]⟩
theorem rowN_len {l : List Gun} {f t : Nat} (h : f ≤ t) (ht : t ≤ l.length) : (rowN l f t).length = t - f := by
  rw [rowN, nms_len, List.length_drop, List.length_take, sorted_len]
  omega
theorem soft_rule {l : List Gun} (hE : strE l = 0) {i : Nat} (hi : i < (softL l).length) : badP l (softL l) i = false := by
  obtain ⟨hne, _, hd, hb⟩ := strE_zero hE
  have hl : 0 < l.length := List.length_pos_iff.2 hne
  obtain ⟨f, hf⟩ := at_reach hl i (by omega)
  obtain ⟨hfl, hx⟩ := at_next hl hf hi
  obtain ⟨t, ht⟩ : ∃ t, nxt l i f = t := ⟨_, rfl⟩
  rw [ht] at hx
  have hfs : f < (sorted l).length := by rw [sorted_len]; exact hfl
  have happ : seenN (softL l) i ++ rowAt (softL l) i = nmsG ((sorted l).take t) := by
    rw [hx.row, hf.seen]
    exact row_app (Nat.le_of_lt hx.lt)
  unfold badP
  rw [happ, sum_nms hd t hx.le]
  have hs1 : sumN l (seenN (softL l) i) = sumTo (vsG l) f := by rw [hf.seen, sum_nms hd f (Nat.le_of_lt hfl)]
  rw [hs1]
  rcases hx.more with h1 | ⟨h1, h2⟩
  · have htf : t = f + 1 := by have := hx.lt; omega
    have hal : aloneP l (seenN (softL l) i) (rowAt (softL l) i) = true := by
      unfold aloneP
      rw [happ, sum_nms hd t hx.le, hs1, hx.row, rowN_len (Nat.le_of_lt hx.lt) hx.le, hf.seen, least_wait hb hd hfs, htf, sumTo_succ (by rw [vsG_len]; exact hfl), vs_get hfs]
      have e1 : f + 1 - f = 1 := by omega
      have e2 : sumTo (vsG l) f + (sorted l)[f].v - sumTo (vsG l) f = (sorted l)[f].v := by omega
      rw [e1, e2, decide_eq_true rfl, decide_eq_true rfl]
      rfl
    rw [hal]
    rfl
  · unfold badS
    have h3 : ¬ 2 * sumTo (vsG l) f < sumTo (vsG l) t := by omega
    simp [h1, h3]
theorem soft_start {l : List Gun} (hE : strE l = 0) : startE l (softL l) = 0 := by
  obtain ⟨hne, _, hd, hb⟩ := strE_zero hE
  have hl : 0 < l.length := List.length_pos_iff.2 hne
  have hfl := softL_flat hl
  have h1 : stpP l [] (softL l) = 0 := by
    rw [stpP_nodup (fun r hr => (softL_row hr).1) (fun s hs => known_sorted (by rw [← hfl]; exact hs)) (by rw [List.nil_append, hfl]; exact nms_nodup hb hd), List.nil_append, hfl, nms_len, sorted_len, if_neg (Nat.lt_irrefl _)]
  unfold startE
  rw [if_pos hE, if_pos h1]
  exact ruleV_miss fun j hj => soft_rule hE hj
theorem soft_fewer {l : List Gun} (hE : strE l = 0) {k : Nat} (hk : k < (softL l).length) : startE l ((softL l).take k ++ (softL l).drop (k + 1)) = 32 := by
  obtain ⟨hne, _, hd, hb⟩ := strE_zero hE
  have hl : 0 < l.length := List.length_pos_iff.2 hne
  have hfl := softL_flat hl
  have e1 : softL l = (softL l).take k ++ ((softL l)[k] :: (softL l).drop (k + 1)) := by rw [← List.drop_eq_getElem_cons hk, List.take_append_drop]
  have hrow := (softL_row (List.getElem_mem hk)).1
  have hrl : 0 < (softL l)[k].length := List.length_pos_iff.2 hrow
  have e2 : (softL l).flatten = ((softL l).take k).flatten ++ ((softL l)[k] ++ ((softL l).drop (k + 1)).flatten) := by
    conv => lhs; rw [e1]
    rw [List.flatten_append, List.flatten_cons]
  have e3 : ((softL l).take k ++ (softL l).drop (k + 1)).flatten = ((softL l).take k).flatten ++ ((softL l).drop (k + 1)).flatten := List.flatten_append
  have hsub : (((softL l).take k ++ (softL l).drop (k + 1)).flatten).Sublist (softL l).flatten := by
    rw [e2, e3]
    exact List.Sublist.append_left (List.sublist_append_right _ _) _
  have hlen : (((softL l).take k ++ (softL l).drop (k + 1)).flatten).length < l.length := by
    have h1 := congrArg List.length e2
    rw [hfl, nms_len, sorted_len, List.length_append, List.length_append] at h1
    rw [e3, List.length_append]
    omega
  have h1 : stpP l [] ((softL l).take k ++ (softL l).drop (k + 1)) = 32 := by
    rw [stpP_nodup (fun r hr => ?_) (fun s hs => known_sorted (by rw [← hfl]; exact hsub.subset hs)) (by rw [List.nil_append]; exact hsub.nodup (by rw [hfl]; exact nms_nodup hb hd)), List.nil_append, if_pos hlen]
    rcases List.mem_append.1 hr with h | h
    · exact (softL_row (List.mem_of_mem_take h)).1
    · exact (softL_row (List.mem_of_mem_drop h)).1
  unfold startE
  rw [if_pos hE, if_neg (by rw [h1]; decide), h1]
def totG : List Gun → Int
  | [] => 0
  | g :: l => g.v + totG l
theorem tot_fold : ∀ (l : List Gun) (a : Int), (l.map Gun.v).foldl (· + ·) a = a + totG l
  | [], a => by simp [totG]
  | g :: l, a => by
    rw [List.map_cons, List.foldl_cons, tot_fold l, totG]
    omega
theorem tot_app : ∀ a b : List Gun, totG (a ++ b) = totG a + totG b
  | [], b => by simp [totG]
  | g :: a, b => by
    rw [List.cons_append, totG, totG, tot_app a b]
    omega
theorem tot_rev : ∀ a : List Gun, totG a.reverse = totG a
  | [] => rfl
  | g :: a => by
    rw [List.reverse_cons, tot_app, tot_rev a]
    simp [totG]
    omega
theorem tot_ins (x : Gun) : ∀ l : List Gun, totG (insR Gun.v x l) = x.v + totG l
  | [] => rfl
  | y :: l => by
    rw [insR]
    split
    · rw [totG, tot_ins x l, totG]
      omega
    · rfl
theorem tot_fold2 (l : List Gun) : ∀ acc : List Gun, totG (l.foldl (fun acc x => insR Gun.v x acc) acc) = totG acc + totG l := by
  induction l with
  | nil => intro acc; simp [totG]
  | cons x l ih =>
    intro acc
    rw [List.foldl_cons, ih, tot_ins, totG]
    omega
theorem vol_all {l : List Gun} (hb : ∀ g ∈ l, 1 ≤ g.v ∧ g.v ≤ 64) (hl : l.length ≤ 4096) : volW l = sumTo (vsG l) l.length := by
  have h1 := (volW_sum l 0 hb (by omega) (by omega)).1
  have h2 : volW l = totG l := by
    unfold volW
    rw [h1, tot_fold]
    omega
  rw [h2]
  unfold sumTo
  rw [List.take_of_length_le (by rw [vsG_len]; exact Nat.le_refl _)]
  unfold vsG
  rw [tot_fold]
  unfold sorted srtR
  rw [tot_rev, tot_fold2]
  simp [totG]
/-- a gun of the order, found by its name -/
theorem find_sorted {l : List Gun} (hd : Dis l) {m : Nat} (hm : m < (sorted l).length) : ∃ k, ∃ hk : k < l.length, atV l (sorted l)[m].name l.length = (k : Int) ∧ l[k].v = (sorted l)[m].v := by
  obtain ⟨i, hi, e⟩ := List.getElem_of_mem (sorted_mem.1 (List.getElem_mem hm))
  refine ⟨i, hi, ?_, by rw [e]⟩
  refine atV_hit (Nat.le_refl _) hi (by rw [e]) fun j hj e2 => ?_
  have := hd j i (by omega) hi (by rw [e]; exact e2)
  omega
end Go.Proofs.YtndlfijfjglkdaaGreatDoor

namespace Go.Proofs.YtndlfijfjglkdaaGreatDoor
open Go Go.Ab Go.Proofs Go.Soft
theorem nest_part {H : Heap} {a : Addr} {c : Nat} {ls : List (List ByteArray)} (h : nestS H (.slice (some a) ls.length c) = some ls) {l k : Nat} (hlk : l + k ≤ ls.length) {s : Option Nat} {c' : Nat} (hf : flat ⟨a.block, a.off + l, s⟩ = true ∨ k = 0) : nestS H (.slice (some ⟨a.block, a.off + l, s⟩) k c') = some ((ls.drop l).take k) := by
  obtain ⟨oa, c0, e, h1, _, h3⟩ := nestS_form h
  injection e with e1 e2 e3
  subst e1
  have hlen : ((ls.drop l).take k).length = k := by rw [List.length_take, List.length_drop]; omega
  have hS : StpV H (.slice (some ⟨a.block, a.off + l, s⟩) k c') ((ls.drop l).take k) := by
    refine ⟨some ⟨a.block, a.off + l, s⟩, c', by rw [hlen], by omega, fun e => (by cases e), fun i hi => ?_⟩
    rw [hlen] at hi
    obtain ⟨a', r, f1, _, f3, f4⟩ := h3 (l + i) (by omega)
    injection f1 with f1
    subst f1
    refine ⟨_, r, rfl, ?_, ?_, ?_⟩
    · rcases hf with hf | hf
      · exact hf
      · omega
    · show cellA H a.block (a.off + l + i) = some r
      rw [Nat.add_assoc]
      exact f3
    · rw [List.getElem_take, List.getElem_drop]
      obtain ⟨ob, d, q1, q2, q3, q4⟩ := strV_form f4
      exact ⟨ob, d, q1, by omega, q3, q4⟩
  refine hS.small (by omega) fun r hr => ?_
  have hm := List.mem_of_mem_drop (List.mem_of_mem_take hr)
  obtain ⟨i, hi, rfl⟩ := List.getElem_of_mem hm
  obtain ⟨_, _, _, _, _, f4⟩ := h3 i hi
  obtain ⟨_, _, _, q2, _⟩ := strV_form f4
  exact q2
def Row2 (H : Heap) (m L : Nat) : Prop := L ≠ 1 → ∃ cs : List Value, (hget H m = some (.ext cs 102 1) ∨ hget H m = some (.row cs 1)) ∧ cs.length = L
section
variable {fr : Fr} {H : Heap} {n m L k : Nat} {x y : Operand}
theorem used_row2 {cs : List Value} (h : hget H m = some (.ext cs 102 1) ∨ hget H m = some (.row cs 1)) (o s : Nat) : usedA H 1 (some ⟨m, o, some 0⟩) s = cs.length - s := by
  rcases h with h | h <;> simp [usedA, h]
theorem oT_hi (hm : Row2 H m L) (hk : k < L) (hx : evO Tryz.prog fr x = some (oT.val m L)) (hy : evO Tryz.prog fr y = some (iv k)) :
    opSlice Tryz.prog 122 x none (some y) none fr H n = some (.slice (some ⟨m, 0, if L = 1 then none else some 0⟩) k (if L = 1 then 1 else 0), H, n) := by
  by_cases h1 : L = 1
  · have hv : oT.val m L = .slice (some ⟨m, 0, none⟩) 1 1 := if_pos h1
    obtain rfl : k = 0 := by omega
    rw [hv] at hx
    simp only [opSlice, hx, evI, hy, Tryz.underlying122, show szA Tryz.prog 102 = some 1 from by simp, if_pos h1]
    simp [sliceA, boundA]
  · have hv : oT.val m L = .slice (some ⟨m, 0, some 0⟩) L 0 := if_neg h1
    obtain ⟨cs, hc, hl⟩ := hm h1
    have h2 : k ≤ L := by omega
    have h3 : 0 < L := by omega
    rw [hv] at hx
    simp only [opSlice, hx, evI, hy, Tryz.underlying122, show szA Tryz.prog 102 = some 1 from by simp, if_neg h1, used_row2 hc, hl]
    simp [sliceA, boundA, h2, h3]
theorem oT_lo (hm : Row2 H m L) (hk : k < L) (hx : evO Tryz.prog fr x = some (oT.val m L)) (hy : evO Tryz.prog fr y = some (iv ((k : Int) + 1))) :
    opSlice Tryz.prog 122 x (some y) none none fr H n = some (.slice (some ⟨m, if L = 1 then 0 else k + 1, if L = 1 then none else some (if k + 1 < L then 0 else k + 1)⟩) (L - (k + 1)) (if L = 1 then 0 else k + 1), H, n) := by
  have hk1 : (0 : Int) ≤ (k : Int) + 1 := by omega
  have hk2 : ((k : Int) + 1).toNat = k + 1 := by omega
  by_cases h1 : L = 1
  · have hv : oT.val m L = .slice (some ⟨m, 0, none⟩) 1 1 := if_pos h1
    obtain rfl : k = 0 := by omega
    rw [hv] at hx
    simp only [opSlice, hx, evI, hy, Tryz.underlying122, show szA Tryz.prog 102 = some 1 from by simp, if_pos h1]
    simp [sliceA, boundA, h1]
  · have hv : oT.val m L = .slice (some ⟨m, 0, some 0⟩) L 0 := if_neg h1
    obtain ⟨cs, hc, hl⟩ := hm h1
    have h2 : k + 1 ≤ L := by omega
    rw [hv] at hx
    simp only [opSlice, hx, evI, hy, Tryz.underlying122, show szA Tryz.prog 102 = some 1 from by simp, if_neg h1, used_row2 hc, hl]
    by_cases h3 : k + 1 < L
    · simp [sliceA, boundA, hk1, hk2, h2, h3]
    · simp [sliceA, boundA, hk1, hk2, h2, h3]
end
theorem kvs_app {K : RowK ByteArray decS} : ∀ (ms ns : List Nat) (p q : List (List ByteArray)), ms.length = p.length → kvs K (ms ++ ns) (p ++ q) = kvs K ms p ++ kvs K ns q
  | [], _, [], _, _ => rfl
  | m :: ms, ns, r :: p, q, h => by
    rw [List.cons_append, List.cons_append, kvs, kvs, kvs_app ms ns p q (by simpa using h), List.cons_append]
  | [], _, _ :: _, _, h => by simp at h
  | _ :: _, _, [], _, h => by simp at h
theorem kvs_one : ∀ (ms : List Nat) (p : List (List ByteArray)), oneL (kvs kS ms p) = true
  | m :: ms, r :: p => by
    obtain ⟨s, e⟩ := kS_form m r
    have := kvs_one ms p
    simp [kvs, e, oneL, this]
  | [], _ => rfl
  | _ :: _, [] => rfl
theorem nest_kvs {H : Heap} {o : Nat} {ms : List Nat} {p : List (List ByteArray)} (hl : ms.length = p.length) (ho : hget H o = some (.ext (kvs kS ms p) 102 1)) (hr : ∀ (i m : Nat) (l : List ByteArray), ms[i]? = some m → p[i]? = some l → hget H m = some (kS.blk l)) (h1 : p.length < 2147483648) (h2 : ∀ l ∈ p, l.length < 2147483648) : nestS H (.slice (some ⟨o, 0, some 0⟩) p.length 0) = some p := by
  have hk := kvs_len kS ms p hl
  refine listV_mk (cs := kvs kS ms p) rfl (by rw [cellsA_eq, ho]; simp [cellsB]) hk h1 fun i v hv => ?_
  have hi : i < p.length := by
    have := (List.getElem?_eq_some_iff.1 hv).1
    omega
  have hm : ms[i]? = some ms[i] := List.getElem?_eq_getElem (by omega)
  have e1 := kvs_get kS ms p i _ p[i] hm (List.getElem?_eq_getElem hi)
  rw [e1] at hv
  injection hv with hv
  subst hv
  rw [List.getElem?_eq_getElem hi]
  exact kS.see _ _ _ (hr i _ _ hm (List.getElem?_eq_getElem hi)) (h2 _ (List.getElem_mem hi))
theorem ndB_row {n : Nat} {p : List (List ByteArray)} {H : Heap} : hget (ndB kS (oEx 102) n p ++ H) n = some (.ext (kvs kS (names (n + 1) p.length) p) 102 1) ∧ ∀ (i m : Nat) (l : List ByteArray), (names (n + 1) p.length)[i]? = some m → p[i]? = some l → hget (ndB kS (oEx 102) n p ++ H) m = some (kS.blk l) := by
  refine ⟨by rw [ndB, List.cons_append, hget_cons, if_pos rfl]; rfl, fun i m l h1 h2 => ?_⟩
  obtain ⟨rfl, hi⟩ := names_at h1
  rw [ndB, List.cons_append, hget_cons, if_neg (by omega)]
  exact kbs_at kS _ _ p i _ rfl h2 H
theorem lisB_nm {n : Nat} {p : List (List ByteArray)} {X : Heap} (hX : namesOk n X = true) : namesOk (lisN n p) (lisB n p ++ X) = true ∧ n ≤ lisN n p := by
  unfold lisN lisB
  by_cases h : p = []
  · rw [if_pos h, if_pos h]
    exact ⟨hX, Nat.le_refl _⟩
  · rw [if_neg h, if_neg h]
    exact ⟨namesOk_app (fun x hx => (ndB_names x hx).2) (namesOk_mono (by omega) _ hX), by omega⟩
theorem app_lis {n1 : Nat} {p1 p2 : List (List ByteArray)} {X : Heap} (hX : namesOk n1 X = true) (h1 : p1.length + p2.length < 2147483648) (h2 : ∀ l ∈ p1 ++ p2, l.length < 2147483648) :
    ∃ w X3 N3, builtinA Tryz.prog .append #[122, 122] (lisB (lisN n1 p1) p2 ++ (lisB n1 p1 ++ X)) (lisN (lisN n1 p1) p2) [lisV n1 p1, lisV (lisN n1 p1) p2] = some (w, X3, N3) ∧ nestS X3 w = some (p1 ++ p2) ∧ Sub X X3 ∧ namesOk N3 X3 = true ∧ lisN (lisN n1 p1) p2 ≤ N3 := by
  obtain ⟨q1, q2⟩ := lisB_nm (p := p1) hX
  obtain ⟨q3, q4⟩ := lisB_nm (p := p2) q1
  have hs1 : Sub X (lisB n1 p1 ++ X) := by unfold lisB; split; exact Sub.refl _; exact sub_nd fun j hj => namesOk_none hX j hj
  by_cases hp2 : p2 = []
  · subst hp2
    have e1 : lisB (lisN n1 p1) [] = [] := rfl
    have e2 : lisV (lisN n1 p1) [] = .slice none 0 0 := rfl
    have e3 : lisN (lisN n1 p1) [] = lisN n1 p1 := rfl
    rw [e1, e2, e3, List.nil_append, List.append_nil]
    refine ⟨lisV n1 p1, lisB n1 p1 ++ X, lisN n1 p1, ?_, lis_nest (by omega) fun l hl => h2 l (List.mem_append_left _ hl), hs1, q1, Nat.le_refl _⟩
    by_cases hp1 : p1 = []
    · subst hp1
      simp [lisV, inf102]
    · have hk := kvs_len kS (names (n1 + 1) p1.length) p1 (names_len _ _)
      have ho := (ndB_row (n := n1) (p := p1) (H := X)).1
      have hv : lisV n1 p1 = .slice (some ⟨n1, 0, some 0⟩) p1.length 0 := if_neg hp1
      have hb : lisB n1 p1 = ndB kS (oEx 102) n1 p1 := if_neg hp1
      rw [hv, hb]
      simp [inf102, ho, hk]
  · obtain ⟨m2, hm2⟩ : ∃ m2, lisN n1 p1 = m2 := ⟨_, rfl⟩
    rw [hm2] at q1 q2 q3 q4 ⊢
    have hv2 : lisV m2 p2 = .slice (some ⟨m2, 0, some 0⟩) p2.length 0 := if_neg hp2
    have hb2 : lisB m2 p2 = ndB kS (oEx 102) m2 p2 := if_neg hp2
    have hn2 : lisN m2 p2 = m2 + 1 + p2.length := if_neg hp2
    have hpos : p2.length ≠ 0 := fun e => hp2 (List.length_eq_zero_iff.1 e)
    obtain ⟨Y, hY⟩ : ∃ Y, lisB n1 p1 ++ X = Y := ⟨_, rfl⟩
    rw [hY] at q1 q3 hs1
    obtain ⟨r1, r2⟩ := ndB_row (n := m2) (p := p2) (H := Y)
    have hsY : Sub Y (ndB kS (oEx 102) m2 p2 ++ Y) := sub_nd fun j hj => namesOk_none q1 j hj
    rw [hv2, hb2, hn2, hY]
    rw [hb2, hn2] at q3
    obtain ⟨Z, hZ⟩ : ∃ Z, ndB kS (oEx 102) m2 p2 ++ Y = Z := ⟨_, rfl⟩
    rw [hZ] at r1 r2 hsY q3 ⊢
    have hk2 := kvs_len kS (names (m2 + 1) p2.length) p2 (names_len _ _)
    have hc2 : cellsA Z m2 0 p2.length = some (kvs kS (names (m2 + 1) p2.length) p2) := by
      rw [cellsA_eq, r1]
      simp [cellsB, hk2]
      exact List.take_of_length_le (by omega)
    have ho2 := kvs_one (names (m2 + 1) p2.length) p2
    obtain ⟨N3, hN3⟩ : ∃ N3, m2 + 1 + p2.length = N3 := ⟨_, rfl⟩
    rw [hN3] at q3 ⊢
    by_cases hp1 : p1 = []
    · subst hp1
      have hsm : p2.length * 24 ≤ 1099511627776 ∧ p2.length ≤ 1099511627776 := by omega
      have hv1 : lisV n1 [] = .slice none 0 0 := rfl
      rw [hv1]
      refine ⟨.slice (some ⟨N3, 0, some 0⟩) p2.length 0, (N3, .ext (kvs kS (names (m2 + 1) p2.length) p2) 102 1) :: Z, N3 + 1, ?_, ?_, ?_, namesOk_put (Nat.lt_succ_self _) (namesOk_mono (by omega) _ q3), by omega⟩
      · obtain ⟨ks, hks⟩ : ∃ ks, kvs kS (names (m2 + 1) p2.length) p2 = ks := ⟨_, rfl⟩
        rw [hks] at hc2 ho2 hk2 ⊢
        simp [-cellsA, inf102, hpos, hc2, ho2, hk2, hsm]
      · rw [List.nil_append]
        refine nest_kvs (names_len _ _) (by rw [hget_cons, if_pos rfl]) (fun i m l e1 e2 => ?_) (by simpa using h1) fun l hl => h2 l (by simpa using hl)
        obtain ⟨rfl, hi⟩ := names_at e1
        rw [hget_cons, if_neg (by omega)]
        exact r2 i _ l e1 e2
      · exact hs1.trans (hsY.trans (Sub.cons (namesOk_none q3 _ (Nat.le_refl _)) (Sub.refl _)))
    · have hv1 : lisV n1 p1 = .slice (some ⟨n1, 0, some 0⟩) p1.length 0 := if_neg hp1
      have hb1 : lisB n1 p1 = ndB kS (oEx 102) n1 p1 := if_neg hp1
      have hn1 : n1 + 1 + p1.length = m2 := by rw [← hm2]; exact (if_neg hp1).symm
      have hpos1 : p1.length ≠ 0 := fun e => hp1 (List.length_eq_zero_iff.1 e)
      obtain ⟨t1, t2⟩ := ndB_row (n := n1) (p := p1) (H := X)
      rw [hb1] at hY
      rw [hY] at t1 t2
      have hk1 := kvs_len kS (names (n1 + 1) p1.length) p1 (names_len _ _)
      have hz1 := hsY _ _ t1
      have hsm : (p1.length + p2.length) * 24 ≤ 1099511627776 ∧ p1.length + p2.length ≤ 1099511627776 := by omega
      have hle : ¬ p1.length + p2.length ≤ p1.length := by omega
      rw [hv1]
      refine ⟨.slice (some ⟨N3, 0, some 0⟩) (p1.length + p2.length) 0, (N3, .ext (kvs kS (names (n1 + 1) p1.length ++ names (m2 + 1) p2.length) (p1 ++ p2)) 102 1) :: hdel Z n1, N3 + 1, ?_, ?_, ?_, namesOk_put (Nat.lt_succ_self _) (namesOk_mono (by omega) _ (namesOk_hdel q3)), by omega⟩
      · rw [kvs_app _ _ _ _ (names_len _ _)]
        obtain ⟨ks, hks⟩ : ∃ ks, kvs kS (names (m2 + 1) p2.length) p2 = ks := ⟨_, rfl⟩
        obtain ⟨js, hjs⟩ : ∃ js, kvs kS (names (n1 + 1) p1.length) p1 = js := ⟨_, rfl⟩
        rw [hks] at hc2 ho2 hk2 ⊢
        rw [hjs] at hz1 hk1 ⊢
        have htk : List.take p1.length js = js := List.take_of_length_le (by omega)
        simp [-cellsA, inf102, hpos, hc2, ho2, hk2, hz1, hk1, hsm, hle, htk]
      · rw [show p1.length + p2.length = (p1 ++ p2).length from (List.length_append ..).symm]
        refine nest_kvs (ms := names (n1 + 1) p1.length ++ names (m2 + 1) p2.length) (by rw [List.length_append, List.length_append, names_len, names_len]) (by rw [hget_cons, if_pos rfl]) (fun i m l e1 e2 => ?_) (by rw [List.length_append]; exact h1) h2
        by_cases hi : i < p1.length
        · rw [List.getElem?_append_left (by rw [names_len]; exact hi)] at e1
          rw [List.getElem?_append_left hi] at e2
          have e3 := e1
          obtain ⟨rfl, _⟩ := names_at e1
          rw [hget_cons, if_neg (by omega), hget_hdel, if_neg (by omega)]
          exact hsY _ _ (t2 i _ l e3 e2)
        · rw [List.getElem?_append_right (by rw [names_len]; omega), names_len] at e1
          rw [List.getElem?_append_right (by omega)] at e2
          have e3 := e1
          obtain ⟨rfl, _⟩ := names_at e1
          rw [hget_cons, if_neg (by omega), hget_hdel, if_neg (by omega)]
          exact r2 _ _ l e3 e2
      · intro k b hk
        have hkn : k < n1 := by
          refine Nat.lt_of_not_le fun h => ?_
          rw [namesOk_none hX k h] at hk
          cases hk
        rw [hget_cons, if_neg (by omega), hget_hdel, if_neg (by omega)]
        exact hsY _ _ (hs1 _ _ hk)
end Go.Proofs.YtndlfijfjglkdaaGreatDoor

namespace Go.Proofs.YtndlfijfjglkdaaGreatDoor
open Go Go.Ab Go.Proofs Go.Soft
theorem cvB (n : Int) : runP Tryz.prog (convert 5 3 (.int .u8 n)) = some (.int .i64 (IntKind.i64.wrap n)) := by kernel_rfl
/-- guns that are handed, beside what was made: their names and volumes -/
theorem guns_cells {H : Heap} {ga : Addr} {c : Nat} {l : List Gun} (h : GunsAt H (.slice (some ga) l.length c) l) {k : Nat} (hk : k < l.length) : flat ga = true ∧ cellA H ga.block (ga.off + k * 7 + 1) = some (iv l[k].v) := by
  obtain ⟨a, c', e, hf, hc, _, _⟩ := h
  injection e with e1 e2 e3
  injection e1 with e1
  subst e1
  have hc1 := cells_part (sz := 7) (i := k) hc hk
  rw [gcs_atB hk] at hc1
  exact ⟨hf, (cellsA_cell hc1 (i := 1) (by omega)).1⟩
theorem validB_ok {l : List Gun} (h : validB l = true) : l.length ≤ 6 ∧ strE l = 0 := by
  unfold validB at h
  rw [Bool.and_eq_true, Bool.and_eq_true] at h
  exact ⟨of_decide_eq_true h.1.2, of_decide_eq_true h.2⟩
theorem lisB_pl {n : Nat} {p : List (List ByteArray)} : plainH (lisB n p) = true := by
  have hk : ∀ (ms : List Nat) (p : List (List ByteArray)), plainH (kbs kS ms p) = true := by
    intro ms
    induction ms with
    | nil => intro p; cases p <;> rfl
    | cons m ms ih =>
      intro p
      cases p with
      | nil => rfl
      | cons r p =>
        rw [kbs, plainH, ih p, Bool.and_true]
        unfold kS kCp
        dsimp only
        split <;> rfl
  unfold lisB
  split
  · rfl
  · rw [ndB, plainH, hk, Bool.and_true]
    rfl
def lastV (Z : List Gun) (m : Nat) : Int := if m = 0 then 0 else (gunAt Z (m - 1)).v
theorem lastV_succ {Z : List Gun} {m : Nat} (h : m < Z.length) : lastV Z (m + 1) = Z[m].v := by
  unfold lastV
  rw [if_neg (by omega), Nat.add_sub_cancel, gunAt_eq h]
theorem lastV_le {l : List Gun} (hb : ∀ g ∈ l, 1 ≤ g.v ∧ g.v ≤ 64) {m : Nat} (h : m < (sorted l).length) : lastV (sorted l) m ≤ (sorted l)[m].v := by
  unfold lastV
  split
  · have := hb _ (sorted_mem.1 (List.getElem_mem h))
    omega
  · rw [gunAt_eq (by omega)]
    exact pair_le (sorted_le hb) (by omega) h (by omega)
theorem rowN_get {l : List Gun} {f t j : Nat} (h : f + j < t) (ht : t ≤ l.length) : (rowN l f t)[j]? = some ((sorted l)[f + j]'(by rw [sorted_len]; omega)).name := by
  have hz : f + j < (sorted l).length := by rw [sorted_len]; omega
  unfold rowN nmsG
  rw [List.getElem?_map, List.getElem?_drop, List.getElem?_take, if_pos h, List.getElem?_eq_getElem hz]
  rfl
set_option maxRecDepth 20000 in
set_option maxHeartbeats 4000000 in
theorem w11 {H : Heap} {n : Nat} {v : Value} {l : List Gun} (b : Int) (hbt : 0 ≤ b ∧ b ≤ 255) (g0 : hget H 0 = some (.inp 0 names0)) (g3 : hget H 3 = some (.inp 0 tab3)) (hs : strAt H (.agg ⟨[v]⟩) = some l) : AC Tryz.prog 11 [.agg ⟨[v]⟩, .int .u8 b] H n (.bool true) H n := by
  refine AC.given fun hold _ _ => AC.tidied (B := []) (by simp) ?_
  have hlt0 := fun k b h => (hold k b h).1
  replace g0 : hget (tidy n H) 0 = some (.inp 0 names0) := hget_tidy.2 ⟨g0, hlt0 _ _ g0, rfl⟩
  replace g3 : hget (tidy n H) 3 = some (.inp 0 tab3) := hget_tidy.2 ⟨g3, hlt0 _ _ g3, rfl⟩
  replace hs := strAt_tidy hlt0 hs
  have hr := recT_ok (P := Tryz.prog) (l := [(18, g18), (52, gStr fun l => .bool (validB l)), (21, g21), (69, g69), (74, g74), (73, g73), (75, g75), (25, gStr1 fun l => iv (volW l))]) (by simp only [List.forall_mem_cons]; exact ⟨ok18, ok52, ok21, ok69, ok74, ok73, ok75, ok25, by simp⟩)
  obtain ⟨X0, hX0⟩ : ∃ X0, (n, Blk.cells [v] 24) :: tidy n H = X0 := ⟨_, rfl⟩
  have hS0 : Sub (tidy n H) X0 := by rw [← hX0]; exact Sub.cons (by simp) (Sub.refl _)
  have hn0 : namesOk (n + 1) X0 = true := by rw [← hX0]; exact namesOk_put (Nat.lt_succ_self n) (by simp)
  have hp0 : plainH X0 = true := by rw [← hX0]; simp [plainH]
  have hb0 : hget X0 n = some (.cells [v] 24) := by rw [← hX0, hget_cons, if_pos rfl]
  have h180 : ∀ m, g18 [] X0 m = some (.bool true, X0, m) := fun m => by
    unfold g18
    rw [if_pos ⟨rfl, hS0 _ _ g3, hS0 _ _ g0⟩]
  have hbx : ∀ X, hget X n = some (.cells [v] 24) → cellsA X n 0 1 = some [v] := fun X hX => by rw [cellsA_eq, hX]; rfl
  have hbr : ∀ X, hget X n = some (.cells [v] 24) → cellsA (readA [n] X) n 0 1 = some [v] := fun X hX => by rw [cellsA_eq, hget_readA, if_pos (by simp), hX]; rfl
  have hby : ∀ X, hget X n = some (.cells [v] 24) → cellA X n 0 = some v := fun X hX => by rw [cellA_eq, hX]; rfl
  have h52 : ∀ m, gStr (fun l => .bool (validB l)) [.agg ⟨[v]⟩] X0 m = some (.bool (validB l), X0, m) := fun m => by
    simp only [gStr, strAt_mono hS0 hs, Option.map_some]
  have hc0 := hbx X0 hb0
  refine AC.pure Tryz.func11 rfl (by kernel_rfl) rfl [1, 2, 5, 7, 8, 9, 10, 11, 62, 63, 64, 70, 71, 72] rfl ?_
  refine E.seq ?_
  refine E.reg hr (by simp; rfl) ?_
  rw [hX0]
  refine E.seq ?_
  refine E.seq ?_
  cases hv : validB l with
  | false =>
    rw [hv] at h52
    refine E.reg hr (by simp [-cellsA, h180, hc0, h52]; rfl) ?_
    refine E.cond (t := true) (by simp) (fun _ => ?_) (fun h => by cases h)
    refine E.seq ?_
    refine E.reg hr (by simp [h180]; rfl) ?_
    refine E.ret ?_
    exact pureK.ret rfl rfl (by simp) hS0
  | true =>
  rw [hv] at h52
  obtain ⟨hl6, hE⟩ := validB_ok hv
  obtain ⟨hne, _, hd, hbd⟩ := strE_zero hE
  have hlp : 0 < l.length := List.length_pos_iff.2 hne
  have hG := strAt_guns hs hne (by omega)
  obtain ⟨ga, gcp, rfl, hgf, hgc, _, _⟩ := id hG
  have h21 : ∀ X m, Sub (tidy n H) X → g21 [.agg ⟨[.slice (some ga) l.length gcp]⟩] X m = some (.agg ⟨[.slice (some ⟨m, 0, some 0⟩) l.length 0]⟩, (m, .ext (gcs l) 95 7) :: X, m + 1) := fun X m hX => strAt_own (strAt_mono hX hs) hne (by omega)
  have a1 := h21 X0 (n + 1) hS0
  have hO1 := own_row (n := n + 1) (H := X0) hne (by omega)
  obtain ⟨X1, hX1⟩ : ∃ X1, (n + 1, Blk.ext (gcs l) 95 7) :: X0 = X1 := ⟨_, rfl⟩
  have hS1 : Sub X0 X1 := by rw [← hX1]; exact Sub.cons (namesOk_none hn0 _ (Nat.le_refl _)) (Sub.refl _)
  have hn1 : namesOk (n + 1 + 1) X1 = true := by rw [← hX1]; exact namesOk_put (Nat.lt_succ_self _) (namesOk_mono (by omega) _ hn0)
  have hp1 : plainH X1 = true := by rw [← hX1]; simp [plainH, hp0]
  have hb1 : hget X1 n = some (.cells [.slice (some ga) l.length gcp] 24) := hS1 _ _ hb0
  rw [hX1] at a1 hO1
  obtain ⟨W, hW⟩ : ∃ W, Value.slice (some ⟨n + 1, 0, some 0⟩) l.length 0 = W := ⟨_, rfl⟩
  rw [hW] at a1 hO1
  have a2 := g69_own (n := n + 1 + 1) hO1
  rw [if_pos hE] at a2
  have hsn := soft_nest (l := l) (n := n + 1 + 1) (H := X1) (by omega)
  obtain ⟨hd1, hd2, hd3⟩ := ndbD_ok (n := n + 1 + 1) (ds := softD l)
  obtain ⟨m5, hm5⟩ : ∃ m5, n + 1 + 1 = m5 := ⟨_, rfl⟩
  have hm5n : n < m5 := by omega
  have hLs : (softD l).length = (softL l).length := by unfold softL; rw [List.length_map]
  have hx5 : ndvD oT m5 (softD l) = oT.val m5 (softL l).length := by rw [ndvD, hLs]
  have hrow2 : ∀ Y : Heap, Row2 (ndbD kT oT m5 (softD l) ++ Y) m5 (softL l).length := fun Y h1 => by
    have hk := kvd_len kT (names (m5 + 1) (softD l).length) (softD l) (names_len _ _)
    refine ⟨_, .inl ?_, hk.trans hLs⟩
    rw [ndbD, List.cons_append, hget_cons, if_pos rfl]
    exact congrArg some (if_neg (by rw [hk, hLs]; exact h1))
  rw [hm5] at a2 hsn hd1 hd2 hd3 hn1
  rw [hx5] at a2 hsn
  obtain ⟨hL1, hL0⟩ := softL_len2 hlp
  obtain ⟨LS, hLS⟩ : ∃ LS, softL l = LS := ⟨_, rfl⟩
  obtain ⟨T, hT⟩ : ∃ T, LS.length = T := ⟨_, rfl⟩
  obtain ⟨N2, hN2⟩ : ∃ N2, m5 + 1 + (softD l).length = N2 := ⟨_, rfl⟩
  obtain ⟨X2, hX2⟩ : ∃ X2, ndbD kT oT m5 (softD l) ++ X1 = X2 := ⟨_, rfl⟩
  have hS2 : Sub X1 X2 := by rw [← hX2]; exact sub_app hd1 hn1
  have hn2 : namesOk N2 X2 = true := by
    rw [← hX2, ← hN2]
    refine namesOk_app (fun x hx => ?_) (namesOk_mono (by omega) _ hn1)
    have := (ndbD_names x hx).2
    omega
  have hp2 : plainH X2 = true := by rw [← hX2]; exact plainH_app hd3 hp1
  have hb2 : hget X2 n = some (.cells [.slice (some ga) l.length gcp] 24) := hS2 _ _ hb1
  have hR2 := hrow2 X1
  have hm5N : m5 < N2 := by omega
  have hnN : n < N2 := by omega
  rw [hN2, hX2] at a2
  rw [hX2] at hsn hR2
  have hsr := soft_start hE
  have hfw := fun k (hk : k < (softL l).length) => soft_fewer hE hk
  have hrows := fun r (hr : r ∈ softL l) => softL_row hr
  have hfl := softL_flat hlp
  rw [hLS] at a2 hsn hR2 hL1 hL0 hsr hrows hfl
  have hT2 : Sub (tidy n H) X2 := hS0.trans (hS1.trans hS2)
  have hG2 := hG.mono hT2
  have c2 := hbx X2 hb2
  have y2 := hby X2 hb2
  have d2 := hbr X2 hb2
  have hsmall : ∀ r ∈ LS, r.length < 2147483648 := fun r hr => by have := (hrows r hr).2; omega
  have hflen : LS.flatten.length = l.length := by rw [hfl, nms_len, sorted_len]
  /- what the steps are when they are copied and checked -/
  obtain ⟨w4, ow4, X3, N3, Xa, m1, q1, q2, q3, hS3, hn3, hp3⟩ : ∃ w ow Xb m2 Xa m1, g21 [.agg ⟨[.slice (some ga) l.length gcp]⟩] X2 N2 = some (.agg ⟨[w]⟩, Xa, m1) ∧ g74 [oT.val m5 LS.length] Xa m1 = some (ow, Xb, m2) ∧ g73 [.agg ⟨[w]⟩, ow] Xb m2 = some (iv 0, Xb, m2) ∧ Sub X2 Xb ∧ namesOk m2 Xb = true ∧ plainH Xb = true := by
    have q1 := h21 X2 N2 hT2
    have hm1 : namesOk (N2 + 1) ((N2, Blk.ext (gcs l) 95 7) :: X2) = true := namesOk_put (Nat.lt_succ_self _) (namesOk_mono (by omega) _ hn2)
    have hS' : Sub X2 ((N2, Blk.ext (gcs l) 95 7) :: X2) := Sub.cons (namesOk_none hn2 _ (Nat.le_refl _)) (Sub.refl _)
    have hS'' := sub_app (lisB_ok (n := N2 + 1) (p := LS)) hm1
    have q2 : g74 [oT.val m5 LS.length] ((N2, Blk.ext (gcs l) 95 7) :: X2) (N2 + 1) = some (lisV (N2 + 1) LS, lisB (N2 + 1) LS ++ ((N2, Blk.ext (gcs l) 95 7) :: X2), lisN (N2 + 1) LS) := by
      simp only [g74, show nestS ((N2, Blk.ext (gcs l) 95 7) :: X2) (oT.val m5 LS.length) = some LS from listV_mono (decL_mono decS_mono) hS' hsn, Option.map_some]
    have q3 := g73_at (n := lisN (N2 + 1) LS) ((own_row (n := N2) (H := X2) hne (by omega)).mono hS'') (lis_nest (n := N2 + 1) (p := LS) (by omega) hsmall) (by omega)
    rw [hsr] at q3
    exact ⟨_, _, _, _, _, _, q1, q2, q3, hS'.trans hS'', (lisB_nm hm1).1, plainH_app lisB_pl (by simp [plainH, hp2])⟩
  obtain ⟨s5, c5, hv5, hf5⟩ := oT.form m5 LS.length
  have hR2' := hR2
  rw [hv5] at a2 hsn q2
  obtain ⟨_, _, e5, hlt5, _, hrow5⟩ := nestS_form hsn
  injection e5 with e5 _ _
  subst e5
  have hrow3 : ∀ i (hi : i < LS.length), ∃ ob d, cellA X3 m5 i = some (.slice ob LS[i].length d) ∧ Ab.strV X3 (.slice ob LS[i].length d) = some LS[i] := fun i hi => by
    obtain ⟨a', r, e1, _, e3, e4⟩ := hrow5 i hi
    injection e1 with e1
    subst e1
    obtain ⟨ob, d, rfl, _⟩ := strV_form e4
    have e3 := hS3.cell e3
    rw [show (⟨m5, 0, s5⟩ : Addr).off + i = i from Nat.zero_add i] at e3
    exact ⟨ob, d, e3, listV_mono decS_mono hS3 e4⟩
  have hT3 := hT2.trans hS3
  have hG3 := hG.mono hT3
  have hb3 : hget X3 n = some (.cells [.slice (some ga) l.length gcp] 24) := hS3 _ _ hb2
  have c3 := hbx X3 hb3
  have y3 := hby X3 hb3
  have d3 := hbr X3 hb3
  have hLa : ¬ (l.length : Int) < LS.length := by omega
  have hLb : ¬ LS = [] := fun e => by rw [e] at hL0; simp at hL0
  have hrow0 : (LS[0]).length = 1 := by
    have h1 := (at_next hlp (at_zero l) (by rw [hLS]; exact hL0)).2.row
    rw [hLS, rowAt_eq hL0] at h1
    rw [h1, show nxt l 0 0 = 1 from if_pos rfl, rowN_len (by omega) hlp]
  obtain ⟨ob0, d0, hc00, _⟩ := hrow3 0 hL0
  rw [hrow0] at hc00
  have hmN : m5 < N3 := by
    refine Nat.lt_of_not_le fun h => ?_
    have h1 := namesOk_none hn3 m5 h
    rw [cellA_eq, h1] at hc00
    cases hc00
  have hnN3 : n < N3 := by omega
  obtain ⟨T, hT⟩ : ∃ T, LS.length = T := ⟨_, rfl⟩
  have hf5' : flat ⟨m5, 0, s5⟩ = true := hf5
  rw [hT] at a2 q2 hLa hL0
  conv at a2 => lhs; rw [← hm5]
  refine E.reg hr (by simp [-cellsA, h180, hc0, h52]; rfl) ?_
  refine E.cond (t := false) (by simp) (fun h => by cases h) (fun _ => ?_)
  refine E.skip ?_
  refine E.seq ?_
  refine E.reg hr (by simp [-cellsA, hc0, a1, a2]; rfl) ?_
  refine E.seq ?_
  refine E.seq ?_
  have hT0 : ¬ T = 0 := by omega
  refine E.reg hr (by simp [-cellsA, -cellA, -flat, hT0, hLa, y2, c2, q1, q2, q3, hL0, hf5', hc00]; rfl) ?_
  refine E.cond (t := false) (by simp) (fun h => by cases h) (fun _ => ?_)
  refine E.skip ?_
  refine E.seq ?_
  refine E.reg hr (by simp; rfl) ?_
  refine E.seq ?_
  refine E.seq ?_
  refine E.reg hr (by simp; rfl) ?_
  refine E.block ?_
  refine E.loop ?_
  obtain ⟨Z, hZ⟩ : ∃ Z, sorted l = Z := ⟨_, rfl⟩
  have hZl : Z.length = l.length := by rw [← hZ, sorted_len]
  have hss : ∀ k, 0 ≤ sumTo (vsG l) k ∧ sumTo (vsG l) k ≤ 64 * 4096 := fun k => (vol_sum hbd (by omega) k).2
  refine EL.ind (fun x : Nat × Nat => { fr := [(1, .int .u8 b), (2, .pointer (some ⟨n, 0, none⟩)), (5, .slice (some ⟨m5, 0, s5⟩) T c5), (7, iv (sumTo (vsG l) x.2)), (8, iv (lastV Z x.2)), (62, .slice (some ⟨m5, 0, s5⟩) T c5), (63, iv T), (64, iv x.1)], sz := 184, H := X3, n := N3, marks := [], vs := [1, 2, 5, 7, 8, 9, 10, 11, 62, 63, 64, 70, 71, 72] }) (fun x => T - x.1) (fun x => x.1 ≤ T ∧ At l x.1 x.2) (0, 0) (.keep rfl rfl rfl (by simp [sumTo, lastV]) (Sub.refl _)) ⟨Nat.zero_le _, at_zero l⟩ (fun _ => rfl) ?_
  rintro ⟨i, f⟩ ⟨hi, hA⟩
  dsimp only at hi hA ⊢
  have hw : IntKind.i64.wrap ((i : Int) + 1) = (i : Int) + 1 := W_in (by omega) (by omega)
  refine E.seq ?_
  refine E.reg hr (by simp; rfl) ?_
  refine E.seq ?_
  by_cases hil : i < T
  · have hil' : i < LS.length := by omega
    obtain ⟨hfl', hx⟩ := at_next hlp hA (by rw [hLS]; exact hil')
    have hmore := nx_more hlp hx
    obtain ⟨t, ht⟩ : ∃ t, nxt l i f = t := ⟨_, rfl⟩
    rw [ht] at hx hmore
    rw [hLS, hT] at hmore
    have hrowi := hx.row
    rw [hLS, rowAt_eq hil'] at hrowi
    obtain ⟨ob, d, hci, hsi⟩ := hrow3 i hil'
    obtain ⟨R, hR⟩ : ∃ R, LS[i] = R := ⟨_, rfl⟩
    rw [hR] at hrowi hci hsi
    have htl := hx.le
    have hft := hx.lt
    have hRl : R.length = t - f := by rw [hrowi, rowN_len (Nat.le_of_lt hft) htl]
    obtain ⟨ob', d', e6, hlt6, _, hrow6⟩ := strV_form hsi
    injection e6 with e6a e6b e6c
    subst e6a
    have hRi : (R.length : Int) < 9223372036854775807 := by omega
    refine E.cond (t := true) (by simp [hil]) (fun _ => ?_) (fun h => by cases h)
    refine E.skip ?_
    refine E.seq ?_
    refine E.block ?_
    refine E.seq ?_
    refine E.reg hr (by simp [-cellA, -flat, hil, hf5', hci]; rfl) ?_
    refine E.seq ?_
    refine E.reg hr (by simp; rfl) ?_
    refine E.seq ?_
    refine E.seq ?_
    refine E.reg hr (by simp; rfl) ?_
    refine E.block ?_
    refine E.loop ?_
    refine EL.ind (fun j : Nat => { fr := [(1, .int .u8 b), (2, .pointer (some ⟨n, 0, none⟩)), (5, .slice (some ⟨m5, 0, s5⟩) T c5), (7, iv (sumTo (vsG l) f)), (8, iv (lastV Z (f + j))), (9, iv i), (10, .slice ob R.length d), (11, iv (sumTo (vsG l) (f + j))), (62, .slice (some ⟨m5, 0, s5⟩) T c5), (63, iv T), (64, iv i), (70, .slice ob R.length d), (71, iv R.length), (72, iv j)], sz := 184, H := X3, n := N3, marks := [], vs := [1, 2, 5, 7, 8, 9, 10, 11, 62, 63, 64, 70, 71, 72] }) (fun j => R.length - j) (fun j => j ≤ R.length) 0 (.keep rfl rfl rfl (by simp) (Sub.refl _)) (Nat.zero_le _) (fun _ => rfl) ?_
    intro j hj
    have hw2 : IntKind.i64.wrap ((j : Int) + 1) = (j : Int) + 1 := W_in (by omega) (by omega)
    refine E.seq ?_
    refine E.reg hr (by simp; rfl) ?_
    refine E.seq ?_
    by_cases hjl : j < R.length
    · obtain ⟨a', rfl, hf2, hc2⟩ := hrow6 j hjl
      have hmz : f + j < (sorted l).length := by rw [sorted_len]; omega
      have hnm : R[j] = (sorted l)[f + j].name := by
        have h1 := rowN_get (l := l) (f := f) (t := t) (j := j) (by omega) htl
        rw [← hrowi, List.getElem?_eq_getElem hjl] at h1
        exact Option.some.inj h1
      obtain ⟨k, hk, hat, hkv⟩ := find_sorted hd hmz
      rw [← hnm] at hat
      obtain ⟨s, hs'⟩ : ∃ s, R[j] = s := ⟨_, rfl⟩
      rw [hs'] at hc2 hat
      have hle := lastV_le hbd hmz
      have hsu : sumTo (vsG l) (f + j + 1) = sumTo (vsG l) (f + j) + (sorted l)[f + j].v := by
        rw [sumTo_succ (by rw [vsG_len]; omega), vs_get hmz]
      have hla := lastV_succ hmz
      obtain ⟨zv, hzv⟩ : ∃ zv, (sorted l)[f + j].v = zv := ⟨_, rfl⟩
      rw [hzv] at hkv hle hsu hla
      rw [hZ] at hle hla
      have hcv := (guns_cells hG3 hk).2
      rw [hkv] at hcv
      have h75 : ∀ m, g75 [.agg ⟨[.slice (some ga) l.length gcp]⟩, sv s, iv l.length] X3 m = some (iv k, X3, m) := fun m => by
        have h0 : (0 : Int) ≤ l.length ∧ (l.length : Int).toNat ≤ l.length := by omega
        simp only [g75]
        rw [if_pos h0, hG3.at]
        show some (iv (atV l s l.length), X3, m) = _
        rw [hat]
      have hss1 := hss (f + j + 1)
      have hws : IntKind.i64.wrap (sumTo (vsG l) (f + j) + zv) = sumTo (vsG l) (f + j + 1) := by rw [hsu]; exact W_in (by have := hss (f + j); omega) (by have := hss (f + j); omega)
      have hk0 : ¬ (k : Int) < 0 := by omega
      have hvl : ¬ zv < lastV Z (f + j) := by omega
      refine E.cond (t := true) (by simp [hjl]) (fun _ => ?_) (fun h => by cases h)
      refine E.skip ?_
      refine E.seq ?_
      refine E.block ?_
      refine E.seq ?_
      refine E.reg hr (by simp [-cellA, -flat, hjl, hf2, hc2]; rfl) ?_
      refine E.seq ?_
      refine E.reg hr (by simp [-cellA, -cellsA, y3, c3, h75]; rfl) ?_
      refine E.seq ?_
      refine E.seq ?_
      refine E.reg hr (by simp [-cellA, -cellsA, -flat, hk0, y3, hgf, hk, hcv, hvl]; rfl) ?_
      refine E.cond (t := false) (by simp) (fun h => by cases h) (fun _ => ?_)
      refine E.skip ?_
      refine E.seq ?_
      refine E.reg hr (by simp [-cellA, -cellsA, -flat, y3, hgf, hk, hcv]; rfl) ?_
      refine E.reg hr (by simp [hws]; rfl) ?_
      refine E.reg hr (by simp [hw2]; rfl) ?_
      exact ⟨j + 1, .keep rfl rfl rfl (by simp [← Nat.add_assoc, hla]) (Sub.refl _), hjl, by dsimp only; omega⟩
    · have hjt : f + j = t := by omega
      rw [hjt]
      have hsf := hss f
      have hst := hss t
      have hwm : IntKind.i64.wrap (2 * sumTo (vsG l) f) = 2 * sumTo (vsG l) f := W_in (by omega) (by omega)
      refine E.cond (t := false) (by simp [hjl]) (fun h => by cases h) (fun _ => ?_)
      refine E.exit ?_
      refine E.seq ?_
      refine E.seq ?_
      have hgo : ¬ (1 : Int) < R.length ∨ ((1 : Int) < R.length ∧ ¬ 2 * sumTo (vsG l) f < sumTo (vsG l) t) := by
        rcases hx.more with h1 | ⟨_, h1⟩
        · left; omega
        · by_cases h2 : (1 : Int) < R.length
          · exact .inr ⟨h2, by omega⟩
          · exact .inl h2
      have hnext : i + 1 < T → ∃ ob2 d2 r2 a2 s2 k2, cellA X3 m5 (i + 1) = some (.slice ob2 r2 d2) ∧ 0 < r2 ∧ ob2 = some a2 ∧ flat a2 = true ∧ cellA X3 a2.block a2.off = some (sv s2) ∧ ∃ h : k2 < l.length, atV l s2 l.length = ((k2 : Nat) : Int) ∧ ∃ zv, l[k2].v = zv ∧ sumTo (vsG l) (t + 1) = sumTo (vsG l) t + zv ∧ (i ≠ 0 → 2 * sumTo (vsG l) f < sumTo (vsG l) (t + 1)) := fun h1 => by
        have hi1 : i + 1 < LS.length := by omega
        obtain ⟨ob2, d2, e1, e2⟩ := hrow3 (i + 1) hi1
        obtain ⟨htl2, hx2⟩ := at_next hlp hx.next (by rw [hLS]; exact hi1)
        have hr2 := hx2.row
        rw [hLS, rowAt_eq hi1] at hr2
        have hlt2 := hx2.lt
        have hle2 := hx2.le
        have hlen2 : (LS[i + 1]).length = nxt l (i + 1) t - t := by rw [hr2, rowN_len (Nat.le_of_lt hlt2) hle2]
        obtain ⟨ob', d', e3, _, _, e4⟩ := strV_form e2
        injection e3 with e3a _ _
        subst e3a
        obtain ⟨a2, e5, e6, e7⟩ := e4 0 (by omega)
        have htz : t < (sorted l).length := by rw [sorted_len]; exact htl2
        have hnm : (LS[i + 1])[0]'(by omega) = (sorted l)[t].name := by
          have h2 := rowN_get (l := l) (f := t) (t := nxt l (i + 1) t) (j := 0) (by omega) hle2
          rw [← hr2, List.getElem?_eq_getElem (by omega)] at h2
          exact Option.some.inj h2
        obtain ⟨k2, hk2, hat2, hkv2⟩ := find_sorted hd htz
        rw [Nat.add_zero, hnm] at e7
        exact ⟨ob2, d2, _, a2, _, k2, e1, by omega, e5, e6, e7, hk2, hat2, _, hkv2, by rw [sumTo_succ (by rw [vsG_len]; exact htl2), vs_get htz], fun h0 => hx.stop h0 htl2⟩
      have hlk : ∀ k o u, cellA X3 k o = some u → k < N3 := fun k o u h => by
        refine Nat.lt_of_not_le fun hge => ?_
        rw [cellA_eq, namesOk_none hn3 k hge] at h
        cases h
      rcases hgo with hgo | ⟨hgo, hgo2⟩
      case' inl => refine E.reg hr (by simp [hgo, undefV]; rfl) ?_
      case' inr => refine E.reg hr (by simp [hgo, hwm, hgo2]; rfl) ?_
      all_goals
        refine E.cond (t := false) (by simp) (fun h => by cases h) (fun _ => ?_)
        refine E.skip ?_
        refine E.lead { fr := [(1, .int .u8 b), (2, .pointer (some ⟨n, 0, none⟩)), (5, .slice (some ⟨m5, 0, s5⟩) T c5), (7, iv (sumTo (vsG l) f)), (8, iv (lastV Z t)), (9, iv i), (11, iv (sumTo (vsG l) t)), (62, .slice (some ⟨m5, 0, s5⟩) T c5), (63, iv T), (64, iv i)], sz := 184, H := X3, n := N3, marks := [], vs := [1, 2, 5, 7, 8, 9, 10, 11, 62, 63, 64, 70, 71, 72] } (.keep rfl rfl rfl (by simp) (Sub.refl _)) ?_
        refine E.seq ?_
        refine E.seq ?_
        have hcase : ¬ 0 < i ∨ (0 < i ∧ ¬ i + 1 < T) ∨ (0 < i ∧ i + 1 < T) := by omega
        rcases hcase with h0 | ⟨h0, h1⟩ | ⟨h0, h1⟩
        · have h0i : ¬ (0 : Int) < i := by omega
          refine E.reg hr (by simp [h0, undefV]; rfl) ?_
          refine E.cond (t := false) (by simp) (fun h => by cases h) (fun _ => ?_)
          refine E.skip ?_
          refine E.reg hr (by simp; rfl) ?_
          refine E.reg hr (by simp [hw]; rfl) ?_
          exact ⟨(i + 1, t), .keep rfl rfl rfl (by simp) (Sub.refl _), ⟨hil, hx.next⟩, by dsimp only; omega⟩
        · have h0i : (0 : Int) < i := by omega
          have h1i : ¬ (i : Int) + 1 < T := by omega
          refine E.reg hr (by simp [h0, hw, h1i, undefV]; rfl) ?_
          refine E.cond (t := false) (by simp) (fun h => by cases h) (fun _ => ?_)
          refine E.skip ?_
          refine E.reg hr (by simp; rfl) ?_
          refine E.reg hr (by simp [hw]; rfl) ?_
          exact ⟨(i + 1, t), .keep rfl rfl rfl (by simp) (Sub.refl _), ⟨hil, hx.next⟩, by dsimp only; omega⟩
        · have h0i : (0 : Int) < i := by omega
          have h1i : (i : Int) + 1 < T := by omega
          obtain ⟨ob2, d2, r2, a2, s2, k2, z1, z2, rfl, z4, z5, z6, z7, zv, z8, z9, z10⟩ := hnext h1
          have z2i : (0 : Int) < r2 := by omega
          have z10 := z10 (by omega)
          have hza := hlk _ _ _ z5
          have hra : ∀ a o, cellA (readA [a] X3) a o = cellA X3 a o := fun a o => cell_read (by simp)
          have h75 : ∀ m, g75 [.agg ⟨[.slice (some ga) l.length gcp]⟩, sv s2, iv l.length] X3 m = some (iv k2, X3, m) := fun m => by
            have h0 : (0 : Int) ≤ l.length ∧ (l.length : Int).toNat ≤ l.length := by omega
            simp only [g75]
            rw [if_pos h0, hG3.at]
            show some (iv (atV l s2 l.length), X3, m) = _
            rw [z7]
          have hcv := (guns_cells hG3 z6).2
          rw [z8] at hcv
          have hk0 : ¬ (k2 : Int) < 0 := by omega
          have hws : IntKind.i64.wrap (sumTo (vsG l) t + zv) = sumTo (vsG l) (t + 1) := by rw [z9]; exact W_in (by have := hss (t + 1); omega) (by have := hss (t + 1); omega)
          have hle2 : ¬ sumTo (vsG l) (t + 1) ≤ 2 * sumTo (vsG l) f := by omega
          refine E.reg hr (by simp [-cellA, -flat, h0, hw, h1i, hf5', z1, z2]; rfl) ?_
          refine E.cond (t := true) (by simp) (fun _ => ?_) (fun h => by cases h)
          refine E.seq ?_
          refine E.drawU mixed hr [11] [11] [0, 5, 7, 9, 11] (by kernel_rfl) (by simp [-cellA, -cellsA, -flat, -readA, hn3, hnN3, hmN, hza, hra, d3, y3, hw, h1i, hf5', z1, z2, z4, z5, h75]; rfl) ?_
          refine E.seq ?_
          refine E.reg hr (by simp [-cellA, -cellsA, -flat, hk0, y3, hgf, z6, hcv, hws, hwm, hle2]; rfl) ?_
          refine E.cond (t := false) (by simp) (fun h => by cases h) (fun _ => ?_)
          refine E.skip ?_
          refine E.reg hr (by simp; rfl) ?_
          refine E.reg hr (by simp [hw]; rfl) ?_
          exact ⟨(i + 1, t), .keep rfl rfl rfl (by simp) (Sub.refl _), ⟨hil, hx.next⟩, by dsimp only; omega⟩
  · have hfe : f = l.length := at_end hlp hA (by rw [hLS]; omega)
    have hva := vol_all hbd (by omega)
    rw [← hfe] at hva
    have h25 : ∀ m, gStr1 (fun l => iv (volW l)) [.agg ⟨[.slice (some ga) l.length gcp]⟩] X3 m = some (iv (sumTo (vsG l) f), X3, m) := fun m => by
      simp only [gStr1, strAt_mono hT3 hs]
      rw [if_pos (by omega), hva]
    refine E.cond (t := false) (by simp [hil]) (fun h => by cases h) (fun _ => ?_)
    refine E.exit ?_
    refine E.seq ?_
    refine E.seq ?_
    refine E.reg hr (by simp [-cellsA, c3, h25]; rfl) ?_
    refine E.cond (t := false) (by simp) (fun h => by cases h) (fun _ => ?_)
    refine E.skip ?_
    refine E.seq ?_
    obtain ⟨bn, rfl⟩ := Int.eq_ofNat_of_zero_le hbt.1
    obtain ⟨kk, hkk0⟩ : ∃ kk, bn % T = kk := ⟨_, rfl⟩
    have hkk : kk < T := by rw [← hkk0]; exact Nat.mod_lt _ hL0
    have hbw : IntKind.i64.wrap (bn : Int) = bn := W_in (by omega) (by omega)
    have hmod : (bn : Int).tmod (T : Int) = (kk : Int) := by
      rw [Int.tmod_eq_emod_of_nonneg (by omega), ← hkk0]
      rfl
    have hTi : (T : Int) ≠ 0 := by omega
    have hwk : IntKind.i64.wrap ((kk : Int) + 1) = (kk : Int) + 1 := W_in (by omega) (by omega)
    have hkkS : kk < LS.length := by omega
    have hsn3 : nestS X3 (.slice (some ⟨m5, 0, s5⟩) LS.length c5) = some LS := listV_mono (decL_mono decS_mono) hS3 hsn
    obtain ⟨p1, hp1⟩ : ∃ p, LS.take kk = p := ⟨_, rfl⟩
    obtain ⟨p2, hp2'⟩ : ∃ p, LS.drop (kk + 1) = p := ⟨_, rfl⟩
    have hpl1 : p1.length = kk := by rw [← hp1, List.length_take]; omega
    have hpl2 : p2.length = T - (kk + 1) := by rw [← hp2', List.length_drop, hT]
    have hpm : ∀ r ∈ p1 ++ p2, r.length < 2147483648 := fun r hr => by
      rcases List.mem_append.1 hr with h | h
      · rw [← hp1] at h; exact hsmall _ (List.mem_of_mem_take h)
      · rw [← hp2'] at h; exact hsmall _ (List.mem_of_mem_drop h)
    have hrow : ∀ X, (∀ cs, hget X3 m5 = some (.ext cs 102 1) → hget X m5 = some (.ext cs 102 1) ∨ hget X m5 = some (.row cs 1)) → (∀ cs, hget X3 m5 = some (.row cs 1) → hget X m5 = some (.ext cs 102 1) ∨ hget X m5 = some (.row cs 1)) → Row2 X m5 T := fun X h1 h2 hne1 => by
      obtain ⟨cs, hc, hl⟩ := hR2' (by rw [hT]; exact hne1)
      rw [hT] at hl
      refine ⟨cs, ?_, hl⟩
      rcases hc with hc | hc
      · exact h1 cs (hS3 _ _ hc)
      · exact h2 cs (hS3 _ _ hc)
    have hRx : ∀ X, Sub X3 X → Row2 X m5 T := fun X hX => hrow X (fun cs h => .inl (hX _ _ h)) fun cs h => .inr (hX _ _ h)
    have hRr : ∀ X, Sub X3 X → Row2 (readA [m5] X) m5 T := fun X hX => hrow _ (fun cs h => .inl (by rw [hget_readA, if_pos (by simp)]; exact hX _ _ h)) fun cs h => .inr (by rw [hget_readA, if_pos (by simp)]; exact hX _ _ h)
    rw [hT] at hv5
    obtain ⟨w1, hw1⟩ : ∃ w, Value.slice (some ⟨m5, 0, if T = 1 then none else some 0⟩) kk (if T = 1 then 1 else 0) = w := ⟨_, rfl⟩
    obtain ⟨w2, hw2⟩ : ∃ w, Value.slice (some ⟨m5, if T = 1 then 0 else kk + 1, if T = 1 then none else some (if kk + 1 < T then 0 else kk + 1)⟩) (T - (kk + 1)) (if T = 1 then 0 else kk + 1) = w := ⟨_, rfl⟩
    have hhi : ∀ {fr X n' x y}, Row2 X m5 T → evO Tryz.prog fr x = some (.slice (some ⟨m5, 0, s5⟩) T c5) → evO Tryz.prog fr y = some (iv kk) → opSlice Tryz.prog 122 x none (some y) none fr X n' = some (w1, X, n') := fun hR hx hy => by
      rw [← hw1]
      exact oT_hi hR hkk (by rw [hx, hv5]) hy
    have hlo : ∀ {fr X n' x y}, Row2 X m5 T → evO Tryz.prog fr x = some (.slice (some ⟨m5, 0, s5⟩) T c5) → evO Tryz.prog fr y = some (iv ((kk : Int) + 1)) → opSlice Tryz.prog 122 x (some y) none none fr X n' = some (w2, X, n') := fun hR hx hy => by
      rw [← hw2]
      exact oT_lo hR hkk (by rw [hx, hv5]) hy
    have hn1' : nestS X3 w1 = some p1 := by
      have := nest_part hsn3 (l := 0) (k := kk) (by omega) (s := if T = 1 then none else some 0) (c' := if T = 1 then 1 else 0) (.inl (by split <;> rfl))
      rw [← hw1, ← hp1]
      simpa using this
    have hn2' : nestS X3 w2 = some p2 := by
      rw [← hw2, ← hp2']
      by_cases h1 : T = 1
      · have hk0 : kk = 0 := by omega
        have := nest_part hsn3 (l := 0) (k := 0) (by omega) (s := none) (c' := 0) (.inl rfl)
        have hnil : LS.drop (kk + 1) = [] := List.drop_eq_nil_of_le (by omega)
        rw [hnil, if_pos h1, if_pos h1, show T - (kk + 1) = 0 by omega]
        simpa using this
      · have := nest_part hsn3 (l := kk + 1) (k := T - (kk + 1)) (by omega) (s := some (if kk + 1 < T then 0 else kk + 1)) (c' := kk + 1) (by
          by_cases h2 : kk + 1 < T
          · left; rw [if_pos h2]; rfl
          · right; omega)
        rw [if_neg h1, if_neg h1]
        rw [List.take_of_length_le (by rw [List.length_drop]; omega)] at this
        simpa using this
    obtain ⟨w, X5, N6, happ, hnest, hS5, hn5, hle5⟩ := app_lis (n1 := N3) (p1 := p1) (p2 := p2) (X := X3) hn3 (by omega) hpm
    have b3 : g74 [w1] (frzH X3) N3 = some (lisV N3 p1, lisB N3 p1 ++ frzH X3, lisN N3 p1) := by
      simp only [g74, show nestS (frzH X3) w1 = some p1 from (listV_frz (decL_frz decS_frz) X3 w1).trans hn1', Option.map_some]
    obtain ⟨hY1n, hle4⟩ := lisB_nm (p := p1) hn3
    obtain ⟨hY2n, hle45⟩ := lisB_nm (p := p2) hY1n
    have hY1s : Sub X3 (lisB N3 p1 ++ X3) := sub_app lisB_ok hn3
    have b8 : g74 [w2] (lisB N3 p1 ++ X3) (lisN N3 p1) = some (lisV (lisN N3 p1) p2, lisB (lisN N3 p1) p2 ++ (lisB N3 p1 ++ X3), lisN (lisN N3 p1) p2) := by
      simp only [g74, show nestS (lisB N3 p1 ++ X3) w2 = some p2 from listV_mono (decL_mono decS_mono) hY1s hn2', Option.map_some]
    have htk : takeNew N3 (lisB N3 p1 ++ frzH X3) = lisB N3 p1 := by rw [takeNew_app lisB_ok, takeNew_frz hn3, List.append_nil]
    have hBn : namesOk (lisN N3 p1) (lisB N3 p1) = true := namesOk_iff.2 fun x hx => by
      have h1 := namesOk_iff.1 hY1n x (List.mem_append_left _ hx)
      exact h1
    obtain ⟨v1, hv1⟩ : ∃ v, lisV N3 p1 = v := ⟨_, rfl⟩
    obtain ⟨N4, hN4⟩ : ∃ N4, lisN N3 p1 = N4 := ⟨_, rfl⟩
    obtain ⟨B1, hB1⟩ : ∃ B1, lisB N3 p1 = B1 := ⟨_, rfl⟩
    rw [hv1, hN4, hB1] at happ
    rw [hv1, hN4, hB1] at b3
    rw [hN4, hB1] at b8 hBn hY1n hY2n
    rw [hN4] at hle4 hle45 hle5
    rw [hB1] at htk hY1s
    obtain ⟨Y1, hY1⟩ : ∃ Y1, B1 ++ X3 = Y1 := ⟨_, rfl⟩
    rw [hY1] at happ b8 hY1n hY2n hY1s
    obtain ⟨v2, hv2⟩ : ∃ v, lisV N4 p2 = v := ⟨_, rfl⟩
    obtain ⟨N5, hN5⟩ : ∃ N5, lisN N4 p2 = N5 := ⟨_, rfl⟩
    obtain ⟨Y2, hY2⟩ : ∃ Y2, lisB N4 p2 ++ Y1 = Y2 := ⟨_, rfl⟩
    rw [hv2, hN5, hY2] at happ b8
    rw [hN5, hY2] at hY2n
    rw [hN5] at hle45 hle5
    have hT5 := hT3.trans hS5
    have e1 := h21 X5 N6 hT5
    have hO5 := own_row (n := N6) (H := X5) hne (by omega)
    have hsX : Sub X5 ((N6, Blk.ext (gcs l) 95 7) :: X5) := Sub.cons (namesOk_none hn5 _ (Nat.le_refl _)) (Sub.refl _)
    have e2 := g73_at (n := N6 + 1) hO5 (listV_mono (decL_mono decS_mono) hsX hnest) (by
      have h1 : (p1 ++ p2).flatten.length ≤ LS.flatten.length := by
        rw [← hp1, ← hp2', List.flatten_append, List.length_append]
        have h2 : LS.flatten = (LS.take kk).flatten ++ (LS.drop kk).flatten := by rw [← List.flatten_append, List.take_append_drop]
        have h3 : (LS.drop (kk + 1)).flatten.length ≤ (LS.drop kk).flatten.length := by
          rw [List.drop_eq_getElem_cons hkkS, List.flatten_cons, List.length_append]
          omega
        rw [h2, List.length_append]
        omega
      omega)
    have h32 := hfw kk (by rw [hLS]; exact hkkS)
    rw [hLS, hp1, hp2'] at h32
    rw [h32] at e2
    obtain ⟨X6, hX6⟩ : ∃ X6, (N6, Blk.ext (gcs l) 95 7) :: X5 = X6 := ⟨_, rfl⟩
    rw [hX6] at e1 e2 hsX
    have c5x := hbx X5 (hS5 _ _ hb3)
    refine E.reg hr (by simp [opConvert, cvB, hbw, bin_rem hTi, hmod]; rfl) ?_
    refine E.seq ?_
    refine E.drawU mixed hr [8, 9] [3, 8, 9] [2, 3, 8, 9] (by kernel_rfl) (by simp [-readA, -builtinA, hn3, hp3, hmN, hwk, hhi (hRr X3 (Sub.refl _)), hlo (hRr Y1 hY1s), b3, htk, hBn, hle4, hY1, b8, hle45, hY2n, happ, hle5, hn5]; rfl) ?_
    refine E.seq ?_
    refine E.reg hr (by simp [-cellsA, c5x, e1, e2]; rfl) ?_
    refine E.ret ?_
    exact pureK.ret rfl rfl (by simp) (hT5.trans hsX)
end Go.Proofs.YtndlfijfjglkdaaGreatDoor
