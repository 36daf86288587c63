/-
Walks through the guns and their soft start, and the plain law behind them (no condition).
-/
import Derived.Test.YtljglocehbccnaaRd
namespace Go.Proofs.Ytljglocehbccnaa.Gn
open Go Go.Ab Go.Proofs Go.Soft
def zeroG : Gun := ⟨⟨#[]⟩, 0, 0, 0, 0, 0, 0⟩
def minG (W : List Gun) : Nat → Gun
  | 0 => W.getD 0 zeroG
  | i + 1 => if (W.getD (i + 1) zeroG).v < (minG W i).v then W.getD (i + 1) zeroG else minG W i
abbrev leastG (W : List Gun) : Gun := minG W (W.length - 1)
structure MB (n : Nat) (H : Heap) (m : Gun) (Hy : Heap) : Prop where
  box : hget Hy (n + 1) = some (.cells m.cells 79)
  res : hget Hy n = some (.cells zeroG.cells 79)
  sub : Sub (tidy n H) Hy
  nm : namesOk (n + 1 + 1) Hy = true
theorem MB.put {n : Nat} {H Hy : Heap} {m : Gun} (h : MB n H m Hy) (g : Gun) : ∃ Hz, storeA Hy (n + 1) 0 g.cells = some Hz ∧ MB n H g Hz := by
  refine ⟨hset Hy (n + 1) (.cells g.cells 79), ?_, ?_, ?_, fun k b hk => ?_, namesOk_hset h.nm⟩
  · unfold storeA
    rw [h.box]
    rfl
  · rw [hget_set, if_pos rfl, h.box]; rfl
  · rw [hget_set, if_neg (by omega)]; exact h.res
  · have := tidy_lt k b hk
    rw [hget_set, if_neg (by omega)]
    exact h.sub k b hk
theorem cells95 {H : Heap} {k : Nat} {m : Gun} (h : hget H k = some (.cells m.cells 79)) : cellsA H k 0 7 = some m.cells := by
  rw [cellsA_eq, h]; rfl
set_option maxRecDepth 20000 in
theorem w49 {H : Heap} {n : Nat} {v : Value} {W : List Gun} (hG : GunsAt H v W) : AC Try.prog 49 [v, cmpF] H n (gAgg (leastG W)) H n := by
  refine AC.given fun hold _ _ => AC.tidied (B := []) (by simp) ?_
  replace hG := GunsAt.tidy (fun k b h => (hold k b h).1) hG
  have hr := recT_ok (P := Try.prog) (l := [(44, g44)]) (by simp [ok44])
  obtain ⟨a, c, rfl, hf, hc, hp, hlt⟩ := hG
  have hn1 : ¬ (W.length : Int) < 1 := by omega
  have hgd : ∀ i (h : i < W.length), W.getD i zeroG = W[i] := fun i h => by rw [List.getD_eq_getElem?_getD, List.getElem?_eq_getElem h]; rfl
  have hcs : ∀ i, i < W.length → cellsA (tidy n H) a.block (a.off + i * 7) 7 = some (W.getD i zeroG).cells := fun i hi => by
    have hc1 := cells_part (sz := 7) (i := i) hc hi
    rw [gcs_atB hi] at hc1
    rw [hgd i hi]
    exact hc1
  have hab : a.block < n := by
    have := hcs 0 hp
    exact cellsA_lt tidy_lt this
  refine AC.pure Try.func49 rfl (by kernel_rfl) rfl [0, 1, 4, 5, 6] rfl ?_
  refine E.seq ?_
  refine E.reg hr (by simp; rfl) ?_
  refine E.seq ?_
  refine E.seq ?_
  refine E.reg hr (by simp; rfl) ?_
  refine E.cond (t := false) (by simp [hn1]) (fun h => by cases h) (fun _ => ?_)
  refine E.skip ?_
  refine E.seq ?_
  have hS : Sub (tidy n H) ((n, .cells zeroG.cells 79) :: tidy n H) := Sub.cons (by simp) (Sub.refl _)
  have hc0 := hcs 0 hp
  have hm0 : minG W 0 = W.getD 0 zeroG := rfl
  obtain ⟨g0, hg0⟩ : ∃ g0, W.getD 0 zeroG = g0 := ⟨_, rfl⟩
  rw [hg0] at hc0 hm0
  have hld0 := load95 (s := none) (hS.cells hc0)
  rw [Nat.zero_mul, Nat.add_zero] at hld0
  have hzc : zeroG.cells = [.string ⟨#[]⟩, iv 0, iv 0, iv 0, iv 0, iv 0, iv 0] := rfl
  rw [hzc] at hld0
  refine E.reg hr (by simp [-loadA, -flat, hf, hp, hld0]; rfl) ?_
  refine E.seq ?_
  refine E.seq ?_
  refine E.reg hr (by simp; rfl) ?_
  refine E.block ?_
  refine E.loop ?_
  refine EL.ind (fun x : Nat × Heap => { fr := [(0, .slice (some a) W.length c), (1, cmpF), (4, .pointer (some ⟨n, 0, none⟩)), (5, .pointer (some ⟨n + 1, 0, none⟩)), (6, iv ((x.1 : Int) + 1))], sz := 33, H := x.2, n := n + 1 + 1, marks := [], vs := [0, 1, 4, 5, 6] }) (fun x => W.length - x.1) (fun x => x.1 < W.length ∧ MB n H (minG W x.1) x.2) (0, (n + 1, .cells g0.cells 79) :: (n, .cells zeroG.cells 79) :: tidy n H) (.keep rfl rfl rfl (by simp) (Sub.refl _)) ⟨hp, ⟨by dsimp only; rw [hm0, hget_cons, if_pos rfl], by dsimp only; rw [hget_cons, if_neg (by omega), hget_cons, if_pos rfl], Sub.cons (by simp) (Sub.cons (by simp) (Sub.refl _)), namesOk_put (by omega) (namesOk_put (by omega) (namesOk_mono (by omega) _ namesOk_tidy))⟩⟩ (fun _ => rfl) ?_
  rintro ⟨i, Hy⟩ ⟨hi, hM⟩
  dsimp only at hi hM ⊢
  have hw : IntKind.i64.wrap ((i : Int) + 1 + 1) = (i : Int) + 1 + 1 := W_in (by omega) (by omega)
  refine E.seq ?_
  refine E.seq ?_
  refine E.reg hr (by simp; rfl) ?_
  by_cases hil : i + 1 < W.length
  · have hil' : (i : Int) + 1 < W.length := by omega
    obtain ⟨g, hg⟩ : ∃ g, W.getD (i + 1) zeroG = g := ⟨_, rfl⟩
    have hcg := hM.sub.cells (hcs (i + 1) hil)
    rw [hg] at hcg
    obtain ⟨m, hm⟩ : ∃ m, minG W i = m := ⟨_, rfl⟩
    rw [hm] at hM
    have hmn : minG W (i + 1) = if g.v < m.v then g else m := by rw [minG, hg, hm]
    have hrd : ∀ {k o : Nat} {g : Gun}, cellsA Hy k o 7 = some g.cells → loadA Try.prog 79 (readA [k] Hy) (.pointer (some ⟨k, o, none⟩)) = some (gAgg g) := fun h => load95 (by rw [cellsA_eq, hget_readA, if_pos (by simp), ← cellsA_eq]; exact h)
    have hlg := hrd hcg
    have hlm := hrd (cells95 hM.box)
    have hcall : ∀ H n, g44 [gAgg g, gAgg m] H n = some (iv (cmpI g.v m.v), H, n) := fun _ _ => rfl
    have hnm := hM.nm
    have hab2 : a.block < n + 1 + 1 := by omega
    refine E.cond (t := true) (by simp [hil']) (fun _ => ?_) (fun h => by cases h)
    refine E.skip ?_
    refine E.seq ?_
    refine E.block ?_
    refine E.seq ?_
    refine E.drawU mixed hr [6] [6] [4, 5, 6] (by kernel_rfl) (by simp [-readA, -loadA, -flat, hf, hnm, hab2, hil', hlg, hlm, run_vcall_tmp, vcallF, target, hcall]; rfl) ?_
    by_cases hv : g.v < m.v
    · have hv' := cmpI_lt.2 hv
      rw [if_pos hv] at hmn
      obtain ⟨Hz, hst, hMz⟩ := hM.put g
      have hlg2 := load95 (s := none) hcg
      refine E.cond (t := true) (by simp [hv']) (fun _ => ?_) (fun h => by cases h)
      refine E.reg hr (by simp [-loadA, -storeA, -flat, hf, hil', hlg2, hst]; rfl) ?_
      refine E.reg hr (by simp [hw]; rfl) ?_
      exact ⟨(i + 1, Hz), .keep rfl rfl rfl (by simp) (Sub.refl _), ⟨hil, by dsimp only; rw [hmn]; exact hMz⟩, by dsimp only; omega⟩
    · have hv' : ¬ cmpI g.v m.v < 0 := fun h => hv (cmpI_lt.1 h)
      rw [if_neg hv] at hmn
      refine E.cond (t := false) (by simp [hv']) (fun h => by cases h) (fun _ => ?_)
      refine E.skip ?_
      refine E.reg hr (by simp [hw]; rfl) ?_
      exact ⟨(i + 1, Hy), .keep rfl rfl rfl (by simp) (Sub.refl _), ⟨hil, by dsimp only; rw [hmn]; exact hM⟩, by dsimp only; omega⟩
  · have hil' : ¬ (i : Int) + 1 < W.length := by omega
    have hiL : W.length - 1 = i := by omega
    rw [show leastG W = minG W i from by rw [leastG, hiL]]
    obtain ⟨m, hm⟩ : ∃ m, minG W i = m := ⟨_, rfl⟩
    rw [hm] at hM ⊢
    have hlm := load95 (s := none) (cells95 hM.box)
    have hst : storeA Hy n 0 m.cells = some (hset Hy n (.cells m.cells 79)) := by
      unfold storeA
      rw [hM.res]
      rfl
    obtain ⟨Hz, hz⟩ : ∃ Hz, hset Hy n (.cells m.cells 79) = Hz := ⟨_, rfl⟩
    rw [hz] at hst
    have hgz : hget Hz n = some (.cells m.cells 79) := by rw [← hz, hget_set, if_pos rfl, hM.res]; rfl
    have hlz := load95 (s := none) (cells95 hgz)
    refine E.cond (t := false) (by simp [hil']) (fun h => by cases h) (fun _ => ?_)
    refine E.exit ?_
    refine E.seq ?_
    refine E.reg hr (by simp [-loadA, -storeA, hlm, hst]; rfl) ?_
    refine E.ret ?_
    refine pureK.ret rfl (vs := [gAgg m]) (by simp [resultsA, resultA, -loadA, hlz, Try.f49]) rfl fun k b hk => ?_
    have := tidy_lt k b hk
    dsimp only
    rw [← hz, hget_set, if_neg (by omega)]
    exact hM.sub k b hk
noncomputable def g49 (args : List Value) (H : Heap) (n : Nat) : R := match args with
  | [v, .func (.func 44) ⟨[]⟩ ⟨[]⟩] => (gunsOfB H v).map fun W => (gAgg (leastG W), H, n)
  | _ => none
theorem ok49 : EntOk Try.prog (49, g49) := by
  intro args H n v H' n' h
  simp only [g49] at h
  split at h
  · rw [Option.map_eq_some_iff] at h
    obtain ⟨W, h1, h⟩ := h
    injection h with e1 e2; injection e2 with e2 e3; subst e1 e2 e3
    exact w49 (gunsOf_specB h1)
  · cases h
end Go.Proofs.Ytljglocehbccnaa.Gn
namespace Go.Proofs.Ytljglocehbccnaa.Gn
open Go Go.Ab Go.Proofs Go.Soft
def RowG (H : Heap) (m : Nat) (Z : List Gun) : Prop := hget H m = some (.ext (gcs Z) 79 7) ∨ hget H m = some (.row (gcs Z) 7)
theorem used_row {H : Heap} {m : Nat} {Z : List Gun} (h : RowG H m Z) (k : Nat) (s : Nat) : usedA H 7 (some ⟨m, k, some 0⟩) s = Z.length - s := by
  rcases h with h | h <;> simp [usedA, h]
section
variable {fr : Fr} {H : Heap} {n m L : Nat} {x y z u : Operand} {Z : List Gun}
theorem slice_hi {i : Nat} (hg : RowG H m Z) (hi : i ≤ Z.length) (h0 : 0 < Z.length) (hx : evO Try.prog fr x = some (.slice (some ⟨m, 0, some 0⟩) L 0)) (hy : evO Try.prog fr y = some (iv i)) :
    opSlice Try.prog 64 x none (some y) none fr H n = some (.slice (some ⟨m, 0, some 0⟩) i 0, H, n) := by
  simp only [opSlice, hx, evI, hy, Try.underlying64, show szA Try.prog 79 = some 7 from by simp, used_row hg]
  simp [sliceA, boundA, hi, h0]
theorem slice_lohi {i j : Nat} (hg : RowG H m Z) (hij : i < j) (hj : j ≤ Z.length) (hx : evO Try.prog fr x = some (.slice (some ⟨m, 0, some 0⟩) L 0)) (hy : evO Try.prog fr y = some (iv i)) (hz : evO Try.prog fr z = some (iv j)) :
    opSlice Try.prog 64 x (some y) (some z) none fr H n = some (.slice (some ⟨m, i * 7, some 0⟩) (j - i) i, H, n) := by
  have h1 : i ≤ j := by omega
  have h2 : i < Z.length := by omega
  simp only [opSlice, hx, evI, hy, hz, Try.underlying64, show szA Try.prog 79 = some 7 from by simp, used_row hg]
  simp [sliceA, boundA, h1, h2, hj]
theorem slice_lo {i : Nat} (hg : RowG H m Z) (h0 : 0 < i) (hi : i ≤ L) (hL : L ≤ Z.length) (hx : evO Try.prog fr x = some (.slice (some ⟨m, 0, some 0⟩) L 0)) (hy : evO Try.prog fr y = some (iv i)) :
    opSlice Try.prog 64 x (some y) none none fr H n = some (.slice (some ⟨m, i * 7, some (if i < Z.length then 0 else i * 7)⟩) (L - i) i, H, n) := by
  have h1 : 0 < i * 7 := by omega
  simp only [opSlice, hx, evI, hy, Try.underlying64, show szA Try.prog 79 = some 7 from by simp, used_row hg]
  by_cases h2 : i < Z.length
  · simp [sliceA, boundA, hi, hL, h2]
  · simp [sliceA, boundA, hi, hL, h2, h0]
theorem slice_max {i j k : Nat} (hg : RowG H m Z) (hij : i < j) (hjk : j ≤ k) (hk : k ≤ Z.length) (hx : evO Try.prog fr x = some (.slice (some ⟨m, 0, some 0⟩) L 0)) (hy : evO Try.prog fr y = some (iv i)) (hz : evO Try.prog fr z = some (iv j)) (hu : evO Try.prog fr u = some (iv k)) :
    opSlice Try.prog 64 x (some y) (some z) (some u) fr H n = some (.slice (some ⟨m, i * 7, none⟩) (j - i) (k - i), H, n) := by
  have h1 : i ≤ j := by omega
  have h2 : i < Z.length := by omega
  have h3 : (j : Int) ≤ k := by omega
  have h4 : (k : Int) ≤ Z.length := by omega
  have h5 : (i : Int) < k := by omega
  have h6 : j ≤ Z.length := by omega
  simp only [opSlice, hx, evI, hy, hz, hu, Try.underlying64, show szA Try.prog 79 = some 7 from by simp, used_row hg]
  simp [sliceA, boundA, h1, h2, h3, h4, h5, h6]
end
theorem len30 {H : Heap} {m k c : Nat} {oa : Option Addr} : builtinA Try.prog .len #[64] H m [.slice oa k c] = some (iv k, H, m) := by simp
def midZ (Z : List Gun) (L k : Nat) : List Gun := Z.take k ++ (Z.drop (k + 1)).take (L - (k + 1)) ++ Z.drop (L - 1)
def delZ (Z : List Gun) (L k : Nat) : List Gun := (midZ Z L k).set (L - 1) zeroG
section
variable {Z : List Gun} {L k : Nat}
theorem midZ_len (hk : k < L) (hL : L ≤ Z.length) : (midZ Z L k).length = Z.length := by
  unfold midZ
  simp
  omega
theorem delZ_len (hk : k < L) (hL : L ≤ Z.length) : (delZ Z L k).length = Z.length := by
  unfold delZ
  rw [List.length_set, midZ_len hk hL]
theorem delZ_take (hk : k < L) (hL : L ≤ Z.length) : (delZ Z L k).take (L - 1) = (Z.take L).eraseIdx k := by
  unfold delZ
  rw [List.take_set_of_le (Nat.le_refl _)]
  unfold midZ
  have h1 : (Z.take k ++ (Z.drop (k + 1)).take (L - (k + 1))).length = L - 1 := by simp; omega
  rw [List.take_left' h1, List.eraseIdx_eq_take_drop_succ, List.take_take, Nat.min_eq_left (by omega), List.drop_take]
end
set_option maxRecDepth 20000 in
theorem del_append {n m L k : Nat} {Z : List Gun} (hk : k < L) (hL : L ≤ Z.length) (_hlt : Z.length < 2147483648) :
    builtinA Try.prog .append #[64, 64] [(m, .ext (gcs Z) 79 7)] n [.slice (some ⟨m, 0, some 0⟩) k 0, .slice (some ⟨m, (k + 1) * 7, some (if k + 1 < Z.length then 0 else (k + 1) * 7)⟩) (L - (k + 1)) (k + 1)] = some (.slice (some ⟨m, 0, some 0⟩) (L - 1) 0, [(m, .ext (gcs (midZ Z L k)) 79 7)], n) := by
  have hu : Try.prog.underlying 64 = some (.slice 79) := Try.underlying64
  have hgl := gcs_length Z
  have hA : ∀ H s x, builtinA Try.prog .append #[64, 64] H n [s, x] = appendA Try.prog #[64, 64] H n s x := fun _ _ _ => rfl
  rw [hA]
  unfold appendA
  simp only [List.getElem?_toArray, List.getElem?_cons_zero, List.getElem?_cons_succ, hu, z95, lenX, lenV, srcX, srcA, s95]
  by_cases h0 : L - (k + 1) = 0
  · have hLk : L - 1 = k := by omega
    have hmid : midZ Z L k = Z := by
      unfold midZ
      rw [h0, List.take_zero, List.append_nil, hLk, List.take_append_drop]
    rw [h0, hmid, hLk]
    simp [appendTo, oneL]
    omega
  · have h1 : k + 1 < Z.length := by omega
    have h2 : ¬ (L - (k + 1)) * 7 = 0 := by omega
    have hc : cellsA [(m, .ext (gcs Z) 79 7)] m ((k + 1) * 7) ((L - (k + 1)) * 7) = some (gcs ((Z.drop (k + 1)).take (L - (k + 1)))) := by
      rw [cellsA_eq, hget_cons, if_pos rfl]
      have h3 : (k + 1) * 7 + (L - (k + 1)) * 7 ≤ (gcs Z).length := by omega
      simp only [Option.bind_some, cellsB, if_pos h3, gcs_drop, gcs_takeN]
    have hml : (gcs ((Z.drop (k + 1)).take (L - (k + 1)))).length = (L - (k + 1)) * 7 := by
      rw [gcs_length, List.length_take, List.length_drop]
      congr 1
      omega
    have hst : storeA [(m, .ext (gcs Z) 79 7)] m (k * 7) (gcs ((Z.drop (k + 1)).take (L - (k + 1)))) = some [(m, .ext (gcs (midZ Z L k)) 79 7)] := by
      unfold storeA
      rw [hget_cons, if_pos rfl]
      simp only
      have h4 : k * 7 + (gcs ((Z.drop (k + 1)).take (L - (k + 1)))).length ≤ (gcs Z).length := by omega
      rw [if_pos h4]
      have h5 : putL (gcs Z) (k * 7) (gcs ((Z.drop (k + 1)).take (L - (k + 1)))) = gcs (midZ Z L k) := by
        unfold putL midZ
        rw [hml, show k * 7 + (L - (k + 1)) * 7 = (L - 1) * 7 by omega, gcs_takeN, gcs_drop, gcs_appendB, gcs_appendB]
      rw [h5]
      simp [hset]
    have h6 : k * 7 ≤ (gcs Z).length := by omega
    have h7 : (k + (L - (k + 1))) * 7 ≤ (gcs Z).length := by omega
    have h8 : k + (L - (k + 1)) = L - 1 := by omega
    rw [h8] at h7
    simp only [if_pos h1, flat, Nat.beq_refl, if_neg h2, if_true, hc, hml, oneL_gcs, Bool.and_self]
    unfold appendTo
    simp only [hget_cons, if_true, s95, h8]
    rw [gcs_length] at h6 h7
    simp [-storeA, h6, h7, h0, hst]
theorem del_clear {n m L : Nat} {Z : List Gun} (h0 : 0 < L) (hL : L ≤ Z.length) : builtinA Try.prog .clear #[64] [(m, .ext (gcs Z) 79 7)] n [.slice (some ⟨m, (L - 1) * 7, some 0⟩) 1 (L - 1)] = some (undefV, [(m, .ext (gcs (Z.set (L - 1) zeroG)) 79 7)], n) := by
  have hu : Try.prog.underlying 64 = some (.slice 79) := Try.underlying64
  have hz : zeroA Try.prog 79 = some (.agg ⟨zeroG.cells⟩) := by kernel_rfl
  have hzc : (Builtin.zeroCells (Value.agg ⟨zeroG.cells⟩).cells 1).toList = zeroG.cells := by kernel_rfl
  have haf : afL zeroG.cells = true := rfl
  have hon : oneL zeroG.cells = true := rfl
  have hst := row_put (H := [(m, .ext (gcs Z) 79 7)]) (m := m) (l := Z) (by rw [hget_cons, if_pos rfl]) (j := L - 1) (by omega) zeroG
  have hss : hset [(m, Blk.ext (gcs Z) 79 7)] m (.ext (gcs (Z.set (L - 1) zeroG)) 79 7) = [(m, .ext (gcs (Z.set (L - 1) zeroG)) 79 7)] := by simp [hset]
  rw [hss] at hst
  unfold builtinA
  simp only [List.getElem?_toArray, List.getElem?_cons_zero, hu, hz, Nat.zero_add, hzc, haf, hon, flat, Nat.beq_refl, Bool.and_self, if_true, hst]
set_option maxRecDepth 20000 in
theorem w51 {m n L k : Nat} (hm : m < n) (Z : List Gun) (hk : k < L) (hL : L ≤ Z.length) (hlt : Z.length < 2147483648) : AC Try.prog 51 [.slice (some ⟨m, 0, some 0⟩) L 0, iv k, iv ((k : Int) + 1)] [(m, .ext (gcs Z) 79 7)] n (.slice (some ⟨m, 0, some 0⟩) (L - 1) 0) [(m, .ext (gcs (delZ Z L k)) 79 7)] n := by
  have hr := recT_ok (P := Try.prog) (l := []) (by simp)
  have hg : ∀ Z : List Gun, RowG [(m, .ext (gcs Z) 79 7)] m Z := fun Z => .inl (by rw [hget_cons, if_pos rfl])
  have hg2 : ∀ Z : List Gun, RowG (readA [m] [(m, .ext (gcs Z) 79 7)]) m Z := fun Z => .inl (by rw [hget_readA, if_pos (by simp), hget_cons, if_pos rfl])
  have h1 : ¬ (k : Int) = (k : Int) + 1 := by omega
  have h2 : k ≤ Z.length := by omega
  have h3 : 0 < Z.length := by omega
  have h4 : k + 1 ≤ L := hk
  have h5 : L - 1 < L := by omega
  have hml : (midZ Z L k).length = Z.length := midZ_len hk hL
  refine AC.wroteV Try.func51 rfl (by kernel_rfl) rfl [] rfl hm (fun k' b hk' => ?_) ?_
  · rw [hget_cons] at hk'
    split at hk'
    · rename_i e; subst e; injection hk' with hk'; subst hk'
      exact ⟨hm, .inr ⟨⟨_, by rw [hget_cons, if_pos rfl]⟩, scL_af _ _ (gcs_afB _)⟩⟩
    · cases hk'
  refine E.seq ?_
  refine E.reg hr (by simp; rfl) ?_
  refine E.seq ?_
  refine E.reg hr (by simp [slice_max (i := k) (j := k + 1) (k := L) (L := L) (hg Z) (Nat.lt_succ_self k) h4 hL]; rfl) ?_
  refine E.seq ?_
  refine E.seq ?_
  refine E.reg hr (by simp; rfl) ?_
  refine E.cond (t := false) (by simp [h1]) (fun h => by cases h) (fun _ => ?_)
  refine E.skip ?_
  refine E.seq ?_
  refine E.reg hr (by simp; rfl) ?_
  refine E.seq ?_
  have happ := del_append (n := n) (m := m) hk hL hlt
  refine E.drawU mixed hr [6] [6] [2, 5, 6] (by kernel_rfl) (by simp [-builtinA, -readA, hm, slice_hi (i := k) (L := L) (hg2 Z) h2 h3, slice_lo (i := k + 1) (L := L) (hg2 Z) (Nat.succ_pos k) h4 hL, happ]; rfl) ?_
  refine E.seq ?_
  have hclr := del_clear (n := n) (m := m) (L := L) (Z := midZ Z L k) (by omega) (by omega)
  have h6 : L - (L - 1) = 1 := by omega
  refine E.reg hr (by simp [-builtinA, len30, slice_lohi (i := L - 1) (j := L) (L := L - 1) (hg (midZ Z L k)) h5 (by omega), h6, hclr]; rfl) ?_
  refine E.seq ?_
  refine E.reg hr (by simp; rfl) ?_
  refine E.ret ?_
  exact ⟨.inr rfl, rfl, ⟨_, rfl, rfl⟩, fun k b hk => hk⟩
end Go.Proofs.Ytljglocehbccnaa.Gn

namespace Go.Proofs.Ytljglocehbccnaa.Gn
open Go Go.Ab Go.Proofs Go.Soft
theorem AC.oneRow {f : FuncId} {args : List Value} {m n : Nat} {Z Z' : List Gun} {v : Value} (h : AC Try.prog f args [(m, .ext (gcs Z) 79 7)] n v [(m, .ext (gcs Z') 79 7)] n) {H : Heap} (hm : hget H m = some (.ext (gcs Z) 79 7)) : AC Try.prog f args H n v (hset H m (.ext (gcs Z') 79 7)) n := by
  refine h.frame (fun k b hk => ?_) fun k b hk => ?_
  · rw [hget_cons] at hk
    split at hk
    · rename_i e; subst e; injection hk with hk; subst hk; exact hm
    · cases hk
  · rw [hget_set] at hk
    by_cases e : m = k
    · subst e
      rw [if_pos rfl, hm] at hk
      injection hk with hk
      subst hk
      exact .inl (by rw [hget_cons, if_pos rfl])
    · rw [if_neg e] at hk
      exact .inr ⟨hk, by rw [hget_cons, if_neg e]; rfl⟩
open Classical in
noncomputable def rowZ (H : Heap) (b L : Nat) : Option (List Gun) := if h : ∃ Z : List Gun, hget H b = some (.ext (gcs Z) 79 7) ∧ L ≤ Z.length ∧ Z.length < 2147483648 then some (Classical.choose h) else none
theorem rowZ_spec {H : Heap} {b L : Nat} {Z : List Gun} (h : rowZ H b L = some Z) : hget H b = some (.ext (gcs Z) 79 7) ∧ L ≤ Z.length ∧ Z.length < 2147483648 := by
  unfold rowZ at h
  split at h
  · rename_i hc
    injection h with h
    rw [← h]
    exact Classical.choose_spec hc
  · cases h
theorem rowZ_at {H : Heap} {b L : Nat} {Z : List Gun} (hm : hget H b = some (.ext (gcs Z) 79 7)) (hL : L ≤ Z.length) (hlt : Z.length < 2147483648) : rowZ H b L = some Z := by
  have hex : ∃ Z : List Gun, hget H b = some (.ext (gcs Z) 79 7) ∧ L ≤ Z.length ∧ Z.length < 2147483648 := ⟨Z, hm, hL, hlt⟩
  unfold rowZ
  rw [dif_pos hex]
  have h2 := (Classical.choose_spec hex).1.symm.trans hm
  injection h2 with h2
  injection h2 with h2
  rw [gcs_injB h2]
noncomputable def g51 (args : List Value) (H : Heap) (n : Nat) : R := match args with
  | [.slice (some ⟨b, 0, some 0⟩) L 0, .int .i64 k, .int .i64 k1] => match rowZ H b L with
    | some Z => if 0 ≤ k ∧ k.toNat < L ∧ k1 = k + 1 then some (.slice (some ⟨b, 0, some 0⟩) (L - 1) 0, hset H b (.ext (gcs (delZ Z L k.toNat)) 79 7), n) else none
    | none => none
  | _ => none
theorem g51_at {H : Heap} {n m L k : Nat} {Z : List Gun} (hm : hget H m = some (.ext (gcs Z) 79 7)) (hk : k < L) (hL : L ≤ Z.length) (hlt : Z.length < 2147483648) : g51 [.slice (some ⟨m, 0, some 0⟩) L 0, iv k, iv ((k : Int) + 1)] H n = some (.slice (some ⟨m, 0, some 0⟩) (L - 1) 0, hset H m (.ext (gcs (delZ Z L k)) 79 7), n) := by
  have h1 : (0 : Int) ≤ k ∧ (k : Int).toNat < L ∧ True := ⟨by omega, by omega, trivial⟩
  simp only [g51, rowZ_at hm hL hlt]
  rw [if_pos h1]
  rfl
theorem ok51 : EntOk Try.prog (51, g51) := by
  intro args H n v H' n' h
  simp only [g51] at h
  split at h
  · split at h
    · rename_i b L k k1 Z hz
      split at h
      · rename_i hc
        injection h with h; injection h with e1 e2; injection e2 with e2 e3; subst e1 e2 e3
        obtain ⟨h1, h2, h3⟩ := rowZ_spec hz
        obtain ⟨h5, h6, rfl⟩ := hc
        refine AC.given fun hold _ _ => AC.oneRow ?_ h1
        have := w51 (hold _ _ h1).1 Z h6 h2 h3
        rwa [Int.toNat_of_nonneg h5] at this
      · cases h
    · cases h
  · cases h
def volN (l : List Gun) (s : ByteArray) : Int := match l.find? fun g => decide (g.name = s) with
  | some g => g.v
  | none => 0
def sumN (l : List Gun) (ns : List ByteArray) : Int := ns.foldl (fun a s => a + volN l s) 0
theorem sumN_snoc (l : List Gun) (ns : List ByteArray) (s : ByteArray) : sumN l (ns ++ [s]) = sumN l ns + volN l s := by
  unfold sumN
  rw [List.foldl_append]
  rfl
def waitN (l : List Gun) (seen : List ByteArray) : List Gun := l.filter fun g => !hasW g.name seen
def rowAt (ls : List (List ByteArray)) (i : Nat) : List ByteArray := ls.getD i []
theorem rowAt_eq {ls : List (List ByteArray)} {i : Nat} (h : i < ls.length) : rowAt ls i = ls[i] := by
  unfold rowAt
  rw [List.getD_eq_getElem?_getD, List.getElem?_eq_getElem h]
  rfl
abbrev seenN (ls : List (List ByteArray)) (i : Nat) : List ByteArray := (ls.take i).flatten
def aloneP (l : List Gun) (seen r : List ByteArray) : Bool := decide (r.length = 1) && decide (sumN l (seen ++ r) - sumN l seen = (leastG (waitN l seen)).v)
def badS (alone : Bool) (i : Nat) (before after : Int) : Bool := !alone && (decide (i = 0) || decide (2 * before < after))
def badP (l : List Gun) (ls : List (List ByteArray)) (i : Nat) : Bool := badS (aloneP l (seenN ls i) (rowAt ls i)) i (sumN l (seenN ls i)) (sumN l (seenN ls i ++ rowAt ls i))
def ruleV (bad : Nat → Bool) (k : Nat) : Int := if (List.range k).any bad then 21 else 0
theorem ruleV_hit {bad : Nat → Bool} {k i : Nat} (hi : i < k) (h : bad i = true) : ruleV bad k = 21 := by
  unfold ruleV
  rw [if_pos (List.any_eq_true.2 ⟨i, List.mem_range.2 hi, h⟩)]
theorem ruleV_miss {bad : Nat → Bool} {k : Nat} (h : ∀ j, j < k → bad j = false) : ruleV bad k = 0 := by
  unfold ruleV
  rw [if_neg]
  intro h2
  obtain ⟨j, hj, e⟩ := List.any_eq_true.1 h2
  rw [h j (List.mem_range.1 hj)] at e
  cases e
theorem rowP_zero {l : List Gun} : ∀ {seen r : List ByteArray}, rowP l seen r = 0 → ∀ j (hj : j < r.length), nameP l (seen ++ r.take j) r[j] = 0
  | seen, [], _, j, hj => by simp at hj
  | seen, s :: ss, h, j, hj => by
    rw [rowP] at h
    split at h
    · rename_i hz
      cases j with
      | zero => simpa using hz
      | succ j =>
        have := rowP_zero h j (by simpa using hj)
        simpa using this
    · rename_i hz
      exact absurd h hz
theorem stpP_zero {l : List Gun} : ∀ {seen : List ByteArray} {ls : List (List ByteArray)}, stpP l seen ls = 0 → (∀ i (hi : i < ls.length), ls[i] ≠ [] ∧ rowP l (seen ++ (ls.take i).flatten) ls[i] = 0) ∧ ¬ (seen ++ ls.flatten).length < l.length
  | seen, [], h => by
    rw [stpP] at h
    refine ⟨fun i hi => by simp at hi, ?_⟩
    split at h
    · cases h
    · rename_i h1
      simpa using h1
  | seen, r :: rs, h => by
    rw [stpP] at h
    split at h
    · cases h
    · rename_i hne
      split at h
      · rename_i hz
        obtain ⟨h1, h2⟩ := stpP_zero h
        refine ⟨fun i hi => ?_, ?_⟩
        · cases i with
          | zero => exact ⟨hne, by simpa using hz⟩
          | succ i =>
            have := h1 i (by simpa using hi)
            simpa [List.append_assoc] using this
        · simpa [List.append_assoc] using h2
      · rename_i hz
        exact absurd h hz
/-- names that are all different -/
def Dis (l : List Gun) : Prop := ∀ i j (hi : i < l.length) (hj : j < l.length), l[i].name = l[j].name → i = j
theorem nameP_zero {l : List Gun} {seen : List ByteArray} {s : ByteArray} (h : nameP l seen s = 0) : (∃ i, ∃ h : i < l.length, l[i].name = s) ∧ s ∉ seen := by
  unfold nameP at h
  split at h
  · cases h
  · rename_i h1
    split at h
    · cases h
    · rename_i h2
      refine ⟨?_, fun hm => h2 (hasW_iff.2 hm)⟩
      apply Classical.byContradiction
      intro hn
      refine h1 ?_
      rw [atV_miss (Nat.le_refl _) fun j hj e => hn ⟨j, hj, e⟩]
      omega
theorem Dis.find {l : List Gun} (hd : Dis l) {i : Nat} (hi : i < l.length) : l.find? (fun g => decide (g.name = l[i].name)) = some l[i] := by
  rw [List.find?_eq_some_iff_getElem]
  refine ⟨by simp, i, hi, rfl, fun j hj => ?_⟩
  simp only [Bool.not_eq_eq_eq_not, Bool.not_true, decide_eq_false_iff_not]
  intro e
  have := hd j i (by omega) hi e
  omega
theorem Dis.vol {l : List Gun} (hd : Dis l) {i : Nat} (hi : i < l.length) : volN l l[i].name = l[i].v := by
  unfold volN
  rw [hd.find hi]
theorem Dis.tail {g : Gun} {l : List Gun} (hd : Dis (g :: l)) : Dis l ∧ ∀ x ∈ l, x.name ≠ g.name := by
  refine ⟨fun i j hi hj e => ?_, fun x hx e => ?_⟩
  · have := hd (i + 1) (j + 1) (by simpa using hi) (by simpa using hj) (by simpa using e)
    omega
  · obtain ⟨i, hi, rfl⟩ := List.getElem_of_mem hx
    have := hd (i + 1) 0 (by simpa using hi) (by simp) (by simpa using e)
    omega
theorem Dis.filter {p : Gun → Bool} : ∀ {l : List Gun}, Dis l → Dis (l.filter p)
  | [], _ => fun i j hi _ _ => by simp at hi
  | g :: l, hd => by
    obtain ⟨h1, h2⟩ := hd.tail
    have ih := Dis.filter (p := p) h1
    rw [List.filter_cons]
    split
    · intro i j hi hj e
      cases i with
      | zero =>
        cases j with
        | zero => rfl
        | succ j =>
          have hm : (l.filter p)[j]'(by simpa using hj) ∈ l := (List.mem_filter.1 (List.getElem_mem _)).1
          exact absurd (by simpa using e.symm) (h2 _ hm)
      | succ i =>
        cases j with
        | zero =>
          have hm : (l.filter p)[i]'(by simpa using hi) ∈ l := (List.mem_filter.1 (List.getElem_mem _)).1
          exact absurd (by simpa using e) (h2 _ hm)
        | succ j =>
          have := ih i j (by simpa using hi) (by simpa using hj) (by simpa using e)
          omega
    · exact ih
/-- one taken out is the others kept -/
theorem Dis.erase : ∀ {W : List Gun}, Dis W → ∀ {k : Nat} (hk : k < W.length), W.eraseIdx k = W.filter fun g => !decide (g.name = W[k].name)
  | [], _, k, hk => by simp at hk
  | g :: W, hd, 0, _ => by
    obtain ⟨_, h2⟩ := hd.tail
    rw [List.eraseIdx_cons_zero, List.filter_cons]
    simp only [List.getElem_cons_zero, decide_true, Bool.not_true, Bool.false_eq_true, if_false]
    rw [List.filter_eq_self.2]
    intro x hx
    simpa using h2 x hx
  | g :: W, hd, k + 1, hk => by
    obtain ⟨h1, h2⟩ := hd.tail
    have hk' : k < W.length := by simpa using hk
    rw [List.eraseIdx_cons_succ, List.filter_cons, h1.erase hk']
    simp only [List.getElem_cons_succ]
    have : ¬ g.name = W[k].name := fun e => h2 _ (List.getElem_mem hk') e.symm
    simp [this]
theorem hasW_snoc (s t : ByteArray) (l : List ByteArray) : hasW s (l ++ [t]) = (hasW s l || decide (t = s)) := by
  unfold hasW
  rw [List.any_append]
  simp
/-- a name that waits: where it stands, its volume, what waits behind it -/
theorem wait_step {l : List Gun} (hd : Dis l) {seen : List ByteArray} {s : ByteArray} (h : nameP l seen s = 0) :
    ∃ k, ∃ hk : k < (waitN l seen).length, atV (waitN l seen) s (waitN l seen).length = (k : Int) ∧ ((waitN l seen)[k]).v = volN l s ∧ (waitN l seen).eraseIdx k = waitN l (seen ++ [s]) := by
  obtain ⟨⟨i, hi, rfl⟩, hns⟩ := nameP_zero h
  have hW : Dis (waitN l seen) := hd.filter
  have hm : l[i] ∈ waitN l seen := by
    unfold waitN
    rw [List.mem_filter]
    refine ⟨List.getElem_mem hi, ?_⟩
    cases e : hasW l[i].name seen with
    | false => rfl
    | true => exact absurd (hasW_iff.1 e) hns
  obtain ⟨k, hk, e⟩ := List.getElem_of_mem hm
  refine ⟨k, hk, ?_, ?_, ?_⟩
  · refine atV_hit (Nat.le_refl _) hk (by rw [e]) fun j hj e2 => ?_
    have := hW j k (by omega) hk (by rw [e]; exact e2)
    omega
  · rw [e, hd.vol hi]
  · rw [hW.erase hk, e]
    unfold waitN
    rw [List.filter_filter]
    congr 1
    funext g
    rw [hasW_snoc]
    cases hasW g.name seen with
    | true => simp
    | false =>
      by_cases e2 : g.name = l[i].name
      · simp [e2]
      · have : ¬ l[i].name = g.name := fun e3 => e2 e3.symm
        simp [e2, this]
theorem minG_mem {W : List Gun} : ∀ i, i < W.length → minG W i ∈ W
  | 0, h => by
    rw [minG, List.getD_eq_getElem?_getD, List.getElem?_eq_getElem h]
    exact List.getElem_mem h
  | i + 1, h => by
    rw [minG]
    split
    · rw [List.getD_eq_getElem?_getD, List.getElem?_eq_getElem h]
      exact List.getElem_mem h
    · exact minG_mem i (by omega)
theorem minG_le {W : List Gun} : ∀ i j (hj : j < W.length), j ≤ i → i < W.length → (minG W i).v ≤ W[j].v
  | 0, j, hj, h, h2 => by
    obtain rfl : j = 0 := by omega
    rw [minG, List.getD_eq_getElem?_getD, List.getElem?_eq_getElem hj]
    exact Int.le_refl _
  | i + 1, j, hj, h, h2 => by
    rw [minG]
    by_cases e : j = i + 1
    · subst e
      split
      · rw [List.getD_eq_getElem?_getD, List.getElem?_eq_getElem hj]
        exact Int.le_refl _
      · rename_i hn
        rw [List.getD_eq_getElem?_getD, List.getElem?_eq_getElem hj] at hn
        simp only [Option.getD_some] at hn
        omega
    · have := minG_le i j hj (by omega) (by omega)
      split
      · rename_i hn; omega
      · exact this
/-- what a string without errors is -/
theorem strE_zero {l : List Gun} (h : strE l = 0) : l ≠ [] ∧ l.length ≤ 8 ∧ Dis l ∧ ∀ g ∈ l, 1 ≤ g.v ∧ g.v ≤ 64 := by
  unfold strE at h
  split at h
  · cases h
  · rename_i h0
    split at h
    · cases h
    · rename_i h8
      have hz : ∀ i, i < l.length → gunChk l i = 0 := fun i hi => (firstV_zero _).1 h _ (List.mem_map.2 ⟨i, List.mem_range.2 hi, rfl⟩)
      have hg : ∀ i (hi : i < l.length), nameE l[i].name = 0 ∧ (if 0 ≤ atV l l[i].name i then (9 : Int) else 0) = 0 ∧ l[i].err = 0 := fun i hi => by
        have := hz i hi
        rw [gunChk_at hi] at this
        have h1 := (firstV_zero _).1 this
        exact ⟨h1 _ (by simp), h1 _ (by simp), h1 _ (by simp)⟩
      have hlt : ∀ i j (hi : i < l.length) (hj : j < l.length), i < j → l[i].name ≠ l[j].name := fun i j hi hj hij e => by
        have h2 := (hg j hj).2.1
        have hex : ∃ k, ∃ hk : k < j, (l[k]'(by omega)).name = l[j].name := ⟨i, hij, e⟩
        have h3 : 0 ≤ atV l l[j].name j := by
          apply Classical.byContradiction
          intro hn
          unfold atV at hn
          split at hn
          · omega
          · rename_i hf
            rw [List.findIdx?_eq_none_iff] at hf
            have hm : l[i] ∈ l.take j := by
              rw [List.mem_take_iff_getElem]
              exact ⟨i, by omega, rfl⟩
            have := hf _ hm
            simp [e] at this
        rw [if_pos h3] at h2
        cases h2
      refine ⟨fun e => h0 (by rw [e]; rfl), by omega, fun i j hi hj e => ?_, fun g hgm => ?_⟩
      · rcases Nat.lt_trichotomy i j with h | h | h
        · exact absurd e (hlt i j hi hj h)
        · exact h
        · exact absurd e.symm (hlt j i hj hi h)
      · obtain ⟨i, hi, rfl⟩ := List.getElem_of_mem hgm
        have h1 := (hg i hi).2.2
        unfold Gun.err at h1
        have h2 := (firstV_zero _).1 h1 (withinV l[i].v 1 64) (by simp)
        unfold withinV at h2
        split at h2
        · cases h2
        · omega
theorem volN_bound {l : List Gun} (hb : ∀ g ∈ l, 1 ≤ g.v ∧ g.v ≤ 64) (s : ByteArray) : 0 ≤ volN l s ∧ volN l s ≤ 64 := by
  unfold volN
  split
  · rename_i g hg
    have := hb g (List.mem_of_find?_eq_some hg)
    omega
  · omega
theorem sumN_bound {l : List Gun} (hb : ∀ g ∈ l, 1 ≤ g.v ∧ g.v ≤ 64) (ns : List ByteArray) : 0 ≤ sumN l ns ∧ sumN l ns ≤ 64 * ns.length := by
  have key : ∀ (ns : List ByteArray) (a : Int), 0 ≤ a → 0 ≤ ns.foldl (fun a s => a + volN l s) a ∧ ns.foldl (fun a s => a + volN l s) a ≤ a + 64 * ns.length := by
    intro ns
    induction ns with
    | nil => intro a ha; simp; exact ha
    | cons s ns ih =>
      intro a ha
      have hv := volN_bound hb s
      have := ih (a + volN l s) (by omega)
      rw [List.foldl_cons, List.length_cons]
      push_cast
      omega
  have := key ns 0 (by omega)
  unfold sumN
  omega
end Go.Proofs.Ytljglocehbccnaa.Gn

namespace Go.Proofs.Ytljglocehbccnaa.Gn
open Go Go.Ab Go.Proofs Go.Soft
/-- guns in a row of one's own -/
def OwnG (H : Heap) (v : Value) (l : List Gun) : Prop := ∃ b, v = .slice (some ⟨b, 0, some 0⟩) l.length 0 ∧ RowG H b l ∧ 0 < l.length ∧ l.length < 2147483648
theorem OwnG.mono {H H' : Heap} (hs : Sub H H') {v : Value} {l : List Gun} (h : OwnG H v l) : OwnG H' v l := by
  obtain ⟨b, e, h1, h2⟩ := h
  refine ⟨b, e, ?_, h2⟩
  rcases h1 with h1 | h1
  · exact .inl (hs _ _ h1)
  · exact .inr (hs _ _ h1)
theorem OwnG.tidy {H : Heap} {n : Nat} (hl : ∀ k b, hget H k = some b → k < n) {v : Value} {l : List Gun} (h : OwnG H v l) : OwnG (Ab.tidy n H) v l := by
  obtain ⟨b, e, h1, h2⟩ := h
  refine ⟨b, e, ?_, h2⟩
  rcases h1 with h1 | h1
  · exact .inl (hget_tidy.2 ⟨h1, hl _ _ h1, rfl⟩)
  · exact .inr (hget_tidy.2 ⟨h1, hl _ _ h1, rfl⟩)
theorem OwnG.guns {H : Heap} {v : Value} {l : List Gun} (h : OwnG H v l) : GunsAt H v l := by
  obtain ⟨b, e, h1, h2, h3⟩ := h
  refine ⟨_, 0, e, rfl, ?_, h2, h3⟩
  have hg := gcs_length l
  rcases h1 with h1 | h1 <;> rw [cellsA_eq, h1] <;> simp [cellsB] <;> exact List.take_of_length_le (by omega)
theorem OwnG.check {H : Heap} {v : Value} {l : List Gun} (h : OwnG H v l) (n : Nat) : g41 [.agg ⟨[v]⟩] H n = some (iv (strE l), H, n) := by
  obtain ⟨b, rfl, h1, h2, h3⟩ := h
  have hr : rowOf H b = some (gcs l, 7) := by
    unfold rowOf
    rcases h1 with h1 | h1 <;> rw [h1]
  have hlt : l.length < 2 ^ 63 := by omega
  simp only [g41, hr, gunsOf_gcs]
  rw [if_pos ⟨trivial, hlt⟩]
theorem row_take {H : Heap} {m : Nat} {Z W : List Gun} (h : hget H m = some (.ext (gcs Z) 79 7)) (hW : Z.take W.length = W) (h0 : 0 < W.length) (hl : Z.length < 2147483648) : GunsAt H (.slice (some ⟨m, 0, some 0⟩) W.length 0) W := by
  have hle : W.length ≤ Z.length := by
    have := congrArg List.length hW
    rw [List.length_take] at this
    omega
  have := guns_part h (i := 0) (j := W.length) (c := 0) h0 hle hl
  rwa [Nat.zero_mul, Nat.sub_zero, List.drop_zero, hW] at this
/-- guns that wait, beside a box -/
structure WB (n : Nat) (H : Heap) (v : Value) (Z : List Gun) (Hx : Heap) : Prop where
  box : hget Hx n = some (.cells [v] 66)
  row : hget Hx (n + 1) = some (.ext (gcs Z) 79 7)
  sub : Sub (tidy n H) Hx
  nm : namesOk (n + 1 + 1) Hx = true
theorem WB.put {n : Nat} {H Hx : Heap} {v : Value} {Z Z' : List Gun} (h : WB n H v Z Hx) : WB n H v Z' (hset Hx (n + 1) (.ext (gcs Z') 79 7)) := by
  refine ⟨?_, ?_, fun k b hk => ?_, namesOk_hset h.nm⟩
  · rw [hget_set, if_neg (by omega)]; exact h.box
  · rw [hget_set, if_pos rfl, h.row]; rfl
  · have := tidy_lt k b hk
    rw [hget_set, if_neg (by omega)]
    exact h.sub k b hk
def startE (l : List Gun) (ls : List (List ByteArray)) : Int := if strE l = 0 then (if stpP l [] ls = 0 then ruleV (badP l ls) ls.length else stpP l [] ls) else strE l
theorem w18n {H : Heap} {n : Nat} {u : Value} : AC Try.prog 18 [nilV, u] H n (iv 12) H n := by
  refine AC.given fun hold _ _ => AC.tidied (B := []) (by simp) ?_
  have hr := recT_ok (P := Try.prog) (l := [(41, g41)]) (by simp [ok41])
  have h12 : strE [] = 12 := rfl
  refine AC.pure Try.func18 rfl (by kernel_rfl) rfl [] rfl ?_
  refine E.seq ?_
  refine E.reg hr (by simp; rfl) ?_
  refine E.seq ?_
  refine E.seq ?_
  refine E.reg hr (by simp [g41, h12]; rfl) ?_
  refine E.seq ?_
  refine E.reg hr (by simp; rfl) ?_
  refine E.cond (t := true) (by simp) (fun _ => ?_) (fun h => by cases h)
  refine E.seq ?_
  refine E.reg hr (by simp; rfl) ?_
  refine E.ret ?_
  exact pureK.ret rfl rfl (by simp) (Sub.cons (by simp) (Sub.refl _))
set_option maxRecDepth 20000 in
set_option maxHeartbeats 1000000 in
theorem w18 {H : Heap} {n : Nat} {v u : Value} {l : List Gun} {ls : List (List ByteArray)} (hG : OwnG H v l) (hN : nestS H u = some ls) (hsz : ls.flatten.length ≤ 4096) : AC Try.prog 18 [.agg ⟨[v]⟩, u] H n (iv (startE l ls)) H n := by
  refine AC.given fun hold _ _ => AC.tidied (B := []) (by simp) ?_
  replace hG := hG.tidy (fun k b h => (hold k b h).1)
  replace hN : nestS (tidy n H) u = some ls := listV_tidy (decL_tidy decS_tidy) (fun k b h => (hold k b h).1) hN
  have hr := recT_ok (P := Try.prog) (l := [(41, g41), (48, g48), (42, g42), (49, g49), (50, g50), (51, g51)]) (by simp only [List.forall_mem_cons]; exact ⟨ok41, ok48, ok42, ok49, ok50, ok51, by simp⟩)
  obtain ⟨bb, rfl, hb1, hp, hlt⟩ := id hG
  obtain ⟨V, hV⟩ : ∃ V, Value.slice (some ⟨bb, 0, some 0⟩) l.length 0 = V := ⟨_, rfl⟩
  rw [hV] at hG ⊢
  have hS : Sub (tidy n H) ((n, .cells [V] 66) :: tidy n H) := Sub.cons (by simp) (Sub.refl _)
  have hG1 := hG.mono hS
  have hN1 : nestS ((n, .cells [V] 66) :: tidy n H) u = some ls := listV_mono (decL_mono decS_mono) hS hN
  have hc31 := hG1.check (n + 1)
  have hc148 : g48 [.agg ⟨[V]⟩, u] ((n, .cells [V] 66) :: tidy n H) (n + 1) = some (iv (stpP l [] ls), (n, .cells [V] 66) :: tidy n H, n + 1) := by
    simp only [g48, gunsOf_atB hG1.guns, hN1]
    rw [if_pos (by omega)]
  have hc142 : g42 [V] ((n, .cells [V] 66) :: tidy n H) (n + 1) = some (.slice (some ⟨n + 1, 0, some 0⟩) l.length 0, (n + 1, .ext (gcs l) 79 7) :: (n, .cells [V] 66) :: tidy n H, n + 1 + 1) := by
    simp only [g42, gunsOf_atB hG1.guns, Option.map_some]
  refine AC.pure Try.func18 rfl (by kernel_rfl) rfl [7, 8, 9, 10, 11, 12, 31, 32, 33, 42, 43, 44] rfl ?_
  refine E.seq ?_
  refine E.reg hr (by simp; rfl) ?_
  refine E.seq ?_
  refine E.seq ?_
  refine E.reg hr (by simp [hc31]; rfl) ?_
  refine E.seq ?_
  refine E.reg hr (by simp; rfl) ?_
  by_cases h31 : strE l = 0
  rotate_left
  · refine E.cond (t := true) (by simp [h31]) (fun _ => ?_) (fun h => by cases h)
    refine E.seq ?_
    refine E.reg hr (by simp; rfl) ?_
    refine E.ret ?_
    exact pureK.ret rfl rfl (by simp [startE, h31]) hS
  refine E.cond (t := false) (by simp [h31]) (fun h => by cases h) (fun _ => ?_)
  refine E.skip ?_
  refine E.seq ?_
  refine E.seq ?_
  refine E.reg hr (by simp [hc148]; rfl) ?_
  refine E.seq ?_
  refine E.reg hr (by simp; rfl) ?_
  by_cases h148 : stpP l [] ls = 0
  rotate_left
  · refine E.cond (t := true) (by simp [h148]) (fun _ => ?_) (fun h => by cases h)
    refine E.seq ?_
    refine E.reg hr (by simp; rfl) ?_
    refine E.ret ?_
    exact pureK.ret rfl rfl (by simp [startE, h31, h148]) hS
  have hres : startE l ls = ruleV (badP l ls) ls.length := by unfold startE; rw [if_pos h31, if_pos h148]
  rw [hres]
  obtain ⟨_, _, hd, hbd⟩ := strE_zero h31
  have hz := (stpP_zero h148).1
  have hW0 : waitN l (seenN ls 0) = l := List.filter_eq_self.2 fun g _ => rfl
  have hM0 : sumN l (seenN ls 0) = 0 := rfl
  obtain ⟨oa, c, rfl, hlt3, _, hrow⟩ := nestS_form hN
  refine E.cond (t := false) (by simp [h148]) (fun h => by cases h) (fun _ => ?_)
  refine E.skip ?_
  refine E.seq ?_
  refine E.reg hr (by simp [hc142]; rfl) ?_
  refine E.seq ?_
  refine E.reg hr (by simp; rfl) ?_
  refine E.seq ?_
  refine E.seq ?_
  refine E.reg hr (by simp; rfl) ?_
  refine E.block ?_
  refine E.loop ?_
  refine EL.ind (fun x : Nat × Heap × List Gun => { fr := [(7, .slice (some ⟨n + 1, 0, some 0⟩) (waitN l (seenN ls x.1)).length 0), (8, iv (sumN l (seenN ls x.1))), (31, .slice oa ls.length c), (32, iv ls.length), (33, iv x.1)], sz := 87, H := x.2.1, n := n + 1 + 1, marks := [], vs := [7, 8, 9, 10, 11, 12, 31, 32, 33, 42, 43, 44] }) (fun x => ls.length - x.1) (fun x => (x.1 ≤ ls.length ∧ ∀ j, j < x.1 → badP l ls j = false) ∧ WB n H V x.2.2 x.2.1 ∧ x.2.2.take (waitN l (seenN ls x.1)).length = waitN l (seenN ls x.1) ∧ x.2.2.length = l.length) (0, (n + 1, .ext (gcs l) 79 7) :: (n, .cells [V] 66) :: tidy n H, l) (.keep rfl rfl rfl (by rw [hW0, hM0]; simp) (Sub.refl _)) ⟨⟨Nat.zero_le _, fun j hj => by omega⟩, ⟨by simp, by simp, Sub.trans hS (Sub.cons (by simp) (Sub.refl _)), namesOk_put (by omega) (namesOk_put (by omega) (namesOk_mono (by omega) _ namesOk_tidy))⟩, by rw [hW0, List.take_length], rfl⟩ (fun _ => rfl) ?_
  rintro ⟨i, Hx, Z⟩ ⟨⟨hi, hbad⟩, hB, hZ, hZl⟩
  dsimp only at hi hbad hB hZ hZl ⊢
  have hw : IntKind.i64.wrap ((i : Int) + 1) = (i : Int) + 1 := W_in (by omega) (by omega)
  refine E.seq ?_
  refine E.reg hr (by simp; rfl) ?_
  refine E.seq ?_
  by_cases hil : i < ls.length
  · obtain ⟨a, r, rfl, hf, hc, hR⟩ := hrow i hil
    have hc2 := hB.sub.cell hc
    obtain ⟨ob, d, rfl, hlt2, _, hrow2⟩ := strV_form hR
    obtain ⟨hr0, hrz⟩ := hz i hil
    rw [List.nil_append] at hrz
    have hseen : seenN ls (i + 1) = seenN ls i ++ ls[i] := flat_succ hil
    have hbi : badP l ls i = badS (aloneP l (seenN ls i) ls[i]) i (sumN l (seenN ls i)) (sumN l (seenN ls i ++ ls[i])) := by unfold badP; rw [rowAt_eq hil]
    have hfl : ∀ j, (seenN ls i ++ ls[i].take j).length ≤ ls.flatten.length := fun j => flat_row hil
    have hnm := fun j hj => rowP_zero hrz j hj
    obtain ⟨S, hS'⟩ : ∃ S, seenN ls i = S := ⟨_, rfl⟩
    obtain ⟨R, hRR⟩ : ∃ R, ls[i] = R := ⟨_, rfl⟩
    have hrow2' : ∀ j (hj : j < R.length), ∃ a, ob = some a ∧ flat a = true ∧ cellA (tidy n H) a.block (a.off + j) = some (.string R[j]) := by subst hRR; exact hrow2
    have hnm' : ∀ j (hj : j < R.length), nameP l (S ++ R.take j) R[j] = 0 := by subst hRR hS'; exact hnm
    rw [hS', hRR] at hseen hbi hfl
    rw [hS'] at hZ ⊢
    rw [hRR] at hr0 hlt2 hc hc2
    have hSl : S.length ≤ ls.flatten.length := by
      have := hfl 0
      simpa using this
    have hb0 := sumN_bound hbd S
    have hRp : 0 < R.length := List.length_pos_iff.2 hr0
    have hWp : 0 < (waitN l S).length := by
      obtain ⟨k, hk, _⟩ := wait_step hd (hnm' 0 hRp)
      simp only [List.take_zero, List.append_nil] at hk
      omega
    have hGW := row_take hB.row hZ hWp (by omega)
    have hc149 : ∀ m, g49 [.slice (some ⟨n + 1, 0, some 0⟩) (waitN l S).length 0, cmpF] Hx m = some (gAgg (leastG (waitN l S)), Hx, m) := fun m => by
      simp only [g49, gunsOf_atB hGW, Option.map_some]
    refine E.cond (t := true) (by simp [hil]) (fun _ => ?_) (fun h => by cases h)
    refine E.skip ?_
    refine E.seq ?_
    refine E.block ?_
    refine E.seq ?_
    refine E.reg hr (by simp [-cellA, -flat, hil, hf, hc2]; rfl) ?_
    refine E.seq ?_
    refine E.reg hr (by simp [hc149]; rfl) ?_
    refine E.seq ?_
    refine E.reg hr (by simp; rfl) ?_
    refine E.seq ?_
    refine E.seq ?_
    refine E.reg hr (by simp; rfl) ?_
    refine E.block ?_
    refine E.loop ?_
    obtain ⟨lv, hlv⟩ : ∃ lv, (leastG (waitN l S)).v = lv := ⟨_, rfl⟩
    refine EL.ind (fun x : Nat × Heap × List Gun => { fr := [(7, .slice (some ⟨n + 1, 0, some 0⟩) (waitN l (S ++ R.take x.1)).length 0), (8, iv (sumN l (S ++ R.take x.1))), (9, iv i), (10, .slice ob R.length d), (11, iv lv), (12, iv (sumN l S)), (31, .slice (some a) ls.length c), (32, iv ls.length), (33, iv i), (42, .slice ob R.length d), (43, iv R.length), (44, iv x.1)], sz := 87, H := x.2.1, n := n + 1 + 1, marks := [], vs := [7, 8, 9, 10, 11, 12, 31, 32, 33, 42, 43, 44] }) (fun x => R.length - x.1) (fun x => x.1 ≤ R.length ∧ WB n H V x.2.2 x.2.1 ∧ x.2.2.take (waitN l (S ++ R.take x.1)).length = waitN l (S ++ R.take x.1) ∧ x.2.2.length = l.length) (0, Hx, Z) (.keep rfl rfl rfl (by simp [hlv]) (Sub.refl _)) ⟨Nat.zero_le _, hB, by simpa using hZ, hZl⟩ (fun _ => rfl) ?_
    clear hB hZ hZl hGW hc149 hc2
    rintro ⟨j, Hx, Z⟩ ⟨hj, hB, hZ, hZl⟩
    dsimp only at hj hB hZ hZl ⊢
    have hw2 : IntKind.i64.wrap ((j : Int) + 1) = (j : Int) + 1 := W_in (by omega) (by omega)
    refine E.seq ?_
    refine E.reg hr (by simp; rfl) ?_
    refine E.seq ?_
    by_cases hjl : j < R.length
    · obtain ⟨b, rfl, hf2, hc2⟩ := hrow2' j hjl
      have hc3 := hB.sub.cell hc2
      have hsn : S ++ R.take (j + 1) = S ++ R.take j ++ [R[j]] := by rw [List.take_succ_eq_append_getElem hjl, List.append_assoc]
      have hnj := hnm' j hjl
      have hfj := hfl j
      obtain ⟨Q, hQ⟩ : ∃ Q, S ++ R.take j = Q := ⟨_, rfl⟩
      obtain ⟨s, hs⟩ : ∃ s, R[j] = s := ⟨_, rfl⟩
      rw [hQ, hs] at hsn hnj
      rw [hQ] at hfj hZ ⊢
      rw [hs] at hc3
      obtain ⟨k, hk, hat, hkv, hke⟩ := wait_step hd hnj
      rw [← hsn] at hke
      have hbq := sumN_bound hbd Q
      have hvs := volN_bound hbd s
      have hsum : sumN l (S ++ R.take (j + 1)) = sumN l Q + volN l s := by rw [hsn, sumN_snoc]
      obtain ⟨W, hW⟩ : ∃ W, waitN l Q = W := ⟨_, rfl⟩
      simp only [hW] at hk hat hkv hke hZ ⊢
      have hkl : W.length ≤ Z.length := by
        have := congrArg List.length hZ
        rw [List.length_take] at this
        omega
      have hGW := row_take hB.row hZ (by omega) (by omega)
      have hfind : ∀ m, g50 [.slice (some ⟨n + 1, 0, some 0⟩) W.length 0, sv s] Hx m = some (iv k, Hx, m) := fun m => by
        simp only [g50, hGW.at, Option.map_some, hat]
      have hZk : Z[k]'(by omega) = W[k] := by
        have h1 : (Z.take W.length)[k]? = W[k]? := by rw [hZ]
        rw [List.getElem?_take, if_pos hk, List.getElem?_eq_getElem (by omega), List.getElem?_eq_getElem hk] at h1
        exact Option.some.inj h1
      have hcv : cellA Hx (n + 1) (k * 7 + 1) = some (iv (volN l s)) := by
        have h1 := row_at hB.row (j := k) (by omega)
        have h2 := (cellsA_cell h1 (i := 1) (by omega)).1
        rw [h2, hZk, ← hkv]
        rfl
      have hws : IntKind.i64.wrap (sumN l Q + volN l s) = sumN l Q + volN l s := W_in (by omega) (by omega)
      have hwk : IntKind.i64.wrap ((k : Int) + 1) = (k : Int) + 1 := W_in (by omega) (by omega)
      have hdel := g51_at (n := n + 1 + 1) hB.row hk hkl (by omega)
      have hBd := hB.put (Z' := delZ Z W.length k)
      obtain ⟨Hd, hHd⟩ : ∃ Hd, hset Hx (n + 1) (.ext (gcs (delZ Z W.length k)) 79 7) = Hd := ⟨_, rfl⟩
      rw [hHd] at hdel hBd
      have hWl : (waitN l (S ++ R.take (j + 1))).length = W.length - 1 := by
        rw [← hke, List.length_eraseIdx, if_pos hk]
      have hZd : (delZ Z W.length k).take (waitN l (S ++ R.take (j + 1))).length = waitN l (S ++ R.take (j + 1)) := by
        rw [hWl, delZ_take hk hkl, hZ, hke]
      have hZdl : (delZ Z W.length k).length = l.length := by rw [delZ_len hk hkl, hZl]
      refine E.cond (t := true) (by simp [hjl]) (fun _ => ?_) (fun h => by cases h)
      refine E.skip ?_
      refine E.seq ?_
      refine E.block ?_
      refine E.seq ?_
      refine E.reg hr (by simp [-cellA, -flat, hjl, hf2, hc3]; rfl) ?_
      refine E.seq ?_
      refine E.reg hr (by simp [hfind]; rfl) ?_
      refine E.seq ?_
      refine E.reg hr (by simp [-cellA, hk, hcv, hws]; rfl) ?_
      refine E.reg hr (by simp [hwk, hdel]; rfl) ?_
      refine E.reg hr (by simp [hw2]; rfl) ?_
      exact ⟨(j + 1, Hd, delZ Z W.length k), .keep rfl rfl rfl (by simp [hsum, hWl]) (Sub.refl _), ⟨hjl, hBd, hZd, hZdl⟩, by dsimp only; omega⟩
    · have hRt : R.take j = R := List.take_of_length_le (by omega)
      have hfj := hfl j
      rw [hRt] at hZ hfj ⊢
      have hb1 := sumN_bound hbd (S ++ R)
      obtain ⟨A, hA⟩ : ∃ A, sumN l (S ++ R) = A := ⟨_, rfl⟩
      obtain ⟨B, hBB⟩ : ∃ B, sumN l S = B := ⟨_, rfl⟩
      have hal : aloneP l S R = (decide (R.length = 1) && decide (A - B = lv)) := by unfold aloneP; rw [hA, hBB, hlv]
      rw [hA, hBB] at hbi
      rw [hA] at hb1 ⊢
      rw [hBB] at hb0 ⊢
      have hws0 : IntKind.i64.wrap (A - B) = A - B := W_in (by omega) (by omega)
      obtain ⟨D, hD⟩ : ∃ D, A - B = D := ⟨_, rfl⟩
      have hws : IntKind.i64.wrap (A - B) = D := hws0.trans hD
      have hwm : IntKind.i64.wrap (2 * B) = 2 * B := W_in (by omega) (by omega)
      rw [hal, hD] at hbi
      unfold badS at hbi
      refine E.cond (t := false) (by simp [hjl]) (fun h => by cases h) (fun _ => ?_)
      refine E.exit ?_
      refine E.seq ?_
      have h1' : ((R.length : Int) = 1) = (R.length = 1) := propext (by omega)
      have h3' : ((i : Int) = 0) = (i = 0) := propext (by omega)
      obtain ⟨b1, h1⟩ : ∃ b, decide (R.length = 1) = b := ⟨_, rfl⟩
      obtain ⟨b2, h2⟩ : ∃ b, decide (D = lv) = b := ⟨_, rfl⟩
      obtain ⟨b3, h3⟩ : ∃ b, decide (i = 0) = b := ⟨_, rfl⟩
      obtain ⟨b4, h4⟩ : ∃ b, decide (2 * B < A) = b := ⟨_, rfl⟩
      rw [h1, h2, h3, h4] at hbi
      cases b1 <;> cases b2 <;> cases b3 <;> cases b4
      all_goals
        simp only [Bool.not_true, Bool.not_false, Bool.or_true, Bool.and_true, Bool.and_false, Bool.or_false] at hbi
        refine E.reg hr (by simp [-decide_eq_true_eq, -decide_eq_false_iff_not, h1', h1, hws, h2, undefV]; rfl) ?_
        refine E.seq ?_
        refine E.reg hr (by simp [-decide_eq_true_eq, -decide_eq_false_iff_not, h3, hwm, h4, undefV]; rfl) ?_
      all_goals first
        | (refine E.cond (t := false) (by simp) (fun h => by cases h) (fun _ => ?_)
           refine E.skip ?_
           refine E.reg hr (by simp [hw]; rfl) ?_
           exact ⟨(i + 1, Hx, Z), .keep rfl rfl rfl (by simp [hseen, hA]) (Sub.refl _), ⟨⟨hil, fun j hj => if e : j = i then by rw [e]; exact hbi else hbad j (by omega)⟩, hB, by dsimp only; rw [hseen]; exact hZ, hZl⟩, by dsimp only; omega⟩)
        | (refine E.cond (t := true) (by simp) (fun _ => ?_) (fun h => by cases h)
           refine E.seq ?_
           refine E.reg hr (by simp; rfl) ?_
           refine E.ret ?_
           exact pureK.ret rfl rfl (by simp [ruleV_hit hil hbi]) hB.sub)
  · refine E.cond (t := false) (by simp [hil]) (fun h => by cases h) (fun _ => ?_)
    refine E.exit ?_
    refine E.seq ?_
    refine E.reg hr (by simp; rfl) ?_
    refine E.ret ?_
    exact pureK.ret rfl rfl (by simp [ruleV_miss (bad := badP l ls) (k := ls.length) fun j hj => hbad j (by omega)]) hB.sub
open Classical in
noncomputable def g18 (args : List Value) (H : Heap) (n : Nat) : R := match args with
  | [.agg ⟨[.slice none 0 0]⟩, _] => some (iv 12, H, n)
  | [.agg ⟨[v]⟩, u] => if h : ∃ l ls, OwnG H v l ∧ nestS H u = some ls ∧ ls.flatten.length ≤ 4096 then some (iv (startE (Classical.choose h) (Classical.choose (Classical.choose_spec h))), H, n) else none
  | _ => none
theorem g18_at {H : Heap} {n : Nat} {v u : Value} {l : List Gun} {ls : List (List ByteArray)} (h1 : OwnG H v l) (h2 : nestS H u = some ls) (h3 : ls.flatten.length ≤ 4096) : g18 [.agg ⟨[v]⟩, u] H n = some (iv (startE l ls), H, n) := by
  have hx : ∃ l ls, OwnG H v l ∧ nestS H u = some ls ∧ ls.flatten.length ≤ 4096 := ⟨l, ls, h1, h2, h3⟩
  obtain ⟨e1, e2, e3⟩ := Classical.choose_spec (Classical.choose_spec hx)
  have q1 := e1.guns.one h1.guns
  have q2 : Classical.choose (Classical.choose_spec hx) = ls := Option.some.inj (e2.symm.trans h2)
  have : g18 [.agg ⟨[v]⟩, u] H n = some (iv (startE (Classical.choose hx) (Classical.choose (Classical.choose_spec hx))), H, n) := by
    obtain ⟨b, rfl, _⟩ := id h1
    simp only [g18]
    rw [dif_pos hx]
  rw [this, q2, q1]
theorem ok18 : EntOk Try.prog (18, g18) := by
  intro args H n v H' n' h
  simp only [g18] at h
  split at h
  · injection h with h; injection h with e1 e2; injection e2 with e2 e3; subst e1 e2 e3
    exact w18n
  · split at h
    · rename_i hx
      injection h with h; injection h with e1 e2; injection e2 with e2 e3; subst e1 e2 e3
      obtain ⟨e1, e2, e3⟩ := Classical.choose_spec (Classical.choose_spec hx)
      exact w18 e1 e2 e3
    · cases h
  · cases h
end Go.Proofs.Ytljglocehbccnaa.Gn
