/-
The plain reckoning behind the law GunMoves: what a string that is moved, mirrored, later or flat sounds like, and its centre (each under the conditions in its statement).
-/
import Derived.Test.YtndlfijfjglkdaaGreatDoorGp
namespace Go.Proofs.YtndlfijfjglkdaaGreatDoor
open Go Go.Ab Go.Proofs
/-! ### plain: the four changes of a string -/
def mvG (bx bY : Int) (g : Gun) : Gun := { g with x := IntKind.i64.wrap (g.x + bx), y := IntKind.i64.wrap (g.y + bY) }
def mrG (g : Gun) : Gun := { g with x := IntKind.i64.wrap (-g.x) }
def ltG (g : Gun) : Gun := { g with d := IntKind.i64.wrap (g.d + 1) }
def flG (g : Gun) : Gun := { g with x := 0, y := 0 }
def oppD (d : ByteArray) : ByteArray := if d = dOf 230 then dOf 231 else if d = dOf 231 then dOf 230 else d
theorem shE_map {l : List Gun} {f : Gun → Gun} {sh : List Int} (hlo : ∀ g, (f g).lo = g.lo) (hhi : ∀ g, (f g).hi = g.hi) : shE (l.map f) sh = shE l sh := by
  have : shC (l.map f) sh = shC l sh := funext fun i => by
    unfold shC
    rw [List.getElem?_map]
    cases l[i]? with
    | none => rfl
    | some g => cases sh[i]? with
      | none => rfl
      | some n => simp [hlo, hhi]
  unfold shE
  rw [List.length_map, this]
theorem mr_ok {l : List Gun} (hst : strE l = 0) : strE (l.map mrG) = 0 := by
  refine strE_map hst (fun _ => rfl) fun g hg => ?_
  obtain ⟨a1, a2, a3, a4, a5, a6⟩ := gun_nums hst g hg
  refine err_of a1 ?_ a3 a4 a5 a6 (gun_order hst g hg)
  show -1000 ≤ IntKind.i64.wrap (-g.x) ∧ IntKind.i64.wrap (-g.x) ≤ 1000
  rw [W_in (by omega) (by omega)]
  omega
theorem fl_ok {l : List Gun} (hst : strE l = 0) : strE (l.map flG) = 0 := by
  refine strE_map hst (fun _ => rfl) fun g hg => ?_
  obtain ⟨a1, a2, a3, a4, a5, a6⟩ := gun_nums hst g hg
  exact err_of a1 (show -1000 ≤ (0 : Int) ∧ (0 : Int) ≤ 1000 by omega) (show -1000 ≤ (0 : Int) ∧ (0 : Int) ≤ 1000 by omega) a4 a5 a6 (gun_order hst g hg)
theorem arr_of {l : List Gun} {f : Gun → Gun} {d d' : ByteArray} {δ κ : Int} (h1 : 1 ≤ l.length) (hf : ∀ g ∈ l, (f g).d = g.d + δ ∧ coG (fOf d') (f g) = coG (fOf d) g + κ) : arrL d' (l.map f) = (arrL d l).map (· + δ) := arr_gen h1 hf
theorem mv_arr {l : List Gun} {bx bY : Int} (hst : strE l = 0) (hx : -128 ≤ bx ∧ bx ≤ 127) (hy : -128 ≤ bY ∧ bY ≤ 127) (hst' : strE (l.map (mvG bx bY)) = 0) {d : ByteArray} (hd : hasW d dirs = true) : arrL d (l.map (mvG bx bY)) = arrL d l := by
  obtain ⟨hF, _⟩ := fOf_ok hd
  have key : ∃ κ, ∀ g ∈ l, (mvG bx bY g).d = g.d + 0 ∧ coG (fOf d) (mvG bx bY g) = coG (fOf d) g + κ := by
    have hw : ∀ g ∈ l, (mvG bx bY g).x = g.x + bx ∧ (mvG bx bY g).y = g.y + bY ∧ (-1000 ≤ g.x + bx ∧ g.x + bx ≤ 1000) ∧ (-1000 ≤ g.y + bY ∧ g.y + bY ≤ 1000) ∧ (-1000 ≤ g.x ∧ g.x ≤ 1000) ∧ (-1000 ≤ g.y ∧ g.y ≤ 1000) := fun g hg => by
      obtain ⟨_, a2, a3, _⟩ := gun_nums hst g hg
      obtain ⟨_, b2, b3, _⟩ := gun_nums hst' (mvG bx bY g) (List.mem_map_of_mem hg)
      have e1 : (mvG bx bY g).x = g.x + bx := W_in (by omega) (by omega)
      have e2 : (mvG bx bY g).y = g.y + bY := W_in (by omega) (by omega)
      rw [e1] at b2
      rw [e2] at b3
      exact ⟨e1, e2, b2, b3, a2, a3⟩
    rcases isDir_cases hF with e | e | e | e | e
    · exact ⟨0, fun g hg => ⟨by show g.d = g.d + 0; omega, by rw [e]; simp [coG, coF]⟩⟩
    · refine ⟨-bx, fun g hg => ⟨by show g.d = g.d + 0; omega, ?_⟩⟩
      obtain ⟨e1, _, b, _, c, _⟩ := hw g hg
      rw [e]; simp only [coG, coF, e1, if_true]
      rw [W_in (by omega) (by omega), W_in (by omega) (by omega)]; omega
    · refine ⟨bx, fun g hg => ⟨by show g.d = g.d + 0; omega, ?_⟩⟩
      obtain ⟨e1, _⟩ := hw g hg
      rw [e]; simp [coG, coF, e1]
    · refine ⟨-bY, fun g hg => ⟨by show g.d = g.d + 0; omega, ?_⟩⟩
      obtain ⟨_, e2, _, b, _, c⟩ := hw g hg
      rw [e]
      show IntKind.i64.wrap (-(mvG bx bY g).y) = IntKind.i64.wrap (-g.y) + -bY
      rw [e2, W_in (by omega) (by omega), W_in (by omega) (by omega)]; omega
    · refine ⟨bY, fun g hg => ⟨by show g.d = g.d + 0; omega, ?_⟩⟩
      obtain ⟨_, e2, _⟩ := hw g hg
      rw [e]
      show (mvG bx bY g).y = g.y + bY
      exact e2
  obtain ⟨κ, hκ⟩ := key
  rw [arr_of (strE_len hst).1 hκ]
  simp
theorem fOf_dOf {F : Nat} (hF : isDir F = true) : fOf (dOf F) = F := by
  rcases isDir_cases hF with rfl | rfl | rfl | rfl | rfl <;> kernel_rfl
theorem opp_dir {d : ByteArray} (hd : hasW d dirs = true) : hasW (oppD d) dirs = true := by
  unfold oppD
  split
  · kernel_rfl
  · split
    · kernel_rfl
    · exact hd
theorem mr_arr {l : List Gun} (hst : strE l = 0) {d : ByteArray} (hd : hasW d dirs = true) : arrL (oppD d) (l.map mrG) = arrL d l := by
  obtain ⟨hF, hdo⟩ := fOf_ok hd
  have key : ∀ g ∈ l, (mrG g).d = g.d + 0 ∧ coG (fOf (oppD d)) (mrG g) = coG (fOf d) g + 0 := fun g hg => by
    obtain ⟨_, a2, _⟩ := gun_nums hst g hg
    have e1 : (mrG g).x = -g.x := W_in (by omega) (by omega)
    refine ⟨by show g.d = g.d + 0; omega, ?_⟩
    rw [← hdo]
    rcases isDir_cases hF with e | e | e | e | e <;> rw [e]
    · rw [show oppD (dOf 229) = dOf 229 by kernel_rfl, fOf_dOf (by rfl)]; simp [coG, coF]
    · rw [show oppD (dOf 230) = dOf 231 by kernel_rfl, fOf_dOf (by rfl), fOf_dOf (by rfl)]
      show (mrG g).x = IntKind.i64.wrap (-g.x) + 0
      rw [e1, W_in (by omega) (by omega)]; omega
    · rw [show oppD (dOf 231) = dOf 230 by kernel_rfl, fOf_dOf (by rfl), fOf_dOf (by rfl)]
      show IntKind.i64.wrap (-(mrG g).x) = g.x + 0
      rw [e1, W_in (by omega) (by omega)]; omega
    · rw [show oppD (dOf 232) = dOf 232 by kernel_rfl, fOf_dOf (by rfl)]; simp [coG, coF, mrG]
    · rw [show oppD (dOf 233) = dOf 233 by kernel_rfl, fOf_dOf (by rfl)]; simp [coG, coF, mrG]
  rw [arr_of (strE_len hst).1 key]
  simp
theorem lt_arr {l : List Gun} (hst : strE l = 0) (d : ByteArray) : arrL d (l.map ltG) = (arrL d l).map (· + 1) :=
  arr_of (δ := 1) (κ := 0) (strE_len hst).1 fun g hg => by
    obtain ⟨_, _, _, a4, _⟩ := gun_nums hst g hg
    refine ⟨W_in (by omega) (by omega), ?_⟩
    show coG (fOf d) g = coG (fOf d) g + 0
    omega
theorem fl_arr {l : List Gun} (hst : strE l = 0) : arrL (dOf 229) (l.map flG) = arrL (dOf 229) l := by
  have key : ∀ g ∈ l, (flG g).d = g.d + 0 ∧ coG (fOf (dOf 229)) (flG g) = coG (fOf (dOf 229)) g + 0 := fun g hg => by
    refine ⟨by show g.d = g.d + 0; omega, ?_⟩
    rw [fOf_dOf (by rfl)]
    simp [coG, coF]
  rw [arr_of (strE_len hst).1 key]
  simp
/-! ### plain: the centre of a moved string -/
theorem fold_sum (f : Gun → Int) (l : List Gun) (hf : ∀ g ∈ l, -100000 ≤ f g ∧ f g ≤ 100000) (h8 : l.length ≤ 8) : ∀ i, i ≤ l.length → (l.take i).foldl (fun a g => IntKind.i64.wrap (a + IntKind.i64.wrap (f g))) 0 = ((l.take i).map f).sum ∧ -(100000 * (i : Int)) ≤ ((l.take i).map f).sum ∧ ((l.take i).map f).sum ≤ 100000 * (i : Int) := by
  intro i
  induction i with
  | zero => intro _; simp
  | succ i ih =>
    intro hi
    obtain ⟨e, b1, b2⟩ := ih (by omega)
    have hg := hf l[i] (List.getElem_mem (by omega))
    rw [List.take_succ_eq_append_getElem (by omega), List.foldl_append, List.map_append, List.sum_append, e]
    simp only [List.foldl_cons, List.foldl_nil, List.map_cons, List.map_nil, List.sum_cons, List.sum_nil]
    rw [W_in (x := f l[i]) (by omega) (by omega), W_in (by omega) (by omega)]
    refine ⟨by omega, by omega, by omega⟩
theorem mxW_sum {l : List Gun} (hst : strE l = 0) : mxW l = (l.map fun g => g.v * g.x).sum ∧ myW l = (l.map fun g => g.v * g.y).sum ∧ volW l = (l.map fun g => g.v).sum := by
  have h8 := (strE_len hst).2
  have hn := gun_nums hst
  have h1 := (fold_sum (fun g => g.v * g.x) l (fun g hg => by have := mul_bound (hn g hg).1 (hn g hg).2.1; omega) h8 l.length (Nat.le_refl _)).1
  have h2 := (fold_sum (fun g => g.v * g.y) l (fun g hg => by have := mul_bound (hn g hg).1 (hn g hg).2.2.1; omega) h8 l.length (Nat.le_refl _)).1
  have h3 := (fold_sum (fun g => g.v) l (fun g hg => by have := (hn g hg).1; omega) h8 l.length (Nat.le_refl _)).1
  rw [List.take_length] at h1 h2 h3
  refine ⟨h1, h2, ?_⟩
  rw [← h3]
  unfold volW
  have key : ∀ (k : List Gun) (a : Int), (∀ g ∈ k, g ∈ l) → k.foldl (fun a g => IntKind.i64.wrap (a + g.v)) a = k.foldl (fun a g => IntKind.i64.wrap (a + IntKind.i64.wrap g.v)) a := by
    intro k
    induction k with
    | nil => intro a _; rfl
    | cons g k ih =>
      intro a hk
      have := (hn g (hk g (List.mem_cons_self ..))).1
      rw [List.foldl_cons, List.foldl_cons, W_in (x := g.v) (by omega) (by omega)]
      exact ih _ fun g hg => hk g (List.mem_cons_of_mem _ hg)
  exact key l 0 fun _ h => h
theorem sum_shift (f h : Gun → Int) (b : Int) : ∀ l : List Gun, (l.map fun g => f g * (h g + b)).sum = (l.map fun g => f g * h g).sum + b * (l.map f).sum
  | [] => by simp
  | g :: l => by
    have ih := sum_shift f h b l
    simp only [List.map_cons, List.sum_cons, ih]
    rw [Int.mul_add, Int.mul_add, Int.mul_comm (f g) b]
    omega
theorem rat_shift {a b V : Int} (hV : 1 ≤ V) : (a + b * V).tdiv (gcdI (a + b * V) V) = a.tdiv (gcdI a V) + b * V.tdiv (gcdI a V) ∧ V.tdiv (gcdI (a + b * V) V) = V.tdiv (gcdI a V) ∧ 1 ≤ V.tdiv (gcdI a V) ∧ V.tdiv (gcdI a V) ≤ V := by
  have hg : gcdI (a + b * V) V = gcdI a V := by
    show ((Int.gcd (a + b * V) V : Nat) : Int) = (Int.gcd a V : Nat)
    rw [Int.gcd_add_mul_right_left]
  have hp : 1 ≤ gcdI a V := gcd_pos hV
  obtain ⟨q, hq⟩ : gcdI a V ∣ V := Int.gcd_dvd_right a V
  obtain ⟨p, hp'⟩ : gcdI a V ∣ a := Int.gcd_dvd_left a V
  rw [hg]
  generalize gcdI a V = g at *
  have hg0 : g ≠ 0 := by omega
  subst hp'
  rw [show g * p + b * V = g * (p + b * q) by rw [hq, Int.mul_add, ← Int.mul_assoc, ← Int.mul_assoc, Int.mul_comm b g], Int.mul_tdiv_cancel_left _ hg0, Int.mul_tdiv_cancel_left _ hg0]
  rw [hq, Int.mul_tdiv_cancel_left _ hg0]
  rw [hq] at hV
  have hq1 : 1 ≤ q := by
    rcases Int.lt_or_le 0 q with h | h
    · omega
    · have := Int.mul_nonpos_of_nonneg_of_nonpos (show 0 ≤ g by omega) h
      omega
  have hq2 : 1 * q ≤ g * q := Int.mul_le_mul_of_nonneg_right hp (by omega)
  exact ⟨rfl, rfl, hq1, by omega⟩
theorem vol_bound {l : List Gun} (hst : strE l = 0) : 1 ≤ volW l ∧ volW l ≤ 512 := by
  have h1 := (strE_len hst).1
  have h8 := (strE_len hst).2
  have hn := gun_nums hst
  have hvu : ∀ i, i ≤ l.length → (i : Int) ≤ volW (l.take i) ∧ volW (l.take i) ≤ 64 * i := by
    intro i
    induction i with
    | zero => intro _; simp [volW]
    | succ i ih =>
      intro hi
      have ih := ih (by omega)
      obtain ⟨hg, _⟩ := hn l[i] (List.getElem_mem (by omega))
      rw [volW_succ (by omega), W_in (by omega) (by omega)]
      omega
  have hv := hvu l.length (Nat.le_refl _)
  rw [List.take_length] at hv
  omega
theorem cen_shift {l : List Gun} {bx bY : Int} (hst : strE l = 0) (hx : -128 ≤ bx ∧ bx ≤ 127) (hy : -128 ≤ bY ∧ bY ≤ 127) (hst' : strE (l.map (mvG bx bY)) = 0) :
    cA (l.map (mvG bx bY)) = cA l + bx * cB l ∧ cB (l.map (mvG bx bY)) = cB l ∧ cC (l.map (mvG bx bY)) = cC l + bY * cD l ∧ cD (l.map (mvG bx bY)) = cD l ∧ (1 ≤ cB l ∧ cB l ≤ 512) ∧ (1 ≤ cD l ∧ cD l ≤ 512) := by
  obtain ⟨s1, s2, s3⟩ := mxW_sum hst
  obtain ⟨t1, t2, t3⟩ := mxW_sum hst'
  have hw : ∀ g ∈ l, (mvG bx bY g).x = g.x + bx ∧ (mvG bx bY g).y = g.y + bY := fun g hg => by
    obtain ⟨_, a2, a3, _⟩ := gun_nums hst g hg
    exact ⟨W_in (by omega) (by omega), W_in (by omega) (by omega)⟩
  have hV := vol_bound hst
  have e3 : volW (l.map (mvG bx bY)) = volW l := by
    rw [t3, s3, List.map_map]; rfl
  have e1 : mxW (l.map (mvG bx bY)) = mxW l + bx * volW l := by
    rw [t1, s1, s3, List.map_map, ← sum_shift (fun g => g.v) (fun g => g.x) bx l]
    congr 1
    refine List.map_congr_left fun g hg => ?_
    show (mvG bx bY g).v * (mvG bx bY g).x = g.v * (g.x + bx)
    rw [(hw g hg).1]; rfl
  have e2 : myW (l.map (mvG bx bY)) = myW l + bY * volW l := by
    rw [t2, s2, s3, List.map_map, ← sum_shift (fun g => g.v) (fun g => g.y) bY l]
    congr 1
    refine List.map_congr_left fun g hg => ?_
    show (mvG bx bY g).v * (mvG bx bY g).y = g.v * (g.y + bY)
    rw [(hw g hg).2]; rfl
  obtain ⟨r1, r2, r3, r4⟩ := rat_shift (a := mxW l) (b := bx) hV.1
  obtain ⟨q1, q2, q3, q4⟩ := rat_shift (a := myW l) (b := bY) hV.1
  unfold cA cB cC cD
  rw [if_pos hst', if_pos hst', if_pos hst', if_pos hst', if_pos hst, if_pos hst, if_pos hst, if_pos hst, e1, e2, e3]
  exact ⟨r1, r2, q1, q2, by omega, by omega⟩
end Go.Proofs.YtndlfijfjglkdaaGreatDoor

namespace Go.Proofs.YtndlfijfjglkdaaGreatDoor
open Go Go.Ab Go.Proofs
/-! ### empty lists of samples are alike, wherever they lie -/
theorem w56e (a b : Addr) (c c2 : Nat) (H : Heap) (n : Nat) : AC Tryz.prog 56 [.slice (some a) 0 c, .slice (some b) 0 c2] H n (.bool true) H n := by
  have hr := recT_ok (P := Tryz.prog) (l := []) (by simp)
  refine AC.pure Tryz.func56 rfl (by kernel_rfl) rfl [0, 1, 5] rfl ?_
  refine E.seq ?_
  refine E.reg hr (by simp; rfl) ?_ -- region 0
  refine E.seq ?_
  refine E.seq ?_
  refine E.reg hr (by simp; rfl) ?_ -- region 1
  refine E.cond (by rfl) (fun h => ?_) (fun h => ?_)
  · simp at h
  refine E.skip ?_
  refine E.seq ?_
  refine E.seq ?_
  refine E.reg hr (by simp; rfl) ?_ -- region 3
  refine E.block ?_ -- 0
  refine E.loop ?_
  refine EL.step ?_
  refine E.seq ?_
  refine E.seq ?_
  refine E.reg hr (by simp; rfl) ?_ -- region 4
  refine E.cond (by rfl) (fun h => ?_) (fun h => ?_)
  · simp at h
  refine E.exit ?_ -- 0
  refine E.seq ?_
  refine E.reg hr (by simp; rfl) ?_ -- region 8
  refine E.ret ?_
  exact pureK.ret rfl rfl (by simp) (sub_refl _)
noncomputable def g56' (args : List Value) (H : Heap) (n : Nat) : R := match args with
  | [.slice (some _) 0 _, .slice (some _) 0 _] => some (.bool true, H, n)
  | _ => g56 args H n
theorem ok56' : EntOk Tryz.prog (56, g56') := by
  intro args H n v H' n' h'
  simp only [g56'] at h'
  split at h'
  · injection h' with h'; injection h' with e1 e2; injection e2 with e2 e3; subst e1 e2 e3
    exact w56e _ _ _ _ _ _
  · exact ok56 _ _ _ _ _ _ h'
theorem g56_pos {a b : Addr} {k c c2 : Nat} {H : Heap} {n : Nat} (hk : k ≠ 0) : g56' [.slice (some a) k c, .slice (some b) k c2] H n = g56 [.slice (some a) k c, .slice (some b) k c2] H n := by
  unfold g56'
  split
  · rename_i h
    injection h with h1 h2
    injection h1 with _ h1
    exact absurd h1 hk
  · rfl
theorem g56_nil {a b : Addr} {c c2 : Nat} {H : Heap} {n : Nat} : g56' [.slice (some a) 0 c, .slice (some b) 0 c2] H n = some (.bool true, H, n) := rfl
theorem neq35 {x y : Operand} {H : Heap} {n : Nat} (a b : Int) : binV Tryz.prog .neq 35 x y (.agg ⟨[iv a, iv b]⟩) (.agg ⟨[iv a, iv b]⟩) H n = some (.bool false, H, n) := by
  have he : runP Tryz.prog (Op.equalIn 10000 35 (.agg ⟨[iv a, iv b]⟩) (.agg ⟨[iv a, iv b]⟩)) = some true := eq_rat a b 9998
  have h : runP Tryz.prog (do eqGuard .neq 35 x y (.agg ⟨[iv a, iv b]⟩) (.agg ⟨[iv a, iv b]⟩); binOp .neq 35 (.agg ⟨[iv a, iv b]⟩) (.agg ⟨[iv a, iv b]⟩)) = some (.bool false) := by
    rw [runP_bind']
    have h1 : runP Tryz.prog (eqGuard .neq 35 x y (.agg ⟨[iv a, iv b]⟩) (.agg ⟨[iv a, iv b]⟩)) = some () := by kernel_rfl
    rw [h1, Option.bind_some]
    show runP Tryz.prog (Op.equalIn 10000 35 (.agg ⟨[iv a, iv b]⟩) (.agg ⟨[iv a, iv b]⟩) >>= fun b => pure (Value.bool (!b))) = _
    rw [runP_bind', he]
    rfl
  have ha : afq (.agg ⟨[iv a, iv b]⟩) = true := rfl
  unfold binV
  rw [ha]
  simp only [Bool.and_self, if_true]
  rw [h]
  rfl
theorem slice_tail0 {fr : Fr} {o : Operand} {m : Nat} {cs : List Value} {H : Heap} {n : Nat} (h : evO Tryz.prog fr o = some (.slice (some ⟨m, 0, some 0⟩) 1 0)) (hH : hget H m = some (.ext cs 98 1)) (hcs : cs.length = 1) : opSlice Tryz.prog 52 o (some (.const (iv 1))) none none fr H n = some (.slice (some ⟨m, 1, some 1⟩) 0 1, H, n) := by
  simp [opSlice, h, evI, sliceA, usedA, boundA, hH, hcs]
theorem slice_tail {fr : Fr} {o : Operand} {m k : Nat} {cs : List Value} {H : Heap} {n : Nat} (h : evO Tryz.prog fr o = some (.slice (some ⟨m, 0, some 0⟩) (k + 1) 0)) (hH : hget H m = some (.ext cs 98 1)) (hcs : cs.length = k + 1) (hk : 0 < k) : opSlice Tryz.prog 52 o (some (.const (iv 1))) none none fr H n = some (.slice (some ⟨m, 1, some 0⟩) k 1, H, n) := by
  simp [opSlice, h, evI, sliceA, usedA, boundA, hH, hcs, hk]
theorem slice_front {fr : Fr} {o u : Operand} {m k : Nat} {cs : List Value} {H : Heap} {n : Nat} (h : evO Tryz.prog fr o = some (.slice (some ⟨m, 0, some 0⟩) (k + 1) 0)) (hu : evO Tryz.prog fr u = some (iv k)) (hH : hget H m = some (.ext cs 98 1)) (hcs : cs.length = k + 1) : opSlice Tryz.prog 52 o none (some u) none fr H n = some (.slice (some ⟨m, 0, some 0⟩) k 0, H, n) := by
  simp [opSlice, h, hu, evI, sliceA, usedA, boundA, hH, hcs]
theorem flts_tail {T : List Nat} {V b : Nat} {G : Heap} (hT : T.length = V) (hV : V < 2147483648) (hG : hget G b = some (.ext (fv 0 :: T.map fv) 98 1)) : fltsAt G ⟨b, 1, some 0⟩ V = some T :=
  fltsAt_fv rfl (by simp [cellsA, hG, hT]; exact ⟨by omega, List.take_of_length_le (by simp [hT])⟩) hV
theorem idx36a {fr : Fr} {H : Heap} {n : Nat} {x i : Operand} {a b c d : Int} (hx : evO Tryz.prog fr x = some (.agg ⟨[iv a, iv b, iv c, iv d]⟩)) (hi : evO Tryz.prog fr i = some (iv 0)) : opIndex Tryz.prog 36 x i fr H n = some (.agg ⟨[iv a, iv b]⟩, H, n) := by
  unfold opIndex
  rw [hx, hi]
  kernel_rfl
theorem idx36b {fr : Fr} {H : Heap} {n : Nat} {x i : Operand} {a b c d : Int} (hx : evO Tryz.prog fr x = some (.agg ⟨[iv a, iv b, iv c, iv d]⟩)) (hi : evO Tryz.prog fr i = some (iv 1)) : opIndex Tryz.prog 36 x i fr H n = some (.agg ⟨[iv c, iv d]⟩, H, n) := by
  unfold opIndex
  rw [hx, hi]
  kernel_rfl
theorem mul_b {b c : Int} (hb : -128 ≤ b ∧ b ≤ 127) (hc : 1 ≤ c ∧ c ≤ 512) : -65536 ≤ b * c ∧ b * c ≤ 65536 := by
  have h1 : (b * c).natAbs = b.natAbs * c.natAbs := Int.natAbs_mul b c
  have h2 : b.natAbs * c.natAbs ≤ 128 * 512 := Nat.mul_le_mul (by omega) (by omega)
  omega
theorem cA_bound {l : List Gun} (hst : strE l = 0) : (-4611686018427387904 ≤ cA l ∧ cA l ≤ 4611686018427387904) ∧ (-4611686018427387904 ≤ cC l ∧ cC l ≤ 4611686018427387904) := by
  obtain ⟨⟨h1, _⟩, ⟨h2, _⟩⟩ := cen_bounds hst
  have e1 : ((mxW l).tdiv (gcdI (mxW l) (volW l))).natAbs ≤ (mxW l).natAbs := by rw [Int.natAbs_tdiv]; exact Nat.div_le_self _ _
  have e2 : ((myW l).tdiv (gcdI (myW l) (volW l))).natAbs ≤ (myW l).natAbs := by rw [Int.natAbs_tdiv]; exact Nat.div_le_self _ _
  unfold cA cC
  rw [if_pos hst, if_pos hst]
  omega
end Go.Proofs.YtndlfijfjglkdaaGreatDoor
