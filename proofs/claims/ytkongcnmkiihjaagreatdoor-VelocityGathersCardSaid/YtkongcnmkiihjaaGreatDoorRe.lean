/-
Contracts and plain reckonings behind the law VelocityGathers, part 5 of 8 (each under the conditions in its statement).
-/
import Derived.Test.YtkongcnmkiihjaaGreatDoorRd
import Derived.Test.YtkongcnmkiihjaaGreatDoorRc
namespace Go.Proofs.YtkongcnmkiihjaaGreatDoor
open Go Go.Ab Go.Proofs
theorem min33 (a b : Int) (c : Array Bool) : runP Tryz.prog (builtin .min #[3, 3] 3 c #[iv a, iv b]) = some (.value (iv (min a b))) := by
 have h : runP Tryz.prog (builtin .min #[3, 3] 3 c #[iv a, iv b]) = some (.value (.int .i64 (if b < a then b else a))) := rfl
 rw [h]
 congr 3
 split <;> omega
def smpN (ts : List Trc) (t w : Int) (i : Int) : Int := match ts[i.toNat]? with
 | some x => six32 (x.smp.getD (movV t (offV x.hd) w).toNat 0)
 | none => 0
theorem six_zero : (six32 0).natAbs ≤ 16384 := by
 have h : good32 0 = true := (smp_good smp_zero (by decide)).1
 exact (good_six h).2
theorem smpN_abs {ts : List Trc} (hok : OkS ts) (t w i : Int) : (smpN ts t w i).natAbs ≤ 16384 := by
 unfold smpN
 split
 · rename_i x hx
   rw [List.getD_eq_getElem?_getD]
   cases hb : x.smp[(movV t (offV x.hd) w).toNat]? with
   | none => exact six_zero
   | some b => exact (good_six (hok.good x (List.mem_of_getElem? hx) b (List.mem_of_getElem? hb))).2
 · exact Nat.zero_le _
abbrev livA (ts : List Trc) (t w st : Int) : List Int := livL ts t w st ts.length
def nuT (ts : List Trc) (t w st : Int) : Int := sumI (smpN ts t w) (livA ts t w st) * sumI (smpN ts t w) (livA ts t w st)
def deT (ts : List Trc) (t w st : Int) : Int := (livA ts t w st).length * sumI (fun i => smpN ts t w i * smpN ts t w i) (livA ts t w st)
def accN (f : Int → Int) (a : Int) : Nat → Int
 | 0 => 0
 | k + 1 => accN f a k + f (a + k)
theorem accN_bound {f : Int → Int} {a : Int} {M : Int} (hf : ∀ x, 0 ≤ f x ∧ f x ≤ M) : ∀ k : Nat, 0 ≤ accN f a k ∧ accN f a k ≤ M * k
 | 0 => by simp [accN]
 | k + 1 => by
   have h1 := accN_bound (a := a) hf k
   have h2 := hf (a + k)
   rw [accN, Int.natCast_succ, Int.mul_add, Int.mul_one]
   omega
theorem nd_bound {ts : List Trc} (hok : OkS ts) (t w st : Int) : (0 ≤ nuT ts t w st ∧ nuT ts t w st ≤ 1099511627776) ∧ (0 ≤ deT ts t w st ∧ deT ts t w st ≤ 1099511627776) := by
 have hl : (livA ts t w st).length ≤ ts.length := livL_len ts t w st ts.length
 have h64 := hok.len.2
 have hs := sumI_abs (f := smpN ts t w) (M := 16384) (livA ts t w st) fun x _ => smpN_abs hok t w x
 have hs2 : (sumI (smpN ts t w) (livA ts t w st)).natAbs ≤ 1048576 := by
   have : 16384 * (livA ts t w st).length ≤ 16384 * 64 := Nat.mul_le_mul_left _ (by omega)
   omega
 have hq0 := sumI_nonneg (f := fun i => smpN ts t w i * smpN ts t w i) (livA ts t w st) fun x _ => (sq_abs (smpN_abs hok t w x)).1
 have hq := sumI_abs (f := fun i => smpN ts t w i * smpN ts t w i) (M := 268435456) (livA ts t w st) fun x _ => by
   have := sq_abs (smpN_abs hok t w x)
   omega
 refine ⟨?_, ?_⟩
 · have := sq_abs hs2
   unfold nuT
   omega
 · unfold deT
   have e1 : 268435456 * (livA ts t w st).length ≤ 268435456 * 64 := Nat.mul_le_mul_left _ (by omega)
   have e2 : (sumI (fun i => smpN ts t w i * smpN ts t w i) (livA ts t w st)) ≤ 17179869184 := by omega
   have e3 : (((livA ts t w st).length : Nat) : Int) ≤ 64 := by omega
   refine ⟨Int.mul_nonneg (by omega) hq0, ?_⟩
   have := Int.mul_le_mul e3 e2 hq0 (by decide)
   omega
def semA (t win : Int) : Int := max 0 (t - win)
def semC (ts : List Trc) (t win : Int) : Nat := (min ((widF ts).1 - 1) (t + win) - semA t win + 1).toNat
def semU (ts : List Trc) (t w win st : Int) : Int := accN (fun x => nuT ts x w st) (semA t win) (semC ts t win)
def semD (ts : List Trc) (t w win st : Int) : Int := accN (fun x => deT ts x w st) (semA t win) (semC ts t win)
def semV (ts : List Trc) (t w win st : Int) : Value := if semD ts t w win st = 0 then .agg ⟨[iv 0, iv 1]⟩ else ratV (semU ts t w win st) (semD ts t w win st)
noncomputable def asg135 : Code := match rfOf (bodyOf' Tryz.f135) with
 | some x => x.1
 | none => .skip
noncomputable def bdy135 : Code := match rfOf (bodyOf' Tryz.f135) with
 | some x => x.2
 | none => .skip
abbrev fr135 (n N : Nat) (t w win st num den a : Int) : Fr := [(38, fn169 (N + 3)), (1, iv t), (2, iv w), (3, iv win), (4, iv st), (5, ptA n), (10, ptA (n + 1)), (11, iv num), (12, iv den), (13, iv a), (14, ptA N), (15, ptA (N + 1)), (16, ptA (N + 2))]
abbrev vs135 : List Nat := [1, 2, 3, 4, 5, 10, 11, 12, 13, 14, 15, 16]
noncomputable abbrev lb135 (fr : Fr) (N : Nat) (ls : LoopState) (pe : Option Code) : Blk := .loop ls pe fr 67 vs135 #[39, 40] asg135 bdy135 (N + 7)
noncomputable abbrev fs135 (fr : Fr) (N : Nat) (ls : LoopState) (pe : Option Code) (m s q : Int) : List (Nat × Blk) := [(N + 7, .defd), (N + 8, lb135 fr N ls pe), (N, .cells [iv m] 3), (N + 1, .cells [iv s] 3), (N + 2, .cells [iv q] 3)]
set_option maxHeartbeats 1600000 in
set_option maxRecDepth 100000 in
theorem yield135 {B : Heap} {fr : Fr} {N0 N : Nat} {m s q x i : Int} {cs : List Value} {Hx : Heap} (hfr : lk fr 14 = some (ptA N0) ∧ lk fr 15 = some (ptA (N0 + 1)) ∧ lk fr 16 = some (ptA (N0 + 2))) (hI : Kp B (N0 + 9) (fs135 fr N0 .ready none m s q) Hx N) (hm : IntKind.i64.wrap (m + 1) = m + 1) (hs : IntKind.i64.wrap (s + x) = s + x) (hx : IntKind.i64.wrap (x * x) = x * x) (hq : IntKind.i64.wrap (q + x * x) = q + x * x) :
   ∃ r b H' N', RecOk Tryz.prog r 0 ∧ yieldF r (N0 + 8) [iv i, iv x] ((N, .cells cs 159) :: Hx) (N + 1) = some (.bool b, H', N') ∧ (b = true ∧ Kp B (N0 + 9) (fs135 fr N0 .ready none (m + 1) (s + x) (q + x * x)) H' N') := by
 have hr0 := recT_ok (P := Tryz.prog) (l := []) (by simp)
 have hS1 := hI.skip (.cells cs 159)
 obtain ⟨f1, f2, f3⟩ := hfr
 refine (yieldF_ex (K := fun b H' N' => b = true ∧ Kp B (N0 + 9) (fs135 fr N0 .ready none (m + 1) (s + x) (q + x * x)) H' N') (hS1.at' 1 _ rfl) rfl (fun c h => by cases h) (fun c h => by cases h) ?_)
 refine E.lead { fr := [(40, iv x), (14, ptA N0), (15, ptA (N0 + 1)), (16, ptA (N0 + 2))], sz := 67, H := (N, .cells cs 159) :: Hx, n := N + 1, marks := [], vs := vs135 } (.keep rfl rfl rfl (by simp [f1, f2, f3]) (Sub.refl _)) ?_
 refine E.reg hr0 (by simp; rfl) ?_
 refine ⟨rfl, hS1.at' 1 _ rfl, ?_⟩
 have hY := hS1.put 1 rfl (lb135 fr N0 .busy none)
 obtain ⟨Y, hYe⟩ : ∃ Y, hset ((N, Blk.cells cs 159) :: Hx) (N0 + 8) (lb135 fr N0 .busy none) = Y := ⟨_, rfl⟩
 rw [hYe] at hY ⊢
 have c1 : cellA Y N0 0 = some (iv m) := hY.cell 2 rfl 0
 have s1 := hY.store 2 (v := iv (m + 1)) rfl
 have hY2 := hY.put 2 rfl (.cells [iv (m + 1)] 3)
 obtain ⟨Y2, hY2e⟩ : ∃ Y2, hset Y N0 (.cells [iv (m + 1)] 3) = Y2 := ⟨_, rfl⟩
 rw [hY2e] at hY2 s1
 have c2 : cellA Y2 (N0 + 1) 0 = some (iv s) := hY2.cell 3 rfl 0
 have s2 := hY2.store 3 (v := iv (s + x)) rfl
 have hY3 := hY2.put 3 rfl (.cells [iv (s + x)] 3)
 obtain ⟨Y3, hY3e⟩ : ∃ Y3, hset Y2 (N0 + 1) (.cells [iv (s + x)] 3) = Y3 := ⟨_, rfl⟩
 rw [hY3e] at hY3 s2
 have c3 : cellA Y3 (N0 + 2) 0 = some (iv q) := hY3.cell 4 rfl 0
 have s3 := hY3.store 4 (v := iv (q + x * x)) rfl
 have hY4 := hY3.put 4 rfl (.cells [iv (q + x * x)] 3)
 refine E.block ?_
 refine E.seq ?_
 refine E.reg hr0 (by simp [-cellA, -storeA, c1, hm, s1]; rfl) ?_
 refine E.seq ?_
 refine E.reg hr0 (by simp [-cellA, -storeA, c2, hs, s2]; rfl) ?_
 refine E.reg hr0 (by simp [-cellA, -storeA, c3, hx, hq, s3]; rfl) ?_
 exact ⟨hY4.at' 1 _ rfl, .inl ⟨rfl, rfl, hY4.put 1 rfl (lb135 fr N0 .ready none)⟩⟩
theorem build96a {fr : Fr} {H : Heap} {n : Nat} : opBuild Tryz.prog 96 #[(1, .const (.int .i64 1))] fr H n = some (.agg ⟨[iv 0, iv 1]⟩, H, n) := by kernel_rfl
theorem load96 {H : Heap} {n : Nat} {a b : Value} (h : hget H n = some (.cells [a, b] 96)) : loadA Tryz.prog 96 H (.pointer (some ⟨n, 0, none⟩)) = some (.agg ⟨[a, b]⟩) := by
 have : cellsA H n 0 2 = some [a, b] := by rw [cellsA_eq, h]; rfl
 simp only [loadA, ag96, sz96, this, Option.map_some]
set_option maxHeartbeats 6400000 in
set_option maxRecDepth 100000 in
theorem w135 {H : Heap} {n : Nat} {s : ByteArray} {u : Value} {ts : List Trc} {t w win st : Int} (hR : dR H) (hv : trcV H u = some ts) (hok : OkS ts) (htr : 0 ≤ t ∧ t ≤ (widF ts).1 - 1) (hwr : 1 ≤ w ∧ w ≤ 1000000000) (hnr : 0 ≤ win ∧ win ≤ 16) (hsr : 0 ≤ st ∧ st ≤ 1024) : AC Tryz.prog 135 [.agg ⟨[.string s, u, iv (widF ts).1]⟩, iv t, iv w, iv win, iv st] H n (semV ts t w win st) H n := by
 refine AC.given fun hold hsc hgn => AC.tidied (B := []) (by simp) ?_
 replace hv : trcV (tidy n H) u = some ts := listV_tidy decT_tidy (fun k b h => (hold k b h).1) hv
 have h1n : 1 < n := by rw [gsz] at hgn; omega
 replace hR : hget (tidy n H) 1 = some (.inp 0 rangesV) := hget_tidy.2 ⟨hR, h1n, rfl⟩
 have hr := recT_ok (P := Tryz.prog) (l := [(133, g133), (124, gRat ratV)]) (by simp only [List.forall_mem_cons]; exact ⟨ok133, ok124, by simp⟩)
 have hr0 := recT_ok (P := Tryz.prog) (l := []) (by simp)
 obtain ⟨oa, c, rfl, hlt, _, _⟩ := trcV_form hv
 have hT : ∀ j, n ≤ j → hget (tidy n H) j = none := fun j hj => by
   cases hc : hget (tidy n H) j with
   | none => rfl
   | some b => exact absurd (tidy_lt _ _ hc) (by omega)
 have hw0 := hok.w0
 have hndb := fun x => nd_bound hok x w st
 obtain ⟨A, hA⟩ : ∃ A, semA t win = A := ⟨_, rfl⟩
 obtain ⟨C, hC⟩ : ∃ C, semC ts t win = C := ⟨_, rfl⟩
 have hAd : A = max 0 (t - win) := by rw [← hA]; rfl
 have hU : semU ts t w win st = accN (fun x => nuT ts x w st) A C := by rw [← hA, ← hC]; rfl
 have hD : semD ts t w win st = accN (fun x => deT ts x w st) A C := by rw [← hA, ← hC]; rfl
 have hCd : C = (min ((widF ts).1 - 1) (t + win) - A + 1).toNat := by rw [← hA, ← hC]; rfl
 have hV : semV ts t w win st = if accN (fun x => deT ts x w st) A C = 0 then .agg ⟨[iv 0, iv 1]⟩ else ratV (accN (fun x => nuT ts x w st) A C) (accN (fun x => deT ts x w st) A C) := by rw [← hU, ← hD]; rfl
 obtain ⟨V, hVV⟩ : ∃ V, semV ts t w win st = V := ⟨_, rfl⟩
 rw [hVV] at hV ⊢
 have haf : af V = true := by rw [hV]; split <;> rfl
 have hub : ∀ k : Nat, 0 ≤ accN (fun x => nuT ts x w st) A k ∧ accN (fun x => nuT ts x w st) A k ≤ 1099511627776 * k := accN_bound fun x => (hndb x).1
 have hdb : ∀ k : Nat, 0 ≤ accN (fun x => deT ts x w st) A k ∧ accN (fun x => deT ts x w st) A k ≤ 1099511627776 * k := accN_bound fun x => (hndb x).2
 obtain ⟨W, hW⟩ : ∃ W, (widF ts).1 = W := ⟨_, rfl⟩
 rw [hW] at htr hw0 hCd ⊢
 have hC33 : C ≤ 33 := by omega
 obtain ⟨X, hX⟩ : ∃ X, (n + 1, Blk.cells [iv 0, iv 0] 96) :: (n, Blk.cells [.string s, .slice oa ts.length c, iv W] 196) :: tidy n H = X := ⟨_, rfl⟩
 have hS : Sub (tidy n H) X := by rw [← hX]; exact (Sub.cons (hT _ (Nat.le_refl _)) (Sub.refl _)).trans (Sub.cons (by rw [hget_cons, if_neg (by omega)]; exact hT _ (by omega)) (Sub.refl _))
 have hnm : namesOk (n + 2) X = true := by rw [← hX]; exact namesOk_put (by omega) (namesOk_put (by omega) (by simp))
 have hbx : hget X n = some (.cells [.string s, .slice oa ts.length c, iv W] 196) := by rw [← hX, hget_cons, if_neg (by omega), hget_cons, if_pos rfl]
 have hbr : hget X (n + 1) = some (.cells [iv 0, iv 0] 96) := by rw [← hX, hget_cons, if_pos rfl]
 have hXlt : ∀ k b, hget X k = some b → k < n + 2 := fun k b hk => namesOk_iff.1 hnm (k, b) (hget_mem _ _ _ hk)
 have hws : IntKind.i64.wrap (t - win) = t - win := W_in (by omega) (by omega)
 have hwa : IntKind.i64.wrap (t + win) = t + win := W_in (by omega) (by omega)
 have hwW : IntKind.i64.wrap (W - 1) = W - 1 := W_in (by omega) (by omega)
 refine AC.pureM Tryz.func135 rfl (by kernel_rfl) rfl vs135 haf ?_
 refine E.seq ?_
 refine E.reg hr (by simp; rfl) ?_
 rw [hX]
 refine E.seq ?_
 refine E.reg hr (by simp; rfl) ?_
 refine E.seq ?_
 refine E.seq ?_
 refine E.reg hr (by simp [hws, max33, ← hAd]; rfl) ?_
 refine E.block ?_
 refine E.loop ?_
 refine EL.ind (fun x : Nat × Heap × Nat × List Nat => { fr := [(1, iv t), (2, iv w), (3, iv win), (4, iv st), (5, ptA n), (10, ptA (n + 1)), (11, iv (accN (fun x => nuT ts x w st) A x.1)), (12, iv (accN (fun x => deT ts x w st) A x.1)), (13, iv (A + (x.1 : Nat)))], sz := 67, H := x.2.1, n := x.2.2.1, marks := x.2.2.2, vs := vs135 }) (fun x => C - x.1) (fun x => x.1 ≤ C ∧ Sub X x.2.1 ∧ namesOk x.2.2.1 x.2.1 = true ∧ n + 2 ≤ x.2.2.1 ∧ x.2.2.2.Nodup ∧ ∀ m ∈ x.2.2.2, n + 2 ≤ m ∧ hget x.2.1 m = some .defd) (0, X, n + 2, []) (.keep rfl rfl rfl (by simp [accN]) (Sub.refl _)) ⟨Nat.zero_le _, Sub.refl _, hnm, Nat.le_refl _, List.nodup_nil, fun m hm => by cases hm⟩ (fun _ => rfl) ?_
 rintro ⟨k, Hx, N, ms⟩ ⟨hk, hSx, hnx, hNn, hnd, hms⟩
 dsimp only at hk hSx hnx hNn hnd hms ⊢
 have hHlt : ∀ k b, hget Hx k = some b → k < N := fun k b hk => namesOk_iff.1 hnx (k, b) (hget_mem _ _ _ hk)
 have hHn : ∀ j, N ≤ j → hget Hx j = none := fun j hj => by
   cases hc : hget Hx j with
   | none => rfl
   | some b => have := hHlt _ _ hc; omega
 have hcW : cellA Hx n 2 = some (iv W) := by rw [cellA_eq, hSx _ _ hbx]; rfl
 refine E.seq ?_
 refine E.seq ?_
 refine E.reg hr0 (by simp [-cellA, hcW, hwW, hwa, min33]; rfl) ?_
 by_cases hkC : k < C
 · have hle : A + (k : Int) ≤ min (W - 1) (t + win) := by omega
   have hat : 0 ≤ A + (k : Int) ∧ A + (k : Int) ≤ W - 1 := by omega
   refine E.cond (t := true) (by simp; omega) (fun _ => ?_) (fun h => by cases h)
   have hub1 := hub k
   have hdb1 := hdb k
   have hac1 : accN (fun x => nuT ts x w st) A (k + 1) = accN (fun x => nuT ts x w st) A k + nuT ts (A + k) w st := rfl
   have hac2 : accN (fun x => deT ts x w st) A (k + 1) = accN (fun x => deT ts x w st) A k + deT ts (A + k) w st := rfl
   obtain ⟨nu, hnu⟩ : ∃ x, accN (fun x => nuT ts x w st) A k = x := ⟨_, rfl⟩
   obtain ⟨de, hde⟩ : ∃ x, accN (fun x => deT ts x w st) A k = x := ⟨_, rfl⟩
   obtain ⟨at', hat'⟩ : ∃ x, A + (k : Int) = x := ⟨_, rfl⟩
   have hndb' := hndb at'
   have hk1 : A + ((k + 1 : Nat) : Int) = at' + 1 := by omega
   rw [hat'] at hac1 hac2 hat
   rw [hnu] at hub1 hac1
   rw [hde] at hdb1 hac2
   rw [hnu, hde, hat']
   refine E.skip ?_
   refine E.seq ?_
   refine E.block ?_
   refine E.seq ?_
   refine E.reg hr0 (by simp; rfl) ?_
   refine E.seq ?_
   refine E.seq ?_
   have hld := load196 (H := (N + 2, Blk.cells [iv 0] 3) :: (N + 1, .cells [iv 0] 3) :: (N, .cells [iv 0] 3) :: Hx) (n := n) (s := s) (u := .slice oa ts.length c) (W := W) (by rw [hget_cons, if_neg (by omega), hget_cons, if_neg (by omega), hget_cons, if_neg (by omega)]; exact hSx _ _ hbx)
   refine E.reg hr (by simp [-loadA, hld, g133]; rfl) ?_
   refine E.block ?_
   refine E.lead { fr := fr135 n N t w win st nu de at', sz := 67, H := (N + 6, .cells [iv st] 3) :: (N + 5, .cells [iv w] 3) :: (N + 4, .cells [iv at'] 3) :: (N + 3, .cells [.string s, .slice oa ts.length c, iv W] 196) :: (N + 2, Blk.cells [iv 0] 3) :: (N + 1, .cells [iv 0] 3) :: (N, .cells [iv 0] 3) :: Hx, n := N + 7, marks := ms, vs := vs135 } (.keep rfl rfl rfl (by simp) (Sub.refl _)) ?_
   refine E.rangeX (x := asg135) (y := bdy135) rfl ent169 ?_
   obtain ⟨fr, hfr⟩ : ∃ fr, fr135 n N t w win st nu de at' = fr := ⟨_, rfl⟩
   have hfl : lk fr 14 = some (ptA N) ∧ lk fr 15 = some (ptA (N + 1)) ∧ lk fr 16 = some (ptA (N + 2)) := by rw [← hfr]; exact ⟨rfl, rfl, rfl⟩
   obtain ⟨B, hB⟩ : ∃ B, (N + 6, Blk.cells [iv st] 3) :: (N + 5, .cells [iv w] 3) :: (N + 4, .cells [iv at'] 3) :: (N + 3, .cells [.string s, .slice oa ts.length c, iv W] 196) :: Hx = B := ⟨_, rfl⟩
   have hHB : Sub Hx B := by
     intro j b hj
     have := hHlt _ _ hj
     rw [← hB, hget_cons, if_neg (by omega), hget_cons, if_neg (by omega), hget_cons, if_neg (by omega), hget_cons, if_neg (by omega)]
     exact hj
   have htB : trcV B (.slice oa ts.length c) = some ts := listV_mono decT_mono (hS.trans (hSx.trans hHB)) hv
   have hBlt : ∀ j b, hget B j = some b → j < N + 9 := fun j b hj => by
     rw [← hB, hget_cons, hget_cons, hget_cons, hget_cons] at hj
     split at hj
     · omega
     split at hj
     · omega
     split at hj
     · omega
     split at hj
     · omega
     · have := hHlt _ _ hj; omega
   have hBn : ∀ j, N ≤ j → (j < N + 3 ∨ N + 6 < j) → hget B j = none := fun j h1 h2 => by
     rw [← hB, hget_cons, if_neg (by omega), hget_cons, if_neg (by omega), hget_cons, if_neg (by omega), hget_cons, if_neg (by omega)]
     exact hHn j h1
   obtain ⟨Z, hZ⟩ : ∃ Z, (N + 6, Blk.cells [iv st] 3) :: (N + 5, .cells [iv w] 3) :: (N + 4, .cells [iv at'] 3) :: (N + 3, .cells [.string s, .slice oa ts.length c, iv W] 196) :: (N + 2, Blk.cells [iv 0] 3) :: (N + 1, .cells [iv 0] 3) :: (N, .cells [iv 0] 3) :: Hx = Z := ⟨_, rfl⟩
   have hZ0 : hget Z N = some (.cells [iv 0] 3) := by rw [← hZ]; simp
   have hZ1 : hget Z (N + 1) = some (.cells [iv 0] 3) := by rw [← hZ]; simp
   have hZ2 : hget Z (N + 2) = some (.cells [iv 0] 3) := by rw [← hZ]; simp
   have hBZ : Sub B Z := by
     intro j b hj
     rw [← hB, hget_cons, hget_cons, hget_cons, hget_cons] at hj
     rw [← hZ, hget_cons, hget_cons, hget_cons, hget_cons]
     split
     · rename_i e; rw [if_pos e] at hj; exact hj
     rename_i e1; rw [if_neg e1] at hj
     split
     · rename_i e; rw [if_pos e] at hj; exact hj
     rename_i e2; rw [if_neg e2] at hj
     split
     · rename_i e; rw [if_pos e] at hj; exact hj
     rename_i e3; rw [if_neg e3] at hj
     split
     · rename_i e; rw [if_pos e] at hj; exact hj
     rename_i e4; rw [if_neg e4] at hj
     have := hHlt _ _ hj
     rw [hget_cons, if_neg (by omega), hget_cons, if_neg (by omega), hget_cons, if_neg (by omega)]
     exact hj
   have hZn : namesOk (N + 7) Z = true := by rw [← hZ]; exact namesOk_put (by omega) (namesOk_put (by omega) (namesOk_put (by omega) (namesOk_put (by omega) (namesOk_put (by omega) (namesOk_put (by omega) (namesOk_put (by omega) (namesOk_mono (by omega) _ hnx)))))))
   have hZlt : ∀ j b, hget Z j = some b → j < N + 7 := fun j b hj => namesOk_iff.1 hZn (j, b) (hget_mem _ _ _ hj)
   let I : Nat → Heap → Nat → Prop := fun i H N' => Kp B (N + 9) (fs135 fr N .ready none (livL ts at' w st i).length (sumI (smpN ts at' w) (livL ts at' w st i)) (sumI (fun i => smpN ts at' w i * smpN ts at' w i) (livL ts at' w st i))) H N'
   have hstart : I 0 ((N + 8, lb135 fr N .ready none) :: (N + 7, .defd) :: Z) (N + 9) := by
     have hs0 : Sub B ((N + 8, lb135 fr N .ready none) :: (N + 7, .defd) :: Z) := fun j b hj => by
       have := hZlt _ _ (hBZ _ _ hj)
       rw [hget_cons, if_neg (by omega), hget_cons, if_neg (by omega)]
       exact hBZ _ _ hj
     refine (((((Kp.start hBlt hs0 (namesOk_put (by omega) (namesOk_put (by omega) (namesOk_mono (by omega) _ hZn))) (Nat.le_refl _)).more (l := N + 2) (c := .cells [iv 0] 3) ?_ (by omega) (hBn _ (by omega) (by omega)) (by simp)).more (l := N + 1) (c := .cells [iv 0] 3) ?_ (by omega) (hBn _ (by omega) (by omega)) (by simp)).more (l := N) (c := .cells [iv 0] 3) ?_ (by omega) (hBn _ (by omega) (by omega)) (by simp)).more (l := N + 8) (c := lb135 fr N .ready none) (by simp) (by omega) (hBn _ (by omega) (by omega)) (by simp)).more (l := N + 7) (c := .defd) (by simp) (by omega) (hBn _ (by omega) (by omega)) (by simp)
     · rw [hget_cons, if_neg (by omega), hget_cons, if_neg (by omega)]; exact hZ2
     · rw [hget_cons, if_neg (by omega), hget_cons, if_neg (by omega)]; exact hZ1
     · rw [hget_cons, if_neg (by omega), hget_cons, if_neg (by omega)]; exact hZ0
   obtain ⟨v', H', n', hAC, hend⟩ := it169 (B := B) (l := N + 8) (kb := N + 3) (k1 := N + 4) (k2 := N + 5) (k3 := N + 6) (s := s) (t := at') (w := w) (st := st) (by rw [← hB, hW]; simp) (by rw [← hB]; simp) (by rw [← hB]; simp) (by rw [← hB]; simp) ((hS.trans (hSx.trans hHB)) _ _ hR) htB hok (by omega) hwr hsr I (fun _ _ => False) (fun i H N h => h.sub) (fun i H N h => h.nm)
     (fun i H N cs hi h hd => by
       show Kp B _ (fs135 fr _ .ready none (livL ts at' w st (i + 1)).length _ _) _ _
       rw [livL_dead hd]; exact h.skip _)
     (fun i Hy N' cs b hi hI hlv hh hb => by
       have hlen := livL_len ts at' w st i
       have h64 := hok.len.2
       have hsa := sumI_abs (f := smpN ts at' w) (M := 16384) (livL ts at' w st i) fun x _ => smpN_abs hok at' w x
       have hqa := sumI_abs (f := fun i => smpN ts at' w i * smpN ts at' w i) (M := 268435456) (livL ts at' w st i) fun x _ => by
         have := sq_abs (smpN_abs hok at' w x)
         omega
       have hx : six32 b = smpN ts at' w (i : Int) := by
         unfold smpN
         rw [Int.toNat_natCast, List.getElem?_eq_getElem hi]
         dsimp only
         rw [List.getD_eq_getElem?_getD, hb]
         rfl
       have hxa := smpN_abs hok at' w (i : Int)
       have hxs := sq_abs hxa
       rw [hx]
       have e1 : 16384 * (livL ts at' w st i).length ≤ 16384 * 64 := Nat.mul_le_mul_left _ (by omega)
       have e2 : 268435456 * (livL ts at' w st i).length ≤ 268435456 * 64 := Nat.mul_le_mul_left _ (by omega)
       obtain ⟨r, bb, H2, N2, h1, h2, h3, h4⟩ := yield135 (cs := cs) (i := (i : Int)) (x := smpN ts at' w (i : Int)) hfl hI (W_in (by omega) (by omega)) (W_in (by omega) (by omega)) (W_in (by omega) (by omega)) (W_in (by omega) (by omega))
       subst h3
       refine ⟨r, true, H2, N2, h1, h2, ?_⟩
       rw [if_pos rfl]
       show Kp B _ (fs135 fr _ .ready none (livL ts at' w st (i + 1)).length _ _) _ _
       rw [livL_live hlv, sumI_snoc, sumI_snoc, List.length_append]
       exact h4)
     (H := (N + 8, lb135 fr N .ready none) :: (N + 7, .defd) :: Z) (n := N + 9) hstart
   rw [hZ, hfr]
   refine ⟨v', H', n', hAC, ?_⟩
   rcases hend with hI | hI
   rotate_left
   · exact hI.elim
   refine .inl ⟨hI.at' 1 _ rfl, ?_⟩
   have hY := hI.put 1 rfl (lb135 fr N .exhausted none)
   have hYb := hI.big
   show E Tryz.prog n none _ { fr := fr, sz := 67, H := hset H' (N + 8) (lb135 fr N .exhausted none), n := n', marks := (N + 7) :: ms, vs := vs135 } _
   obtain ⟨Y, hYe⟩ : ∃ Y, hset H' (N + 8) (lb135 fr N .exhausted none) = Y := ⟨_, rfl⟩
   rw [hYe] at hY ⊢
   rw [← hfr]
   have c0 : cellA Y N 0 = _ := hY.cell 2 rfl 0
   have c1 : cellA Y (N + 1) 0 = _ := hY.cell 3 rfl 0
   have c2 : cellA Y (N + 2) 0 = _ := hY.cell 4 rfl 0
   simp only [List.getElem?_cons_zero] at c0 c1 c2
   have hn1 : nuT ts at' w st = sumI (smpN ts at' w) (livL ts at' w st ts.length) * sumI (smpN ts at' w) (livL ts at' w st ts.length) := rfl
   have hd1 : deT ts at' w st = (livL ts at' w st ts.length).length * sumI (fun i => smpN ts at' w i * smpN ts at' w i) (livL ts at' w st ts.length) := rfl
   have hNY : Sub Hx Y := hHB.trans hY.sub
   obtain ⟨S1, hS1⟩ : ∃ x, sumI (smpN ts at' w) (livL ts at' w st ts.length) = x := ⟨_, rfl⟩
   obtain ⟨S2, hS2⟩ : ∃ x, sumI (fun i => smpN ts at' w i * smpN ts at' w i) (livL ts at' w st ts.length) = x := ⟨_, rfl⟩
   obtain ⟨S0, hS0⟩ : ∃ x : Int, ((livL ts at' w st ts.length).length : Int) = x := ⟨_, rfl⟩
   rw [hS1] at c1 hn1
   rw [hS2] at c2 hd1
   rw [hS0] at c0 hd1
   rw [hn1] at hac1 hndb'
   rw [hd1] at hac2 hndb'
   have hkb : (1099511627776 : Int) * k ≤ 1099511627776 * 33 := by omega
   have w1 : IntKind.i64.wrap (S1 * S1) = S1 * S1 := W_in (by omega) (by omega)
   have w2 : IntKind.i64.wrap (nu + S1 * S1) = nu + S1 * S1 := W_in (by omega) (by omega)
   have w3 : IntKind.i64.wrap (S0 * S2) = S0 * S2 := W_in (by omega) (by omega)
   have w4 : IntKind.i64.wrap (de + S0 * S2) = de + S0 * S2 := W_in (by omega) (by omega)
   have w5 : IntKind.i64.wrap (at' + 1) = at' + 1 := W_in (by omega) (by omega)
   refine E.seq ?_
   refine E.reg hr0 (by simp [-cellA, c1, w1, w2]; rfl) ?_
   refine E.reg hr0 (by simp [-cellA, c0, c2, w3, w4]; rfl) ?_
   refine E.reg hr0 (by simp [w5]; rfl) ?_
   refine ⟨(k + 1, Y, n', (N + 7) :: ms), .keep rfl rfl rfl (by simp [hac1, hac2]; omega) (Sub.refl _), ⟨by omega, hSx.trans hNY, hY.nm, (by show n + 2 ≤ n'; omega), List.nodup_cons.2 ⟨fun h => ?_, hnd⟩, fun m hm => ?_⟩, by dsimp only; omega⟩
   · have := hHlt _ _ (hms _ h).2
     omega
   · rcases List.mem_cons.1 hm with rfl | hm
     · exact ⟨by omega, hY.at' 0 _ rfl⟩
     · exact ⟨(hms m hm).1, hNY _ _ (hms m hm).2⟩
 · have hkC' : k = C := by omega
   subst hkC'
   refine E.cond (t := false) (by simp; omega) (fun h => by cases h) (fun _ => ?_)
   refine E.exit ?_
   have hub1 := hub k
   have hdb1 := hdb k
   obtain ⟨nu, hnu⟩ : ∃ x, accN (fun x => nuT ts x w st) A k = x := ⟨_, rfl⟩
   obtain ⟨de, hde⟩ : ∃ x, accN (fun x => deT ts x w st) A k = x := ⟨_, rfl⟩
   rw [hnu, hde] at hV ⊢
   rw [hnu] at hub1
   rw [hde] at hdb1
   have hbr' := hSx _ _ hbr
   have hst : ∀ a b : Value, storeA Hx (n + 1) 0 [a, b] = some (hset Hx (n + 1) (.cells [a, b] 96)) := fun a b => store_all hbr' rfl
   have hfin : ∀ a b : Int, ∃ H2, shutA ms (hset Hx (n + 1) (.cells [iv a, iv b] 96)) = some H2 ∧ loadA Tryz.prog 96 H2 (.pointer (some ⟨n + 1, 0, none⟩)) = some (.agg ⟨[iv a, iv b]⟩) ∧ Sub (tidy n H) H2 := fun a b => by
     obtain ⟨H2, e1, e2⟩ := shut_all ms (H := hset Hx (n + 1) (.cells [iv a, iv b] 96)) hnd fun m hm => by
       have := (hms m hm).1
       rw [hget_hset, if_neg (by omega)]
       exact (hms m hm).2
     refine ⟨H2, e1, load96 ?_, fun j x hj => ?_⟩
     · rw [e2 _ fun h => by have := (hms _ h).1; omega, hget_hset, if_pos rfl, hbr']
       rfl
     · have hjn := tidy_lt _ _ hj
       rw [e2 _ fun h => by have := (hms _ h).1; omega, hget_hset, if_neg (by omega)]
       exact hSx _ _ (hS _ _ hj)
   refine E.seq ?_
   refine E.seq ?_
   refine E.reg hr0 (by simp; rfl) ?_
   by_cases hz : de = 0
   · rw [if_pos hz] at hV
     refine E.cond (t := true) (by simp [hz]) (fun _ => ?_) (fun h => by cases h)
     refine E.seq ?_
     refine E.reg hr0 (by simp [-storeA, build96a, hst]; rfl) ?_
     refine E.ret ?_
     obtain ⟨H2, e1, e2, e3⟩ := hfin 0 1
     show Ab.outM Tryz.prog Tryz.f135 (fun u H2 _ => u = V ∧ Ab.Sub (tidy n H) H2) .ret _
     exact outM.ret H2 e1 (vs := [.agg ⟨[iv 0, iv 1]⟩]) (by simp [-loadA, resultsA, resultA, Tryz.results135, e2]) ⟨by rw [hV]; rfl, e3⟩
   · rw [if_neg hz] at hV
     refine E.cond (t := false) (by simp [hz]) (fun h => by cases h) (fun _ => ?_)
     refine E.skip ?_
     refine E.seq ?_
     have h124 : gRat ratV [iv nu, iv de] Hx N = some (ratV nu de, Hx, N) := if_pos ⟨⟨by omega, by omega⟩, by omega, by omega⟩
     refine E.reg hr (by simp [-storeA, h124, hst]; rfl) ?_
     refine E.ret ?_
     obtain ⟨H2, e1, e2, e3⟩ := hfin (nu.tdiv (gcdI nu de)) (de.tdiv (gcdI nu de))
     show Ab.outM Tryz.prog Tryz.f135 (fun u H2 _ => u = V ∧ Ab.Sub (tidy n H) H2) .ret _
     exact outM.ret H2 e1 (vs := [ratV nu de]) (by simp [-loadA, resultsA, resultA, Tryz.results135, e2]) ⟨by rw [hV]; rfl, e3⟩
end Go.Proofs.YtkongcnmkiihjaaGreatDoor

namespace Go.Proofs.YtkongcnmkiihjaaGreatDoor
open Go Go.Ab Go.Proofs
def semOk (H : Heap) (u : Value) (ts : List Trc) (W t w win st : Int) : Prop := dR H ∧ trcV H u = some ts ∧ OkS ts ∧ W = (widF ts).1 ∧ (0 ≤ t ∧ t ≤ W - 1) ∧ (1 ≤ w ∧ w ≤ 1000000000) ∧ (0 ≤ win ∧ win ≤ 16) ∧ 0 ≤ st ∧ st ≤ 1024
open Classical in
noncomputable def g135 (args : List Value) (H : Heap) (n : Nat) : R := match args with
 | [.agg ⟨[.string _, u, .int .i64 W]⟩, .int .i64 t, .int .i64 w, .int .i64 win, .int .i64 st] => match trcV H u with
   | some ts => if semOk H u ts W t w win st then some (semV ts t w win st, H, n) else none
   | none => none
 | _ => none
theorem ok135 : EntOk Tryz.prog (135, g135) := by
 intro args H n v H' n' h
 simp only [g135] at h
 split at h
 · split at h
   · split at h
     · rename_i hc
       injection h with h; injection h with e1 e2; injection e2 with e2 e3; subst e1 e2 e3
       obtain ⟨h1, h2, h3, rfl, h5, h6, h7, h8⟩ := hc
       exact w135 h1 h2 h3 h5 h6 h7 h8
     · cases h
   · cases h
 · cases h
def semE (s : ByteArray) (ts : List Trc) (t w win st : Int) : Int := firstV [shtE s ts, withinV t 0 (widE s ts - 1), velV w, withinV win 0 16, withinV st 0 1024]
def semR (s : ByteArray) (ts : List Trc) (t w win st : Int) : Value := if semE s ts t w win st = 0 then semV ts t w win st else .agg ⟨[iv 0, iv 0]⟩
theorem first5 {a b c d e : Int} (h : firstV [a, b, c, d, e] = 0) : a = 0 ∧ b = 0 ∧ c = 0 ∧ d = 0 ∧ e = 0 :=
 ⟨first_zero h a (by simp), first_zero h b (by simp), first_zero h c (by simp), first_zero h d (by simp), first_zero h e (by simp)⟩
theorem semV_form (ts : List Trc) (t w win st : Int) : ∃ a b, semV ts t w win st = .agg ⟨[iv a, iv b]⟩ := by
 unfold semV
 split
 · exact ⟨_, _, rfl⟩
 · exact ⟨_, _, rfl⟩
theorem build96z {fr : Fr} {H : Heap} {n : Nat} : opBuild Tryz.prog 96 #[] fr H n = some (.agg ⟨[iv 0, iv 0]⟩, H, n) := by kernel_rfl
set_option maxHeartbeats 3200000 in
set_option maxRecDepth 100000 in
theorem w61 {H : Heap} {n : Nat} {v : Value} {s : ByteArray} {ts : List Trc} {t w win st : Int} (hR : dR H) (hv : shtV H v = some (s, ts)) : AC Tryz.prog 61 [v, iv t, iv w, iv win, iv st] H n (.tuple #[semR s ts t w win st, iv (semE s ts t w win st)]) H n := by
 refine AC.given fun hold hsc hgn => AC.tidied (B := []) (by simp) ?_
 replace hv := shtV_tidy (fun k b h => (hold k b h).1) hv
 replace hold := tidy_old hold
 have h1n : 1 < n := by rw [gsz] at hgn; omega
 replace hR : hget (tidy n H) 1 = some (.inp 0 rangesV) := hget_tidy.2 ⟨hR, h1n, rfl⟩
 have hr := recT_ok (P := Tryz.prog) (l := [(131, g131), (132, g132), (92, g92), (97, g97), (98, g98), (90, g90), (135, g135)]) (by simp only [List.forall_mem_cons]; exact ⟨ok131, ok132, ok92, ok97, ok98, ok90, ok135, by simp⟩)
 have hr0 := recT_ok (P := Tryz.prog) (l := []) (by simp)
 have hv0 := hv
 obtain ⟨u, rfl, ht⟩ := shtV_form hv
 obtain ⟨oa, c, rfl, hlt, _, _⟩ := trcV_form ht
 have hT : ∀ j, n ≤ j → hget (tidy n H) j = none := fun j hj => by
   cases hc : hget (tidy n H) j with
   | none => rfl
   | some b => exact absurd (tidy_lt _ _ hc) (by omega)
 obtain ⟨X, hX⟩ : ∃ X, (n + 1, Blk.cells [iv 0, iv 0] 96) :: (n, Blk.cells [.string s, .slice oa ts.length c] 110) :: tidy n H = X := ⟨_, rfl⟩
 have hS : Sub (tidy n H) X := by rw [← hX]; exact (Sub.cons (hT _ (Nat.le_refl _)) (Sub.refl _)).trans (Sub.cons (by rw [hget_cons, if_neg (by omega)]; exact hT _ (by omega)) (Sub.refl _))
 have hnm : namesOk (n + 2) X = true := by rw [← hX]; exact namesOk_put (by omega) (namesOk_put (by omega) (by simp))
 have hbx : hget X n = some (.cells [.string s, .slice oa ts.length c] 110) := by rw [← hX, hget_cons, if_neg (by omega), hget_cons, if_pos rfl]
 have hbr : hget X (n + 1) = some (.cells [iv 0, iv 0] 96) := by rw [← hX, hget_cons, if_pos rfl]
 have hXlt : ∀ k b, hget X k = some b → k < n + 2 := fun k b hk => namesOk_iff.1 hnm (k, b) (hget_mem _ _ _ hk)
 have hXn : ∀ j, n + 2 ≤ j → hget X j = none := fun j hj => by
   cases hc : hget X j with
   | none => rfl
   | some b => exact absurd (hXlt _ _ hc) (by omega)
 have hld := load110 hbx
 have hRX : dR X := hS _ _ hR
 have hE : semE s ts t w win st = firstV [shtE s ts, withinV t 0 (widE s ts - 1), velV w, withinV win 0 16, withinV st 0 1024] := rfl
 have hRL : semR s ts t w win st = if semE s ts t w win st = 0 then semV ts t w win st else .agg ⟨[iv 0, iv 0]⟩ := rfl
 obtain ⟨r0, hr0'⟩ : ∃ r, semR s ts t w win st = r := ⟨_, rfl⟩
 rw [hr0'] at hRL ⊢
 have hwd : -1000000 ≤ widE s ts ∧ widE s ts ≤ 1000000 := by
   unfold widE
   split
   · rename_i h
     have := (shtE_ok h).w0
     omega
   · omega
 have hWd : widE s ts = if shtE s ts = 0 then (widF ts).1 else 0 := rfl
 have h131 : ∀ m, g131 [.agg ⟨[.string s, .slice oa ts.length c]⟩] X m = some (.tuple #[.agg ⟨[.string s, .slice oa ts.length c, iv (widE s ts)]⟩, iv (shtE s ts)], X, m) := fun m => by
   simp only [g131, shtV_mono hS hv0, hRX, and_self, if_true]
 have hsh : shtE s ts = 0 → OkS ts := shtE_ok
 obtain ⟨W, hW⟩ : ∃ W, widE s ts = W := ⟨_, rfl⟩
 obtain ⟨e0, he0⟩ : ∃ e, shtE s ts = e := ⟨_, rfl⟩
 obtain ⟨el, hel⟩ : ∃ e, semE s ts t w win st = e := ⟨_, rfl⟩
 rw [hW] at h131 hE hwd hWd
 rw [he0] at h131 hE hsh hWd
 rw [hel] at hE hRL ⊢
 have h132 : ∀ Y m, g132 [.agg ⟨[.string s, .slice oa ts.length c, iv W]⟩, iv t] Y m = some (iv (withinV t 0 (W - 1)), Y, m) := fun Y m => by
   simp only [g132, hwd, and_self, if_true]
 have hI5 : ∀ (N : Nat) (Y : Heap) m, g90 [.slice (some ⟨N, 0, none⟩) 5 5] ((N, .cells [iv e0, iv (withinV t 0 (W - 1)), iv (velV w), iv (withinV win 0 16), iv (withinV st 0 1024)] 29) :: Y) m = some (iv el, (N, .cells [iv e0, iv (withinV t 0 (W - 1)), iv (velV w), iv (withinV win 0 16), iv (withinV st 0 1024)] 29) :: Y, m) := fun N Y m => by
   simp [g90, intsAt, intsOf, hE]
 have haf : af (.tuple #[r0, iv el]) = true := by
   rw [hRL]
   split
   · obtain ⟨a, b, e⟩ := semV_form ts t w win st
     rw [e]
     rfl
   · rfl
 refine AC.pure Tryz.func61 rfl (by kernel_rfl) rfl [1, 2, 3, 4, 5, 10, 11, 12] haf ?_
 refine E.seq ?_
 refine E.reg hr (by simp; rfl) ?_
 rw [hX]
 refine E.seq ?_
 refine E.reg hr (by simp [-loadA, hld, h131]; rfl) ?_
 refine E.seq ?_
 refine E.seq ?_
 have hld2 := load196 (H := (n + 2, Blk.cells [.string s, .slice oa ts.length c, iv W] 196) :: X) (n := n + 2) (s := s) (u := .slice oa ts.length c) (W := W) (by rw [hget_cons, if_pos rfl])
 have h92 : ∀ Y m, g92 [iv w] Y m = some (iv (velV w), Y, m) := fun _ _ => rfl
 have h97 : ∀ Y m, g97 [iv win] Y m = some (iv (withinV win 0 16), Y, m) := fun _ _ => rfl
 have h98 : ∀ Y m, g98 [iv st] Y m = some (iv (withinV st 0 1024), Y, m) := fun _ _ => rfl
 refine E.reg hr (by simp [-loadA, hld2, h132, h92, h97, h98, hI5]; rfl) ?_
 obtain ⟨G, hG⟩ : ∃ G, (n + 2, Blk.cells [.string s, .slice oa ts.length c, iv W] 196) :: X = G := ⟨_, rfl⟩
 have hXG : Sub X G := by rw [← hG]; exact Sub.cons (hXn _ (Nat.le_refl _)) (Sub.refl _)
 have hSG := hS.trans hXG
 have hGb : hget G (n + 2) = some (.cells [.string s, .slice oa ts.length c, iv W] 196) := by rw [← hG, hget_cons, if_pos rfl]
 have hGr := hXG _ _ hbr
 refine E.lead { fr := [(1, iv t), (2, iv w), (3, iv win), (4, iv st), (10, ptA (n + 1)), (12, ptA (n + 2)), (14, iv el)], sz := 42, H := G, n := n + 4, marks := [], vs := [1, 2, 3, 4, 5, 10, 11, 12] } (.keep rfl rfl rfl (by simp) (by rw [← hG]; exact Sub.cons (by rw [hget_cons, if_neg (by omega)]; exact hXn _ (by omega)) (Sub.refl _))) ?_
 have hst : ∀ a b : Value, storeA G (n + 1) 0 [a, b] = some (hset G (n + 1) (.cells [a, b] 96)) := fun a b => store_all hGr rfl
 have hfin : ∀ a b : Value, loadA Tryz.prog 96 (hset G (n + 1) (.cells [a, b] 96)) (.pointer (some ⟨n + 1, 0, none⟩)) = some (.agg ⟨[a, b]⟩) := fun a b => load96 (by rw [hget_hset, if_pos rfl, hGr]; rfl)
 have hsb : ∀ b, Sub (tidy n H) (hset G (n + 1) b) := fun b => sub_hset hSG (hT _ (by omega))
 refine E.seq ?_
 refine E.reg hr0 (by simp; rfl) ?_
 by_cases hz : el = 0
 · rw [if_pos hz] at hRL
   rw [hz] at hE
   obtain ⟨f1, f2, f3, f4, f5⟩ := first5 hE.symm
   rw [if_pos f1] at hWd
   have hok := hsh f1
   have g2 := within_zero f2
   have g3 : 1 ≤ w ∧ w ≤ 1000000000 := within_zero f3
   have g4 := within_zero f4
   have g5 := within_zero f5
   refine E.cond (t := false) (by simp [hz]) (fun h => by cases h) (fun _ => ?_)
   refine E.skip ?_
   refine E.seq ?_
   have hld3 := load196 hGb
   obtain ⟨a, b, hab⟩ := semV_form ts t w win st
   have h135 : ∀ m, g135 [.agg ⟨[.string s, .slice oa ts.length c, iv W]⟩, iv t, iv w, iv win, iv st] G m = some (.agg ⟨[iv a, iv b]⟩, G, m) := fun m => by
     have h1 := listV_mono decT_mono hSG ht
     have h2 : semOk G (.slice oa ts.length c) ts W t w win st := ⟨hSG _ _ hR, h1, hok, hWd, g2, g3, g4, g5⟩
     simp only [g135, h1, h2, if_true, hab]
   refine E.reg hr (by simp [-loadA, -storeA, hld3, h135, hst]; rfl) ?_
   refine E.ret ?_
   exact pureK.ret rfl (vs := [.agg ⟨[iv a, iv b]⟩, iv 0]) (by simp [-loadA, resultsA, resultA, Tryz.results61, hfin]) (by rw [hRL, hab, hz]; rfl) (hsb _)
 · rw [if_neg hz] at hRL
   refine E.cond (t := true) (by simp [hz]) (fun _ => ?_) (fun h => by cases h)
   refine E.seq ?_
   refine E.reg hr (by simp [-storeA, build96z, hst]; rfl) ?_
   refine E.ret ?_
   exact pureK.ret rfl (vs := [.agg ⟨[iv 0, iv 0]⟩, iv el]) (by simp [-loadA, resultsA, resultA, Tryz.results61, hfin]) (by rw [hRL]; rfl) (hsb _)
open Classical in
noncomputable def g61 (args : List Value) (H : Heap) (n : Nat) : R := match args with
 | [v, .int .i64 t, .int .i64 w, .int .i64 win, .int .i64 st] => match shtV H v with
   | some x => if dR H then some (.tuple #[semR x.1 x.2 t w win st, iv (semE x.1 x.2 t w win st)], H, n) else none
   | none => none
 | _ => none
theorem ok61 : EntOk Tryz.prog (61, g61) := by
 intro args H n v H' n' h
 simp only [g61] at h
 split at h
 · split at h
   · rename_i x hx
     split at h
     · rename_i hR
       injection h with h; injection h with e1 e2; injection e2 with e2 e3; subst e1 e2 e3
       exact w61 (s := x.1) (ts := x.2) hR hx
     · cases h
   · cases h
 · cases h
open Classical in
noncomputable def g58 (args : List Value) (H : Heap) (n : Nat) : R := match args with
 | [v, .int .i64 t, .int .i64 w, .int .i64 st] => match shtV H v with
   | some x => if dR H then some (.tuple #[outS n (livR x.1 x.2 t w st).length, iv (livE x.1 x.2 t w st)], outSB n 3 1 (livR x.1 x.2 t w st).length ((livR x.1 x.2 t w st).map iv) ++ H, n + 1) else none
   | none => none
 | _ => none
theorem ok58 : EntOk Tryz.prog (58, g58) := by
 intro args H n v H' n' h
 simp only [g58] at h
 split at h
 · split at h
   · rename_i x hx
     split at h
     · rename_i hR
       injection h with h; injection h with e1 e2; injection e2 with e2 e3; subst e1 e2 e3
       exact w58 (s := x.1) (ts := x.2) hR hx
     · cases h
   · cases h
 · cases h
end Go.Proofs.YtkongcnmkiihjaaGreatDoor

namespace Go.Proofs.YtkongcnmkiihjaaGreatDoor
open Go Go.Ab Go.Proofs
theorem tcs_set : ∀ {ts : List Trc} {rs : List Value} (i : Nat) {v : Value}, ts.length = rs.length → (∀ x ∈ ts, x.hd.length = 8) → i < ts.length → (tcs ts rs).set (i * 10 + 9) v = tcs ts (rs.set i v)
 | x :: ts, r :: rs, 0, v, _, h8, _ => by
   have h := h8 x (List.mem_cons_self ..)
   rw [Nat.zero_mul, Nat.zero_add, tcs, List.set_cons_zero, tcs, List.set_append_left _ _ (by rw [tc_len h]; omega)]
   congr 1
   rw [tc, tc, List.set_append_right _ _ (by rw [List.length_map, h]; omega), List.length_map, h]
   rfl
 | x :: ts, r :: rs, i + 1, v, hl, h8, hi => by
   have h := h8 x (List.mem_cons_self ..)
   rw [tcs, List.set_cons_succ, tcs, List.set_append_right _ _ (by rw [tc_len h]; omega), tc_len h, show (i + 1) * 10 + 9 - 10 = i * 10 + 9 by omega, tcs_set i (by simpa using hl) (fun y hy => h8 y (List.mem_cons_of_mem _ hy)) (by simpa using hi)]
 | [], _, _, _, _, _, hi => by simp at hi
 | _ :: _, [], _, _, hl, _, _ => by simp at hl
theorem tcs_of {H : Heap} : ∀ (ts : List Trc) (cs : List Value), cs.length = ts.length * 10 → mapO (decT H) (chunks 10 ts.length cs) = some ts → ∃ rs : List Value, ts.length = rs.length ∧ cs = tcs ts rs ∧ (∀ x ∈ ts, x.hd.length = 8) ∧ ∀ (i : Nat) r x, rs[i]? = some r → ts[i]? = some x → reaV H r = some x.smp
 | [], cs, hl, _ => ⟨[], rfl, List.eq_nil_of_length_eq_zero (by simpa using hl), fun x hx => (by cases hx), fun i r x h => by simp at h⟩
 | x :: ts, cs, hl, h => by
   rw [List.length_cons, chunks] at h
   simp only [mapO] at h
   split at h
   · rename_i y ys h1 h2
     injection h with h
     injection h with h3 h4
     subst h3 h4
     obtain ⟨s, e, h8, hs⟩ := decT_form h1
     obtain ⟨rs, e1, e2, e3, e4⟩ := tcs_of ys (cs.drop 10) (by rw [List.length_drop, hl, List.length_cons]; omega) h2
     refine ⟨s :: rs, by simp [e1], ?_, fun z hz => ?_, fun i r z hr hz => ?_⟩
     · rw [tcs, ← e2, show tc y s = List.take 10 cs from e.symm, List.take_append_drop]
     · rcases List.mem_cons.1 hz with rfl | hz
       · exact h8
       · exact e3 z hz
     · cases i with
       | zero => simp at hr hz; subst hr hz; exact hs
       | succ i => exact e4 i r z (by simpa using hr) (by simpa using hz)
   · cases h
theorem trc_cells_all {H : Heap} {a : Addr} {c : Nat} {ts : List Trc} (h : trcV H (.slice (some a) ts.length c) = some ts) (hne : ts ≠ []) : flat a = true ∧ ∃ rs : List Value, ts.length = rs.length ∧ cellsA H a.block a.off (ts.length * 10) = some (tcs ts rs) ∧ (∀ x ∈ ts, x.hd.length = 8) ∧ ∀ (i : Nat) r x, rs[i]? = some r → ts[i]? = some x → reaV H r = some x.smp := by
 have h : (if ts.length < 2147483648 then (if ts.length = 0 then some [] else if flat a = true then (cellsA H a.block a.off (ts.length * 10)).bind fun cs => mapO (decT H) (chunks 10 ts.length cs) else none) else none) = some ts := h
 split at h
 · rw [if_neg fun e => hne (List.length_eq_zero_iff.1 e)] at h
   split at h
   · rename_i hf
     rw [Option.bind_eq_some_iff] at h
     obtain ⟨cs, h1, h2⟩ := h
     obtain ⟨rs, e1, e2, e3, e4⟩ := tcs_of ts cs (cellsA_at h1).1 h2
     exact ⟨hf, rs, e1, by rw [h1, e2], e3, e4⟩
   · cases h
 · cases h
theorem inf159 : Tryz.prog.info? 159 = some Tryz.t159 := by kernel_rfl
theorem inf145 : Tryz.prog.info? 145 = some Tryz.t145 := by kernel_rfl
theorem rep_rv (w : Nat) : ((Array.range (w * 1)).map ((if w * 1 = 0 then #[] else #[rv 0])[· % (if w * 1 = 0 then #[] else #[rv 0]).size]!)).toList = (List.replicate w 0).map rv := by
 rw [List.map_replicate]
 refine List.eq_replicate_iff.2 ⟨by simp, fun x hx => ?_⟩
 simp only [Array.toList_map, List.mem_map, Array.toList_range, List.mem_range] at hx
 obtain ⟨i, hi, rfl⟩ := hx
 rw [if_neg (by omega)]
 simp [Nat.mod_one]
theorem mk126 {fr : Fr} {H : Heap} {n : Nat} {x y : Operand} {w : Nat} (h1 : w ≤ 1024) (hx : evO Tryz.prog fr x = some (iv w)) (hy : evO Tryz.prog fr y = some (iv w)) : opMakeslice Tryz.prog 126 x y fr H n = some (.slice (some ⟨n, 0, none⟩) w w, (n, .cells ((List.replicate w 0).map rv) 145) :: H, n + 1) := by
 unfold opMakeslice
 rw [hx, hy, Tryz.underlying126]
 have hz : Tryz.t145.zero = some (rv 0) := by kernel_rfl
 have hb : Tryz.t145.bytes = 4 := by kernel_rfl
 have hs : Tryz.t145.size = 1 := by kernel_rfl
 simp only [inf145, hz, hb, hs]
 have hc : (0 ≤ (w : Int) ∧ (w : Int) ≤ w ∧ (smallA 4 (w : Int).toNat && afL (rv 0).cells.toList) = true) := ⟨by omega, Int.le_refl _, by simp [smallA]; omega⟩
 rw [if_pos hc]
 unfold newA
 rw [Int.toNat_natCast, show (rv 0).cells = #[rv 0] from rfl, rep_rv]
theorem w134 {n' : Int} (h : n'.natAbs < 16777216) : AC Tryz.prog 134 [iv n'] [] 9 (rv (sampB n')) [] 9 := by
 have hr := recT_ok (P := Tryz.prog) (l := []) (by simp)
 obtain ⟨r, h1, h2⟩ := smp_told (n := n') h
 have h3 : sampB n' = r := by
   unfold sampB sampQ
   rw [show FloatKind.f32.format = Ieee.single from rfl, h1]
   rfl
 have hcv : runP Tryz.prog (convert 3 145 (iv n')) = some (rv (FloatKind.f32.nearest n')) := by kernel_rfl
 refine AC.pure Tryz.func134 rfl (by kernel_rfl) rfl [] rfl ?_
 refine E.seq ?_
 refine E.reg hr (by simp; rfl) ?_
 refine E.seq ?_
 refine E.reg hr (by simp [opConvert, hcv, bin_fdiv (k := .f32) h1]; rfl) ?_
 refine E.ret ?_
 exact pureK.ret rfl rfl (by rw [h3]; rfl) (sub_refl _)
def g134 (args : List Value) (H : Heap) (n : Nat) : R := match args with
 | [.int .i64 a] => if a.natAbs < 16777216 then some (rv (sampB a), H, n) else none
 | _ => none
theorem ok134 : EntOk Tryz.prog (134, g134) := by
 intro args H n v H' n' h
 simp only [g134] at h
 split at h
 · split at h
   · rename_i hc
     injection h with h; injection h with e1 e2; injection e2 with e2 e3; subst e1 e2 e3
     exact AC.liftP rfl (Part.plain (by simp) [] (by simp [Seen]) gsz ⟨_, _, w134 hc⟩)
   · cases h
 · cases h
def corB (ts : List Trc) (w st : Int) (t i : Nat) : Nat := if livB ts t w st i then sampB (smpN ts t w i) else 0
def corG (ts : List Trc) (w st : Int) (W : Nat) (d : Nat → Nat → Bool) : List Trc := ts.mapIdx fun i x => ⟨x.hd, x.hole, if x.hole then [] else (List.range W).map fun t => if d i t then corB ts w st t i else 0⟩
theorem corG_at {ts : List Trc} {w st : Int} {W : Nat} {d : Nat → Nat → Bool} {i : Nat} {x : Trc} (h : ts[i]? = some x) : (corG ts w st W d)[i]? = some ⟨x.hd, x.hole, if x.hole then [] else (List.range W).map fun t => if d i t then corB ts w st t i else 0⟩ := by
 unfold corG
 rw [List.getElem?_mapIdx, h]
 rfl
theorem corG_len {ts : List Trc} {w st : Int} {W : Nat} {d : Nat → Nat → Bool} : (corG ts w st W d).length = ts.length := List.length_mapIdx
theorem corG_congr {ts : List Trc} {w st : Int} {W : Nat} {d e : Nat → Nat → Bool} (h : ∀ i t, i < ts.length → t < W → (if d i t then corB ts w st t i else 0) = (if e i t then corB ts w st t i else 0)) : corG ts w st W d = corG ts w st W e := by
 apply List.ext_getElem?
 intro i
 by_cases hi : i < ts.length
 · rw [corG_at (List.getElem?_eq_getElem hi), corG_at (List.getElem?_eq_getElem hi)]
   congr 2
   split
   · rfl
   · refine List.map_congr_left fun t ht => ?_
     exact h i t hi (List.mem_range.1 ht)
 · rw [List.getElem?_eq_none (by rw [corG_len]; omega), List.getElem?_eq_none (by rw [corG_len]; omega)]
theorem range_set {W k b : Nat} {f : Nat → Nat} : ((List.range W).map f).set k b = (List.range W).map fun t => if t = k then b else f t := by
 apply List.ext_getElem?
 intro j
 rw [List.getElem?_set, List.getElem?_map, List.getElem?_map]
 by_cases hj : j < W
 · rw [List.getElem?_range hj]
   by_cases e : k = j
   · subst e
     rw [if_pos rfl, if_pos (by simpa using hj)]
     simp
   · rw [if_neg e]
     have hne : ¬ j = k := fun h => e h.symm
     simp [hne]
 · have : (List.range W)[j]? = none := List.getElem?_eq_none (by simp; omega)
   rw [this]
   split
   · rw [if_neg (by simp; omega)]; rfl
   · rfl
theorem corG_put {ts : List Trc} {w st : Int} {W : Nat} {d : Nat → Nat → Bool} {i k : Nat} (hi : i < ts.length) (hh : ts[i].hole = false) : putT (corG ts w st W d) i k (corB ts w st k i) = corG ts w st W fun j t => d j t || (decide (j = i) && decide (t = k)) := by
 apply List.ext_getElem?
 intro j
 by_cases hj : j < ts.length
 · rw [putT_at (corG_at (List.getElem?_eq_getElem hj)), corG_at (List.getElem?_eq_getElem hj)]
   congr 1
   by_cases e : i = j
   · subst e
     rw [if_pos rfl]
     rw [hh]
     simp only [Bool.false_eq_true, if_false]
     rw [range_set]
     congr 1
     refine List.map_congr_left fun t _ => ?_
     by_cases ht : t = k
     · subst ht; simp
     · simp [ht]
   · rw [if_neg e]
     congr 1
     split
     · rfl
     · refine List.map_congr_left fun t _ => ?_
       have hne : ¬ j = i := fun h => e h.symm
       simp [hne]
 · rw [List.getElem?_eq_none (by rw [putT_len, corG_len]; omega), List.getElem?_eq_none (by rw [corG_len]; omega)]
def dn (k i : Nat) : Nat → Nat → Bool := fun j t => decide (t < k) || (decide (t = k) && decide (j < i))
theorem corG_live {ts : List Trc} {w st : Int} {W k i : Nat} (hi : i < ts.length) (hh : ts[i].hole = false) : putT (corG ts w st W (dn k i)) i k (corB ts w st k i) = corG ts w st W (dn k (i + 1)) := by
 rw [corG_put hi hh]
 refine corG_congr fun j t _ _ => ?_
 congr 1
 unfold dn
 by_cases h1 : t < k
 · simp [h1]
 · by_cases h2 : t = k
   · by_cases h3 : j < i
     · simp [h2, h3, show j < i + 1 by omega]
     · by_cases h4 : j = i
       · simp [h2, h4]
       · simp [h2, h3, h4, show ¬ j < i + 1 by omega]
   · simp [h1, h2]
theorem corG_dead {ts : List Trc} {w st : Int} {W k i : Nat} (hd : livB ts k w st i = false) : corG ts w st W (dn k i) = corG ts w st W (dn k (i + 1)) := by
 refine corG_congr fun j t _ _ => ?_
 by_cases h : j = i ∧ t = k
 · obtain ⟨rfl, rfl⟩ := h
   have : corB ts w st t j = 0 := by unfold corB; rw [hd]; rfl
   rw [this]; simp
 · congr 1
   unfold dn
   by_cases h1 : t < k
   · simp [h1]
   · by_cases h2 : t = k
     · have h4 : j ≠ i := fun e => h ⟨e, h2⟩
       by_cases h3 : j < i
       · simp [h2, h3, show j < i + 1 by omega]
       · simp [h2, h3, show ¬ j < i + 1 by omega]
     · simp [h1, h2]
theorem corG_next {ts : List Trc} {w st : Int} {W k : Nat} : corG ts w st W (dn k ts.length) = corG ts w st W (dn (k + 1) 0) := by
 refine corG_congr fun j t hj _ => ?_
 congr 1
 unfold dn
 by_cases h1 : t < k
 · simp [h1, show t < k + 1 by omega]
 · by_cases h2 : t = k
   · simp [h2, hj]
   · simp [h1, h2, show ¬ t < k + 1 by omega]
end Go.Proofs.YtkongcnmkiihjaaGreatDoor

namespace Go.Ab
open Go
structure MadeS (H : Heap) (n : Nat) (H' : Heap) (n' : Nat) (u : Value) (x : ByteArray × List Trc) : Prop where
 app : ∃ B, H' = B ++ H ∧ (∀ b ∈ B, n ≤ b.1 ∧ b.1 < n') ∧ plainH B = true
 le : n ≤ n'
 view : shtV H' u = some x
theorem shtV_mk {H : Heap} {s : ByteArray} {l : Value} {ts : List Trc} (h : trcV H l = some ts) : shtV H (.agg ⟨[.string s, l]⟩) = some (s, ts) := by
 show (trcV H l).map (fun ts => (s, ts)) = _
 rw [h]
 rfl
theorem made_sht {P : Program} {f : FuncId} {fn : Func} {c : Code} {args : List Value} {H : Heap} {n : Nat} {vf : Value → Value} {s : ByteArray} {ts : List Trc} (hf : P.funcs[f]? = some fn) (hb : fn.body = some c) (he : enterable P f = true) (hlen : Nat.ble args.length fn.ntmps = true) (vs : List Nat) (hlt : ∀ k b, hget H k = some b → k < n) (hvf : ∀ u, af (vf u) = af u) (hl : ts.length < 2147483648) (hls : ∀ x ∈ ts, x.smp.length < 2147483648)
   (h : E P n none c { fr := argsFr args 0, sz := fn.ntmps, H := tidy n H, n, marks := [], vs } (Ab.outM P fn fun v Z N => ∃ F t tb tf kb rs o, v = vf (.agg ⟨[.string s, outrV F o ts.length]⟩) ∧ (ts = [] → F = true) ∧ MS F (tidy n H) n t tb tf kb s ts rs Z N o)) : ∃ u H' n', AC P f args H n (vf u) H' n' ∧ MadeS H n H' n' u (s, ts) := by
 obtain ⟨v, H1, n1, Z, hAC, ⟨F, t, tb, tf, kb, rs, o, rfl, hF, hM⟩, h1, h2⟩ := AC.outM hf hb he hlen vs h
 have hTlt : ∀ k b, hget (tidy n H) k = some b → k < n := fun k b hk => tidy_lt _ _ hk
 by_cases h0 : ts = []
 · subst h0
   have hF := hF rfl
   subst hF
   have ha : af (vf (.agg ⟨[.string s, outrV true o 0]⟩)) = true := by rw [hvf]; rfl
   have h3 : AC P f args (tidy n H) n (vf (.agg ⟨[.string s, outrV true o 0]⟩)) (tidy n H) n := hAC.tidy ha fun k b hk => h2 k b hTlt hk (hM.sub k b hk)
   exact ⟨_, H, n, AC.tidied (B := []) (by simp) h3, ⟨[], rfl, by simp, rfl⟩, Nat.le_refl _, rfl⟩
 · have ha : af (vf (.agg ⟨[.string s, outrV F o ts.length]⟩)) = false := by
     rw [hvf]
     have hne : ts.length ≠ 0 := fun e => h0 (List.length_eq_zero_iff.1 e)
     cases F with
     | true =>
       show af (.agg ⟨[.string s, outS o ts.length]⟩) = false
       rw [outS_ne hne]
       rfl
     | false => rfl
   obtain rfl := h1 ha
   have h3 := AC.canon hlt hAC hM.sub
   obtain ⟨N, hN⟩ : ∃ N, n1 = N := ⟨_, rfl⟩
   refine ⟨_, _, _, h3, ⟨news n H1, rfl, fun b hb => ?_, plainH_mem fun x hx => (news_mem hx).2.1⟩, hM.big, ?_⟩
   · obtain ⟨g1, _, g3⟩ := news_mem hb
     exact ⟨g1, namesOk_iff.1 hM.nm _ (hget_mem _ _ _ g3)⟩
   · refine shtV_mk (hM.view (fun k b hk hp hg => ?_) hl hls)
     rw [hget_app, news_get hg hk hp]
theorem made_shtM {P : Program} {f : FuncId} {fn : Func} {c : Code} {args : List Value} {H : Heap} {n t tb tf : Nat} {F : Bool} {s : ByteArray} {ts : List Trc} (hf : P.funcs[f]? = some fn) (hb : fn.body = some c) (he : enterable P f = true) (hlen : Nat.ble args.length fn.ntmps = true) (vs : List Nat) (hlt : ∀ k b, hget H k = some b → k < n) (hl : ts.length < 2147483648) (hls : ∀ x ∈ ts, x.smp.length < 2147483648) (hne : ts ≠ [])
   (h : E P n none c { fr := argsFr args 0, sz := fn.ntmps, H := tidy n H, n, marks := [], vs } (Ab.outM P fn fun v Z N => ∃ kb rs o, v = .agg ⟨[.string s, outrV F o ts.length]⟩ ∧ MS F (tidy n H) n t tb tf kb s ts rs Z N o)) : ∃ u H' n', AC P f args H n u H' n' ∧ MadeS H n H' n' u (s, ts) ∧ ∃ kb rs o, u = .agg ⟨[.string s, outrV F o ts.length]⟩ ∧ MS F (tidy n H) n t tb tf kb s ts rs H' n' o := by
 obtain ⟨v, H1, n1, Z, hAC, ⟨kb, rs, o, rfl, hM⟩, h1, h2⟩ := AC.outM hf hb he hlen vs h
 have hn0 : ts.length ≠ 0 := fun e => hne (List.length_eq_zero_iff.1 e)
 have ha : af (.agg ⟨[.string s, outrV F o ts.length]⟩) = false := by
   cases F with
   | true =>
     show af (.agg ⟨[.string s, outS o ts.length]⟩) = false
     rw [outS_ne hn0]
     rfl
   | false => rfl
 obtain rfl := h1 ha
 have h3 := AC.canon hlt hAC hM.sub
 have hup : ∀ k b, n ≤ k → plainB2 b = true → hget H1 k = some b → hget (news n H1 ++ H) k = some b := fun k b hk hp hg => by
   rw [hget_app, news_get hg hk hp]
 have hnm : namesOk n1 (news n H1 ++ H) = true := namesOk_iff.2 fun x hx => by
   rcases List.mem_append.1 hx with hx | hx
   · exact namesOk_iff.1 hM.nm _ (hget_mem _ _ _ (news_mem hx).2.2)
   · have hb := hM.big
     cases hg : hget H x.1 with
     | none =>
       exfalso
       have : ∀ (H : Heap), x ∈ H → hget H x.1 ≠ none := fun H => by
         induction H with
         | nil => intro h; cases h
         | cons y H ih =>
           intro h
           obtain ⟨j, b⟩ := y
           rw [hget_cons]
           split
           · intro e; cases e
           · rename_i hj
             rcases List.mem_cons.1 h with e | h
             · exact absurd (by rw [e]) hj
             · exact ih h
       exact this H hx hg
     | some b => have := hlt _ _ hg; omega
 refine ⟨_, _, _, h3, ⟨⟨news n H1, rfl, fun b hb => ?_, plainH_mem fun x hx => (news_mem hx).2.1⟩, hM.big, ?_⟩, kb, rs, o, rfl, ?_⟩
 · obtain ⟨g1, _, g3⟩ := news_mem hb
   exact ⟨g1, namesOk_iff.1 hM.nm _ (hget_mem _ _ _ g3)⟩
 · exact shtV_mk (hM.view hup hl hls)
 · refine ⟨fun k b hk => ?_, hnm, hM.big, hM.len, hM.h8, fun h0 => ?_, hup _ _ hM.kbn.1 rfl hM.box, hM.kbn, fun i x r hx hr => ?_, hM.sep⟩
   · rw [hget_app]
     cases hc : hget (news n H1) k with
     | none => exact (hget_tidy.1 hk).1
     | some c =>
       have := (news_mem (hget_mem _ _ _ hc)).1
       have := (hget_tidy.1 hk).2.1
       dsimp only at *
       omega
   · obtain ⟨g1, g2, g3, g4⟩ := hM.out h0
     exact ⟨hup _ _ g2 outrB_pl g1, g2, g3, g4⟩
   · obtain ⟨g1, g2, g3⟩ := hM.row i x r hx hr
     refine ⟨?_, g2, g3⟩
     rcases g1 with ⟨rfl, e⟩ | ⟨m, mk, k1, k2, rfl, k3⟩
     · exact .inl ⟨rfl, e⟩
     · exact .inr ⟨m, mk, k1, k2, rfl, hup _ _ k1 rowV_pl k3⟩
theorem E.partW {P : Program} {n0 : Nat} {ro : Option Nat} {c : Code} {K : Ex → St → Prop} {st : St} {fr : Fr} {sz n : Nat} {marks vs : List Nat} {H1 H2 : Heap}
   (h : E P st.n ro c { st with H := tidy st.n st.H } fun e s => e = .normal ∧ s = ⟨fr, sz, H1, n, marks, vs⟩) (h2 : ∀ k b, hget H2 k = some b → hget H1 k = some b ∨ (hget st.H k = some b ∧ hget (tidy st.n st.H) k = none)) (k : K .normal ⟨fr, sz, H2, n, marks, vs⟩) : E P n0 ro c st K := by
 obtain ⟨e, s', hat, rfl, rfl⟩ := E.toEx (s := { st with H := tidy st.n st.H }) h
 have hf := AT.frameP (st := { st with H := tidy st.n st.H }) (st' := ⟨fr, sz, H1, n, marks, vs⟩) (H := st.H) (H2 := H2) hat (fun k b hk => (hget_tidy.1 hk).1) h2
 exact E.at hf k
theorem tidy_none {H : Heap} {n k : Nat} {b : Blk} (_hlt : ∀ k b, hget H k = some b → k < n) (hk : hget H k = some b) (hp : plainB2 b = false) : hget (tidy n H) k = none := by
 cases hc : hget (tidy n H) k with
 | none => rfl
 | some c =>
   have := hget_tidy.1 hc
   rw [hk] at this
   obtain ⟨h1, _, h3⟩ := this
   injection h1 with h1
   subst h1
   rw [hp] at h3
   cases h3
theorem tidy_set {H : Heap} {n m : Nat} {x : Blk} (hlt : ∀ k b, hget H k = some b → k < n) : ∀ k b, hget (hset H m x) k = some b → hget (hset (tidy n H) m x) k = some b ∨ (hget H k = some b ∧ hget (tidy n H) k = none) ∨ (k = m ∧ hget (tidy n H) m = none) := fun k b hk => by
 rw [hget_hset] at hk
 by_cases e : m = k
 · subst e
   rw [if_pos rfl] at hk
   cases hc : hget (tidy n H) m with
   | none => exact .inr (.inr ⟨rfl, rfl⟩)
   | some y =>
     rw [Option.map_eq_some_iff] at hk
     obtain ⟨z, _, rfl⟩ := hk
     exact .inl (by rw [hget_hset, if_pos rfl, hc]; rfl)
 · rw [if_neg e] at hk
   by_cases hp : plainB2 b = true
   · exact .inl (by rw [hget_hset, if_neg e]; exact hget_tidy.2 ⟨hk, hlt k b hk, hp⟩)
   · exact .inr (.inl ⟨hk, tidy_none hlt hk (by simpa using hp)⟩)
theorem Kp.write {B H : Heap} {b N : Nat} {fs : List (Nat × Blk)} (h : Kp B b fs H N) {m : Nat} {x : Blk} (hB : hget B m = none) (hf : ∀ (i : Nat) y, fs[i]? = some y → y.1 ≠ m) : Kp B b fs (hset H m x) N :=
 ⟨sub_hset h.sub hB, namesOk_hset h.nm, h.big, h.bl, h.low, h.nd, fun i y hy => by
   rw [hget_hset, if_neg fun e => hf i y hy e.symm]
   exact h.at' i y hy⟩
@[simp] theorem handA_nn : ∀ H : Heap, handA [] [] H = []
 | [] => rfl
 | (k, b) :: H => by simp only [handA, memN, handA_nn H]
theorem storeA_form {H H' : Heap} {b off : Nat} {vs : List Value} (h : storeA H b off vs = some H') : ∃ x, H' = hset H b x := by
 unfold storeA at h
 split at h
 · split at h
   · injection h with h; exact ⟨_, h.symm⟩
   · cases h
 · split at h
   · injection h with h; exact ⟨_, h.symm⟩
   · cases h
 · cases h
theorem RowOk.wide {tf : Nat} {H G : Heap} {n N N' : Nat} {r : Value} {bs : List Nat} (h : RowOk tf H n N r bs) (hs : Sub H G) (hN : N ≤ N') : RowOk tf G n N' r bs := by
 rcases h with ⟨rfl, rfl⟩ | ⟨m, mk, h1, h2, rfl, h3⟩
 · exact .inl ⟨rfl, rfl⟩
 · exact .inr ⟨m, mk, h1, by omega, rfl, hs _ _ h3⟩
theorem RowOk.low {tf : Nat} {H : Heap} {n n' N : Nat} {r : Value} {bs : List Nat} (h : RowOk tf H n N r bs) (hn : n' ≤ n) : RowOk tf H n' N r bs := by
 rcases h with ⟨rfl, rfl⟩ | ⟨m, mk, h1, h2, rfl, h3⟩
 · exact .inl ⟨rfl, rfl⟩
 · exact .inr ⟨m, mk, by omega, h2, rfl, h3⟩
section
variable {F : Bool} {L Hx G : Heap} {n t tb tf kb N N' o : Nat} {s : ByteArray} {ts : List Trc} {rs : List Value}
theorem MS.wide (h : MS F L n t tb tf kb s ts rs Hx N o) (hs : Sub Hx G) (hn : namesOk N' G = true) (hN : N ≤ N') : MS F L n t tb tf kb s ts rs G N' o := by
 have hb := h.big
 have hk := h.kbn
 refine ⟨h.sub.trans hs, hn, by omega, h.len, h.h8, fun h0 => ?_, hs _ _ h.box, by omega, fun i x r hx hr => ?_, h.sep⟩
 · obtain ⟨h1, h2, h3, h4⟩ := h.out h0
   exact ⟨hs _ _ h1, h2, by omega, h4⟩
 · obtain ⟨h1, h2, h3⟩ := h.row i x r hx hr
   exact ⟨h1.wide hs hN, h2, h3⟩
theorem MS.tidy (h : MS F L n t tb tf kb s ts rs Hx N o) (hL : ∀ k b, hget L k = some b → k < N ∧ plainB2 b = true) : MS F L n t tb tf kb s ts rs (Ab.tidy N Hx) N o := by
 have hb := h.big
 have hk := h.kbn
 refine ⟨fun k b hk => hget_tidy.2 ⟨h.sub k b hk, (hL k b hk).1, (hL k b hk).2⟩, namesOk_tidy, hb, h.len, h.h8, fun h0 => ?_, hget_tidy.2 ⟨h.box, hk.2, rfl⟩, hk, fun i x r hx hr => ?_, h.sep⟩
 · obtain ⟨h1, h2, h3, h4⟩ := h.out h0
   exact ⟨hget_tidy.2 ⟨h1, h3, outrB_pl⟩, h2, h3, h4⟩
 · obtain ⟨h1, h2, h3⟩ := h.row i x r hx hr
   refine ⟨?_, h2, h3⟩
   rcases h1 with ⟨rfl, e⟩ | ⟨m, mk, g1, g2, rfl, g3⟩
   · exact .inl ⟨rfl, e⟩
   · exact .inr ⟨m, mk, g1, g2, rfl, hget_tidy.2 ⟨g3, g2, rowV_pl⟩⟩
theorem MS.at9 (h : MS F L n t tb tf kb s ts rs Hx N o) {i : Nat} {x : Trc} {r : Value} (hx : ts[i]? = some x) (hr : rs[i]? = some r) : cellA Hx o (i * 10 + 9) = some r ∧ cellA Hx o (i * 10 + 8) = some (.bool x.hole) := by
 have hne : ts ≠ [] := fun e => by rw [e] at hx; cases hx
 obtain ⟨h1, _⟩ := h.out hne
 have h8 := h.h8 x (List.mem_of_getElem? hx)
 have h2 := tcs_at i hx hr h.h8
 have one : ∀ j, j < 10 → (tcs ts rs)[i * 10 + j]? = (tc x r)[j]? := fun j hj => by
   rw [← h2, List.getElem?_take, if_pos hj, List.getElem?_drop]
 have c : ∀ j, cellA Hx o j = (tcs ts rs)[j]? := fun j => by
   rw [cellA_eq, h1]
   cases F <;> rfl
 rw [c, c, one 9 (by decide), one 8 (by decide), tc, List.getElem?_append_right (by rw [List.length_map]; omega), List.getElem?_append_right (by rw [List.length_map]; omega), List.length_map, h8]
 exact ⟨rfl, rfl⟩
end
end Go.Ab

namespace Go.Proofs.YtkongcnmkiihjaaGreatDoor
open Go Go.Ab Go.Proofs
def corE (s : ByteArray) (ts : List Trc) (w st : Int) : Int := firstV [shtE s ts, velV w, withinV st 0 1024]
def widN (ts : List Trc) : Nat := (widF ts).1.toNat
def corR (s : ByteArray) (ts : List Trc) (w st : Int) : ByteArray × List Trc := if corE s ts w st = 0 then (s, corG ts w st (widN ts) (dn (widN ts) 0)) else (⟨#[]⟩, [])
theorem build110 {fr : Fr} {H : Heap} {n : Nat} {x y : Operand} {s : ByteArray} {a : Option Addr} {l c : Nat} (hx : evO Tryz.prog fr x = some (.string s)) (hy : evO Tryz.prog fr y = some (.slice a l c)) : opBuild Tryz.prog 110 #[(0, x), (1, y)] fr H n = some (.agg #[.string s, .slice a l c], H, n) := by
 unfold opBuild
 simp only [evPs_cons, evPs_nil, hx, hy]
 kernel_rfl
theorem build110z {fr : Fr} {H : Heap} {n : Nat} : opBuild Tryz.prog 110 #[] fr H n = some (.agg ⟨[.string ⟨#[]⟩, .slice none 0 0]⟩, H, n) := by kernel_rfl
theorem oneL_app : ∀ (a b : List Value), oneL a = true → oneL b = true → oneL (a ++ b) = true
 | [], _, _, h => h
 | x :: a, b, h1, h2 => by
   cases x <;> first | exact oneL_app a b h1 h2 | cases h1
theorem oneL_tcs : ∀ (ts : List Trc) (rs : List Value), (∀ r ∈ rs, isS r = true) → oneL (tcs ts rs) = true
 | [], _, _ => by unfold tcs; rfl
 | _ :: _, [], _ => rfl
 | x :: ts, r :: rs, h => by
   rw [tcs]
   exact oneL_app _ _ (oneL_tc (h r (List.mem_cons_self ..))) (oneL_tcs ts rs fun q hq => h q (List.mem_cons_of_mem _ hq))
theorem copy108 {Y : Heap} {o m c : Nat} {a : Addr} {ts : List Trc} {rs zs : List Value} (hf : flat a = true) (hne : ts ≠ []) (ho : hget Y o = some (.cells zs 159)) (hz : zs.length = ts.length * 10) (hl : ts.length = rs.length) (h8 : ∀ x ∈ ts, x.hd.length = 8) (hc : cellsA Y a.block a.off (ts.length * 10) = some (tcs ts rs)) (hrs : ∀ r ∈ rs, isS r = true) :
   builtinA Tryz.prog .copy #[108, 108] Y m [.slice (some ⟨o, 0, none⟩) ts.length ts.length, .slice (some a) ts.length c] = some (iv ts.length, hset Y o (.cells (tcs ts rs) 159), m) := by
 have hsz : szA Tryz.prog 159 = some 10 := sz159
 have hlen := tcs_len hl h8
 have hst := store_all (cs := tcs ts rs) ho (by rw [hlen, hz])
 have hone := oneL_tcs ts rs hrs
 have h0 : ¬ ts.length * 10 = 0 := by
   have : ts.length ≠ 0 := fun e => hne (List.length_eq_zero_iff.1 e)
   omega
 have hnb : tcs ts rs ≠ [] := fun e => by
   rw [e, List.length_nil] at hlen
   omega
 have hsrc : srcA Y 10 ts.length (.slice (some a) ts.length c) = some (tcs ts rs) := by
   unfold srcA
   simp only
   rw [if_neg h0, if_pos hf, hc]
 have hmin : Nat.min ts.length ts.length = ts.length := Nat.min_self _
 obtain ⟨x, xs, hx⟩ : ∃ x xs, tcs ts rs = x :: xs := by
   cases hcs : tcs ts rs with
   | nil => exact absurd hcs hnb
   | cons x xs => exact ⟨x, xs, rfl⟩
 unfold builtinA
 simp only [List.getElem?_toArray, List.getElem?_cons_zero, Tryz.underlying108, hsz, lenV, hmin, hsrc]
 rw [hx] at hst hone ⊢
 simp only [flat_n, hone, Bool.and_self, if_true, hst]
theorem firstc {a b c : Int} (h : firstV [a, b, c] = 0) : a = 0 ∧ b = 0 ∧ c = 0 :=
 ⟨first_zero h a (by simp), first_zero h b (by simp), first_zero h c (by simp)⟩
def zs108 (L : Nat) : List Value := ((Array.range (L * 10)).map ((if L * 10 = 0 then #[] else (Value.agg #[iv 0, iv 0, iv 0, iv 0, iv 0, iv 0, iv 0, iv 0, .bool false, .slice none 0 0]).cells)[· % (if L * 10 = 0 then #[] else (Value.agg #[iv 0, iv 0, iv 0, iv 0, iv 0, iv 0, iv 0, iv 0, .bool false, .slice none 0 0]).cells).size]!)).toList
theorem zs108_len (L : Nat) : (zs108 L).length = L * 10 := by simp [zs108]
theorem mk108' {fr : Fr} {H : Heap} {n : Nat} {x y : Operand} {L : Nat} (h1 : L ≤ 64) (hx : evO Tryz.prog fr x = some (iv L)) (hy : evO Tryz.prog fr y = some (iv L)) : opMakeslice Tryz.prog 108 x y fr H n = some (.slice (some ⟨n, 0, none⟩) L L, (n, .cells (zs108 L) 159) :: H, n + 1) := by
 unfold opMakeslice
 rw [hx, hy, Tryz.underlying108]
 have hz1 : Tryz.t159.zero = some (.agg #[iv 0, iv 0, iv 0, iv 0, iv 0, iv 0, iv 0, iv 0, .bool false, .slice none 0 0]) := by kernel_rfl
 have hz2 : afL (Value.agg #[iv 0, iv 0, iv 0, iv 0, iv 0, iv 0, iv 0, iv 0, .bool false, .slice none 0 0]).cells.toList = true := rfl
 have hb : Tryz.t159.bytes = 96 := by kernel_rfl
 have hs : Tryz.t159.size = 10 := by kernel_rfl
 simp only [inf159, hz1, hb, hs]
 have hc : (0 ≤ (L : Int) ∧ (L : Int) ≤ L ∧ (smallA 96 (L : Int).toNat && afL (Value.agg #[iv 0, iv 0, iv 0, iv 0, iv 0, iv 0, iv 0, iv 0, .bool false, .slice none 0 0]).cells.toList) = true) := ⟨by omega, Int.le_refl _, by rw [hz2]; simp [smallA]; omega⟩
 rw [if_pos hc]
 unfold newA
 rw [Int.toNat_natCast]
 rfl
structure RP (n0 : Nat) (ts : List Trc) (W : Nat) (i : Nat) (rs : List Value) (Hx : Heap) (N : Nat) : Prop where
 len : ts.length = rs.length
 row : ∀ (j : Nat) x r, j < i → ts[j]? = some x → rs[j]? = some r → RowOk 145 Hx n0 N r (if x.hole then [] else List.replicate W 0)
 sep : ∀ (j k : Nat) r q, j < i → k < i → j ≠ k → rs[j]? = some r → rs[k]? = some q → nmO r = none ∨ nmO r ≠ nmO q
theorem RP.start {n0 : Nat} {ts : List Trc} {W : Nat} {rs : List Value} {Hx : Heap} {N : Nat} (h : ts.length = rs.length) : RP n0 ts W 0 rs Hx N :=
 ⟨h, fun j x r hj => by omega, fun j k r q hj => by omega⟩
theorem RP.next {n0 : Nat} {ts : List Trc} {W i : Nat} {rs : List Value} {Hx Hy : Heap} {N N' : Nat} {v : Value} {x : Trc} (h : RP n0 ts W i rs Hx N) (hx : ts[i]? = some x) (hN : N ≤ N') (hg : ∀ m b, n0 ≤ m → m < N → hget Hx m = some b → hget Hy m = some b) (hv : RowOk 145 Hy n0 N' v (if x.hole then [] else List.replicate W 0)) (hn : ∀ m, nmO v = some m → N ≤ m) : RP n0 ts W (i + 1) (rs.set i v) Hy N' := by
 have hi : i < rs.length := by rw [← h.len]; exact (List.getElem?_eq_some_iff.1 hx).1
 have hrow : ∀ (j : Nat) y r, j < i → ts[j]? = some y → rs[j]? = some r → RowOk 145 Hy n0 N' r (if y.hole then [] else List.replicate W 0) := fun j y r hj hy hr => by
   rcases h.row j y r hj hy hr with ⟨e1, e2⟩ | ⟨m, mk, h1, h2, e, h3⟩
   · exact .inl ⟨e1, e2⟩
   · exact .inr ⟨m, mk, h1, by omega, e, hg m _ h1 h2 h3⟩
 have hlt : ∀ (j : Nat) r m, j < i → rs[j]? = some r → nmO r = some m → m < N := fun j r m hj hr hm => by
   have hjt : j < ts.length := by have := (List.getElem?_eq_some_iff.1 hr).1; rw [h.len]; exact this
   exact ((h.row j _ r hj (List.getElem?_eq_getElem hjt) hr).lt hm).2
 refine ⟨by rw [List.length_set]; exact h.len, fun j y r hj hy hr => ?_, fun j k r q hj hk hjk hr hq => ?_⟩
 · rw [List.getElem?_set] at hr
   by_cases e : i = j
   · subst e
     rw [if_pos rfl, if_pos hi] at hr
     injection hr with hr
     subst hr
     rw [hx] at hy
     injection hy with hy
     subst hy
     exact hv
   · rw [if_neg e] at hr
     exact hrow j y r (by omega) hy hr
 · rw [List.getElem?_set] at hr hq
   by_cases e1 : i = j
   · subst e1
     rw [if_pos rfl, if_pos hi] at hr
     injection hr with hr
     subst hr
     rw [if_neg hjk] at hq
     cases hm : nmO v with
     | none => exact .inl rfl
     | some m =>
       refine .inr fun e => ?_
       have := hlt k q m (by omega) hq e.symm
       have := hn m hm
       omega
   · rw [if_neg e1] at hr
     by_cases e2 : i = k
     · subst e2
       rw [if_pos rfl, if_pos hi] at hq
       injection hq with hq
       subst hq
       cases hm : nmO r with
       | none => exact .inl rfl
       | some m =>
         refine .inr fun e => ?_
         have := hlt j r m (by omega) hr hm
         have := hn m e.symm
         omega
     · rw [if_neg e2] at hq
       exact h.sep j k r q (by omega) (by omega) hjk hr hq
end Go.Proofs.YtkongcnmkiihjaaGreatDoor

namespace Go.Proofs.YtkongcnmkiihjaaGreatDoor
open Go Go.Ab Go.Proofs
noncomputable def asg60 : Code := match rfOf (bodyOf' Tryz.f60) with
 | some x => x.1
 | none => .skip
noncomputable def bdy60 : Code := match rfOf (bodyOf' Tryz.f60) with
 | some x => x.2
 | none => .skip
abbrev vs60 : List Nat := [1, 2, 6, 8, 11, 13, 46, 47, 72, 73]
abbrev fr60 (n N : Nat) (w st : Int) (W k : Nat) : Fr := [(80, fn169 (N + 1)), (1, iv w), (2, iv st), (6, ptA (n + 1)), (8, ptA (n + 2)), (11, ptA (n + 5)), (13, ptA N), (72, iv W), (73, iv k)]
noncomputable abbrev lb60 (fr : Fr) (N : Nat) (ls : LoopState) (pe : Option Code) : Blk := .loop ls pe fr 95 vs60 #[81, 82] asg60 bdy60 (N + 5)
noncomputable abbrev fs60 (fr : Fr) (N k : Nat) (ls : LoopState) (pe : Option Code) : List (Nat × Blk) := [(N + 5, .defd), (N + 6, lb60 fr N ls pe), (N, .cells [iv k] 3)]
abbrev marksB (ms : List Nat) (X : Heap) : Heap := ms.map (fun m => (m, Blk.defd)) ++ X
theorem marksB_get : ∀ {ms : List Nat} {X : Heap} {k : Nat} {b : Blk}, hget (marksB ms X) k = some b → (k ∈ ms ∧ b = .defd) ∨ (k ∉ ms ∧ hget X k = some b)
 | [], X, k, b, h => .inr ⟨List.not_mem_nil, h⟩
 | m :: ms, X, k, b, h => by
   rw [marksB, List.map_cons, List.cons_append, hget_cons] at h
   split at h
   · rename_i e; subst e; injection h with h; exact .inl ⟨List.mem_cons_self .., h.symm⟩
   · rename_i e
     rcases marksB_get h with ⟨h1, h2⟩ | ⟨h1, h2⟩
     · exact .inl ⟨List.mem_cons_of_mem _ h1, h2⟩
     · exact .inr ⟨fun hm => by rcases List.mem_cons.1 hm with h | h; exact e h.symm; exact h1 h, h2⟩
set_option maxHeartbeats 3200000 in
set_option maxRecDepth 100000 in
theorem yield60 {B L : Heap} {fr : Fr} {n N0 N nr i k : Nat} {s : ByteArray} {ts us : List Trc} {rs : List Value} {x : Int} {cs : List Value} {Hx : Heap} {T : Trc} {c : Nat}
   (hL : ∀ k b, hget L k = some b → k < n ∧ plainB2 b = true) (hfr : lk fr 11 = some (ptA (n + 5)) ∧ lk fr 13 = some (ptA N0)) (hI : Kp B (N0 + 7) (fs60 fr N0 k .ready none) Hx N) (hM : MS false L n 159 110 145 (n + 5) s us rs Hx N (n + 4)) (hB : ∀ m, n + 6 ≤ m → m < nr → hget B m = none) (hnr : n + 6 ≤ nr ∧ nr ≤ N0) (hrs : ∀ r ∈ rs, ∀ m, nmO r = some m → n + 6 ≤ m ∧ m < nr) (hus : us[i]? = some T) (hx : x.natAbs < 16777216) (hkT : k < T.smp.length) (hlen : us.length = c) (_hT : T.smp.length < 2147483648) (_hc : c < 2147483648) :
   ∃ r b H' N', RecOk Tryz.prog r 0 ∧ yieldF r (N0 + 6) [iv i, iv x] ((N, .cells cs 159) :: Hx) (N + 1) = some (.bool b, H', N') ∧ (b = true ∧ Kp B (N0 + 7) (fs60 fr N0 k .ready none) H' N' ∧ MS false L n 159 110 145 (n + 5) s (putT us i k (sampB x)) rs H' N' (n + 4)) := by
 have hr0 := recT_ok (P := Tryz.prog) (l := []) (by simp)
 have hr := recT_ok (P := Tryz.prog) (l := [(134, g134)]) (by simp [ok134])
 have hL' : ∀ k b, hget L k = some b → k < n := fun k b h => (hL k b h).1
 have hbig := hI.big
 have hS1 := hI.skip (.cells cs 159)
 have hM1 := hM.skip hL' (.cells cs 159)
 obtain ⟨f1, f2⟩ := hfr
 refine (yieldF_ex (K := fun b H' N' => b = true ∧ Kp B (N0 + 7) (fs60 fr N0 k .ready none) H' N' ∧ MS false L n 159 110 145 (n + 5) s (putT us i k (sampB x)) rs H' N' (n + 4)) (hS1.at' 1 _ rfl) rfl (fun c h => by cases h) (fun c h => by cases h) ?_)
 refine E.lead { fr := [(81, iv i), (82, iv x), (11, ptA (n + 5)), (13, ptA N0)], sz := 95, H := (N, .cells cs 159) :: Hx, n := N + 1, marks := [], vs := vs60 } (.keep rfl rfl rfl (by simp [f1, f2]) (Sub.refl _)) ?_
 refine E.seq ?_
 refine E.reg hr0 (by simp; rfl) ?_
 refine E.reg hr0 (by simp; rfl) ?_
 refine ⟨rfl, hS1.at' 1 _ rfl, ?_⟩
 have hother : ∀ {l : Nat} {x : Blk} {us : List Trc} {Hy : Heap} {N' : Nat}, N0 ≤ l → MS false L n 159 110 145 (n + 5) s us rs Hy N' (n + 4) → MS false L n 159 110 145 (n + 5) s us rs (hset Hy l x) N' (n + 4) := fun {l x us Hy N'} hl h => h.other (Nat.le_refl _) (namesOk_hset h.nm) (sub_hset h.sub (by
   cases hc : hget L l with
   | none => rfl
   | some b => have := hL' _ _ hc; omega)) fun m _ _ hm => by
     rw [hget_hset, if_neg]
     rcases hm with rfl | rfl | ⟨r, hr, hm⟩
     · omega
     · omega
     · have := hrs r hr m hm; omega
 have hY := hS1.put 1 rfl (lb60 fr N0 .busy none)
 have hMY := hother (l := N0 + 6) (x := lb60 fr N0 .busy none) (by omega) hM1
 obtain ⟨Y, hYe⟩ : ∃ Y, hset ((N, Blk.cells cs 159) :: Hx) (N0 + 6) (lb60 fr N0 .busy none) = Y := ⟨_, rfl⟩
 rw [hYe] at hY hMY ⊢
 have hYlt := hY.lt
 obtain ⟨r, hr'⟩ : ∃ r, rs[i]? = some r := by
   have hi : i < us.length := (List.getElem?_eq_some_iff.1 hus).1
   exact ⟨_, List.getElem?_eq_getElem (by rw [← hMY.len]; exact hi)⟩
 have hMT := hMY.tidy fun k b h => ⟨by have := (hL k b h).1; omega, (hL k b h).2⟩
 obtain ⟨a, ca, Hz, hra, ha0, haf, hst, hMz⟩ := hMT.put hL' (b := sampB x) hus hr' hkT
 obtain ⟨X', hX'⟩ := storeA_form hst
 have hrow := hrs r (List.mem_of_getElem? hr') a.block (by rw [hra]; rfl)
 have c9 := (hMT.at9 hus hr').1
 have c5 : cellA (tidy (N + 1) Y) (n + 5) 1 = some (.slice (some ⟨n + 4, 0, none⟩) c c) := by
   rw [cellA_eq, hMT.box, ← hlen]
   rfl
 have ck : cellA (tidy (N + 1) Y) N0 0 = some (iv k) := by
   rw [cellA_eq, hget_tidy.2 ⟨hY.at' 2 _ rfl, by omega, rfl⟩]
   rfl
 have hil : i < c := by rw [← hlen]; exact (List.getElem?_eq_some_iff.1 hus).1
 have h134 : ∀ j, g134 [iv x] (frzH (tidy (N + 1) Y)) j = some (rv (sampB x), frzH (tidy (N + 1) Y), j) := fun j => if_pos hx
 rw [hra] at c9
 have hupS : Sub (hset (tidy (N + 1) Y) a.block X') (hset Y a.block X') := fun j b hj => by
   rw [hget_hset] at hj ⊢
   split
   · rename_i e
     rw [if_pos e] at hj
     rw [Option.map_eq_some_iff] at hj
     obtain ⟨z, hz1, hz2⟩ := hj
     rw [(hget_tidy.1 hz1).1]
     exact congrArg some hz2
   · rename_i e
     rw [if_neg e] at hj
     exact (hget_tidy.1 hj).1
 have hMw := (hX' ▸ hMz).wide hupS (namesOk_hset hY.nm) (Nat.le_refl _)
 have hYw := hY.write (m := a.block) (x := X') (hB _ hrow.1 hrow.2) (fun j y hy => by
   match j, hy with
   | 0, hy => simp at hy; subst hy; dsimp only; omega
   | 1, hy => simp at hy; subst hy; dsimp only; omega
   | 2, hy => simp at hy; subst hy; dsimp only; omega)
 have hNz := hMz.nm
 have hkI : (k : Int) < T.smp.length := by omega
 have l1 : n + 5 < N + 1 := by omega
 have l2 : n + 4 < N + 1 := by omega
 have l3 : N0 < N + 1 := by omega
 refine E.block ?_
 refine E.partW (H2 := hset Y a.block X') (E.drawU mixed hr [10] [8, 10] [1, 5, 6, 8, 10] (by kernel_rfl) (by simp [-cellA, -flat, -readA, -storeA, cellA_read, l1, l2, l3, c5, c9, ck, hil, hkT, haf, flat_n, ha0, h134, hst, hNz]; first | rfl | exact ⟨rfl, rfl, rfl, rfl, rfl, rfl⟩) ⟨rfl, rfl⟩) (fun j b hj => ?_) ?_
 · rw [hX']
   rcases tidy_set (n := N + 1) hYlt j b hj with h | h | ⟨rfl, h⟩
   · exact .inl h
   · exact .inr h
   · exfalso
     have := hMT.row i T r hus hr'
     rcases this.1 with ⟨e, _⟩ | ⟨m, mk, _, _, e, g⟩
     · rw [e] at hra; cases hra
     · rw [hra] at e
       have e2 : a.block = m := by
         have := congrArg nmO e
         rw [rowV_nm] at this
         injection this
       rw [e2, g] at h
       cases h
 · exact ⟨hYw.at' 1 _ rfl, .inl ⟨rfl, rfl, hYw.put 1 rfl (lb60 fr N0 .ready none), hother (by omega) hMw⟩⟩
end Go.Proofs.YtkongcnmkiihjaaGreatDoor

namespace Go.Proofs.YtkongcnmkiihjaaGreatDoor
open Go Go.Ab Go.Proofs
def blkIn : Code → Nat → Option Code
 | .block id b, k => if id = k then some (.block id b) else blkIn b k
 | .seq a b, k => match blkIn a k with
   | some x => some x
   | none => blkIn b k
 | .cond _ a b, k => match blkIn a k with
   | some x => some x
   | none => blkIn b k
 | .loop b, k => blkIn b k
 | _, _ => none
noncomputable def cBlk60 : Code := match blkIn (bodyOf' Tryz.f60) 2 with
 | some x => x
 | none => .skip
set_option maxHeartbeats 6400000 in
set_option maxRecDepth 100000 in
theorem t60 {L X0 : Heap} {n nr : Nat} {s : ByteArray} {oa : Option Addr} {c W : Nat} {ts : List Trc} {rs : List Value} {w st : Int} {Hx : Heap} {K : Ex → St → Prop}
   (hL : ∀ k b, hget L k = some b → k < n ∧ plainB2 b = true) (hLX : Sub L X0) (hX0 : ∀ k b, hget X0 k = some b → k < n + 3) (hg : hget X0 (n + 2) = some (.cells [.string s, .slice oa ts.length c, iv W] 196)) (hR : dR L) (hv : trcV L (.slice oa ts.length c) = some ts) (hok : OkS ts) (hW : (widF ts).1 = W) (hwr : 1 ≤ w ∧ w ≤ 1000000000) (hsr : 0 ≤ st ∧ st ≤ 1024)
   (hnr : n + 6 ≤ nr) (hrs : ∀ r ∈ rs, ∀ m, nmO r = some m → n + 6 ≤ m ∧ m < nr) (hXH : Sub X0 Hx) (hM : MS false L n 159 110 145 (n + 5) s (corG ts w st W (dn 0 0)) rs Hx nr (n + 4))
   (hK : ∀ Hy N ms, Sub X0 Hy → MS false L n 159 110 145 (n + 5) s (corG ts w st W (dn W 0)) rs Hy N (n + 4) → ms.Nodup → (∀ m ∈ ms, nr ≤ m ∧ hget Hy m = some .defd) → K .normal { fr := [(1, iv w), (2, iv st), (6, ptA (n + 1)), (8, ptA (n + 2)), (11, ptA (n + 5)), (72, iv W), (73, iv W)], sz := 95, H := Hy, n := N, marks := ms, vs := vs60 })
   : E Tryz.prog n none cBlk60 { fr := [(1, iv w), (2, iv st), (6, ptA (n + 1)), (8, ptA (n + 2)), (11, ptA (n + 5)), (72, iv W), (73, iv 0)], sz := 95, H := Hx, n := nr, marks := [], vs := vs60 } K := by
 have hr := recT_ok (P := Tryz.prog) (l := [(133, g133)]) (by simp [ok133])
 have hr0 := recT_ok (P := Tryz.prog) (l := []) (by simp)
 have hL' : ∀ k b, hget L k = some b → k < n := fun k b h => (hL k b h).1
 have hw0 := hok.w0
 have h64 := hok.len
 rw [hW] at hw0
 have hother : ∀ {l N : Nat} {x : Blk} {us : List Trc} {Hy : Heap}, nr ≤ l → MS false L n 159 110 145 (n + 5) s us rs Hy N (n + 4) → MS false L n 159 110 145 (n + 5) s us rs (hset Hy l x) N (n + 4) := fun {l N x us Hy} hl h => h.other (Nat.le_refl _) (namesOk_hset h.nm) (sub_hset h.sub (by
   cases hc : hget L l with
   | none => rfl
   | some b => have := hL' _ _ hc; omega)) fun m _ _ hm => by
     rw [hget_hset, if_neg]
     rcases hm with rfl | rfl | ⟨r, hr, hm⟩
     · omega
     · omega
     · have := hrs r hr m hm; omega
 refine E.block ?_
 refine E.loop ?_
 refine EL.ind (fun x : Nat × Heap × Nat × List Nat => { fr := [(1, iv w), (2, iv st), (6, ptA (n + 1)), (8, ptA (n + 2)), (11, ptA (n + 5)), (72, iv W), (73, iv x.1)], sz := 95, H := x.2.1, n := x.2.2.1, marks := x.2.2.2, vs := vs60 }) (fun x => W - x.1) (fun x => x.1 ≤ W ∧ Sub X0 x.2.1 ∧ MS false L n 159 110 145 (n + 5) s (corG ts w st W (dn x.1 0)) rs x.2.1 x.2.2.1 (n + 4) ∧ nr ≤ x.2.2.1 ∧ x.2.2.2.Nodup ∧ ∀ m ∈ x.2.2.2, nr ≤ m ∧ hget x.2.1 m = some .defd) (0, Hx, nr, []) (.keep rfl rfl rfl (by simp) (Sub.refl _)) ⟨Nat.zero_le _, hXH, hM, Nat.le_refl _, List.nodup_nil, fun m hm => by cases hm⟩ (fun _ => rfl) ?_
 rintro ⟨k, Hy, N, ms⟩ ⟨hk, hSx, hMk, hNn, hnd, hms⟩
 dsimp only at hk hSx hMk hNn hnd hms ⊢
 have hHlt : ∀ k b, hget Hy k = some b → k < N := fun k b hk => namesOk_iff.1 hMk.nm (k, b) (hget_mem _ _ _ hk)
 have hHn : ∀ j, N ≤ j → hget Hy j = none := fun j hj => by
   cases hc : hget Hy j with
   | none => rfl
   | some b => have := hHlt _ _ hc; omega
 refine E.seq ?_
 refine E.reg hr0 (by simp; rfl) ?_
 refine E.seq ?_
 by_cases hkW : k < W
 · refine E.cond (t := true) (by simp [hkW]) (fun _ => ?_) (fun h => by cases h)
   have hw1 : IntKind.i64.wrap ((k : Int) + 1) = (k : Int) + 1 := W_in (by omega) (by omega)
   refine E.skip ?_
   refine E.seq ?_
   refine E.block ?_
   refine E.seq ?_
   refine E.reg hr0 (by simp; rfl) ?_
   refine E.seq ?_
   have hld := load196 (H := (N, Blk.cells [iv k] 3) :: Hy) (n := n + 2) (s := s) (u := .slice oa ts.length c) (W := W) (by rw [hget_cons, if_neg (by omega)]; exact hSx _ _ hg)
   have hl3 : loadA Tryz.prog 3 ((N, Blk.cells [iv k] 3) :: Hy) (.pointer (some ⟨N, 0, none⟩)) = some (iv k) := by simp
   refine E.reg hr (by simp [-loadA, hld, hl3, g133]; rfl) ?_
   refine E.block ?_
   refine E.lead { fr := fr60 n N w st W k, sz := 95, H := (N + 4, .cells [iv st] 3) :: (N + 3, .cells [iv w] 3) :: (N + 2, .cells [iv k] 3) :: (N + 1, .cells [.string s, .slice oa ts.length c, iv W] 196) :: (N, .cells [iv k] 3) :: Hy, n := N + 5, marks := ms, vs := vs60 } (.keep rfl rfl rfl (by simp) (Sub.refl _)) ?_
   refine E.rangeX (x := asg60) (y := bdy60) rfl ent169 ?_
   obtain ⟨fr, hfr⟩ : ∃ fr, fr60 n N w st W k = fr := ⟨_, rfl⟩
   have hfl : lk fr 11 = some (ptA (n + 5)) ∧ lk fr 13 = some (ptA N) := by rw [← hfr]; exact ⟨rfl, rfl⟩
   obtain ⟨B, hB⟩ : ∃ B, (N + 4, Blk.cells [iv st] 3) :: (N + 3, .cells [iv w] 3) :: (N + 2, .cells [iv k] 3) :: (N + 1, .cells [.string s, .slice oa ts.length c, iv W] 196) :: marksB ms X0 = B := ⟨_, rfl⟩
   have hX0B : Sub X0 B := by
     intro j b hj
     have h1 := hX0 _ _ hj
     have h2 : hget (marksB ms X0) j = some b := by
       cases hc : hget (marksB ms X0) j with
       | none =>
         exfalso
         have : ∀ (ms : List Nat), j ∉ ms → hget (marksB ms X0) j = hget X0 j := fun ms => by
           induction ms with
           | nil => intro _; rfl
           | cons m ms ih =>
             intro hm
             rw [marksB, List.map_cons, List.cons_append, hget_cons, if_neg fun e => hm (by rw [← e]; exact List.mem_cons_self ..)]
             exact ih fun h => hm (List.mem_cons_of_mem _ h)
         rw [this ms fun h => by have := (hms _ h).1; omega, hj] at hc
         cases hc
       | some y =>
         rcases marksB_get hc with ⟨h, _⟩ | ⟨_, h⟩
         · have := (hms _ h).1; omega
         · rw [hj] at h; exact h.symm ▸ rfl
     rw [← hB, hget_cons, if_neg (by omega), hget_cons, if_neg (by omega), hget_cons, if_neg (by omega), hget_cons, if_neg (by omega)]
     exact h2
   have hBcase : ∀ j b, hget B j = some b → (N + 1 ≤ j ∧ j < N + 5) ∨ (j ∈ ms ∧ b = .defd) ∨ hget X0 j = some b := fun j b hj => by
     rw [← hB, hget_cons, hget_cons, hget_cons, hget_cons] at hj
     split at hj
     · exact .inl (by omega)
     split at hj
     · exact .inl (by omega)
     split at hj
     · exact .inl (by omega)
     split at hj
     · exact .inl (by omega)
     · rcases marksB_get hj with h | ⟨_, h⟩
       · exact .inr (.inl h)
       · exact .inr (.inr h)
   have hBlt : ∀ j b, hget B j = some b → j < N + 7 := fun j b hj => by
     rcases hBcase j b hj with h | ⟨h, _⟩ | h
     · omega
     · have := hHlt _ _ (hms _ h).2; omega
     · have := hX0 _ _ h; omega
   have hBn : ∀ j, n + 3 ≤ j → j ∉ ms → (j < N + 1 ∨ N + 5 ≤ j) → hget B j = none := fun j h1 h2 h3 => by
     cases hc : hget B j with
     | none => rfl
     | some b =>
       rcases hBcase j b hc with h | ⟨h, _⟩ | h
       · omega
       · exact absurd h h2
       · have := hX0 _ _ h; omega
   have hmN : ∀ j, N ≤ j → j ∉ ms := fun j hj h => by have := hHlt _ _ (hms _ h).2; omega
   obtain ⟨Z, hZ⟩ : ∃ Z, (N + 4, Blk.cells [iv st] 3) :: (N + 3, .cells [iv w] 3) :: (N + 2, .cells [iv k] 3) :: (N + 1, .cells [.string s, .slice oa ts.length c, iv W] 196) :: (N, .cells [iv k] 3) :: Hy = Z := ⟨_, rfl⟩
   have hMZ : MS false L n 159 110 145 (n + 5) s (corG ts w st W (dn k 0)) rs Z (N + 5) (n + 4) := by
     rw [← hZ]
     exact ((((hMk.skip hL' _).skip hL' _).skip hL' _).skip hL' _).skip hL' _
   have hZ0 : hget Z N = some (.cells [iv k] 3) := by rw [← hZ]; simp
   have hHZ : Sub Hy Z := by
     intro j b hj
     have := hHlt _ _ hj
     rw [← hZ, hget_cons, if_neg (by omega), hget_cons, if_neg (by omega), hget_cons, if_neg (by omega), hget_cons, if_neg (by omega), hget_cons, if_neg (by omega)]
     exact hj
   have hBZ : Sub B Z := by
     intro j b hj
     by_cases h1 : N + 1 ≤ j
     · rw [← hB, hget_cons, hget_cons, hget_cons, hget_cons] at hj
       rw [← hZ, hget_cons, hget_cons, hget_cons, hget_cons]
       split
       · rename_i e; rw [if_pos e] at hj; exact hj
       rename_i e1; rw [if_neg e1] at hj
       split
       · rename_i e; rw [if_pos e] at hj; exact hj
       rename_i e2; rw [if_neg e2] at hj
       split
       · rename_i e; rw [if_pos e] at hj; exact hj
       rename_i e3; rw [if_neg e3] at hj
       split
       · rename_i e; rw [if_pos e] at hj; exact hj
       rename_i e4; rw [if_neg e4] at hj
       rcases marksB_get hj with ⟨h, _⟩ | ⟨_, h⟩
       · exact absurd h (hmN j (by omega))
       · have := hX0 _ _ h; omega
     · rcases hBcase j b hj with h | ⟨h, rfl⟩ | h
       · omega
       · exact hHZ _ _ (hms _ h).2
       · exact hHZ _ _ (hSx _ _ h)
   have hZlt : ∀ j b, hget Z j = some b → j < N + 5 := fun j b hj => namesOk_iff.1 hMZ.nm (j, b) (hget_mem _ _ _ hj)
   let I : Nat → Heap → Nat → Prop := fun i H N' => Kp B (N + 7) (fs60 fr N k .ready none) H N' ∧ MS false L n 159 110 145 (n + 5) s (corG ts w st W (dn k i)) rs H N' (n + 4)
   have hstart : I 0 ((N + 6, lb60 fr N .ready none) :: (N + 5, .defd) :: Z) (N + 7) := by
     have hs0 : Sub B ((N + 6, lb60 fr N .ready none) :: (N + 5, .defd) :: Z) := fun j b hj => by
       have := hZlt _ _ (hBZ _ _ hj)
       rw [hget_cons, if_neg (by omega), hget_cons, if_neg (by omega)]
       exact hBZ _ _ hj
     refine ⟨?_, (hMZ.skip hL' _).skip hL' _⟩
     refine (((Kp.start hBlt hs0 (namesOk_put (by omega) (namesOk_put (by omega) (namesOk_mono (by omega) _ hMZ.nm))) (Nat.le_refl _)).more (l := N) (c := .cells [iv k] 3) ?_ (by omega) (hBn _ (by omega) (hmN _ (by omega)) (by omega)) (by simp)).more (l := N + 6) (c := lb60 fr N .ready none) (by simp) (by omega) (hBn _ (by omega) (hmN _ (by omega)) (by omega)) (by simp)).more (l := N + 5) (c := .defd) (by simp) (by omega) (hBn _ (by omega) (hmN _ (by omega)) (by omega)) (by simp)
     rw [hget_cons, if_neg (by omega), hget_cons, if_neg (by omega)]
     exact hZ0
   obtain ⟨v', H', n', hAC, hend⟩ := it169 (B := B) (l := N + 6) (kb := N + 1) (k1 := N + 2) (k2 := N + 3) (k3 := N + 4) (s := s) (t := (k : Int)) (w := w) (st := st) (by rw [← hB, hW]; simp) (by rw [← hB]; simp) (by rw [← hB]; simp) (by rw [← hB]; simp) (hX0B _ _ (hLX _ _ hR)) (listV_mono decT_mono (hLX.trans hX0B) hv) hok (by omega) hwr hsr I (fun _ _ => False) (fun i H N h => h.1.sub) (fun i H N h => h.1.nm)
     (fun i H N' cs hi h hd => ⟨h.1.skip _, by rw [← corG_dead hd]; exact h.2.skip hL' _⟩)
     (fun i Hq N' cs b hi hI hlv hh hb => by
       have hx : six32 b = smpN ts k w (i : Int) := by
         unfold smpN
         rw [Int.toNat_natCast, List.getElem?_eq_getElem hi]
         dsimp only
         rw [List.getD_eq_getElem?_getD, hb]
         rfl
       have hxa := smpN_abs hok (k : Int) w (i : Int)
       have hcb : sampB (six32 b) = corB ts w st k i := by
         unfold corB
         rw [if_pos hlv, hx]
       have hcg := corG_at (w := w) (st := st) (W := W) (d := dn k i) (List.getElem?_eq_getElem hi)
       rw [hh] at hcg
       obtain ⟨r, bb, H2, N2, h1, h2, h3, h4, h5⟩ := yield60 (ts := ts) (cs := cs) (i := i) (x := six32 b) (c := ts.length) hL hfl hI.1 hI.2 (fun m hm1 hm2 => hBn m (by omega) (fun h => by have := (hms _ h).1; omega) (by omega)) ⟨hnr, hNn⟩ hrs hcg (by rw [hx]; omega) (by simp; exact hkW) corG_len (by simp; omega) (by omega)
       subst h3
       rw [hcb, corG_live hi hh] at h5
       exact ⟨r, true, H2, N2, h1, h2, by rw [if_pos rfl]; exact ⟨h4, h5⟩⟩)
     (H := (N + 6, lb60 fr N .ready none) :: (N + 5, .defd) :: Z) (n := N + 7) hstart
   rw [hZ, hfr]
   refine ⟨v', H', n', hAC, ?_⟩
   rcases hend with ⟨hI, hMe⟩ | hI
   rotate_left
   · exact hI.elim
   refine .inl ⟨hI.at' 1 _ rfl, ?_⟩
   have hY := hI.put 1 rfl (lb60 fr N .exhausted none)
   have hYb := hI.big
   have hMY := hother (l := N + 6) (x := lb60 fr N .exhausted none) (by omega) hMe
   show E Tryz.prog n none _ { fr := fr, sz := 95, H := hset H' (N + 6) (lb60 fr N .exhausted none), n := n', marks := (N + 5) :: ms, vs := vs60 } _
   obtain ⟨Y, hYe⟩ : ∃ Y, hset H' (N + 6) (lb60 fr N .exhausted none) = Y := ⟨_, rfl⟩
   rw [hYe] at hY hMY ⊢
   rw [← hfr]
   refine E.reg hr0 (by simp [hw1]; rfl) ?_
   rw [corG_next] at hMY
   refine ⟨(k + 1, Y, n', (N + 5) :: ms), .keep rfl rfl rfl (by simp) (Sub.refl _), ⟨by omega, hX0B.trans hY.sub, hMY, (by show nr ≤ n'; omega), List.nodup_cons.2 ⟨hmN _ (by omega), hnd⟩, fun m hm => ?_⟩, by dsimp only; omega⟩
   rcases List.mem_cons.1 hm with rfl | hm
   · exact ⟨by omega, hY.at' 0 _ rfl⟩
   · refine ⟨(hms m hm).1, hY.sub _ _ ?_⟩
     have h1 := hHlt _ _ (hms m hm).2
     rw [← hB, hget_cons, if_neg (by omega), hget_cons, if_neg (by omega), hget_cons, if_neg (by omega), hget_cons, if_neg (by omega)]
     have : ∀ (ms : List Nat), m ∈ ms → hget (marksB ms X0) m = some .defd := fun ms => by
       induction ms with
       | nil => intro h; cases h
       | cons j ms ih =>
         intro h
         rw [marksB, List.map_cons, List.cons_append, hget_cons]
         split
         · rfl
         · rename_i e
           rcases List.mem_cons.1 h with h | h
           · exact absurd h.symm e
           · exact ih h
     exact this ms hm
 · have hk' : k = W := by omega
   subst hk'
   refine E.cond (t := false) (by simp) (fun h => by cases h) (fun _ => ?_)
   refine E.lead { fr := [(1, iv w), (2, iv st), (6, ptA (n + 1)), (8, ptA (n + 2)), (11, ptA (n + 5)), (72, iv k), (73, iv k)], sz := 95, H := Hy, n := N, marks := ms, vs := vs60 } (.keep rfl rfl rfl (by simp) (Sub.refl _)) ?_
   refine E.exit ?_
   exact hK Hy N ms hSx hMk hnd hms
end Go.Proofs.YtkongcnmkiihjaaGreatDoor

namespace Go.Proofs.YtkongcnmkiihjaaGreatDoor
open Go Go.Ab Go.Proofs
theorem tcs_hole {ts : List Trc} {rs : List Value} (i : Nat) {x : Trc} {r : Value} (hx : ts[i]? = some x) (hr : rs[i]? = some r) (h8 : ∀ x ∈ ts, x.hd.length = 8) : (tcs ts rs)[i * 10 + 8]? = some (.bool x.hole) := by
 have h2 := tcs_at i hx hr h8
 have h := h8 x (List.mem_of_getElem? hx)
 have : (tcs ts rs)[i * 10 + 8]? = (tc x r)[8]? := by rw [← h2, List.getElem?_take, if_pos (by decide), List.getElem?_drop]
 rw [this, tc, List.getElem?_append_right (by rw [List.length_map]; omega), List.length_map, h]
 rfl
theorem corG_zero {ts : List Trc} {w st : Int} {W : Nat} {i : Nat} {x : Trc} (h : ts[i]? = some x) : (corG ts w st W (dn 0 0))[i]? = some ⟨x.hd, x.hole, if x.hole then [] else List.replicate W 0⟩ := by
 rw [corG_at h]
 congr 2
 split
 · rfl
 · refine List.eq_replicate_iff.2 ⟨by simp, fun b hb => ?_⟩
   obtain ⟨t, _, rfl⟩ := List.mem_map.1 hb
   simp [dn]
theorem shut_nm {N : Nat} : ∀ (ms : List Nat) {H H2 : Heap}, shutA ms H = some H2 → namesOk N H = true → namesOk N H2 = true
 | [], H, H2, h, hn => by
   unfold shutA at h
   injection h with h
   rw [← h]; exact hn
 | m :: ms, H, H2, h, hn => by
   unfold shutA at h
   split at h
   · exact shut_nm ms h (namesOk_hdel hn)
   · cases h
abbrev fs60a (n : Nat) (s : ByteArray) (L : Nat) (ts : List Trc) (rs : List Value) : List (Nat × Blk) := [(n + 5, .cells [.string s, .slice (some ⟨n + 4, 0, none⟩) L L] 110), (n + 4, .cells (tcs ts rs) 159)]
set_option maxHeartbeats 6400000 in
set_option maxRecDepth 100000 in
theorem w60 {H : Heap} {n : Nat} {v : Value} {s : ByteArray} {ts : List Trc} {w st : Int} (hR : dR H) (hv : shtV H v = some (s, ts)) (hlt : ∀ k b, hget H k = some b → k < n) (h9 : 9 ≤ n) : ∃ u H' n', AC Tryz.prog 60 [v, iv w, iv st] H n (.tuple #[u, iv (corE s ts w st)]) H' n' ∧ MadeS H n H' n' u (corR s ts w st) := by
 replace hv := shtV_tidy (n := n) hlt hv
 have h1n : 1 < n := by omega
 replace hR : hget (tidy n H) 1 = some (.inp 0 rangesV) := hget_tidy.2 ⟨hR, h1n, rfl⟩
 have hr := recT_ok (P := Tryz.prog) (l := [(131, g131), (92, g92), (98, g98), (90, g90)]) (by simp only [List.forall_mem_cons]; exact ⟨ok131, ok92, ok98, ok90, by simp⟩)
 have hr0 := recT_ok (P := Tryz.prog) (l := []) (by simp)
 have hv0 := hv
 obtain ⟨u, rfl, ht⟩ := shtV_form hv
 obtain ⟨oa, c, rfl, hlt31, _, _⟩ := trcV_form ht
 have hT : ∀ j, n ≤ j → hget (tidy n H) j = none := fun j hj => by
   cases hc : hget (tidy n H) j with
   | none => rfl
   | some b => exact absurd (tidy_lt _ _ hc) (by omega)
 have hTp : ∀ k b, hget (tidy n H) k = some b → k < n ∧ plainB2 b = true := fun k b hk => ⟨(hget_tidy.1 hk).2.1, (hget_tidy.1 hk).2.2⟩
 have hTl : ∀ k b, hget (tidy n H) k = some b → k < n := fun k b hk => (hTp k b hk).1
 have hRL : corR s ts w st = if corE s ts w st = 0 then (s, corG ts w st (widN ts) (dn (widN ts) 0)) else (⟨#[]⟩, []) := rfl
 have hE : corE s ts w st = firstV [shtE s ts, velV w, withinV st 0 1024] := rfl
 have hsh : shtE s ts = 0 → OkS ts := shtE_ok
 obtain ⟨x0, hx0⟩ : ∃ x, corR s ts w st = x := ⟨_, rfl⟩
 rw [hx0] at hRL ⊢
 obtain ⟨s', ts'⟩ := x0
 have hlens : ts'.length < 2147483648 ∧ ∀ x ∈ ts', x.smp.length < 2147483648 := by
   by_cases hz : corE s ts w st = 0
   · rw [if_pos hz] at hRL
     injection hRL with h1 h2
     subst h1 h2
     have hok := hsh (firstc (hE.symm.trans hz)).1
     refine ⟨by rw [corG_len]; omega, fun x hx => ?_⟩
     obtain ⟨i, hi, rfl⟩ := List.getElem_of_mem hx
     rw [corG_len] at hi
     have := corG_at (w := w) (st := st) (W := widN ts) (d := dn (widN ts) 0) (List.getElem?_eq_getElem hi)
     rw [List.getElem?_eq_getElem (by rw [corG_len]; exact hi)] at this
     injection this with this
     rw [this]
     dsimp only
     have hw0 := hok.w0
     have : widN ts ≤ 1024 := by unfold widN; omega
     split
     · simp
     · simp; omega
   · rw [if_neg hz] at hRL
     injection hRL with h1 h2
     subst h1 h2
     exact ⟨by simp, by simp⟩
 refine made_sht (vf := fun u => .tuple #[u, iv (corE s ts w st)]) Tryz.func60 rfl (by kernel_rfl) rfl vs60 hlt (fun u => by cases u <;> simp [af, afL]) hlens.1 hlens.2 ?_
 have hWd : widE s ts = if shtE s ts = 0 then (widF ts).1 else 0 := rfl
 obtain ⟨X, hX⟩ : ∃ X, (n + 1, Blk.cells [.string ⟨#[]⟩, .slice none 0 0] 110) :: (n, Blk.cells [.string s, .slice oa ts.length c] 110) :: tidy n H = X := ⟨_, rfl⟩
 have hS : Sub (tidy n H) X := by rw [← hX]; exact (Sub.cons (hT _ (Nat.le_refl _)) (Sub.refl _)).trans (Sub.cons (by rw [hget_cons, if_neg (by omega)]; exact hT _ (by omega)) (Sub.refl _))
 have hnm : namesOk (n + 2) X = true := by rw [← hX]; exact namesOk_put (by omega) (namesOk_put (by omega) (by simp))
 have hbx : hget X n = some (.cells [.string s, .slice oa ts.length c] 110) := by rw [← hX, hget_cons, if_neg (by omega), hget_cons, if_pos rfl]
 have hbr : hget X (n + 1) = some (.cells [.string ⟨#[]⟩, .slice none 0 0] 110) := by rw [← hX, hget_cons, if_pos rfl]
 have hXlt : ∀ k b, hget X k = some b → k < n + 2 := fun k b hk => namesOk_iff.1 hnm (k, b) (hget_mem _ _ _ hk)
 have hXn : ∀ j, n + 2 ≤ j → hget X j = none := fun j hj => by
   cases hc : hget X j with
   | none => rfl
   | some b => exact absurd (hXlt _ _ hc) (by omega)
 have hld := load110 hbx
 have hRX : dR X := hS _ _ hR
 have h131 : ∀ m, g131 [.agg ⟨[.string s, .slice oa ts.length c]⟩] X m = some (.tuple #[.agg ⟨[.string s, .slice oa ts.length c, iv (widE s ts)]⟩, iv (shtE s ts)], X, m) := fun m => by
   simp only [g131, shtV_mono hS hv0, hRX, and_self, if_true]
 obtain ⟨W, hW⟩ : ∃ W, widE s ts = W := ⟨_, rfl⟩
 obtain ⟨e0, he0⟩ : ∃ e, shtE s ts = e := ⟨_, rfl⟩
 obtain ⟨el, hel⟩ : ∃ e, corE s ts w st = e := ⟨_, rfl⟩
 rw [hW] at h131 hWd
 rw [he0] at h131 hE hsh hWd
 rw [hel] at hE hRL ⊢
 have hI3 : ∀ (N : Nat) (Y : Heap) m, g90 [.slice (some ⟨N, 0, none⟩) 3 3] ((N, .cells [iv e0, iv (velV w), iv (withinV st 0 1024)] 29) :: Y) m = some (iv el, (N, .cells [iv e0, iv (velV w), iv (withinV st 0 1024)] 29) :: Y, m) := fun N Y m => by
   simp [g90, intsAt, intsOf, hE]
 refine E.seq ?_
 refine E.reg hr (by simp; rfl) ?_
 rw [hX]
 refine E.seq ?_
 refine E.reg hr (by simp [-loadA, hld, h131]; rfl) ?_
 refine E.seq ?_
 refine E.seq ?_
 have h92 : ∀ Y m, g92 [iv w] Y m = some (iv (velV w), Y, m) := fun _ _ => rfl
 have h98 : ∀ Y m, g98 [iv st] Y m = some (iv (withinV st 0 1024), Y, m) := fun _ _ => rfl
 refine E.reg hr (by simp [h92, h98, hI3]; rfl) ?_
 obtain ⟨G, hG⟩ : ∃ G, (n + 2, Blk.cells [.string s, .slice oa ts.length c, iv W] 196) :: X = G := ⟨_, rfl⟩
 have hXG : Sub X G := by rw [← hG]; exact Sub.cons (hXn _ (Nat.le_refl _)) (Sub.refl _)
 have hSG := hS.trans hXG
 have hGnm : namesOk (n + 3) G = true := by rw [← hG]; exact namesOk_put (by omega) (namesOk_mono (by omega) _ hnm)
 have hGlt : ∀ k b, hget G k = some b → k < n + 3 := fun k b hk => namesOk_iff.1 hGnm (k, b) (hget_mem _ _ _ hk)
 have hGb : hget G (n + 2) = some (.cells [.string s, .slice oa ts.length c, iv W] 196) := by rw [← hG, hget_cons, if_pos rfl]
 have hGr := hXG _ _ hbr
 have hGx := hXG _ _ hbx
 have hGn : ∀ j, n + 3 ≤ j → hget G j = none := fun j hj => by
   cases hc : hget G j with
   | none => rfl
   | some b => exact absurd (hGlt _ _ hc) (by omega)
 refine E.lead { fr := [(1, iv w), (2, iv st), (3, ptA n), (6, ptA (n + 1)), (8, ptA (n + 2)), (10, iv el)], sz := 95, H := G, n := n + 4, marks := [], vs := vs60 } (.keep rfl rfl rfl (by simp) (by rw [← hG]; exact Sub.cons (by rw [hget_cons, if_neg (by omega)]; exact hXn _ (by omega)) (Sub.refl _))) ?_
 refine E.seq ?_
 refine E.reg hr0 (by simp; rfl) ?_
 by_cases hz : el = 0
 rotate_left
 · rw [if_neg hz] at hRL
   injection hRL with g1 g2
   subst g1 g2
   have hst : storeA G (n + 1) 0 [.string ⟨#[]⟩, .slice none 0 0] = some (hset G (n + 1) (.cells [.string ⟨#[]⟩, .slice none 0 0] 110)) := store_all hGr rfl
   have hfin := load110 (H := hset G (n + 1) (.cells [.string ⟨#[]⟩, .slice none 0 0] 110)) (n := n + 1) (s := ⟨#[]⟩) (u := .slice none 0 0) (by rw [hget_hset, if_pos rfl, hGr]; rfl)
   refine E.cond (t := true) (by simp [hz]) (fun _ => ?_) (fun h => by cases h)
   refine E.seq ?_
   refine E.reg hr0 (by simp [-storeA, build110z, hst]; rfl) ?_
   refine E.ret ?_
   show Ab.outM Tryz.prog Tryz.f60 (fun v Z N => ∃ F t tb tf kb rs o, v = .tuple #[.agg ⟨[.string ⟨#[]⟩, outrV F o 0]⟩, iv el] ∧ (([] : List Trc) = [] → F = true) ∧ MS F (tidy n H) n t tb tf kb ⟨#[]⟩ [] rs Z N o) .ret _
   refine outM.ret (hset G (n + 1) (.cells [.string ⟨#[]⟩, .slice none 0 0] 110)) rfl (vs := [.agg ⟨[.string ⟨#[]⟩, .slice none 0 0]⟩, iv el]) (by simp [-loadA, resultsA, resultA, Tryz.results60, hfin]) ⟨true, 0, 110, 0, n + 1, [], n, rfl, fun _ => rfl, sub_hset hSG (hT _ (by omega)), namesOk_hset (namesOk_mono (n := n + 3) (m := n + 4) (by omega) _ hGnm), by show n ≤ n + 4; omega, rfl, by simp, fun h => absurd rfl h, ?_, by show n ≤ n + 1 ∧ n + 1 < n + 4; omega, fun i x r hx => by simp at hx, fun i j r q _ hr => by simp at hr⟩
   rw [hget_hset, if_pos rfl, hGr]
   rfl
 rw [if_pos hz] at hRL
 injection hRL with g1 g2
 have g1 := g1.symm
 subst g1 g2
 rw [hz] at hE
 obtain ⟨f1, f2, f3⟩ := firstc hE.symm
 rw [if_pos f1] at hWd
 have hok := hsh f1
 have g3 : 1 ≤ w ∧ w ≤ 1000000000 := within_zero f2
 have g4 := within_zero f3
 have hw0 := hok.w0
 have h64 := hok.len
 obtain ⟨M, hM⟩ : ∃ M, widN ts = M := ⟨_, rfl⟩
 have hMW : W = (M : Int) := by rw [← hM, hWd]; unfold widN; omega
 have hM1024 : M ≤ 1024 := by omega
 have hne : ts ≠ [] := fun e => by rw [e] at h64; simp at h64
 rw [hM]
 rw [hMW] at hGb
 obtain ⟨a, ha⟩ : ∃ a, oa = some a := by
   obtain ⟨_, _, e, _, _, hrow⟩ := trcV_form ht
   injection e with e1 e2 e3
   obtain ⟨a, q, e, _⟩ := hrow 0 (by omega)
   exact ⟨a, e1.trans e⟩
 subst ha
 obtain ⟨hfa, qs, hql, hqc, hq8, hqr⟩ := trc_cells_all ht hne
 have hqs : ∀ r ∈ qs, isS r = true := fun r hr => by
   obtain ⟨i, hi, rfl⟩ := List.getElem_of_mem hr
   obtain ⟨oq, cq, e, _⟩ := reaV_form (hqr i _ ts[i] (List.getElem?_eq_getElem hi) (List.getElem?_eq_getElem (by omega)))
   rw [e]; rfl
 refine E.cond (t := false) (by simp [hz]) (fun h => by cases h) (fun _ => ?_)
 refine E.skip ?_
 refine E.seq ?_
 have hc0 : cellA G n 0 = some (.string s) := by rw [cellA_eq, hGx]; rfl
 have hc1 : cellA G n 1 = some (.slice (some a) ts.length c) := by rw [cellA_eq, hGx]; rfl
 have hGnm4 : namesOk (n + 4) G = true := namesOk_mono (by omega) _ hGnm
 have hGnm5 : namesOk (n + 4 + 1) G = true := namesOk_mono (by omega) _ hGnm
 have hGnm6 : namesOk (n + 4 + 1 + 1) G = true := namesOk_mono (by omega) _ hGnm
 have hmk := fun (fr : Fr) (H : Heap) (m : Nat) (h : evO Tryz.prog fr (.tmp 36) = some (iv ts.length)) => mk108' (fr := fr) (H := H) (n := m) (x := .tmp 36) (y := .tmp 36) h64.2 h h
 have hbd := fun (fr : Fr) (H : Heap) (m : Nat) (h1 : evO Tryz.prog fr (.tmp 33) = some (.string s)) (h2 : evO Tryz.prog fr (.tmp 37) = some (.slice (some ⟨n + 4, 0, none⟩) ts.length ts.length)) => build110 (fr := fr) (H := H) (n := m) h1 h2
 refine E.drawU mixed hr0 [8] [5, 7, 8] [1, 3, 5, 8] (by kernel_rfl) (by simp [-cellA, -readA, cellA_read, hGnm4, hGnm6, hc0, hc1, hmk, hbd]; rfl) ?_
 obtain ⟨G5, hG5⟩ : ∃ G5, (n + 5, Blk.cells [.string s, .slice (some ⟨n + 4, 0, none⟩) ts.length ts.length] 110) :: (n + 4, .cells (zs108 ts.length) 159) :: G = G5 := ⟨_, rfl⟩
 have hGG5 : Sub G G5 := by
   intro k b hk
   have := hGlt _ _ hk
   rw [← hG5, hget_cons, if_neg (by omega), hget_cons, if_neg (by omega)]
   exact hk
 have hn5 : namesOk (n + 6) G5 = true := by rw [← hG5]; exact namesOk_put (by omega) (namesOk_put (by omega) (namesOk_mono (by omega) _ hGnm))
 have h5b : hget G5 (n + 5) = some (.cells [.string s, .slice (some ⟨n + 4, 0, none⟩) ts.length ts.length] 110) := by rw [← hG5]; simp
 have h5z : hget G5 (n + 4) = some (.cells (zs108 ts.length) 159) := by rw [← hG5]; simp
 refine E.lead { fr := [(1, iv w), (2, iv st), (3, ptA n), (6, ptA (n + 1)), (8, ptA (n + 2)), (11, ptA (n + 5))], sz := 95, H := G5, n := n + 6, marks := [], vs := vs60 } (.keep rfl rfl rfl (by simp) (by rw [← hG5]; exact Sub.refl _)) ?_
 have d1 : cellA G5 (n + 5) 1 = some (.slice (some ⟨n + 4, 0, none⟩) ts.length ts.length) := by rw [cellA_eq, h5b]; rfl
 have d2 : cellA G5 n 1 = some (.slice (some a) ts.length c) := by rw [cellA_eq, hGG5 _ _ hGx]; rfl
 have hcp := fun m => copy108 (Y := G5) (o := n + 4) (m := m) (c := c) (a := a) (ts := ts) (rs := qs) (zs := zs108 ts.length) hfa hne h5z (zs108_len _) hql hq8 ((hSG.trans hGG5).cells hqc) hqs
 refine E.seq ?_
 refine E.reg hr0 (by simp [-cellA, -builtinA, d1, d2, hcp]; rfl) ?_
 have hkp : Kp G (n + 6) (fs60a n s ts.length ts qs) (hset G5 (n + 4) (.cells (tcs ts qs) 159)) (n + 6) :=
   (((Kp.start (fun k b hk => by have := hGlt _ _ hk; omega) hGG5 hn5 (Nat.le_refl _)).more h5z (by omega) (hGn _ (by omega)) (by simp)).more h5b (by omega) (hGn _ (by omega)) (by simp)).put 1 rfl (.cells (tcs ts qs) 159)
 obtain ⟨G6, hG6⟩ : ∃ G6, hset G5 (n + 4) (.cells (tcs ts qs) 159) = G6 := ⟨_, rfl⟩
 rw [hG6] at hkp ⊢
 have e1 : cellA G6 (n + 5) 1 = some (.slice (some ⟨n + 4, 0, none⟩) ts.length ts.length) := hkp.cell 0 rfl 1
 refine E.seq ?_
 refine E.seq ?_
 refine E.reg hr0 (by simp [-cellA, e1]; rfl) ?_
 refine E.block ?_
 refine E.loop ?_
 refine EL.ind (fun x : Nat × Heap × Nat × List Value => { fr := [(1, iv w), (2, iv st), (6, ptA (n + 1)), (8, ptA (n + 2)), (11, ptA (n + 5)), (46, iv ts.length), (47, iv x.1)], sz := 95, H := x.2.1, n := x.2.2.1, marks := [], vs := vs60 }) (fun x => ts.length - x.1) (fun x => x.1 ≤ ts.length ∧ Kp G (n + 6) (fs60a n s ts.length ts x.2.2.2) x.2.1 x.2.2.1 ∧ RP (n + 6) ts M x.1 x.2.2.2 x.2.1 x.2.2.1) (0, G6, n + 6, qs) (.keep rfl rfl rfl (by simp) (Sub.refl _)) ⟨Nat.zero_le _, hkp, RP.start hql⟩ (fun _ => rfl) ?_
 rintro ⟨i, Hx, N, rs⟩ ⟨hi, hK, hP⟩
 dsimp only at hi hK hP ⊢
 have hbig := hK.big
 have hw : IntKind.i64.wrap ((i : Int) + 1) = (i : Int) + 1 := W_in (by omega) (by omega)
 refine E.seq ?_
 refine E.reg hr0 (by simp; rfl) ?_
 refine E.seq ?_
 by_cases hil : i < ts.length
 · refine E.cond (t := true) (by simp [hil]) (fun _ => ?_) (fun h => by cases h)
   have hir : i < rs.length := by rw [← hP.len]; exact hil
   have hlen10 := tcs_len hP.len hq8
   have hi9 : i * 10 + 9 < (tcs ts rs).length := by omega
   have c1 : cellA Hx (n + 5) 1 = some (.slice (some ⟨n + 4, 0, none⟩) ts.length ts.length) := hK.cell 0 rfl 1
   have s1 := store_at (v := .slice none 0 0) (hK.at' 1 _ rfl) hi9
   rw [tcs_set i hP.len hq8 hil] at s1
   have hK1 := hK.put 1 rfl (.cells (tcs ts (rs.set i (.slice none 0 0))) 159)
   have hP1 := hP.next (N' := N) (Hy := hset Hx (n + 4) (.cells (tcs ts (rs.set i (.slice none 0 0))) 159)) (v := .slice none 0 0) (x := ⟨ts[i].hd, true, []⟩)
   obtain ⟨Hy, hHy⟩ : ∃ Hy, hset Hx (n + 4) (.cells (tcs ts (rs.set i (.slice none 0 0))) 159) = Hy := ⟨_, rfl⟩
   rw [hHy] at s1 hK1
   have c2 : cellA Hy (n + 5) 1 = some (.slice (some ⟨n + 4, 0, none⟩) ts.length ts.length) := hK1.cell 0 rfl 1
   have c3 : cellA Hy (n + 4) (i * 10 + 8) = some (.bool ts[i].hole) := by
     have : cellA Hy (n + 4) (i * 10 + 8) = _ := hK1.cell 1 rfl (i * 10 + 8)
     rw [this]
     exact tcs_hole i (List.getElem?_eq_getElem hil) (List.getElem?_eq_getElem (by rw [List.length_set]; exact hir)) hq8
   have hkeep : ∀ m b, n + 6 ≤ m → m < N → hget Hx m = some b → hget Hy m = some b := fun m b h1 h2 h3 => by
     rw [← hHy, hget_hset, if_neg (by omega)]; exact h3
   refine E.skip ?_
   refine E.seq ?_
   refine E.block ?_
   refine E.seq ?_
   refine E.reg hr0 (by simp; rfl) ?_
   refine E.seq ?_
   refine E.reg hr0 (by simp [-cellA, -storeA, c1, hil, s1]; rfl) ?_
   refine E.seq ?_
   refine E.reg hr0 (by simp [-cellA, c2, hil, c3]; rfl) ?_
   cases hho : ts[i].hole with
   | true =>
     refine E.cond (t := false) (by simp) (fun h => by cases h) (fun _ => ?_)
     refine E.skip ?_
     refine E.reg hr0 (by simp [hw]; rfl) ?_
     exact ⟨(i + 1, Hy, N, rs.set i (.slice none 0 0)), .keep rfl rfl rfl (by simp) (Sub.refl _), ⟨hil, hK1, hP.next (List.getElem?_eq_getElem hil) (Nat.le_refl _) hkeep (by rw [hho]; exact .inl ⟨rfl, rfl⟩) (fun m h => by cases h)⟩, by dsimp only; omega⟩
   | false =>
     refine E.cond (t := true) (by simp) (fun _ => ?_) (fun h => by cases h)
     have hlen10' : (tcs ts (rs.set i (.slice none 0 0))).length = ts.length * 10 := tcs_len (by rw [List.length_set]; exact hP.len) hq8
     have hK2 := hK1.skip (.cells ((List.replicate M 0).map rv) 145)
     have s2 := store_at (v := .slice (some ⟨N, 0, none⟩) M M) (hK2.at' 1 _ rfl) (i := i * 10 + 9) (by omega)
     rw [tcs_set i (by rw [List.length_set]; exact hP.len) hq8 hil, List.set_set] at s2
     have hK3 := hK2.put 1 rfl (.cells (tcs ts (rs.set i (.slice (some ⟨N, 0, none⟩) M M))) 159)
     have hnmy := hK1.nm
     have hN4 : ¬ N = n + 4 := by omega
     have hcons : ∀ x, hset ((N, Blk.cells ((List.replicate M 0).map rv) 145) :: Hy) (n + 4) x = (N, Blk.cells ((List.replicate M 0).map rv) 145) :: hset Hy (n + 4) x := fun x => by simp [hN4]
     rw [hcons] at s2 hK3
     have hnmy2 : ∀ b, namesOk (N + 1) (hset Hy (n + 4) b) = true := fun b => namesOk_hset (namesOk_mono (Nat.le_succ _) _ hnmy)
     have hnmy1 : namesOk (N + 1) Hy = true := namesOk_mono (Nat.le_succ _) _ hnmy
     have cW : cellA Hy (n + 2) 2 = some (iv M) := by rw [cellA_eq, hK1.sub _ _ hGb]; rfl
     have l1 : n + 5 < N := by omega
     have l2 : n + 2 < N := by omega
     have hmk2 := fun (fr : Fr) (H : Heap) (m : Nat) (h : evO Tryz.prog fr (.tmp 66) = some (iv M)) => mk126 (fr := fr) (H := H) (n := m) (x := .tmp 66) (y := .tmp 66) hM1024 h h
     refine E.drawU mixed hr0 [8] [5, 8] [1, 4, 5, 8] (by kernel_rfl) (by simp [-cellA, -readA, -storeA, -List.map_replicate, cellA_read, l1, l2, hnmy, hnmy2, c2, cW, hil, hmk2, s2]; rfl) ?_
     obtain ⟨Hw, hHw⟩ : ∃ Hw, (N, Blk.cells ((List.replicate M 0).map rv) 145) :: hset Hy (n + 4) (.cells (tcs ts (rs.set i (.slice (some ⟨N, 0, none⟩) M M))) 159) = Hw := ⟨_, rfl⟩
     rw [hHw] at hK3
     refine E.lead { fr := [(1, iv w), (2, iv st), (6, ptA (n + 1)), (8, ptA (n + 2)), (11, ptA (n + 5)), (46, iv ts.length), (47, iv i)], sz := 95, H := Hw, n := N + 1, marks := [], vs := vs60 } (.keep rfl rfl rfl (by simp) (by rw [← hHw]; exact Sub.refl _)) ?_
     refine E.reg hr0 (by simp [hw]; rfl) ?_
     refine ⟨(i + 1, Hw, N + 1, rs.set i (.slice (some ⟨N, 0, none⟩) M M)), .keep rfl rfl rfl (by simp) (Sub.refl _), ⟨hil, hK3, hP.next (N' := N + 1) (List.getElem?_eq_getElem hil) (Nat.le_succ _) (fun m b h1 h2 h3 => ?_) ?_ (fun m h => ?_)⟩, by dsimp only; omega⟩
     · rw [← hHw, hget_cons, if_neg (by omega), hget_hset, if_neg (by omega)]; exact hkeep m b h1 h2 h3
     · rw [hho]
       refine .inr ⟨N, true, by omega, by omega, ?_, ?_⟩
       · show Value.slice (some ⟨N, 0, none⟩) M M = .slice (some ⟨N, 0, none⟩) (List.replicate M 0).length (List.replicate M 0).length
         rw [List.length_replicate]
       rw [← hHw, hget_cons, if_pos rfl]
       rfl
     · have h : some N = some m := h
       injection h with h; omega
 · have hil' : i = ts.length := by omega
   subst hil'
   refine E.cond (t := false) (by simp) (fun h => by cases h) (fun _ => ?_)
   refine E.lead { fr := [(1, iv w), (2, iv st), (6, ptA (n + 1)), (8, ptA (n + 2)), (11, ptA (n + 5))], sz := 95, H := Hx, n := N, marks := [], vs := vs60 } (.keep rfl rfl rfl (by simp) (Sub.refl _)) ?_
   refine E.exit ?_
   have hrlt : ∀ (j : Nat) r m, rs[j]? = some r → nmO r = some m → n + 6 ≤ m ∧ m < N := fun j r m hr hm => by
     have hj : j < ts.length := by have := (List.getElem?_eq_some_iff.1 hr).1; rw [hP.len]; exact this
     exact (hP.row j _ r hj (List.getElem?_eq_getElem hj) hr).lt hm
   have hMS : MS false (tidy n H) n 159 110 145 (n + 5) s (corG ts w st M (dn 0 0)) rs Hx N (n + 4) := by
     refine ⟨hSG.trans hK.sub, hK.nm, by omega, by rw [corG_len]; exact hP.len, fun y hy => ?_, fun _ => ⟨?_, by omega, by omega, by omega⟩, ?_, by omega, fun j y r hy hr => ?_, fun j k r q hjk hr hq => ?_⟩
     · obtain ⟨j, hj, rfl⟩ := List.getElem_of_mem hy
       rw [corG_len] at hj
       have := corG_at (w := w) (st := st) (W := M) (d := dn 0 0) (List.getElem?_eq_getElem hj)
       rw [List.getElem?_eq_getElem (by rw [corG_len]; exact hj)] at this
       injection this with this
       rw [this]
       exact hq8 ts[j] (List.getElem_mem hj)
     · rw [hK.at' 1 _ rfl]
       show some (Blk.cells (tcs ts rs) 159) = some (Blk.cells (tcs (corG ts w st M (dn 0 0)) rs) 159)
       have e := tcs_smp (ts := ts) (us := corG ts w st M (dn 0 0)) (rs := rs) corG_len.symm fun j x y hx hy => by
         rw [corG_at hx] at hy
         injection hy with hy
         rw [← hy]
         exact ⟨rfl, rfl⟩
       rw [e]
     · rw [hK.at' 0 _ rfl, corG_len]
       rfl
     · have hj : j < ts.length := by have := (List.getElem?_eq_some_iff.1 hr).1; rw [hP.len]; exact this
       rw [corG_zero (List.getElem?_eq_getElem hj)] at hy
       injection hy with hy
       subst hy
       have := hP.row j _ r hj (List.getElem?_eq_getElem hj) hr
       refine ⟨this.low (by omega), fun e => ?_, fun _ e => ?_⟩
       · have := hrlt j r _ hr e; omega
       · have := hrlt j r _ hr e; omega
     · have hj : j < ts.length := by have := (List.getElem?_eq_some_iff.1 hr).1; rw [hP.len]; exact this
       have hk : k < ts.length := by have := (List.getElem?_eq_some_iff.1 hq).1; rw [hP.len]; exact this
       exact hP.sep j k r q hj hk hjk hr hq
   have cW : cellA Hx (n + 2) 2 = some (iv M) := by rw [cellA_eq, hK.sub _ _ hGb]; rfl
   refine E.seq ?_
   refine E.seq ?_
   refine E.reg hr0 (by simp [-cellA, cW]; rfl) ?_
   refine E.lead { fr := [(1, iv w), (2, iv st), (6, ptA (n + 1)), (8, ptA (n + 2)), (11, ptA (n + 5)), (72, iv M), (73, iv 0)], sz := 95, H := Hx, n := N, marks := [], vs := vs60 } (.keep rfl rfl rfl (by simp) (Sub.refl _)) ?_
   refine t60 (L := tidy n H) (X0 := G) (nr := N) (rs := rs) hTp hSG hGlt hGb hR ht hok (by rw [← hMW, hWd]) g3 g4 (by omega) (fun r hr m hm => by obtain ⟨j, hj, rfl⟩ := List.getElem_of_mem hr; exact hrlt j _ m (List.getElem?_eq_getElem hj) hm) hK.sub hMS (fun Hy N' ms hy1 hy2 hy3 hy4 => ?_)
   have hbox := hy2.box
   rw [corG_len] at hbox
   have hld5 := load110 (H := Hy) (n := n + 5) (s := s) (u := .slice (some ⟨n + 4, 0, none⟩) ts.length ts.length) hbox
   have hy6 := hy1 _ _ hGr
   have s6 := store_all (cs := [.string s, .slice (some ⟨n + 4, 0, none⟩) ts.length ts.length]) hy6 rfl
   obtain ⟨H2, e2, e3⟩ := shut_all ms (H := hset Hy (n + 1) (.cells [.string s, .slice (some ⟨n + 4, 0, none⟩) ts.length ts.length] 110)) hy3 fun m hm => by
     have := (hy4 m hm).1
     rw [hget_hset, if_neg (by omega)]
     exact (hy4 m hm).2
   have hn1 : n + 1 ∉ ms := fun h => by have := (hy4 _ h).1; omega
   have hld6 := load110 (H := H2) (n := n + 1) (s := s) (u := .slice (some ⟨n + 4, 0, none⟩) ts.length ts.length) (by rw [e3 _ hn1, hget_hset, if_pos rfl, hy6]; rfl)
   have hnm2 : namesOk N' H2 = true := shut_nm ms e2 (namesOk_hset hy2.nm)
   refine E.seq ?_
   refine E.reg hr0 (by simp [-loadA, -storeA, hld5, s6]; rfl) ?_
   refine E.ret ?_
   rw [hz]
   show Ab.outM Tryz.prog Tryz.f60 (fun v Z N => ∃ F t tb tf kb rs o, v = .tuple #[.agg ⟨[.string s, outrV F o (corG ts w st M (dn M 0)).length]⟩, iv 0] ∧ (corG ts w st M (dn M 0) = [] → F = true) ∧ MS F (tidy n H) n t tb tf kb s (corG ts w st M (dn M 0)) rs Z N o) .ret _
   refine outM.ret H2 e2 (vs := [.agg ⟨[.string s, .slice (some ⟨n + 4, 0, none⟩) ts.length ts.length]⟩, iv 0]) (by simp [-loadA, resultsA, resultA, Tryz.results60, hld6]) ⟨false, 159, 110, 145, n + 5, rs, n + 4, by rw [corG_len]; rfl, fun e => ?_, ?_⟩
   · have := congrArg List.length e
     rw [corG_len] at this
     exact absurd this (by simp; omega)
   · refine hy2.other (Nat.le_refl _) hnm2 (fun k b hk => ?_) fun m hm1 hm2 hm => ?_
     · have hkn := hTl _ _ hk
       rw [e3 _ fun h => by have := (hy4 _ h).1; omega, hget_hset, if_neg (by omega)]
       exact hy2.sub _ _ hk
     · have hmb : m ≠ n + 1 ∧ m < N := by
         rcases hm with rfl | rfl | ⟨r, hr, hm⟩
         · omega
         · omega
         · obtain ⟨j, hj, rfl⟩ := List.getElem_of_mem hr
           have := hrlt j _ m (List.getElem?_eq_getElem hj) hm
           omega
       rw [e3 _ fun h => by have := (hy4 _ h).1; omega, hget_hset, if_neg fun e => hmb.1 e.symm]
end Go.Proofs.YtkongcnmkiihjaaGreatDoor
