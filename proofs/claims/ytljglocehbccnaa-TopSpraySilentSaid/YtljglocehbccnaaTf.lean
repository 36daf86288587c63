/-
The walk through what TopSpraySilent reaches, and the plain law behind it (no condition).
-/
import Derived.Test.YtljglocehbccnaaRows
import Derived.JoinedOf
import Derived.KernelRfl
import Derived.Test.YtljglocehbccnaaTe
import Derived.Test.YtljglocehbccnaaTa
import Derived.Test.YtljglocehbccnaaAg
namespace Go.Proofs.Ytljglocehbccnaa
open Go Go.Ab Go.Proofs
set_option maxRecDepth 20000
theorem cv53 (n : Int) : runP Try.prog (convert 5 3 (.int .u8 n)) = some (.int .i64 (IntKind.i64.wrap n)) := by kernel_rfl
/-! ### the ticks of the line of the law -/
theorem at_le {p q : Int} {i : Nat} (hp : 0 ≤ p ∧ p < 256) (hq : 0 ≤ q ∧ q < 256) (hi : i ≤ 8) : 0 ≤ p + i * (1 + q) ∧ p + i * (1 + q) ≤ 2303 ∧ 0 ≤ (i : Int) * (1 + q) ∧ (i : Int) * (1 + q) ≤ 2048 := by
  have h1 : 0 ≤ (i : Int) * (1 + q) := Int.mul_nonneg (by omega) (by omega)
  have h2 : (i : Int) * (1 + q) ≤ 8 * 256 := Int.mul_le_mul (by omega) (by omega) (by omega) (by omega)
  omega
theorem tk_val {p q X : Int} {i : Nat} (hp : 0 ≤ p ∧ p < 256) (hq : 0 ≤ q ∧ q < 256) (hX : 1 ≤ X ∧ X ≤ 20) (hi : i ≤ 8) : tkV 0 p (1 + q) X 1 i = (p + i * (1 + q) + X - 1) / X := by
  obtain ⟨h1, h2, h3, h4⟩ := at_le hp hq hi
  unfold tkV
  rw [show IntKind.i64.wrap ((i : Int) * (1 + q)) = i * (1 + q) from W_in (by omega) (by omega)]
  obtain ⟨A, hA⟩ : ∃ A, (i : Int) * (1 + q) = A := ⟨_, rfl⟩
  rw [hA] at h1 h2 h3 h4 ⊢
  rw [show IntKind.i64.wrap (p + A) = p + A from W_in (by omega) (by omega), Int.mul_one, show IntKind.i64.wrap (p + A) = p + A from W_in (by omega) (by omega), show IntKind.i64.wrap (p + A + X) = p + A + X from W_in (by omega) (by omega), show IntKind.i64.wrap (p + A + X - 1) = p + A + X - 1 from W_in (by omega) (by omega)]
  have hd : (p + A + X - 1).tdiv X = (p + A + X - 1) / X := Int.tdiv_eq_ediv_of_nonneg (by omega)
  have h5 : 0 ≤ (p + A + X - 1) / X := Int.ediv_nonneg (by omega) (by omega)
  have h6 : (p + A + X - 1) / X ≤ p + A + X - 1 := Int.ediv_le_self _ (by omega)
  rw [hd, show IntKind.i64.wrap ((p + A + X - 1) / X) = (p + A + X - 1) / X from W_in (by omega) (by omega), Int.zero_add, W_in (by omega) (by omega)]
theorem tk_law {p q X : Int} {i : Nat} (hp : 0 ≤ p ∧ p < 256) (hq : 0 ≤ q ∧ q < 256) (hX : 1 ≤ X ∧ X ≤ 20) (hi : i ≤ 8) : 0 ≤ tkV 0 p (1 + q) X 1 i ∧ tkV 0 p (1 + q) X 1 i ≤ 100000 ∧ p + i * (1 + q) ≤ tkV 0 p (1 + q) X 1 i * X ∧ tkV 0 p (1 + q) X 1 i * X ≤ 2322 ∧ (tkV 0 p (1 + q) X 1 i - 1) * X < p + i * (1 + q) := by
  rw [tk_val hp hq hX hi]
  obtain ⟨h1, h2, h3, h4⟩ := at_le hp hq hi
  obtain ⟨A, hA⟩ : ∃ A, p + (i : Int) * (1 + q) = A := ⟨_, rfl⟩
  rw [hA] at h1 h2 ⊢
  have h5 : 0 ≤ (A + X - 1) / X := Int.ediv_nonneg (by omega) (by omega)
  have h6 : (A + X - 1) / X ≤ A + X - 1 := Int.ediv_le_self _ (by omega)
  have h7 : X * ((A + X - 1) / X) + (A + X - 1) % X = A + X - 1 := Int.mul_ediv_add_emod _ _
  have h8 := Int.emod_nonneg (A + X - 1) (show X ≠ 0 by omega)
  have h9 := Int.emod_lt_of_pos (A + X - 1) (show 0 < X by omega)
  obtain ⟨D, hD⟩ : ∃ D, (A + X - 1) / X = D := ⟨_, rfl⟩
  rw [hD] at h5 h6 h7 ⊢
  rw [Int.sub_mul, Int.one_mul, Int.mul_comm D X]
  omega
theorem tk_err {p q X : Int} {P : Nat} (hp : 0 ≤ p ∧ p < 256) (hq : 0 ≤ q ∧ q < 256) (hX : 1 ≤ X ∧ X ≤ 20) (hP : 1 ≤ P ∧ P ≤ 8) : tkE 0 p (1 + q) P X 1 = 0 ∨ tkE 0 p (1 + q) P X 1 = 21 := by
  have hl : lineV 0 p (1 + q) P X 1 = 0 := by
    unfold lineV
    have w0 : ∀ a lo hi : Int, lo ≤ a → a ≤ hi → withinV a lo hi = 0 := fun a lo hi h1 h2 => by unfold withinV; rw [if_neg (by omega)]
    rw [w0 0 _ _ (by omega) (by omega), w0 p _ _ (by omega) (by omega), w0 (1 + q) _ _ (by omega) (by omega), w0 P _ _ (by omega) (by omega), w0 X _ _ (by omega) (by omega), w0 1 _ _ (by omega) (by omega)]
    rfl
  have h := (tk_law hp hq hX (i := P - 1) (by omega)).2.1
  unfold tkE
  rw [hl, if_neg (fun h => h rfl), if_neg (by rw [show ((P : Int).toNat - 1) = P - 1 from rfl]; omega)]
  split
  · exact .inr rfl
  · exact .inl rfl
theorem sz54i : Try.t54.size = 2 := by kernel_rfl
theorem by54 : Try.t54.bytes ≤ 128 := by decide +kernel
theorem zo54 : zeroOk Try.t54 = true := by kernel_rfl
theorem memN_false {a c : Nat} (h : ¬ c = a) : memN [a] c = false := by
  cases hm : memN [a] c with
  | false => rfl
  | true => have := (memN_iff _ _).1 hm; rw [List.mem_singleton] at this; exact absurd this h
theorem memN_true2 {a c : Nat} : memN [a, c] c = true := (memN_iff _ _).2 (by simp)
theorem fcs_one : ∀ F : List Fir, oneL (fcs F) = true
  | [] => rfl
  | q :: F => by
    show oneL (fc q ++ fcs F) = true
    simp [fc, oneL, fcs_one F]
theorem GL.up {L Hx : Heap} {n t sz k N o : Nat} {cs : List Value} (h : GL L n t sz cs k Hx N o) (d : Nat) : GL L n t sz cs k Hx (N + d) o :=
  ⟨h.len, fun hk => ⟨(h.out hk).1, by have := (h.out hk).2; omega⟩, h.sub, namesOk_mono (by omega) _ h.nm, by have := h.big; omega, h.low, h.pl⟩
theorem len_outS {st : TypeId} {e : TypeId} (hu : Try.prog.underlying st = some (.slice e)) {o k : Nat} {H : Heap} {n : Nat} : builtinA Try.prog .len #[st] H n [outS o k] = some (iv k, H, n) := by
  unfold outS
  split
  · rename_i h; subst h; simp [hu]
  · simp [hu]
set_option maxHeartbeats 4000000 in
theorem w3a {H : Heap} {n : Nat} (b : Brg) {oa : Option Addr} {L c : Nat} {l : List Sg} {p q r : Int} (hV : shortV b.t L = true → sigV H (.slice oa L c) = some l) (hp : 0 ≤ p ∧ p < 256) (hq : 0 ≤ q ∧ q < 256) (hr0 : 0 ≤ r ∧ r < 256) : AC Try.prog 3 [b.run (.slice oa L c) p q r] H n (.bool true) H n := by
  refine AC.given fun hold hsc hgn => AC.tidied (B := []) (by simp) ?_
  replace hV : shortV b.t L = true → sigV (tidy n H) (.slice oa L c) = some l := fun h => listV_tidy decG_tidy (fun k b h => (hold k b h).1) (hV h)
  have hr := recT_ok (P := Try.prog) (l := [(5, g5), (6, g6), (7, g7), (8, g8), (9, g9), (10, g10), (11, g11), (12, g12)]) (by simp only [List.forall_mem_cons]; exact ⟨ok5, ok6, ok7, ok8, ok9, ok10, ok11, ok12, by simp⟩)
  have h6 : ∀ H n, g6 [] H n = some (.bool true, H, n) := fun _ _ => rfl
  obtain ⟨ru, hru⟩ : ∃ ru, runV b L l = ru := ⟨_, rfl⟩
  have h5 : ∀ y z m, g5 [.agg ⟨[iv b.x, iv b.y, iv b.dx, iv b.dy, iv b.t, iv b.r, iv b.s, iv b.l, iv b.c, iv b.f, .slice oa L c, .int .u8 p, .int .u8 q, .int .u8 r]⟩] ((n + 1, y) :: (n, z) :: tidy n H) m = some (.bool ru, (n + 1, y) :: (n, z) :: tidy n H, m) := fun y z m => by
    simp only [g5]
    by_cases hs : shortV b.t L = true
    · have : sigV ((n + 1, y) :: (n, z) :: tidy n H) (.slice oa L c) = some l := listV_mono decG_mono (Sub.cons (by simp) (Sub.cons (by simp) (Sub.refl _))) (hV hs)
      rw [if_pos hs, this, ← hru]
      rfl
    · rw [if_neg hs, ← hru, runV, show shortV b.t L = false from by simpa using hs, Bool.false_and]
  unfold Brg.run
  refine AC.pure Try.func3 rfl (by kernel_rfl) rfl [1, 3, 4, 5, 7, 9, 11, 13, 14, 15, 16, 17, 128, 129, 130, 175, 176, 177] rfl ?_
  refine E.seq ?_
  refine E.reg hr (by simp; rfl) ?_ -- region 0
  refine E.seq ?_
  refine E.reg hr (by simp; rfl) ?_ -- region 1
  refine E.seq ?_
  refine E.seq ?_
  by_cases hgo : ru = true ∧ 1 ≤ b.dx ∧ b.dx ≤ 20
  case neg =>
    cases ru with
    | false =>
      refine E.reg hr (by simp [h5, yieldedA, undefV]; rfl) ?_ -- region 2
      refine E.cond (t := true) (by simp) (fun _ => ?_) (fun h => by cases h)
      refine E.seq ?_
      refine E.reg hr (by simp [h6]; rfl) ?_ -- region 3
      refine E.ret ?_
      exact pureK.ret rfl rfl (by simp) (by repeat first | exact Sub.refl _ | refine Sub.cons (by simp) ?_)
    | true =>
      by_cases h1 : b.dx < 1
      · refine E.reg hr (by simp [h5, h1, yieldedA, undefV]; rfl) ?_ -- region 2
        refine E.cond (t := true) (by simp) (fun _ => ?_) (fun h => by cases h)
        refine E.seq ?_
        refine E.reg hr (by simp [h6]; rfl) ?_ -- region 3
        refine E.ret ?_
        exact pureK.ret rfl rfl (by simp) (by repeat first | exact Sub.refl _ | refine Sub.cons (by simp) ?_)
      · have h2 : 20 < b.dx := by
          by_cases h : b.dx ≤ 20
          · exact absurd ⟨rfl, by omega, h⟩ hgo
          · omega
        refine E.reg hr (by simp [h5, h1, h2, yieldedA]; rfl) ?_ -- region 2
        refine E.cond (t := true) (by simp) (fun _ => ?_) (fun h => by cases h)
        refine E.seq ?_
        refine E.reg hr (by simp [h6]; rfl) ?_ -- region 3
        refine E.ret ?_
        exact pureK.ret rfl rfl (by simp) (by repeat first | exact Sub.refl _ | refine Sub.cons (by simp) ?_)
  obtain ⟨rfl, hd1, hd2⟩ := hgo
  have hrun := hru
  unfold runV at hrun
  rw [Bool.and_eq_true] at hrun
  obtain ⟨hsh, hbr⟩ := hrun
  replace hV := hV hsh
  have hE : brE b l = 0 := by simpa using hbr
  have hd1' : ¬ b.dx < 1 := by omega
  have hd2' : ¬ 20 < b.dx := by omega
  refine E.reg hr (by simp [h5, hd1', hd2', yieldedA]; rfl) ?_ -- region 2
  refine E.cond (t := false) (by simp) (fun h => by cases h) (fun _ => ?_)
  refine E.skip ?_
  refine E.seq ?_
  have hwp : IntKind.i64.wrap p = p := W_in (by omega) (by omega)
  have hwq : IntKind.i64.wrap q = q := W_in (by omega) (by omega)
  have hwr : IntKind.i64.wrap r = r := W_in (by omega) (by omega)
  have hw1q : IntKind.i64.wrap (1 + q) = 1 + q := W_in (by omega) (by omega)
  obtain ⟨P, hP, hP1, hP2⟩ : ∃ P : Nat, 1 + r.tmod 8 = (P : Int) ∧ 1 ≤ P ∧ P ≤ 8 := by
    have : r.tmod 8 = r % 8 := Int.tmod_eq_emod_of_nonneg (by omega)
    refine ⟨(1 + r % 8).toNat, ?_, ?_, ?_⟩ <;> omega
  have hwP : IntKind.i64.wrap (P : Int) = P := W_in (by omega) (by omega)
  refine E.reg hr (by simp [opConvert, cv53, hwp, hwq, hwr, hw1q, bin_rem, hP, hwP, build34]; rfl) ?_ -- region 4
  refine E.seq ?_
  have hErr := tk_err (P := P) hp hq ⟨hd1, hd2⟩ ⟨hP1, hP2⟩
  obtain ⟨t, ht⟩ : ∃ t, tkV 0 p (1 + q) b.dx 1 = t := ⟨_, rfl⟩
  obtain ⟨E1, hE1⟩ : ∃ E1, tkE 0 p (1 + q) P b.dx 1 = E1 := ⟨_, rfl⟩
  have hK : tkK 0 p (1 + q) P b.dx 1 = if E1 = 0 then P else 0 := by unfold tkK; rw [hE1]; rfl
  obtain ⟨K, hKK⟩ : ∃ K, tkK 0 p (1 + q) P b.dx 1 = K := ⟨_, rfl⟩
  rw [hE1] at hErr
  rw [hKK] at hK
  have h7 : ∀ H m, g7 [.agg ⟨[iv 0, iv p, iv (1 + q), iv P, iv b.dx, iv 1]⟩] H m = some (.tuple #[outS m K, iv E1], outSB m 3 1 K (tkL t K) ++ H, m + 1) := fun H m => by
    rw [← hE1, ← hKK, ← ht]
    rfl
  refine E.reg hr (by simp [h7]; rfl) ?_ -- region 5
  refine E.seq ?_
  refine E.seq ?_
  refine E.reg hr (by simp; rfl) ?_ -- region 6
  have hsT : Sub (tidy n H) (outSB (n + 1 + 1 + 1) 3 1 K (tkL t K) ++ (n + 1 + 1, .cells [iv 0, iv p, iv (1 + q), iv P, iv b.dx, iv 1] 34) :: (n + 1, .cells [iv b.x, iv b.y, iv b.dx, iv b.dy, iv b.t] 25) :: (n, .cells [iv b.x, iv b.y, iv b.dx, iv b.dy, iv b.t, iv b.r, iv b.s, iv b.l, iv b.c, iv b.f, .slice oa L c, .int .u8 p, .int .u8 q, .int .u8 r] 30) :: tidy n H) := sub_sb (by repeat first | exact Sub.refl _ | refine Sub.cons (by simp) ?_) (namesOk_none namesOk_tidy _ (by omega))
  rcases hErr with rfl | rfl
  case inr =>
    refine E.cond (t := true) (by simp) (fun _ => ?_) (fun h => by cases h)
    refine E.seq ?_
    refine E.reg hr (by simp [h6, yieldedA]; rfl) ?_ -- region 7
    refine E.ret ?_
    exact pureK.ret rfl rfl (by simp) hsT
  rw [if_pos rfl] at hK
  replace hK := hK.symm
  subst hK
  refine E.cond (t := false) (by simp) (fun h => by cases h) (fun _ => ?_)
  refine E.skip ?_
  refine E.seq ?_
  have hP0 : P ≠ 0 := by omega
  obtain ⟨oa', c', e', hlt, _⟩ := sigV_form hV
  obtain ⟨X, hXe⟩ : ∃ X, (n + 1 + 1 + 1, Blk.ext (tkL t P) 3 1) :: (n + 1 + 1, Blk.cells [iv 0, iv p, iv (1 + q), iv P, iv b.dx, iv 1] 34) :: (n + 1, Blk.cells [iv b.x, iv b.y, iv b.dx, iv b.dy, iv b.t] 25) :: (n, Blk.cells [iv b.x, iv b.y, iv b.dx, iv b.dy, iv b.t, iv b.r, iv b.s, iv b.l, iv b.c, iv b.f, .slice oa L c, .int .u8 p, .int .u8 q, .int .u8 r] 30) :: tidy n H = X := ⟨_, rfl⟩
  have hX : XB n H b (.slice oa L c) (.int .u8 p) (.int .u8 q) (.int .u8 r) [iv 0, iv p, iv (1 + q), iv P, iv b.dx, iv 1] (tkL t P) X (n + 4) := by
    subst hXe
    refine ⟨?_, by simp, by repeat first | exact Sub.refl _ | refine Sub.cons (by simp) ?_, ?_, ?_, ?_, ?_, Nat.le_refl _⟩
    · exact namesOk_put (by omega) (namesOk_mono (by omega) _ (namesOk_put (k := n + 3) (by omega) (namesOk_put (by omega) (namesOk_put (by omega) (namesOk_mono (by omega) _ namesOk_tidy)))))
    · rw [hget_cons, if_neg (by omega), hget_cons, if_neg (by omega), hget_cons, if_neg (by omega), hget_cons, if_pos rfl]
    · rw [hget_cons, if_neg (by omega), hget_cons, if_neg (by omega), hget_cons, if_pos rfl]
    · rw [hget_cons, if_neg (by omega), hget_cons, if_pos rfl]
    · rw [hget_cons, if_pos rfl]
  have hsb : outSB (n + 1 + 1 + 1) 3 1 P (tkL t P) = [(n + 1 + 1 + 1, .ext (tkL t P) 3 1)] := if_neg hP0
  obtain ⟨N, hN⟩ : ∃ N, n + 4 = N := ⟨_, rfl⟩
  refine E.lead { fr := [(1, .pointer (some ⟨n, 0, none⟩)), (3, .pointer (some ⟨n + 1, 0, none⟩)), (4, .pointer (some ⟨n + 1 + 1, 0, none⟩)), (5, .slice (some ⟨n + 1 + 1 + 1, 0, some 0⟩) P 0)], sz := 266, H := X, n := N, marks := [], vs := [1, 3, 4, 5, 7, 9, 11, 13, 14, 15, 16, 17, 128, 129, 130, 175, 176, 177] } (.keep hN.symm rfl rfl (by simp [outS_ne hP0]) (by rw [hsb, ← hXe]; exact Sub.refl _)) ?_
  rw [hN] at hX
  clear hXe hsT
  -- the state before the three questions
  have hrd : ∀ {X : Heap} {N : Nat}, XB n H b (.slice oa L c) (.int .u8 p) (.int .u8 q) (.int .u8 r) [iv 0, iv p, iv (1 + q), iv P, iv b.dx, iv 1] (tkL t P) X N → cellsA X (n + 1) 0 5 = some [iv b.x, iv b.y, iv b.dx, iv b.dy, iv b.t] ∧ cellsA X n 5 5 = some [iv b.r, iv b.s, iv b.l, iv b.c, iv b.f] ∧ cellA X n 10 = some (.slice oa L c) := fun h => ⟨by rw [cellsA_eq, h.vb]; rfl, by rw [cellsA_eq, h.rb]; rfl, by rw [cellA_eq, h.rb]; rfl⟩
  have hfz : ∀ {X : Heap} {N : Nat} (m : Nat), XB n H b (.slice oa L c) (.int .u8 p) (.int .u8 q) (.int .u8 r) [iv 0, iv p, iv (1 + q), iv P, iv b.dx, iv 1] (tkL t P) X N → g9 [.slice oa L c] (frzH X) m = some (outS m l.length, outSB m 90 3 l.length (sgs l) ++ frzH X, m + 1) := fun m h => seen_at ((listV_frz decG_frz _ _).trans (listV_mono decG_mono h.sub hV))
  have htk : ∀ {X : Heap} {N : Nat}, XB n H b (.slice oa L c) (.int .u8 p) (.int .u8 q) (.int .u8 r) [iv 0, iv p, iv (1 + q), iv P, iv b.dx, iv 1] (tkL t P) X N → takeNew N (outSB N 90 3 l.length (sgs l) ++ frzH X) = outSB N 90 3 l.length (sgs l) := fun h => by rw [takeNew_app outSB_ge, takeNew_frz h.nm, List.append_nil]
  have hno : ∀ {N : Nat}, namesOk (N + 1) (outSB N 90 3 l.length (sgs l)) = true := fun {N} => by
    unfold outSB
    split
    · rfl
    · exact namesOk_put (by omega) rfl
  obtain ⟨c1, c2, c3⟩ := hrd hX
  have hnm := hX.nm
  have hpl := hX.pl
  have hf9 := hfz N hX
  have htk1 := htk hX
  have hno1 := @hno N
  have h8 := in_at (b := b) (m := N + 1) (seen_sig (l := l) (Z := X) (m := N) hlt) hE
  have hX1 := hX.sb (t := 90) (sz := 3) (k := l.length) (cs := sgs l) rfl
  have hn2 : namesOk (N + 1 + 1) (outSB N 90 3 l.length (sgs l) ++ X) = true := namesOk_mono (by omega) _ hX1.nm
  have nN : n < N := by have := hX.big; omega
  have nN1 : n + 1 < N := by have := hX.big; omega
  refine E.drawU mixed hr [6] [5, 6] [0, 2, 4, 5, 6] (by kernel_rfl) (by simp [-cellA, -cellsA, -flat, -readA, cellA_read, cellsA_read, hnm, hpl, c1, c2, c3, nN, nN1, hf9, htk1, hno1, hn2, h8]; rfl) ?_ -- region 8
  refine E.seq ?_
  have hX2 := hX1.cons (.cells (insL b l) 4) rfl
  have hsX : Sub X ((N + 1, .cells (insL b l) 4) :: (outSB N 90 3 l.length (sgs l) ++ X)) := Sub.trans (sub_to (namesOk_none hX.nm N (Nat.le_refl _))) (Sub.cons (namesOk_none hX1.nm _ (Nat.le_refl _)) (Sub.refl _))
  have hin : hget ((N + 1, Blk.cells (insL b l) 4) :: (outSB N 90 3 l.length (sgs l) ++ X)) (N + 1) = some (.cells (insL b l) 4) := by rw [hget_cons, if_pos rfl]
  obtain ⟨X2, hXe⟩ : ∃ X2, (N + 1, Blk.cells (insL b l) 4) :: (outSB N 90 3 l.length (sgs l) ++ X) = X2 := ⟨_, rfl⟩
  obtain ⟨TI, hTI⟩ : ∃ TI, (Value.slice (some ⟨N + 1, 0, none⟩) b.t.toNat b.t.toNat) = TI := ⟨_, rfl⟩
  obtain ⟨N2, hN2⟩ : ∃ N2, N + 1 + 1 = N2 := ⟨_, rfl⟩
  rw [hXe] at hX2 hsX hin
  rw [hN2] at hX2
  refine E.lead { fr := [(1, .pointer (some ⟨n, 0, none⟩)), (3, .pointer (some ⟨n + 1, 0, none⟩)), (4, .pointer (some ⟨n + 1 + 1, 0, none⟩)), (5, .slice (some ⟨n + 1 + 1 + 1, 0, some 0⟩) P 0), (7, TI), (8, iv 0)], sz := 266, H := X2, n := N2, marks := [], vs := [1, 3, 4, 5, 7, 9, 11, 13, 14, 15, 16, 17, 128, 129, 130, 175, 176, 177] } (.keep hN2.symm rfl rfl (by simp [hTI]) (by rw [← hXe]; exact Sub.refl _)) ?_
  clear hnm hpl c1 c2 c3 hf9 htk1 hno1 h8 hn2 hX1
  obtain ⟨c1, c2, c3⟩ := hrd hX2
  have hnm := hX2.nm
  have hpl := hX2.pl
  have hf9 := hfz N2 hX2
  have htk1 := htk hX2
  have hno1 := @hno N2
  have h10 := lev_at (b := b) (m := N2 + 1) (seen_sig (l := l) (Z := X2) (m := N2) hlt) hE
  have hX3 := hX2.sb (t := 90) (sz := 3) (k := l.length) (cs := sgs l) rfl
  have hn2 : namesOk (N2 + 1 + 1) (outSB N2 90 3 l.length (sgs l) ++ X2) = true := namesOk_mono (by omega) _ hX3.nm
  have nN2 : n < N2 := by omega
  have nN3 : n + 1 < N2 := by omega
  refine E.drawU mixed hr [6] [5, 6] [0, 2, 4, 5, 6] (by kernel_rfl) (by simp [-cellA, -cellsA, -flat, -readA, cellA_read, cellsA_read, hnm, hpl, c1, c2, c3, nN2, nN3, hf9, htk1, hno1, hn2, h10]; rfl) ?_ -- region 9
  refine E.seq ?_
  have hX4 := hX3.cons (.cells (levL b l) 3) rfl
  have hsX2 : Sub X2 ((N2 + 1, .cells (levL b l) 3) :: (outSB N2 90 3 l.length (sgs l) ++ X2)) := Sub.trans (sub_to (namesOk_none hX2.nm N2 (Nat.le_refl _))) (Sub.cons (namesOk_none hX3.nm _ (Nat.le_refl _)) (Sub.refl _))
  have hlv : hget ((N2 + 1, Blk.cells (levL b l) 3) :: (outSB N2 90 3 l.length (sgs l) ++ X2)) (N2 + 1) = some (.cells (levL b l) 3) := by rw [hget_cons, if_pos rfl]
  obtain ⟨X4, hXe4⟩ : ∃ X4, (N2 + 1, Blk.cells (levL b l) 3) :: (outSB N2 90 3 l.length (sgs l) ++ X2) = X4 := ⟨_, rfl⟩
  obtain ⟨TL, hTL⟩ : ∃ TL, (Value.slice (some ⟨N2 + 1, 0, none⟩) b.t.toNat b.t.toNat) = TL := ⟨_, rfl⟩
  obtain ⟨N4, hN4⟩ : ∃ N4, N2 + 1 + 1 = N4 := ⟨_, rfl⟩
  rw [hXe4] at hX4 hsX2 hlv
  rw [hN4] at hX4
  refine E.lead { fr := [(1, .pointer (some ⟨n, 0, none⟩)), (3, .pointer (some ⟨n + 1, 0, none⟩)), (4, .pointer (some ⟨n + 1 + 1, 0, none⟩)), (5, .slice (some ⟨n + 1 + 1 + 1, 0, some 0⟩) P 0), (7, TI), (8, iv 0), (9, TL), (10, iv 0)], sz := 266, H := X4, n := N4, marks := [], vs := [1, 3, 4, 5, 7, 9, 11, 13, 14, 15, 16, 17, 128, 129, 130, 175, 176, 177] } (.keep hN4.symm rfl rfl (by simp [hTL]) (by rw [← hXe4]; exact Sub.refl _)) ?_
  clear hnm hpl c1 c2 c3 hf9 htk1 hno1 h10 hn2 hX3
  obtain ⟨c1, c2, c3⟩ := hrd hX4
  have hnm := hX4.nm
  have hpl := hX4.pl
  have hf9 := hfz N4 hX4
  have htk1 := htk hX4
  have hno1 := @hno N4
  obtain ⟨S, hS⟩ : ∃ S, silS b l = S := ⟨_, rfl⟩
  have h11 := sil_at (b := b) (m := N4 + 1) (seen_sig (l := l) (Z := X4) (m := N4) hlt) hE
  rw [hS] at h11
  have hX5 := hX4.sb (t := 90) (sz := 3) (k := l.length) (cs := sgs l) rfl
  have hX6 := hX5.sb (t := 52) (sz := 2) (k := S.length) (cs := sps S) rfl
  have hn2 := hX6.nm
  have nN4 : n < N4 := by omega
  have nN5 : n + 1 < N4 := by omega
  refine E.drawU mixed hr [6] [5, 6] [0, 2, 4, 5, 6] (by kernel_rfl) (by simp [-cellA, -cellsA, -flat, -readA, cellA_read, cellsA_read, hnm, hpl, c1, c2, c3, nN4, nN5, hf9, htk1, hno1, hn2, h11]; rfl) ?_ -- region 10
  refine E.seq ?_
  refine E.seq ?_
  have hsX4 : Sub X4 (outSB (N4 + 1) 52 2 S.length (sps S) ++ (outSB N4 90 3 l.length (sgs l) ++ X4)) := Sub.trans (sub_to (namesOk_none hX4.nm N4 (Nat.le_refl _))) (sub_to (namesOk_none hX5.nm _ (Nat.le_refl _)))
  have hsp : S.length ≠ 0 → hget (outSB (N4 + 1) 52 2 S.length (sps S) ++ (outSB N4 90 3 l.length (sgs l) ++ X4)) (N4 + 1) = some (.ext (sps S) 52 2) := fun h => by
    rw [outSB, if_neg h]
    show hget ((N4 + 1, _) :: _) _ = _
    rw [hget_cons, if_pos rfl]
  obtain ⟨Y, hYe⟩ : ∃ Y, outSB (N4 + 1) 52 2 S.length (sps S) ++ (outSB N4 90 3 l.length (sgs l) ++ X4) = Y := ⟨_, rfl⟩
  obtain ⟨M, hM⟩ : ∃ M, N4 + 1 + 1 = M := ⟨_, rfl⟩
  obtain ⟨ki, hki⟩ : ∃ ki, N + 1 = ki := ⟨_, rfl⟩
  obtain ⟨kl, hkl⟩ : ∃ kl, N2 + 1 = kl := ⟨_, rfl⟩
  obtain ⟨ks, hks⟩ : ∃ ks, N4 + 1 = ks := ⟨_, rfl⟩
  obtain ⟨Tn, hTn⟩ : ∃ Tn, b.t.toNat = Tn := ⟨_, rfl⟩
  obtain ⟨hT0, hT1⟩ := brE0 hE
  have hTn' : (Tn : Int) = b.t := by omega
  subst hTI hTL
  have hY := hX6
  replace hin := hsX4 _ _ (hsX2 _ _ hin)
  replace hlv := hsX4 _ _ hlv
  rw [hYe, hM] at hY
  rw [hYe, hki] at hin
  rw [hYe, hkl] at hlv
  rw [hYe, hks] at hsp
  refine E.lead { fr := [(1, .pointer (some ⟨n, 0, none⟩)), (3, .pointer (some ⟨n + 1, 0, none⟩)), (4, .pointer (some ⟨n + 1 + 1, 0, none⟩)), (5, .slice (some ⟨n + 1 + 1 + 1, 0, some 0⟩) P 0), (7, .slice (some ⟨ki, 0, none⟩) Tn Tn), (8, iv 0), (9, .slice (some ⟨kl, 0, none⟩) Tn Tn), (10, iv 0), (11, outS ks S.length), (12, iv 0)], sz := 266, H := Y, n := M, marks := [], vs := [1, 3, 4, 5, 7, 9, 11, 13, 14, 15, 16, 17, 128, 129, 130, 175, 176, 177] } (.keep hM.symm rfl rfl (by simp [hki, hkl, hks, hTn]) (by rw [← hYe]; exact Sub.refl _)) ?_
  clear hnm hpl c1 c2 c3 hf9 htk1 hno1 h11 hn2 hX5 hX6 hsX4 hsX2 hsX hXe hXe4 hYe
  have g1 : hget Y (n + 1) = some (.cells [iv b.x, iv b.y, iv b.dx, iv b.dy, iv b.t] 25) := hY.vb
  have g2 : hget Y (n + 1 + 1) = some (.cells [iv 0, iv p, iv (1 + q), iv P, iv b.dx, iv 1] 34) := hY.lb
  refine E.reg hr (by simp [g1, g2, hTn', yieldedA]; rfl) ?_ -- region 11
  refine E.cond (t := false) (by simp) (fun h => by cases h) (fun _ => ?_)
  refine E.skip ?_
  refine E.seq ?_
  refine E.reg hr (by simp; rfl) ?_ -- region 13
  refine E.seq ?_
  refine E.seq ?_
  refine E.reg hr (by simp; rfl) ?_ -- region 14
  refine E.block ?_ -- 0
  refine E.loop ?_
  have hL : ∀ k c, hget Y k = some c → k < M := fun k c hk => by
    by_cases h : k < M
    · exact h
    · rw [namesOk_none hY.nm k (by omega)] at hk; cases hk
  have hst : GL Y M 54 2 (fcs []) 0 Y M M := GL.start (Sub.refl _) hY.nm (Nat.le_refl M) hY.pl
  refine EL.ind (fun x : Nat × List Fir × Heap × Nat × Nat => { fr := [(1, .pointer (some ⟨n, 0, none⟩)), (3, .pointer (some ⟨n + 1, 0, none⟩)), (4, .pointer (some ⟨n + 1 + 1, 0, none⟩)), (7, .slice (some ⟨ki, 0, none⟩) Tn Tn), (9, .slice (some ⟨kl, 0, none⟩) Tn Tn), (11, outS ks S.length), (13, outS x.2.2.2.2 x.2.1.length), (128, .slice (some ⟨n + 1 + 1 + 1, 0, some 0⟩) P 0), (129, iv P), (130, iv x.1)], sz := 266, H := x.2.2.1, n := x.2.2.2.1, marks := [], vs := [1, 3, 4, 5, 7, 9, 11, 13, 14, 15, 16, 17, 128, 129, 130, 175, 176, 177] }) (fun x => P - x.1) (fun x => x.1 ≤ P ∧ x.2.1.length ≤ x.1 ∧ (∀ q ∈ x.2.1, 0 ≤ q.1 ∧ q.1 < b.t ∧ q.2 = levV b l q.1.toNat ∧ levV b l q.1.toNat ≠ 0) ∧ GL Y M 54 2 (fcs x.2.1) x.2.1.length x.2.2.1 x.2.2.2.1 x.2.2.2.2) (0, [], Y, M, M) (.keep rfl rfl rfl (by simp) (Sub.refl _)) ⟨Nat.zero_le _, Nat.le_refl _, (by simp), hst⟩ (fun _ => rfl) ?_
  rintro ⟨i, F, Hx, N', o⟩ ⟨hi, hFi, hF, hG⟩
  dsimp only at hi hFi hF hG ⊢
  have hw : IntKind.i64.wrap ((i : Int) + 1) = (i : Int) + 1 := W_in (by omega) (by omega)
  replace g1 := hG.sub _ _ hY.vb
  replace g2 := hG.sub _ _ hY.lb
  refine E.seq ?_
  refine E.reg hr (by simp; rfl) ?_ -- region 15
  refine E.seq ?_
  by_cases hil : i < P
  case neg =>
    have hgood := cf_good (F := F) hE (by omega) hF
    obtain ⟨c1, c2, c3⟩ : cellsA Hx (n + 1) 0 5 = some [iv b.x, iv b.y, iv b.dx, iv b.dy, iv b.t] ∧ cellsA Hx n 5 5 = some [iv b.r, iv b.s, iv b.l, iv b.c, iv b.f] ∧ cellA Hx n 10 = some (.slice oa L c) := ⟨by rw [cellsA_eq, g1]; rfl, by rw [cellsA_eq, hG.sub _ _ hY.rb]; rfl, by rw [cellA_eq, hG.sub _ _ hY.rb]; rfl⟩
    have hsg : sigV Hx (.slice oa L c) = some l := listV_mono decG_mono (Sub.trans hY.sub hG.sub) hV
    have hf9 : ∀ m, g9 [.slice oa L c] (frzH Hx) m = some (outS m l.length, outSB m 90 3 l.length (sgs l) ++ frzH Hx, m + 1) := fun m => seen_at ((listV_frz decG_frz _ _).trans hsg)
    have hs9 : ∀ m, g9 [.slice oa L c] Hx m = some (outS m l.length, outSB m 90 3 l.length (sgs l) ++ Hx, m + 1) := fun m => seen_at hsg
    have htk1 : takeNew N' (outSB N' 90 3 l.length (sgs l) ++ frzH Hx) = outSB N' 90 3 l.length (sgs l) := by rw [takeNew_app outSB_ge, takeNew_frz hG.nm, List.append_nil]
    have hno1 := @hno N'
    have hG3 := hG.sb hL (t' := 90) (sz' := 3) (k' := l.length) (cs' := sgs l) rfl
    have hfv : firV (outSB N' 90 3 l.length (sgs l) ++ Hx) (outS o F.length) = some F := hG3.list fc_len fc_dec (by omega)
    have h12 : ∀ m, g12 [.agg ⟨[iv b.x, iv b.y, iv b.dx, iv b.dy, iv b.t]⟩, .agg ⟨[iv b.r, iv b.s, iv b.l, iv b.c, iv b.f]⟩, outS N' l.length, outS o F.length] (outSB N' 90 3 l.length (sgs l) ++ Hx) m = some (iv 0, outSB N' 90 3 l.length (sgs l) ++ Hx, m) := fun m => by
      rw [fires_at (seen_sig hlt) hfv hE, hgood]
    have hnm3 := hG3.nm
    have hpl := hG.pl
    have hnm := hG.nm
    have nA : n < N' := by have := hY.big; have := hG.big; omega
    have nB : n + 1 < N' := by have := hY.big; have := hG.big; omega
    refine E.cond (t := false) (by simp [hil]) (fun h => by cases h) (fun _ => ?_)
    refine E.exit ?_ -- 0
    refine E.seq ?_
    refine E.drawU mixed hr [7, 10] [5, 7, 10] [0, 2, 4, 5, 7, 10] (by kernel_rfl) (by simp [-cellA, -cellsA, -flat, -readA, cellA_read, cellsA_read, hnm, hnm3, hpl, c1, c2, c3, nA, nB, hf9, htk1, hno1, h12, h6, yieldedA]; rfl) ?_ -- region 35
    refine E.ret ?_
    exact pureK.ret rfl rfl (by simp) (Sub.trans (Sub.trans hY.sub hG.sub) (sub_to (namesOk_none hG.nm _ (Nat.le_refl _))))
  obtain ⟨t1, t2, t3, t4, t5⟩ := tk_law hp hq ⟨hd1, hd2⟩ (i := i) (by omega)
  obtain ⟨a1, a2, a3, a4⟩ := at_le hp hq (i := i) (by omega)
  rw [ht] at t1 t2 t3 t4 t5
  have g3 : cellA Hx (n + 1 + 1 + 1) i = some (iv (t i)) := by rw [cellA_eq, hG.sub _ _ hY.tb]; exact tkL_at hil
  obtain ⟨tk, htk⟩ : ∃ tk, t i = tk := ⟨_, rfl⟩
  rw [htk] at t1 t2 t3 t4 t5 g3
  obtain ⟨A, hA⟩ : ∃ A, (i : Int) * (1 + q) = A := ⟨_, rfl⟩
  rw [hA] at a1 a2 a3 a4 t3 t5
  have w1 : IntKind.i64.wrap A = A := W_in (by omega) (by omega)
  have w2 : IntKind.i64.wrap (p + A) = p + A := W_in (by omega) (by omega)
  obtain ⟨Q1, hQ1⟩ : ∃ Q1, tk * b.dx = Q1 := ⟨_, rfl⟩
  obtain ⟨Q2, hQ2⟩ : ∃ Q2, (tk - 1) * b.dx = Q2 := ⟨_, rfl⟩
  have hQ12 : Q2 = Q1 - b.dx := by rw [← hQ1, ← hQ2, Int.sub_mul, Int.one_mul]
  rw [hQ1] at t3 t4
  rw [hQ2] at t5
  have w3 : IntKind.i64.wrap Q1 = Q1 := W_in (by omega) (by omega)
  have w4 : IntKind.i64.wrap (tk - 1) = tk - 1 := W_in (by omega) (by omega)
  have w5 : IntKind.i64.wrap Q2 = Q2 := W_in (by omega) (by omega)
  refine E.cond (t := true) (by simp [hil]) (fun _ => ?_) (fun h => by cases h)
  refine E.skip ?_
  refine E.seq ?_
  refine E.block ?_ -- 1
  refine E.seq ?_
  refine E.reg hr (by simp [-cellA, hil, g3]; rfl) ?_ -- region 16
  refine E.seq ?_
  refine E.reg hr (by simp [g2, hA, w1, w2]; rfl) ?_ -- region 17
  refine E.seq ?_
  refine E.seq ?_
  have n1 : ¬ tk < 0 := by omega
  have n2 : ¬ 100000 < tk := by omega
  have n3 : ¬ Q1 < p + A := by omega
  have n4 : ¬ p + A ≤ Q2 := by omega
  obtain ⟨τ, hτ⟩ := Int.eq_ofNat_of_zero_le t1
  subst hτ
  by_cases h0 : 0 < τ
  case' pos => refine E.reg hr (by simp [g1, n1, n2, n3, n4, h0, hQ1, hQ2, w3, w4, w5, yieldedA]; rfl) ?_ -- region 18
  case' neg => refine E.reg hr (by simp [g1, n1, n2, n3, h0, hQ1, w3, yieldedA, undefV]; rfl) ?_ -- region 18
  all_goals
    refine E.cond (t := false) (by simp) (fun h => by cases h) (fun _ => ?_)
    refine E.skip ?_
    refine E.lead { fr := [(1, .pointer (some ⟨n, 0, none⟩)), (3, .pointer (some ⟨n + 1, 0, none⟩)), (4, .pointer (some ⟨n + 1 + 1, 0, none⟩)), (7, .slice (some ⟨ki, 0, none⟩) Tn Tn), (9, .slice (some ⟨kl, 0, none⟩) Tn Tn), (11, outS ks S.length), (13, outS o F.length), (15, iv τ), (128, .slice (some ⟨n + 1 + 1 + 1, 0, some 0⟩) P 0), (129, iv P), (130, iv i)], sz := 266, H := Hx, n := N', marks := [], vs := [1, 3, 4, 5, 7, 9, 11, 13, 14, 15, 16, 17, 128, 129, 130, 175, 176, 177] } (.keep rfl rfl rfl (by simp) (Sub.refl _)) ?_
    refine E.seq ?_
    refine E.seq ?_
    refine E.reg hr (by simp [g1]; rfl) ?_ -- region 20
    by_cases hT : b.t ≤ τ
    · refine E.cond (t := true) (by simp [hT]) (fun _ => ?_) (fun h => by cases h)
      refine E.exit ?_ -- 1
      refine E.reg hr (by simp [hw]; rfl) ?_ -- region 34
      exact ⟨(i + 1, F, Hx, N', o), .keep rfl rfl rfl (by simp) (Sub.refl _), ⟨hil, by dsimp only; omega, hF, hG⟩, by dsimp only; omega⟩
    have hτT : τ < Tn := by omega
    refine E.cond (t := false) (by simp [hT]) (fun h => by cases h) (fun _ => ?_)
    refine E.skip ?_
    refine E.seq ?_
    refine E.reg hr (by simp; rfl) ?_ -- region 21
    refine E.seq ?_
    refine E.seq ?_
    refine E.reg hr (by simp [-builtinA, len_outS Try.underlying47]; rfl) ?_ -- region 22
    refine E.block ?_ -- 2
    refine E.loop ?_
    refine EL.ind (fun x : Nat × Heap × Nat => { fr := [(1, .pointer (some ⟨n, 0, none⟩)), (3, .pointer (some ⟨n + 1, 0, none⟩)), (4, .pointer (some ⟨n + 1 + 1, 0, none⟩)), (7, .slice (some ⟨ki, 0, none⟩) Tn Tn), (9, .slice (some ⟨kl, 0, none⟩) Tn Tn), (11, outS ks S.length), (13, outS o F.length), (15, iv τ), (17, .bool ((S.take x.1).any (inS · τ))), (128, .slice (some ⟨n + 1 + 1 + 1, 0, some 0⟩) P 0), (129, iv P), (130, iv i), (175, outS ks S.length), (176, iv S.length), (177, iv x.1)], sz := 266, H := x.2.1, n := x.2.2, marks := [], vs := [1, 3, 4, 5, 7, 9, 11, 13, 14, 15, 16, 17, 128, 129, 130, 175, 176, 177] }) (fun x => S.length - x.1) (fun x => x.1 ≤ S.length ∧ GL Y M 54 2 (fcs F) F.length x.2.1 x.2.2 o) (0, Hx, N') (.keep rfl rfl rfl (by simp) (Sub.refl _)) ⟨Nat.zero_le _, hG⟩ (fun _ => rfl) ?_
    clear hG g1 g2 g3
    rintro ⟨j, Hx, N'⟩ ⟨hj, hG⟩
    dsimp only at hj hG ⊢
    have hSl : S.length ≤ 4096 := by
      have := runsV_len (fun i => decide (levV b l i = 0)) b.t.toNat
      rw [← hS]
      unfold silS
      omega
    have hwj : IntKind.i64.wrap ((j : Int) + 1) = (j : Int) + 1 := W_in (by omega) (by omega)
    refine E.seq ?_
    refine E.reg hr (by simp; rfl) ?_ -- region 23
    refine E.seq ?_
    by_cases hjl : j < S.length
    · have hS0 : S.length ≠ 0 := by omega
      have hsc := hG.sub _ _ (hsp hS0)
      have hcl : cellsA Hx ks (j * 2) 2 = some [iv S[j].1, iv S[j].2] := by
        rw [cellsA_eq, hsc]
        simp only [Option.bind_some, cellsB]
        rw [if_pos (by rw [sps_len]; omega), sps_cells hjl]
      have htj : (S.take (j + 1)).any (inS · τ) = ((S.take j).any (inS · τ) || inS S[j] τ) := by
        rw [List.take_succ_eq_append_getElem hjl, List.any_append]
        simp
      obtain ⟨sp, hspj⟩ : ∃ sp, S[j] = sp := ⟨_, rfl⟩
      rw [hspj] at hcl htj
      obtain ⟨qv, hqv⟩ : ∃ qv, (S.take j).any (inS · τ) = qv := ⟨_, rfl⟩
      rw [hqv] at htj ⊢
      have hld := load52 (s := none) hcl
      have hG2 := hG.skip hL (.cells [iv sp.1, iv sp.2] 52) rfl
      rw [outS_ne hS0]
      refine E.cond (t := true) (by simp [hjl]) (fun _ => ?_) (fun h => by cases h)
      refine E.skip ?_
      refine E.seq ?_
      refine E.block ?_ -- 3
      refine E.seq ?_
      refine E.reg hr (by simp [-loadA, hjl, hld]; rfl) ?_ -- region 24
      rw [show inS sp τ = (decide (sp.1 ≤ τ) && decide (τ < sp.2)) from rfl] at htj
      cases qv
      case' true => refine E.reg hr (by simp [yieldedA, undefV]; rfl) ?_ -- region 25
      case' false => by_cases hb1 : sp.1 ≤ τ
      case' pos => refine E.reg hr (by simp [hb1, yieldedA]; rfl) ?_ -- region 25
      case' neg => refine E.reg hr (by simp [hb1, yieldedA, undefV]; rfl) ?_ -- region 25
      all_goals
        refine E.reg hr (by simp [hwj]; rfl) ?_ -- region 26
        exact ⟨(j + 1, (N', .cells [iv sp.1, iv sp.2] 52) :: Hx, N' + 1), .keep rfl rfl rfl (by simp [htj]; try simp [hb1]) (Sub.refl _), ⟨hjl, hG2⟩, by dsimp only; omega⟩
    have hjS : j = S.length := by omega
    subst hjS
    have hqt : (S.take S.length).any (inS · τ) = decide (levV b l τ = 0) := by
      rw [List.take_length, ← hS]
      exact sil_any (by omega)
    rw [hqt]
    refine E.cond (t := false) (by simp) (fun h => by cases h) (fun _ => ?_)
    refine E.exit ?_ -- 2
    refine E.seq ?_
    refine E.seq ?_
    have hg4 : cellA Hx kl τ = some (iv (levV b l τ)) := by rw [cellA_eq, hG.sub _ _ hlv]; exact levL_at (by omega)
    have hg5 : cellA Hx ki τ = some (.bool (insideV b l (τ : Int))) := by rw [cellA_eq, hG.sub _ _ hin]; exact insL_at (by omega)
    have hlp := lev_pos (b := b) (l := l) hE τ
    have hcb := fun hz => cf_bad (F := F) (τ := τ) hE (by omega) hF (by omega) hz
    have hFn : levV b l τ ≠ 0 → ∀ q ∈ F ++ [((τ : Int), levV b l τ)], 0 ≤ q.1 ∧ q.1 < b.t ∧ q.2 = levV b l q.1.toNat ∧ levV b l q.1.toNat ≠ 0 := fun hz q hq => by
      rcases List.mem_append.1 hq with hq | hq
      · exact hF q hq
      · have : q = ((τ : Int), levV b l τ) := by simpa using hq
        subst this
        exact ⟨by show (0 : Int) ≤ τ; omega, by show (τ : Int) < b.t; omega, rfl, hz⟩
    obtain ⟨lev, hlev⟩ : ∃ lev, levV b l τ = lev := ⟨_, rfl⟩
    obtain ⟨iB, hiB⟩ : ∃ iB, insideV b l (τ : Int) = iB := ⟨_, rfl⟩
    rw [hlev] at hg4 hlp hcb hFn ⊢
    rw [hiB] at hg5 hcb
    have n5 : ¬ lev < 0 := by omega
    by_cases hz : lev = 0
    case neg =>
      obtain ⟨Hz, happ, hGz⟩ := hG.app (P := Try.prog) (st := 50) (i := Try.t54) (new := [iv (τ : Int), iv lev]) hL Try.underlying50 inf54 sz54i zo54 by54 (by omega) rfl (by omega) rfl rfl
      have hGz' : GL Y M 54 2 (fcs (F ++ [((τ : Int), lev)])) (F ++ [((τ : Int), lev)]).length Hz (N' + 1 + 1) (N' + 1) := by
        rw [fcs_snoc, List.length_append]; exact hGz
      refine E.reg hr (by simp [-cellA, hg4, hz, n5, hτT, bin_neqb, yieldedA]; rfl) ?_ -- region 27
      refine E.cond (t := false) (by simp) (fun h => by cases h) (fun _ => ?_)
      refine E.skip ?_
      refine E.seq ?_
      refine E.seq ?_
      refine E.reg hr (by simp; rfl) ?_ -- region 29
      refine E.cond (t := true) (by simp) (fun _ => ?_) (fun h => by cases h)
      refine E.seq ?_
      refine E.reg hr (by simp [-cellA, -builtinA, hg4, hτT, build54, happ]; rfl) ?_ -- region 30
      refine E.exit ?_ -- 1
      refine E.reg hr (by simp [hw]; rfl) ?_ -- region 34
      exact ⟨(i + 1, F ++ [((τ : Int), lev)], Hz, N' + 1 + 1, N' + 1), .keep rfl rfl rfl (by simp) (Sub.refl _), ⟨hil, by dsimp only; rw [List.length_append]; simp; omega, hFn hz, hGz'⟩, by dsimp only; omega⟩
    replace hcb := hcb hz
    subst hz
    refine E.reg hr (by simp [-cellA, hg4, hτT, bin_neqb, yieldedA]; rfl) ?_ -- region 27
    refine E.cond (t := false) (by simp) (fun h => by cases h) (fun _ => ?_)
    refine E.skip ?_
    refine E.seq ?_
    refine E.seq ?_
    refine E.reg hr (by simp; rfl) ?_ -- region 29
    refine E.cond (t := false) (by simp) (fun h => by cases h) (fun _ => ?_)
    refine E.skip ?_
    refine E.seq ?_
    obtain ⟨E0, hE0⟩ : ∃ E0 : Int, (if iB = true then 31 else 21) = E0 := ⟨_, rfl⟩
    rw [hE0] at hcb
    obtain ⟨c1, c2, c3⟩ : cellsA Hx (n + 1) 0 5 = some [iv b.x, iv b.y, iv b.dx, iv b.dy, iv b.t] ∧ cellsA Hx n 5 5 = some [iv b.r, iv b.s, iv b.l, iv b.c, iv b.f] ∧ cellA Hx n 10 = some (.slice oa L c) := ⟨by rw [cellsA_eq, hG.sub _ _ hY.vb]; rfl, by rw [cellsA_eq, hG.sub _ _ hY.rb]; rfl, by rw [cellA_eq, hG.sub _ _ hY.rb]; rfl⟩
    have hsg : sigV Hx (.slice oa L c) = some l := listV_mono decG_mono (Sub.trans hY.sub hG.sub) hV
    have hf9 : ∀ m, g9 [.slice oa L c] (frzH Hx) m = some (outS m l.length, outSB m 90 3 l.length (sgs l) ++ frzH Hx, m + 1) := fun m => seen_at ((listV_frz decG_frz _ _).trans hsg)
    have htk1 : takeNew N' (outSB N' 90 3 l.length (sgs l) ++ frzH Hx) = outSB N' 90 3 l.length (sgs l) := by rw [takeNew_app outSB_ge, takeNew_frz hG.nm, List.append_nil]
    have hno1 := @hno N'
    have hG3 := hG.sb hL (t' := 90) (sz' := 3) (k' := l.length) (cs' := sgs l) rfl
    have hsZ : sigV (outSB N' 90 3 l.length (sgs l) ++ Hx) (outS N' l.length) = some l := seen_sig hlt
    have hnm := hG.nm
    have hpl := hG.pl
    have nA : n < N' := by have := hY.big; have := hG.big; omega
    have nB : n + 1 < N' := by have := hY.big; have := hG.big; omega
    obtain ⟨Z, hZ⟩ : ∃ Z, outSB N' 90 3 l.length (sgs l) ++ Hx = Z := ⟨_, rfl⟩
    rw [hZ] at hG3 hsZ
    have hZn := hG3.nm
    have hZp := hG3.pl
    have hbk : ∀ H', backA [N' + 1] H' Z = Z := fun H' => backA_low (fun k hk => by rw [List.mem_singleton] at hk; omega) hZn
    have hbk2 : ∀ H', backA [N' + 1 + 1] H' Z = Z := fun H' => backA_low (fun k hk => by rw [List.mem_singleton] at hk; omega) hZn
    refine E.lead { fr := [(1, .pointer (some ⟨n, 0, none⟩)), (3, .pointer (some ⟨n + 1, 0, none⟩)), (4, .pointer (some ⟨n + 1 + 1, 0, none⟩)), (7, .slice (some ⟨ki, 0, none⟩) Tn Tn), (9, .slice (some ⟨kl, 0, none⟩) Tn Tn), (11, outS ks S.length), (13, outS o F.length), (15, iv τ), (128, .slice (some ⟨n + 1 + 1 + 1, 0, some 0⟩) P 0), (129, iv P), (130, iv i)], sz := 266, H := Hx, n := N', marks := [], vs := [1, 3, 4, 5, 7, 9, 11, 13, 14, 15, 16, 17, 128, 129, 130, 175, 176, 177] } (.keep rfl rfl rfl (by simp) (Sub.refl _)) ?_
    obtain rfl | hF0 : F = [] ∨ F ≠ [] := by
      cases F with
      | nil => exact .inl rfl
      | cons => exact .inr (by simp)
    · have hzn : ∀ k, N' + 1 ≤ k → hget Z k = none := namesOk_none hZn
      have h12 : ∀ m, g12 [.agg ⟨[iv b.x, iv b.y, iv b.dx, iv b.dy, iv b.t]⟩, .agg ⟨[iv b.r, iv b.s, iv b.l, iv b.c, iv b.f]⟩, outS N' l.length, .slice (some ⟨N' + 1 + 1 + 1, 0, some 0⟩) 1 0] ((N' + 1 + 1 + 1, .ext [iv τ, iv 1] 54 2) :: (N' + 1 + 1, .cells [iv τ, iv 1] 54) :: (N' + 1, .cells [] 54) :: Z) m = some (iv E0, (N' + 1 + 1 + 1, .ext [iv τ, iv 1] 54 2) :: (N' + 1 + 1, .cells [iv τ, iv 1] 54) :: (N' + 1, .cells [] 54) :: Z, m) := fun m => by
        have hfir : firV ((N' + 1 + 1 + 1, .ext [iv τ, iv 1] 54 2) :: (N' + 1 + 1, .cells [iv τ, iv 1] 54) :: (N' + 1, .cells [] 54) :: Z) (.slice (some ⟨N' + 1 + 1 + 1, 0, some 0⟩) 1 0) = some [((τ : Int), 1)] := listV_flat (c := fc) (l := [((τ : Int), 1)]) fc_len (fc_dec _) rfl (by rw [cellsA_eq, hget_cons, if_pos rfl]; rfl) (by simp)
        have hsig : sigV ((N' + 1 + 1 + 1, .ext [iv τ, iv 1] 54 2) :: (N' + 1 + 1, .cells [iv τ, iv 1] 54) :: (N' + 1, .cells [] 54) :: Z) (outS N' l.length) = some l := listV_mono decG_mono (Sub.cons (by simp [hzn]) (Sub.cons (by simp [hzn]) (Sub.cons (by simp [hzn]) (Sub.refl _)))) hsZ
        rw [fires_at hsig hfir hE, show cfE b l [((τ : Int), 1)] = E0 from hcb]
      have hzm : namesOk (N' + 1 + 1 + 1 + 1) Z = true := namesOk_mono (by omega) _ hZn
      refine E.drawX mixed hr [13] [5, 6, 8, 11, 12, 13] [5, 8, 12, 13] [8, 12] (by kernel_rfl) (by simp [-cellA, -cellsA, -flat, -readA, cellA_read, cellsA_read, cellsA_cons, cellsB, flat_n, handX, backA, handA_nil, hnm, hpl, c1, c2, c3, nA, nB, hf9, htk1, hno1, hZ, hbk, build54, h12, hzm]; rfl) ?_ -- region 31
      refine E.seq ?_
      obtain ⟨Nf, hNf⟩ : ∃ Nf, N' + 1 + 1 + 1 + 1 = Nf := ⟨_, rfl⟩
      obtain ⟨Xf, hXf⟩ : ∃ Xf, (N' + 1 + 1 + 1, Blk.ext [iv τ, iv 1] 54 2) :: (N' + 1 + 1, Blk.cells [iv τ, iv 1] 54) :: (N' + 1, Blk.cells [] 54) :: Z = Xf := ⟨_, rfl⟩
      have hGf := ((hG3.skip hL (.cells [] 54) rfl).skip hL (.cells [iv τ, iv 1] 54) rfl).skip hL (.ext [iv τ, iv 1] 54 2) rfl
      rw [hXf, hNf] at hGf
      have hZf : Sub Z Xf := by rw [← hXf]; exact Sub.cons (by simp [hzn]) (Sub.cons (by simp [hzn]) (Sub.cons (by simp [hzn]) (Sub.refl _)))
      have hsf : Sub Hx Xf := Sub.trans (by rw [← hZ]; exact sub_to (namesOk_none hnm _ (Nat.le_refl _))) hZf
      have hg6 : cellA Xf ki τ = some (.bool iB) := hsf.cell hg5
      refine E.lead { fr := [(1, .pointer (some ⟨n, 0, none⟩)), (3, .pointer (some ⟨n + 1, 0, none⟩)), (4, .pointer (some ⟨n + 1 + 1, 0, none⟩)), (7, .slice (some ⟨ki, 0, none⟩) Tn Tn), (9, .slice (some ⟨kl, 0, none⟩) Tn Tn), (11, outS ks S.length), (13, outS o 0), (15, iv τ), (20, iv E0), (128, .slice (some ⟨n + 1 + 1 + 1, 0, some 0⟩) P 0), (129, iv P), (130, iv i)], sz := 266, H := Xf, n := Nf, marks := [], vs := [1, 3, 4, 5, 7, 9, 11, 13, 14, 15, 16, 17, 128, 129, 130, 175, 176, 177] } (.keep hNf.symm rfl rfl (by simp) (by rw [← hXf]; exact Sub.refl _)) ?_
      cases iB
      case' false => have hE1' : E0 = 21 := hE0.symm
      case' true => have hE1' : E0 = 31 := hE0.symm
      all_goals
        subst hE1'
        refine E.reg hr (by simp [-cellA, hg6, hτT, yieldedA, undefV]; rfl) ?_ -- region 32
        refine E.cond (t := false) (by simp) (fun h => by cases h) (fun _ => ?_)
        refine E.skip ?_
        refine E.reg hr (by simp [hw]; rfl) ?_ -- region 34
        exact ⟨(i + 1, [], Xf, Nf, o), .keep rfl rfl rfl (by simp) (Sub.refl _), ⟨hil, by dsimp only; simp, hF, hGf⟩, by dsimp only; omega⟩
    · have hzn : ∀ k, N' + 1 ≤ k → hget Z k = none := namesOk_none hZn
      have hF1 : F.length ≠ 0 := fun e => hF0 (List.length_eq_zero_iff.1 e)
      obtain ⟨ho, hoN⟩ := hG3.out hF1
      have hoN' := (hG.out hF1).2
      have hflen : (fcs F).length = F.length * 2 := flat_len fc_len F
      have e1 : ¬ N' + 1 = o := by omega
      have e2 : ¬ o = N' + 1 := by omega
      have hcF : cellsA (handA [N' + 1, o] [N' + 1] Z) o 0 (F.length * 2) = some (fcs F) := by
        rw [cellsA_eq, hget_handA hZp, ho]
        simp only [memN_false e2, memN_true2, Bool.false_eq_true, if_false, if_true, Option.map_some, frz, Option.bind_some, cellsB]
        rw [if_pos (by rw [hflen]; omega), List.drop_zero, List.take_of_length_le (by rw [hflen]; omega)]
      have hone : oneL (fcs F) = true := fcs_one F
      have hoN2 : o < N' + 1 + 1 := by omega
      have hF2 : ¬ F.length * 2 = 0 := by omega
      have hsmA : F.length * 16 ≤ 1099511627776 ∧ F.length ≤ 1099511627776 := by omega
      have hsmB : (F.length + 1) * 16 ≤ 1099511627776 ∧ F.length + 1 ≤ 1099511627776 := by omega
      have hle : ¬ (F.length + 1) * 2 ≤ F.length * 2 := by omega
      have htkF : (fcs F).take (F.length * 2) = fcs F := List.take_of_length_le (by rw [hflen]; omega)
      obtain ⟨Zf, hZfe⟩ : ∃ Zf, (N' + 1 + 1 + 1 + 1, Blk.ext (fcs F ++ [iv τ, iv 1]) 54 2) :: (N' + 1 + 1 + 1, Blk.cells [iv τ, iv 1] 54) :: (N' + 1, Blk.cells [] 54) :: Z = Zf := ⟨_, rfl⟩
      have hsZf : Sub Z Zf := by rw [← hZfe]; exact Sub.cons (by simp [hzn]) (Sub.cons (by simp [hzn]) (Sub.cons (by simp [hzn]) (Sub.refl _)))
      have h12 : ∀ m, g12 [.agg ⟨[iv b.x, iv b.y, iv b.dx, iv b.dy, iv b.t]⟩, .agg ⟨[iv b.r, iv b.s, iv b.l, iv b.c, iv b.f]⟩, outS N' l.length, .slice (some ⟨N' + 1 + 1 + 1 + 1, 0, some 0⟩) (F.length + 1) 0] ((N' + 1 + 1 + 1 + 1, Blk.ext (fcs F ++ [iv τ, iv 1]) 54 2) :: (N' + 1 + 1 + 1, Blk.cells [iv τ, iv 1] 54) :: (N' + 1, Blk.cells [] 54) :: Z) m = some (iv E0, Zf, m) := fun m => by
        rw [hZfe]
        have hfir : firV Zf (.slice (some ⟨N' + 1 + 1 + 1 + 1, 0, some 0⟩) (F ++ [((τ : Int), (1 : Int))]).length 0) = some (F ++ [((τ : Int), 1)]) := listV_flat (c := fc) fc_len (fc_dec _) rfl (by
          rw [← hZfe, cellsA_eq, hget_cons, if_pos rfl]
          show cellsB 0 _ (.ext (fcs F ++ [iv τ, iv 1]) 54 2) = some (fcs (F ++ [((τ : Int), 1)]))
          rw [fcs_snoc]
          simp only [cellsB]
          rw [if_pos (by rw [List.length_append, List.length_append, hflen]; simp; omega), List.drop_zero, List.take_of_length_le (by rw [List.length_append, List.length_append, hflen]; simp; omega)]) (by rw [List.length_append]; simp; omega)
        rw [show (F ++ [((τ : Int), (1 : Int))]).length = F.length + 1 by rw [List.length_append]; rfl] at hfir
        rw [fires_at (listV_mono decG_mono hsZf hsZ) hfir hE, hcb]
      have hZfn : namesOk (N' + 1 + 1 + 1 + 1 + 1) Zf = true := by
        rw [← hZfe]
        exact namesOk_put (by omega) (namesOk_put (by omega) (namesOk_put (by omega) (namesOk_mono (by omega) _ hZn)))
      have hzm : namesOk (N' + 1 + 1 + 1 + 1 + 1) Z = true := namesOk_mono (by omega) _ hZn
      rw [outS_ne hF1]
      refine E.drawX mixed hr [13] [5, 6, 8, 11, 12, 13] [5, 8, 12, 13] [8, 12] (by kernel_rfl) (by simp [-cellA, -cellsA, -flat, -readA, cellA_read, cellsA_read, cellsA_cons, cellsB, flat_n, flat_z, handX, backA, handA_nil, hget_hdel, hnm, hpl, c1, c2, c3, nA, nB, hf9, htk1, hno1, hZ, hbk, hbk2, build54, e1, hoN', hoN2, hF2, hF1, hZfn, hcF, hflen, hone, hsmA, hsmB, hle, htkF, h12]; rfl) ?_ -- region 31
      refine E.seq ?_
      obtain ⟨Nf, hNf⟩ : ∃ Nf, N' + 1 + 1 + 1 + 1 + 1 = Nf := ⟨_, rfl⟩
      obtain ⟨Xf, hXf⟩ : ∃ Xf, Zf = Xf := ⟨_, rfl⟩
      have hGf : GL Y M 54 2 (fcs F) F.length Xf Nf o := by
        rw [← hXf, ← hNf, ← hZfe]
        have g := hG3.skip hL (.cells [] 54) rfl
        exact ((GL.up g 1).skip hL (.cells [iv τ, iv 1] 54) rfl).skip hL (.ext (fcs F ++ [iv τ, iv 1]) 54 2) rfl
      have hZf : Sub Z Xf := by rw [← hXf]; exact hsZf
      have hsf : Sub Hx Xf := Sub.trans (by rw [← hZ]; exact sub_to (namesOk_none hnm _ (Nat.le_refl _))) hZf
      have hg6 : cellA Xf ki τ = some (.bool iB) := hsf.cell hg5
      refine E.lead { fr := [(1, .pointer (some ⟨n, 0, none⟩)), (3, .pointer (some ⟨n + 1, 0, none⟩)), (4, .pointer (some ⟨n + 1 + 1, 0, none⟩)), (7, .slice (some ⟨ki, 0, none⟩) Tn Tn), (9, .slice (some ⟨kl, 0, none⟩) Tn Tn), (11, outS ks S.length), (13, outS o F.length), (15, iv τ), (20, iv E0), (128, .slice (some ⟨n + 1 + 1 + 1, 0, some 0⟩) P 0), (129, iv P), (130, iv i)], sz := 266, H := Xf, n := Nf, marks := [], vs := [1, 3, 4, 5, 7, 9, 11, 13, 14, 15, 16, 17, 128, 129, 130, 175, 176, 177] } (.keep hNf.symm rfl rfl (by simp [outS_ne hF1]) (by rw [← hXf]; exact Sub.refl _)) ?_
      cases iB
      case' false => have hE1' : E0 = 21 := hE0.symm
      case' true => have hE1' : E0 = 31 := hE0.symm
      all_goals
        subst hE1'
        refine E.reg hr (by simp [-cellA, hg6, hτT, yieldedA, undefV]; rfl) ?_ -- region 32
        refine E.cond (t := false) (by simp) (fun h => by cases h) (fun _ => ?_)
        refine E.skip ?_
        refine E.reg hr (by simp [hw]; rfl) ?_ -- region 34
        exact ⟨(i + 1, F, Xf, Nf, o), .keep rfl rfl rfl (by simp) (Sub.refl _), ⟨hil, by dsimp only; omega, hF, hGf⟩, by dsimp only; omega⟩
end Go.Proofs.Ytljglocehbccnaa

namespace Go.Proofs.Ytljglocehbccnaa
open Go Go.Ab Go.Proofs Go.ChangeShapes Go.WideShapes Go.ChangeAt Go.RowKit
theorem fits_cons {a : Leaf} {bs : List Leaf} {r : List Value} (h : fitsL (a :: bs) r) : ∃ v vs, r = v :: vs ∧ a.fits v ∧ fitsL bs vs := by
  cases r with
  | nil => exact h.elim
  | cons v vs => exact ⟨v, vs, rfl, h.1, h.2⟩
theorem fits_nil {r : List Value} (h : fitsL [] r) : r = [] := by
  cases r with
  | nil => rfl
  | cons v vs => exact h.elim
theorem leafs5 : leafs Try.prog 6 5 = some [.int .u8] := by kernel_rfl
theorem leafs25 : leafs Try.prog 6 25 = some [.int .i64, .int .i64, .int .i64, .int .i64, .int .i64] := by kernel_rfl
theorem leafs27 : leafs Try.prog 6 27 = some [.int .i64, .int .i64, .int .i64, .int .i64, .int .i64] := by kernel_rfl
theorem leafs89 : leafs Try.prog 6 89 = some [.int .i64, .int .i64, .int .i64] := by kernel_rfl
theorem fits_five {r : List Value} (h : fitsL [.int .i64, .int .i64, .int .i64, .int .i64, .int .i64] r) : ∃ a b c d e : Int, r = [iv a, iv b, iv c, iv d, iv e] := by
  obtain ⟨_, _, rfl, ⟨a, rfl, _⟩, h1⟩ := fits_cons h
  obtain ⟨_, _, rfl, ⟨b, rfl, _⟩, h2⟩ := fits_cons h1
  obtain ⟨_, _, rfl, ⟨c, rfl, _⟩, h3⟩ := fits_cons h2
  obtain ⟨_, _, rfl, ⟨d, rfl, _⟩, h4⟩ := fits_cons h3
  obtain ⟨_, _, rfl, ⟨e, rfl, _⟩, h5⟩ := fits_cons h4
  obtain rfl := fits_nil h5
  exact ⟨a, b, c, d, e, rfl⟩
theorem fits_u8 {v : Value} (h : fitsL [.int .u8] [v]) : ∃ n : Int, v = .int .u8 n ∧ 0 ≤ n ∧ n < 256 := by
  obtain ⟨_, _, e, ⟨n, rfl, hn⟩, _⟩ := fits_cons h
  injection e with e _
  subst e
  refine ⟨n, rfl, ?_⟩
  simp [Lit.wf, IntKind.min, IntKind.max, IntKind.signed, IntKind.bits] at hn
  omega
theorem fits_sgs : ∀ rows : List (List Value), (∀ r ∈ rows, fitsL [.int .i64, .int .i64, .int .i64] r) → ∃ l : List Sg, rows.flatten = sgs l ∧ l.length = rows.length
  | [], _ => ⟨[], rfl, rfl⟩
  | r :: rows, h => by
    obtain ⟨_, _, e1, ⟨a, rfl, _⟩, h1⟩ := fits_cons (h r (List.mem_cons_self ..))
    obtain ⟨_, _, rfl, ⟨b, rfl, _⟩, h2⟩ := fits_cons h1
    obtain ⟨_, _, rfl, ⟨c, rfl, _⟩, h3⟩ := fits_cons h2
    obtain rfl := fits_nil h3
    obtain ⟨l, f1, f2⟩ := fits_sgs rows fun r hr => h r (List.mem_cons_of_mem _ hr)
    exact ⟨⟨a, b, c⟩ :: l, by rw [List.flatten_cons, f1, e1]; rfl, by simp [f2]⟩
set_option maxRecDepth 100000 in
theorem open_run {H : Type} {enc : TypeId × Value → H} {W : World} {base : Nat} {v : Value} {d : DataW H} {p : List MemPlace} (hv : Value.okWide Try.prog W .any base 30 v) (h : DataW.Trod enc Try.prog W 0 (fun _ => true) true 30 v d p) :
    ∃ (b : Brg) (s : Value) (u1 u2 u3 : Int), v = b.run s u1 u2 u3 ∧ (0 ≤ u1 ∧ u1 < 256) ∧ (0 ≤ u2 ∧ u2 < 256) ∧ (0 ≤ u3 ∧ u3 < 256) ∧
      (s = .slice none 0 0 ∨ ∃ (k o c : Nat) (l : List Sg), s = .slice (some ⟨k, o, none⟩) l.length c ∧ ∃ cs t fz, W.heap[k]? = some (.cells cs t fz) ∧ ∀ i, i < (sgs l).length → cs[o + i]? = (sgs l)[i]?) := by
  unfold Value.okWide at hv
  rw [Try.underlying30] at hv
  obtain ⟨cs, rfl, hsz, ts, hts, _, hrow⟩ := hv
  rw [show Try.prog.cellTypes Try.prog.depth 30 = some [3, 3, 3, 3, 3, 3, 3, 3, 3, 3, 28, 5, 5, 5] by kernel_rfl] at hts
  injection hts with hts; subst hts
  rw [show Try.prog.cellsOf 30 = 14 by kernel_rfl] at hsz
  obtain ⟨l⟩ := cs
  match l, hsz with
  | [v0, v1, v2, v3, v4, v5, v6, v7, v8, v9, v10, v11, v12, v13], _ =>
    obtain ⟨u', h2, h3⟩ := hrow 10 v10 rfl
    obtain rfl : 28 = u' := by simpa using h2
    obtain ⟨fuel, h⟩ := h
    obtain ⟨xs, m, rfl, _, hlen, hxl, hel⟩ := DataW.trod_struct Try.underlying30 h
    have key : ∀ j (f : Field), (match Try.prog.underlying 30 with | some (.struct fs) => fs[j]? | _ => none) = some f → ∃ y, DataW.trod enc Try.prog W 0 (fun _ => true) true m f.type (([v0, v1, v2, v3, v4, v5, v6, v7, v8, v9, v10, v11, v12, v13].drop f.offset).take (Try.prog.cellsOf f.type)) = some y := fun j f hf => by
      rw [Try.underlying30] at hf
      have h4 := hel j f hf
      have hpos := (Array.getElem?_eq_some_iff.1 hf).1
      obtain ⟨y, hy⟩ : ∃ y, xs[j]? = some y := ⟨xs[j]'(by omega), by simp⟩
      rw [hy] at h4
      exact ⟨y, by simpa [Value.cells] using h4⟩
    obtain ⟨y0, k0⟩ := key 0 _ (by rw [Try.underlying30]; rfl)
    obtain ⟨y1, k1⟩ := key 1 _ (by rw [Try.underlying30]; rfl)
    obtain ⟨y2, k2⟩ := key 2 _ (by rw [Try.underlying30]; rfl)
    obtain ⟨y3, k3⟩ := key 3 _ (by rw [Try.underlying30]; rfl)
    obtain ⟨y4, k4⟩ := key 4 _ (by rw [Try.underlying30]; rfl)
    obtain ⟨y5, k5⟩ := key 5 _ (by rw [Try.underlying30]; rfl)
    have l0 : fitsL [.int .i64, .int .i64, .int .i64, .int .i64, .int .i64] [v0, v1, v2, v3, v4] := by
      rw [← show (([v0, v1, v2, v3, v4, v5, v6, v7, v8, v9, v10, v11, v12, v13].drop 0).take (Try.prog.cellsOf 25)) = [v0, v1, v2, v3, v4] by kernel_rfl]
      exact leafs_ok 6 25 _ m _ y0 leafs25 k0
    have l1 : fitsL [.int .i64, .int .i64, .int .i64, .int .i64, .int .i64] [v5, v6, v7, v8, v9] := by
      rw [← show (([v0, v1, v2, v3, v4, v5, v6, v7, v8, v9, v10, v11, v12, v13].drop 5).take (Try.prog.cellsOf 27)) = [v5, v6, v7, v8, v9] by kernel_rfl]
      exact leafs_ok 6 27 _ m _ y1 leafs27 k1
    have k2' : DataW.trod enc Try.prog W 0 (fun _ => true) true m 28 [v10] = some y2 := by
      rw [← show (([v0, v1, v2, v3, v4, v5, v6, v7, v8, v9, v10, v11, v12, v13].drop 10).take (Try.prog.cellsOf 28)) = [v10] by kernel_rfl]
      exact k2
    have l3 : fitsL [.int .u8] [v11] := by
      rw [← show (([v0, v1, v2, v3, v4, v5, v6, v7, v8, v9, v10, v11, v12, v13].drop 11).take (Try.prog.cellsOf 5)) = [v11] by kernel_rfl]
      exact leafs_ok 6 5 _ m _ y3 leafs5 k3
    have l4 : fitsL [.int .u8] [v12] := by
      rw [← show (([v0, v1, v2, v3, v4, v5, v6, v7, v8, v9, v10, v11, v12, v13].drop 12).take (Try.prog.cellsOf 5)) = [v12] by kernel_rfl]
      exact leafs_ok 6 5 _ m _ y4 leafs5 k4
    have l5 : fitsL [.int .u8] [v13] := by
      rw [← show (([v0, v1, v2, v3, v4, v5, v6, v7, v8, v9, v10, v11, v12, v13].drop 13).take (Try.prog.cellsOf 5)) = [v13] by kernel_rfl]
      exact leafs_ok 6 5 _ m _ y5 leafs5 k5
    obtain ⟨x, y, dx, dy, t, e0⟩ := fits_five l0
    obtain ⟨r, sp, ls, c, f, e1⟩ := fits_five l1
    obtain ⟨u1, rfl, hu1⟩ := fits_u8 l3
    obtain ⟨u2, rfl, hu2⟩ := fits_u8 l4
    obtain ⟨u3, rfl, hu3⟩ := fits_u8 l5
    simp only [List.cons.injEq, and_true] at e0 e1
    obtain ⟨rfl, rfl, rfl, rfl, rfl⟩ := e0
    obtain ⟨rfl, rfl, rfl, rfl, rfl⟩ := e1
    refine ⟨⟨r, sp, ls, c, f, x, y, dx, dy, t⟩, v10, u1, u2, u3, rfl, hu1, hu2, hu3, ?_⟩
    rcases handed_slice (d := 6) Try.underlying28 leafs89 (by kernel_rfl) (by simp) h3 k2' with h0 | ⟨k, o, len, cap, rows, e, h5, h6, h7, h8, cs, t', fz, hw, hc⟩
    · exact .inl h0
    · obtain ⟨l, f1, f2⟩ := fits_sgs rows h8
      have : len = l.length := by omega
      subst this
      rw [f1] at hc
      exact .inr ⟨k, o, cap, l, e, cs, t', fz, hw, hc⟩
end Go.Proofs.Ytljglocehbccnaa

/-
The closed facts of the seat, those of the program alone.
-/
namespace Go.Proofs.Ytljglocehbccnaa
open Go
theorem jfp1 : laidOutB Try.prog = true := by kernel_rfl
theorem jfp2 : mapsRowed Try.prog = true := by kernel_rfl
theorem jfp6 : (Try.prog.stops == []) = true := by kernel_rfl
theorem jfp8 : (Try.prog.stopKnobs == []) = true := by kernel_rfl
theorem jfp22 : (Rows.topSpraySilentRow.plainKeys == Try.prog.plainKeys) = true := by kernel_rfl
theorem jfp24 : Try.prog.stopsHeard = true := by kernel_rfl
theorem jfp25 : Try.prog.mayEnter = true := by kernel_rfl
theorem jfp26 : (Rows.topSpraySilentRow.lifted == Try.prog.liftsFinal) = true := by kernel_rfl
theorem jfp27 : (Try.prog.make == some Rows.topSpraySilentRow.make) = true := by kernel_rfl
theorem and2 {a b : Bool} (ha : a = true) (hb : b = true) : (a && b) = true := by rw [ha, hb]; rfl
end Go.Proofs.Ytljglocehbccnaa

/-
The closed facts of the row of topSpraySilent, one by one.
-/
namespace Go.Proofs.Ytljglocehbccnaa
open Go
namespace topSpraySilent
theorem jf0 : OpenClaim.wf (OpenSpec.ofChange Rows.topSpraySilentSpec) Rows.topSpraySilentRow = true := by kernel_rfl
theorem jf1 : laidOutB Try.prog = true := jfp1
theorem jf2 : mapsRowed Try.prog = true := jfp2
theorem jf3 : Try.f3.params.all (Try.prog.readableRec ·) = true := by kernel_rfl
theorem jf4 : namedTie Try.prog Rows.topSpraySilentRow.named Rows.topSpraySilentSpec.vars = true := by kernel_rfl
theorem jf5 : (Rows.topSpraySilentRow.stops == []) = true := by kernel_rfl
theorem jf6 : (Try.prog.stops == []) = true := jfp6
theorem jf7 : (Rows.topSpraySilentRow.knobs == []) = true := by kernel_rfl
theorem jf8 : (Try.prog.stopKnobs == []) = true := jfp8
theorem jf9 : (Rows.topSpraySilentRow.inPlace == Try.prog.inPlace 3) = true := by kernel_rfl
theorem jf10 : (Rows.topSpraySilentRow.unfollowed == Try.prog.unfollowed 3) = true := by kernel_rfl
theorem jf11 : (Rows.topSpraySilentRow.recurses == Try.prog.recurses 3) = true := by kernel_rfl
theorem jf12 : (Rows.topSpraySilentRow.named == Try.prog.varsNamed 3) = true := by kernel_rfl
theorem jf13 : (Rows.topSpraySilentRow.maps == (Try.f3.params.toList ++ Rows.topSpraySilentSpec.plain.varTypes Try.prog).any (Try.prog.mapsRec ·)) = true := by kernel_rfl
theorem jf14 : (Rows.topSpraySilentRow.ifaces == (Try.f3.params.toList ++ Rows.topSpraySilentSpec.plain.varTypes Try.prog).any (Try.prog.ifacesRec ·)) = true := by kernel_rfl
theorem jf15 : (Rows.topSpraySilentRow.mapsOut == Try.prog.mapsAmong Try.f3.resultTypes.toList) = true := by kernel_rfl
theorem jf16 : (Rows.topSpraySilentRow.loops == (Try.f3.params.toList ++ Rows.topSpraySilentSpec.plain.varTypes Try.prog).any (Try.prog.loopsFrom ·)) = true := by kernel_rfl
theorem jf17 : (Rows.topSpraySilentRow.wideKeys == (Try.f3.params.toList ++ Rows.topSpraySilentSpec.plain.varTypes Try.prog ++ Try.f3.resultTypes.toList).any (Try.prog.wideKeysFrom ·)) = true := by kernel_rfl
theorem jf18 : Rows.topSpraySilentSpec.vars.all (Try.prog.varReadable ·) = true := by kernel_rfl
theorem jf19 : Try.f3.resultTypes.all (fun t => Try.prog.readableRec t && decide (t < Try.prog.types.size)) = true := by kernel_rfl
theorem jf20 : (Rows.topSpraySilentRow.ifacesOut == Try.f3.resultTypes.toList.any (Try.prog.ifacesRec ·)) = true := by kernel_rfl
theorem jf21 : (Rows.topSpraySilentRow.loopsOut == Try.f3.resultTypes.toList.any (Try.prog.loopsFrom ·)) = true := by kernel_rfl
theorem jf22 : (Rows.topSpraySilentRow.plainKeys == Try.prog.plainKeys) = true := jfp22
theorem jf23 : Rows.topSpraySilentRow.shortTexts.isNone = true := by kernel_rfl
theorem jf24 : Try.prog.stopsHeard = true := jfp24
theorem jf25 : Try.prog.mayEnter = true := jfp25
theorem jf26 : (Rows.topSpraySilentRow.lifted == Try.prog.liftsFinal) = true := jfp26
theorem jf27 : (Try.prog.make == some Rows.topSpraySilentRow.make) = true := jfp27
theorem jf28 : (Rows.topSpraySilentRow.kinds == (if Rows.topSpraySilentRow.domain.isEmpty then [] else Try.f3.params.toList.map fun t => match Try.prog.underlying t with | some (.int k) => some k | _ => none)) = true := by kernel_rfl
theorem jf29 : (Rows.topSpraySilentRow.pinned == Rows.topSpraySilentRow.pinnedBy) = true := by kernel_rfl
theorem jf30 : (Rows.topSpraySilentRow.veiled == (Try.f3.params.toList ++ Rows.topSpraySilentSpec.plain.varTypes Try.prog ++ Try.f3.resultTypes.toList).any (Try.prog.veiledRec ·)) = true := by kernel_rfl
theorem jf31 : OpenClaim.veiledFits Rows.topSpraySilentRow Try.prog Try.f3.params.toList (Try.f3.params.toList ++ Rows.topSpraySilentSpec.plain.varTypes Try.prog ++ Try.f3.resultTypes.toList) = true := by kernel_rfl
set_option maxRecDepth 100000 in
theorem facts : joinedFacts Try.prog 3 Try.f3 Rows.topSpraySilentSpec Rows.topSpraySilentRow = true := by
  unfold joinedFacts
  exact (and2 (and2 (and2 (and2 (and2 (and2 (and2 (and2 (and2 (and2 (and2 (and2 (and2 (and2 (and2 (and2 (and2 (and2 (and2 (and2 (and2 (and2 (and2 (and2 (and2 (and2 (and2 (and2 (and2 (and2 (and2 jf0 jf1) jf2) jf3) jf4) jf5) jf6) jf7) jf8) jf9) jf10) jf11) jf12) jf13) jf14) jf15) jf16) jf17) jf18) jf19) jf20) jf21) jf22) jf23) jf24) jf25) jf26) jf27) jf28) jf29) jf30) jf31)
end topSpraySilent
end Go.Proofs.Ytljglocehbccnaa
