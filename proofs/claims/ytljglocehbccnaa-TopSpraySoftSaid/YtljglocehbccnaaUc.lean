/-
The walk through what TopSpraySoft reaches, and the plain law behind it (no condition).
-/
import Derived.Test.YtljglocehbccnaaUb
import Derived.Test.YtljglocehbccnaaAh
namespace Go.Proofs.Ytljglocehbccnaa
open Go Go.Ab Go.Proofs
set_option maxRecDepth 20000
def Sg.cells (q : Sg) : List Value := [iv q.tk, iv q.x, iv q.y]
def sgs (l : List Sg) : List Value := l.flatMap Sg.cells
theorem sgs_snoc (l : List Sg) (q : Sg) : sgs (l ++ [q]) = sgs l ++ [iv q.tk, iv q.x, iv q.y] := by simp [sgs, Sg.cells]
theorem sgs_len : ∀ l : List Sg, (sgs l).length = l.length * 3
  | [] => rfl
  | q :: l => by
    show (q.cells ++ sgs l).length = _
    rw [List.length_append, sgs_len l, List.length_cons]
    show 3 + _ = _
    omega
theorem sgs_af : ∀ l : List Sg, afL (sgs l) = true
  | [] => rfl
  | q :: l => by
    show afL (q.cells ++ sgs l) = true
    simp [Sg.cells, afL, sgs_af l]
theorem sgs_ren (ρ : Nat → Nat) (l : List Sg) : renL ρ (sgs l) = sgs l := renL_afl ρ _ fun v hv => by
  unfold sgs at hv
  obtain ⟨g, _, hv⟩ := List.mem_flatMap.1 hv
  simp only [Sg.cells, List.mem_cons, List.not_mem_nil, or_false] at hv
  rcases hv with rfl | rfl | rfl <;> rfl
theorem sz90i : Try.t90.size = 3 := by kernel_rfl
theorem by90 : Try.t90.bytes ≤ 128 := by decide +kernel
theorem zo90 : zeroOk Try.t90 = true := by kernel_rfl
theorem w9 {H : Heap} {n : Nat} {v : Value} {l : List Sg} (hV : sigV H v = some l) : AC Try.prog 9 [v] H n (outS n l.length) (outSB n 90 3 l.length (sgs l) ++ H) (n + 1) := by
  refine AC.given fun hold hsc hgn => AC.tidied (fun x hx => ?_) ?_
  · unfold outSB at hx
    split at hx
    · cases hx
    · rw [List.mem_singleton] at hx; subst hx; exact Nat.le_refl _
  replace hV : sigV (tidy n H) v = some l := listV_tidy decG_tidy (fun k b h => (hold k b h).1) hV
  have hr := recT_ok (P := Try.prog) (l := []) (by simp)
  obtain ⟨oa, c, rfl, hlt, hrow⟩ := sigV_form hV
  refine AC.grown Try.func9 rfl (by kernel_rfl) rfl [3, 6, 7, 8] ?_
  refine E.seq ?_
  refine E.reg hr (by simp; rfl) ?_ -- region 0
  refine E.seq ?_
  refine E.reg hr (by simp; rfl) ?_ -- region 1
  refine E.seq ?_
  refine E.seq ?_
  refine E.reg hr (by simp; rfl) ?_ -- region 2
  refine E.block ?_ -- 0
  refine E.loop ?_
  refine EL.ind (fun x : Nat × Heap × Nat × Nat => { fr := [(3, outS x.2.2.2 x.1), (6, .slice oa l.length c), (7, iv l.length), (8, iv x.1)], sz := 18, H := x.2.1, n := x.2.2.1, marks := [], vs := [3, 6, 7, 8] }) (fun x => l.length - x.1) (fun x => x.1 ≤ l.length ∧ GL (tidy n H) n 90 3 (sgs (l.take x.1)) x.1 x.2.1 x.2.2.1 x.2.2.2) (0, tidy n H, n, n) (.keep rfl rfl rfl (by simp) (Sub.refl _)) ⟨Nat.zero_le _, by simpa [sgs] using GL.start (t := 90) (sz := 3) (Sub.refl (tidy n H)) namesOk_tidy (Nat.le_refl n) (by simp)⟩ (fun _ => rfl) ?_
  rintro ⟨i, Hx, N, o⟩ ⟨hi, hG⟩
  dsimp only at hi hG ⊢
  have hw : IntKind.i64.wrap ((i : Int) + 1) = (i : Int) + 1 := W_in (by omega) (by omega)
  refine E.seq ?_
  refine E.reg hr (by simp; rfl) ?_ -- region 3
  refine E.seq ?_
  by_cases hil : i < l.length
  · obtain ⟨a, rfl, hf, hc⟩ := hrow i hil
    have hld := load89 (s := none) (hG.sub.cells hc)
    have htk : l.take (i + 1) = l.take i ++ [l[i]] := List.take_succ_eq_append_getElem hil
    obtain ⟨q, hq⟩ : ∃ q, l[i] = q := ⟨_, rfl⟩
    rw [hq] at hld htk
    have hG2 := hG.skip tidy_lt (.cells [iv q.tk, iv q.x, iv q.y] 89) rfl
    obtain ⟨Hz, happ, hGz⟩ := hG2.app (P := Try.prog) (st := 44) (i := Try.t90) (new := [iv q.tk, iv q.x, iv q.y]) tidy_lt Try.underlying44 inf90 sz90i zo90 by90 (by omega) rfl (by omega) rfl rfl
    rw [← sgs_snoc, ← htk] at hGz
    refine E.cond (t := true) (by simp [hil]) (fun _ => ?_) (fun h => by cases h)
    refine E.skip ?_
    refine E.seq ?_
    refine E.block ?_ -- 1
    refine E.seq ?_
    refine E.reg hr (by simp [-loadA, -flat, hil, hf, hld]; rfl) ?_ -- region 4
    refine E.reg hr (by simp [-builtinA, happ]; rfl) ?_ -- region 5
    refine E.reg hr (by simp [hw]; rfl) ?_ -- region 6
    exact ⟨(i + 1, Hz, N + 1 + 1 + 1, N + 1 + 1), .keep rfl rfl rfl (by simp) (Sub.refl _), ⟨hil, hGz⟩, by dsimp only; omega⟩
  · have hil' : i = l.length := by omega
    subst hil'
    rw [List.take_length] at hG
    refine E.cond (t := false) (by simp) (fun h => by cases h) (fun _ => ?_)
    refine E.exit ?_ -- 0
    refine E.seq ?_
    refine E.reg hr (by simp; rfl) ?_ -- region 7
    refine E.ret ?_
    exact outK.ret rfl rfl (hG.fresh (Nat.le_refl _) (sgs_af l) fun ρ => sgs_ren ρ l)
end Go.Proofs.Ytljglocehbccnaa

namespace Go.Proofs.Ytljglocehbccnaa
open Go Go.Ab Go.Proofs
set_option maxRecDepth 20000
def shortV (t : Int) (L : Nat) : Bool := (decide (t ≤ 60) || decide (4096 < t)) && (decide (L ≤ 6) || decide (L = 65))
theorem w19 {H : Heap} {n : Nat} (x y dx dy t : Int) (oa : Option Addr) (L c : Nat) : AC Try.prog 19 [.agg ⟨[iv x, iv y, iv dx, iv dy, iv t]⟩, .slice oa L c] H n (.bool (shortV t L)) H n := by
  refine AC.given fun hold hsc _ => AC.tidied (B := []) (by simp) ?_
  have hr := recT_ok (P := Try.prog) (l := []) (by simp)
  refine AC.pure Try.func19 rfl (by kernel_rfl) rfl [] rfl ?_
  refine E.seq ?_
  refine E.reg hr (by simp; rfl) ?_ -- region 0
  refine E.seq ?_
  unfold shortV
  by_cases h1 : t ≤ 60 <;> by_cases h2 : 4096 < t <;> by_cases h3 : L ≤ 6 <;> by_cases h4 : L = 65 <;>
  · have h4' : ((L : Int) = 65) ↔ L = 65 := by omega
    have h3' : ((L : Int) ≤ 6) ↔ L ≤ 6 := by omega
    refine E.reg hr (by simp [h1, h2, h3, h4, h3', h4', yieldedA, undefV]; rfl) ?_ -- region 1
    refine E.ret ?_
    exact pureK.ret rfl rfl (by simp [h1, h2, h3, h4]) (Sub.cons (by simp) (Sub.refl _))
def g19 (args : List Value) (H : Heap) (n : Nat) : R := match args with
  | [.agg ⟨[.int .i64 _, .int .i64 _, .int .i64 _, .int .i64 _, .int .i64 t]⟩, .slice _ L _] => some (.bool (shortV t L), H, n)
  | _ => none
theorem ok19 : EntOk Try.prog (19, g19) := by
  intro args H n v H' n' h
  simp only [g19] at h
  split at h
  · injection h with h; injection h with e1 e2; injection e2 with e2 e3; subst e1 e2 e3
    exact w19 _ _ _ _ _ _ _ _
  · cases h
def g20 (args : List Value) (H : Heap) (n : Nat) : R := match args with
  | [.agg ⟨[.int .i64 x, .int .i64 y, .int .i64 dx, .int .i64 dy, .int .i64 t]⟩, .agg ⟨[.int .i64 r, .int .i64 s, .int .i64 l, .int .i64 c, .int .i64 f]⟩, v] => (sigV H v).map fun q => (iv (brE ⟨r, s, l, c, f, x, y, dx, dy, t⟩ q), H, n)
  | _ => none
theorem ok20 : EntOk Try.prog (20, g20) := by
  intro args H n v H' n' h
  simp only [g20] at h
  split at h
  · rw [Option.map_eq_some_iff] at h
    obtain ⟨l, h4, h⟩ := h
    injection h with e1 e2; injection e2 with e2 e3; subst e1 e2 e3
    exact w20 ⟨_, _, _, _, _, _, _, _, _, _⟩ h4
  · cases h
def Brg.run (b : Brg) (v : Value) (p q r : Int) : Value := .agg ⟨[iv b.x, iv b.y, iv b.dx, iv b.dy, iv b.t, iv b.r, iv b.s, iv b.l, iv b.c, iv b.f, v, .int .u8 p, .int .u8 q, .int .u8 r]⟩
def runV (b : Brg) (L : Nat) (l : List Sg) : Bool := shortV b.t L && decide (brE b l = 0)
theorem w5 {H : Heap} {n : Nat} (b : Brg) {oa : Option Addr} {L c : Nat} {l : List Sg} (p q r : Int) (hV : shortV b.t L = true → sigV H (.slice oa L c) = some l) : AC Try.prog 5 [b.run (.slice oa L c) p q r] H n (.bool (runV b L l)) H n := by
  refine AC.given fun hold hsc _ => AC.tidied (B := []) (by simp) ?_
  replace hV : shortV b.t L = true → sigV (tidy n H) (.slice oa L c) = some l := fun h => listV_tidy decG_tidy (fun k b h => (hold k b h).1) (hV h)
  have hr := recT_ok (P := Try.prog) (l := [(19, g19), (20, g20)]) (by simp [ok19, ok20])
  have h19 : ∀ H m, g19 [.agg ⟨[iv b.x, iv b.y, iv b.dx, iv b.dy, iv b.t]⟩, .slice oa L c] H m = some (.bool (shortV b.t L), H, m) := fun _ _ => rfl
  have h20 : ∀ z m, shortV b.t L = true → g20 [.agg ⟨[iv b.x, iv b.y, iv b.dx, iv b.dy, iv b.t]⟩, .agg ⟨[iv b.r, iv b.s, iv b.l, iv b.c, iv b.f]⟩, .slice oa L c] ((n, z) :: tidy n H) m = some (iv (brE b l), (n, z) :: tidy n H, m) := fun z m h => by
    have : sigV ((n, z) :: tidy n H) (.slice oa L c) = some l := listV_mono decG_mono (Sub.cons (by simp) (Sub.refl _)) (hV h)
    simp only [g20]
    rw [this]
    rfl
  unfold Brg.run runV
  refine AC.pure Try.func5 rfl (by kernel_rfl) rfl [] rfl ?_
  refine E.seq ?_
  refine E.reg hr (by simp; rfl) ?_ -- region 0
  refine E.seq ?_
  cases hs : shortV b.t L with
  | false =>
    rw [hs] at h19
    refine E.reg hr (by simp [h19, yieldedA, undefV]; rfl) ?_ -- region 1
    refine E.ret ?_
    exact pureK.ret rfl rfl (by simp) (Sub.cons (by simp) (Sub.refl _))
  | true =>
    replace h20 := fun z m => h20 z m hs
    rw [hs] at h19
    refine E.reg hr (by simp [h19, h20, yieldedA]; rfl) ?_ -- region 1
    refine E.ret ?_
    exact pureK.ret rfl rfl (by simp) (Sub.cons (by simp) (Sub.refl _))
/-! ### what the checks say -/
theorem within0' {a lo hi : Int} (h : withinV a lo hi = 0) : lo ≤ a ∧ a ≤ hi := by
  unfold withinV at h
  split at h
  · cases h
  · omega
theorem first0' {e : Int} {l : List Int} (h : firstV (e :: l) = 0) : e = 0 ∧ firstV l = 0 := by
  rw [firstV] at h
  split at h
  · rename_i h0; exact ⟨h0, h⟩
  · rename_i h0; exact absurd h h0
theorem brE0 {b : Brg} {l : List Sg} (h : brE b l = 0) : 1 ≤ b.t ∧ b.t ≤ 4096 := by
  unfold brE at h
  obtain ⟨h1, _⟩ := first0' h
  unfold vesV at h1
  obtain ⟨_, h1⟩ := first0' h1
  obtain ⟨_, h1⟩ := first0' h1
  obtain ⟨h1, _⟩ := first0' h1
  exact within0' h1
end Go.Proofs.Ytljglocehbccnaa

namespace Go.Proofs.Ytljglocehbccnaa
open Go Go.Ab Go.Proofs
set_option maxRecDepth 20000
def g24 (args : List Value) (H : Heap) (n : Nat) : R := match args with
  | [.agg ⟨[.int .i64 x, .int .i64 y, .int .i64 dx, .int .i64 dy, .int .i64 t]⟩, .agg ⟨[.int .i64 r, .int .i64 s, .int .i64 l, .int .i64 c, .int .i64 f]⟩, v] => (sigV H v).map fun q => (.tuple #[Brg.val ⟨r, s, l, c, f, x, y, dx, dy, t⟩ v, iv (brE ⟨r, s, l, c, f, x, y, dx, dy, t⟩ q)], H, n)
  | _ => none
theorem ok24 : EntOk Try.prog (24, g24) := by
  intro args H n v H' n' h
  simp only [g24] at h
  split at h
  · rw [Option.map_eq_some_iff] at h
    obtain ⟨l, h4, h⟩ := h
    injection h with e1 e2; injection e2 with e2 e3; subst e1 e2 e3
    exact w24 ⟨_, _, _, _, _, _, _, _, _, _⟩ h4
  · cases h
def g26 (args : List Value) (H : Heap) (n : Nat) : R := match args with
  | [.agg ⟨[.int .i64 r, .int .i64 s, .int .i64 l, .int .i64 c, .int .i64 f, .int .i64 x, .int .i64 y, .int .i64 dx, .int .i64 dy, .int .i64 t, v]⟩] => if 0 ≤ t ∧ t ≤ 4096 then (sigV H v).map fun q => (.slice (some ⟨n, 0, none⟩) t.toNat t.toNat, (n, .cells (levL ⟨r, s, l, c, f, x, y, dx, dy, t⟩ q) 3) :: H, n + 1) else none
  | _ => none
theorem ok26 : EntOk Try.prog (26, g26) := by
  intro args H n v H' n' h
  simp only [g26] at h
  split at h
  · split at h
    · rename_i ht
      rw [Option.map_eq_some_iff] at h
      obtain ⟨l, h4, h⟩ := h
      injection h with e1 e2; injection e2 with e2 e3; subst e1 e2 e3
      exact w26 ⟨_, _, _, _, _, _, _, _, _, _⟩ h4 ht.1 ht.2
    · cases h
  · cases h
theorem w10 {H : Heap} {n : Nat} {v : Value} (b : Brg) {l : List Sg} (hV : sigV H v = some l) (hE : brE b l = 0) : AC Try.prog 10 [.agg ⟨[iv b.x, iv b.y, iv b.dx, iv b.dy, iv b.t]⟩, .agg ⟨[iv b.r, iv b.s, iv b.l, iv b.c, iv b.f]⟩, v] H n (.tuple #[.slice (some ⟨n, 0, none⟩) b.t.toNat b.t.toNat, iv 0]) ([(n, .cells (levL b l) 3)] ++ H) (n + 1) := by
  refine AC.given fun hold hsc hgn => AC.tidied (fun x hx => ?_) ?_
  · rw [List.mem_singleton] at hx; subst hx; exact Nat.le_refl _
  replace hV : sigV (tidy n H) v = some l := listV_tidy decG_tidy (fun k b h => (hold k b h).1) hV
  obtain ⟨h0, h1⟩ := brE0 hE
  have hr := recT_ok (P := Try.prog) (l := [(24, g24), (26, g26)]) (by simp [ok24, ok26])
  obtain ⟨oa, c, rfl, hlt, hrow⟩ := sigV_form hV
  obtain ⟨R, hR⟩ : ∃ R, levL b l = R := ⟨_, rfl⟩
  have haf : afL R = true := by rw [← hR]; exact levL_af b l
  have hren : ∀ ρ, renL ρ R = R := fun ρ => by rw [← hR]; exact levL_ren b l ρ
  have h24 : ∀ y z m, g24 [.agg ⟨[iv b.x, iv b.y, iv b.dx, iv b.dy, iv b.t]⟩, .agg ⟨[iv b.r, iv b.s, iv b.l, iv b.c, iv b.f]⟩, .slice oa l.length c] ((n + 1, y) :: (n, z) :: tidy n H) m = some (.tuple #[b.val (.slice oa l.length c), iv 0], (n + 1, y) :: (n, z) :: tidy n H, m) := fun y z m => by
    have : sigV ((n + 1, y) :: (n, z) :: tidy n H) (.slice oa l.length c) = some l := listV_mono decG_mono (Sub.cons (by simp) (Sub.cons (by simp) (Sub.refl _))) hV
    simp only [g24]
    rw [this, ← hE]
    rfl
  have h26 : ∀ x y z m, g26 [.agg ⟨[iv b.r, iv b.s, iv b.l, iv b.c, iv b.f, iv b.x, iv b.y, iv b.dx, iv b.dy, iv b.t, .slice oa l.length c]⟩] ((n + 1 + 1, x) :: (n + 1, y) :: (n, z) :: tidy n H) m = some (.slice (some ⟨m, 0, none⟩) b.t.toNat b.t.toNat, (m, .cells R 3) :: (n + 1 + 1, x) :: (n + 1, y) :: (n, z) :: tidy n H, m + 1) := fun x y z m => by
    have : sigV ((n + 1 + 1, x) :: (n + 1, y) :: (n, z) :: tidy n H) (.slice oa l.length c) = some l := listV_mono decG_mono (Sub.cons (by simp) (Sub.cons (by simp) (Sub.cons (by simp) (Sub.refl _)))) hV
    simp only [g26]
    rw [this, if_pos ⟨by omega, h1⟩, ← hR]
    rfl
  rw [hR]
  unfold Brg.val at h24
  refine AC.fresh Try.func10 rfl (by kernel_rfl) rfl [] (by omega) ⟨show n < n + 1 by omega, trivial, trivial⟩ (fun ρ => rfl) ?_
  refine E.seq ?_
  refine E.reg hr (by simp; rfl) ?_ -- region 0
  refine E.seq ?_
  refine E.reg hr (by simp [h24]; rfl) ?_ -- region 1
  refine E.seq ?_
  refine E.seq ?_
  refine E.reg hr (by simp; rfl) ?_ -- region 2
  refine E.cond (t := false) (by simp) (fun h => by cases h) (fun _ => ?_)
  refine E.skip ?_
  refine E.seq ?_
  refine E.reg hr (by simp [h26]; rfl) ?_ -- region 4
  refine E.ret ?_
  exact outK.ret rfl rfl ((fresh_cells haf hren (by omega) (by rw [hget_cons, if_pos rfl]) (Sub.cons (by simp) (Sub.cons (by simp) (Sub.cons (by simp) (Sub.cons (by simp) (Sub.refl _)))))).pair 0)
end Go.Proofs.Ytljglocehbccnaa

namespace Go.Proofs.Ytljglocehbccnaa
open Go Go.Ab Go.Proofs
set_option maxRecDepth 20000
def insL (b : Brg) (l : List Sg) : List Value := (List.range b.t.toNat).map fun t : Nat => .bool (insideV b l (t : Int))
theorem insL_af (b : Brg) (l : List Sg) : afL (insL b l) = true := by
  unfold insL
  generalize List.range b.t.toNat = r
  induction r with
  | nil => rfl
  | cons t r ih => simp only [List.map_cons, afL, ih, af]; rfl
theorem insL_ren (b : Brg) (l : List Sg) (ρ : Nat → Nat) : renL ρ (insL b l) = insL b l := renL_afl ρ _ fun v hv => by
  unfold insL at hv
  rw [List.mem_map] at hv
  obtain ⟨t, _, rfl⟩ := hv
  rfl
theorem w8 {H : Heap} {n : Nat} {v : Value} (b : Brg) {l : List Sg} (hV : sigV H v = some l) (hE : brE b l = 0) : AC Try.prog 8 [.agg ⟨[iv b.x, iv b.y, iv b.dx, iv b.dy, iv b.t]⟩, .agg ⟨[iv b.r, iv b.s, iv b.l, iv b.c, iv b.f]⟩, v] H n (.tuple #[.slice (some ⟨n, 0, none⟩) b.t.toNat b.t.toNat, iv 0]) ([(n, .cells (insL b l) 4)] ++ H) (n + 1) := by
  refine AC.given fun hold hsc hgn => AC.tidied (fun x hx => ?_) ?_
  · rw [List.mem_singleton] at hx; subst hx; exact Nat.le_refl _
  replace hV : sigV (tidy n H) v = some l := listV_tidy decG_tidy (fun k b h => (hold k b h).1) hV
  obtain ⟨h0, h1⟩ := brE0 hE
  have hr := recT_ok (P := Try.prog) (l := [(24, g24), (25, g25)]) (by simp [ok24, ok25])
  obtain ⟨oa, c, rfl, hlt, hrow⟩ := sigV_form hV
  obtain ⟨T, hT⟩ := Int.eq_ofNat_of_zero_le (show 0 ≤ b.t by omega)
  have hTn : b.t.toNat = T := by omega
  have hlL : (insL b l).length = T := by simp [insL, hTn]
  obtain ⟨R, hR⟩ : ∃ R, insL b l = R := ⟨_, rfl⟩
  have hRat : ∀ i : Nat, i < T → R[i]? = some (.bool (insideV b l (i : Int))) := fun i h => by
    rw [← hR]; unfold insL; rw [hTn, List.getElem?_map, List.getElem?_range h]; rfl
  have haf : afL R = true := by rw [← hR]; exact insL_af b l
  have hren : ∀ ρ, renL ρ R = R := fun ρ => by rw [← hR]; exact insL_ren b l ρ
  rw [hR] at hlL ⊢
  have h24 : ∀ y z m, g24 [.agg ⟨[iv b.x, iv b.y, iv b.dx, iv b.dy, iv b.t]⟩, .agg ⟨[iv b.r, iv b.s, iv b.l, iv b.c, iv b.f]⟩, .slice oa l.length c] ((n + 1, y) :: (n, z) :: tidy n H) m = some (.tuple #[b.val (.slice oa l.length c), iv 0], (n + 1, y) :: (n, z) :: tidy n H, m) := fun y z m => by
    have : sigV ((n + 1, y) :: (n, z) :: tidy n H) (.slice oa l.length c) = some l := listV_mono decG_mono (Sub.cons (by simp) (Sub.cons (by simp) (Sub.refl _))) hV
    simp only [g24]
    rw [this, ← hE]
    rfl
  have h25 : ∀ w x y z t m, g25 [.agg ⟨[iv b.r, iv b.s, iv b.l, iv b.c, iv b.f, iv b.x, iv b.y, iv b.dx, iv b.dy, iv b.t, .slice oa l.length c]⟩, iv t] ((n + 1 + 1 + 1, w) :: (n + 1 + 1, x) :: (n + 1, y) :: (n, z) :: tidy n H) m = some (.bool (insideV b l t), (n + 1 + 1 + 1, w) :: (n + 1 + 1, x) :: (n + 1, y) :: (n, z) :: tidy n H, m) := fun w x y z t m => by
    have : sigV ((n + 1 + 1 + 1, w) :: (n + 1 + 1, x) :: (n + 1, y) :: (n, z) :: tidy n H) (.slice oa l.length c) = some l := listV_mono decG_mono (Sub.cons (by simp) (Sub.cons (by simp) (Sub.cons (by simp) (Sub.cons (by simp) (Sub.refl _))))) hV
    simp only [g25]
    rw [this]
    rfl
  unfold Brg.val at h24
  obtain ⟨bt, hbt⟩ : ∃ bt, b.t = bt := ⟨_, rfl⟩
  rw [hbt] at h0 h1 hT hTn h24 h25 ⊢
  rw [hTn]
  refine AC.fresh Try.func8 rfl (by kernel_rfl) rfl [8, 10, 11, 26, 27] (by omega) ⟨show n < n + 1 by omega, trivial, trivial⟩ (fun ρ => rfl) ?_
  refine E.seq ?_
  refine E.reg hr (by simp; rfl) ?_ -- region 0
  refine E.seq ?_
  refine E.reg hr (by simp [h24]; rfl) ?_ -- region 1
  refine E.seq ?_
  refine E.seq ?_
  refine E.reg hr (by simp; rfl) ?_ -- region 2
  refine E.cond (t := false) (by simp) (fun h => by cases h) (fun _ => ?_)
  refine E.skip ?_
  refine E.seq ?_
  refine E.reg hr (by simp [mk39 (w := bt) (by omega) h1, hTn]; rfl) ?_ -- region 4
  refine E.seq ?_
  refine E.seq ?_
  refine E.reg hr (by simp; rfl) ?_ -- region 5
  refine E.block ?_ -- 0
  refine E.loop ?_
  refine EL.ind (fun x : Nat × List Value => { fr := [(8, .pointer (some ⟨n + 1 + 1, 0, none⟩)), (10, .slice (some ⟨n + 1 + 1 + 1, 0, none⟩) T T), (26, iv bt), (27, iv x.1)], sz := 38, H := (n + 1 + 1 + 1, .cells x.2 4) :: (n + 1 + 1, .cells [iv b.r, iv b.s, iv b.l, iv b.c, iv b.f, iv b.x, iv b.y, iv b.dx, iv b.dy, iv bt, .slice oa l.length c] 84) :: (n + 1, .cells [iv b.r, iv b.s, iv b.l, iv b.c, iv b.f] 43) :: (n, .cells [iv b.x, iv b.y, iv b.dx, iv b.dy, iv bt] 42) :: tidy n H, n := n + 1 + 1 + 1 + 1, marks := [], vs := [8, 10, 11, 26, 27] }) (fun x => T - x.1) (fun x => x.1 ≤ T ∧ x.2.length = T ∧ ∀ j : Nat, j < x.1 → x.2[j]? = some (.bool (insideV b l (j : Int)))) (0, List.replicate T (.bool false)) (.keep rfl rfl rfl (by simp) (Sub.refl _)) ⟨Nat.zero_le _, by simp, fun j hj => by omega⟩ (fun _ => rfl) ?_
  rintro ⟨i, cs⟩ ⟨hi, hcl, hg⟩
  dsimp only at hi hcl hg ⊢
  have hw : IntKind.i64.wrap ((i : Int) + 1) = (i : Int) + 1 := W_in (by omega) (by omega)
  refine E.seq ?_
  refine E.reg hr (by simp; rfl) ?_ -- region 6
  refine E.seq ?_
  by_cases hil : i < T
  · have hilb : (i : Int) < bt := by omega
    obtain ⟨V, hVl⟩ : ∃ V, insideV b l i = V := ⟨_, rfl⟩
    have hst : ∀ Z : Heap, storeA ((n + 1 + 1 + 1, .cells cs 4) :: Z) (n + 1 + 1 + 1) i [.bool V] = some ((n + 1 + 1 + 1, .cells (cs.set i (.bool V)) 4) :: Z) := fun Z => by
      rw [store_at (by rw [hget_cons, if_pos rfl]) (by omega)]; simp
    have hset : ∀ j : Nat, j < i + 1 → (cs.set i (.bool V))[j]? = some (.bool (insideV b l (j : Int))) := fun j hj => by
      by_cases e : j = i
      · subst e; rw [List.getElem?_set_self (by omega), hVl]
      · rw [List.getElem?_set_ne (by omega)]; exact hg j (by omega)
    have h25' := fun w x y z m => h25 w x y z i m
    rw [hVl] at h25'
    refine E.cond (t := true) (by simp [hilb]) (fun _ => ?_) (fun h => by cases h)
    refine E.skip ?_
    refine E.seq ?_
    refine E.block ?_ -- 1
    refine E.seq ?_
    refine E.reg hr (by simp; rfl) ?_ -- region 7
    refine E.reg hr (by simp [-storeA, h25', hil, hst]; rfl) ?_ -- region 8
    refine E.reg hr (by simp [hw]; rfl) ?_ -- region 9
    exact ⟨(i + 1, cs.set i (.bool V)), .keep rfl rfl rfl (by simp) (Sub.refl _), ⟨hil, by simp [hcl], hset⟩, by dsimp only; omega⟩
  · have hilb : ¬ (i : Int) < bt := by omega
    have hcs : cs = R := List.ext_getElem? fun j => by
      by_cases hj : j < T
      · rw [hg j (by omega), hRat j hj]
      · rw [List.getElem?_eq_none (by omega), List.getElem?_eq_none (by omega)]
    subst hcs
    refine E.cond (t := false) (by simp [hilb]) (fun h => by cases h) (fun _ => ?_)
    refine E.exit ?_ -- 0
    refine E.seq ?_
    refine E.reg hr (by simp; rfl) ?_ -- region 10
    refine E.ret ?_
    exact outK.ret rfl rfl ((fresh_cells haf hren (by omega) (by rw [hget_cons, if_pos rfl]) (Sub.cons (by simp) (Sub.cons (by simp) (Sub.cons (by simp) (Sub.cons (by simp) (Sub.refl _)))))).pair 0)
end Go.Proofs.Ytljglocehbccnaa

namespace Go.Proofs.Ytljglocehbccnaa
open Go Go.Ab Go.Proofs
set_option maxRecDepth 20000
theorem plainH_hset : ∀ {H : Heap} {k : Nat} {b : Blk}, plainH H = true → plainB2 b = true → plainH (hset H k b) = true
  | [], _, _, _, _ => rfl
  | (i, c) :: H, k, b, h, hb => by
    simp only [plainH, Bool.and_eq_true] at h
    rw [hset]
    split
    · simp only [plainH, Bool.and_eq_true]
      exact ⟨hb, h.2⟩
    · simp only [plainH, Bool.and_eq_true]
      exact ⟨h.1, plainH_hset h.2 hb⟩
theorem GL.put {L Hx : Heap} {n t sz k N o : Nat} {cs : List Value} (hL : ∀ k b, hget L k = some b → k < n) (h : GL L n t sz cs k Hx N o) (hk : k ≠ 0) {i : Nat} (hi : i < cs.length) (v : Value) : storeA Hx o i [v] = some (hset Hx o (.ext (cs.set i v) t sz)) ∧ GL L n t sz (cs.set i v) k (hset Hx o (.ext (cs.set i v) t sz)) N o := by
  obtain ⟨h1, h2⟩ := h.out hk
  have hlo := h.low
  refine ⟨?_, by rw [List.length_set]; exact h.len, fun _ => ⟨by rw [hget_set, if_pos rfl, h1]; rfl, h2⟩, fun j b hj => ?_, namesOk_hset h.nm, h.big, h.low, ?_⟩
  · unfold storeA
    rw [h1]
    simp only [List.length_cons, List.length_nil, putL]
    rw [if_pos (by omega), put_at hi]
  · have := hL j b hj
    rw [hget_set, if_neg (by omega)]
    exact h.sub j b hj
  · exact plainH_hset h.pl rfl
/-- the closure: a level is nothing -/
theorem w28 {H : Heap} {n k m T i : Nat} {R : List Value} {x : Int} (hk : hget H k = some (.cells [.slice (some ⟨m, 0, none⟩) T T] 35)) (hm : hget H m = some (.cells R 3)) (hx : R[i]? = some (iv x)) (hi : i < T) : AC Try.prog 28 [iv i, .pointer (some ⟨k, 0, none⟩)] H n (.bool (decide (x = 0))) H n := by
  refine AC.given fun hold hsc _ => AC.tidied (B := []) (by simp) ?_
  replace hk : hget (tidy n H) k = some (.cells [.slice (some ⟨m, 0, none⟩) T T] 35) := hget_tidy.2 ⟨hk, (hold _ _ hk).1, rfl⟩
  replace hm : hget (tidy n H) m = some (.cells R 3) := hget_tidy.2 ⟨hm, (hold _ _ hm).1, rfl⟩
  have hr := recT_ok (P := Try.prog) (l := []) (by simp)
  refine AC.pure Try.func28 rfl (by kernel_rfl) rfl [] rfl ?_
  refine E.seq ?_
  refine E.reg hr (by simp; rfl) ?_ -- region 0
  refine E.seq ?_
  refine E.reg hr (by simp [hk, hm, hx, hi]; rfl) ?_ -- region 1
  refine E.ret ?_
  exact pureK.ret rfl rfl (by simp) (Sub.refl _)
def lvAt (H : Heap) (k i : Nat) : Option Int := match hget H k with
  | some (.cells [.slice (some ⟨m, 0, none⟩) T T'] 35) => if i < T ∧ T' = T then match hget H m with
    | some (.cells R 3) => match R[i]? with
      | some (.int .i64 x) => some x
      | _ => none
    | _ => none
    else none
  | _ => none
def g28 (args : List Value) (H : Heap) (n : Nat) : R := match args with
  | [.int .i64 i, .pointer (some ⟨k, 0, none⟩)] => if 0 ≤ i then (lvAt H k i.toNat).map fun x => (.bool (decide (x = 0)), H, n) else none
  | _ => none
theorem ok28 : EntOk Try.prog (28, g28) := by
  intro args H n v H' n' h
  simp only [g28] at h
  split at h
  · rename_i i k
    split at h
    · rename_i hi
      rw [Option.map_eq_some_iff] at h
      obtain ⟨x, h4, h⟩ := h
      injection h with e1 e2; injection e2 with e2 e3; subst e1 e2 e3
      obtain ⟨i', rfl⟩ := Int.eq_ofNat_of_zero_le hi
      unfold lvAt at h4
      split at h4
      · rename_i m T T' hk
        split at h4
        · rename_i hT
          obtain ⟨hT, rfl⟩ := hT
          split at h4
          · rename_i R hm
            split at h4
            · rename_i y hx
              injection h4 with h4
              subst h4
              exact w28 hk hm hx hT
            · cases h4
          · cases h4
        · cases h4
      · cases h4
    · cases h
  · cases h
/-! ### runs -/
def stepS (S : List (Nat × Nat)) (i : Nat) : List (Nat × Nat) := match S.getLast? with
  | some (a, e) => if e = i then S.dropLast ++ [(a, i + 1)] else S ++ [(i, i + 1)]
  | none => [(i, i + 1)]
def runsV (p : Nat → Bool) : Nat → List (Nat × Nat)
  | 0 => []
  | i + 1 => if p i = true then stepS (runsV p i) i else runsV p i
def sps (S : List (Nat × Nat)) : List Value := S.flatMap fun s => [iv s.1, iv s.2]
theorem sps_snoc (S : List (Nat × Nat)) (a e : Nat) : sps (S ++ [(a, e)]) = sps S ++ [iv a, iv e] := by simp [sps]
theorem sps_len : ∀ S : List (Nat × Nat), (sps S).length = S.length * 2
  | [] => rfl
  | s :: S => by
    show ([iv s.1, iv s.2] ++ sps S).length = _
    rw [List.length_append, sps_len S]
    show 2 + S.length * 2 = (S.length + 1) * 2
    omega
theorem sps_af : ∀ S : List (Nat × Nat), afL (sps S) = true
  | [] => rfl
  | s :: S => by
    show afL ([iv s.1, iv s.2] ++ sps S) = true
    simp [afL, sps_af S]
theorem sps_ren (ρ : Nat → Nat) (S : List (Nat × Nat)) : renL ρ (sps S) = sps S := renL_afl ρ _ fun v hv => by
  unfold sps at hv
  obtain ⟨g, _, hv⟩ := List.mem_flatMap.1 hv
  simp only [List.mem_cons, List.not_mem_nil, or_false] at hv
  rcases hv with rfl | rfl <;> rfl
theorem runsV_len (p : Nat → Bool) : ∀ i, (runsV p i).length ≤ i
  | 0 => Nat.le_refl _
  | i + 1 => by
    have := runsV_len p i
    unfold runsV
    split
    · unfold stepS
      split
      · split
        · rw [List.length_append, List.length_dropLast]; simp; omega
        · rw [List.length_append]; simp; omega
      · simp
    · omega
theorem sz52i : Try.t52.size = 2 := by kernel_rfl
theorem by52 : Try.t52.bytes ≤ 128 := by decide +kernel
theorem zo52 : zeroOk Try.t52 = true := by kernel_rfl
abbrev lvF (k : Nat) : Value := .func (.func 28) #[] #[.pointer (some ⟨k, 0, none⟩)]
def hset' (Hx : Heap) (o : Nat) (S0 : List (Nat × Nat)) (a e : Nat) : Heap := hset Hx o (.ext (sps (S0 ++ [(a, e + 1)])) 52 2)
theorem w27 {H : Heap} {n k m T : Nat} {R : List Value} {f : Nat → Int} (hT : T ≤ 4096) (hk : hget H k = some (.cells [.slice (some ⟨m, 0, none⟩) T T] 35)) (hm : hget H m = some (.cells R 3)) (hR : ∀ i : Nat, i < T → R[i]? = some (iv (f i))) : AC Try.prog 27 [iv T, lvF k] H n (outS n (runsV (fun i => decide (f i = 0)) T).length) (outSB n 52 2 (runsV (fun i => decide (f i = 0)) T).length (sps (runsV (fun i => decide (f i = 0)) T)) ++ H) (n + 1) := by
  refine AC.given fun hold hsc _ => AC.tidied outSB_ge ?_
  replace hk : hget (tidy n H) k = some (.cells [.slice (some ⟨m, 0, none⟩) T T] 35) := hget_tidy.2 ⟨hk, (hold _ _ hk).1, rfl⟩
  replace hm : hget (tidy n H) m = some (.cells R 3) := hget_tidy.2 ⟨hm, (hold _ _ hm).1, rfl⟩
  have hr := recT_ok (P := Try.prog) (l := [(28, g28)]) (by simp [ok28])
  obtain ⟨p, hp⟩ : ∃ p : Nat → Bool, (fun i => decide (f i = 0)) = p := ⟨_, rfl⟩
  have hg : ∀ (Hx : Heap) (_ : Sub (tidy n H) Hx) (i : Nat) (_ : i < T) (N : Nat), g28 [iv i, .pointer (some ⟨k, 0, none⟩)] Hx N = some (.bool (p i), Hx, N) := fun Hx hs i hi N => by
    have e : lvAt Hx k i = some (f i) := by
      unfold lvAt
      rw [hs _ _ hk]
      show (if i < T ∧ T = T then _ else _) = _
      rw [if_pos ⟨hi, rfl⟩, hs _ _ hm]
      show (match R[i]? with | some (.int .i64 x) => some x | _ => none) = _
      rw [hR i hi]
    simp only [g28]
    rw [if_pos (by omega), show (i : Int).toNat = i from rfl, e, ← hp]
    rfl
  rw [hp]
  refine AC.grown Try.func27 rfl (by kernel_rfl) rfl [1, 5, 6, 7, 8, 9] ?_
  refine E.seq ?_
  refine E.reg hr (by simp; rfl) ?_ -- region 0
  refine E.seq ?_
  refine E.reg hr (by simp; rfl) ?_ -- region 1
  refine E.seq ?_
  refine E.seq ?_
  refine E.reg hr (by simp; rfl) ?_ -- region 2
  refine E.block ?_ -- 0
  refine E.loop ?_
  have hst : GL (tidy n H) n 52 2 (sps (runsV p 0)) (runsV p 0).length (tidy n H) n n := GL.start (Sub.refl _) namesOk_tidy (Nat.le_refl n) (by simp)
  refine EL.ind (fun x : Nat × Heap × Nat × Nat => { fr := [(1, lvF k), (5, outS x.2.2.2 (runsV p x.1).length), (8, iv T), (9, iv x.1)], sz := 46, H := x.2.1, n := x.2.2.1, marks := [], vs := [1, 5, 6, 7, 8, 9] }) (fun x => T - x.1) (fun x => x.1 ≤ T ∧ GL (tidy n H) n 52 2 (sps (runsV p x.1)) (runsV p x.1).length x.2.1 x.2.2.1 x.2.2.2) (0, tidy n H, n, n) (.keep rfl rfl rfl (by simp [runsV]) (Sub.refl _)) ⟨Nat.zero_le _, hst⟩ (fun _ => rfl) ?_
  rintro ⟨i, Hx, N, o⟩ ⟨hi, hG⟩
  dsimp only at hi hG ⊢
  have hw : IntKind.i64.wrap ((i : Int) + 1) = (i : Int) + 1 := W_in (by omega) (by omega)
  refine E.seq ?_
  refine E.reg hr (by simp; rfl) ?_ -- region 3
  refine E.seq ?_
  by_cases hil : i < T
  case neg =>
    have hil' : i = T := by omega
    subst hil'
    refine E.cond (t := false) (by simp) (fun h => by cases h) (fun _ => ?_)
    refine E.exit ?_ -- 0
    refine E.seq ?_
    refine E.reg hr (by simp; rfl) ?_ -- region 11
    refine E.ret ?_
    exact outK.ret rfl rfl (hG.fresh (Nat.le_refl _) (sps_af _) fun ρ => sps_ren ρ _)
  have hcall := fun N => hg Hx hG.sub i hil N
  have hrn : runsV p (i + 1) = if p i = true then stepS (runsV p i) i else runsV p i := rfl
  have hlen := runsV_len p i
  refine E.cond (t := true) (by simp [hil]) (fun _ => ?_) (fun h => by cases h)
  refine E.skip ?_
  refine E.seq ?_
  refine E.block ?_ -- 1
  refine E.seq ?_
  refine E.reg hr (by simp; rfl) ?_ -- region 4
  refine E.seq ?_
  refine E.seq ?_
  refine E.reg hr (by simp [run_vcall_tmp, vcallF, target, hcall]; rfl) ?_ -- region 5
  cases hpi : p i with
  | false =>
    rw [hpi, if_neg (by simp)] at hrn
    rw [← hrn] at hG
    refine E.cond (t := true) (by simp) (fun _ => ?_) (fun h => by cases h)
    refine E.exit ?_ -- 1
    refine E.reg hr (by simp [hw]; rfl) ?_ -- region 10
    exact ⟨(i + 1, Hx, N, o), .keep rfl rfl rfl (by simp [hrn]) (Sub.refl _), ⟨hil, hG⟩, by dsimp only; omega⟩
  | true =>
    rw [hpi, if_pos rfl] at hrn
    refine E.cond (t := false) (by simp) (fun h => by cases h) (fun _ => ?_)
    refine E.skip ?_
    refine E.seq ?_
    refine E.seq ?_
    obtain ⟨S, hS⟩ : ∃ S, runsV p i = S := ⟨_, rfl⟩
    rw [hS] at hrn hG hlen ⊢
    rcases List.eq_nil_or_concat S with rfl | ⟨S0, ⟨a, e⟩, rfl⟩
    · have hrn2 : runsV p (i + 1) = [] ++ [(i, i + 1)] := hrn
      obtain ⟨Hz, happ, hGz⟩ := hG.app (P := Try.prog) (st := 47) (i := Try.t52) (new := [iv i, iv ((i + 1 : Nat) : Int)]) tidy_lt Try.underlying47 inf52 sz52i zo52 by52 (by simp) rfl (by omega) rfl rfl
      rw [← sps_snoc] at hGz
      have hl1 : (runsV p (i + 1)).length = 1 := by rw [hrn2]; rfl
      have hGz' : GL (tidy n H) n 52 2 (sps (runsV p (i + 1))) (runsV p (i + 1)).length Hz (N + 1 + 1) (N + 1) := by rw [hl1, hrn2]; exact hGz
      refine E.reg hr (by simp; rfl) ?_ -- region 6
      refine E.seq ?_
      refine E.reg hr (by simp [yieldedA, undefV]; rfl) ?_ -- region 7
      refine E.cond (t := false) (by simp) (fun h => by cases h) (fun _ => ?_)
      refine E.skip ?_
      have happ' : builtinA Try.prog .append #[47, 47] ((N, .cells [iv i, iv ((i : Int) + 1)] 52) :: Hx) (N + 1) [.slice none 0 0, .slice (some ⟨N, 0, none⟩) 1 1] = some (outS (N + 1) 1, Hz, N + 1 + 1) := happ
      refine E.reg hr (by simp [-builtinA, hw, build52, happ']; rfl) ?_ -- region 9
      refine E.reg hr (by simp [hw]; rfl) ?_ -- region 10
      exact ⟨(i + 1, Hz, N + 1 + 1, N + 1), .keep rfl rfl rfl (by simp [hl1]) (Sub.refl _), ⟨hil, hGz'⟩, by dsimp only; omega⟩
    · rw [List.concat_eq_append] at hrn hG hlen ⊢
      have hne : (S0 ++ [(a, e)]).length ≠ 0 := by simp
      have hll : (S0 ++ [(a, e)]).length = S0.length + 1 := by simp
      obtain ⟨ho, hoN⟩ := hG.out hne
      have hlast : (S0 ++ [(a, e)]).getLast? = some (a, e) := by simp
      have hlen0 : S0.length < 4096 := by omega
      have hwk : IntKind.i64.wrap (S0.length : Int) = (S0.length : Int) := W_in (by omega) (by omega)
      have hcl : cellA Hx o (S0.length * 2 + 1) = some (iv e) := by
        rw [cellA_eq, ho]
        show (sps (S0 ++ [(a, e)]))[S0.length * 2 + 1]? = _
        rw [sps_snoc, List.getElem?_append_right (by rw [sps_len]; omega), sps_len, Nat.add_sub_cancel_left]
        rfl
      rw [outS_ne hne, hll]
      refine E.reg hr (by simp; rfl) ?_ -- region 6
      refine E.seq ?_
      by_cases hei : e = i
      · subst hei
        have hrn2 : runsV p (e + 1) = S0 ++ [(a, e + 1)] := by rw [hrn, stepS, hlast]; simp
        obtain ⟨hst1, hGp⟩ := GL.put tidy_lt hG hne (i := S0.length * 2 + 1) (by rw [sps_len]; omega) (iv ((e : Int) + 1))
        have hset : (sps (S0 ++ [(a, e)])).set (S0.length * 2 + 1) (iv ((e : Int) + 1)) = sps (S0 ++ [(a, e + 1)]) := by
          rw [sps_snoc, sps_snoc, List.set_append, if_neg (by rw [sps_len]; omega), sps_len, Nat.add_sub_cancel_left]
          rfl
        rw [hset] at hst1 hGp
        have hGp' : GL (tidy n H) n 52 2 (sps (runsV p (e + 1))) (runsV p (e + 1)).length (hset' Hx o S0 a e) N o := by
          rw [hrn2]
          simpa [hset'] using hGp
        obtain ⟨Hz, hHz⟩ : ∃ Hz, hset' Hx o S0 a e = Hz := ⟨_, rfl⟩
        have hst2 : storeA Hx o (S0.length * 2 + 1) [iv ((e : Int) + 1)] = some Hz := by rw [hst1, ← hHz]; rfl
        rw [hHz] at hGp'
        refine E.reg hr (by simp [-cellA, hwk, hcl, yieldedA]; rfl) ?_ -- region 7
        refine E.cond (t := true) (by simp) (fun _ => ?_) (fun h => by cases h)
        refine E.seq ?_
        refine E.reg hr (by simp [-storeA, hwk, hw, hst2]; rfl) ?_ -- region 8
        refine E.exit ?_ -- 1
        refine E.reg hr (by simp [hw]; rfl) ?_ -- region 10
        exact ⟨(e + 1, Hz, N, o), .keep rfl rfl rfl (by simp [hrn2, outS]) (Sub.refl _), ⟨hil, hGp'⟩, by dsimp only; omega⟩
      · have hei' : ¬ (e : Int) = i := by omega
        have hrn2 : runsV p (i + 1) = S0 ++ [(a, e)] ++ [(i, i + 1)] := by rw [hrn, stepS, hlast]; simp [hei]
        obtain ⟨Hz, happ, hGz⟩ := hG.app (P := Try.prog) (st := 47) (i := Try.t52) (new := [iv i, iv ((i + 1 : Nat) : Int)]) tidy_lt Try.underlying47 inf52 sz52i zo52 by52 (by omega) rfl (by omega) rfl rfl
        rw [← sps_snoc, ← hrn2] at hGz
        have hl1 : (runsV p (i + 1)).length = S0.length + 1 + 1 := by rw [hrn2]; simp
        rw [hll] at hGz happ
        rw [outS_ne (Nat.succ_ne_zero _)] at happ
        have hGz' : GL (tidy n H) n 52 2 (sps (runsV p (i + 1))) (runsV p (i + 1)).length Hz (N + 1 + 1) (N + 1) := by rw [hl1]; exact hGz
        have happ' : builtinA Try.prog .append #[47, 47] ((N, .cells [iv i, iv ((i : Int) + 1)] 52) :: Hx) (N + 1) [.slice (some ⟨o, 0, some 0⟩) (S0.length + 1) 0, .slice (some ⟨N, 0, none⟩) 1 1] = some (outS (N + 1) (S0.length + 1 + 1), Hz, N + 1 + 1) := happ
        refine E.reg hr (by simp [-cellA, hwk, hcl, hei', yieldedA]; rfl) ?_ -- region 7
        refine E.cond (t := false) (by simp) (fun h => by cases h) (fun _ => ?_)
        refine E.skip ?_
        refine E.reg hr (by simp [-builtinA, hw, build52, happ']; rfl) ?_ -- region 9
        refine E.reg hr (by simp [hw]; rfl) ?_ -- region 10
        exact ⟨(i + 1, Hz, N + 1 + 1, N + 1), .keep rfl rfl rfl (by simp [hl1]) (Sub.refl _), ⟨hil, hGz'⟩, by dsimp only; omega⟩
end Go.Proofs.Ytljglocehbccnaa

namespace Go.Proofs.Ytljglocehbccnaa
open Go Go.Ab Go.Proofs
set_option maxRecDepth 20000
theorem runsV_congr {p q : Nat → Bool} : ∀ T, (∀ i, i < T → p i = q i) → runsV p T = runsV q T
  | 0, _ => rfl
  | T + 1, h => by rw [runsV, runsV, h T (by omega), runsV_congr T fun i hi => h i (by omega)]
theorem intsOf_iv : ∀ l : List Int, intsOf (l.map iv) = some l
  | [] => rfl
  | x :: l => by
    show (intsOf (l.map iv)).map (x :: ·) = _
    rw [intsOf_iv l]
    rfl
def g27 (args : List Value) (H : Heap) (n : Nat) : R := match args with
  | [.int .i64 T, .func (.func 28) ⟨[]⟩ ⟨[.pointer (some ⟨k, 0, none⟩)]⟩] => match hget H k with
    | some (.cells [.slice (some ⟨m, 0, none⟩) T1 T2] 35) => match hget H m with
      | some (.cells R 3) => (intsOf R).bind fun xs => if T = (xs.length : Int) ∧ T1 = xs.length ∧ T2 = xs.length ∧ xs.length ≤ 4096 then
          some (outS n (runsV (fun i => decide (xs.getD i 0 = 0)) xs.length).length, outSB n 52 2 (runsV (fun i => decide (xs.getD i 0 = 0)) xs.length).length (sps (runsV (fun i => decide (xs.getD i 0 = 0)) xs.length)) ++ H, n + 1) else none
      | _ => none
    | _ => none
  | _ => none
theorem ok27 : EntOk Try.prog (27, g27) := by
  intro args H n v H' n' h
  simp only [g27] at h
  split at h
  · split at h
    · rename_i m T1 T2 hk
      split at h
      · rename_i R hm
        rw [Option.bind_eq_some_iff] at h
        obtain ⟨xs, hx, h⟩ := h
        split at h
        · rename_i hT
          obtain ⟨rfl, rfl, rfl, hT⟩ := hT
          injection h with h; injection h with e1 e2; injection e2 with e2 e3; subst e1 e2 e3
          have hR := intsOf_ok _ _ hx
          subst hR
          exact w27 (f := fun i => xs.getD i 0) hT hk hm fun i hi => by
            rw [List.getElem?_map, List.getD_eq_getElem?_getD, List.getElem?_eq_getElem hi]; rfl
        · cases h
      · cases h
    · cases h
  · cases h
def silS (b : Brg) (l : List Sg) : List (Nat × Nat) := runsV (fun i => decide (levV b l i = 0)) b.t.toNat
theorem w11 {H : Heap} {n : Nat} {v : Value} (b : Brg) {l : List Sg} (hV : sigV H v = some l) (hE : brE b l = 0) : AC Try.prog 11 [.agg ⟨[iv b.x, iv b.y, iv b.dx, iv b.dy, iv b.t]⟩, .agg ⟨[iv b.r, iv b.s, iv b.l, iv b.c, iv b.f]⟩, v] H n (.tuple #[outS n (silS b l).length, iv 0]) (outSB n 52 2 (silS b l).length (sps (silS b l)) ++ H) (n + 1) := by
  refine AC.given fun hold hsc hgn => AC.tidied outSB_ge ?_
  replace hV : sigV (tidy n H) v = some l := listV_tidy decG_tidy (fun k b h => (hold k b h).1) hV
  obtain ⟨h0, h1⟩ := brE0 hE
  have hr := recT_ok (P := Try.prog) (l := [(24, g24), (26, g26), (27, g27)]) (by simp [ok24, ok26, ok27])
  obtain ⟨oa, c, rfl, hlt, hrow⟩ := sigV_form hV
  obtain ⟨R, hR⟩ : ∃ R, levL b l = R := ⟨_, rfl⟩
  obtain ⟨S, hS⟩ : ∃ S, silS b l = S := ⟨_, rfl⟩
  obtain ⟨T, hT⟩ := Int.eq_ofNat_of_zero_le (show 0 ≤ b.t by omega)
  have hTn : b.t.toNat = T := by omega
  have hxs : intsOf R = some ((List.range T).map (levV b l)) := by
    rw [← hR, levL, hTn, show (fun t => iv (levV b l t)) = iv ∘ levV b l from rfl, ← List.map_map]
    exact intsOf_iv _
  have hrS : runsV (fun i => decide (((List.range T).map (levV b l)).getD i 0 = 0)) T = S := by
    rw [← hS, silS, hTn]
    refine runsV_congr T fun i hi => ?_
    rw [List.getD_eq_getElem?_getD, List.getElem?_map, List.getElem?_range hi]
    rfl
  have h24 : ∀ y z m, g24 [.agg ⟨[iv b.x, iv b.y, iv b.dx, iv b.dy, iv b.t]⟩, .agg ⟨[iv b.r, iv b.s, iv b.l, iv b.c, iv b.f]⟩, .slice oa l.length c] ((n + 1, y) :: (n, z) :: tidy n H) m = some (.tuple #[b.val (.slice oa l.length c), iv 0], (n + 1, y) :: (n, z) :: tidy n H, m) := fun y z m => by
    have : sigV ((n + 1, y) :: (n, z) :: tidy n H) (.slice oa l.length c) = some l := listV_mono decG_mono (Sub.cons (by simp) (Sub.cons (by simp) (Sub.refl _))) hV
    simp only [g24]
    rw [this, ← hE]
    rfl
  have h26 : ∀ x y z m, g26 [.agg ⟨[iv b.r, iv b.s, iv b.l, iv b.c, iv b.f, iv b.x, iv b.y, iv b.dx, iv b.dy, iv b.t, .slice oa l.length c]⟩] ((n + 1 + 1, x) :: (n + 1, y) :: (n, z) :: tidy n H) m = some (.slice (some ⟨m, 0, none⟩) T T, (m, .cells R 3) :: (n + 1 + 1, x) :: (n + 1, y) :: (n, z) :: tidy n H, m + 1) := fun x y z m => by
    have : sigV ((n + 1 + 1, x) :: (n + 1, y) :: (n, z) :: tidy n H) (.slice oa l.length c) = some l := listV_mono decG_mono (Sub.cons (by simp) (Sub.cons (by simp) (Sub.cons (by simp) (Sub.refl _)))) hV
    simp only [g26]
    rw [this, if_pos ⟨by omega, h1⟩, ← hR, hTn]
    rfl
  have h27 : ∀ Z N, g27 [iv b.t, lvF (n + 1 + 1 + 1 + 1)] ((n + 1 + 1 + 1 + 1, .cells [.slice (some ⟨n + 1 + 1 + 1, 0, none⟩) T T] 35) :: (n + 1 + 1 + 1, .cells R 3) :: Z) N = some (outS N S.length, outSB N 52 2 S.length (sps S) ++ ((n + 1 + 1 + 1 + 1, .cells [.slice (some ⟨n + 1 + 1 + 1, 0, none⟩) T T] 35) :: (n + 1 + 1 + 1, .cells R 3) :: Z), N + 1) := fun Z N => by
    have e1 : hget ((n + 1 + 1 + 1 + 1, .cells [.slice (some ⟨n + 1 + 1 + 1, 0, none⟩) T T] 35) :: (n + 1 + 1 + 1, .cells R 3) :: Z) (n + 1 + 1 + 1 + 1) = some (.cells [.slice (some ⟨n + 1 + 1 + 1, 0, none⟩) T T] 35) := by rw [hget_cons, if_pos rfl]
    have e2 : hget ((n + 1 + 1 + 1 + 1, .cells [.slice (some ⟨n + 1 + 1 + 1, 0, none⟩) T T] 35) :: (n + 1 + 1 + 1, .cells R 3) :: Z) (n + 1 + 1 + 1) = some (.cells R 3) := by rw [hget_cons, if_neg (by omega), hget_cons, if_pos rfl]
    simp only [g27]
    rw [e1]
    show (match hget _ (n + 1 + 1 + 1) with | some (.cells R 3) => _ | _ => none) = _
    rw [e2]
    show (intsOf R).bind _ = _
    rw [hxs]
    show (if _ then _ else _) = _
    have hl : ((List.range T).map (levV b l)).length = T := by simp
    rw [if_pos ⟨by rw [hl]; omega, by rw [hl], by rw [hl], by rw [hl]; omega⟩, hl, hrS]
  rw [hS]
  unfold Brg.val at h24
  obtain ⟨bt, hbt⟩ : ∃ bt, b.t = bt := ⟨_, rfl⟩
  rw [hbt] at h0 h1 hT hTn h24 h26 h27 ⊢
  refine AC.grownE Try.func11 rfl (by kernel_rfl) rfl [3, 8] ?_
  refine E.seq ?_
  refine E.reg hr (by simp; rfl) ?_ -- region 0
  refine E.seq ?_
  refine E.reg hr (by simp [h24]; rfl) ?_ -- region 1
  refine E.seq ?_
  refine E.seq ?_
  refine E.reg hr (by simp; rfl) ?_ -- region 2
  refine E.cond (t := false) (by simp) (fun h => by cases h) (fun _ => ?_)
  refine E.skip ?_
  refine E.seq ?_
  refine E.reg hr (by simp [h26]; rfl) ?_ -- region 4
  refine E.seq ?_
  refine E.reg hr (by simp [opMakefunc, h27]; rfl) ?_ -- region 5
  refine E.ret ?_
  exact outK.ret rfl rfl ((fresh_sb (by rw [← hS]; exact sps_af _) (fun ρ => by rw [← hS]; exact sps_ren ρ _) (by omega) (by repeat first | exact Sub.refl _ | refine Sub.cons (by simp) ?_) (namesOk_none namesOk_tidy _ (by omega))).pair 0)
end Go.Proofs.Ytljglocehbccnaa

namespace Go.Proofs.Ytljglocehbccnaa
open Go Go.Ab Go.Proofs
set_option maxRecDepth 20000
/-! ### fires -/
abbrev Fir := Int × Int
def decF : Dec Fir := fun _ cs => match cs with
  | [.int .i64 t, .int .i64 x] => some (t, x)
  | _ => none
theorem decF_mono : DecMono decF := fun _ _ _ _ _ h => h
theorem decF_frz : DecFrz decF := fun _ _ => rfl
theorem decF_tidy : DecTidy decF := fun _ _ _ _ _ h => h
abbrev firV (H : Heap) (v : Value) : Option (List Fir) := listV 2 decF H v
theorem decF_form {H : Heap} {r : List Value} {q : Fir} (h : decF H r = some q) : r = [iv q.1, iv q.2] := by
  unfold decF at h
  split at h
  · injection h with h; subst h; rfl
  · cases h
theorem firV_form {H : Heap} {v : Value} {l : List Fir} (h : firV H v = some l) :
    ∃ oa c, v = .slice oa l.length c ∧ l.length < 2147483648 ∧ ∀ i (hi : i < l.length), ∃ a, oa = some a ∧ flat a = true ∧ cellsA H a.block (a.off + i * 2) 2 = some [iv l[i].1, iv l[i].2] := by
  obtain ⟨oa, c, e1, e2, _, e3⟩ := listV_form h
  refine ⟨oa, c, e1, e2, fun i hi => ?_⟩
  obtain ⟨a, r, f1, f2, f3, f4⟩ := e3 i hi
  rw [decF_form f4] at f3
  exact ⟨a, f1, f2, f3⟩
theorem load54 {H : Heap} {m o : Nat} {s : Option Nat} {x y : Value} (h : cellsA H m o 2 = some [x, y]) : loadA Try.prog 54 H (.pointer (some ⟨m, o, s⟩)) = some (.agg #[x, y]) := by
  simp only [loadA, ag54, sz54, h, Option.map_some]
def fiE (T : Int) (_ : Nat) (q : Fir) : Int := firstV [withinV q.1 0 (IntKind.i64.wrap (T - 1)), withinV q.2 1 1001]
theorem w31 {H : Heap} {n k : Nat} {x y dx dy T : Int} (i : Nat) (q : Fir) (hk : hget H k = some (.cells [iv x, iv y, iv dx, iv dy, iv T] 42)) : AC Try.prog 31 [iv i, .agg ⟨[iv q.1, iv q.2]⟩, .pointer (some ⟨k, 0, none⟩)] H n (iv (fiE T i q)) H n := by
  refine AC.given fun hold hsc _ => AC.tidied (B := []) (by simp) ?_
  replace hk : hget (tidy n H) k = some (.cells [iv x, iv y, iv dx, iv dy, iv T] 42) := hget_tidy.2 ⟨hk, (hold _ _ hk).1, rfl⟩
  have hkn : k < n := tidy_lt _ _ hk
  have hr := recT_ok (P := Try.prog) (l := [(32, g32), (29, g29)]) (by simp [ok32, ok29])
  have hkc : cellA (tidy n H) k 4 = some (iv T) := by rw [cellA_eq, hk]; rfl
  have n1 : ¬ n = k := by omega
  have m1 : k < n + 1 := by omega
  refine AC.pure Try.func31 rfl (by kernel_rfl) rfl [2, 4] rfl ?_
  refine E.seq ?_
  refine E.reg hr (by simp; rfl) ?_ -- region 0
  refine E.seq ?_
  refine E.drawU mixed hr [8, 9, 10] [5, 8, 9, 10] [1, 3, 5, 8, 9, 10] (by kernel_rfl) (by simp [-cellA, -cellsA, -flat, -readA, cellA_cons, cellsA_cons, cellA_read, flat_n, g32, g29, intsAt, intsOf, hkc, n1, m1]; rfl) ?_ -- region 1
  refine E.ret ?_
  exact pureK.ret rfl rfl (by simp [fiE]) (by repeat first | exact Sub.refl _ | refine Sub.cons (by simp) ?_)
def g31 (args : List Value) (H : Heap) (n : Nat) : R := match args with
  | [.int .i64 i, .agg ⟨[.int .i64 t, .int .i64 x]⟩, .pointer (some ⟨k, 0, none⟩)] => match hget H k with
    | some (.cells [.int .i64 _, .int .i64 _, .int .i64 _, .int .i64 _, .int .i64 T] 42) => if 0 ≤ i then some (iv (fiE T i.toNat (t, x)), H, n) else none
    | _ => none
  | _ => none
theorem ok31 : EntOk Try.prog (31, g31) := by
  intro args H n v H' n' h
  simp only [g31] at h
  split at h
  · split at h
    · rename_i hk
      split at h
      · rename_i hi
        injection h with h; injection h with e1 e2; injection e2 with e2 e3; subst e1 e2 e3
        obtain ⟨i', rfl⟩ := Int.eq_ofNat_of_zero_le hi
        exact w31 i' (_, _) hk
      · cases h
    · cases h
  · cases h
abbrev fiF (k : Nat) : Value := .func (.func 31) #[] #[.pointer (some ⟨k, 0, none⟩)]
theorem w30 {H : Heap} {n k : Nat} {v : Value} {l : List Fir} {x y dx dy T : Int} (hk : hget H k = some (.cells [iv x, iv y, iv dx, iv dy, iv T] 42)) (hV : firV H v = some l) : AC Try.prog 30 [v, iv (256 : Nat), fiF k] H n (iv (if 256 < l.length then 5 else scanV (fun i => fiE T i (l.getD i (0, 0))) l.length)) H n := by
  refine AC.given fun hold hsc _ => AC.tidied (B := []) (by simp) ?_
  replace hk : hget (tidy n H) k = some (.cells [iv x, iv y, iv dx, iv dy, iv T] 42) := hget_tidy.2 ⟨hk, (hold _ _ hk).1, rfl⟩
  have hkn : k < n := tidy_lt _ _ hk
  replace hV : firV (tidy n H) v = some l := listV_tidy decF_tidy (fun k b h => (hold k b h).1) hV
  have hr := recT_ok (P := Try.prog) (l := [(31, g31)]) (by simp [ok31])
  obtain ⟨oa, c, rfl, hlt, hrow⟩ := firV_form hV
  have hg : ∀ i (_ : i < l.length) (q : Fir) (m : Nat), g31 [iv i, .agg ⟨[iv q.1, iv q.2]⟩, .pointer (some ⟨k, 0, none⟩)] ((n, .cells [iv q.1, iv q.2] 54) :: tidy n H) m = some (iv (fiE T i q), (n, .cells [iv q.1, iv q.2] 54) :: tidy n H, m) := fun i hi q m => by
    have e1 : hget ((n, .cells [iv q.1, iv q.2] 54) :: tidy n H) k = some (.cells [iv x, iv y, iv dx, iv dy, iv T] 42) := by rw [hget_cons, if_neg (by omega)]; exact hk
    simp only [g31, e1]
    show (if _ then _ else _) = _
    rw [if_pos (by omega)]
    rfl
  have hold2 := tidy_old hold
  have hsa : sc (· < n) (.slice oa l.length c) := hsc.1
  have hsb : sc (· < n) (fiF k) := hsc.2.2.1
  obtain ⟨F, hF⟩ : ∃ F : Value, fiF k = F := ⟨_, rfl⟩
  refine AC.pure Try.func30 rfl (by kernel_rfl) rfl [2, 14, 15, 16] rfl ?_
  refine E.seq ?_
  refine E.reg hr (by simp; rfl) ?_ -- region 0
  refine E.seq ?_
  refine E.seq ?_
  refine E.reg hr (by simp; rfl) ?_ -- region 1
  by_cases hm : 256 < l.length
  · have hm' : (256 : Int) < l.length := by omega
    rw [if_pos hm]
    refine E.cond (t := true) (by simp [hm']) (fun _ => ?_) (fun h => by cases h)
    refine E.seq ?_
    refine E.reg hr (by simp; rfl) ?_ -- region 2
    refine E.ret ?_
    exact pureK.ret rfl rfl (by simp) (Sub.refl _)
  have hm' : ¬ (256 : Int) < l.length := by omega
  rw [if_neg hm]
  refine E.cond (t := false) (by simp [hm']) (fun h => by cases h) (fun _ => ?_)
  refine E.skip ?_
  refine E.seq ?_
  refine E.seq ?_
  refine E.reg hr (by simp; rfl) ?_ -- region 3
  refine E.block ?_ -- 0
  refine E.loop ?_
  refine EL.ind (fun i : Nat => { fr := [(2, fiF k), (14, .slice oa l.length c), (15, iv l.length), (16, iv i)], sz := 29, H := tidy n H, n := n, marks := [], vs := [2, 14, 15, 16] }) (fun i => l.length - i) (fun i => i ≤ l.length ∧ ∀ j (h : j < l.length), j < i → fiE T j (l.getD j (0, 0)) = 0) 0 (.keep rfl rfl rfl (by simp) (Sub.refl _)) ⟨Nat.zero_le _, fun j _ hj => by omega⟩ (fun _ => rfl) ?_
  rintro i ⟨hi, hg2⟩
  have hw : IntKind.i64.wrap ((i : Int) + 1) = (i : Int) + 1 := W_in (by omega) (by omega)
  refine E.seq ?_
  refine E.reg hr (by simp; rfl) ?_ -- region 4
  refine E.seq ?_
  by_cases hil : i < l.length
  · obtain ⟨a, rfl, hf, hc⟩ := hrow i hil
    have hld := load54 (s := none) hc
    have hgd : l.getD i (0, 0) = l[i] := by rw [List.getD_eq_getElem?_getD, List.getElem?_eq_getElem hil]; rfl
    have hcall := hg i hil l[i]
    have hit := fun (h : fiE T i (l.getD i (0, 0)) ≠ 0) => scanV_hit (f := fun i => fiE T i (l.getD i (0, 0))) hil h fun j hj => hg2 j (by omega) hj
    rw [hgd] at hit
    obtain ⟨q, hq⟩ : ∃ q, l[i] = q := ⟨_, rfl⟩
    rw [hq] at hld hcall hit
    obtain ⟨e, he⟩ : ∃ e, fiE T i q = e := ⟨_, rfl⟩
    rw [he] at hcall hit
    refine E.cond (t := true) (by simp [hil]) (fun _ => ?_) (fun h => by cases h)
    refine E.skip ?_
    refine E.seq ?_
    refine E.block ?_ -- 1
    refine E.seq ?_
    refine E.reg hr (by simp [-loadA, -flat, hil, hf, hld]; rfl) ?_ -- region 5
    refine E.seq ?_
    refine E.reg hr (by simp [run_vcall_tmp, vcallF, target, hcall]; rfl) ?_ -- region 6
    refine E.seq ?_
    refine E.reg hr (by simp; rfl) ?_ -- region 7
    by_cases h4 : e = 0
    · refine E.cond (t := false) (by simp [h4]) (fun h => by cases h) (fun _ => ?_)
      refine E.skip ?_
      refine E.reg hr (by simp [hw]; rfl) ?_ -- region 9
      exact ⟨i + 1, .back rfl hold2 (Sub.cons (by simp) (Sub.refl _)) rfl rfl ⟨rfl, rfl⟩ (by simp [-sc, hsa, hsb]; exact ⟨trivial, trivial⟩), ⟨hil, fun j h hj => if e' : j = i then by subst e'; rw [hgd, hq, he]; exact h4 else hg2 j h (by omega)⟩, by dsimp only; omega⟩
    · have h5 := hit h4
      refine E.cond (t := true) (by simp [h4]) (fun _ => ?_) (fun h => by cases h)
      refine E.seq ?_
      refine E.reg hr (by simp; rfl) ?_ -- region 8
      refine E.ret ?_
      exact pureK.ret rfl rfl (by rw [h5]; simp) (Sub.cons (by simp) (Sub.refl _))
  · have h5 := scanV_zero (f := fun i => fiE T i (l.getD i (0, 0))) (n := l.length) fun j hj => hg2 j hj (by omega)
    refine E.cond (t := false) (by simp [hil]) (fun h => by cases h) (fun _ => ?_)
    refine E.exit ?_ -- 0
    refine E.seq ?_
    refine E.reg hr (by simp; rfl) ?_ -- region 10
    refine E.ret ?_
    exact pureK.ret rfl rfl (by rw [h5]; simp) (Sub.refl _)
def g30 (args : List Value) (H : Heap) (n : Nat) : R := match args with
  | [v, .int .i64 256, .func (.func 31) ⟨[]⟩ ⟨[.pointer (some ⟨k, 0, none⟩)]⟩] => match hget H k with
    | some (.cells [.int .i64 _, .int .i64 _, .int .i64 _, .int .i64 _, .int .i64 T] 42) => (firV H v).map fun l => (iv (if 256 < l.length then 5 else scanV (fun i => fiE T i (l.getD i (0, 0))) l.length), H, n)
    | _ => none
  | _ => none
theorem ok30 : EntOk Try.prog (30, g30) := by
  intro args H n v H' n' h
  simp only [g30] at h
  split at h
  · split at h
    · rename_i hk
      rw [Option.map_eq_some_iff] at h
      obtain ⟨l, h4, h⟩ := h
      injection h with e1 e2; injection e2 with e2 e3; subst e1 e2 e3
      exact w30 hk h4
    · cases h
  · cases h
end Go.Proofs.Ytljglocehbccnaa
