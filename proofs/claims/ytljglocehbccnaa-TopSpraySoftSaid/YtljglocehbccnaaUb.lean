/-
The walk through what TopSpraySoft reaches, and the plain law behind it (no condition).
-/
import Derived.Test.YtljglocehbccnaaUa
import Derived.Test.YtljglocehbccnaaAh
namespace Go.Proofs.Ytljglocehbccnaa
open Go Go.Ab Go.Proofs
set_option maxRecDepth 20000
/-! ### handed sightings -/
def decG : Dec Sg := fun _ cs => match cs with
  | [.int .i64 t, .int .i64 x, .int .i64 y] => some ⟨t, x, y⟩
  | _ => none
theorem decG_mono : DecMono decG := fun _ _ _ _ _ h => h
theorem decG_frz : DecFrz decG := fun _ _ => rfl
theorem decG_tidy : DecTidy decG := fun _ _ _ _ _ h => h
abbrev sigV (H : Heap) (v : Value) : Option (List Sg) := listV 3 decG H v
theorem decG_form {H : Heap} {r : List Value} {q : Sg} (h : decG H r = some q) : r = [iv q.tk, iv q.x, iv q.y] := by
  unfold decG at h
  split at h
  · injection h with h; subst h; rfl
  · cases h
theorem sigV_form {H : Heap} {v : Value} {l : List Sg} (h : sigV H v = some l) :
    ∃ oa c, v = .slice oa l.length c ∧ l.length < 2147483648 ∧ ∀ i (hi : i < l.length), ∃ a, oa = some a ∧ flat a = true ∧ cellsA H a.block (a.off + i * 3) 3 = some [iv l[i].tk, iv l[i].x, iv l[i].y] := by
  obtain ⟨oa, c, e1, e2, _, e3⟩ := listV_form h
  refine ⟨oa, c, e1, e2, fun i hi => ?_⟩
  obtain ⟨a, r, f1, f2, f3, f4⟩ := e3 i hi
  rw [decG_form f4] at f3
  exact ⟨a, f1, f2, f3⟩
theorem load90 {H : Heap} {m o : Nat} {s : Option Nat} {x y z : Value} (h : cellsA H m o 3 = some [x, y, z]) : loadA Try.prog 90 H (.pointer (some ⟨m, o, s⟩)) = some (.agg #[x, y, z]) := by
  simp only [loadA, ag90, sz90, h, Option.map_some]
theorem load89 {H : Heap} {m o : Nat} {s : Option Nat} {x y z : Value} (h : cellsA H m o 3 = some [x, y, z]) : loadA Try.prog 89 H (.pointer (some ⟨m, o, s⟩)) = some (.agg #[x, y, z]) := by
  simp only [loadA, ag89, sz89, h, Option.map_some]
/-! ### the boxes of closures -/
def brgAt (H : Heap) (k : Nat) : Option Brg := match hget H k with
  | some (.cells [.int .i64 r, .int .i64 s, .int .i64 l, .int .i64 c, .int .i64 f, .int .i64 x, .int .i64 y, .int .i64 dx, .int .i64 dy, .int .i64 t, .slice _ _ _] 84) => some ⟨r, s, l, c, f, x, y, dx, dy, t⟩
  | _ => none
theorem brgAt_form {H : Heap} {k : Nat} {b : Brg} (h : brgAt H k = some b) : ∃ oa L c, hget H k = some (.cells [iv b.r, iv b.s, iv b.l, iv b.c, iv b.f, iv b.x, iv b.y, iv b.dx, iv b.dy, iv b.t, .slice oa L c] 84) := by
  unfold brgAt at h
  split at h
  · rename_i hh
    injection h with h; subst h
    exact ⟨_, _, _, hh⟩
  · cases h
def intAt (H : Heap) (k : Nat) : Option Int := match hget H k with
  | some (.cells [.int .i64 t] 3) => some t
  | _ => none
theorem intAt_form {H : Heap} {k : Nat} {t : Int} (h : intAt H k = some t) : hget H k = some (.cells [iv t] 3) := by
  unfold intAt at h
  split at h
  · rename_i hh
    injection h with h; subst h
    exact hh
  · cases h
theorem brgAt_tidy {H : Heap} {n k : Nat} {b : Brg} (hl : ∀ k b, hget H k = some b → k < n) (h : brgAt H k = some b) : brgAt (tidy n H) k = some b := by
  obtain ⟨oa, L, c, hh⟩ := brgAt_form h
  have : hget (tidy n H) k = some (.cells [iv b.r, iv b.s, iv b.l, iv b.c, iv b.f, iv b.x, iv b.y, iv b.dx, iv b.dy, iv b.t, .slice oa L c] 84) := hget_tidy.2 ⟨hh, hl _ _ hh, rfl⟩
  unfold brgAt
  rw [this]
  rfl
theorem intAt_tidy {H : Heap} {n k : Nat} {t : Int} (hl : ∀ k b, hget H k = some b → k < n) (h : intAt H k = some t) : intAt (tidy n H) k = some t := by
  have hh := intAt_form h
  have : hget (tidy n H) k = some (.cells [iv t] 3) := hget_tidy.2 ⟨hh, hl _ _ hh, rfl⟩
  unfold intAt
  rw [this]
  rfl
/-! ### the closure -/
def g62 (args : List Value) (H : Heap) (n : Nat) : R := match args with
  | [.agg ⟨[.int .i64 r, .int .i64 s, .int .i64 l, .int .i64 c, .int .i64 f, .int .i64 x, .int .i64 y, .int .i64 dx, .int .i64 dy, .int .i64 t, .slice _ _ _]⟩, .agg ⟨[.int .i64 k, .int .i64 u, .int .i64 w]⟩, .int .i64 j] => some (.bool (nearV ⟨r, s, l, c, f, x, y, dx, dy, t⟩ ⟨k, u, w⟩ j), H, n)
  | _ => none
theorem ok62 : EntOk Try.prog (62, g62) := by
  intro args H n v H' n' h
  simp only [g62] at h
  split at h
  · injection h with h; injection h with e1 e2; injection e2 with e2 e3; subst e1 e2 e3
    exact w62 ⟨_, _, _, _, _, _, _, _, _, _⟩ ⟨_, _, _⟩ _ _ _ _
  · cases h
theorem w61 {H : Heap} {n k2 k3 : Nat} {b : Brg} {t : Int} (q : Sg) (h2 : brgAt H k2 = some b) (h3 : intAt H k3 = some t) : AC Try.prog 61 [.agg ⟨[iv q.tk, iv q.x, iv q.y]⟩, .pointer (some ⟨k2, 0, none⟩), .pointer (some ⟨k3, 0, none⟩)] H n (.bool (nearV b q t)) H n := by
  refine AC.given fun hold _ _ => AC.tidied (B := []) (by simp) ?_
  replace h2 := brgAt_tidy (fun k b h => (hold k b h).1) h2
  replace h3 := intAt_tidy (fun k b h => (hold k b h).1) h3
  obtain ⟨oa, L, c, h2⟩ := brgAt_form h2
  replace h3 := intAt_form h3
  have hk2 : k2 < n := tidy_lt _ _ h2
  have hk3 : k3 < n := tidy_lt _ _ h3
  have hr := recT_ok (P := Try.prog) (l := [(62, g62)]) (by simp [ok62])
  have hg : ∀ (H : Heap) (m : Nat), g62 [.agg ⟨[iv b.r, iv b.s, iv b.l, iv b.c, iv b.f, iv b.x, iv b.y, iv b.dx, iv b.dy, iv b.t, .slice oa L c]⟩, .agg ⟨[iv q.tk, iv q.x, iv q.y]⟩, iv t] H m = some (.bool (nearV b q t), H, m) := fun H m => rfl
  obtain ⟨B, hB⟩ : ∃ B, nearV b q t = B := ⟨_, rfl⟩
  simp only [hB] at hg ⊢
  have e2 : ¬ n = k2 := by omega
  have e3 : ¬ n = k3 := by omega
  refine AC.pure Try.func61 rfl (by kernel_rfl) rfl [0, 1, 2, 3] rfl ?_
  refine E.seq ?_
  refine E.reg hr (by simp; rfl) ?_ -- region 0
  refine E.seq ?_
  refine E.reg hr (by simp [h2, h3, e2, e3, hg]; rfl) ?_ -- region 1
  refine E.ret ?_
  exact pureK.ret rfl rfl (by simp) (by repeat first | exact Sub.refl _ | refine Sub.cons (by simp) ?_)
def g61 (args : List Value) (H : Heap) (n : Nat) : R := match args with
  | [.agg ⟨[.int .i64 k, .int .i64 u, .int .i64 w]⟩, .pointer (some ⟨k2, 0, none⟩), .pointer (some ⟨k3, 0, none⟩)] => (brgAt H k2).bind fun b => (intAt H k3).map fun t => (.bool (nearV b ⟨k, u, w⟩ t), H, n)
  | _ => none
theorem ok61 : EntOk Try.prog (61, g61) := by
  intro args H n v H' n' h
  simp only [g61] at h
  split at h
  · rw [Option.bind_eq_some_iff] at h
    obtain ⟨b, h2, h⟩ := h
    rw [Option.map_eq_some_iff] at h
    obtain ⟨t, h3, h⟩ := h
    injection h with e1 e2; injection e2 with e2 e3; subst e1 e2 e3
    exact w61 ⟨_, _, _⟩ h2 h3
  · cases h
/-! ### any of the sightings -/
abbrev nearF (k2 k3 : Nat) : Value := .func (.func 61) #[] #[.pointer (some ⟨k2, 0, none⟩), .pointer (some ⟨k3, 0, none⟩)]
def idxP (p : Sg → Bool) (l : List Sg) : Int := match l.findIdx? p with
  | some i => i
  | none => -1
theorem idxP_hit {p : Sg → Bool} {l : List Sg} {i : Nat} (hi : i < l.length) (h : p l[i] = true) (hj : ∀ j (h : j < l.length), j < i → p l[j] = false) : idxP p l = i := by
  have : l.findIdx? p = some i := by
    rw [List.findIdx?_eq_some_iff_getElem]
    exact ⟨hi, h, fun j hji => by rw [hj j (by omega) hji]; simp⟩
  unfold idxP
  rw [this]
theorem idxP_miss {p : Sg → Bool} {l : List Sg} (hj : ∀ j (h : j < l.length), p l[j] = false) : idxP p l = -1 := by
  have : l.findIdx? p = none := by
    rw [List.findIdx?_eq_none_iff]
    intro x hx
    obtain ⟨j, h, rfl⟩ := List.getElem_of_mem hx
    exact hj j h
  unfold idxP
  rw [this]
theorem idxP_any (p : Sg → Bool) (l : List Sg) : decide (0 ≤ idxP p l) = l.any p := by
  unfold idxP
  cases h : l.findIdx? p with
  | none =>
    rw [List.findIdx?_eq_none_iff] at h
    rw [List.any_eq_false.2 fun x hx => by simp [h x hx]]
    rfl
  | some i =>
    rw [List.findIdx?_eq_some_iff_getElem] at h
    obtain ⟨hi, h, _⟩ := h
    rw [List.any_eq_true.2 ⟨_, List.getElem_mem hi, h⟩]
    simp
theorem w78 {H : Heap} {n k2 k3 : Nat} {v : Value} {b : Brg} {t : Int} {l : List Sg} (h2 : brgAt H k2 = some b) (h3 : intAt H k3 = some t) (hS : sigV H v = some l) : AC Try.prog 78 [v, nearF k2 k3] H n (iv (idxP (nearV b · t) l)) H n := by
  refine AC.given fun hold _ _ => AC.tidied (B := []) (by simp) ?_
  replace h2 := brgAt_tidy (fun k b h => (hold k b h).1) h2
  replace h3 := intAt_tidy (fun k b h => (hold k b h).1) h3
  replace hS : sigV (tidy n H) v = some l := listV_tidy decG_tidy (fun k b h => (hold k b h).1) hS
  have hr := recT_ok (P := Try.prog) (l := [(61, g61)]) (by simp [ok61])
  obtain ⟨oa, c, rfl, hlt, hrow⟩ := sigV_form hS
  have hg : ∀ (q : Sg) (m : Nat), g61 [.agg ⟨[iv q.tk, iv q.x, iv q.y]⟩, .pointer (some ⟨k2, 0, none⟩), .pointer (some ⟨k3, 0, none⟩)] (tidy n H) m = some (.bool (nearV b q t), tidy n H, m) := fun q m => by simp only [g61, h2, h3]; rfl
  obtain ⟨p, hp⟩ : ∃ p : Sg → Bool, (nearV b · t) = p := ⟨_, rfl⟩
  have hp' : ∀ q, nearV b q t = p q := fun q => by rw [← hp]
  simp only [hp'] at hg
  rw [hp]
  refine AC.pure Try.func78 rfl (by kernel_rfl) rfl [0, 1, 7, 8] rfl ?_
  refine E.seq ?_
  refine E.reg hr (by simp; rfl) ?_ -- region 0
  refine E.seq ?_
  refine E.seq ?_
  refine E.reg hr (by simp; rfl) ?_ -- region 1
  refine E.block ?_ -- 0
  refine E.loop ?_
  refine EL.ind (fun i : Nat => { fr := [(0, .slice oa l.length c), (1, nearF k2 k3), (7, iv l.length), (8, iv i)], sz := 19, H := tidy n H, n := n, marks := [], vs := [0, 1, 7, 8] }) (fun i => l.length - i) (fun i => i ≤ l.length ∧ ∀ j (h : j < l.length), j < i → p l[j] = false) 0 (.keep rfl rfl rfl (by simp) (Sub.refl _)) ⟨Nat.zero_le _, fun j _ hj => by omega⟩ (fun _ => rfl) ?_
  rintro i ⟨hi, hg2⟩
  have hw : IntKind.i64.wrap ((i : Int) + 1) = (i : Int) + 1 := W_in (by omega) (by omega)
  refine E.seq ?_
  refine E.reg hr (by simp; rfl) ?_ -- region 2
  refine E.seq ?_
  by_cases hil : i < l.length
  · obtain ⟨a, rfl, hf, hc⟩ := hrow i hil
    have hld := load90 (s := none) hc
    refine E.cond (t := true) (by simp [hil]) (fun _ => ?_) (fun h => by cases h)
    refine E.skip ?_
    refine E.seq ?_
    refine E.block ?_ -- 1
    refine E.seq ?_
    refine E.reg hr (by simp; rfl) ?_ -- region 3
    refine E.seq ?_
    obtain ⟨q, hq⟩ : ∃ q, l[i] = q := ⟨_, rfl⟩
    rw [hq] at hld
    refine E.reg hr (by simp [-loadA, -flat, hil, hf, hld, run_vcall_tmp, vcallF, target, hg]; rfl) ?_ -- region 4
    cases h4 : p q with
    | true =>
      refine E.cond (t := true) (by simp) (fun _ => ?_) (fun h => by cases h)
      refine E.seq ?_
      refine E.reg hr (by simp; rfl) ?_ -- region 5
      refine E.ret ?_
      exact pureK.ret rfl rfl (by simp [idxP_hit hil (by rw [hq]; exact h4) hg2]) (Sub.refl _)
    | false =>
      refine E.cond (t := false) (by simp) (fun h => by cases h) (fun _ => ?_)
      refine E.skip ?_
      refine E.reg hr (by simp [hw]; rfl) ?_ -- region 6
      exact ⟨i + 1, .keep rfl rfl rfl (by simp) (Sub.refl _), ⟨hil, fun j h hj => if e : j = i then by subst e; rw [hq]; exact h4 else hg2 j h (by omega)⟩, by dsimp only; omega⟩
  · refine E.cond (t := false) (by simp [hil]) (fun h => by cases h) (fun _ => ?_)
    refine E.exit ?_ -- 0
    refine E.seq ?_
    refine E.reg hr (by simp; rfl) ?_ -- region 7
    refine E.ret ?_
    exact pureK.ret rfl rfl (by simp [idxP_miss (p := p) (l := l) fun j h => hg2 j h (by omega)]) (Sub.refl _)
def g78 (args : List Value) (H : Heap) (n : Nat) : R := match args with
  | [v, .func (.func 61) ⟨[]⟩ ⟨[.pointer (some ⟨k2, 0, none⟩), .pointer (some ⟨k3, 0, none⟩)]⟩] => (brgAt H k2).bind fun b => (intAt H k3).bind fun t => (sigV H v).map fun l => (iv (idxP (nearV b · t) l), H, n)
  | _ => none
theorem ok78 : EntOk Try.prog (78, g78) := by
  intro args H n v H' n' h
  simp only [g78] at h
  split at h
  · rw [Option.bind_eq_some_iff] at h
    obtain ⟨b, h2, h⟩ := h
    rw [Option.bind_eq_some_iff] at h
    obtain ⟨t, h3, h⟩ := h
    rw [Option.map_eq_some_iff] at h
    obtain ⟨l, h4, h⟩ := h
    injection h with e1 e2; injection e2 with e2 e3; subst e1 e2 e3
    exact w78 h2 h3 h4
  · cases h
def insideV (b : Brg) (l : List Sg) (t : Int) : Bool := l.any (nearV b · t)
theorem w60 {H : Heap} {n k2 k3 : Nat} {v : Value} {b : Brg} {t : Int} {l : List Sg} (h2 : brgAt H k2 = some b) (h3 : intAt H k3 = some t) (hS : sigV H v = some l) : AC Try.prog 60 [v, nearF k2 k3] H n (.bool (insideV b l t)) H n := by
  refine AC.given fun hold _ _ => AC.tidied (B := []) (by simp) ?_
  replace h2 := brgAt_tidy (fun k b h => (hold k b h).1) h2
  replace h3 := intAt_tidy (fun k b h => (hold k b h).1) h3
  replace hS : sigV (tidy n H) v = some l := listV_tidy decG_tidy (fun k b h => (hold k b h).1) hS
  have hr := recT_ok (P := Try.prog) (l := [(78, g78)]) (by simp [ok78])
  have hg : ∀ (m : Nat), g78 [v, nearF k2 k3] (tidy n H) m = some (iv (idxP (nearV b · t) l), tidy n H, m) := fun m => by simp only [g78, h2, h3, hS]; rfl
  unfold insideV
  rw [← idxP_any]
  obtain ⟨j, hj⟩ : ∃ j, idxP (nearV b · t) l = j := ⟨_, rfl⟩
  rw [hj] at hg ⊢
  refine AC.pure Try.func60 rfl (by kernel_rfl) rfl [] rfl ?_
  refine E.seq ?_
  refine E.reg hr (by simp; rfl) ?_ -- region 0
  refine E.seq ?_
  refine E.reg hr (by simp [hg]; rfl) ?_ -- region 1
  refine E.ret ?_
  exact pureK.ret rfl rfl (by simp) (Sub.refl _)
def g60 (args : List Value) (H : Heap) (n : Nat) : R := match args with
  | [v, .func (.func 61) ⟨[]⟩ ⟨[.pointer (some ⟨k2, 0, none⟩), .pointer (some ⟨k3, 0, none⟩)]⟩] => (brgAt H k2).bind fun b => (intAt H k3).bind fun t => (sigV H v).map fun l => (.bool (insideV b l t), H, n)
  | _ => none
theorem ok60 : EntOk Try.prog (60, g60) := by
  intro args H n v H' n' h
  simp only [g60] at h
  split at h
  · rw [Option.bind_eq_some_iff] at h
    obtain ⟨b, h2, h⟩ := h
    rw [Option.bind_eq_some_iff] at h
    obtain ⟨t, h3, h⟩ := h
    rw [Option.map_eq_some_iff] at h
    obtain ⟨l, h4, h⟩ := h
    injection h with e1 e2; injection e2 with e2 e3; subst e1 e2 e3
    exact w60 h2 h3 h4
  · cases h
theorem w25 {H : Heap} {n : Nat} {v : Value} {b : Brg} {t : Int} {l : List Sg} (hS : sigV H v = some l) : AC Try.prog 25 [b.val v, iv t] H n (.bool (insideV b l t)) H n := by
  refine AC.given fun hold _ _ => AC.tidied (B := []) (by simp) ?_
  replace hS : sigV (tidy n H) v = some l := listV_tidy decG_tidy (fun k b h => (hold k b h).1) hS
  have hr := recT_ok (P := Try.prog) (l := [(60, g60)]) (by simp [ok60])
  obtain ⟨oa, c, rfl, hlt, _⟩ := sigV_form hS
  have hS2 : sigV ((n + 1, .cells [iv t] 3) :: (n, .cells [iv b.r, iv b.s, iv b.l, iv b.c, iv b.f, iv b.x, iv b.y, iv b.dx, iv b.dy, iv b.t, .slice oa l.length c] 84) :: tidy n H) (.slice oa l.length c) = some l := listV_mono decG_mono (Sub.cons (by simp) (Sub.cons (by simp) (Sub.refl _))) hS
  have hg : ∀ m, g60 [.slice oa l.length c, nearF n (n + 1)] ((n + 1, .cells [iv t] 3) :: (n, .cells [iv b.r, iv b.s, iv b.l, iv b.c, iv b.f, iv b.x, iv b.y, iv b.dx, iv b.dy, iv b.t, .slice oa l.length c] 84) :: tidy n H) m = some (.bool (insideV b l t), (n + 1, .cells [iv t] 3) :: (n, .cells [iv b.r, iv b.s, iv b.l, iv b.c, iv b.f, iv b.x, iv b.y, iv b.dx, iv b.dy, iv b.t, .slice oa l.length c] 84) :: tidy n H, m) := fun m => by
    simp only [g60, hS2]
    have e1 : brgAt ((n + 1, .cells [iv t] 3) :: (n, .cells [iv b.r, iv b.s, iv b.l, iv b.c, iv b.f, iv b.x, iv b.y, iv b.dx, iv b.dy, iv b.t, .slice oa l.length c] 84) :: tidy n H) n = some b := by simp [brgAt]
    have e2 : intAt ((n + 1, .cells [iv t] 3) :: (n, .cells [iv b.r, iv b.s, iv b.l, iv b.c, iv b.f, iv b.x, iv b.y, iv b.dx, iv b.dy, iv b.t, .slice oa l.length c] 84) :: tidy n H) (n + 1) = some t := by simp [intAt]
    rw [e1, e2]
    rfl
  obtain ⟨B, hB⟩ : ∃ B, insideV b l t = B := ⟨_, rfl⟩
  rw [hB] at hg ⊢
  unfold Brg.val
  refine AC.pure Try.func25 rfl (by kernel_rfl) rfl [0, 1, 2, 3] rfl ?_
  refine E.seq ?_
  refine E.reg hr (by simp; rfl) ?_ -- region 0
  refine E.seq ?_
  refine E.reg hr (by simp [opMakefunc, hg]; rfl) ?_ -- region 1
  refine E.ret ?_
  exact pureK.ret rfl rfl (by simp) (by repeat first | exact Sub.refl _ | refine Sub.cons (by simp) ?_)
def g25 (args : List Value) (H : Heap) (n : Nat) : R := match args with
  | [.agg ⟨[.int .i64 r, .int .i64 s, .int .i64 l, .int .i64 c, .int .i64 f, .int .i64 x, .int .i64 y, .int .i64 dx, .int .i64 dy, .int .i64 t, v]⟩, .int .i64 j] => (sigV H v).map fun q => (.bool (insideV ⟨r, s, l, c, f, x, y, dx, dy, t⟩ q j), H, n)
  | _ => none
theorem ok25 : EntOk Try.prog (25, g25) := by
  intro args H n v H' n' h
  simp only [g25] at h
  split at h
  · rw [Option.map_eq_some_iff] at h
    obtain ⟨l, h4, h⟩ := h
    injection h with e1 e2; injection e2 with e2 e3; subst e1 e2 e3
    exact w25 (b := ⟨_, _, _, _, _, _, _, _, _, _⟩) h4
  · cases h
end Go.Proofs.Ytljglocehbccnaa

namespace Go.Proofs.Ytljglocehbccnaa
open Go Go.Ab Go.Proofs
set_option maxRecDepth 20000
theorem cellA_read {L : List Nat} {H : Heap} {a o : Nat} : cellA (readA L H) a o = if memN L a = true then cellA H a o else none := by
  rw [cellA_eq, cellA_eq, hget_readA]
  split <;> rfl
theorem cellsA_read {L : List Nat} {H : Heap} {a o k : Nat} : cellsA (readA L H) a o k = if memN L a = true then cellsA H a o k else none := by
  rw [cellsA_eq, cellsA_eq, hget_readA]
  split <;> rfl
theorem cell0 {H : Heap} {k o : Nat} {x y z : Value} (h : cellsA H k o 3 = some [x, y, z]) : cellA H k o = some x := by
  have := (cellsA_cell h (i := 0) (by omega)).1
  simpa using this
theorem max33 (a b : Int) (c : Array Bool) : runP Try.prog (builtin .max #[3, 3] 3 c #[iv a, iv b]) = some (.value (iv (max a b))) := by
  have h : runP Try.prog (builtin .max #[3, 3] 3 c #[iv a, iv b]) = some (.value (.int .i64 (if b > a then b else a))) := rfl
  rw [h]
  congr 3
  split <;> omega
theorem min33 (a b : Int) (c : Array Bool) : runP Try.prog (builtin .min #[3, 3] 3 c #[iv a, iv b]) = some (.value (iv (min a b))) := by
  have h : runP Try.prog (builtin .min #[3, 3] 3 c #[iv a, iv b]) = some (.value (.int .i64 (if b < a then b else a))) := rfl
  rw [h]
  congr 3
  split <;> omega
/-! ### sightings, checked -/
def sgP (l : List Sg) (i : Nat) (q : Sg) : Bool := decide (0 < i) && decide (q.tk < (l.getD (i - 1) ⟨0, 0, 0⟩).tk)
def sgE (l : List Sg) (i : Nat) (q : Sg) : Int := firstV [withinV q.tk 0 100000, ptV q.x q.y 100000, whenV (sgP l i q) 11]
theorem w77 {H : Heap} {n k : Nat} {v : Value} {l : List Sg} {i : Nat} (q : Sg) (hk : hget H k = some (.cells [v] 44)) (hS : sigV H v = some l) (hi : i < l.length) : AC Try.prog 77 [iv i, .agg ⟨[iv q.tk, iv q.x, iv q.y]⟩, .pointer (some ⟨k, 0, none⟩)] H n (iv (sgE l i q)) H n := by
  refine AC.given fun hold _ _ => AC.tidied (B := []) (by simp) ?_
  replace hk : hget (tidy n H) k = some (.cells [v] 44) := hget_tidy.2 ⟨hk, (hold _ _ hk).1, rfl⟩
  replace hS : sigV (tidy n H) v = some l := listV_tidy decG_tidy (fun k b h => (hold k b h).1) hS
  have hkn : k < n := tidy_lt _ _ hk
  have hr := recT_ok (P := Try.prog) (l := [(32, g32), (35, g35), (75, g75), (29, g29)]) (by simp [ok32, ok35, ok75, ok29])
  obtain ⟨oa, c, rfl, hlt, hrow⟩ := sigV_form hS
  have hkc : cellA (tidy n H) k 0 = some (.slice oa l.length c) := by rw [cellA_eq, hk]; rfl
  have n1 : ¬ n = k := by omega
  have n2 : ¬ n + 1 = k := by omega
  have n3 : ¬ n + 1 = n := by omega
  refine AC.pure Try.func77 rfl (by kernel_rfl) rfl [0, 1, 2, 4, 5] rfl ?_
  refine E.seq ?_
  refine E.reg hr (by simp; rfl) ?_ -- region 0
  refine E.seq ?_
  match i, hi with
  | 0, hi =>
    refine E.drawU mixed hr [5, 20, 21, 22] [2, 5, 20, 21, 22] [1, 2, 5, 10, 11, 17, 20, 21, 22] (by kernel_rfl) (by simp [yieldedA, undefV, g32, g35, g75, g29, intsAt, intsOf]; rfl) ?_ -- region 1
    refine E.ret ?_
    exact pureK.ret rfl rfl (by simp [sgE, sgP]) (by repeat first | exact Sub.refl _ | refine Sub.cons (by simp) ?_)
  | j + 1, hi =>
    obtain ⟨a, rfl, hf, hc⟩ := hrow j (by omega)
    have hc0 := cell0 hc
    have ha := cellA_lt tidy_lt hc0
    have m1 : k < n + 1 := by omega
    have m2 : a.block < n + 1 := by omega
    have m3 : k < n + 1 + 1 := by omega
    have m4 : a.block < n + 1 + 1 := by omega
    have n4 : ¬ n = a.block := by omega
    have n5 : ¬ n + 1 = a.block := by omega
    have hgd : (l.getD (j + 1 - 1) ⟨0, 0, 0⟩) = l[j] := by
      rw [Nat.add_sub_cancel, List.getD_eq_getElem?_getD, List.getElem?_eq_getElem (by omega)]; rfl
    have hjl : j < l.length := by omega
    have hw : IntKind.i64.wrap (j : Int) = (j : Int) := W_in (by omega) (by omega)
    have hmx : max 0 (j : Int) = j := by omega
    have hsg : sgP l (j + 1) q = decide (q.tk < l[j].tk) := by unfold sgP; rw [hgd]; simp
    obtain ⟨z, hz⟩ : ∃ z, l[j].tk = z := ⟨_, rfl⟩
    rw [hz] at hc0 hsg
    unfold sgE
    rw [hsg]
    refine E.drawU mixed hr [5, 20, 21, 22] [2, 5, 20, 21, 22] [1, 2, 5, 10, 11, 17, 20, 21, 22] (by kernel_rfl) (by simp [-cellA, -cellsA, -flat, -readA, cellA_cons, cellsA_cons, cellA_read, cellsA_read, flat_n, yieldedA, g32, g35, g75, g29, intsAt, intsOf, n1, n4, m1, m2, hkc, hf, hjl, hw, max33, hmx, hc0]; rfl) ?_ -- region 1
    refine E.ret ?_
    exact pureK.ret rfl rfl (by simp) (by repeat first | exact Sub.refl _ | refine Sub.cons (by simp) ?_)
end Go.Proofs.Ytljglocehbccnaa

namespace Go.Proofs.Ytljglocehbccnaa
open Go Go.Ab Go.Proofs
set_option maxRecDepth 20000
theorem firstV_app (l k : List Int) : firstV (l ++ k) = if firstV l = 0 then firstV k else firstV l := by
  induction l with
  | nil => simp [firstV]
  | cons e l ih =>
    simp only [List.cons_append, firstV]
    by_cases h : e = 0
    · simp [h, ih]
    · simp [h]
def scanV (f : Nat → Int) (n : Nat) : Int := firstV ((List.range n).map f)
theorem scanV_succ (f : Nat → Int) (n : Nat) : scanV f (n + 1) = if scanV f n = 0 then f n else scanV f n := by
  unfold scanV
  rw [List.range_succ, List.map_append, firstV_app]
  simp only [List.map_cons, List.map_nil, firstV]
  split
  · split
    · rename_i h; rw [h]
    · rfl
  · rfl
theorem scanV_zero {f : Nat → Int} {n : Nat} (h : ∀ j, j < n → f j = 0) : scanV f n = 0 := by
  induction n with
  | zero => rfl
  | succ n ih => rw [scanV_succ, ih fun j hj => h j (by omega), if_pos rfl, h n (by omega)]
theorem scanV_hit {f : Nat → Int} {n i : Nat} (hi : i < n) (h : f i ≠ 0) (hj : ∀ j, j < i → f j = 0) : scanV f n = f i := by
  induction n with
  | zero => omega
  | succ n ih =>
    rw [scanV_succ]
    by_cases he : i = n
    · subst he; rw [scanV_zero hj, if_pos rfl]
    · rw [ih (by omega), if_neg h]
theorem scanV_all {f : Nat → Int} {n : Nat} (h : scanV f n = 0) : ∀ j, j < n → f j = 0 := by
  induction n with
  | zero => intro j hj; omega
  | succ n ih =>
    rw [scanV_succ] at h
    split at h
    · rename_i h0
      intro j hj
      by_cases he : j = n
      · subst he; exact h
      · exact ih h0 j (by omega)
    · rename_i h0; exact absurd h h0
def g77 (args : List Value) (H : Heap) (n : Nat) : R := match args with
  | [.int .i64 i, .agg ⟨[.int .i64 t, .int .i64 x, .int .i64 y]⟩, .pointer (some ⟨k, 0, none⟩)] => match hget H k with
    | some (.cells [v] 44) => (sigV H v).bind fun l => if 0 ≤ i ∧ i.toNat < l.length then some (iv (sgE l i.toNat ⟨t, x, y⟩), H, n) else none
    | _ => none
  | _ => none
theorem ok77 : EntOk Try.prog (77, g77) := by
  intro args H n v H' n' h
  simp only [g77] at h
  split at h
  · rename_i i t x y k
    split at h
    · rename_i v hk
      rw [Option.bind_eq_some_iff] at h
      obtain ⟨l, h4, h⟩ := h
      split at h
      · rename_i hi
        obtain ⟨i', rfl⟩ := Int.eq_ofNat_of_zero_le hi.1
        injection h with h; injection h with e1 e2; injection e2 with e2 e3; subst e1 e2 e3
        exact w77 ⟨_, _, _⟩ hk h4 hi.2
      · cases h
    · cases h
  · cases h
abbrev sgF (k : Nat) : Value := .func (.func 77) #[] #[.pointer (some ⟨k, 0, none⟩)]
theorem w76 {H : Heap} {n k : Nat} {v v' : Value} {l : List Sg} (hk : hget H k = some (.cells [v'] 44)) (hS : sigV H v' = some l) (hV : sigV H v = some l) : AC Try.prog 76 [v, iv (64 : Nat), sgF k] H n (iv (if 64 < l.length then 5 else scanV (fun i => sgE l i (l.getD i ⟨0, 0, 0⟩)) l.length)) H n := by
  refine AC.given fun hold hsc _ => AC.tidied (B := []) (by simp) ?_
  replace hk : hget (tidy n H) k = some (.cells [v'] 44) := hget_tidy.2 ⟨hk, (hold _ _ hk).1, rfl⟩
  replace hS : sigV (tidy n H) v' = some l := listV_tidy decG_tidy (fun k b h => (hold k b h).1) hS
  have hkn : k < n := tidy_lt _ _ hk
  replace hV : sigV (tidy n H) v = some l := listV_tidy decG_tidy (fun k b h => (hold k b h).1) hV
  have hr := recT_ok (P := Try.prog) (l := [(77, g77)]) (by simp [ok77])
  obtain ⟨oa, c, rfl, hlt, hrow⟩ := sigV_form hV
  have hg : ∀ i (_ : i < l.length) (q : Sg) (m : Nat), g77 [iv i, .agg ⟨[iv q.tk, iv q.x, iv q.y]⟩, .pointer (some ⟨k, 0, none⟩)] ((n, .cells [iv q.tk, iv q.x, iv q.y] 90) :: tidy n H) m = some (iv (sgE l i q), (n, .cells [iv q.tk, iv q.x, iv q.y] 90) :: tidy n H, m) := fun i hi q m => by
    have e1 : hget ((n, .cells [iv q.tk, iv q.x, iv q.y] 90) :: tidy n H) k = some (.cells [v'] 44) := by rw [hget_cons, if_neg (by omega)]; exact hk
    have e2 : sigV ((n, .cells [iv q.tk, iv q.x, iv q.y] 90) :: tidy n H) v' = some l := listV_mono decG_mono (Sub.cons (by simp) (Sub.refl _)) hS
    simp only [g77, e1]
    show (sigV _ v').bind _ = _
    rw [e2]
    simp [hi]
  have hold2 := tidy_old hold
  have hsa : sc (· < n) (.slice oa l.length c) := hsc.1
  have hsb : sc (· < n) (sgF k) := hsc.2.2.1
  obtain ⟨F, hF⟩ : ∃ F : Value, sgF k = F := ⟨_, rfl⟩
  refine AC.pure Try.func76 rfl (by kernel_rfl) rfl [2, 14, 15, 16] rfl ?_
  refine E.seq ?_
  refine E.reg hr (by simp; rfl) ?_ -- region 0
  refine E.seq ?_
  refine E.seq ?_
  refine E.reg hr (by simp; rfl) ?_ -- region 1
  by_cases hm : 64 < l.length
  · have hm' : (64 : Int) < l.length := by omega
    rw [if_pos hm]
    refine E.cond (t := true) (by simp [hm']) (fun _ => ?_) (fun h => by cases h)
    refine E.seq ?_
    refine E.reg hr (by simp; rfl) ?_ -- region 2
    refine E.ret ?_
    exact pureK.ret rfl rfl (by simp) (Sub.refl _)
  have hm' : ¬ (64 : Int) < l.length := by omega
  rw [if_neg hm]
  refine E.cond (t := false) (by simp [hm']) (fun h => by cases h) (fun _ => ?_)
  refine E.skip ?_
  refine E.seq ?_
  refine E.seq ?_
  refine E.reg hr (by simp; rfl) ?_ -- region 3
  refine E.block ?_ -- 0
  refine E.loop ?_
  refine EL.ind (fun i : Nat => { fr := [(2, sgF k), (14, .slice oa l.length c), (15, iv l.length), (16, iv i)], sz := 29, H := tidy n H, n := n, marks := [], vs := [2, 14, 15, 16] }) (fun i => l.length - i) (fun i => i ≤ l.length ∧ ∀ j (h : j < l.length), j < i → sgE l j (l.getD j ⟨0, 0, 0⟩) = 0) 0 (.keep rfl rfl rfl (by simp) (Sub.refl _)) ⟨Nat.zero_le _, fun j _ hj => by omega⟩ (fun _ => rfl) ?_
  rintro i ⟨hi, hg2⟩
  have hw : IntKind.i64.wrap ((i : Int) + 1) = (i : Int) + 1 := W_in (by omega) (by omega)
  refine E.seq ?_
  refine E.reg hr (by simp; rfl) ?_ -- region 4
  refine E.seq ?_
  by_cases hil : i < l.length
  · obtain ⟨a, rfl, hf, hc⟩ := hrow i hil
    have hld := load90 (s := none) hc
    have hgd : l.getD i ⟨0, 0, 0⟩ = l[i] := by rw [List.getD_eq_getElem?_getD, List.getElem?_eq_getElem hil]; rfl
    have hcall := hg i hil l[i]
    have hit := fun (h : sgE l i (l.getD i ⟨0, 0, 0⟩) ≠ 0) => scanV_hit (f := fun i => sgE l i (l.getD i ⟨0, 0, 0⟩)) hil h fun j hj => hg2 j (by omega) hj
    rw [hgd] at hit
    obtain ⟨q, hq⟩ : ∃ q, l[i] = q := ⟨_, rfl⟩
    rw [hq] at hld hcall hit
    obtain ⟨e, he⟩ : ∃ e, sgE l i q = e := ⟨_, rfl⟩
    rw [he] at hcall hit
    refine E.cond (t := true) (by simp [hil]) (fun _ => ?_) (fun h => by cases h)
    refine E.skip ?_
    refine E.seq ?_
    refine E.block ?_ -- 1
    refine E.seq ?_
    refine E.reg hr (by simp [-loadA, -flat, hil, hf, hld]; rfl) ?_ -- region 5
    refine E.seq ?_
    refine E.reg hr (by simp [run_vcall_tmp, vcallF, target, hcall]; rfl) ?_ -- region 6
    refine E.seq ?_
    refine E.reg hr (by simp; rfl) ?_ -- region 7
    by_cases h4 : e = 0
    · refine E.cond (t := false) (by simp [h4]) (fun h => by cases h) (fun _ => ?_)
      refine E.skip ?_
      refine E.reg hr (by simp [hw]; rfl) ?_ -- region 9
      exact ⟨i + 1, .back rfl hold2 (Sub.cons (by simp) (Sub.refl _)) rfl rfl ⟨rfl, rfl⟩ (by simp [-sc, hsa, hsb]; exact ⟨trivial, trivial⟩), ⟨hil, fun j h hj => if e' : j = i then by subst e'; rw [hgd, hq, he]; exact h4 else hg2 j h (by omega)⟩, by dsimp only; omega⟩
    · have h5 := hit h4
      refine E.cond (t := true) (by simp [h4]) (fun _ => ?_) (fun h => by cases h)
      refine E.seq ?_
      refine E.reg hr (by simp; rfl) ?_ -- region 8
      refine E.ret ?_
      exact pureK.ret rfl rfl (by rw [h5]; simp) (Sub.cons (by simp) (Sub.refl _))
  · have h5 := scanV_zero (f := fun i => sgE l i (l.getD i ⟨0, 0, 0⟩)) (n := l.length) fun j hj => hg2 j hj (by omega)
    refine E.cond (t := false) (by simp [hil]) (fun h => by cases h) (fun _ => ?_)
    refine E.exit ?_ -- 0
    refine E.seq ?_
    refine E.reg hr (by simp; rfl) ?_ -- region 10
    refine E.ret ?_
    exact pureK.ret rfl rfl (by rw [h5]; simp) (Sub.refl _)
end Go.Proofs.Ytljglocehbccnaa

namespace Go.Proofs.Ytljglocehbccnaa
open Go Go.Ab Go.Proofs
set_option maxRecDepth 20000
def g76 (args : List Value) (H : Heap) (n : Nat) : R := match args with
  | [v, .int .i64 64, .func (.func 77) ⟨[]⟩ ⟨[.pointer (some ⟨k, 0, none⟩)]⟩] => match hget H k with
    | some (.cells [v'] 44) => (sigV H v).bind fun l => (sigV H v').bind fun l' => if l' = l then some (iv (if 64 < l.length then 5 else scanV (fun i => sgE l i (l.getD i ⟨0, 0, 0⟩)) l.length), H, n) else none
    | _ => none
  | _ => none
theorem ok76 : EntOk Try.prog (76, g76) := by
  intro args H n v H' n' h
  simp only [g76] at h
  split at h
  · rename_i v k
    split at h
    · rename_i v' hk
      rw [Option.bind_eq_some_iff] at h
      obtain ⟨l, h4, h⟩ := h
      rw [Option.bind_eq_some_iff] at h
      obtain ⟨l', h5, h⟩ := h
      split at h
      · rename_i hi
        subst hi
        injection h with h; injection h with e1 e2; injection e2 with e2 e3; subst e1 e2 e3
        exact w76 hk h5 h4
      · cases h
    · cases h
  · cases h
def sgC (l : List Sg) : Int := if 64 < l.length then 5 else scanV (fun i => sgE l i (l.getD i ⟨0, 0, 0⟩)) l.length
theorem w59 {H : Heap} {n : Nat} {v : Value} {l : List Sg} (hV : sigV H v = some l) : AC Try.prog 59 [v] H n (iv (sgC l)) H n := by
  refine AC.given fun hold hsc _ => AC.tidied (B := []) (by simp) ?_
  replace hV : sigV (tidy n H) v = some l := listV_tidy decG_tidy (fun k b h => (hold k b h).1) hV
  have hr := recT_ok (P := Try.prog) (l := [(76, g76)]) (by simp [ok76])
  obtain ⟨oa, c, rfl, hlt, hrow⟩ := sigV_form hV
  have hV2 : sigV ((n, .cells [.slice oa l.length c] 44) :: tidy n H) (.slice oa l.length c) = some l := listV_mono decG_mono (Sub.cons (by simp) (Sub.refl _)) hV
  have hg : ∀ m, g76 [.slice oa l.length c, iv 64, sgF n] ((n, .cells [.slice oa l.length c] 44) :: tidy n H) m = some (iv (sgC l), (n, .cells [.slice oa l.length c] 44) :: tidy n H, m) := fun m => by
    have e1 : hget ((n, .cells [.slice oa l.length c] 44) :: tidy n H) n = some (.cells [.slice oa l.length c] 44) := by rw [hget_cons, if_pos rfl]
    simp only [g76, e1]
    rw [hV2]
    simp [sgC]
  refine AC.pure Try.func59 rfl (by kernel_rfl) rfl [] rfl ?_
  refine E.seq ?_
  refine E.reg hr (by simp; rfl) ?_ -- region 0
  refine E.seq ?_
  refine E.reg hr (by simp [opMakefunc, hg]; rfl) ?_ -- region 1
  refine E.ret ?_
  exact pureK.ret rfl rfl (by simp) (by repeat first | exact Sub.refl _ | refine Sub.cons (by simp) ?_)
def g59 (args : List Value) (H : Heap) (n : Nat) : R := match args with
  | [v] => (sigV H v).map fun l => (iv (sgC l), H, n)
  | _ => none
theorem ok59 : EntOk Try.prog (59, g59) := by
  intro args H n v H' n' h
  simp only [g59] at h
  split at h
  · rw [Option.map_eq_some_iff] at h
    obtain ⟨l, h4, h⟩ := h
    injection h with e1 e2; injection e2 with e2 e3; subst e1 e2 e3
    exact w59 h4
  · cases h
def brE (b : Brg) (l : List Sg) : Int := firstV [vesV b.x b.y b.dx b.dy b.t, watV b.r b.s b.l b.c b.f, sgC l]
theorem w24 {H : Heap} {n : Nat} {v : Value} (b : Brg) {l : List Sg} (hV : sigV H v = some l) : AC Try.prog 24 [.agg ⟨[iv b.x, iv b.y, iv b.dx, iv b.dy, iv b.t]⟩, .agg ⟨[iv b.r, iv b.s, iv b.l, iv b.c, iv b.f]⟩, v] H n (.tuple #[b.val v, iv (brE b l)]) H n := by
  refine AC.given fun hold hsc _ => AC.tidied (B := []) (by simp) ?_
  replace hV : sigV (tidy n H) v = some l := listV_tidy decG_tidy (fun k b h => (hold k b h).1) hV
  have hr := recT_ok (P := Try.prog) (l := [(57, g57), (58, g58), (59, g59), (29, g29)]) (by simp [ok57, ok58, ok59, ok29])
  obtain ⟨oa, c, rfl, hlt, hrow⟩ := sigV_form hV
  have hz : zeroA Try.prog 84 = some (.agg #[iv 0, iv 0, iv 0, iv 0, iv 0, iv 0, iv 0, iv 0, iv 0, iv 0, .slice none 0 0]) := ze84
  have hsa : sc (· < n) (.slice oa l.length c) := hsc.2.2.1
  have hfz : sigV (frzH (tidy n H)) (.slice oa l.length c) = some l := (listV_frz decG_frz _ _).trans hV
  have hfn : ∀ j, n ≤ j → hget (frzH (tidy n H)) j = none := fun j hj => by
    rw [hget_frz, show hget (tidy n H) j = none from namesOk_none namesOk_tidy j hj]; rfl
  have hcall : ∀ x y z m, g59 [.slice oa l.length c] ((n + 1 + 1, x) :: (n + 1, y) :: (n, z) :: frzH (tidy n H)) m = some (iv (sgC l), (n + 1 + 1, x) :: (n + 1, y) :: (n, z) :: frzH (tidy n H), m) := fun x y z m => by
    have : sigV ((n + 1 + 1, x) :: (n + 1, y) :: (n, z) :: frzH (tidy n H)) (.slice oa l.length c) = some l := listV_mono decG_mono (Sub.cons (by simp [hfn]) (Sub.cons (by simp [hfn]) (Sub.cons (by simp [hfn]) (Sub.refl _)))) hfz
    simp [g59, this]
  have htk : takeNew (n + 1 + 1 + 1) (frzH (tidy n H)) = [] := takeNew_frz (namesOk_mono (by omega) _ namesOk_tidy)
  refine AC.same Try.func24 rfl (by kernel_rfl) rfl [2, 3, 4, 6, 7] ⟨⟨trivial, trivial, trivial, trivial, trivial, trivial, trivial, trivial, trivial, trivial, hsa, trivial⟩, trivial, trivial⟩ tidy_lt ?_
  refine E.seq ?_
  refine E.reg hr (by simp; rfl) ?_ -- region 0
  refine E.seq ?_
  refine E.drawU mixed hr [12] [5, 7, 9, 10, 11, 12] [0, 1, 4, 5, 7, 9, 10, 11, 12] (by kernel_rfl) (by simp [-cellA, -cellsA, -flat, -readA, cellsA_cons, cellsA_read, flat_n, g57, g58, g29, intsAt, intsOf, build84 (r := b.r) (s := b.s) (l := b.l) (c := b.c) (f := b.f) (vx := b.x) (vy := b.y) (dx := b.dx) (dy := b.dy) (t := b.t) (oa := oa) (L := l.length) (k := c), hcall, handA_nil]; rfl) ?_ -- region 1
  refine E.ret ?_
  refine pureK.ret rfl (vs := [b.val (.slice oa l.length c), iv (brE b l)]) (by simp [resultsA, resultA, Try.f24, Brg.val, brE]) rfl ?_
  repeat first | exact Sub.refl _ | refine Sub.cons (by simp) ?_
end Go.Proofs.Ytljglocehbccnaa

namespace Go.Proofs.Ytljglocehbccnaa
open Go Go.Ab Go.Proofs
set_option maxRecDepth 20000
theorem cells_tail {H : Heap} {k o : Nat} {x y z : Value} (h : cellsA H k o 3 = some [x, y, z]) : cellsA H k (o + 1) 2 = some [y, z] := by
  have tl : ∀ (cs : List Value) (o : Nat), (cs.drop o).take 3 = [x, y, z] → (cs.drop (o + 1)).take 2 = [y, z] := fun cs o h => by
    have : (cs.drop (o + 1)).take 2 = ((cs.drop o).take 3).drop 1 := by
      rw [List.drop_take, List.drop_drop]
    rw [this, h]; rfl
  rw [cellsA_eq] at h ⊢
  cases hb : hget H k with
  | none => rw [hb] at h; cases h
  | some b =>
    rw [hb] at h
    simp only [Option.bind_some] at h ⊢
    cases b with
    | cells cs t | ext cs t s | row cs s =>
      simp only [cellsB] at h ⊢
      split at h
      · injection h with h
        rw [if_pos (by omega), tl _ _ h]
      · cases h
    | inp o' cs =>
      simp only [cellsB] at h ⊢
      split at h
      · injection h with h
        rw [if_pos (by omega), show o + 1 - o' = o - o' + 1 by omega, tl _ _ h]
      · cases h
    | _ => cases h
theorem load23 {H : Heap} {m o : Nat} {s : Option Nat} {x y : Value} (h : cellsA H m o 2 = some [x, y]) : loadA Try.prog 23 H (.pointer (some ⟨m, o, s⟩)) = some (.agg #[x, y]) := by
  simp only [loadA, ag23, sz23, h, Option.map_some]
theorem sgE_split (l : List Sg) (i : Nat) (q : Sg) : sgE l i q = if firstV [withinV q.tk 0 100000, ptV q.x q.y 100000] = 0 then (if sgP l i q = true then 11 else 0) else firstV [withinV q.tk 0 100000, ptV q.x q.y 100000] := by
  unfold sgE
  rw [show [withinV q.tk 0 100000, ptV q.x q.y 100000, whenV (sgP l i q) 11] = [withinV q.tk 0 100000, ptV q.x q.y 100000] ++ [whenV (sgP l i q) 11] from rfl, firstV_app]
  split
  · simp only [firstV, whenV]
    split <;> simp_all
  · rfl
theorem w54 {H : Heap} {n : Nat} {v : Value} {l : List Sg} (hV : sigV H v = some l) : AC Try.prog 54 [v] H n (iv (sgC l)) H n := by
  refine AC.given fun hold hsc _ => AC.tidied (B := []) (by simp) ?_
  replace hV : sigV (tidy n H) v = some l := listV_tidy decG_tidy (fun k b h => (hold k b h).1) hV
  have hr := recT_ok (P := Try.prog) (l := [(39, g39), (74, g74), (38, g38)]) (by simp [ok39, ok74, ok38])
  obtain ⟨oa, c, rfl, hlt, hrow⟩ := sigV_form hV
  have hold2 := tidy_old hold
  have hsa : sc (· < n) (.slice oa l.length c) := hsc.1
  refine AC.pure Try.func54 rfl (by kernel_rfl) rfl [0, 3, 4] rfl ?_
  refine E.seq ?_
  refine E.reg hr (by simp; rfl) ?_ -- region 0
  refine E.seq ?_
  refine E.seq ?_
  refine E.reg hr (by simp; rfl) ?_ -- region 1
  unfold sgC
  by_cases hm : 64 < l.length
  · have hm' : (64 : Int) < l.length := by omega
    rw [if_pos hm]
    refine E.cond (t := true) (by simp [hm']) (fun _ => ?_) (fun h => by cases h)
    refine E.seq ?_
    refine E.reg hr (by simp; rfl) ?_ -- region 2
    refine E.ret ?_
    exact pureK.ret rfl rfl (by simp) (Sub.refl _)
  have hm' : ¬ (64 : Int) < l.length := by omega
  rw [if_neg hm]
  refine E.cond (t := false) (by simp [hm']) (fun h => by cases h) (fun _ => ?_)
  refine E.skip ?_
  refine E.seq ?_
  refine E.seq ?_
  refine E.reg hr (by simp; rfl) ?_ -- region 3
  refine E.block ?_ -- 0
  refine E.loop ?_
  refine EL.ind (fun i : Nat => { fr := [(0, .slice oa l.length c), (3, iv i)], sz := 47, H := tidy n H, n := n, marks := [], vs := [0, 3, 4] }) (fun i => l.length - i) (fun i => i ≤ l.length ∧ ∀ j (h : j < l.length), j < i → sgE l j (l.getD j ⟨0, 0, 0⟩) = 0) 0 (.keep rfl rfl rfl (by simp) (Sub.refl _)) ⟨Nat.zero_le _, fun j _ hj => by omega⟩ (fun _ => rfl) ?_
  rintro i ⟨hi, hg2⟩
  have hw : IntKind.i64.wrap ((i : Int) + 1) = (i : Int) + 1 := W_in (by omega) (by omega)
  refine E.seq ?_
  refine E.seq ?_
  refine E.reg hr (by simp; rfl) ?_ -- region 4
  by_cases hil : i < l.length
  case neg =>
    have h5 := scanV_zero (f := fun i => sgE l i (l.getD i ⟨0, 0, 0⟩)) (n := l.length) fun j hj => hg2 j hj (by omega)
    refine E.cond (t := false) (by simp [hil]) (fun h => by cases h) (fun _ => ?_)
    refine E.exit ?_ -- 0
    refine E.seq ?_
    refine E.reg hr (by simp; rfl) ?_ -- region 11
    refine E.ret ?_
    exact pureK.ret rfl rfl (by rw [h5]; simp) (Sub.refl _)
  obtain ⟨a, rfl, hf, hc⟩ := hrow i hil
  have hgd : l.getD i ⟨0, 0, 0⟩ = l[i] := by rw [List.getD_eq_getElem?_getD, List.getElem?_eq_getElem hil]; rfl
  have hit := fun (h : sgE l i (l.getD i ⟨0, 0, 0⟩) ≠ 0) => scanV_hit (f := fun i => sgE l i (l.getD i ⟨0, 0, 0⟩)) hil h fun j hj => hg2 j (by omega) hj
  have hsp := sgE_split l i l[i]
  rw [hgd] at hit
  obtain ⟨q, hq⟩ : ∃ q, l[i] = q := ⟨_, rfl⟩
  rw [hq] at hc hit hsp
  have hc0 := cell0 hc
  have hc1 := cells_tail hc
  have ha := cellA_lt tidy_lt hc0
  have n4 : ¬ n = a.block := by omega
  have m2 : a.block < n + 1 := by omega
  refine E.cond (t := true) (by simp [hil]) (fun _ => ?_) (fun h => by cases h)
  refine E.skip ?_
  refine E.seq ?_
  refine E.block ?_ -- 1
  refine E.seq ?_
  refine E.seq ?_
  refine E.drawU mixed hr [11, 12, 13] [5, 11, 12, 13] [4, 5, 11, 12, 13] (by kernel_rfl) (by simp [-cellA, -cellsA, -flat, -readA, cellsA_cons, cellA_read, cellsA_read, flat_n, g39, g74, g38, intsAt, intsOf, hf, hil, hc0, hc1, ha]; rfl) ?_ -- region 6
  refine E.seq ?_
  refine E.reg hr (by simp; rfl) ?_ -- region 7
  obtain ⟨e, he⟩ : ∃ e, firstV [withinV q.tk 0 100000, ptV q.x q.y 100000] = e := ⟨_, rfl⟩
  rw [he] at hsp ⊢
  by_cases h4 : e = 0
  case neg =>
    rw [if_neg h4] at hsp
    have h5 := hit (by rw [hsp]; exact h4)
    rw [hsp] at h5
    refine E.cond (t := true) (by simp [h4]) (fun _ => ?_) (fun h => by cases h)
    refine E.seq ?_
    refine E.reg hr (by simp; rfl) ?_ -- region 8
    refine E.ret ?_
    exact pureK.ret rfl rfl (by rw [h5]; simp) (Sub.cons (by simp) (Sub.refl _))
  rw [if_pos h4] at hsp
  refine E.cond (t := false) (by simp [h4]) (fun h => by cases h) (fun _ => ?_)
  refine E.skip ?_
  refine E.seq ?_
  have done : ∀ st : St, st.sz = 47 → st.marks = [] → Sub (tidy n H) st.H → lk st.fr 0 = some (.slice (some a) l.length c) → lk st.fr 3 = some (iv ((i : Int) + 1)) → sgE l i q = 0 → ∃ j : Nat, Leads Try.prog n st { fr := [(0, .slice (some a) l.length c), (3, iv j)], sz := 47, H := tidy n H, n := n, marks := [], vs := [0, 3, 4] } ∧ (j ≤ l.length ∧ ∀ m (h : m < l.length), m < j → sgE l m (l.getD m ⟨0, 0, 0⟩) = 0) ∧ l.length - j < l.length - i := fun st h1 h2 h3 h5 h6 h7 =>
    ⟨i + 1, .back rfl hold2 h3 rfl h1.symm ⟨h2, rfl⟩ (by simp [-sc, hsa, h5, h6]; exact trivial), ⟨hil, fun m h hm => if e' : m = i then by subst e'; rw [hgd, hq]; exact h7 else hg2 m h (by omega)⟩, by omega⟩
  obtain rfl | ⟨j, rfl⟩ : i = 0 ∨ ∃ j, i = j + 1 := by
    cases i with
    | zero => exact .inl rfl
    | succ j => exact .inr ⟨j, rfl⟩
  · have hs0 : sgP l 0 q = false := rfl
    rw [hs0, if_neg (by simp)] at hsp
    refine E.drawU mixed hr [] [] [7, 13] (by kernel_rfl) (by simp [yieldedA, undefV]; rfl) ?_ -- region 9
    refine E.cond (t := false) (by simp) (fun h => by cases h) (fun _ => ?_)
    refine E.skip ?_
    refine E.reg hr (by simp [show IntKind.i64.wrap 1 = 1 from by decide]; rfl) ?_ -- region 5
    exact done _ rfl rfl (Sub.cons (by simp) (Sub.refl _)) (by simp) (by simp) hsp
  · obtain ⟨a', e', hf', hc'⟩ := hrow j (by omega)
    injection e' with e'
    subst e'
    have hcj := cell0 hc'
    have hgj : (l.getD (j + 1 - 1) ⟨0, 0, 0⟩) = l[j] := by
      rw [Nat.add_sub_cancel, List.getD_eq_getElem?_getD, List.getElem?_eq_getElem (by omega)]; rfl
    have hsg : sgP l (j + 1) q = decide (q.tk < l[j].tk) := by unfold sgP; rw [hgj]; simp
    obtain ⟨z, hz⟩ : ∃ z, l[j].tk = z := ⟨_, rfl⟩
    rw [hz] at hcj hsg
    have hjl : j < l.length := by omega
    have hjI : (j : Int) + 1 < l.length := by omega
    have hw3 : IntKind.i64.wrap ((j : Int) + 1 + 1) = (j : Int) + 1 + 1 := W_in (by omega) (by omega)
    have hwj : IntKind.i64.wrap (j : Int) = (j : Int) := W_in (by omega) (by omega)
    have hn1 : namesOk (n + 1) (tidy n H) = true := namesOk_mono (by omega) _ namesOk_tidy
    rw [hsg] at hsp
    refine E.drawU mixed hr [] [] [7, 13] (by kernel_rfl) (by simp [-cellA, -cellsA, -flat, -readA, cellA_cons, cellA_read, hf, hjl, hjI, hwj, hc0, hcj, n4, m2]; rfl) ?_ -- region 9
    by_cases h6 : q.tk < z
    · rw [if_pos (by simpa using h6)] at hsp
      have h5 := hit (by rw [hsp]; decide)
      rw [hsp] at h5
      refine E.cond (t := true) (by simp [h6]) (fun _ => ?_) (fun h => by cases h)
      refine E.seq ?_
      refine E.reg hr (by simp; rfl) ?_ -- region 10
      refine E.ret ?_
      exact pureK.ret rfl rfl (by rw [h5]; simp) (Sub.cons (by simp) (Sub.refl _))
    · rw [if_neg (by simpa using h6)] at hsp
      refine E.cond (t := false) (by simp [h6]) (fun h => by cases h) (fun _ => ?_)
      refine E.skip ?_
      refine E.reg hr (by simp [hw3]; rfl) ?_ -- region 5
      exact done _ rfl rfl (Sub.cons (by simp) (Sub.refl _)) (by simp) (by simp) hsp
def g54 (args : List Value) (H : Heap) (n : Nat) : R := match args with
  | [v] => (sigV H v).map fun l => (iv (sgC l), H, n)
  | _ => none
theorem ok54 : EntOk Try.prog (54, g54) := by
  intro args H n v H' n' h
  simp only [g54] at h
  split at h
  · rw [Option.map_eq_some_iff] at h
    obtain ⟨l, h4, h⟩ := h
    injection h with e1 e2; injection e2 with e2 e3; subst e1 e2 e3
    exact w54 h4
  · cases h
theorem w20 {H : Heap} {n : Nat} {v : Value} (b : Brg) {l : List Sg} (hV : sigV H v = some l) : AC Try.prog 20 [.agg ⟨[iv b.x, iv b.y, iv b.dx, iv b.dy, iv b.t]⟩, .agg ⟨[iv b.r, iv b.s, iv b.l, iv b.c, iv b.f]⟩, v] H n (iv (brE b l)) H n := by
  refine AC.given fun hold hsc _ => AC.tidied (B := []) (by simp) ?_
  replace hV : sigV (tidy n H) v = some l := listV_tidy decG_tidy (fun k b h => (hold k b h).1) hV
  have hr := recT_ok (P := Try.prog) (l := [(52, g52), (53, g53), (54, g54), (38, g38)]) (by simp [ok52, ok53, ok54, ok38])
  obtain ⟨oa, c, rfl, hlt, hrow⟩ := sigV_form hV
  have hcall : ∀ y z m, g54 [.slice oa l.length c] ((n + 1, y) :: (n, z) :: tidy n H) m = some (iv (sgC l), (n + 1, y) :: (n, z) :: tidy n H, m) := fun y z m => by
    have : sigV ((n + 1, y) :: (n, z) :: tidy n H) (.slice oa l.length c) = some l := listV_mono decG_mono (Sub.cons (by simp) (Sub.cons (by simp) (Sub.refl _))) hV
    simp [g54, this]
  refine AC.pure Try.func20 rfl (by kernel_rfl) rfl [2, 3, 4, 6] rfl ?_
  refine E.seq ?_
  refine E.reg hr (by simp; rfl) ?_ -- region 0
  refine E.seq ?_
  refine E.drawU mixed hr [3, 5, 6, 7] [1, 3, 5, 6, 7] [0, 1, 3, 5, 6, 7] (by kernel_rfl) (by simp [-cellA, -cellsA, -flat, -readA, cellsA_cons, cellsA_read, flat_n, g52, g53, g38, intsAt, intsOf, hcall]; rfl) ?_ -- region 1
  refine E.ret ?_
  exact pureK.ret rfl rfl (by simp [brE]) (by repeat first | exact Sub.refl _ | refine Sub.cons (by simp) ?_)
end Go.Proofs.Ytljglocehbccnaa

namespace Go.Proofs.Ytljglocehbccnaa
open Go Go.Ab Go.Proofs
set_option maxRecDepth 20000
/-! ### lists that are made -/
theorem rep_val (z : Value) (w : Nat) : ((Array.range (w * 1)).map ((if w * 1 = 0 then #[] else #[z])[· % (if w * 1 = 0 then #[] else #[z]).size]!)).toList = List.replicate w z := by
  rw [Nat.mul_one, Array.toList_map, Array.toList_range]
  refine List.eq_replicate_iff.2 ⟨by simp, fun x hx => ?_⟩
  rw [List.mem_map] at hx
  obtain ⟨i, hi, rfl⟩ := hx
  rw [List.mem_range] at hi
  rw [if_neg (by omega)]
  simp [Nat.mod_one]
theorem mk35 {fr : Fr} {H : Heap} {n : Nat} {x y : Operand} {w : Int} (h0 : 0 ≤ w) (h1 : w ≤ 4096) (hx : evO Try.prog fr x = some (iv w)) (hy : evO Try.prog fr y = some (iv w)) : opMakeslice Try.prog 35 x y fr H n = some (.slice (some ⟨n, 0, none⟩) w.toNat w.toNat, (n, .cells (List.replicate w.toNat (iv 0)) 3) :: H, n + 1) := by
  unfold opMakeslice
  rw [hx, hy, Try.underlying35]
  have hz : Try.t3.zero = some (.int .i64 0) := by kernel_rfl
  have hb : Try.t3.bytes = 8 := by kernel_rfl
  have hs : Try.t3.size = 1 := by kernel_rfl
  simp only [inf3, hz, hb, hs]
  have hc : (0 ≤ w ∧ w ≤ w ∧ (smallA 8 w.toNat && afL (Value.int .i64 0).cells.toList) = true) := ⟨h0, Int.le_refl _, by simp [smallA]; omega⟩
  rw [if_pos hc]
  unfold newA
  rw [show (Value.int .i64 0).cells = #[Value.int .i64 0] from rfl, rep_val]
theorem mk39 {fr : Fr} {H : Heap} {n : Nat} {x y : Operand} {w : Int} (h0 : 0 ≤ w) (h1 : w ≤ 4096) (hx : evO Try.prog fr x = some (iv w)) (hy : evO Try.prog fr y = some (iv w)) : opMakeslice Try.prog 39 x y fr H n = some (.slice (some ⟨n, 0, none⟩) w.toNat w.toNat, (n, .cells (List.replicate w.toNat (.bool false)) 4) :: H, n + 1) := by
  unfold opMakeslice
  rw [hx, hy, Try.underlying39]
  have hz : Try.t4.zero = some (.bool false) := by kernel_rfl
  have hb : Try.t4.bytes = 1 := by kernel_rfl
  have hs : Try.t4.size = 1 := by kernel_rfl
  simp only [inf4, hz, hb, hs]
  have hc : (0 ≤ w ∧ w ≤ w ∧ (smallA 1 w.toNat && afL (Value.bool false).cells.toList) = true) := ⟨h0, Int.le_refl _, by simp [smallA]; omega⟩
  rw [if_pos hc]
  unfold newA
  rw [show (Value.bool false).cells = #[Value.bool false] from rfl, rep_val]
theorem renL_afl (ρ : Nat → Nat) : ∀ l : List Value, (∀ v ∈ l, Ab.ren ρ v = v) → Ab.renL ρ l = l
  | [], _ => rfl
  | v :: l, h => by
    simp only [Ab.renL]
    rw [h v (List.mem_cons_self ..), renL_afl ρ l fun x hx => h x (List.mem_cons_of_mem _ hx)]
theorem fresh_cells {n m t L c : Nat} {H H1 : Heap} {cs : List Value} (haf : afL cs = true) (hren : ∀ ρ, renL ρ cs = cs) (hm : n ≤ m) (hg : hget H1 m = some (.cells cs t)) (hs : Sub H H1) : Fresh n (n + 1) H (.slice (some ⟨n, 0, none⟩) L c) [(n, .cells cs t)] (.slice (some ⟨m, 0, none⟩) L c) H1 := by
  refine ⟨fun k => if k = n then m else k, fun k hk => if_neg (by omega), by simp [ren], fun k b hk => ?_, fun j b k c hj hk _ => ?_, hs⟩
  · rw [hget_cons] at hk
    split at hk
    · rename_i e; subst e; injection hk with hk; subst hk
      refine ⟨Nat.le_refl _, Nat.lt_succ_self _, by simpa using hm, ?_, scL_af _ _ haf, trivial, rfl⟩
      simp [renB, hren, hg]
    · cases hk
  · rw [hget_cons] at hj hk
    split at hj
    · split at hk
      · omega
      · cases hk
    · cases hj
/-! ### levels -/
/-- how long it has been quiet, before a tick -/
def quV (b : Brg) (l : List Sg) : Nat → Int
  | 0 => 0
  | t + 1 => if insideV b l t = true then 0 else IntKind.i64.wrap (quV b l t + 1)
def levV (b : Brg) (l : List Sg) (t : Nat) : Int := min (IntKind.i64.wrap (b.f + 1)) (max 0 (IntKind.i64.wrap (quV b l (t + 1) - b.c)))
def levL (b : Brg) (l : List Sg) : List Value := (List.range b.t.toNat).map fun t => iv (levV b l t)
theorem levL_af (b : Brg) (l : List Sg) : afL (levL b l) = true := by
  unfold levL
  rw [show (fun t => iv (levV b l t)) = iv ∘ levV b l from rfl, ← List.map_map]
  exact afL_iv _
theorem levL_ren (b : Brg) (l : List Sg) (ρ : Nat → Nat) : renL ρ (levL b l) = levL b l := renL_afl ρ _ fun v hv => by
  unfold levL at hv
  rw [List.mem_map] at hv
  obtain ⟨t, _, rfl⟩ := hv
  rfl
theorem w26 {H : Heap} {n : Nat} {v : Value} (b : Brg) {l : List Sg} (hV : sigV H v = some l) (h0 : 0 ≤ b.t) (h1 : b.t ≤ 4096) : AC Try.prog 26 [b.val v] H n (.slice (some ⟨n, 0, none⟩) b.t.toNat b.t.toNat) ([(n, .cells (levL b l) 3)] ++ H) (n + 1) := by
  refine AC.given fun hold hsc hgn => AC.tidied (fun x hx => ?_) ?_
  · rw [List.mem_singleton] at hx; subst hx; exact Nat.le_refl _
  replace hV : sigV (tidy n H) v = some l := listV_tidy decG_tidy (fun k b h => (hold k b h).1) hV
  have hr := recT_ok (P := Try.prog) (l := [(25, g25), (63, g63)]) (by simp [ok25, ok63])
  obtain ⟨oa, c, rfl, hlt, hrow⟩ := sigV_form hV
  obtain ⟨T, hT⟩ := Int.eq_ofNat_of_zero_le h0
  have hTn : b.t.toNat = T := by omega
  have hlL : (levL b l).length = T := by simp [levL, hTn]
  obtain ⟨R, hR⟩ : ∃ R, levL b l = R := ⟨_, rfl⟩
  have hRat : ∀ i (h : i < T), R[i]? = some (iv (levV b l i)) := fun i h => by
    rw [← hR]; unfold levL; rw [hTn, List.getElem?_map, List.getElem?_range h]; rfl
  have haf : afL R = true := by rw [← hR]; exact levL_af b l
  have hren : ∀ ρ, renL ρ R = R := fun ρ => by rw [← hR]; exact levL_ren b l ρ
  rw [hR] at hlL ⊢
  rw [hTn]
  have hcall : ∀ x t m, g25 [.agg ⟨[iv b.r, iv b.s, iv b.l, iv b.c, iv b.f, iv b.x, iv b.y, iv b.dx, iv b.dy, iv b.t, .slice oa l.length c]⟩, iv t] ((n + 1, x) :: (n, .cells [iv b.r, iv b.s, iv b.l, iv b.c, iv b.f, iv b.x, iv b.y, iv b.dx, iv b.dy, iv b.t, .slice oa l.length c] 84) :: tidy n H) m = some (.bool (insideV b l t), (n + 1, x) :: (n, .cells [iv b.r, iv b.s, iv b.l, iv b.c, iv b.f, iv b.x, iv b.y, iv b.dx, iv b.dy, iv b.t, .slice oa l.length c] 84) :: tidy n H, m) := fun x t m => by
    have : sigV ((n + 1, x) :: (n, .cells [iv b.r, iv b.s, iv b.l, iv b.c, iv b.f, iv b.x, iv b.y, iv b.dx, iv b.dy, iv b.t, .slice oa l.length c] 84) :: tidy n H) (.slice oa l.length c) = some l := listV_mono decG_mono (Sub.cons (by simp) (Sub.cons (by simp) (Sub.refl _))) hV
    simp only [g25]
    rw [this]
    rfl
  unfold Brg.val
  refine AC.fresh Try.func26 rfl (by kernel_rfl) rfl [1, 3, 4, 5, 11, 12] (by omega) (show n < n + 1 by omega) (fun ρ => rfl) ?_
  refine E.seq ?_
  refine E.reg hr (by simp; rfl) ?_ -- region 0
  refine E.seq ?_
  refine E.reg hr (by simp [mk35 (w := b.t) h0 h1, hTn]; rfl) ?_ -- region 1
  refine E.seq ?_
  refine E.reg hr (by simp; rfl) ?_ -- region 2
  refine E.seq ?_
  refine E.seq ?_
  refine E.reg hr (by simp; rfl) ?_ -- region 3
  refine E.block ?_ -- 0
  refine E.loop ?_
  refine EL.ind (fun x : Nat × List Value => { fr := [(1, .pointer (some ⟨n, 0, none⟩)), (3, .slice (some ⟨n + 1, 0, none⟩) T T), (4, iv (quV b l x.1)), (11, iv T), (12, iv x.1)], sz := 35, H := (n + 1, .cells x.2 3) :: (n, .cells [iv b.r, iv b.s, iv b.l, iv b.c, iv b.f, iv b.x, iv b.y, iv b.dx, iv b.dy, iv b.t, .slice oa l.length c] 84) :: tidy n H, n := n + 1 + 1, marks := [], vs := [1, 3, 4, 5, 11, 12] }) (fun x => T - x.1) (fun x => x.1 ≤ T ∧ x.2.length = T ∧ ∀ j, j < x.1 → x.2[j]? = some (iv (levV b l j))) (0, List.replicate T (iv 0)) (.keep rfl rfl rfl (by simp [quV]) (Sub.refl _)) ⟨Nat.zero_le _, by simp, fun j hj => by omega⟩ (fun _ => rfl) ?_
  rintro ⟨i, cs⟩ ⟨hi, hcl, hg⟩
  dsimp only at hi hcl hg ⊢
  have hw : IntKind.i64.wrap ((i : Int) + 1) = (i : Int) + 1 := W_in (by omega) (by omega)
  refine E.seq ?_
  refine E.reg hr (by simp; rfl) ?_ -- region 4
  refine E.seq ?_
  by_cases hil : i < T
  · refine E.cond (t := true) (by simp [hil]) (fun _ => ?_) (fun h => by cases h)
    refine E.skip ?_
    refine E.seq ?_
    refine E.block ?_ -- 1
    refine E.seq ?_
    refine E.reg hr (by simp; rfl) ?_ -- region 5
    refine E.seq ?_
    refine E.reg hr (by simp; rfl) ?_ -- region 6
    refine E.seq ?_
    refine E.seq ?_
    refine E.reg hr (by simp [hcall]; rfl) ?_ -- region 7
    have hq1 : quV b l (i + 1) = if insideV b l i = true then 0 else IntKind.i64.wrap (quV b l i + 1) := rfl
    have hlev : levV b l i = min (IntKind.i64.wrap (b.f + 1)) (max 0 (IntKind.i64.wrap (quV b l (i + 1) - b.c))) := rfl
    obtain ⟨Q, hQ⟩ : ∃ Q, quV b l (i + 1) = Q := ⟨_, rfl⟩
    obtain ⟨V, hVl⟩ : ∃ V, levV b l i = V := ⟨_, rfl⟩
    rw [hQ] at hq1 hlev
    rw [hVl] at hlev
    have hst : ∀ Z : Heap, storeA ((n + 1, .cells cs 3) :: Z) (n + 1) i [iv V] = some ((n + 1, .cells (cs.set i (iv V)) 3) :: Z) := fun Z => by
      rw [store_at (by rw [hget_cons, if_pos rfl]) (by omega)]; simp
    have n1 : ¬ n = n + 1 := by omega
    have n2 : ¬ n + 1 = n := by omega
    have hset : ∀ j, j < i + 1 → (cs.set i (iv V))[j]? = some (iv (levV b l j)) := fun j hj => by
      by_cases e : j = i
      · subst e; rw [List.getElem?_set_self (by omega), hVl]
      · rw [List.getElem?_set_ne (by omega)]; exact hg j (by omega)
    cases hin : insideV b l i with
    | true =>
      rw [hin, if_pos rfl] at hq1
      rw [hq1] at hlev hQ
      refine E.cond (t := true) (by simp) (fun _ => ?_) (fun h => by cases h)
      refine E.reg hr (by simp; rfl) ?_ -- region 8
      refine E.drawU mixed hr [13] [4, 13] [3, 4, 13] (by kernel_rfl) (by simp [-Int.zero_sub, -storeA, g63, max33, min33, hil, ← hlev, hst]; rfl) ?_ -- region 9
      refine E.reg hr (by simp [hw]; rfl) ?_ -- region 10
      exact ⟨(i + 1, cs.set i (iv V)), .keep rfl rfl rfl (by simp [hQ]) (Sub.refl _), ⟨hil, by simp [hcl], hset⟩, by dsimp only; omega⟩
    | false =>
      rw [hin, if_neg (by simp)] at hq1
      refine E.cond (t := false) (by simp) (fun h => by cases h) (fun _ => ?_)
      refine E.skip ?_
      refine E.drawU mixed hr [13] [4, 13] [3, 4, 13] (by kernel_rfl) (by simp [-storeA, g63, max33, min33, hil, ← hq1, ← hlev, hst]; rfl) ?_ -- region 9
      refine E.reg hr (by simp [hw]; rfl) ?_ -- region 10
      exact ⟨(i + 1, cs.set i (iv V)), .keep rfl rfl rfl (by simp [hQ]) (Sub.refl _), ⟨hil, by simp [hcl], hset⟩, by dsimp only; omega⟩
  · have hcs : cs = R := List.ext_getElem? fun j => by
      by_cases hj : j < T
      · rw [hg j (by omega), hRat j hj]
      · rw [List.getElem?_eq_none (by omega), List.getElem?_eq_none (by omega)]
    subst hcs
    refine E.cond (t := false) (by simp [hil]) (fun h => by cases h) (fun _ => ?_)
    refine E.exit ?_ -- 0
    refine E.seq ?_
    refine E.reg hr (by simp; rfl) ?_ -- region 11
    refine E.ret ?_
    exact outK.ret rfl rfl (fresh_cells haf hren (by omega) (by rw [hget_cons, if_pos rfl]) (Sub.cons (by simp) (Sub.cons (by simp) (Sub.refl _))))
end Go.Proofs.Ytljglocehbccnaa
