/-
Walks through the guns and their soft start, and the plain law behind them (no condition).
-/
import Derived.Test.YtljglocehbccnaaRb
import Derived.Test.YtljglocehbccnaaAh
import Derived.Test.YtljglocehbccnaaAi
namespace Go.Ab
open Go
end Go.Ab
namespace Go.Proofs.Ytljglocehbccnaa.Gn
open Go Go.Ab Go.Proofs
def rowGuns (H : Heap) (b len : Nat) : Option (List Gun) := match rowOf H b with
  | some (cs, 7) => match gunsOf cs with
    | some l => if len = l.length ∧ len < 2 ^ 63 then some l else none
    | none => none
  | _ => none
theorem rowGuns_ok {H : Heap} {b len : Nat} {l : List Gun} (h : rowGuns H b len = some l) : rowOf H b = some (gcs l, 7) ∧ len = l.length ∧ l.length < 2 ^ 63 := by
  unfold rowGuns at h
  split at h
  · rename_i cs hb
    split at h
    · rename_i l' hl
      split at h
      · rename_i hc
        injection h with h; subst h
        have := gunsOf_ok _ _ hl
        subst this
        exact ⟨hb, hc.1, hc.1 ▸ hc.2⟩
      · cases h
    · cases h
  · cases h
end Go.Proofs.Ytljglocehbccnaa.Gn
namespace Go.Proofs.Ytljglocehbccnaa.Gn
open Go Go.Ab Go.Proofs
def volW (l : List Gun) : Int := l.foldl (fun a g => IntKind.i64.wrap (a + g.v)) 0
theorem volW_succ {l : List Gun} {i : Nat} (h : i < l.length) : volW (l.take (i + 1)) = IntKind.i64.wrap (volW (l.take i) + l[i].v) := by
  unfold volW
  rw [List.take_succ_eq_append_getElem h, List.foldl_append]
  rfl
set_option maxRecDepth 100000 in
theorem w46 (l : List Gun) (o c : Nat) (hl : l.length < 2 ^ 63) : AC Try.prog 46 [.slice (some ⟨10, o, none⟩) l.length c] [(10, .inp o (gcs l))] 11 (iv (volW l)) [(10, .inp o (gcs l))] 11 := by
  have hr := recT_ok (P := Try.prog) (l := []) (by simp)
  refine AC.pure Try.func46 rfl (by kernel_rfl) rfl [3, 6, 7, 8] rfl ?_
  refine E.seq ?_
  refine E.reg hr (by simp; rfl) ?_
  refine E.seq ?_
  refine E.reg hr (by simp; rfl) ?_
  refine E.seq ?_
  refine E.seq ?_
  refine E.reg hr (by simp; rfl) ?_
  refine E.block ?_
  refine E.loop ?_
  refine EL.ind (fun i : Nat => { fr := [(3, iv (volW (l.take i))), (6, .slice (some ⟨10, o, none⟩) l.length c), (7, iv l.length), (8, iv i)], sz := 18, H := [(10, .inp o (gcs l))], n := 11, marks := [], vs := [3, 6, 7, 8] }) (fun i => l.length - i) (fun i => i ≤ l.length) 0 (.less rfl rfl rfl (by simp [volW]) (by simp)) (Nat.zero_le _) (fun _ => rfl) ?_
  intro i hi
  refine E.seq ?_
  refine E.reg hr (by simp; rfl) ?_
  refine E.seq ?_
  refine E.cond (by rfl) (fun h => ?_) (fun h => ?_)
  · simp at h
    have hw : IntKind.i64.wrap ((i : Int) + 1) = (i : Int) + 1 := W_in (by omega) (by omega)
    have h7 : i * 7 + 7 ≤ l.length * 7 := by omega
    refine E.skip ?_
    refine E.seq ?_
    refine E.block ?_
    refine E.seq ?_
    refine E.reg hr (by simp [h, h7, gcs_take h]; rfl) ?_
    refine E.reg hr (by simp; rfl) ?_
    refine E.reg hr (by simp [hw]; rfl) ?_
    exact ⟨i + 1, Leads.ren [] rfl rfl rfl ⟨rfl, rfl⟩ (by simp [volW_succ h]) (by simp), h, by dsimp only; omega⟩
  · simp at h
    have hal : l.take i = l := List.take_of_length_le (by omega)
    refine E.exit ?_
    refine E.seq ?_
    refine E.reg hr (by simp; rfl) ?_
    refine E.ret ?_
    exact pureK.ret rfl rfl (by simp [hal]) (by repeat first | exact sub_refl _ | refine sub_cons rfl ?_)
def g46 (args : List Value) (H : Heap) (n : Nat) : R := match args with
  | [.slice (some a) len _] => (gunsAt H a len).map fun l => (iv (volW l), H, n)
  | _ => none
theorem ok46 : EntOk Try.prog (46, g46) := by
  intro args H n v H' n' h'
  simp only [g46] at h'
  split at h'
  · rename_i a len c
    rw [Option.map_eq_some_iff] at h'
    obtain ⟨l, h1, h2⟩ := h'
    injection h2 with e1 e2; injection e2 with e2 e3; subst e1 e2 e3
    obtain ⟨hf, hc, hlen, hlt⟩ := gunsAt_ok h1
    subst hlen
    exact AC.liftP rfl (Part.oneN (fun x => [x]) (by intro φ φ0 s s0 h; simp [denL, h]) (by intro p s h; exact ⟨h, trivial⟩) hf hc (afL_gcs l) [] (by simp [Seen]) gszN fun c => ⟨_, _, w46 l _ c hlt⟩)
  · cases h'
end Go.Proofs.Ytljglocehbccnaa.Gn
namespace Go.Proofs.Ytljglocehbccnaa.Gn
open Go Go.Ab Go.Proofs
def idxS (l : List ByteArray) (x : ByteArray) : Int := match l.findIdx? fun y => decide (x = y) with
  | some i => i
  | none => -1
theorem idxS_hit {l : List ByteArray} {x : ByteArray} {i : Nat} (hi : i < l.length) (hn : x = l[i]) (hb : ∀ j (h : j < l.length), j < i → x ≠ l[j]) : idxS l x = i := by
  have : l.findIdx? (fun y => decide (x = y)) = some i := by
    rw [List.findIdx?_eq_some_iff_getElem]
    exact ⟨hi, by simp [hn], fun j hj => by simpa using hb j (by omega) hj⟩
  unfold idxS
  rw [this]
theorem idxS_miss {l : List ByteArray} {x : ByteArray} (hb : ∀ j (h : j < l.length), x ≠ l[j]) : idxS l x = -1 := by
  have : l.findIdx? (fun y => decide (x = y)) = none := by
    rw [List.findIdx?_eq_none_iff]
    intro y hy
    obtain ⟨j, hj, rfl⟩ := List.getElem_of_mem hy
    simpa using hb j hj
  unfold idxS
  rw [this]
theorem idxS_mem (l : List ByteArray) (x : ByteArray) : decide (0 ≤ idxS l x) = hasW x l := by
  cases h : hasW x l with
  | true =>
    have : (l.findIdx? fun y => decide (x = y)).isSome = true := by
      rw [List.findIdx?_isSome]
      exact List.any_eq_true.2 ⟨x, hasW_iff.1 h, by simp⟩
    obtain ⟨i, hi⟩ := Option.isSome_iff_exists.1 this
    have : 0 ≤ idxS l x := by unfold idxS; rw [hi]; simp
    simp [this]
  | false =>
    have : idxS l x = -1 := idxS_miss fun j hj e => by
      have := hasW_iff.2 (e ▸ List.getElem_mem hj : x ∈ l)
      rw [h] at this
      cases this
    simp [this]
theorem w87 (l : List ByteArray) (o c : Nat) (x : ByteArray) (hl : l.length < 2 ^ 31) : AC Try.prog 87 [.slice (some ⟨10, o, none⟩) l.length c, sv x] [(10, .inp o (l.map sv))] 11 (iv (idxS l x)) [(10, .inp o (l.map sv))] 11 := by
  have hr := recT_ok (P := Try.prog) (l := []) (by simp)
  refine AC.pure Try.func87 rfl (by kernel_rfl) rfl [0, 1, 7, 8] rfl ?_
  refine E.seq ?_
  refine E.reg hr (by simp; rfl) ?_
  refine E.seq ?_
  refine E.seq ?_
  refine E.reg hr (by simp; rfl) ?_
  refine E.block ?_
  refine E.loop ?_
  refine EL.ind (fun i : Nat => { fr := [(0, .slice (some ⟨10, o, none⟩) l.length c), (1, sv x), (7, iv l.length), (8, iv i)], sz := 19, H := [(10, .inp o (l.map sv))], n := 11, marks := [], vs := [0, 1, 7, 8] }) (fun i => l.length - i) (fun i => i ≤ l.length ∧ ∀ j, j < i → ∀ h : j < l.length, x ≠ l[j]) 0 (.less rfl rfl rfl (by simp) (by simp)) ⟨Nat.zero_le _, fun j hj => absurd hj (by omega)⟩ (fun _ => rfl) ?_
  intro i ⟨hi, hg⟩
  have hw : IntKind.i64.wrap ((i : Int) + 1) = (i : Int) + 1 := W_in (by omega) (by omega)
  refine E.seq ?_
  refine E.reg hr (by simp; rfl) ?_
  refine E.seq ?_
  refine E.cond (by rfl) (fun h => ?_) (fun h => ?_)
  · simp at h
    refine E.skip ?_
    refine E.seq ?_
    refine E.block ?_
    refine E.seq ?_
    refine E.reg hr (by simp; rfl) ?_
    refine E.seq ?_
    refine E.reg hr (by simp [h]; rfl) ?_
    refine E.cond (by rfl) (fun h2 => ?_) (fun h2 => ?_)
    · simp at h2
      refine E.seq ?_
      refine E.reg hr (by simp; rfl) ?_
      refine E.ret ?_
      exact pureK.ret rfl rfl (by simp [idxS_hit h h2 fun j h3 h4 => hg j h4 h3]) (by repeat first | exact sub_refl _ | refine sub_cons rfl ?_)
    · simp at h2
      refine E.skip ?_
      refine E.reg hr (by simp [hw]; rfl) ?_
      refine ⟨i + 1, .less rfl rfl rfl (by simp) (by simp), ⟨by omega, fun j hj h3 => ?_⟩, by dsimp only; omega⟩
      rcases Nat.lt_or_ge j i with h4 | h4
      · exact hg j h4 h3
      · obtain rfl : j = i := by omega
        exact h2
  · simp at h
    refine E.exit ?_
    refine E.seq ?_
    refine E.reg hr (by simp; rfl) ?_
    refine E.ret ?_
    exact pureK.ret rfl rfl (by simp [idxS_miss (l := l) (x := x) fun j h3 => hg j (by omega) h3]) (by repeat first | exact sub_refl _ | refine sub_cons rfl ?_)
def g87 (args : List Value) (H : Heap) (n : Nat) : R := match args with
  | [.slice (some a) len _, .string x] => (strsAt H a len).map fun l => (iv (idxS l x), H, n)
  | _ => none
theorem ok87 : EntOk Try.prog (87, g87) := by
  intro args H n v H' n' h'
  simp only [g87] at h'
  split at h'
  · rename_i a len c x
    rw [Option.map_eq_some_iff] at h'
    obtain ⟨l, h1, h2⟩ := h'
    injection h2 with e1 e2; injection e2 with e2 e3; subst e1 e2 e3
    obtain ⟨hf, hc, hlen, hlt⟩ := strsAt_ok h1
    subst hlen
    exact AC.liftP rfl (Part.oneN (fun s => [s, sv x]) (by intro φ φ0 s s0 h; simp [denL, den, h]) (by intro p s h; exact ⟨h, trivial, trivial⟩) hf hc (afL_sv l) [] (by simp [Seen]) gszN fun c => ⟨_, _, w87 l _ c x hlt⟩)
  · cases h'
theorem w71 (l : List ByteArray) (o c : Nat) (x : ByteArray) (hl : l.length < 2 ^ 31) : AC Try.prog 71 [.slice (some ⟨10, o, none⟩) l.length c, sv x] [(10, .inp o (l.map sv))] 11 (.bool (hasW x l)) [(10, .inp o (l.map sv))] 11 := by
  have hr := recT_ok (P := Try.prog) (l := [(87, g87)]) (by simp only [List.forall_mem_cons]; exact ⟨ok87, by simp⟩)
  have ht : strsAt [(10, .inp o (l.map sv))] ⟨10, o, none⟩ l.length = some l := by
    unfold strsAt
    simp [List.take_of_length_le, strsOf_sv, show l.length < 2147483648 by omega]
  refine AC.pure Try.func71 rfl (by kernel_rfl) rfl [4, 1, 0] rfl ?_
  refine E.seq ?_
  refine E.reg hr (by simp; rfl) ?_
  refine E.seq ?_
  refine E.reg hr (by simp [g87, ht]; rfl) ?_
  refine E.ret ?_
  exact pureK.ret rfl rfl (by simp [idxS_mem]) (by repeat first | exact sub_refl _ | refine sub_cons rfl ?_)
def g71 (args : List Value) (H : Heap) (n : Nat) : R := match args with
  | [.slice (some a) len _, .string x] => (strsAt H a len).map fun l => (.bool (hasW x l), H, n)
  | _ => none
theorem ok71 : EntOk Try.prog (71, g71) := by
  intro args H n v H' n' h'
  simp only [g71] at h'
  split at h'
  · rename_i a len c x
    rw [Option.map_eq_some_iff] at h'
    obtain ⟨l, h1, h2⟩ := h'
    injection h2 with e1 e2; injection e2 with e2 e3; subst e1 e2 e3
    obtain ⟨hf, hc, hlen, hlt⟩ := strsAt_ok h1
    subst hlen
    exact AC.liftP rfl (Part.oneN (fun s => [s, sv x]) (by intro φ φ0 s s0 h; simp [denL, den, h]) (by intro p s h; exact ⟨h, trivial, trivial⟩) hf hc (afL_sv l) [] (by simp [Seen]) gszN fun c => ⟨_, _, w71 l _ c x hlt⟩)
  · cases h'
end Go.Proofs.Ytljglocehbccnaa.Gn
namespace Go.Proofs.Ytljglocehbccnaa.Gn
open Go Go.Ab Go.Proofs
/-- a function of one string of the program's own -/
def gStrR (F : List Gun → Value) (args : List Value) (H : Heap) (n : Nat) : R := match args with
  | [.agg ⟨[.slice (some ⟨b, 0, some 0⟩) len 0]⟩] => (rowGuns H b len).map fun l => (F l, H, n)
  | [.agg ⟨[.slice none 0 0]⟩] => some (F [], H, n)
  | _ => none
theorem okStrR {f : FuncId} {F : List Gun → Value} (hF : ∀ l, af (F l) = true) (hnil : AC Try.prog f [nilV] [] 10 (F []) [] 10)
    (h : ∀ l, l.length < 2 ^ 63 → AC Try.prog f [rowV l.length] [(10, .row (gcs l) 7)] 11 (F l) [(10, .row (gcs l) 7)] 11) : EntOk Try.prog (f, gStrR F) := by
  intro args H n v H' n' h'
  simp only [gStrR] at h'
  split at h'
  · rw [Option.map_eq_some_iff] at h'
    obtain ⟨l, h1, h2⟩ := h'
    injection h2 with e1 e2; injection e2 with e2 e3; subst e1 e2 e3
    obtain ⟨hb, rfl, hlt⟩ := rowGuns_ok h1
    exact AC.liftP (hF _) (Part.rowN (fun x => [.agg ⟨[x]⟩]) (by intro φ φ0 s s0 h; simp [denL, den, h]) (by intro p s h; exact ⟨⟨h, trivial⟩, trivial⟩) hb (afL_gcs l) gszN ⟨_, _, h l hlt⟩)
  · injection h' with h'; injection h' with e1 e2; injection e2 with e2 e3; subst e1 e2 e3
    exact AC.liftP (hF _) (Part.plainN (by simp) [] (by simp [Seen]) gszN ⟨_, _, hnil⟩)
  · cases h'
def volR (l : List Gun) : Value := .tuple #[iv (if strE l = 0 then volW l else 0), iv (strE l)]
theorem w17n : AC Try.prog 17 [nilV] [] 10 (volR []) [] 10 := by
  have hr := recT_ok (P := Try.prog) (l := [(41, g41)]) (by simp only [List.forall_mem_cons]; exact ⟨ok41, by simp⟩)
  refine AC.pure Try.func17 rfl (by kernel_rfl) rfl [] rfl ?_
  refine E.seq ?_
  refine E.reg hr (by simp; rfl) ?_
  refine E.seq ?_
  refine E.seq ?_
  refine E.reg hr (by simp [g41, strE]; rfl) ?_
  refine E.seq ?_
  refine E.reg hr (by simp; rfl) ?_
  refine E.cond (by rfl) (fun h => ?_) (fun h => ?_)
  rotate_left
  · simp at h
  refine E.seq ?_
  refine E.reg hr (by simp; rfl) ?_
  refine E.ret ?_
  exact pureK.ret rfl rfl (by simp [volR, strE]) (by repeat first | exact sub_refl _ | refine sub_cons rfl ?_)
theorem w17 (l : List Gun) (hl : l.length < 2 ^ 63) : AC Try.prog 17 [rowV l.length] [(10, .row (gcs l) 7)] 11 (volR l) [(10, .row (gcs l) 7)] 11 := by
  have hr := recT_ok (P := Try.prog) (l := [(41, g41), (46, g46)]) (by simp only [List.forall_mem_cons]; exact ⟨ok41, ok46, by simp⟩)
  have hgat : ∀ G : Heap, hget G 10 = some (.row (gcs l) 7) → gunsAt G ⟨10, 0, some 0⟩ l.length = some l := fun G hG => by
    unfold gunsAt
    simp [hG, List.take_of_length_le, gunsOf_gcs, show l.length < 9223372036854775808 by omega]
  refine AC.pure Try.func17 rfl (by kernel_rfl) rfl [] rfl ?_
  refine E.seq ?_
  refine E.reg hr (by simp; rfl) ?_
  refine E.seq ?_
  refine E.seq ?_
  refine E.reg hr (by simp [g41, rowOf, gunsOf_gcs, hl]; rfl) ?_
  refine E.seq ?_
  refine E.reg hr (by simp; rfl) ?_
  refine E.cond (by rfl) (fun h => ?_) (fun h => ?_)
  · simp at h
    refine E.seq ?_
    refine E.reg hr (by simp; rfl) ?_
    refine E.ret ?_
    exact pureK.ret rfl rfl (by simp [volR, h]) (by repeat first | exact sub_refl _ | refine sub_cons rfl ?_)
  · simp at h
    refine E.skip ?_
    refine E.seq ?_
    refine E.reg hr (by simp [g46, hgat]; rfl) ?_
    refine E.ret ?_
    exact pureK.ret rfl rfl (by simp [volR, h]) (by repeat first | exact sub_refl _ | refine sub_cons rfl ?_)
theorem ok17 : EntOk Try.prog (17, gStrR volR) := okStrR (fun _ => rfl) w17n w17
end Go.Proofs.Ytljglocehbccnaa.Gn

namespace Go.Proofs.Ytljglocehbccnaa.Gn
open Go Go.Ab Go.Proofs
abbrev gAgg (g : Gun) : Value := .agg ⟨[.string g.name, iv g.v, iv g.x, iv g.y, iv g.d, iv g.lo, iv g.hi]⟩
def cmpI (a b : Int) : Int := if a < b then -1 else if b < a then 1 else 0
theorem w86 {n : Nat} (a : Int) : AC Try.prog 86 [iv a] [] n (.bool false) [] n := by
  have hr := recT_ok (P := Try.prog) (l := []) (by simp)
  refine AC.pure Try.func86 rfl (by kernel_rfl) rfl [2, 0] rfl ?_
  refine E.seq ?_
  refine E.reg hr (by simp; rfl) ?_
  refine E.seq ?_
  refine E.reg hr (by simp; rfl) ?_
  refine E.ret ?_
  exact pureK.ret rfl rfl (by simp) (by simp)
def g86 (args : List Value) (H : Heap) (n : Nat) : R := match args with
  | [.int .i64 _] => some (.bool false, H, n)
  | _ => none
theorem ok86 : EntOk Try.prog (86, g86) := by
  intro args H n v H' n' h
  simp only [g86] at h
  split at h
  · injection h with h; injection h with e1 e2; injection e2 with e2 e3; subst e1 e2 e3
    exact AC.frame0 (w86 _) (by simp)
  · cases h
theorem w70 {n : Nat} (a b : Int) : AC Try.prog 70 [iv a, iv b] [] n (iv (cmpI a b)) [] n := by
  have hr := recT_ok (P := Try.prog) (l := [(86, g86)]) (by simp [ok86])
  refine AC.pure Try.func70 rfl (by kernel_rfl) rfl [4, 19, 16, 13, 12, 6, 11, 5, 1, 0] rfl ?_
  refine E.seq ?_
  refine E.reg hr (by simp; rfl) ?_
  refine E.seq ?_
  refine E.reg hr (by simp [g86]; rfl) ?_
  refine E.seq ?_
  refine E.reg hr (by simp [g86]; rfl) ?_
  refine E.seq ?_
  refine E.seq ?_
  refine E.reg hr (by simp; rfl) ?_
  refine E.cond (t := false) (by simp) (fun h => by cases h) (fun _ => ?_)
  refine E.skip ?_
  refine E.seq ?_
  refine E.seq ?_
  refine E.reg hr (by simp; rfl) ?_
  refine E.cond (t := false) (by simp) (fun h => by cases h) (fun _ => ?_)
  refine E.skip ?_
  refine E.seq ?_
  refine E.seq ?_
  refine E.reg hr (by simp; rfl) ?_
  by_cases h1 : a < b
  · refine E.cond (t := true) (by simp [h1]) (fun _ => ?_) (fun h => by cases h)
    refine E.seq ?_
    refine E.reg hr (by simp; rfl) ?_
    refine E.ret ?_
    exact pureK.ret rfl rfl (by simp [cmpI, h1]) (by simp)
  · refine E.cond (t := false) (by simp [h1]) (fun h => by cases h) (fun _ => ?_)
    refine E.skip ?_
    refine E.seq ?_
    refine E.seq ?_
    refine E.reg hr (by simp; rfl) ?_
    by_cases h2 : b < a
    · refine E.cond (t := true) (by simp [h2]) (fun _ => ?_) (fun h => by cases h)
      refine E.seq ?_
      refine E.reg hr (by simp; rfl) ?_
      refine E.ret ?_
      exact pureK.ret rfl rfl (by simp [cmpI, h1, h2]) (by simp)
    · refine E.cond (t := false) (by simp [h2]) (fun h => by cases h) (fun _ => ?_)
      refine E.skip ?_
      refine E.seq ?_
      refine E.reg hr (by simp; rfl) ?_
      refine E.ret ?_
      exact pureK.ret rfl rfl (by simp [cmpI, h1, h2]) (by simp)
def g70 (args : List Value) (H : Heap) (n : Nat) : R := match args with
  | [.int .i64 a, .int .i64 b] => some (iv (cmpI a b), H, n)
  | _ => none
theorem ok70 : EntOk Try.prog (70, g70) := by
  intro args H n v H' n' h
  simp only [g70] at h
  split at h
  · injection h with h; injection h with e1 e2; injection e2 with e2 e3; subst e1 e2 e3
    exact AC.frame0 (w70 _ _) (by simp)
  · cases h
theorem w44 {n : Nat} (a b : Gun) : AC Try.prog 44 [gAgg a, gAgg b] [] n (iv (cmpI a.v b.v)) [] n := by
  have hr := recT_ok (P := Try.prog) (l := [(70, g70)]) (by simp [ok70])
  refine AC.pure Try.func44 rfl (by kernel_rfl) rfl [4, 3, 2, 1, 0] rfl ?_
  refine E.seq ?_
  refine E.reg hr (by simp; rfl) ?_
  refine E.seq ?_
  refine E.reg hr (by simp [g70]; rfl) ?_
  refine E.ret ?_
  exact pureK.ret rfl rfl (by simp) (by simp)
def g44 (args : List Value) (H : Heap) (n : Nat) : R := match args with
  | [.agg ⟨[.string _, .int .i64 a, .int .i64 _, .int .i64 _, .int .i64 _, .int .i64 _, .int .i64 _]⟩, .agg ⟨[.string _, .int .i64 b, .int .i64 _, .int .i64 _, .int .i64 _, .int .i64 _, .int .i64 _]⟩] => some (iv (cmpI a b), H, n)
  | _ => none
theorem ok44 : EntOk Try.prog (44, g44) := by
  intro args H n v H' n' h
  simp only [g44] at h
  split at h
  · rename_i s1 a x1 y1 f1 l1 h1 s2 b x2 y2 f2 l2 h2
    injection h with h; injection h with e1 e2; injection e2 with e2 e3; subst e1 e2 e3
    exact AC.frame0 (w44 ⟨s1, a, x1, y1, f1, l1, h1⟩ ⟨s2, b, x2, y2, f2, l2, h2⟩) (by simp)
  · cases h
end Go.Proofs.Ytljglocehbccnaa.Gn
namespace Go.Proofs.Ytljglocehbccnaa.Gn
open Go Go.Ab Go.Proofs Go.Soft
theorem gcs_lenB : ∀ l : List Gun, (gcs l).length = l.length * 7
  | [] => rfl
  | g :: l => by
    have := gcs_lenB l
    unfold gcs at this ⊢
    rw [List.flatMap_cons, List.length_append, this, List.length_cons]
    show 7 + l.length * 7 = (l.length + 1) * 7
    omega
theorem gcs_appendB (a b : List Gun) : gcs (a ++ b) = gcs a ++ gcs b := by simp [gcs]
theorem gcs_atB {l : List Gun} {j : Nat} (hj : j < l.length) : ((gcs l).drop (j * 7)).take 7 = Gun.cells l[j] := by
  have e : l = l.take j ++ l[j] :: l.drop (j + 1) := by rw [← List.drop_eq_getElem_cons hj, List.take_append_drop]
  have hlen : (gcs (l.take j)).length = j * 7 := by rw [gcs_lenB, List.length_take]; congr 1; omega
  have h1 : gcs l = gcs (l.take j) ++ (Gun.cells l[j] ++ gcs (l.drop (j + 1))) := by
    conv => lhs; rw [e, gcs_appendB]
    rfl
  rw [h1, List.drop_left' hlen]
  exact List.take_left' rfl
theorem gcs_putB {l : List Gun} {j : Nat} (hj : j < l.length) (x : Gun) : (gcs l).take (j * 7) ++ Gun.cells x ++ (gcs l).drop (j * 7 + 7) = gcs (l.set j x) := by
  have e : l = l.take j ++ l[j] :: l.drop (j + 1) := by rw [← List.drop_eq_getElem_cons hj, List.take_append_drop]
  have hlen : (gcs (l.take j)).length = j * 7 := by rw [gcs_lenB, List.length_take]; congr 1; omega
  have h1 : gcs l = gcs (l.take j) ++ (Gun.cells l[j] ++ gcs (l.drop (j + 1))) := by
    conv => lhs; rw [e, gcs_appendB]
    rfl
  have h2 : gcs (l.set j x) = gcs (l.take j) ++ (Gun.cells x ++ gcs (l.drop (j + 1))) := by
    rw [List.set_eq_take_append_cons_drop, if_pos hj, gcs_appendB]
    rfl
  rw [h2, h1, List.take_left' hlen, List.append_assoc]
  congr 2
  rw [← List.drop_drop, List.drop_left' hlen]
  exact List.drop_left' rfl
theorem gcs_afB : ∀ l : List Gun, afL (gcs l) = true
  | [] => rfl
  | g :: l => by
    have := gcs_afB l
    unfold gcs at this ⊢
    simp [List.flatMap_cons, Gun.cells, afL, af, this]
section
variable {H : Heap} {m : Nat} {l : List Gun}
theorem row_at (h : hget H m = some (.ext (gcs l) 79 7)) {j : Nat} (hj : j < l.length) : cellsA H m (j * 7) 7 = some (Gun.cells l[j]) := by
  rw [cellsA_eq, h]
  have hl := gcs_lenB l
  have : j * 7 + 7 ≤ l.length * 7 := by omega
  simp [cellsB, this, gcs_atB hj]
theorem row_put (h : hget H m = some (.ext (gcs l) 79 7)) {j : Nat} (hj : j < l.length) (x : Gun) : storeA H m (j * 7) (Gun.cells x) = some (hset H m (.ext (gcs (l.set j x)) 79 7)) := by
  have hl := gcs_lenB l
  have hx : (Gun.cells x).length = 7 := rfl
  have : j * 7 + 7 ≤ (gcs l).length := by omega
  unfold storeA
  rw [h]
  simp only [putL, hx]
  rw [if_pos this, gcs_putB hj]
end
/-- one that is put in, on its way: 'c' of the greater ones lie behind it -/
def arr (R : List Gun) (x : Gun) (c : Nat) (rest : List Gun) : List Gun := (R.drop c).reverse ++ x :: ((R.take c).reverse ++ rest)
theorem arr_len {R rest : List Gun} {x : Gun} {c : Nat} : (arr R x c rest).length = R.length + 1 + rest.length := by
  unfold arr
  simp
  omega
theorem arr_x {R rest : List Gun} {x : Gun} {c : Nat} (_hc : c ≤ R.length) : (arr R x c rest)[R.length - c]? = some x := by
  unfold arr
  rw [List.getElem?_append_right (by simp), List.length_reverse, List.length_drop, Nat.sub_self]
  rfl
theorem arr_step {R rest : List Gun} {x : Gun} {c : Nat} (hc : c < R.length) : arr R x c rest = (R.drop (c + 1)).reverse ++ R[c] :: x :: ((R.take c).reverse ++ rest) := by
  unfold arr
  rw [List.drop_eq_getElem_cons hc, List.reverse_cons, List.append_assoc]
  rfl
theorem arr_y {R rest : List Gun} {x : Gun} {c : Nat} (hc : c < R.length) : (arr R x c rest)[R.length - c - 1]? = some R[c] := by
  rw [arr_step hc, List.getElem?_append_right (by simp; omega), List.length_reverse, List.length_drop, show R.length - c - 1 - (R.length - (c + 1)) = 0 by omega]
  rfl
theorem arr_swap {R rest : List Gun} {x : Gun} {c : Nat} (hc : c < R.length) : ((arr R x c rest).set (R.length - c) R[c]).set (R.length - c - 1) x = arr R x (c + 1) rest := by
  have hlen : (R.drop (c + 1)).reverse.length = R.length - c - 1 := by rw [List.length_reverse, List.length_drop]; omega
  rw [arr_step hc, List.set_append_right _ _ (by omega), hlen, show R.length - c - (R.length - c - 1) = 1 by omega, List.set_cons_succ, List.set_cons_zero, List.set_append_right _ _ (by omega), hlen, Nat.sub_self, List.set_cons_zero]
  unfold arr
  rw [List.take_succ_eq_append_getElem hc, List.reverse_append]
  rfl
theorem insR_split {vol : Gun → Int} {x : Gun} : ∀ {R : List Gun} {c : Nat}, c ≤ R.length → (∀ k (hk : k < R.length), k < c → vol x < vol R[k]) → (∀ hc : c < R.length, ¬ vol x < vol R[c]) → insR vol x R = R.take c ++ x :: R.drop c
  | [], c, h, _, _ => by
    obtain rfl : c = 0 := by simpa using h
    rfl
  | y :: ys, 0, _, _, h => by
    have := h (by simp)
    rw [insR, if_neg (by simpa using this)]
    rfl
  | y :: ys, c + 1, h, h1, h2 => by
    have h0 := h1 0 (by simp) (by omega)
    rw [insR, if_pos (by simpa using h0), insR_split (c := c) (by simpa using h) (fun k hk hkc => by
      have := h1 (k + 1) (by simpa using hk) (by omega)
      simpa using this) (fun hc => by
      have := h2 (by simpa using hc)
      simpa using this)]
    rfl
theorem srtR_snoc {vol : Gun → Int} (l : List Gun) (x : Gun) : srtR vol (l ++ [x]) = insR vol x (srtR vol l) := by simp [srtR]
end Go.Proofs.Ytljglocehbccnaa.Gn
namespace Go.Proofs.Ytljglocehbccnaa.Gn
open Go Go.Ab Go.Proofs Go.Soft
theorem load95 {H : Heap} {m o : Nat} {s : Option Nat} {g : Gun} (h : cellsA H m o 7 = some (Gun.cells g)) : loadA Try.prog 79 H (.pointer (some ⟨m, o, s⟩)) = some (gAgg g) := by
  simp only [loadA, ag79, sz79, h, Option.map_some]
theorem cmpI_lt {a b : Int} : cmpI a b < 0 ↔ a < b := by
  unfold cmpI
  split
  · simp [*]
  · split
    · simp [*]
    · simp [*]
set_option maxHeartbeats 600000 in
set_option maxRecDepth 50000 in
theorem w84 {m n : Nat} (hm : m < n) (G : List Gun) (hG : G.length < 2147483648) : AC Try.prog 84 [.slice (some ⟨m, 0, some 0⟩) G.length 0, iv 0, iv G.length, .func (.func 44) #[] #[]] [(m, .ext (gcs G) 79 7)] n (.tuple #[]) [(m, .ext (gcs (srtR Gun.v G).reverse) 79 7)] n := by
  have hr := recT_ok (P := Try.prog) (l := [(44, g44)]) (by simp [ok44])
  refine AC.wrote Try.func84 rfl (by kernel_rfl) rfl [0, 1, 2, 3, 8, 9, 14, 34] rfl (fun k b hk => ?_) ?_
  · rw [hget_cons] at hk
    split at hk
    · rename_i e; subst e; injection hk with hk; subst hk
      exact ⟨hm, .inr ⟨⟨_, by rw [hget_cons, if_pos rfl]⟩, scL_af _ _ (gcs_afB _)⟩⟩
    · cases hk
  have hw1 : IntKind.i64.wrap 1 = 1 := by decide
  refine E.seq ?_
  refine E.reg hr (by simp [hw1]; rfl) ?_
  refine E.block ?_
  refine E.loop ?_
  refine EL.ind (fun x : Nat × Heap => { fr := [(0, .slice (some ⟨m, 0, some 0⟩) G.length 0), (1, iv 0), (2, iv G.length), (3, .func (.func 44) #[] #[]), (8, iv x.1)], sz := 53, H := x.2, n := n, marks := [], vs := [0, 1, 2, 3, 8, 9, 14, 34] }) (fun x => G.length - x.1) (fun x => (1 ≤ x.1 ∧ (x.1 ≤ G.length ∨ x.1 = 1)) ∧ hget x.2 m = some (.ext (gcs ((srtR Gun.v (G.take x.1)).reverse ++ G.drop x.1)) 79 7) ∧ namesOk n x.2 = true) (1, [(m, .ext (gcs G) 79 7)]) (.keep rfl rfl rfl (by simp) (Sub.refl _)) ⟨⟨Nat.le_refl _, .inr rfl⟩, ?_, namesOk_put hm rfl⟩ (fun _ => rfl) ?_
  · rw [hget_cons, if_pos rfl]
    have : (srtR Gun.v (G.take 1)).reverse ++ G.drop 1 = G := by
      cases G with
      | nil => rfl
      | cons g G => rfl
    dsimp only
    rw [this]
  rintro ⟨i, Hx⟩ ⟨⟨hi1, hi2⟩, hX, hnm⟩
  dsimp only at hi1 hi2 hX hnm ⊢
  have hw : IntKind.i64.wrap ((i : Int) + 1) = (i : Int) + 1 := W_in (by omega) (by omega)
  refine E.seq ?_
  refine E.seq ?_
  refine E.reg hr (by simp; rfl) ?_
  by_cases hil : i < G.length
  · obtain ⟨R, hR⟩ : ∃ R, srtR Gun.v (G.take i) = R := ⟨_, rfl⟩
    have hRl : R.length = i := by rw [← hR, srtR_len, List.length_take]; omega
    obtain ⟨x, hx⟩ : ∃ x, G[i] = x := ⟨_, rfl⟩
    obtain ⟨rest, hrest⟩ : ∃ rest, G.drop (i + 1) = rest := ⟨_, rfl⟩
    have hsn : srtR Gun.v (G.take (i + 1)) = insR Gun.v x R := by rw [List.take_succ_eq_append_getElem hil, srtR_snoc, hR, hx]
    have hrl : rest.length = G.length - (i + 1) := by rw [← hrest, List.length_drop]
    have h0 : (srtR Gun.v (G.take i)).reverse ++ G.drop i = arr R x 0 rest := by
      rw [hR, List.drop_eq_getElem_cons hil, hx, hrest]
      rfl
    rw [h0] at hX
    refine E.cond (t := true) (by simp [hil]) (fun _ => ?_) (fun h => by cases h)
    refine E.skip ?_
    refine E.seq ?_
    refine E.block ?_
    refine E.seq ?_
    refine E.reg hr (by simp; rfl) ?_
    refine E.block ?_
    refine E.loop ?_
    refine EL.ind (fun y : Nat × Heap => { fr := [(0, .slice (some ⟨m, 0, some 0⟩) G.length 0), (1, iv 0), (2, iv G.length), (3, .func (.func 44) #[] #[]), (8, iv i), (9, iv ((i - y.1 : Nat) : Int))], sz := 53, H := y.2, n := n, marks := [], vs := [0, 1, 2, 3, 8, 9, 14, 34] }) (fun y => i - y.1) (fun y => y.1 ≤ i ∧ (∀ k (hk : k < R.length), k < y.1 → x.v < R[k].v) ∧ hget y.2 m = some (.ext (gcs (arr R x y.1 rest)) 79 7) ∧ namesOk n y.2 = true) (0, Hx) (.keep rfl rfl rfl (by simp) (Sub.refl _)) ⟨Nat.zero_le _, fun k hk h => by omega, hX, hnm⟩ (fun _ => rfl) ?_
    clear hX hnm
    rintro ⟨c, Hy⟩ ⟨hc, hgt, hY, hnm⟩
    dsimp only at hc hgt hY hnm ⊢
    obtain ⟨j, hj⟩ : ∃ j, i - c = j := ⟨_, rfl⟩
    rw [hj]
    have hjl : j < G.length := by omega
    have hal : (arr R x c rest).length = G.length := by rw [arr_len]; omega
    have hax := arr_x (x := x) (rest := rest) (show c ≤ R.length by omega)
    rw [hRl, hj] at hax
    have hcx : cellsA Hy m (j * 7) 7 = some (Gun.cells x) := by
      have h1 := row_at hY (j := j) (by omega)
      rw [List.getElem?_eq_getElem (by omega)] at hax
      injection hax with hax
      rw [hax] at h1
      exact h1
    have hrd : ∀ {o : Nat} {g : Gun}, cellsA Hy m o 7 = some (Gun.cells g) → loadA Try.prog 79 (readA [m] Hy) (.pointer (some ⟨m, o, none⟩)) = some (gAgg g) := fun h => load95 (by rw [cellsA_eq, hget_readA, if_pos (by simp), ← cellsA_eq]; exact h)
    have fin : ∀ (c0 : Nat), c0 = c → (∀ hc : c < R.length, ¬ x.v < R[c].v) → hget Hy m = some (.ext (gcs ((srtR Gun.v (G.take (i + 1))).reverse ++ G.drop (i + 1))) 79 7) := fun c0 _ hst => by
      rw [hsn, insR_split (show c ≤ R.length by omega) hgt hst, hrest, List.reverse_append, List.reverse_cons, List.append_assoc, List.append_assoc]
      exact hY
    refine E.seq ?_
    refine E.seq ?_
    by_cases hj0 : j = 0
    · have hj0' : ¬ 0 < j := by omega
      refine E.drawU mixed hr [14] [14] [8, 13, 14] (by kernel_rfl) (by simp [hnm, hj0', yieldedA, undefV]; rfl) ?_
      refine E.cond (t := false) (by simp) (fun h => by cases h) (fun _ => ?_)
      refine E.exit ?_
      refine E.reg hr (by simp [hw]; rfl) ?_
      exact ⟨(i + 1, Hy), .keep rfl rfl rfl (by simp) (Sub.refl _), ⟨⟨by dsimp only; omega, .inl hil⟩, fin c rfl (fun h => by omega), hnm⟩, by dsimp only; omega⟩
    · have hcR : c < R.length := by omega
      have hj1 : 0 < j := by omega
      obtain ⟨q, hq⟩ : ∃ q, j = q + 1 := ⟨j - 1, by omega⟩
      have hjq : (j : Int) - 1 = q := by omega
      have hwj : IntKind.i64.wrap ((j : Int) - 1) = q := by rw [W_in (by omega) (by omega)]; exact hjq
      have hql : q < G.length := by omega
      obtain ⟨y, hy⟩ : ∃ y, R[c] = y := ⟨_, rfl⟩
      have hay := arr_y (x := x) (rest := rest) hcR
      rw [hRl, hj, show j - 1 = q by omega, hy] at hay
      have hcy : cellsA Hy m (q * 7) 7 = some (Gun.cells y) := by
        have h1 := row_at hY (j := q) (by omega)
        rw [List.getElem?_eq_getElem (by omega)] at hay
        injection hay with hay
        rw [hay] at h1
        exact h1
      have hlx := hrd hcx
      have hly := hrd hcy
      have hg : ∀ H n, g44 [gAgg x, gAgg y] H n = some (iv (cmpI x.v y.v), H, n) := fun _ _ => rfl
      have hmn : m < n := hm
      refine E.drawU mixed hr [14] [14] [8, 13, 14] (by kernel_rfl) (by simp [-readA, -loadA, flat, hnm, hj1, hmn, hjl, hql, hwj, hlx, hly, run_vcall_tmp, vcallF, target, hg, yieldedA]; rfl) ?_
      by_cases hlt : x.v < y.v
      · have hlt' := cmpI_lt.2 hlt
        have hp1 := row_put hY (j := j) (by omega) y
        obtain ⟨H1, hH1⟩ : ∃ H1, hset Hy m (.ext (gcs ((arr R x c rest).set j y)) 79 7) = H1 := ⟨_, rfl⟩
        rw [hH1] at hp1
        have hX1 : hget H1 m = some (.ext (gcs ((arr R x c rest).set j y)) 79 7) := by rw [← hH1, hget_set, if_pos rfl, hY]; rfl
        have hp2 := row_put hX1 (j := q) (by rw [List.length_set]; omega) x
        have hsw := arr_swap (x := x) (rest := rest) hcR
        rw [hRl, hj, show j - 1 = q by omega, hy] at hsw
        rw [hsw] at hp2
        obtain ⟨H2, hH2⟩ : ∃ H2, hset H1 m (.ext (gcs (arr R x (c + 1) rest)) 79 7) = H2 := ⟨_, rfl⟩
        rw [hH2] at hp2
        have hX2 : hget H2 m = some (.ext (gcs (arr R x (c + 1) rest)) 79 7) := by rw [← hH2, hget_set, if_pos rfl, hX1]; rfl
        have hn1 : namesOk n H1 = true := by rw [← hH1]; exact namesOk_hset hnm
        have hn2 : namesOk n H2 = true := by rw [← hH2]; exact namesOk_hset hn1
        refine E.cond (t := true) (by simp [hlt']) (fun _ => ?_) (fun h => by cases h)
        refine E.skip ?_
        refine E.lead { fr := [(0, .slice (some ⟨m, 0, some 0⟩) G.length 0), (1, iv 0), (2, iv G.length), (3, .func (.func 44) #[] #[]), (8, iv i), (9, iv j)], sz := 53, H := Hy, n := n, marks := [], vs := [0, 1, 2, 3, 8, 9, 14, 34] } (.keep rfl rfl rfl (by simp) (Sub.refl _)) ?_
        refine E.seq ?_
        refine E.block ?_
        have hgx : Gun.cells x = [.string x.name, iv x.v, iv x.x, iv x.y, iv x.d, iv x.lo, iv x.hi] := rfl
        have hgy : Gun.cells y = [.string y.name, iv y.v, iv y.x, iv y.y, iv y.d, iv y.lo, iv y.hi] := rfl
        rw [hgy] at hp1
        rw [hgx] at hp2
        refine E.drawU mixed hr [15, 17] [15, 17] [9, 13, 15, 17] (by kernel_rfl) (by simp [-readA, -loadA, -storeA, flat, hnm, hmn, hjl, hql, hwj, hlx, hly, hp1, hp2, hn1, hn2]; rfl) ?_
        refine E.reg hr (by simp [hwj]; rfl) ?_
        have hcj : i - (c + 1) = q := by omega
        refine ⟨(c + 1, H2), .keep rfl rfl rfl (by simp [hcj]) (Sub.refl _), ⟨by dsimp only; omega, fun k hk h => ?_, hX2, hn2⟩, by dsimp only; omega⟩
        dsimp only at h
        rcases Nat.lt_or_ge k c with h' | h'
        · exact hgt k hk h'
        · have : k = c := by omega
          subst this
          rw [hy]
          exact hlt
      · have hlt' : ¬ cmpI x.v y.v < 0 := fun h => hlt (cmpI_lt.1 h)
        refine E.cond (t := false) (by simp [hlt']) (fun h => by cases h) (fun _ => ?_)
        refine E.exit ?_
        refine E.reg hr (by simp [hw]; rfl) ?_
        exact ⟨(i + 1, Hy), .keep rfl rfl rfl (by simp) (Sub.refl _), ⟨⟨by dsimp only; omega, .inl hil⟩, fin c rfl (fun h => by rw [hy]; exact hlt), hnm⟩, by dsimp only; omega⟩
  · refine E.cond (t := false) (by simp [hil]) (fun h => by cases h) (fun _ => ?_)
    refine E.exit ?_
    refine ⟨.inl rfl, rfl, ⟨_, rfl, rfl⟩, fun k b hk => ?_⟩
    rw [hget_cons] at hk
    split at hk
    · rename_i e; subst e; injection hk with hk; subst hk
      dsimp only
      rw [hX, List.take_of_length_le (by omega), List.drop_eq_nil_of_le (by omega), List.append_nil]
    · cases hk
end Go.Proofs.Ytljglocehbccnaa.Gn
namespace Go.Proofs.Ytljglocehbccnaa.Gn
open Go Go.Ab Go.Proofs Go.Soft
theorem gcs_injB : ∀ {a b : List Gun}, gcs a = gcs b → a = b
  | [], [], _ => rfl
  | [], g :: b, h => by have := congrArg List.length h; rw [gcs_lenB, gcs_lenB] at this; simp at this
  | g :: a, [], h => by have := congrArg List.length h; rw [gcs_lenB, gcs_lenB] at this; simp at this
  | g :: a, g' :: b, h => by
    have e1 : gcs (g :: a) = Gun.cells g ++ gcs a := rfl
    have e2 : gcs (g' :: b) = Gun.cells g' ++ gcs b := rfl
    rw [e1, e2] at h
    obtain ⟨h1, h2⟩ := List.append_inj h rfl
    obtain ⟨s, v, x, y, f, l, u⟩ := g
    obtain ⟨s', v', x', y', f', l', u'⟩ := g'
    simp only [Gun.cells, List.cons.injEq, Value.string.injEq, Value.int.injEq, true_and, and_true] at h1
    obtain ⟨rfl, rfl, rfl, rfl, rfl, rfl, rfl⟩ := h1
    rw [gcs_injB h2]
abbrev sorted (l : List Gun) : List Gun := (srtR Gun.v l).reverse
abbrev cmpF : Value := .func (.func 44) #[] #[]
/-- a call that puts one row of guns in order, told of the whole heap -/
theorem AC.inOrder {f : FuncId} {args : List Value} {m n : Nat} {l : List Gun} (h : AC Try.prog f args [(m, .ext (gcs l) 79 7)] n (.tuple #[]) [(m, .ext (gcs (sorted l)) 79 7)] n) {H : Heap} (hm : hget H m = some (.ext (gcs l) 79 7)) : AC Try.prog f args H n (.tuple #[]) (hset H m (.ext (gcs (sorted l)) 79 7)) n := by
  refine h.frame (fun k b hk => ?_) fun k b hk => ?_
  · rw [hget_cons] at hk
    split at hk
    · rename_i e; subst e; injection hk with hk; subst hk; exact hm
    · cases hk
  · rw [hget_set] at hk
    by_cases e : m = k
    · subst e
      rw [if_pos rfl, hm] at hk
      injection hk with hk
      subst hk
      exact .inl (by rw [hget_cons, if_pos rfl])
    · rw [if_neg e] at hk
      exact .inr ⟨hk, by rw [hget_cons, if_neg e]; rfl⟩
open Classical in
noncomputable def gOrd (_args : List Value) (H : Heap) (n : Nat) (a : Addr) (L : Nat) : R :=
  if h : (∃ l, hget H a.block = some (.ext (gcs l) 79 7) ∧ l.length = L ∧ L < 20) ∧ a = ⟨a.block, 0, some 0⟩ then some (.tuple #[], hset H a.block (.ext (gcs (sorted (Classical.choose h.1))) 79 7), n) else none
theorem gOrd_at {args : List Value} {H : Heap} {n m : Nat} {l : List Gun} (hm : hget H m = some (.ext (gcs l) 79 7)) (hl : l.length < 20) : gOrd args H n ⟨m, 0, some 0⟩ l.length = some (.tuple #[], hset H m (.ext (gcs (sorted l)) 79 7), n) := by
  have hex : (∃ l', hget H m = some (.ext (gcs l') 79 7) ∧ l'.length = l.length ∧ l.length < 20) ∧ (⟨m, 0, some 0⟩ : Addr) = ⟨m, 0, some 0⟩ := ⟨⟨l, hm, rfl, hl⟩, rfl⟩
  unfold gOrd
  rw [dif_pos hex]
  have h1 := (Classical.choose_spec hex.1).1
  have h2 : some (Blk.ext (gcs (Classical.choose hex.1)) 79 7) = some (.ext (gcs l) 79 7) := h1.symm.trans hm
  injection h2 with h2
  injection h2 with h2
  rw [gcs_injB h2]
noncomputable def g84 (args : List Value) (H : Heap) (n : Nat) : R := match args with
  | [.slice (some a) L 0, .int .i64 0, .int .i64 L', .func (.func 44) ⟨[]⟩ ⟨[]⟩] => if L' = L then gOrd args H n a L else none
  | _ => none
theorem ok_ord {f : FuncId} {args : List Value} {H : Heap} {n : Nat} {a : Addr} {L : Nat} {v : Value} {H' : Heap} {n' : Nat} (hw : ∀ (m : Nat) (l : List Gun), m < n → l.length = L → l.length < 20 → a = ⟨m, 0, some 0⟩ → AC Try.prog f args [(m, .ext (gcs l) 79 7)] n (.tuple #[]) [(m, .ext (gcs (sorted l)) 79 7)] n) (h : gOrd args H n a L = some (v, H', n')) : AC Try.prog f args H n v H' n' := by
  unfold gOrd at h
  split at h
  · rename_i hc
    injection h with h; injection h with e1 e2; injection e2 with e2 e3; subst e1 e2 e3
    obtain ⟨h1, h2, h3⟩ := Classical.choose_spec hc.1
    refine AC.given fun hold _ _ => AC.inOrder (hw _ _ (hold _ _ h1).1 h2 (by omega) hc.2) h1
  · cases h
theorem ok84 : EntOk Try.prog (84, g84) := by
  intro args H n v H' n' h
  simp only [g84] at h
  split at h
  · rename_i a L L'
    split at h
    · rename_i hL
      subst hL
      refine ok_ord (fun m l hm hl hlt ha => ?_) h
      subst ha hl
      exact w84 hm l (by omega)
    · cases h
  · cases h
theorem w69 {m n : Nat} (hm : m < n) (l : List Gun) (hl : l.length < 20) : AC Try.prog 69 [.slice (some ⟨m, 0, some 0⟩) l.length 0, iv l.length, cmpF] [(m, .ext (gcs l) 79 7)] n (.tuple #[]) [(m, .ext (gcs (sorted l)) 79 7)] n := by
  have hr := recT_ok (P := Try.prog) (l := [(84, g84)]) (by simp [ok84])
  have hg : g84 [.slice (some ⟨m, 0, some 0⟩) l.length 0, iv 0, iv l.length, cmpF] [(m, .ext (gcs l) 79 7)] n = some (.tuple #[], [(m, .ext (gcs (sorted l)) 79 7)], n) := by
    simp only [g84, if_true]
    rw [gOrd_at (by rw [hget_cons, if_pos rfl]) hl]
    simp [hset]
  have h20 : ¬ (20 : Int) ≤ l.length := by omega
  have h20' : ¬ (20 : Int) < l.length := by omega
  refine AC.wrote Try.func69 rfl (by kernel_rfl) rfl [0, 1, 2, 6, 7, 8, 9, 13, 30, 35, 54] rfl (fun k b hk => ?_) ?_
  · rw [hget_cons] at hk
    split at hk
    · rename_i e; subst e; injection hk with hk; subst hk
      exact ⟨hm, .inr ⟨⟨_, by rw [hget_cons, if_pos rfl]⟩, scL_af _ _ (gcs_afB _)⟩⟩
    · cases hk
  refine E.seq ?_
  refine E.reg hr (by simp; rfl) ?_
  refine E.seq ?_
  refine E.reg hr (by simp; rfl) ?_
  refine E.seq ?_
  refine E.block ?_
  refine E.loop ?_
  refine EL.ind (fun i : Nat => { fr := [(0, .slice (some ⟨m, 0, some 0⟩) l.length 0), (1, iv l.length), (2, cmpF), (6, iv 20), (7, iv 0), (8, iv 20)], sz := 63, H := [(m, .ext (gcs l) 79 7)], n := n, marks := [], vs := [0, 1, 2, 6, 7, 8, 9, 13, 30, 35, 54] }) (fun i => 0 - i) (fun _ => True) 0 (.keep rfl rfl rfl (by simp) (Sub.refl _)) trivial (fun _ => rfl) ?_
  rintro i -
  refine E.seq ?_
  refine E.seq ?_
  refine E.reg hr (by simp; rfl) ?_
  refine E.cond (t := false) (by simp [h20]) (fun h => by cases h) (fun _ => ?_)
  refine E.exit ?_
  refine E.seq ?_
  refine E.reg hr (by simp [hg]; rfl) ?_
  refine E.block ?_
  refine E.loop ?_
  refine EL.ind (fun i : Nat => { fr := [(0, .slice (some ⟨m, 0, some 0⟩) l.length 0), (1, iv l.length), (2, cmpF), (6, iv 20)], sz := 63, H := [(m, .ext (gcs (sorted l)) 79 7)], n := n, marks := [], vs := [0, 1, 2, 6, 7, 8, 9, 13, 30, 35, 54] }) (fun i => 0 - i) (fun _ => True) 0 (.keep rfl rfl rfl (by simp) (Sub.refl _)) trivial (fun _ => rfl) ?_
  rintro i -
  refine E.seq ?_
  refine E.seq ?_
  refine E.reg hr (by simp; rfl) ?_
  refine E.cond (t := false) (by simp [h20']) (fun h => by cases h) (fun _ => ?_)
  refine E.exit ?_
  exact ⟨.inl rfl, rfl, ⟨_, rfl, rfl⟩, fun k b hk => hk⟩
noncomputable def g69 (args : List Value) (H : Heap) (n : Nat) : R := match args with
  | [.slice (some a) L 0, .int .i64 L', .func (.func 44) ⟨[]⟩ ⟨[]⟩] => if L' = L then gOrd args H n a L else none
  | _ => none
theorem ok69 : EntOk Try.prog (69, g69) := by
  intro args H n v H' n' h
  simp only [g69] at h
  split at h
  · rename_i a L L'
    split at h
    · rename_i hL
      subst hL
      refine ok_ord (fun m l hm hl hlt ha => ?_) h
      subst ha hl
      exact w69 hm l hlt
    · cases h
  · cases h
theorem w43 {m n : Nat} (hm : m < n) (l : List Gun) (hl : l.length < 20) : AC Try.prog 43 [.slice (some ⟨m, 0, some 0⟩) l.length 0, cmpF] [(m, .ext (gcs l) 79 7)] n (.tuple #[]) [(m, .ext (gcs (sorted l)) 79 7)] n := by
  have hr := recT_ok (P := Try.prog) (l := [(69, g69)]) (by simp [ok69])
  have hg : g69 [.slice (some ⟨m, 0, some 0⟩) l.length 0, iv l.length, cmpF] [(m, .ext (gcs l) 79 7)] n = some (.tuple #[], [(m, .ext (gcs (sorted l)) 79 7)], n) := by
    simp only [g69, if_true]
    rw [gOrd_at (by rw [hget_cons, if_pos rfl]) hl]
    simp [hset]
  refine AC.wrote Try.func43 rfl (by kernel_rfl) rfl [0, 1] rfl (fun k b hk => ?_) ?_
  · rw [hget_cons] at hk
    split at hk
    · rename_i e; subst e; injection hk with hk; subst hk
      exact ⟨hm, .inr ⟨⟨_, by rw [hget_cons, if_pos rfl]⟩, scL_af _ _ (gcs_afB _)⟩⟩
    · cases hk
  refine E.reg hr (by simp [hg]; rfl) ?_
  exact ⟨.inl rfl, rfl, ⟨_, rfl, rfl⟩, fun k b hk => hk⟩
noncomputable def g43 (args : List Value) (H : Heap) (n : Nat) : R := match args with
  | [.slice (some a) L 0, .func (.func 44) ⟨[]⟩ ⟨[]⟩] => gOrd args H n a L
  | _ => none
theorem ok43 : EntOk Try.prog (43, g43) := by
  intro args H n v H' n' h
  simp only [g43] at h
  split at h
  · rename_i a L
    refine ok_ord (fun m l hm hl hlt ha => ?_) h
    subst ha hl
    exact w43 hm l hlt
  · cases h
end Go.Proofs.Ytljglocehbccnaa.Gn
