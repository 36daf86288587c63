/-
The walks of the sums, lowest terms, directions and arrivals (each a contract: no condition but those in its statement).
-/
import Derived.Test.YtndlfijfjglkdaaGreatDoorGg
import Derived.Test.YtndlfijfjglkdaaGreatDoorGa
import Derived.Test.YtndlfijfjglkdaaGreatDoorGc
import Derived.Test.YtndlfijfjglkdaaGreatDoorGe
namespace Go.Proofs.YtndlfijfjglkdaaGreatDoor
open Go Go.Ab Go.Proofs
def strR (H : Heap) : Value → Option (List Gun)
  | .agg ⟨[.slice none 0 0]⟩ => some []
  | .agg ⟨[.slice (some ⟨b, 0, some 0⟩) len 0]⟩ => match rowGuns H b len with
    | some l => if 1 ≤ l.length then some l else none
    | none => none
  | _ => none
end Go.Proofs.YtndlfijfjglkdaaGreatDoor

namespace Go.Proofs.YtndlfijfjglkdaaGreatDoor
open Go Go.Ab Go.Proofs
def volW (l : List Gun) : Int := l.foldl (fun a g => IntKind.i64.wrap (a + g.v)) 0
theorem volW_succ {l : List Gun} {i : Nat} (h : i < l.length) : volW (l.take (i + 1)) = IntKind.i64.wrap (volW (l.take i) + l[i].v) := by
  unfold volW
  rw [List.take_succ_eq_append_getElem h, List.foldl_append]
  rfl
theorem gcs_vE {l : List Gun} {i : Nat} (h : i < l.length) (h2 : i * 7 + 1 < (gcs l).length) : (gcs l)[i * 7 + 1] = iv l[i].v := by
  have := gcs_get h 1 (by omega)
  rw [List.getElem?_eq_getElem h2] at this
  exact Option.some.inj this
set_option maxRecDepth 100000 in
theorem w111 (l : List Gun) (o c : Nat) (hl : l.length < 2 ^ 63) : AC Tryz.prog 111 [.slice (some ⟨10, o, none⟩) l.length c] [(10, .inp o (gcs l))] 11 (iv (volW l)) [(10, .inp o (gcs l))] 11 := by
  have hr := recT_ok (P := Tryz.prog) (l := []) (by simp)
  refine AC.pure Tryz.func111 rfl (by kernel_rfl) rfl [3, 6, 7, 8] rfl ?_
  refine E.seq ?_
  refine E.reg hr (by simp; rfl) ?_
  refine E.seq ?_
  refine E.reg hr (by simp; rfl) ?_
  refine E.seq ?_
  refine E.seq ?_
  refine E.reg hr (by simp; rfl) ?_
  refine E.block ?_
  refine E.loop ?_
  refine EL.ind (fun i : Nat => { fr := [(3, iv (volW (l.take i))), (6, .slice (some ⟨10, o, none⟩) l.length c), (7, iv l.length), (8, iv i)], sz := 18, H := [(10, .inp o (gcs l))], n := 11, marks := [], vs := [3, 6, 7, 8] }) (fun i => l.length - i) (fun i => i ≤ l.length) 0 (.less rfl rfl rfl (by simp [volW]) (by simp)) (Nat.zero_le _) (fun _ => rfl) ?_
  intro i hi
  refine E.seq ?_
  refine E.reg hr (by simp; rfl) ?_
  refine E.seq ?_
  refine E.cond (by rfl) (fun h => ?_) (fun h => ?_)
  · simp at h
    have hw : IntKind.i64.wrap ((i : Int) + 1) = (i : Int) + 1 := W_in (by omega) (by omega)
    have h7 : i * 7 + 7 ≤ l.length * 7 := by omega
    refine E.skip ?_
    refine E.seq ?_
    refine E.block ?_
    refine E.seq ?_
    refine E.reg hr (by simp [h, h7, gcs_take h]; rfl) ?_
    refine E.reg hr (by simp; rfl) ?_
    refine E.reg hr (by simp [hw]; rfl) ?_
    exact ⟨i + 1, Leads.ren [] rfl rfl rfl ⟨rfl, rfl⟩ (by simp [volW_succ h]) (by simp), h, by dsimp only; omega⟩
  · simp at h
    have hal : l.take i = l := List.take_of_length_le (by omega)
    refine E.exit ?_
    refine E.seq ?_
    refine E.reg hr (by simp; rfl) ?_
    refine E.ret ?_
    exact pureK.ret rfl rfl (by simp [hal]) (by repeat first | exact sub_refl _ | refine sub_cons rfl ?_)
def g111 (args : List Value) (H : Heap) (n : Nat) : R := match args with
  | [.slice (some a) len _] => (gunsAt H a len).map fun l => (iv (volW l), H, n)
  | _ => none
theorem ok111 : EntOk Tryz.prog (111, g111) := by
  intro args H n v H' n' h'
  simp only [g111] at h'
  split at h'
  · rename_i a len c
    rw [Option.map_eq_some_iff] at h'
    obtain ⟨l, h1, h2⟩ := h'
    injection h2 with e1 e2; injection e2 with e2 e3; subst e1 e2 e3
    obtain ⟨hf, hc, hlen, hlt⟩ := gunsAt_ok h1
    subst hlen
    exact AC.liftP rfl (Part.one (fun x => [x]) (by intro φ φ0 s s0 h; simp [denL, h]) (by intro p s h; exact ⟨h, trivial⟩) hf hc (afL_gcs l) [] (by simp [Seen]) gsz fun c => ⟨_, _, w111 l _ c hlt⟩)
  · cases h'
set_option maxRecDepth 100000 in
theorem w25 (l : List Gun) (o c : Nat) (hl : l.length < 2 ^ 63) : AC Tryz.prog 25 [strV o l.length c] [(10, .inp o (gcs l))] 11 (iv (volW l)) [(10, .inp o (gcs l))] 11 := by
  have hr := recT_ok (P := Tryz.prog) (l := []) (by simp)
  refine AC.pure Tryz.func25 rfl (by kernel_rfl) rfl [1, 3, 4] rfl ?_
  refine E.seq ?_
  refine E.reg hr (by simp; rfl) ?_
  refine E.seq ?_
  refine E.reg hr (by simp; rfl) ?_
  refine E.seq ?_
  refine E.seq ?_
  refine E.reg hr (by simp; rfl) ?_
  refine E.block ?_
  refine E.loop ?_
  refine EL.ind (fun i : Nat => { fr := [(1, .pointer (some ⟨11, 0, none⟩)), (3, iv (volW (l.take i))), (4, iv i)], sz := 21, H := [(11, .cells [.slice (some ⟨10, o, none⟩) l.length c] 24), (10, .inp o (gcs l))], n := 12, marks := [], vs := [1, 3, 4] }) (fun i => l.length - i) (fun i => i ≤ l.length) 0 (.less rfl rfl rfl (by simp [volW]) (by simp)) (Nat.zero_le _) (fun _ => rfl) ?_
  intro i hi
  refine E.seq ?_
  refine E.seq ?_
  refine E.reg hr (by simp; rfl) ?_
  refine E.cond (by rfl) (fun h => ?_) (fun h => ?_)
  · simp at h
    have hw : IntKind.i64.wrap ((i : Int) + 1) = (i : Int) + 1 := W_in (by omega) (by omega)
    have h7 : i * 7 + 1 < l.length * 7 := by omega
    refine E.skip ?_
    refine E.seq ?_
    refine E.block ?_
    refine E.reg hr (by simp [h, h7, gcs_vE h, show o ≤ o + i * 7 + 1 by omega, show o + i * 7 + 1 - o = i * 7 + 1 by omega]; rfl) ?_
    refine E.reg hr (by simp [hw]; rfl) ?_
    exact ⟨i + 1, .less rfl rfl rfl (by simp [volW_succ h]) (by simp), h, by dsimp only; omega⟩
  · simp at h
    have hal : l.take i = l := List.take_of_length_le (by omega)
    refine E.exit ?_
    refine E.seq ?_
    refine E.reg hr (by simp; rfl) ?_
    refine E.ret ?_
    exact pureK.ret rfl rfl (by simp [hal]) (by repeat first | exact sub_refl _ | refine sub_cons rfl ?_)
/-- a function of one string that is not nil -/
def gStr1 (F : List Gun → Value) (args : List Value) (H : Heap) (n : Nat) : R := match args with
  | [v] => match strAt H v with
    | some l => if 1 ≤ l.length then some (F l, H, n) else none
    | none => none
  | _ => none
theorem okStr1 {f : FuncId} {F : List Gun → Value} (hF : ∀ l, af (F l) = true)
    (h : ∀ l o c, l.length < 2 ^ 63 → 1 ≤ l.length → AC Tryz.prog f [strV o l.length c] [(10, .inp o (gcs l))] 11 (F l) [(10, .inp o (gcs l))] 11) : EntOk Tryz.prog (f, gStr1 F) := by
  intro args H n v H' n' h'
  simp only [gStr1] at h'
  split at h'
  · split at h'
    · rename_i l h1
      split at h'
      · rename_i hp
        injection h' with h'; injection h' with e1 e2; injection e2 with e2 e3; subst e1 e2 e3
        unfold strAt at h1
        split at h1
        · injection h1 with h1; subst h1; simp at hp
        · obtain ⟨hf, hc, hlen, hlt⟩ := gunsAt_ok h1
          subst hlen
          exact AC.liftP (hF _) (Part.one (fun s => [.agg ⟨[s]⟩]) (by intro φ φ0 s s0 h; simp [denL, den, h]) (by intro p s h; exact ⟨⟨h, trivial⟩, trivial⟩) hf hc (afL_gcs l) [] (by simp [Seen]) gsz fun c => ⟨_, _, h l _ c hlt hp⟩)
        · cases h1
      · cases h'
    · cases h'
  · cases h'
theorem ok25 : EntOk Tryz.prog (25, gStr1 fun l => iv (volW l)) := okStr1 (fun _ => rfl) fun l o c hl _ => w25 l o c hl
def gcdI (a b : Int) : Int := (Nat.gcd a.natAbs b.natAbs : Nat)
theorem build35 {fr : Fr} {H : Heap} {n : Nat} {x y : Operand} {a b : Int} (hx : evO Tryz.prog fr x = some (iv a)) (hy : evO Tryz.prog fr y = some (iv b)) : opBuild Tryz.prog 35 #[(0, x), (1, y)] fr H n = some (.agg #[iv a, iv b], H, n) := by
  unfold opBuild
  simp only [evPs_cons, evPs_nil, hx, hy]
  kernel_rfl
theorem gcd_pos {a b : Int} (hb : 1 ≤ b) : 1 ≤ gcdI a b := by
  unfold gcdI
  have : 0 < Nat.gcd a.natAbs b.natAbs := Nat.gcd_pos_of_pos_right _ (by omega)
  omega
theorem tdiv_bound {a g : Int} (_hg : 1 ≤ g) (h : -4611686018427387904 ≤ a ∧ a ≤ 4611686018427387904) : IntKind.i64.wrap (a.tdiv g) = a.tdiv g := by
  have h1 : (a.tdiv g).natAbs ≤ a.natAbs := by rw [Int.natAbs_tdiv]; exact Nat.div_le_self _ _
  exact W_in (by omega) (by omega)
abbrev ratV (a b : Int) : Value := .agg ⟨[iv (a.tdiv (gcdI a b)), iv (b.tdiv (gcdI a b))]⟩
set_option maxRecDepth 100000 in
theorem w112 (a b : Int) (ha : -4611686018427387904 ≤ a ∧ a ≤ 4611686018427387904) (hb : 1 ≤ b ∧ b ≤ 4611686018427387904) : AC Tryz.prog 112 [iv a, iv b] [] 10 (ratV a b) [] 10 := by
  have hr := recT_ok (P := Tryz.prog) (l := []) (by simp)
  have hn : IntKind.i64.wrap (-a) = -a := W_in (by omega) (by omega)
  have hm : max a (-a) = (a.natAbs : Int) := by omega
  have hbn : b = (b.natAbs : Int) := by omega
  have hg := gcd_pos (a := a) hb.1
  refine AC.pure Tryz.func112 rfl (by kernel_rfl) rfl [0, 1, 4, 5, 6] rfl ?_
  refine E.seq ?_
  refine E.reg hr (by simp; rfl) ?_
  refine E.seq ?_
  refine E.reg hr (by simp [max33', hn, hm]; rfl) ?_
  refine E.seq ?_
  refine E.block ?_
  refine E.loop ?_
  refine EL.ind (fun x : Nat × Nat => { fr := [(0, iv a), (1, iv b), (4, .pointer (some ⟨10, 0, none⟩)), (5, iv x.1), (6, iv x.2)], sz := 25, H := [(10, .cells [iv 0, iv 0] 35)], n := 11, marks := [], vs := [0, 1, 4, 5, 6] }) (fun x => x.2) (fun x => (Nat.gcd x.1 x.2 : Int) = gcdI a b) (a.natAbs, b.natAbs) (.less rfl rfl rfl (by simp [← hbn]) (by simp)) rfl (fun _ => rfl) ?_
  intro ⟨p, q⟩ hgood
  dsimp only at hgood
  refine E.seq ?_
  refine E.seq ?_
  refine E.reg hr (by simp; rfl) ?_
  refine E.cond (by rfl) (fun h => ?_) (fun h => ?_)
  · simp at h
    have hq : (q : Int) ≠ 0 := by omega
    have hmod : (p : Int).tmod (q : Int) = ((p % q : Nat) : Int) := by
      rw [Int.tmod_eq_emod_of_nonneg (by omega)]
      exact (Int.natCast_emod p q).symm
    refine E.skip ?_
    refine E.block ?_
    refine E.drawC mixed hr [] [] [] (by kernel_rfl) (by simp [bin_rem hq, hmod]; rfl) ?_
    refine ⟨(q, p % q), .less rfl rfl rfl (by simp) (by simp), ?_, ?_⟩
    · dsimp only
      rw [← hgood, Nat.gcd_comm q, ← Nat.gcd_rec, Nat.gcd_comm]
    · exact Nat.mod_lt _ (by omega)
  · simp at h
    subst h
    have hp : (p : Int) = gcdI a b := by simpa using hgood
    have hp0 : (p : Int) ≠ 0 := by omega
    have e1 : IntKind.i64.wrap (a.tdiv (p : Int)) = a.tdiv (p : Int) := tdiv_bound (by omega) ha
    have e2 : IntKind.i64.wrap (b.tdiv (p : Int)) = b.tdiv (p : Int) := tdiv_bound (by omega) (by omega)
    refine E.exit ?_
    refine E.seq ?_
    refine E.drawC mixed hr [7] [7] [7] (by kernel_rfl) (by simp [bin_quo hp0, e1, e2, build35]; rfl) ?_
    refine E.ret ?_
    exact pureK.ret rfl rfl (by simp [← hp]; kernel_rfl) (by repeat first | exact sub_refl _ | refine sub_cons rfl ?_)
theorem w190 (a b : Int) (ha : -4611686018427387904 ≤ a ∧ a ≤ 4611686018427387904) (hb : 1 ≤ b ∧ b ≤ 4611686018427387904) : AC Tryz.prog 190 [iv a, iv b] [] 10 (iv (gcdI a b)) [] 10 := by
  have hr := recT_ok (P := Tryz.prog) (l := []) (by simp)
  refine AC.pure Tryz.func190 rfl (by kernel_rfl) rfl [0, 1] rfl ?_
  refine E.seq ?_
  refine E.reg hr (by simp; rfl) ?_
  refine E.seq ?_
  refine E.block ?_
  refine E.loop ?_
  refine EL.ind (fun x : Int × Int => { fr := [(0, iv x.1), (1, iv x.2)], sz := 16, H := [], n := 10, marks := [], vs := [0, 1] }) (fun x => x.2.natAbs) (fun x => gcdI x.1 x.2 = gcdI a b ∧ x.1.natAbs ≤ 4611686018427387904 ∧ x.2.natAbs ≤ 4611686018427387904) (a, b) (.less rfl rfl rfl (by simp) (by simp)) ⟨rfl, by dsimp only; omega, by dsimp only; omega⟩ (fun _ => rfl) ?_
  intro ⟨p, q⟩ ⟨hgood, hpb, hqb⟩
  dsimp only at hgood hpb hqb
  refine E.seq ?_
  refine E.seq ?_
  refine E.reg hr (by simp; rfl) ?_
  refine E.cond (by rfl) (fun h => ?_) (fun h => ?_)
  · simp at h
    have hna : (p.tmod q).natAbs = p.natAbs % q.natAbs := Int.natAbs_tmod ..
    refine E.skip ?_
    refine E.block ?_
    refine E.drawC mixed hr [] [] [] (by kernel_rfl) (by simp [bin_rem h]; rfl) ?_
    have hlt : p.natAbs % q.natAbs < q.natAbs := Nat.mod_lt _ (by omega)
    refine ⟨(q, p.tmod q), .less rfl rfl rfl (by simp) (by simp), ⟨?_, ?_, ?_⟩, ?_⟩
    · dsimp only
      rw [← hgood]
      unfold gcdI
      rw [hna, Nat.gcd_comm q.natAbs, ← Nat.gcd_rec, Nat.gcd_comm]
    · dsimp only
      omega
    · dsimp only
      omega
    · dsimp only
      omega
  · simp at h
    subst h
    have hp : (p.natAbs : Int) = gcdI a b := by rw [← hgood]; simp [gcdI]
    refine E.exit ?_
    refine E.seq ?_
    refine E.seq ?_
    refine E.reg hr (by simp; rfl) ?_
    refine E.cond (by rfl) (fun h2 => ?_) (fun h2 => ?_)
    · simp at h2
      have hw : IntKind.i64.wrap (-p) = -p := W_in (by omega) (by omega)
      refine E.seq ?_
      refine E.reg hr (by simp [hw]; rfl) ?_
      refine E.ret ?_
      exact pureK.ret rfl rfl (by rw [← hp]; simp; omega) (by repeat first | exact sub_refl _ | refine sub_cons rfl ?_)
    · simp at h2
      refine E.skip ?_
      refine E.seq ?_
      refine E.reg hr (by simp; rfl) ?_
      refine E.ret ?_
      exact pureK.ret rfl rfl (by rw [← hp]; simp; omega) (by repeat first | exact sub_refl _ | refine sub_cons rfl ?_)
end Go.Proofs.YtndlfijfjglkdaaGreatDoor

namespace Go.Proofs.YtndlfijfjglkdaaGreatDoor
open Go Go.Ab Go.Proofs
def idxS (l : List ByteArray) (x : ByteArray) : Int := match l.findIdx? fun y => decide (x = y) with
  | some i => i
  | none => -1
theorem idxS_hit {l : List ByteArray} {x : ByteArray} {i : Nat} (hi : i < l.length) (hn : x = l[i]) (hb : ∀ j (h : j < l.length), j < i → x ≠ l[j]) : idxS l x = i := by
  have : l.findIdx? (fun y => decide (x = y)) = some i := by
    rw [List.findIdx?_eq_some_iff_getElem]
    exact ⟨hi, by simp [hn], fun j hj => by simpa using hb j (by omega) hj⟩
  unfold idxS
  rw [this]
theorem idxS_miss {l : List ByteArray} {x : ByteArray} (hb : ∀ j (h : j < l.length), x ≠ l[j]) : idxS l x = -1 := by
  have : l.findIdx? (fun y => decide (x = y)) = none := by
    rw [List.findIdx?_eq_none_iff]
    intro y hy
    obtain ⟨j, hj, rfl⟩ := List.getElem_of_mem hy
    simpa using hb j hj
  unfold idxS
  rw [this]
theorem idxS_mem (l : List ByteArray) (x : ByteArray) : decide (0 ≤ idxS l x) = hasW x l := by
  cases h : hasW x l with
  | true =>
    have : (l.findIdx? fun y => decide (x = y)).isSome = true := by
      rw [List.findIdx?_isSome]
      exact List.any_eq_true.2 ⟨x, hasW_iff.1 h, by simp⟩
    obtain ⟨i, hi⟩ := Option.isSome_iff_exists.1 this
    have : 0 ≤ idxS l x := by unfold idxS; rw [hi]; simp
    simp [this]
  | false =>
    have : idxS l x = -1 := idxS_miss fun j hj e => by
      have := hasW_iff.2 (e ▸ List.getElem_mem hj : x ∈ l)
      rw [h] at this
      cases this
    simp [this]
theorem w209 (l : List ByteArray) (o c : Nat) (x : ByteArray) (hl : l.length < 2 ^ 31) : AC Tryz.prog 209 [.slice (some ⟨10, o, none⟩) l.length c, sv x] [(10, .inp o (l.map sv))] 11 (iv (idxS l x)) [(10, .inp o (l.map sv))] 11 := by
  have hr := recT_ok (P := Tryz.prog) (l := []) (by simp)
  refine AC.pure Tryz.func209 rfl (by kernel_rfl) rfl [0, 1, 7, 8] rfl ?_
  refine E.seq ?_
  refine E.reg hr (by simp; rfl) ?_
  refine E.seq ?_
  refine E.seq ?_
  refine E.reg hr (by simp; rfl) ?_
  refine E.block ?_
  refine E.loop ?_
  refine EL.ind (fun i : Nat => { fr := [(0, .slice (some ⟨10, o, none⟩) l.length c), (1, sv x), (7, iv l.length), (8, iv i)], sz := 19, H := [(10, .inp o (l.map sv))], n := 11, marks := [], vs := [0, 1, 7, 8] }) (fun i => l.length - i) (fun i => i ≤ l.length ∧ ∀ j, j < i → ∀ h : j < l.length, x ≠ l[j]) 0 (.less rfl rfl rfl (by simp) (by simp)) ⟨Nat.zero_le _, fun j hj => absurd hj (by omega)⟩ (fun _ => rfl) ?_
  intro i ⟨hi, hg⟩
  have hw : IntKind.i64.wrap ((i : Int) + 1) = (i : Int) + 1 := W_in (by omega) (by omega)
  refine E.seq ?_
  refine E.reg hr (by simp; rfl) ?_
  refine E.seq ?_
  refine E.cond (by rfl) (fun h => ?_) (fun h => ?_)
  · simp at h
    refine E.skip ?_
    refine E.seq ?_
    refine E.block ?_
    refine E.seq ?_
    refine E.reg hr (by simp; rfl) ?_
    refine E.seq ?_
    refine E.reg hr (by simp [h]; rfl) ?_
    refine E.cond (by rfl) (fun h2 => ?_) (fun h2 => ?_)
    · simp at h2
      refine E.seq ?_
      refine E.reg hr (by simp; rfl) ?_
      refine E.ret ?_
      exact pureK.ret rfl rfl (by simp [idxS_hit h h2 fun j h3 h4 => hg j h4 h3]) (by repeat first | exact sub_refl _ | refine sub_cons rfl ?_)
    · simp at h2
      refine E.skip ?_
      refine E.reg hr (by simp [hw]; rfl) ?_
      refine ⟨i + 1, .less rfl rfl rfl (by simp) (by simp), ⟨by omega, fun j hj h3 => ?_⟩, by dsimp only; omega⟩
      rcases Nat.lt_or_ge j i with h4 | h4
      · exact hg j h4 h3
      · obtain rfl : j = i := by omega
        exact h2
  · simp at h
    refine E.exit ?_
    refine E.seq ?_
    refine E.reg hr (by simp; rfl) ?_
    refine E.ret ?_
    exact pureK.ret rfl rfl (by simp [idxS_miss (l := l) (x := x) fun j h3 => hg j (by omega) h3]) (by repeat first | exact sub_refl _ | refine sub_cons rfl ?_)
def g209 (args : List Value) (H : Heap) (n : Nat) : R := match args with
  | [.slice (some a) len _, .string x] => (strsAt H a len).map fun l => (iv (idxS l x), H, n)
  | _ => none
theorem ok209 : EntOk Tryz.prog (209, g209) := by
  intro args H n v H' n' h'
  simp only [g209] at h'
  split at h'
  · rename_i a len c x
    rw [Option.map_eq_some_iff] at h'
    obtain ⟨l, h1, h2⟩ := h'
    injection h2 with e1 e2; injection e2 with e2 e3; subst e1 e2 e3
    obtain ⟨hf, hc, hlen, hlt⟩ := strsAt_ok h1
    subst hlen
    exact AC.liftP rfl (Part.one (fun s => [s, sv x]) (by intro φ φ0 s s0 h; simp [denL, den, h]) (by intro p s h; exact ⟨h, trivial, trivial⟩) hf hc (afL_sv l) [] (by simp [Seen]) gsz fun c => ⟨_, _, w209 l _ c x hlt⟩)
  · cases h'
theorem w161 (l : List ByteArray) (o c : Nat) (x : ByteArray) (hl : l.length < 2 ^ 31) : AC Tryz.prog 161 [.slice (some ⟨10, o, none⟩) l.length c, sv x] [(10, .inp o (l.map sv))] 11 (.bool (hasW x l)) [(10, .inp o (l.map sv))] 11 := by
  have hr := recT_ok (P := Tryz.prog) (l := [(209, g209)]) (by simp only [List.forall_mem_cons]; exact ⟨ok209, by simp⟩)
  have ht : strsAt [(10, .inp o (l.map sv))] ⟨10, o, none⟩ l.length = some l := by
    unfold strsAt
    simp [List.take_of_length_le, strsOf_sv, show l.length < 2147483648 by omega]
  refine AC.pure Tryz.func161 rfl (by kernel_rfl) rfl [4, 1, 0] rfl ?_
  refine E.seq ?_
  refine E.reg hr (by simp; rfl) ?_
  refine E.seq ?_
  refine E.reg hr (by simp [g209, ht]; rfl) ?_
  refine E.ret ?_
  exact pureK.ret rfl rfl (by simp [idxS_mem]) (by repeat first | exact sub_refl _ | refine sub_cons rfl ?_)
def g161 (args : List Value) (H : Heap) (n : Nat) : R := match args with
  | [.slice (some a) len _, .string x] => (strsAt H a len).map fun l => (.bool (hasW x l), H, n)
  | _ => none
theorem ok161 : EntOk Tryz.prog (161, g161) := by
  intro args H n v H' n' h'
  simp only [g161] at h'
  split at h'
  · rename_i a len c x
    rw [Option.map_eq_some_iff] at h'
    obtain ⟨l, h1, h2⟩ := h'
    injection h2 with e1 e2; injection e2 with e2 e3; subst e1 e2 e3
    obtain ⟨hf, hc, hlen, hlt⟩ := strsAt_ok h1
    subst hlen
    exact AC.liftP rfl (Part.one (fun s => [s, sv x]) (by intro φ φ0 s s0 h; simp [denL, den, h]) (by intro p s h; exact ⟨h, trivial, trivial⟩) hf hc (afL_sv l) [] (by simp [Seen]) gsz fun c => ⟨_, _, w161 l _ c x hlt⟩)
  · cases h'
def dirs : List ByteArray := [⟨#[100, 111, 119, 110]⟩, ⟨#[102, 111, 114, 101]⟩, ⟨#[97, 102, 116]⟩, ⟨#[112, 111, 114, 116]⟩, ⟨#[115, 116, 97, 114, 98, 111, 97, 114, 100]⟩]
theorem names_dirs : names0 = dirs.map sv := by kernel_rfl
def dirE (s : ByteArray) : Int := if hasW s dirs then 0 else 13
theorem w115 (s : ByteArray) : AC Tryz.prog 115 [sv s] [(0, .inp 0 names0)] 10 (iv (dirE s)) [(0, .inp 0 names0)] 10 := by
  have hr := recT_ok (P := Tryz.prog) (l := [(161, g161), (114, g114)]) (by simp only [List.forall_mem_cons]; exact ⟨ok161, ok114, by simp⟩)
  have ht : strsAt [(0, .inp 0 names0)] ⟨0, 0, none⟩ 5 = some dirs := by
    rw [names_dirs]
    unfold strsAt
    rfl
  refine AC.pure Tryz.func115 rfl (by kernel_rfl) rfl [2, 0] rfl ?_
  refine E.seq ?_
  refine E.reg hr (by simp; rfl) ?_
  refine E.seq ?_
  have hs2 : ∀ fr, opSlice Tryz.prog 256 (.global 0) none none none fr [(0, .inp 0 names0)] 10 = some (.slice (some ⟨0, 0, none⟩) 5 5, [(0, .inp 0 names0)], 10) := fun fr => by kernel_rfl
  cases hd : hasW s dirs with
  | true =>
    refine E.reg hr (by simp [hs2, g161, ht, g114, hd, whenV]; rfl) ?_
    refine E.ret ?_
    exact pureK.ret rfl rfl (by simp [dirE, hd]) (by repeat first | exact sub_refl _ | refine sub_cons rfl ?_)
  | false =>
    refine E.reg hr (by simp [hs2, g161, ht, g114, hd, whenV]; rfl) ?_
    refine E.ret ?_
    exact pureK.ret rfl rfl (by simp [dirE, hd]) (by repeat first | exact sub_refl _ | refine sub_cons rfl ?_)
open Classical in
noncomputable def g115 (args : List Value) (H : Heap) (n : Nat) : R := match args with
  | [.string s] => if hget H 0 = some (.inp 0 names0) then some (iv (dirE s), H, n) else none
  | _ => none
theorem ok115 : EntOk Tryz.prog (115, g115) := by
  intro args H n v H' n' h
  simp only [g115] at h
  split at h
  · split at h
    · rename_i s h0
      injection h with h; injection h with e1 e2; injection e2 with e2 e3; subst e1 e2 e3
      refine AC.liftP rfl (Part.plain (by simp) [(0, .inp 0 names0)] ?_ gsz ⟨_, _, w115 s⟩)
      intro x hx
      rw [gsz]
      simp at hx
      subst hx
      exact ⟨by simp, h0, rfl, scL_af _ _ af_names0⟩
    · cases h
  · cases h
theorem w119 : ∃ u H1 n1 H2, AC Tryz.prog 119 [] [] 10 u H1 n1 ∧ (∃ m, u = .slice (some ⟨m, 0, none⟩) 5 5 ∧ hget H2 m = some (.cells (dirs.map sv) 9) ∧ 10 ≤ m) ∧ (af u = false → H1 = H2) := by
  have hr := recT_ok (P := Tryz.prog) (l := []) (by simp)
  refine AC.out (Q := fun u H => ∃ m, u = .slice (some ⟨m, 0, none⟩) 5 5 ∧ hget H m = some (.cells (dirs.map sv) 9) ∧ 10 ≤ m) Tryz.func119 rfl (by kernel_rfl) rfl [0] ?_
  refine E.seq ?_
  refine E.reg hr (by simp; rfl) ?_
  refine E.seq ?_
  refine E.reg hr (by simp; rfl) ?_
  refine E.ret ?_
  refine outK.ret rfl rfl ?_
  exact ⟨10, rfl, by simp [dirs], by omega⟩
def g119 (args : List Value) (H : Heap) (n : Nat) : R := match args with
  | [] => some (.slice (some ⟨n, 0, none⟩) 5 5, (n, .cells (dirs.map sv) 9) :: H, n + 1)
  | _ => none
theorem ok119 : EntOk Tryz.prog (119, g119) := by
  intro args H n v H' n' h'
  simp only [g119] at h'
  split at h'
  · injection h' with h'; injection h' with e1 e2; injection e2 with e2 e3; subst e1 e2 e3
    obtain ⟨u, H1, n1, H2, hAC, ⟨m, hu, hm, hle⟩, hh⟩ := w119
    subst hu
    have := hh (by simp)
    subst this
    exact AC.liftF (names_fl 5 5) (.inl ⟨_, _, rfl, afL_sv _⟩) (Part.plain (by simp) [] (by simp [Seen]) gsz ⟨m, _, _, hle, hm, hAC⟩)
  · cases h'
theorem w29 (s : ByteArray) : AC Tryz.prog 29 [sv s] [] 10 (iv (dirE s)) [] 10 := by
  have hr := recT_ok (P := Tryz.prog) (l := [(119, g119), (67, g67)]) (by simp only [List.forall_mem_cons]; exact ⟨ok119, ok67, by simp⟩)
  have ht : ∀ G : Heap, hget G 10 = some (.cells (dirs.map sv) 9) → strsAt G ⟨10, 0, none⟩ 5 = some dirs := fun G hG => by
    unfold strsAt
    simp only [flat, cellsA, hG]
    rfl
  refine AC.pure Tryz.func29 rfl (by kernel_rfl) rfl [] rfl ?_
  refine E.seq ?_
  refine E.reg hr (by simp; rfl) ?_
  refine E.seq ?_
  refine E.seq ?_
  cases hd : hasW s dirs with
  | true =>
    refine E.reg hr (by simp [g119, g67, ht, hd]; rfl) ?_
    refine E.cond (by rfl) (fun h => ?_) (fun h => ?_)
    · simp at h
    refine E.skip ?_
    refine E.seq ?_
    refine E.reg hr (by simp; rfl) ?_
    refine E.ret ?_
    exact pureK.ret rfl rfl (by simp [dirE, hd]) (by repeat first | exact sub_refl _ | refine sub_cons rfl ?_)
  | false =>
    refine E.reg hr (by simp [g119, g67, ht, hd]; rfl) ?_
    refine E.cond (by rfl) (fun h => ?_) (fun h => ?_)
    rotate_left
    · simp at h
    refine E.seq ?_
    refine E.reg hr (by simp; rfl) ?_
    refine E.ret ?_
    exact pureK.ret rfl rfl (by simp [dirE, hd]) (by repeat first | exact sub_refl _ | refine sub_cons rfl ?_)
theorem ok29 : EntOk Tryz.prog (29, gSI dirE) := okSI w29
theorem min33 (a b : Int) (c : Array Bool) : runP Tryz.prog (builtin .min #[3, 3] 3 c #[iv a, iv b]) = some (.value (iv (min a b))) := by
  have h : runP Tryz.prog (builtin .min #[3, 3] 3 c #[iv a, iv b]) = some (.value (.int .i64 (if b < a then b else a))) := rfl
  rw [h]
  congr 3
  split <;> omega
def minN (l : List Int) : Nat → Int
  | 0 => (l[0]?).getD 0
  | i + 1 => min (minN l i) ((l[i + 1]?).getD 0)
theorem w188 (l : List Int) (o c : Nat) (h1 : 1 ≤ l.length) (hl : l.length < 2 ^ 31) : AC Tryz.prog 188 [.slice (some ⟨10, o, none⟩) l.length c] [(10, .inp o (l.map iv))] 11 (iv (minN l (l.length - 1))) [(10, .inp o (l.map iv))] 11 := by
  have hr := recT_ok (P := Tryz.prog) (l := []) (by simp)
  have h0 : 0 < l.length := h1
  have hn1 : ¬ (l.length : Int) < 1 := by omega
  refine AC.pure Tryz.func188 rfl (by kernel_rfl) rfl [0, 3, 4] rfl ?_
  refine E.seq ?_
  refine E.reg hr (by simp; rfl) ?_
  refine E.seq ?_
  refine E.seq ?_
  refine E.reg hr (by simp [hn1]; rfl) ?_
  refine E.cond (by rfl) (fun h => ?_) (fun h => ?_)
  · simp at h
  refine E.skip ?_
  refine E.seq ?_
  refine E.reg hr (by simp [h0]; rfl) ?_
  refine E.seq ?_
  refine E.seq ?_
  refine E.reg hr (by simp; rfl) ?_
  refine E.block ?_
  refine E.loop ?_
  refine EL.ind (fun i : Nat => { fr := [(0, .slice (some ⟨10, o, none⟩) l.length c), (3, iv (minN l i)), (4, iv (i + 1 : Nat))], sz := 25, H := [(10, .inp o (l.map iv))], n := 11, marks := [], vs := [0, 3, 4] }) (fun i => l.length - i) (fun i => i < l.length) 0 (.less rfl rfl rfl (by simp [minN, h0]) (by simp)) h0 (fun _ => rfl) ?_
  intro i hi
  have hw : IntKind.i64.wrap ((i : Int) + 1 + 1) = (i : Int) + 1 + 1 := W_in (by omega) (by omega)
  refine E.seq ?_
  refine E.seq ?_
  refine E.reg hr (by simp; rfl) ?_
  refine E.cond (by rfl) (fun h => ?_) (fun h => ?_)
  · simp at h
    have hlt : i + 1 < l.length := by omega
    have hltI : (i : Int) + 1 < l.length := by omega
    refine E.skip ?_
    refine E.seq ?_
    refine E.block ?_
    refine E.reg hr (by simp [hlt, hltI, min33]; rfl) ?_
    refine E.reg hr (by simp [hw]; rfl) ?_
    exact ⟨i + 1, .less rfl rfl rfl (by simp [minN, hlt]) (by simp), hlt, by dsimp only; omega⟩
  · simp at h
    have hi1 : i = l.length - 1 := by omega
    subst hi1
    refine E.exit ?_
    refine E.seq ?_
    refine E.reg hr (by simp; rfl) ?_
    refine E.ret ?_
    exact pureK.ret rfl rfl (by simp) (by repeat first | exact sub_refl _ | refine sub_cons rfl ?_)
def g188 (args : List Value) (H : Heap) (n : Nat) : R := match args with
  | [.slice (some a) len _] => match intsAt H a len with
    | some l => if 1 ≤ l.length then some (iv (minN l (l.length - 1)), H, n) else none
    | none => none
  | _ => none
theorem ok188 : EntOk Tryz.prog (188, g188) := by
  intro args H n v H' n' h'
  simp only [g188] at h'
  split at h'
  · rename_i a len c
    split at h'
    · rename_i l h1
      split at h'
      · rename_i hp
        injection h' with h'; injection h' with e1 e2; injection e2 with e2 e3; subst e1 e2 e3
        obtain ⟨hf, hc, hlen, hlt⟩ := intsAt_ok h1
        subst hlen
        exact AC.liftP rfl (Part.one (fun s => [s]) (by intro φ φ0 s s0 h; simp [denL, h]) (by intro p s h; exact ⟨h, trivial⟩) hf hc (afL_iv l) [] (by simp [Seen]) gsz fun c => ⟨_, _, w188 l _ c hp hlt⟩)
      · cases h'
    · cases h'
  · cases h'
end Go.Proofs.YtndlfijfjglkdaaGreatDoor

namespace Go.Ab
open Go
/-- blocks that are seen, read only, some with their room; and globals -/
theorem Part.genG {P : Program} {args : List Value} {H : Heap} {n : Nat} {R : List Value → Heap → Nat → Prop} (vs : List V2) (G : Heap) (hG : Seen P H G) {N : Nat} (hN : P.globals.size = N) (hv : ∀ v ∈ vs, V2.ok H v)
    (h : ∀ φ : Vl, ∃ args0, (∀ φ0 : Vl, (∀ i v, vs[i]? = some v → φ0.loc (N + i) = φ.loc v.blk ∧ φ0.cap (N + i) = φ.cap v.blk) → denL φ0 args0 = denL φ args) ∧ scL (· < N + vs.length) args0 ∧ R args0 (v2H N vs G) (N + vs.length)) : Part P args H n R := by
  intro p φ w hB hsc
  obtain ⟨args0, hden, hsc0, hR⟩ := h φ
  let φ0 : Vl := ⟨fun k => if k < N then φ.loc k else match vs[k - N]? with | some v => φ.loc v.blk | none => 0, fun k => if k < N then φ.cap k else match vs[k - N]? with | some v => φ.cap v.blk | none => 0⟩
  have hl : ∀ i v, vs[i]? = some v → φ0.loc (N + i) = φ.loc v.blk ∧ φ0.cap (N + i) = φ.cap v.blk := fun i v hi => by
    simp only [φ0]; rw [if_neg (by omega), if_neg (by omega), Nat.add_sub_cancel_left, hi]; exact ⟨rfl, rfl⟩
  have hlow : ∀ k, k < N → φ0.loc k = φ.loc k := fun k hk => by simp only [φ0]; rw [if_pos hk]
  have hcap : ∀ k, k < N → φ0.cap k = φ.cap k := fun k hk => by simp only [φ0]; rw [if_pos hk]
  have hH0 : ∀ k b, hget (v2H N vs G) k = some b → (k < N ∧ (k, b) ∈ G) ∨ ∃ v, vs[k - N]? = some v ∧ N ≤ k ∧ b = v.b := fun k b hk => by
    rcases hget_v2H vs G k b (fun x hx => hN ▸ (hG x hx).1) hk with ⟨h1, h2⟩ | h1
    · exact .inl ⟨h1, hget_mem _ _ _ h2⟩
    · exact .inr h1
  have hown : ∀ k b, hget (v2H N vs G) k = some b → b.own = false := fun k b hk => by
    rcases hH0 k b hk with ⟨_, h2⟩ | ⟨v, h1, _, rfl⟩
    · exact (hG _ h2).2.2.1
    · have := hv v (List.mem_of_getElem? h1)
      unfold V2.ok at this
      split at this
      · rename_i e; rw [e]; rfl
      · rename_i e; rw [e]; rfl
      · exact this.elim
  refine ⟨args0, v2H N vs G, N + vs.length, φ0, (· < N + vs.length), ⟨⟨fun k b hk => ?_, fun k b k' b' h1 _ _ ho => (by rw [hown k b h1] at ho; cases ho), fun g hg => ?_⟩, fun _ h => h, fun g hg => ?_, (by omega), fun k b hk => ?_, fun t v hv => by simp [lk] at hv, fun t v hv => by simp [lk] at hv⟩, hsc0, hden φ0 hl, hown, hR⟩
  · rcases hH0 k b hk with ⟨h1, h2⟩ | ⟨v, h1, h2, rfl⟩
    · rw [hlow k h1]
      have hg := hG _ h2
      exact (hB.rel.blk k b hg.2.1).congr (p := fun k => k < N) (k := k) (fun j hj => ⟨hlow j hj, hcap j hj⟩) h1 (scB_mono (fun _ h => h.elim) _ hg.2.2.2)
    · have hok := hv v (List.mem_of_getElem? h1)
      have hlk := hl _ _ h1
      rw [show N + (k - N) = k by omega] at hlk
      rw [hlk.1]
      unfold V2.ok at hok
      split at hok
      · rename_i o cs e
        rw [e]
        obtain ⟨⟨m, hc⟩, haf⟩ := hok
        exact cellsA_block hB.rel hc haf φ0 k
      · rename_i cs sz e
        rw [e]
        obtain ⟨c, t, fz, e1, e2, e3, e4⟩ := rowOf_rel hB hok.1
        refine ⟨c, t, fz, e1, ?_, ?_, e4⟩
        · rw [e2, denL_af _ _ hok.2, denL_af _ _ hok.2]
        · rw [e3, hlk.2]
      · exact hok.elim
  · rw [hlow g (hN ▸ hg)]; exact hB.rel.glob g hg
  · rw [← hN]; omega
  · rcases hH0 k b hk with ⟨h1, h2⟩ | ⟨v, h1, h2, rfl⟩
    · exact ⟨by omega, scB_mono (fun _ h => h.elim) _ (hG _ h2).2.2.2⟩
    · have := (List.getElem?_eq_some_iff.1 h1).1
      have hok := hv v (List.mem_of_getElem? h1)
      refine ⟨by omega, ?_⟩
      unfold V2.ok at hok
      split at hok
      · rename_i e; rw [e]; exact scL_af _ _ hok.2
      · rename_i e; rw [e]; exact scL_af _ _ hok.2
      · exact hok.elim
end Go.Ab

namespace Go.Proofs.YtndlfijfjglkdaaGreatDoor
open Go Go.Ab Go.Proofs
def isDir (F : Nat) : Bool := Nat.ble 229 F && Nat.ble F 233
theorem isDir_cases {F : Nat} (h : isDir F = true) : F = 229 ∨ F = 230 ∨ F = 231 ∨ F = 232 ∨ F = 233 := by
  unfold isDir at h
  rw [Bool.and_eq_true] at h
  have h1 := Nat.le_of_ble_eq_true h.1
  have h2 := Nat.le_of_ble_eq_true h.2
  omega
def coF (F : Nat) (x y : Int) : Int := if F = 230 then IntKind.i64.wrap (-x) else if F = 231 then x else if F = 232 then IntKind.i64.wrap (-y) else if F = 233 then y else 0
def dOf (F : Nat) : ByteArray := if F = 229 then ⟨#[100, 111, 119, 110]⟩ else if F = 230 then ⟨#[102, 111, 114, 101]⟩ else if F = 231 then ⟨#[97, 102, 116]⟩ else if F = 232 then ⟨#[112, 111, 114, 116]⟩ else ⟨#[115, 116, 97, 114, 98, 111, 97, 114, 100]⟩
theorem w229 (x y : Int) : AC Tryz.prog 229 [.agg ⟨[iv x, iv y]⟩] [] 10 (iv (coF 229 x y)) [] 10 := by
  have hr := recT_ok (P := Tryz.prog) (l := []) (by simp)
  refine AC.pure Tryz.func229 rfl (by kernel_rfl) rfl [] rfl ?_
  refine E.seq ?_
  refine E.reg hr (by simp; rfl) ?_
  refine E.seq ?_
  refine E.reg hr (by simp; rfl) ?_
  refine E.ret ?_
  exact pureK.ret rfl rfl (by simp [coF]) (by repeat first | exact sub_refl _ | refine sub_cons rfl ?_)
theorem w230 (x y : Int) : AC Tryz.prog 230 [.agg ⟨[iv x, iv y]⟩] [] 10 (iv (coF 230 x y)) [] 10 := by
  have hr := recT_ok (P := Tryz.prog) (l := []) (by simp)
  refine AC.pure Tryz.func230 rfl (by kernel_rfl) rfl [] rfl ?_
  refine E.seq ?_
  refine E.reg hr (by simp; rfl) ?_
  refine E.seq ?_
  refine E.reg hr (by simp; rfl) ?_
  refine E.ret ?_
  exact pureK.ret rfl rfl (by simp [coF]) (by repeat first | exact sub_refl _ | refine sub_cons rfl ?_)
theorem w231 (x y : Int) : AC Tryz.prog 231 [.agg ⟨[iv x, iv y]⟩] [] 10 (iv (coF 231 x y)) [] 10 := by
  have hr := recT_ok (P := Tryz.prog) (l := []) (by simp)
  refine AC.pure Tryz.func231 rfl (by kernel_rfl) rfl [] rfl ?_
  refine E.seq ?_
  refine E.reg hr (by simp; rfl) ?_
  refine E.seq ?_
  refine E.reg hr (by simp; rfl) ?_
  refine E.ret ?_
  exact pureK.ret rfl rfl (by simp [coF]) (by repeat first | exact sub_refl _ | refine sub_cons rfl ?_)
theorem w232 (x y : Int) : AC Tryz.prog 232 [.agg ⟨[iv x, iv y]⟩] [] 10 (iv (coF 232 x y)) [] 10 := by
  have hr := recT_ok (P := Tryz.prog) (l := []) (by simp)
  refine AC.pure Tryz.func232 rfl (by kernel_rfl) rfl [] rfl ?_
  refine E.seq ?_
  refine E.reg hr (by simp; rfl) ?_
  refine E.seq ?_
  refine E.reg hr (by simp; rfl) ?_
  refine E.ret ?_
  exact pureK.ret rfl rfl (by simp [coF]) (by repeat first | exact sub_refl _ | refine sub_cons rfl ?_)
theorem w233 (x y : Int) : AC Tryz.prog 233 [.agg ⟨[iv x, iv y]⟩] [] 10 (iv (coF 233 x y)) [] 10 := by
  have hr := recT_ok (P := Tryz.prog) (l := []) (by simp)
  refine AC.pure Tryz.func233 rfl (by kernel_rfl) rfl [] rfl ?_
  refine E.seq ?_
  refine E.reg hr (by simp; rfl) ?_
  refine E.seq ?_
  refine E.reg hr (by simp; rfl) ?_
  refine E.ret ?_
  exact pureK.ret rfl rfl (by simp [coF]) (by repeat first | exact sub_refl _ | refine sub_cons rfl ?_)
def gCo (F : Nat) (args : List Value) (H : Heap) (n : Nat) : R := match args with
  | [.agg ⟨[.int .i64 x, .int .i64 y]⟩] => some (iv (coF F x y), H, n)
  | _ => none
theorem okCo {f : FuncId} {F : Nat} (h : ∀ x y, AC Tryz.prog f [.agg ⟨[iv x, iv y]⟩] [] 10 (iv (coF F x y)) [] 10) : EntOk Tryz.prog (f, gCo F) := by
  intro args H n v H' n' h'
  simp only [gCo] at h'
  split at h'
  · injection h' with h'; injection h' with e1 e2; injection e2 with e2 e3; subst e1 e2 e3
    exact AC.liftP rfl (Part.plain (by simp) [] (by simp [Seen]) gsz ⟨_, _, h _ _⟩)
  · cases h'
theorem ok229 : EntOk Tryz.prog (229, gCo 229) := okCo w229
theorem ok230 : EntOk Tryz.prog (230, gCo 230) := okCo w230
theorem ok231 : EntOk Tryz.prog (231, gCo 231) := okCo w231
theorem ok232 : EntOk Tryz.prog (232, gCo 232) := okCo w232
theorem ok233 : EntOk Tryz.prog (233, gCo 233) := okCo w233
abbrev fnV (F : Nat) : Value := .func (.func F) #[] #[]
abbrev H187 (F : Nat) : Heap := [(10, .inp 0 [fnV F])]
theorem w187 (F : Nat) (hF : isDir F = true) (g : Gun) : AC Tryz.prog 187 [.agg ⟨g.cells⟩, .pointer (some ⟨10, 0, none⟩)] (H187 F) 11 (iv (coF F g.x g.y)) (H187 F) 11 := by
  have hr := recT_ok (P := Tryz.prog) (l := [(229, gCo 229), (230, gCo 230), (231, gCo 231), (232, gCo 232), (233, gCo 233)]) (by simp only [List.forall_mem_cons]; exact ⟨ok229, ok230, ok231, ok232, ok233, by simp⟩)
  refine AC.pure Tryz.func187 rfl (by kernel_rfl) rfl [] rfl ?_
  refine E.seq ?_
  refine E.reg hr (by simp; rfl) ?_
  refine E.seq ?_
  rcases isDir_cases hF with rfl | rfl | rfl | rfl | rfl
  · refine E.reg hr (by simp [gCo]; rfl) ?_
    refine E.ret ?_
    exact pureK.ret rfl rfl (by simp) (by repeat first | exact sub_refl _ | refine sub_cons rfl ?_)
  · refine E.reg hr (by simp [gCo]; rfl) ?_
    refine E.ret ?_
    exact pureK.ret rfl rfl (by simp) (by repeat first | exact sub_refl _ | refine sub_cons rfl ?_)
  · refine E.reg hr (by simp [gCo]; rfl) ?_
    refine E.ret ?_
    exact pureK.ret rfl rfl (by simp) (by repeat first | exact sub_refl _ | refine sub_cons rfl ?_)
  · refine E.reg hr (by simp [gCo]; rfl) ?_
    refine E.ret ?_
    exact pureK.ret rfl rfl (by simp) (by repeat first | exact sub_refl _ | refine sub_cons rfl ?_)
  · refine E.reg hr (by simp [gCo]; rfl) ?_
    refine E.ret ?_
    exact pureK.ret rfl rfl (by simp) (by repeat first | exact sub_refl _ | refine sub_cons rfl ?_)
def g187 (args : List Value) (H : Heap) (n : Nat) : R := match args with
  | [.agg ⟨[.string _, .int .i64 _, .int .i64 x, .int .i64 y, .int .i64 _, .int .i64 _, .int .i64 _]⟩, .pointer (some ⟨b, 0, none⟩)] => match cellsA H b 0 1 with
    | some [.func (.func F) ⟨[]⟩ ⟨[]⟩] => if isDir F then some (iv (coF F x y), H, n) else none
    | _ => none
  | _ => none
theorem ok187 : EntOk Tryz.prog (187, g187) := by
  intro args H n v H' n' h'
  simp only [g187] at h'
  split at h'
  · rename_i s v0 x y d lo hi b
    split at h'
    · rename_i F hc
      split at h'
      · rename_i hF
        injection h' with h'; injection h' with e1 e2; injection e2 with e2 e3; subst e1 e2 e3
        exact AC.liftP rfl (Part.gen [⟨b, .inp 0 [fnV F]⟩] gsz (fun u hu => by rw [List.mem_singleton] at hu; subst hu; exact ⟨⟨1, hc⟩, by simp⟩) fun φ => ⟨[.agg ⟨[.string s, .int .i64 v0, .int .i64 x, .int .i64 y, .int .i64 d, .int .i64 lo, .int .i64 hi]⟩, .pointer (some ⟨10, 0, none⟩)], fun φ0 hl => by
          have := (hl 0 _ rfl).1
          simp only [Nat.add_zero] at this
          simp [denL, den, this], by simp [scL, sc], _, _, w187 F hF ⟨s, v0, x, y, d, lo, hi⟩⟩)
      · cases h'
    · cases h'
  · cases h'
def coG (F : Nat) (g : Gun) : Int := coF F g.x g.y
abbrev H186 (F : Nat) (l : List Gun) : Heap := [(11, .inp 0 [fnV F]), (10, .row (gcs l) 7)]
abbrev clV (b : Nat) : Value := .func (.func 187) #[] #[.pointer (some ⟨b, 0, none⟩)]
def S186 (F : Nat) (l : List Gun) : Nat → St
  | 0 => { fr := [(1, clV 11), (8, .slice (some ⟨10, 0, some 0⟩) l.length 0), (9, iv l.length), (5, .slice none 0 0), (10, iv 0)], sz := 22, H := H186 F l, n := 12, marks := [], vs := [1, 8, 9, 5, 10] }
  | i + 1 => { fr := [(1, clV 11), (8, .slice (some ⟨10, 0, some 0⟩) l.length 0), (9, iv l.length), (5, .slice (some ⟨12, 0, some 0⟩) (i + 1) 0), (10, iv (i + 1 : Nat))], sz := 22, H := (12, .ext ((tk (coG F) l (i + 1)).map iv) 3 1) :: H186 F l, n := 13, marks := [], vs := [1, 8, 9, 5, 10] }
/-- integers in memory of one's own, with room behind -/
def intQ (k : Nat) (l : List Int) (u : Value) (H : Heap) : Prop := ∃ m, u = .slice (some ⟨m, 0, some 0⟩) l.length 0 ∧ hget H m = some (.ext (l.map iv) 3 1) ∧ k ≤ m
set_option maxRecDepth 100000 in
theorem w186 (F : Nat) (hF : isDir F = true) (l : List Gun) (h1 : 1 ≤ l.length) (hl : l.length ≤ 4096) : ∃ u H1 n1 H2, AC Tryz.prog 186 [.slice (some ⟨10, 0, some 0⟩) l.length 0, clV 11] (H186 F l) 12 u H1 n1 ∧ intQ 12 (l.map (coG F)) u H2 ∧ (af u = false → H1 = H2) := by
  have hr := recT_ok (P := Tryz.prog) (l := [(187, g187)]) (by simp only [List.forall_mem_cons]; exact ⟨ok187, by simp⟩)
  have hpos : 0 < l.length := h1
  refine AC.out Tryz.func186 rfl (by kernel_rfl) rfl [1, 8, 9, 5, 10] ?_
  refine E.seq ?_
  refine E.reg hr (by simp; rfl) ?_
  refine E.seq ?_
  refine E.reg hr (by simp; rfl) ?_
  refine E.seq ?_
  refine E.seq ?_
  refine E.reg hr (by simp; rfl) ?_
  refine E.block ?_
  refine E.loop ?_
  refine EL.ind (S186 F l) (fun i => l.length - i) (fun i => i ≤ l.length) 0 (.less rfl rfl rfl (by simp [S186]) (by simp [S186])) (Nat.zero_le _) (fun i => by cases i <;> rfl) ?_
  intro i hi
  rcases i with _ | i
  · have hw : IntKind.i64.wrap 1 = 1 := W_in (by omega) (by omega)
    refine E.seq ?_
    refine E.reg hr (by simp [S186]; rfl) ?_
    refine E.seq ?_
    refine E.cond (by rfl) (fun h => ?_) (fun h => ?_)
    · simp at h
      have hx := gcs_take hpos
      have h7 : 7 ≤ l.length * 7 := by omega
      rw [Nat.zero_mul, List.drop_zero] at hx
      have hts : (tk (coG F) l 1).map iv = [iv (coF F l[0].x l[0].y)] := by rw [tk_succ (coG F) hpos]; rfl
      refine E.skip ?_
      refine E.seq ?_
      refine E.block ?_
      refine E.seq ?_
      refine E.reg hr (by simp [hx, hpos, h7]; rfl) ?_
      refine E.reg hr (by simp [g187, hF]; rfl) ?_
      refine E.reg hr (by simp [hw]; rfl) ?_
      exact ⟨1, Leads.ren [14] rfl rfl rfl ⟨rfl, rfl⟩ (by simp [S186]) (by simp [S186, hts]), by omega, by dsimp only; omega⟩
    · simp at h
      simp [h] at h1
  · have hw : IntKind.i64.wrap ((i : Int) + 1 + 1) = (i : Int) + 1 + 1 := W_in (by omega) (by omega)
    have hlen : (tk (coG F) l (i + 1)).length = i + 1 := tk_length _ (by omega)
    have ht : List.take (i + 1) ((tk (coG F) l (i + 1)).map iv) = (tk (coG F) l (i + 1)).map iv := List.take_of_length_le (by simp [hlen])
    refine E.seq ?_
    refine E.reg hr (by simp [S186]; rfl) ?_
    refine E.seq ?_
    refine E.cond (by rfl) (fun h => ?_) (fun h => ?_)
    · simp at h
      have hlt : i + 1 < l.length := by omega
      have hltI : (i : Int) + 1 < l.length := by omega
      have hx := gcs_take hlt
      have h7 : (i + 1) * 7 + 7 ≤ l.length * 7 := by omega
      have hts : (tk (coG F) l (i + 1 + 1)).map iv = (tk (coG F) l (i + 1)).map iv ++ [iv (coF F l[i + 1].x l[i + 1].y)] := by rw [tk_succ (coG F) hlt, List.map_append]; rfl
      have hsm : (i + 1 + 1) * 8 ≤ 1099511627776 ∧ i + 1 + 1 ≤ 1099511627776 := by omega
      refine E.skip ?_
      refine E.seq ?_
      refine E.block ?_
      refine E.seq ?_
      refine E.reg hr (by simp [hx, hltI, h7]; rfl) ?_
      refine E.reg hr (by simp [g187, hF, hsm, ht, hlen]; rfl) ?_
      refine E.reg hr (by simp [hw]; rfl) ?_
      exact ⟨i + 2, Leads.ren [15] rfl rfl rfl ⟨rfl, rfl⟩ (by simp [S186]) (by simp [S186, hts]), by omega, by dsimp only; omega⟩
    · simp at h
      have hal : tk (coG F) l (i + 1) = l.map (coG F) := tk_all _ (by omega)
      have hll : l.length = i + 1 := by omega
      refine E.exit ?_
      refine E.seq ?_
      refine E.reg hr (by simp; rfl) ?_
      refine E.ret ?_
      refine outK.ret rfl rfl ?_
      exact ⟨12, by simp [hll], by simp [hal], by omega⟩
def g186 (args : List Value) (H : Heap) (n : Nat) : R := match args with
  | [.slice (some ⟨b, 0, some 0⟩) len 0, .func (.func 187) ⟨[]⟩ ⟨[.pointer (some ⟨a, 0, none⟩)]⟩] => match rowGuns H b len, cellsA H a 0 1 with
    | some l, some [.func (.func F) ⟨[]⟩ ⟨[]⟩] => if isDir F = true ∧ 1 ≤ l.length ∧ l.length ≤ 4096 then some (.slice (some ⟨n, 0, some 0⟩) (l.map (coG F)).length 0, (n, .ext ((l.map (coG F)).map iv) 3 1) :: H, n + 1) else none
    | _, _ => none
  | _ => none
theorem ok186 : EntOk Tryz.prog (186, g186) := by
  intro args H n v H' n' h'
  simp only [g186] at h'
  split at h'
  · rename_i b len a
    split at h'
    · rename_i l F hg hc
      split at h'
      · rename_i hh
        obtain ⟨hF, h1, hl⟩ := hh
        injection h' with h'; injection h' with e1 e2; injection e2 with e2 e3; subst e1 e2 e3
        obtain ⟨hb, rfl, _⟩ := rowGuns_ok hg
        refine AC.liftF (names_sx _ _) (.inr ⟨_, _, _, rfl, afL_iv _⟩) (Part.gen [⟨b, .row (gcs l) 7⟩, ⟨a, .inp 0 [fnV F]⟩] gsz (fun u hu => ?_) fun φ => ⟨[.slice (some ⟨10, 0, some 0⟩) l.length 0, clV 11], fun φ0 hv => ?_, ?_, ?_⟩)
        · rcases List.mem_cons.1 hu with rfl | hu
          · exact ⟨hb, afL_gcs l⟩
          · rw [List.mem_singleton] at hu
            subst hu
            exact ⟨⟨1, hc⟩, by simp⟩
        · have h0 := hv 0 _ rfl
          have h1 := (hv 1 _ rfl).1
          simp only [Nat.add_zero] at h0
          simp [denL, den, h0, h1]
        · simp [scL, sc]
        · obtain ⟨u, H1, n1, H2, hAC, ⟨m, hu, hm, hle⟩, hh⟩ := w186 F hF l h1 hl
          subst hu
          have := hh (by simp)
          subst this
          exact ⟨m, _, _, hle, hm, hAC⟩
      · cases h'
    · cases h'
  · cases h'
end Go.Proofs.YtndlfijfjglkdaaGreatDoor

namespace Go.Ab
open Go
section
variable {P : Program} {n0 m : Nat} {ro : Option Nat} {st : St} {K : Ex → St → Prop} {r : Rec}
/-- a region that is reckoned by the kernel -/
theorem E.regE (hr : RecOk P r m) {id : Nat} {ops : Array Oper} (h : (opsF P r ops ops.toList st).isSome = true) (k : K .normal ((opsF P r ops ops.toList st).get h)) : E P n0 ro (.region id ops false) st K :=
  E.reg hr (Option.some_get h).symm k
end
end Go.Ab
namespace Go.Proofs.YtndlfijfjglkdaaGreatDoor
open Go Go.Ab Go.Proofs
def leastV (F : Nat) (l : List Gun) : Int := minN (l.map (coG F)) (l.length - 1)
def arrG (F : Nat) (l : List Gun) (g : Gun) : Int := g.d + (coG F g - leastV F l).tdiv 15
def inB (l : List Gun) : Prop := ∀ g ∈ l, -1000 ≤ g.x ∧ g.x ≤ 1000 ∧ -1000 ≤ g.y ∧ g.y ≤ 1000 ∧ 0 ≤ g.d ∧ g.d ≤ 16
theorem coF_bound (F : Nat) {x y : Int} (hx : -1000 ≤ x ∧ x ≤ 1000) (hy : -1000 ≤ y ∧ y ≤ 1000) : -1000 ≤ coF F x y ∧ coF F x y ≤ 1000 := by
  unfold coF
  split
  · rw [W_in (by omega) (by omega)]; omega
  split
  · omega
  split
  · rw [W_in (by omega) (by omega)]; omega
  split
  · omega
  · omega
theorem minN_mem (l : List Int) : ∀ i, i < l.length → minN l i ∈ l
  | 0, h => by simp [minN, h]
  | i + 1, h => by
    have ih := minN_mem l i (by omega)
    unfold minN
    rw [List.getElem?_eq_getElem h, Option.getD_some]
    rcases (show min (minN l i) l[i + 1] = minN l i ∨ min (minN l i) l[i + 1] = l[i + 1] by omega) with e | e
    · rw [e]; exact ih
    · rw [e]; exact List.getElem_mem h
theorem minN_le (l : List Int) : ∀ i, i < l.length → ∀ j (hj : j < l.length), j ≤ i → minN l i ≤ l[j]
  | 0, h, j, hj, hji => by
    obtain rfl : j = 0 := by omega
    simp [minN, h]
  | i + 1, h, j, hj, hji => by
    unfold minN
    rw [List.getElem?_eq_getElem h, Option.getD_some]
    rcases Nat.lt_or_ge i j with h1 | h1
    · obtain rfl : j = i + 1 := by omega
      omega
    · have := minN_le l i (by omega) j hj h1
      omega
theorem co_bound {F : Nat} {l : List Gun} (hb : inB l) {g : Gun} (hg : g ∈ l) : -1000 ≤ coG F g ∧ coG F g ≤ 1000 := by
  obtain ⟨h1, h2, h3, h4, _⟩ := hb g hg
  exact coF_bound F ⟨h1, h2⟩ ⟨h3, h4⟩
theorem least_bound {F : Nat} {l : List Gun} (hb : inB l) (h1 : 1 ≤ l.length) : -1000 ≤ leastV F l ∧ leastV F l ≤ 1000 := by
  have := minN_mem (l.map (coG F)) (l.length - 1) (by simp; omega)
  obtain ⟨g, hg, e⟩ := List.mem_map.1 this
  have := co_bound (F := F) hb hg
  unfold leastV
  omega
theorem gcs_dE {l : List Gun} {i : Nat} (h : i < l.length) (h2 : i * 7 + 4 < (gcs l).length) : (gcs l)[i * 7 + 4] = iv l[i].d := by
  have := gcs_get h 4 (by omega)
  rw [List.getElem?_eq_getElem h2] at this
  exact Option.some.inj this
theorem arr_wraps {F : Nat} {l : List Gun} (hb : inB l) (h1 : 1 ≤ l.length) {g : Gun} (hg : g ∈ l) : IntKind.i64.wrap (coG F g - leastV F l) = coG F g - leastV F l ∧ IntKind.i64.wrap ((coG F g - leastV F l).tdiv 15) = (coG F g - leastV F l).tdiv 15 ∧ IntKind.i64.wrap (g.d + (coG F g - leastV F l).tdiv 15) = arrG F l g := by
  have h2 := co_bound (F := F) hb hg
  have h3 := least_bound (F := F) hb h1
  obtain ⟨_, _, _, _, h4, h5⟩ := hb g hg
  have h6 : ((coG F g - leastV F l).tdiv 15).natAbs ≤ (coG F g - leastV F l).natAbs := by rw [Int.natAbs_tdiv]; exact Nat.div_le_self _ _
  exact ⟨W_in (by omega) (by omega), W_in (by omega) (by omega), W_in (by omega) (by omega)⟩
abbrev H116 (l : List Gun) : Heap := [(11, .cells [.slice (some ⟨10, 0, some 0⟩) l.length 0] 32), (10, .row (gcs l) 7)]
def C116 (F : Nat) (l : List Gun) : St := { fr := [(2, .pointer (some ⟨11, 0, none⟩)), (5, .pointer (some ⟨13, 0, none⟩))], sz := 44, H := (13, .cells [fnV F] 257) :: H116 l, n := 14, marks := [], vs := [2, 7, 8, 21, 22, 23] }
def S116 (F : Nat) (l : List Gun) (cl : List Int) : Nat → St
  | 0 => { fr := [(2, .pointer (some ⟨11, 0, none⟩)), (7, iv (leastV F l)), (8, .slice none 0 0), (21, .slice (some ⟨12, 0, some 0⟩) cl.length 0), (22, iv cl.length), (23, iv 0)], sz := 44, H := (12, .ext (cl.map iv) 3 1) :: H116 l, n := 13, marks := [], vs := [2, 7, 8, 21, 22, 23] }
  | i + 1 => { fr := [(2, .pointer (some ⟨11, 0, none⟩)), (7, iv (leastV F l)), (8, .slice (some ⟨13, 0, some 0⟩) (i + 1) 0), (21, .slice (some ⟨12, 0, some 0⟩) cl.length 0), (22, iv cl.length), (23, iv (i + 1 : Nat))], sz := 44, H := (13, .ext ((tk (arrG F l) l (i + 1)).map iv) 3 1) :: (12, .ext (cl.map iv) 3 1) :: H116 l, n := 14, marks := [], vs := [2, 7, 8, 21, 22, 23] }
set_option maxRecDepth 100000 in
theorem w116 (F : Nat) (hF : isDir F = true) (l : List Gun) (h1 : 1 ≤ l.length) (h8 : l.length ≤ 8) (hb : inB l) : ∃ u H1 n1 H2, AC Tryz.prog 116 [rowV l.length, sv (dOf F)] [(10, .row (gcs l) 7)] 11 u H1 n1 ∧ intQ 11 (l.map (arrG F l)) u H2 ∧ (af u = false → H1 = H2) := by
  have hr := recT_ok (P := Tryz.prog) (l := [(186, g186), (188, g188)]) (by simp only [List.forall_mem_cons]; exact ⟨ok186, ok188, by simp⟩)
  have hrE := ev_sound mixed (O := fun _ _ _ _ => none) (fun _ _ _ _ _ _ _ h => by cases h) 30
  have hpos : 0 < l.length := h1
  obtain ⟨cl, hcl⟩ : ∃ cl, cl = l.map (coG F) := ⟨_, rfl⟩
  have hcll : cl.length = l.length := by rw [hcl, List.length_map]
  have hce : ∀ i (h : i < cl.length) (h' : i < l.length), cl[i] = coG F l[i] := fun i h h' => by subst hcl; simp
  have hle : minN cl (cl.length - 1) = leastV F l := by rw [hcll, hcl]; rfl
  have hrow : ∀ G : Heap, hget G 10 = some (.row (gcs l) 7) → rowGuns G 10 l.length = some l := fun G hG => by
    unfold rowGuns rowOf
    rw [hG]
    simp [gunsOf_gcs, show l.length < 9223372036854775808 by omega]
  have hin : ∀ (G : Heap) (b : Nat), hget G b = some (.ext (cl.map iv) 3 1) → intsAt G ⟨b, 0, some 0⟩ cl.length = some cl := fun G b hG => by
    unfold intsAt
    simp [hG, List.take_of_length_le, intsOf_iv, show cl.length < 2147483648 by omega]
  have hl6 : l.length ≤ 4096 := by omega
  have hc1 : 1 ≤ cl.length := by omega
  refine AC.out Tryz.func116 rfl (by kernel_rfl) rfl [2, 7, 8, 21, 22, 23] ?_
  refine E.seq ?_
  refine E.reg hr (by simp; rfl) ?_
  refine E.cut (C116 F l) ?_ ?_
  · rcases isDir_cases hF with rfl | rfl | rfl | rfl | rfl
    · refine E.regE hrE (by kernel_rfl) ?_
      exact Leads.less (by kernel_rfl) (by kernel_rfl) (by kernel_rfl) (List.forall_mem_cons.2 ⟨by kernel_rfl, List.forall_mem_cons.2 ⟨by kernel_rfl, by simp⟩⟩) (List.forall_mem_cons.2 ⟨by kernel_rfl, List.forall_mem_cons.2 ⟨by kernel_rfl, List.forall_mem_cons.2 ⟨by kernel_rfl, by simp⟩⟩⟩)
    · refine E.regE hrE (by kernel_rfl) ?_
      exact Leads.less (by kernel_rfl) (by kernel_rfl) (by kernel_rfl) (List.forall_mem_cons.2 ⟨by kernel_rfl, List.forall_mem_cons.2 ⟨by kernel_rfl, by simp⟩⟩) (List.forall_mem_cons.2 ⟨by kernel_rfl, List.forall_mem_cons.2 ⟨by kernel_rfl, List.forall_mem_cons.2 ⟨by kernel_rfl, by simp⟩⟩⟩)
    · refine E.regE hrE (by kernel_rfl) ?_
      exact Leads.less (by kernel_rfl) (by kernel_rfl) (by kernel_rfl) (List.forall_mem_cons.2 ⟨by kernel_rfl, List.forall_mem_cons.2 ⟨by kernel_rfl, by simp⟩⟩) (List.forall_mem_cons.2 ⟨by kernel_rfl, List.forall_mem_cons.2 ⟨by kernel_rfl, List.forall_mem_cons.2 ⟨by kernel_rfl, by simp⟩⟩⟩)
    · refine E.regE hrE (by kernel_rfl) ?_
      exact Leads.less (by kernel_rfl) (by kernel_rfl) (by kernel_rfl) (List.forall_mem_cons.2 ⟨by kernel_rfl, List.forall_mem_cons.2 ⟨by kernel_rfl, by simp⟩⟩) (List.forall_mem_cons.2 ⟨by kernel_rfl, List.forall_mem_cons.2 ⟨by kernel_rfl, List.forall_mem_cons.2 ⟨by kernel_rfl, by simp⟩⟩⟩)
    · refine E.regE hrE (by kernel_rfl) ?_
      exact Leads.less (by kernel_rfl) (by kernel_rfl) (by kernel_rfl) (List.forall_mem_cons.2 ⟨by kernel_rfl, List.forall_mem_cons.2 ⟨by kernel_rfl, by simp⟩⟩) (List.forall_mem_cons.2 ⟨by kernel_rfl, List.forall_mem_cons.2 ⟨by kernel_rfl, List.forall_mem_cons.2 ⟨by kernel_rfl, by simp⟩⟩⟩)
  refine E.seq ?_
  refine E.reg hr (by simp [C116, opMakefunc, g186, hrow, hF, h1, hl6, ← hcl]; rfl) ?_
  refine E.seq ?_
  refine E.reg hr (by simp [g188, hin, hc1, hle]; rfl) ?_
  refine E.seq ?_
  refine E.reg hr (by simp; rfl) ?_
  refine E.seq ?_
  refine E.seq ?_
  refine E.reg hr (by simp; rfl) ?_
  refine E.block ?_
  refine E.loop ?_
  refine EL.ind (S116 F l cl) (fun i => l.length - i) (fun i => i ≤ l.length) 0 (Leads.ren [11, 14] rfl rfl rfl ⟨rfl, rfl⟩ (by simp [S116]) (by simp [S116])) (Nat.zero_le _) (fun i => by cases i <;> rfl) ?_
  intro i hi
  rcases i with _ | i
  · have hw : IntKind.i64.wrap 1 = 1 := W_in (by omega) (by omega)
    refine E.seq ?_
    refine E.reg hr (by simp [S116]; rfl) ?_
    refine E.seq ?_
    refine E.cond (by rfl) (fun h => ?_) (fun h => ?_)
    · simp at h
      obtain ⟨q1, q2, q3⟩ := arr_wraps (F := F) hb h1 (List.getElem_mem hpos)
      have hc := hce 0 (by omega) hpos
      have h0c : 0 < cl.length := by omega
      have h7 : 4 < l.length * 7 := by omega
      have hd := gcs_dE hpos (by simp; omega)
      simp only [Nat.zero_mul, Nat.zero_add] at hd
      have hts : (tk (arrG F l) l 1).map iv = [iv (arrG F l l[0])] := by rw [tk_succ (arrG F l) hpos]; rfl
      refine E.skip ?_
      refine E.seq ?_
      refine E.block ?_
      refine E.seq ?_
      refine E.reg hr (by simp [h0c, hc]; rfl) ?_
      refine E.reg hr (by simp [hpos, h7, hd, q1, bin_quo (show (15 : Int) ≠ 0 by decide), q2, q3]; rfl) ?_
      refine E.reg hr (by simp [hw]; rfl) ?_
      exact ⟨1, Leads.ren [11, 12, 14] rfl rfl rfl ⟨rfl, rfl⟩ (by simp [S116]) (by simp [S116, hts]), by omega, by dsimp only; omega⟩
    · simp at h
      simp [h] at hc1
  · have hw : IntKind.i64.wrap ((i : Int) + 1 + 1) = (i : Int) + 1 + 1 := W_in (by omega) (by omega)
    have hlen : (tk (arrG F l) l (i + 1)).length = i + 1 := tk_length _ (by omega)
    have ht : List.take (i + 1) ((tk (arrG F l) l (i + 1)).map iv) = (tk (arrG F l) l (i + 1)).map iv := List.take_of_length_le (by simp [hlen])
    refine E.seq ?_
    refine E.reg hr (by simp [S116]; rfl) ?_
    refine E.seq ?_
    refine E.cond (by rfl) (fun h => ?_) (fun h => ?_)
    · simp at h
      have hltc : i + 1 < cl.length := by omega
      have hlt : i + 1 < l.length := by omega
      have hltI : (i : Int) + 1 < cl.length := by omega
      have hltJ : (i : Int) + 1 < l.length := by omega
      obtain ⟨q1, q2, q3⟩ := arr_wraps (F := F) hb h1 (List.getElem_mem hlt)
      have hc := hce (i + 1) hltc hlt
      have h7 : (i + 1) * 7 + 4 < l.length * 7 := by omega
      have hd := gcs_dE hlt (by simp; omega)
      have hts : (tk (arrG F l) l (i + 1 + 1)).map iv = (tk (arrG F l) l (i + 1)).map iv ++ [iv (arrG F l l[i + 1])] := by rw [tk_succ (arrG F l) hlt, List.map_append]; rfl
      have hsm : (i + 1 + 1) * 8 ≤ 1099511627776 ∧ i + 1 + 1 ≤ 1099511627776 := by omega
      refine E.skip ?_
      refine E.seq ?_
      refine E.block ?_
      refine E.seq ?_
      refine E.reg hr (by simp [hltc, hltI, hc]; rfl) ?_
      refine E.reg hr (by simp [hltJ, h7, hd, q1, bin_quo (show (15 : Int) ≠ 0 by decide), q2, q3, hsm, ht, hlen]; rfl) ?_
      refine E.reg hr (by simp [hw]; rfl) ?_
      exact ⟨i + 2, Leads.ren [11, 12, 15] rfl rfl rfl ⟨rfl, rfl⟩ (by simp [S116]) (by simp [S116, hts]), by omega, by dsimp only; omega⟩
    · simp at h
      have hal : tk (arrG F l) l (i + 1) = l.map (arrG F l) := tk_all _ (by omega)
      have hll : l.length = i + 1 := by omega
      refine E.exit ?_
      refine E.seq ?_
      refine E.reg hr (by simp; rfl) ?_
      refine E.ret ?_
      refine outK.ret rfl rfl ?_
      exact ⟨13, by simp [hll], by simp [hal], by omega⟩
def fOf (s : ByteArray) : Nat := if s = dOf 229 then 229 else if s = dOf 230 then 230 else if s = dOf 231 then 231 else if s = dOf 232 then 232 else 233
theorem fOf_ok {s : ByteArray} (h : hasW s dirs = true) : isDir (fOf s) = true ∧ dOf (fOf s) = s := by
  have := hasW_iff.1 h
  simp only [dirs, List.mem_cons, List.not_mem_nil, or_false] at this
  rcases this with rfl | rfl | rfl | rfl | rfl <;> exact ⟨by kernel_rfl, by kernel_rfl⟩
theorem gun_nums {l : List Gun} (h : strE l = 0) : ∀ g ∈ l, (1 ≤ g.v ∧ g.v ≤ 64) ∧ (-1000 ≤ g.x ∧ g.x ≤ 1000) ∧ (-1000 ≤ g.y ∧ g.y ≤ 1000) ∧ (0 ≤ g.d ∧ g.d ≤ 16) ∧ (0 ≤ g.lo ∧ g.lo ≤ 4) ∧ (0 ≤ g.hi ∧ g.hi ≤ 4) := by
  intro g hg
  obtain ⟨i, hi, rfl⟩ := List.getElem_of_mem hg
  have hl := strE_len h
  unfold strE at h
  rw [if_neg (by omega), if_neg (by omega)] at h
  have hc := (firstV_zero _).1 h (gunChk l i) (List.mem_map.2 ⟨i, by simpa using hi, rfl⟩)
  rw [gunChk_at hi] at hc
  have h2 := (firstV_zero _).1 hc l[i].err (by simp)
  unfold Gun.err at h2
  exact ⟨(withinV_zero _ _ _).1 ((firstV_zero _).1 h2 (withinV l[i].v 1 64) (by simp)), (withinV_zero _ _ _).1 ((firstV_zero _).1 h2 (withinV l[i].x (-1000) 1000) (by simp)), (withinV_zero _ _ _).1 ((firstV_zero _).1 h2 (withinV l[i].y (-1000) 1000) (by simp)), (withinV_zero _ _ _).1 ((firstV_zero _).1 h2 (withinV l[i].d 0 16) (by simp)), (withinV_zero _ _ _).1 ((firstV_zero _).1 h2 (withinV l[i].lo 0 4) (by simp)), (withinV_zero _ _ _).1 ((firstV_zero _).1 h2 (withinV l[i].hi 0 4) (by simp))⟩
theorem strE_inB {l : List Gun} (h : strE l = 0) : inB l := fun g hg => by
  obtain ⟨_, h1, h2, h3, _⟩ := gun_nums h g hg
  exact ⟨h1.1, h1.2, h2.1, h2.2, h3.1, h3.2⟩
def arrL (s : ByteArray) (l : List Gun) : List Int := l.map (arrG (fOf s) l)
def g116 (args : List Value) (H : Heap) (n : Nat) : R := match args with
  | [.agg ⟨[.slice (some ⟨b, 0, some 0⟩) len 0]⟩, .string s] => match rowGuns H b len with
    | some l => if strE l = 0 ∧ hasW s dirs = true then some (.slice (some ⟨n, 0, some 0⟩) (arrL s l).length 0, (n, .ext ((arrL s l).map iv) 3 1) :: H, n + 1) else none
    | none => none
  | _ => none
theorem ok116 : EntOk Tryz.prog (116, g116) := by
  intro args H n v H' n' h'
  simp only [g116] at h'
  split at h'
  · split at h'
    · rename_i l hg
      split at h'
      · rename_i hh
        obtain ⟨hs, hd⟩ := hh
        injection h' with h'; injection h' with e1 e2; injection e2 with e2 e3; subst e1 e2 e3
        obtain ⟨hb, rfl, _⟩ := rowGuns_ok hg
        obtain ⟨hF, hdo⟩ := fOf_ok hd
        obtain ⟨h1, h8⟩ := strE_len hs
        refine AC.liftF (names_sx _ _) (.inr ⟨_, _, _, rfl, afL_iv _⟩) (Part.row (fun x => [.agg ⟨[x]⟩, sv _]) (by intro φ φ0 s s0 h; simp [denL, den, h]) (by intro p s h; exact ⟨⟨h, trivial⟩, trivial, trivial⟩) hb (afL_gcs l) gsz ?_)
        obtain ⟨u, H1, n1, H2, hAC, ⟨m, hu, hm, hle⟩, hh⟩ := w116 _ hF l h1 h8 (strE_inB hs)
        rw [hdo] at hAC
        subst hu
        have := hh (by simp)
        subst this
        exact ⟨m, _, _, by omega, hm, hAC⟩
      · cases h'
    · cases h'
  · cases h'
end Go.Proofs.YtndlfijfjglkdaaGreatDoor

namespace Go.Proofs.YtndlfijfjglkdaaGreatDoor
open Go Go.Ab Go.Proofs
/-- a function of one string of the program's own -/
def gStrR (F : List Gun → Value) (args : List Value) (H : Heap) (n : Nat) : R := match args with
  | [.agg ⟨[.slice (some ⟨b, 0, some 0⟩) len 0]⟩] => (rowGuns H b len).map fun l => (F l, H, n)
  | [.agg ⟨[.slice none 0 0]⟩] => some (F [], H, n)
  | _ => none
theorem okStrR {f : FuncId} {F : List Gun → Value} (hF : ∀ l, af (F l) = true) (hnil : AC Tryz.prog f [nilV] [] 10 (F []) [] 10)
    (h : ∀ l, l.length < 2 ^ 63 → AC Tryz.prog f [rowV l.length] [(10, .row (gcs l) 7)] 11 (F l) [(10, .row (gcs l) 7)] 11) : EntOk Tryz.prog (f, gStrR F) := by
  intro args H n v H' n' h'
  simp only [gStrR] at h'
  split at h'
  · rw [Option.map_eq_some_iff] at h'
    obtain ⟨l, h1, h2⟩ := h'
    injection h2 with e1 e2; injection e2 with e2 e3; subst e1 e2 e3
    obtain ⟨hb, rfl, hlt⟩ := rowGuns_ok h1
    exact AC.liftP (hF _) (Part.row (fun x => [.agg ⟨[x]⟩]) (by intro φ φ0 s s0 h; simp [denL, den, h]) (by intro p s h; exact ⟨⟨h, trivial⟩, trivial⟩) hb (afL_gcs l) gsz ⟨_, _, h l hlt⟩)
  · injection h' with h'; injection h' with e1 e2; injection e2 with e2 e3; subst e1 e2 e3
    exact AC.liftP (hF _) (Part.plain (by simp) [] (by simp [Seen]) gsz ⟨_, _, hnil⟩)
  · cases h'
def volR (l : List Gun) : Value := .tuple #[iv (if strE l = 0 then volW l else 0), iv (strE l)]
theorem w20n : AC Tryz.prog 20 [nilV] [] 10 (volR []) [] 10 := by
  have hr := recT_ok (P := Tryz.prog) (l := [(31, g31)]) (by simp only [List.forall_mem_cons]; exact ⟨ok31, by simp⟩)
  refine AC.pure Tryz.func20 rfl (by kernel_rfl) rfl [] rfl ?_
  refine E.seq ?_
  refine E.reg hr (by simp; rfl) ?_
  refine E.seq ?_
  refine E.seq ?_
  refine E.reg hr (by simp [g31, strE]; rfl) ?_
  refine E.seq ?_
  refine E.reg hr (by simp; rfl) ?_
  refine E.cond (by rfl) (fun h => ?_) (fun h => ?_)
  rotate_left
  · simp at h
  refine E.seq ?_
  refine E.reg hr (by simp; rfl) ?_
  refine E.ret ?_
  exact pureK.ret rfl rfl (by simp [volR, strE]) (by repeat first | exact sub_refl _ | refine sub_cons rfl ?_)
theorem w20 (l : List Gun) (hl : l.length < 2 ^ 63) : AC Tryz.prog 20 [rowV l.length] [(10, .row (gcs l) 7)] 11 (volR l) [(10, .row (gcs l) 7)] 11 := by
  have hr := recT_ok (P := Tryz.prog) (l := [(31, g31), (111, g111)]) (by simp only [List.forall_mem_cons]; exact ⟨ok31, ok111, by simp⟩)
  have hgat : ∀ G : Heap, hget G 10 = some (.row (gcs l) 7) → gunsAt G ⟨10, 0, some 0⟩ l.length = some l := fun G hG => by
    unfold gunsAt
    simp [hG, List.take_of_length_le, gunsOf_gcs, show l.length < 9223372036854775808 by omega]
  refine AC.pure Tryz.func20 rfl (by kernel_rfl) rfl [] rfl ?_
  refine E.seq ?_
  refine E.reg hr (by simp; rfl) ?_
  refine E.seq ?_
  refine E.seq ?_
  refine E.reg hr (by simp [g31, rowOf, gunsOf_gcs, hl]; rfl) ?_
  refine E.seq ?_
  refine E.reg hr (by simp; rfl) ?_
  refine E.cond (by rfl) (fun h => ?_) (fun h => ?_)
  · simp at h
    refine E.seq ?_
    refine E.reg hr (by simp; rfl) ?_
    refine E.ret ?_
    exact pureK.ret rfl rfl (by simp [volR, h]) (by repeat first | exact sub_refl _ | refine sub_cons rfl ?_)
  · simp at h
    refine E.skip ?_
    refine E.seq ?_
    refine E.reg hr (by simp [g111, hgat]; rfl) ?_
    refine E.ret ?_
    exact pureK.ret rfl rfl (by simp [volR, h]) (by repeat first | exact sub_refl _ | refine sub_cons rfl ?_)
theorem ok20 : EntOk Tryz.prog (20, gStrR volR) := okStrR (fun _ => rfl) w20n w20
def arrE (l : List Gun) (k : Int) (s : ByteArray) : Int := firstV [strE l, whenV (decide (k < 0) || decide ((l.length : Int) ≤ k)) 10, dirE s]
def arrR (l : List Gun) (k : Int) (s : ByteArray) : Value := .tuple #[iv (if arrE l k s = 0 then (arrL s l).getD k.toNat 0 else 0), iv (arrE l k s)]
theorem dirE_zero {s : ByteArray} (h : dirE s = 0) : hasW s dirs = true := by
  unfold dirE at h
  split at h
  · assumption
  · cases h
theorem arrE_zero {l : List Gun} {k : Int} {s : ByteArray} (h : arrE l k s = 0) : strE l = 0 ∧ 0 ≤ k ∧ k < l.length ∧ hasW s dirs = true := by
  have hz := (firstV_zero _).1 h
  have h1 := hz (strE l) (by simp)
  have h2 := hz (whenV (decide (k < 0) || decide ((l.length : Int) ≤ k)) 10) (by simp)
  have h3 := hz (dirE s) (by simp)
  unfold whenV at h2
  split at h2
  · cases h2
  · rename_i hc
    simp at hc
    exact ⟨h1, by omega, by omega, dirE_zero h3⟩
abbrev H23 (l : List Gun) : Heap := [(10, .row (gcs l) 7), (0, .inp 0 names0)]
def C23 (l : List Gun) (k : Int) (s : ByteArray) : St := { fr := [(1, iv k), (2, sv s), (3, .pointer (some ⟨11, 0, none⟩)), (8, iv (arrE l k s))], sz := 34, H := (11, .cells [.slice (some ⟨10, 0, some 0⟩) l.length 0] 32) :: H23 l, n := 13, marks := [], vs := [] }
theorem w23 (l : List Gun) (k : Int) (s : ByteArray) (hl : l.length < 2 ^ 63) : AC Tryz.prog 23 [rowV l.length, iv k, sv s] (H23 l) 11 (arrR l k s) (H23 l) 11 := by
  have hr := recT_ok (P := Tryz.prog) (l := [(31, g31), (114, g114), (115, g115), (113, g113), (116, g116)]) (by simp only [List.forall_mem_cons]; exact ⟨ok31, ok114, ok115, ok113, ok116, by simp⟩)
  have hrow : ∀ G : Heap, hget G 10 = some (.row (gcs l) 7) → rowGuns G 10 l.length = some l := fun G hG => by
    unfold rowGuns rowOf
    rw [hG]
    simp [gunsOf_gcs, show l.length < 9223372036854775808 by omega]
  refine AC.pure Tryz.func23 rfl (by kernel_rfl) rfl [] rfl ?_
  refine E.seq ?_
  refine E.reg hr (by simp; rfl) ?_
  refine E.seq ?_
  refine E.cut (C23 l k s) ?_ ?_
  · by_cases h0 : k < 0
    · refine E.reg hr (by simp [g31, rowOf, gunsOf_gcs, hl, h0, g114, g115, g113, intsAt, intsOf, undefV]; rfl) ?_
      exact Leads.less rfl rfl rfl (by simp [C23, arrE, h0]) (by simp [C23])
    · by_cases h1 : (l.length : Int) ≤ k
      · refine E.reg hr (by simp [g31, rowOf, gunsOf_gcs, hl, h0, h1, g114, g115, g113, intsAt, intsOf]; rfl) ?_
        exact Leads.less rfl rfl rfl (by simp [C23, arrE, h0, h1]) (by simp [C23])
      · refine E.reg hr (by simp [g31, rowOf, gunsOf_gcs, hl, h0, h1, g114, g115, g113, intsAt, intsOf]; rfl) ?_
        exact Leads.less rfl rfl rfl (by simp [C23, arrE, h0, h1]) (by simp [C23])
  refine E.seq ?_
  refine E.reg hr (by simp [C23]; rfl) ?_
  refine E.cond (by rfl) (fun h => ?_) (fun h => ?_)
  · simp at h
    refine E.seq ?_
    refine E.reg hr (by simp; rfl) ?_
    refine E.ret ?_
    exact pureK.ret rfl rfl (by simp [arrR, h]) (by repeat first | exact sub_refl _ | refine sub_cons rfl ?_)
  · simp at h
    obtain ⟨hst, hk0, hkl, hd⟩ := arrE_zero h
    obtain ⟨j, rfl⟩ := Int.eq_ofNat_of_zero_le hk0
    have hlen : (arrL s l).length = l.length := by simp [arrL]
    have hj : j < (arrL s l).length := by omega
    have hjI : (j : Int) < (arrL s l).length := by omega
    refine E.skip ?_
    refine E.seq ?_
    refine E.reg hr (by simp [g116, hrow, hst, hd, hj, hjI]; rfl) ?_
    refine E.ret ?_
    exact pureK.ret rfl rfl (by simp [arrR, h, hj]) (by repeat first | exact sub_refl _ | refine sub_cons rfl ?_)
theorem w23n (k : Int) (s : ByteArray) : AC Tryz.prog 23 [nilV, iv k, sv s] [(0, .inp 0 names0)] 10 (arrR [] k s) [(0, .inp 0 names0)] 10 := by
  have hr := recT_ok (P := Tryz.prog) (l := [(31, g31), (114, g114), (115, g115), (113, g113)]) (by simp only [List.forall_mem_cons]; exact ⟨ok31, ok114, ok115, ok113, by simp⟩)
  have hE : ∀ x y, firstV [12, x, y] = 12 := fun x y => by simp [firstV]
  have hS : strE [] = 12 := by simp [strE]
  refine AC.pure Tryz.func23 rfl (by kernel_rfl) rfl [] rfl ?_
  refine E.seq ?_
  refine E.reg hr (by simp; rfl) ?_
  refine E.seq ?_
  refine E.cut { fr := [(8, iv 12)], sz := 34, H := [(0, .inp 0 names0)], n := 12, marks := [], vs := [] } ?_ ?_
  · by_cases h0 : k < 0
    · refine E.reg hr (by simp [g31, h0, g114, g115, g113, intsAt, intsOf, undefV, hE, hS]; rfl) ?_
      exact Leads.less rfl rfl rfl (by simp) (by simp)
    · have h1 : 0 ≤ k := by omega
      refine E.reg hr (by simp [g31, h0, h1, g114, g115, g113, intsAt, intsOf, hE, hS]; rfl) ?_
      exact Leads.less rfl rfl rfl (by simp) (by simp)
  refine E.seq ?_
  refine E.reg hr (by simp; rfl) ?_
  refine E.cond (by rfl) (fun h => ?_) (fun h => ?_)
  rotate_left
  · simp at h
  refine E.seq ?_
  refine E.reg hr (by simp; rfl) ?_
  refine E.ret ?_
  exact pureK.ret rfl rfl (by simp [arrR, arrE, hS, hE]) (by repeat first | exact sub_refl _ | refine sub_cons rfl ?_)
open Classical in
noncomputable def g23 (args : List Value) (H : Heap) (n : Nat) : R := match args with
  | [.agg ⟨[.slice (some ⟨b, 0, some 0⟩) len 0]⟩, .int .i64 k, .string s] => if hget H 0 = some (.inp 0 names0) then (rowGuns H b len).map fun l => (arrR l k s, H, n) else none
  | [.agg ⟨[.slice none 0 0]⟩, .int .i64 k, .string s] => if hget H 0 = some (.inp 0 names0) then some (arrR [] k s, H, n) else none
  | _ => none
theorem seen0 {H : Heap} (h0 : hget H 0 = some (.inp 0 names0)) : Seen Tryz.prog H [(0, .inp 0 names0)] := by
  intro x hx
  rw [gsz]
  simp at hx
  subst hx
  exact ⟨by simp, h0, rfl, scL_af _ _ af_names0⟩
theorem ok23 : EntOk Tryz.prog (23, g23) := by
  intro args H n v H' n' h'
  simp only [g23] at h'
  split at h'
  · split at h'
    · rename_i b len k s h0
      rw [Option.map_eq_some_iff] at h'
      obtain ⟨l, h1, h2⟩ := h'
      injection h2 with e1 e2; injection e2 with e2 e3; subst e1 e2 e3
      obtain ⟨hb, rfl, hlt⟩ := rowGuns_ok h1
      refine AC.liftP rfl (Part.genG [⟨b, .row (gcs l) 7⟩] [(0, .inp 0 names0)] (seen0 h0) gsz (fun u hu => by rw [List.mem_singleton] at hu; subst hu; exact ⟨hb, afL_gcs l⟩) fun φ => ⟨[rowV l.length, iv k, sv s], fun φ0 hv => ?_, ?_, ⟨_, _, w23 l k s hlt⟩⟩)
      · have h0 := hv 0 _ rfl
        simp only [Nat.add_zero] at h0
        simp [denL, den, h0]
      · simp [scL, sc]
    · cases h'
  · split at h'
    · rename_i k s h0
      injection h' with h'; injection h' with e1 e2; injection e2 with e2 e3; subst e1 e2 e3
      exact AC.liftP rfl (Part.plain (by simp) [(0, .inp 0 names0)] (seen0 h0) gsz ⟨_, _, w23n k s⟩)
    · cases h'
  · cases h'
def difF (F : Nat) (l : List Gun) (k i : Nat) : Int := match l[k]?, l[i]? with
  | some a, some b => if F = 230 then b.x - a.x else if F = 231 then a.x - b.x else if F = 232 then b.y - a.y else if F = 233 then a.y - b.y else 0
  | _, _ => 0
def farF (F : Nat) (l : List Gun) (k : Nat) : Nat → Int
  | 0 => 0
  | i + 1 => max (farF F l k i) (difF F l k i)
theorem far_bound {F : Nat} {l : List Gun} (hb : inB l) (k : Nat) : ∀ i, 0 ≤ farF F l k i ∧ farF F l k i ≤ 2000
  | 0 => by simp [farF]
  | i + 1 => by
    have ih := far_bound (F := F) hb k i
    have : difF F l k i ≤ 2000 := by
      unfold difF
      split
      · rename_i a b h1 h2
        have ha := hb a (List.mem_of_getElem? h1)
        have hb := hb b (List.mem_of_getElem? h2)
        split
        · omega
        split
        · omega
        split
        · omega
        split
        · omega
        · omega
      · omega
    unfold farF
    omega
def lagV (F : Nat) (l : List Gun) (k : Nat) : Int := (farF F l k l.length).tdiv 15
theorem gcs_at2 {l : List Gun} {i : Nat} (h : i < l.length) : ((gcs l).drop (i * 7 + 2)).take 2 = [iv l[i].x, iv l[i].y] := by
  have := gcs_at h
  rw [← List.drop_drop, this]
  simp [Gun.cells]
abbrev H120 (l : List Gun) (o c : Nat) (a : Gun) : Heap := [(12, .cells [iv a.x, iv a.y] 90), (11, .cells [.slice (some ⟨10, o, none⟩) l.length c] 24), (10, .inp o (gcs l))]
set_option maxRecDepth 100000 in
theorem w120 (F : Nat) (hF : isDir F = true) (l : List Gun) (o c k : Nat) (hk : k < l.length) (hl : l.length ≤ 8) (hb : inB l) : AC Tryz.prog 120 [strV o l.length c, iv k, sv (dOf F)] [(10, .inp o (gcs l))] 11 (iv (lagV F l k)) [(10, .inp o (gcs l))] 11 := by
  have hr := recT_ok (P := Tryz.prog) (l := []) (by simp)
  have hkI : (k : Int) < l.length := by omega
  have hk7 : k * 7 + 2 + 2 ≤ l.length * 7 := by omega
  have hga := gcs_at2 hk
  have hoc : o ≤ o + k * 7 + 2 := by omega
  have hod : o + k * 7 + 2 - o = k * 7 + 2 := by omega
  rcases isDir_cases hF with rfl | rfl | rfl | rfl | rfl
  · refine AC.pure Tryz.func120 rfl (by kernel_rfl) rfl [2, 3, 7, 8, 9] rfl ?_
    refine E.seq ?_
    refine E.reg hr (by simp; rfl) ?_
    refine E.seq ?_
    refine E.reg hr (by simp [hkI, hk7, hga, hoc, hod]; rfl) ?_
    refine E.seq ?_
    refine E.reg hr (by simp; rfl) ?_
    refine E.seq ?_
    refine E.seq ?_
    refine E.reg hr (by simp; rfl) ?_
    refine E.block ?_
    refine E.loop ?_
    refine EL.ind (fun i : Nat => { fr := [(2, sv (dOf 229)), (3, .pointer (some ⟨11, 0, none⟩)), (7, .pointer (some ⟨12, 0, none⟩)), (8, iv (farF 229 l k i)), (9, iv i)], sz := 68, H := H120 l o c l[k], n := 13, marks := [], vs := [2, 3, 7, 8, 9] }) (fun i => l.length - i) (fun i => i ≤ l.length) 0 (.less rfl rfl rfl (by simp [farF]) (by simp)) (Nat.zero_le _) (fun _ => rfl) ?_
    intro i hi
    refine E.seq ?_
    refine E.seq ?_
    refine E.reg hr (by simp; rfl) ?_
    refine E.cond (by rfl) (fun h => ?_) (fun h => ?_)
    · simp at h
      have hw : IntKind.i64.wrap ((i : Int) + 1) = (i : Int) + 1 := W_in (by omega) (by omega)
      have hiI : (i : Int) < l.length := by omega
      have hi7 : i * 7 + 2 + 2 ≤ l.length * 7 := by omega
      have hgi := gcs_at2 h
      have hic : o ≤ o + i * 7 + 2 := by omega
      have hid : o + i * 7 + 2 - o = i * 7 + 2 := by omega
      have b1 := hb l[k] (List.getElem_mem hk)
      have b2 := hb l[i] (List.getElem_mem h)
      have hnx : farF 229 l k (i + 1) = max (farF 229 l k i) (difF 229 l k i) := rfl
      have hdif : difF 229 l k i = 0 := by simp [difF, hk, h]
      have hmx : max (farF 229 l k i) 0 = farF 229 l k i := by have := (far_bound (F := 229) hb k i).1; omega
      refine E.skip ?_
      refine E.seq ?_
      refine E.block ?_
      refine E.seq ?_
      refine E.reg hr (by simp [h, hiI, hi7, hgi, hic, hid]; rfl) ?_
      refine E.seq ?_
      refine E.seq ?_
      refine E.reg hr (by simp [dOf]; rfl) ?_
      refine E.cond (by rfl) (fun h2 => ?_) (fun h2 => ?_)
      · simp at h2
      refine E.skip ?_
      refine E.seq ?_
      refine E.seq ?_
      refine E.reg hr (by simp; rfl) ?_
      refine E.cond (by rfl) (fun h2 => ?_) (fun h2 => ?_)
      · simp at h2
      refine E.skip ?_
      refine E.seq ?_
      refine E.seq ?_
      refine E.reg hr (by simp; rfl) ?_
      refine E.cond (by rfl) (fun h2 => ?_) (fun h2 => ?_)
      · simp at h2
      refine E.skip ?_
      refine E.seq ?_
      refine E.reg hr (by simp; rfl) ?_
      refine E.cond (by rfl) (fun h2 => ?_) (fun h2 => ?_)
      · simp at h2
      refine E.skip ?_
      refine E.reg hr (by simp [hw]; rfl) ?_
      exact ⟨i + 1, Leads.ren [11, 12] rfl rfl rfl ⟨rfl, rfl⟩ (by simp [dOf, hnx, hdif, hmx]) (by simp), h, by dsimp only; omega⟩
    · simp at h
      obtain rfl : i = l.length := by omega
      have fb := far_bound (F := 229) hb k l.length
      have hq : IntKind.i64.wrap ((farF 229 l k l.length).tdiv 15) = lagV 229 l k := by
        have h6 : ((farF 229 l k l.length).tdiv 15).natAbs ≤ (farF 229 l k l.length).natAbs := by rw [Int.natAbs_tdiv]; exact Nat.div_le_self _ _
        exact W_in (by omega) (by omega)
      refine E.exit ?_
      refine E.seq ?_
      refine E.reg hr (by simp [bin_quo (show (15 : Int) ≠ 0 by decide), hq]; rfl) ?_
      refine E.ret ?_
      exact pureK.ret rfl rfl (by simp) (by repeat first | exact sub_refl _ | refine sub_cons rfl ?_)
  · refine AC.pure Tryz.func120 rfl (by kernel_rfl) rfl [2, 3, 7, 8, 9] rfl ?_
    refine E.seq ?_
    refine E.reg hr (by simp; rfl) ?_
    refine E.seq ?_
    refine E.reg hr (by simp [hkI, hk7, hga, hoc, hod]; rfl) ?_
    refine E.seq ?_
    refine E.reg hr (by simp; rfl) ?_
    refine E.seq ?_
    refine E.seq ?_
    refine E.reg hr (by simp; rfl) ?_
    refine E.block ?_
    refine E.loop ?_
    refine EL.ind (fun i : Nat => { fr := [(2, sv (dOf 230)), (3, .pointer (some ⟨11, 0, none⟩)), (7, .pointer (some ⟨12, 0, none⟩)), (8, iv (farF 230 l k i)), (9, iv i)], sz := 68, H := H120 l o c l[k], n := 13, marks := [], vs := [2, 3, 7, 8, 9] }) (fun i => l.length - i) (fun i => i ≤ l.length) 0 (.less rfl rfl rfl (by simp [farF]) (by simp)) (Nat.zero_le _) (fun _ => rfl) ?_
    intro i hi
    refine E.seq ?_
    refine E.seq ?_
    refine E.reg hr (by simp; rfl) ?_
    refine E.cond (by rfl) (fun h => ?_) (fun h => ?_)
    · simp at h
      have hw : IntKind.i64.wrap ((i : Int) + 1) = (i : Int) + 1 := W_in (by omega) (by omega)
      have hiI : (i : Int) < l.length := by omega
      have hi7 : i * 7 + 2 + 2 ≤ l.length * 7 := by omega
      have hgi := gcs_at2 h
      have hic : o ≤ o + i * 7 + 2 := by omega
      have hid : o + i * 7 + 2 - o = i * 7 + 2 := by omega
      have b1 := hb l[k] (List.getElem_mem hk)
      have b2 := hb l[i] (List.getElem_mem h)
      have hnx : farF 230 l k (i + 1) = max (farF 230 l k i) (difF 230 l k i) := rfl
      have hdif : difF 230 l k i = l[i].x - l[k].x := by simp [difF, hk, h]
      have hdw : IntKind.i64.wrap (l[i].x - l[k].x) = l[i].x - l[k].x := W_in (by omega) (by omega)
      refine E.skip ?_
      refine E.seq ?_
      refine E.block ?_
      refine E.seq ?_
      refine E.reg hr (by simp [h, hiI, hi7, hgi, hic, hid]; rfl) ?_
      refine E.seq ?_
      refine E.seq ?_
      refine E.reg hr (by simp [dOf]; rfl) ?_
      refine E.cond (by rfl) (fun h2 => ?_) (fun h2 => ?_)
      rotate_left
      · simp at h2
      refine E.reg hr (by simp [max33', hdw]; rfl) ?_
      refine E.seq ?_
      refine E.seq ?_
      refine E.reg hr (by simp; rfl) ?_
      refine E.cond (by rfl) (fun h2 => ?_) (fun h2 => ?_)
      · simp at h2
      refine E.skip ?_
      refine E.seq ?_
      refine E.seq ?_
      refine E.reg hr (by simp; rfl) ?_
      refine E.cond (by rfl) (fun h2 => ?_) (fun h2 => ?_)
      · simp at h2
      refine E.skip ?_
      refine E.seq ?_
      refine E.reg hr (by simp; rfl) ?_
      refine E.cond (by rfl) (fun h2 => ?_) (fun h2 => ?_)
      · simp at h2
      refine E.skip ?_
      refine E.reg hr (by simp [hw]; rfl) ?_
      exact ⟨i + 1, Leads.ren [11, 12] rfl rfl rfl ⟨rfl, rfl⟩ (by simp [dOf, hnx, hdif]) (by simp), h, by dsimp only; omega⟩
    · simp at h
      obtain rfl : i = l.length := by omega
      have fb := far_bound (F := 230) hb k l.length
      have hq : IntKind.i64.wrap ((farF 230 l k l.length).tdiv 15) = lagV 230 l k := by
        have h6 : ((farF 230 l k l.length).tdiv 15).natAbs ≤ (farF 230 l k l.length).natAbs := by rw [Int.natAbs_tdiv]; exact Nat.div_le_self _ _
        exact W_in (by omega) (by omega)
      refine E.exit ?_
      refine E.seq ?_
      refine E.reg hr (by simp [bin_quo (show (15 : Int) ≠ 0 by decide), hq]; rfl) ?_
      refine E.ret ?_
      exact pureK.ret rfl rfl (by simp) (by repeat first | exact sub_refl _ | refine sub_cons rfl ?_)
  · refine AC.pure Tryz.func120 rfl (by kernel_rfl) rfl [2, 3, 7, 8, 9] rfl ?_
    refine E.seq ?_
    refine E.reg hr (by simp; rfl) ?_
    refine E.seq ?_
    refine E.reg hr (by simp [hkI, hk7, hga, hoc, hod]; rfl) ?_
    refine E.seq ?_
    refine E.reg hr (by simp; rfl) ?_
    refine E.seq ?_
    refine E.seq ?_
    refine E.reg hr (by simp; rfl) ?_
    refine E.block ?_
    refine E.loop ?_
    refine EL.ind (fun i : Nat => { fr := [(2, sv (dOf 231)), (3, .pointer (some ⟨11, 0, none⟩)), (7, .pointer (some ⟨12, 0, none⟩)), (8, iv (farF 231 l k i)), (9, iv i)], sz := 68, H := H120 l o c l[k], n := 13, marks := [], vs := [2, 3, 7, 8, 9] }) (fun i => l.length - i) (fun i => i ≤ l.length) 0 (.less rfl rfl rfl (by simp [farF]) (by simp)) (Nat.zero_le _) (fun _ => rfl) ?_
    intro i hi
    refine E.seq ?_
    refine E.seq ?_
    refine E.reg hr (by simp; rfl) ?_
    refine E.cond (by rfl) (fun h => ?_) (fun h => ?_)
    · simp at h
      have hw : IntKind.i64.wrap ((i : Int) + 1) = (i : Int) + 1 := W_in (by omega) (by omega)
      have hiI : (i : Int) < l.length := by omega
      have hi7 : i * 7 + 2 + 2 ≤ l.length * 7 := by omega
      have hgi := gcs_at2 h
      have hic : o ≤ o + i * 7 + 2 := by omega
      have hid : o + i * 7 + 2 - o = i * 7 + 2 := by omega
      have b1 := hb l[k] (List.getElem_mem hk)
      have b2 := hb l[i] (List.getElem_mem h)
      have hnx : farF 231 l k (i + 1) = max (farF 231 l k i) (difF 231 l k i) := rfl
      have hdif : difF 231 l k i = l[k].x - l[i].x := by simp [difF, hk, h]
      have hdw : IntKind.i64.wrap (l[k].x - l[i].x) = l[k].x - l[i].x := W_in (by omega) (by omega)
      refine E.skip ?_
      refine E.seq ?_
      refine E.block ?_
      refine E.seq ?_
      refine E.reg hr (by simp [h, hiI, hi7, hgi, hic, hid]; rfl) ?_
      refine E.seq ?_
      refine E.seq ?_
      refine E.reg hr (by simp [dOf]; rfl) ?_
      refine E.cond (by rfl) (fun h2 => ?_) (fun h2 => ?_)
      · simp at h2
      refine E.skip ?_
      refine E.seq ?_
      refine E.seq ?_
      refine E.reg hr (by simp; rfl) ?_
      refine E.cond (by rfl) (fun h2 => ?_) (fun h2 => ?_)
      rotate_left
      · simp at h2
      refine E.reg hr (by simp [max33', hdw]; rfl) ?_
      refine E.seq ?_
      refine E.seq ?_
      refine E.reg hr (by simp; rfl) ?_
      refine E.cond (by rfl) (fun h2 => ?_) (fun h2 => ?_)
      · simp at h2
      refine E.skip ?_
      refine E.seq ?_
      refine E.reg hr (by simp; rfl) ?_
      refine E.cond (by rfl) (fun h2 => ?_) (fun h2 => ?_)
      · simp at h2
      refine E.skip ?_
      refine E.reg hr (by simp [hw]; rfl) ?_
      exact ⟨i + 1, Leads.ren [11, 12] rfl rfl rfl ⟨rfl, rfl⟩ (by simp [dOf, hnx, hdif]) (by simp), h, by dsimp only; omega⟩
    · simp at h
      obtain rfl : i = l.length := by omega
      have fb := far_bound (F := 231) hb k l.length
      have hq : IntKind.i64.wrap ((farF 231 l k l.length).tdiv 15) = lagV 231 l k := by
        have h6 : ((farF 231 l k l.length).tdiv 15).natAbs ≤ (farF 231 l k l.length).natAbs := by rw [Int.natAbs_tdiv]; exact Nat.div_le_self _ _
        exact W_in (by omega) (by omega)
      refine E.exit ?_
      refine E.seq ?_
      refine E.reg hr (by simp [bin_quo (show (15 : Int) ≠ 0 by decide), hq]; rfl) ?_
      refine E.ret ?_
      exact pureK.ret rfl rfl (by simp) (by repeat first | exact sub_refl _ | refine sub_cons rfl ?_)
  · refine AC.pure Tryz.func120 rfl (by kernel_rfl) rfl [2, 3, 7, 8, 9] rfl ?_
    refine E.seq ?_
    refine E.reg hr (by simp; rfl) ?_
    refine E.seq ?_
    refine E.reg hr (by simp [hkI, hk7, hga, hoc, hod]; rfl) ?_
    refine E.seq ?_
    refine E.reg hr (by simp; rfl) ?_
    refine E.seq ?_
    refine E.seq ?_
    refine E.reg hr (by simp; rfl) ?_
    refine E.block ?_
    refine E.loop ?_
    refine EL.ind (fun i : Nat => { fr := [(2, sv (dOf 232)), (3, .pointer (some ⟨11, 0, none⟩)), (7, .pointer (some ⟨12, 0, none⟩)), (8, iv (farF 232 l k i)), (9, iv i)], sz := 68, H := H120 l o c l[k], n := 13, marks := [], vs := [2, 3, 7, 8, 9] }) (fun i => l.length - i) (fun i => i ≤ l.length) 0 (.less rfl rfl rfl (by simp [farF]) (by simp)) (Nat.zero_le _) (fun _ => rfl) ?_
    intro i hi
    refine E.seq ?_
    refine E.seq ?_
    refine E.reg hr (by simp; rfl) ?_
    refine E.cond (by rfl) (fun h => ?_) (fun h => ?_)
    · simp at h
      have hw : IntKind.i64.wrap ((i : Int) + 1) = (i : Int) + 1 := W_in (by omega) (by omega)
      have hiI : (i : Int) < l.length := by omega
      have hi7 : i * 7 + 2 + 2 ≤ l.length * 7 := by omega
      have hgi := gcs_at2 h
      have hic : o ≤ o + i * 7 + 2 := by omega
      have hid : o + i * 7 + 2 - o = i * 7 + 2 := by omega
      have b1 := hb l[k] (List.getElem_mem hk)
      have b2 := hb l[i] (List.getElem_mem h)
      have hnx : farF 232 l k (i + 1) = max (farF 232 l k i) (difF 232 l k i) := rfl
      have hdif : difF 232 l k i = l[i].y - l[k].y := by simp [difF, hk, h]
      have hdw : IntKind.i64.wrap (l[i].y - l[k].y) = l[i].y - l[k].y := W_in (by omega) (by omega)
      refine E.skip ?_
      refine E.seq ?_
      refine E.block ?_
      refine E.seq ?_
      refine E.reg hr (by simp [h, hiI, hi7, hgi, hic, hid]; rfl) ?_
      refine E.seq ?_
      refine E.seq ?_
      refine E.reg hr (by simp [dOf]; rfl) ?_
      refine E.cond (by rfl) (fun h2 => ?_) (fun h2 => ?_)
      · simp at h2
      refine E.skip ?_
      refine E.seq ?_
      refine E.seq ?_
      refine E.reg hr (by simp; rfl) ?_
      refine E.cond (by rfl) (fun h2 => ?_) (fun h2 => ?_)
      · simp at h2
      refine E.skip ?_
      refine E.seq ?_
      refine E.seq ?_
      refine E.reg hr (by simp; rfl) ?_
      refine E.cond (by rfl) (fun h2 => ?_) (fun h2 => ?_)
      rotate_left
      · simp at h2
      refine E.reg hr (by simp [max33', hdw]; rfl) ?_
      refine E.seq ?_
      refine E.reg hr (by simp; rfl) ?_
      refine E.cond (by rfl) (fun h2 => ?_) (fun h2 => ?_)
      · simp at h2
      refine E.skip ?_
      refine E.reg hr (by simp [hw]; rfl) ?_
      exact ⟨i + 1, Leads.ren [11, 12] rfl rfl rfl ⟨rfl, rfl⟩ (by simp [dOf, hnx, hdif]) (by simp), h, by dsimp only; omega⟩
    · simp at h
      obtain rfl : i = l.length := by omega
      have fb := far_bound (F := 232) hb k l.length
      have hq : IntKind.i64.wrap ((farF 232 l k l.length).tdiv 15) = lagV 232 l k := by
        have h6 : ((farF 232 l k l.length).tdiv 15).natAbs ≤ (farF 232 l k l.length).natAbs := by rw [Int.natAbs_tdiv]; exact Nat.div_le_self _ _
        exact W_in (by omega) (by omega)
      refine E.exit ?_
      refine E.seq ?_
      refine E.reg hr (by simp [bin_quo (show (15 : Int) ≠ 0 by decide), hq]; rfl) ?_
      refine E.ret ?_
      exact pureK.ret rfl rfl (by simp) (by repeat first | exact sub_refl _ | refine sub_cons rfl ?_)
  · refine AC.pure Tryz.func120 rfl (by kernel_rfl) rfl [2, 3, 7, 8, 9] rfl ?_
    refine E.seq ?_
    refine E.reg hr (by simp; rfl) ?_
    refine E.seq ?_
    refine E.reg hr (by simp [hkI, hk7, hga, hoc, hod]; rfl) ?_
    refine E.seq ?_
    refine E.reg hr (by simp; rfl) ?_
    refine E.seq ?_
    refine E.seq ?_
    refine E.reg hr (by simp; rfl) ?_
    refine E.block ?_
    refine E.loop ?_
    refine EL.ind (fun i : Nat => { fr := [(2, sv (dOf 233)), (3, .pointer (some ⟨11, 0, none⟩)), (7, .pointer (some ⟨12, 0, none⟩)), (8, iv (farF 233 l k i)), (9, iv i)], sz := 68, H := H120 l o c l[k], n := 13, marks := [], vs := [2, 3, 7, 8, 9] }) (fun i => l.length - i) (fun i => i ≤ l.length) 0 (.less rfl rfl rfl (by simp [farF]) (by simp)) (Nat.zero_le _) (fun _ => rfl) ?_
    intro i hi
    refine E.seq ?_
    refine E.seq ?_
    refine E.reg hr (by simp; rfl) ?_
    refine E.cond (by rfl) (fun h => ?_) (fun h => ?_)
    · simp at h
      have hw : IntKind.i64.wrap ((i : Int) + 1) = (i : Int) + 1 := W_in (by omega) (by omega)
      have hiI : (i : Int) < l.length := by omega
      have hi7 : i * 7 + 2 + 2 ≤ l.length * 7 := by omega
      have hgi := gcs_at2 h
      have hic : o ≤ o + i * 7 + 2 := by omega
      have hid : o + i * 7 + 2 - o = i * 7 + 2 := by omega
      have b1 := hb l[k] (List.getElem_mem hk)
      have b2 := hb l[i] (List.getElem_mem h)
      have hnx : farF 233 l k (i + 1) = max (farF 233 l k i) (difF 233 l k i) := rfl
      have hdif : difF 233 l k i = l[k].y - l[i].y := by simp [difF, hk, h]
      have hdw : IntKind.i64.wrap (l[k].y - l[i].y) = l[k].y - l[i].y := W_in (by omega) (by omega)
      refine E.skip ?_
      refine E.seq ?_
      refine E.block ?_
      refine E.seq ?_
      refine E.reg hr (by simp [h, hiI, hi7, hgi, hic, hid]; rfl) ?_
      refine E.seq ?_
      refine E.seq ?_
      refine E.reg hr (by simp [dOf]; rfl) ?_
      refine E.cond (by rfl) (fun h2 => ?_) (fun h2 => ?_)
      · simp at h2
      refine E.skip ?_
      refine E.seq ?_
      refine E.seq ?_
      refine E.reg hr (by simp; rfl) ?_
      refine E.cond (by rfl) (fun h2 => ?_) (fun h2 => ?_)
      · simp at h2
      refine E.skip ?_
      refine E.seq ?_
      refine E.seq ?_
      refine E.reg hr (by simp; rfl) ?_
      refine E.cond (by rfl) (fun h2 => ?_) (fun h2 => ?_)
      · simp at h2
      refine E.skip ?_
      refine E.seq ?_
      refine E.reg hr (by simp; rfl) ?_
      refine E.cond (by rfl) (fun h2 => ?_) (fun h2 => ?_)
      rotate_left
      · simp at h2
      refine E.reg hr (by simp [max33', hdw]; rfl) ?_
      refine E.reg hr (by simp [hw]; rfl) ?_
      exact ⟨i + 1, Leads.ren [11, 12] rfl rfl rfl ⟨rfl, rfl⟩ (by simp [dOf, hnx, hdif]) (by simp), h, by dsimp only; omega⟩
    · simp at h
      obtain rfl : i = l.length := by omega
      have fb := far_bound (F := 233) hb k l.length
      have hq : IntKind.i64.wrap ((farF 233 l k l.length).tdiv 15) = lagV 233 l k := by
        have h6 : ((farF 233 l k l.length).tdiv 15).natAbs ≤ (farF 233 l k l.length).natAbs := by rw [Int.natAbs_tdiv]; exact Nat.div_le_self _ _
        exact W_in (by omega) (by omega)
      refine E.exit ?_
      refine E.seq ?_
      refine E.reg hr (by simp [bin_quo (show (15 : Int) ≠ 0 by decide), hq]; rfl) ?_
      refine E.ret ?_
      exact pureK.ret rfl rfl (by simp) (by repeat first | exact sub_refl _ | refine sub_cons rfl ?_)
def g120 (args : List Value) (H : Heap) (n : Nat) : R := match args with
  | [v, .int .i64 k, .string s] => match strAt H v with
    | some l => if strE l = 0 ∧ hasW s dirs = true ∧ 0 ≤ k ∧ k < l.length then some (iv (lagV (fOf s) l k.toNat), H, n) else none
    | none => none
  | _ => none
theorem ok120 : EntOk Tryz.prog (120, g120) := by
  intro args H n v H' n' h'
  simp only [g120] at h'
  split at h'
  · split at h'
    · rename_i l h1
      split at h'
      · rename_i hp
        obtain ⟨hst, hd, hk0, hkl⟩ := hp
        obtain ⟨j, rfl⟩ := Int.eq_ofNat_of_zero_le hk0
        obtain ⟨hF, hdo⟩ := fOf_ok hd
        injection h' with h'; injection h' with e1 e2; injection e2 with e2 e3; subst e1 e2 e3
        unfold strAt at h1
        split at h1
        · injection h1 with h1; subst h1; simp at hkl; omega
        · obtain ⟨hf, hc, hlen, hlt⟩ := gunsAt_ok h1
          subst hlen
          have hw := fun oo c => w120 _ hF l oo c j (by omega) (strE_len hst).2 (strE_inB hst)
          simp only [hdo] at hw
          exact AC.liftP rfl (Part.one (fun s' => [.agg ⟨[s']⟩, iv j, sv _]) (by intro φ φ0 s s0 h; simp [denL, den, h]) (by intro p s h; exact ⟨⟨h, trivial⟩, trivial, trivial, trivial⟩) hf hc (afL_gcs l) [] (by simp [Seen]) gsz fun c => ⟨_, _, hw _ c⟩)
        · cases h1
      · cases h'
    · cases h'
  · cases h'
end Go.Proofs.YtndlfijfjglkdaaGreatDoor
