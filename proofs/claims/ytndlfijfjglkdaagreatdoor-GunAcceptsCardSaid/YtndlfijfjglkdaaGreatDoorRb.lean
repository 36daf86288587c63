/-
Contracts and plain reckonings behind the law GunAccepts, part 2 of 6 (each under the conditions in its statement).
-/
import Derived.Test.YtndlfijfjglkdaaGreatDoorRa
import Derived.Test.YtndlfijfjglkdaaGreatDoorFa
namespace Go.Ab
open Go
structure V2 where
 blk : Nat
 b : Blk
def V2.ok (H : Heap) (v : V2) : Prop := match v.b with
 | .inp o cs => (∃ m, cellsA H v.blk o m = some cs) ∧ afL cs = true
 | .row cs sz => rowOf H v.blk = some (cs, sz) ∧ afL cs = true
 | _ => False
def v2H (N : Nat) : List V2 → Heap → Heap
 | [], G => G
 | v :: vs, G => v2H (N + 1) vs ((N, v.b) :: G)
theorem hget_v2H {N : Nat} : ∀ (vs : List V2) (G : Heap) (k : Nat) (b : Blk), (∀ x ∈ G, x.1 < N) → hget (v2H N vs G) k = some b → (k < N ∧ hget G k = some b) ∨ ∃ v, vs[k - N]? = some v ∧ N ≤ k ∧ b = v.b
 | [], G, k, b, hG, h => .inl ⟨hG _ (hget_mem _ _ _ h), h⟩
 | v :: vs, G, k, b, hG, h => by
   have := hget_v2H (N := N + 1) vs ((N, v.b) :: G) k b (fun x hx => by
     rcases List.mem_cons.1 hx with rfl | hx
     · exact Nat.lt_succ_self _
     · exact Nat.lt_succ_of_lt (hG x hx)) h
   rcases this with ⟨h1, h2⟩ | ⟨u, h1, h2, h3⟩
   · rw [hget_cons] at h2
     by_cases hk : N = k
     · rw [if_pos hk] at h2; injection h2 with h2; subst hk
       exact .inr ⟨v, by simp, Nat.le_refl _, h2.symm⟩
     · rw [if_neg hk] at h2
       exact .inl ⟨by omega, h2⟩
   · refine .inr ⟨u, ?_, by omega, h3⟩
     rw [show k - N = (k - (N + 1)) + 1 by omega]
     simpa using h1
theorem Part.gen {P : Program} {args : List Value} {H : Heap} {n : Nat} {R : List Value → Heap → Nat → Prop} (vs : List V2) {N : Nat} (hN : P.globals.size = N) (hv : ∀ v ∈ vs, V2.ok H v)
   (h : ∀ φ : Vl, ∃ args0, (∀ φ0 : Vl, (∀ i v, vs[i]? = some v → φ0.loc (N + i) = φ.loc v.blk ∧ φ0.cap (N + i) = φ.cap v.blk) → denL φ0 args0 = denL φ args) ∧ scL (· < N + vs.length) args0 ∧ R args0 (v2H N vs []) (N + vs.length)) : Part P args H n R := by
 intro p φ w hB hsc
 obtain ⟨args0, hden, hsc0, hR⟩ := h φ
 let φ0 : Vl := ⟨fun k => if k < N then φ.loc k else match vs[k - N]? with | some v => φ.loc v.blk | none => 0, fun k => if k < N then φ.cap k else match vs[k - N]? with | some v => φ.cap v.blk | none => 0⟩
 have hl : ∀ i v, vs[i]? = some v → φ0.loc (N + i) = φ.loc v.blk ∧ φ0.cap (N + i) = φ.cap v.blk := fun i v hi => by
   simp only [φ0]; rw [if_neg (by omega), if_neg (by omega), Nat.add_sub_cancel_left, hi]; exact ⟨rfl, rfl⟩
 have hlow : ∀ k, k < N → φ0.loc k = φ.loc k := fun k hk => by simp only [φ0]; rw [if_pos hk]
 have hH0 : ∀ k b, hget (v2H N vs []) k = some b → ∃ v, vs[k - N]? = some v ∧ N ≤ k ∧ b = v.b := fun k b hk => by
   rcases hget_v2H vs [] k b (by simp) hk with ⟨_, h2⟩ | h1
   · simp [hget] at h2
   · exact h1
 have hown : ∀ k b, hget (v2H N vs []) k = some b → b.own = false := fun k b hk => by
   obtain ⟨v, h1, _, rfl⟩ := hH0 k b hk
   have := hv v (List.mem_of_getElem? h1)
   unfold V2.ok at this
   split at this
   · rename_i e; rw [e]; rfl
   · rename_i e; rw [e]; rfl
   · exact this.elim
 refine ⟨args0, v2H N vs [], N + vs.length, φ0, (· < N + vs.length), ⟨⟨fun k b hk => ?_, fun k b k' b' h1 _ _ ho => (by rw [hown k b h1] at ho; cases ho), fun g hg => ?_⟩, fun _ h => h, fun g hg => ?_, (by omega), fun k b hk => ?_, fun t v hv => by simp [lk] at hv, fun t v hv => by simp [lk] at hv⟩, hsc0, hden φ0 hl, hown, hR⟩
 · obtain ⟨v, h1, h2, rfl⟩ := hH0 k b hk
   have hok := hv v (List.mem_of_getElem? h1)
   have hlk := hl _ _ h1
   rw [show N + (k - N) = k by omega] at hlk
   rw [hlk.1]
   unfold V2.ok at hok
   split at hok
   · rename_i o cs e
     rw [e]
     obtain ⟨⟨m, hc⟩, haf⟩ := hok
     exact cellsA_block hB.rel hc haf φ0 k
   · rename_i cs sz e
     rw [e]
     obtain ⟨c, t, fz, e1, e2, e3, e4⟩ := rowOf_rel hB hok.1
     refine ⟨c, t, fz, e1, ?_, ?_, e4⟩
     · rw [e2, denL_af _ _ hok.2, denL_af _ _ hok.2]
     · rw [e3, hlk.2]
   · exact hok.elim
 · rw [hlow g (hN ▸ hg)]; exact hB.rel.glob g hg
 · rw [← hN]; omega
 · obtain ⟨v, h1, h2, rfl⟩ := hH0 k b hk
   have := (List.getElem?_eq_some_iff.1 h1).1
   have hok := hv v (List.mem_of_getElem? h1)
   refine ⟨by omega, ?_⟩
   unfold V2.ok at hok
   split at hok
   · rename_i e; rw [e]; exact scL_af _ _ hok.2
   · rename_i e; rw [e]; exact scL_af _ _ hok.2
   · exact hok.elim
end Go.Ab

namespace Go.Proofs.YtndlfijfjglkdaaGreatDoor
open Go Go.Ab Go.Proofs
theorem names_fl (l c : Nat) : Names1 fun m => .slice (some ⟨m, 0, none⟩) l c := ⟨fun φ ψ m n h1 h2 => by simp [den, h1], fun p n h => by simp [sc, h]⟩
end Go.Proofs.YtndlfijfjglkdaaGreatDoor

namespace Go.Proofs.YtndlfijfjglkdaaGreatDoor
open Go Go.Ab Go.Proofs
end Go.Proofs.YtndlfijfjglkdaaGreatDoor

namespace Go.Proofs.YtndlfijfjglkdaaGreatDoor
open Go Go.Ab Go.Proofs
theorem w113n : AC Tryz.prog 113 [.slice none 0 0] [] 10 (iv 0) [] 10 := by
 have hr := recT_ok (P := Tryz.prog) (l := []) (by simp)
 refine AC.pure Tryz.func113 rfl (by kernel_rfl) rfl [5, 6, 7] rfl ?_
 refine E.seq ?_
 refine E.reg hr (by simp; rfl) ?_
 refine E.seq ?_
 refine E.seq ?_
 refine E.reg hr (by simp; rfl) ?_
 refine E.block ?_
 refine E.loop ?_
 refine EL.step ?_
 refine E.seq ?_
 refine E.reg hr (by simp; rfl) ?_
 refine E.seq ?_
 refine E.cond (by rfl) (fun h => ?_) (fun h => ?_)
 · simp at h
 refine E.exit ?_
 refine E.seq ?_
 refine E.reg hr (by simp; rfl) ?_
 refine E.ret ?_
 exact pureK.ret rfl rfl (by simp) (by repeat first | exact sub_refl _ | refine sub_cons rfl ?_)
def g113' (args : List Value) (H : Heap) (n : Nat) : R := match args with
 | [.slice (some a) len _] => (intsAt H a len).map fun l => (iv (firstV l), H, n)
 | [.slice none 0 0] => some (iv 0, H, n)
 | _ => none
theorem ok113' : EntOk Tryz.prog (113, g113') := by
 intro args H n v H' n' h
 simp only [g113'] at h
 split at h
 · exact ok113 _ _ _ _ _ _ h
 · injection h with h; injection h with e1 e2; injection e2 with e2 e3; subst e1 e2 e3
   exact AC.liftP rfl (Part.plain (by simp) [] (by simp [Seen]) gsz ⟨_, _, w113n⟩)
 · cases h
end Go.Proofs.YtndlfijfjglkdaaGreatDoor

namespace Go.Proofs.YtndlfijfjglkdaaGreatDoor
open Go Go.Ab Go.Proofs
theorem strE_len {l : List Gun} (h : strE l = 0) : 1 ≤ l.length ∧ l.length ≤ 8 := by
 unfold strE at h
 split at h
 · omega
 · split at h <;> omega
end Go.Proofs.YtndlfijfjglkdaaGreatDoor

namespace Go.Proofs.YtndlfijfjglkdaaGreatDoor
open Go Go.Ab Go.Proofs
end Go.Proofs.YtndlfijfjglkdaaGreatDoor

namespace Go.Ab
open Go
def cutK (P : Program) (n0 : Nat) (S0 : St) (K : Ex → St → Prop) : Ex → St → Prop
 | .normal, st => Leads P n0 st S0
 | e, st => K e st
theorem E.cut {P : Program} {n0 : Nat} {ro : Option Nat} {st : St} {K : Ex → St → Prop} {a b : Code} (S0 : St) (ha : E P n0 ro a st (cutK P n0 S0 K)) (hb : E P n0 ro b S0 K) : E P n0 ro (.seq a b) st K :=
 E.seq (ha.mono fun e st' h => by
   cases e with
   | normal => exact E.lead S0 h hb
   | _ => exact h)
end Go.Ab
namespace Go.Proofs.YtndlfijfjglkdaaGreatDoor
open Go Go.Ab Go.Proofs
def rowGuns (H : Heap) (b len : Nat) : Option (List Gun) := match rowOf H b with
 | some (cs, 7) => match gunsOf cs with
   | some l => if len = l.length ∧ len < 2 ^ 63 then some l else none
   | none => none
 | _ => none
theorem rowGuns_ok {H : Heap} {b len : Nat} {l : List Gun} (h : rowGuns H b len = some l) : rowOf H b = some (gcs l, 7) ∧ len = l.length ∧ l.length < 2 ^ 63 := by
 unfold rowGuns at h
 split at h
 · rename_i cs hb
   split at h
   · rename_i l' hl
     split at h
     · rename_i hc
       injection h with h; subst h
       have := gunsOf_ok _ _ hl
       subst this
       exact ⟨hb, hc.1, hc.1 ▸ hc.2⟩
     · cases h
   · cases h
 · cases h
end Go.Proofs.YtndlfijfjglkdaaGreatDoor

namespace Go.Proofs.YtndlfijfjglkdaaGreatDoor
open Go Go.Ab Go.Proofs
end Go.Proofs.YtndlfijfjglkdaaGreatDoor

namespace Go.Proofs.YtndlfijfjglkdaaGreatDoor
open Go Go.Ab Go.Proofs
end Go.Proofs.YtndlfijfjglkdaaGreatDoor

namespace Go.Proofs.YtndlfijfjglkdaaGreatDoor
open Go Go.Ab Go.Proofs
end Go.Proofs.YtndlfijfjglkdaaGreatDoor

namespace Go.Proofs.YtndlfijfjglkdaaGreatDoor
open Go Go.Ab Go.Proofs
end Go.Proofs.YtndlfijfjglkdaaGreatDoor

namespace Go.Proofs.YtndlfijfjglkdaaGreatDoor
open Go Go.Ab Go.Proofs
end Go.Proofs.YtndlfijfjglkdaaGreatDoor

namespace Go.Proofs.YtndlfijfjglkdaaGreatDoor
open Go Go.Ab Go.Proofs
open Classical in
noncomputable def g18 (args : List Value) (H : Heap) (n : Nat) : R := if args = [] ∧ hget H 3 = some (.inp 0 tab3) ∧ hget H 0 = some (.inp 0 names0) then some (.bool true, H, n) else none
theorem ok18 : EntOk Tryz.prog (18, g18) := by
 intro args H n v H' n' h
 simp only [g18] at h
 split at h
 · rename_i hc
   obtain ⟨rfl, h3, h0⟩ := hc
   injection h with h; injection h with e1 e2; injection e2 with e2 e3; subst e1 e2 e3
   refine AC.liftP rfl (Part.plain rfl G0 ?_ gsz ⟨_, _, st0H ▸ awakeAC⟩)
   intro x hx
   rw [gsz]
   simp at hx
   rcases hx with rfl | rfl
   · exact ⟨by simp, h3, rfl, scL_af _ _ af_tab3⟩
   · exact ⟨by simp, h0, rfl, scL_af _ _ af_names0⟩
 · cases h
end Go.Proofs.YtndlfijfjglkdaaGreatDoor

namespace Go.Proofs.YtndlfijfjglkdaaGreatDoor
open Go Go.Ab Go.Proofs
def idxS (l : List ByteArray) (x : ByteArray) : Int := match l.findIdx? fun y => decide (x = y) with
 | some i => i
 | none => -1
theorem idxS_hit {l : List ByteArray} {x : ByteArray} {i : Nat} (hi : i < l.length) (hn : x = l[i]) (hb : ∀ j (h : j < l.length), j < i → x ≠ l[j]) : idxS l x = i := by
 have : l.findIdx? (fun y => decide (x = y)) = some i := by
   rw [List.findIdx?_eq_some_iff_getElem]
   exact ⟨hi, by simp [hn], fun j hj => by simpa using hb j (by omega) hj⟩
 unfold idxS
 rw [this]
theorem idxS_miss {l : List ByteArray} {x : ByteArray} (hb : ∀ j (h : j < l.length), x ≠ l[j]) : idxS l x = -1 := by
 have : l.findIdx? (fun y => decide (x = y)) = none := by
   rw [List.findIdx?_eq_none_iff]
   intro y hy
   obtain ⟨j, hj, rfl⟩ := List.getElem_of_mem hy
   simpa using hb j hj
 unfold idxS
 rw [this]
theorem idxS_mem (l : List ByteArray) (x : ByteArray) : decide (0 ≤ idxS l x) = hasW x l := by
 cases h : hasW x l with
 | true =>
   have : (l.findIdx? fun y => decide (x = y)).isSome = true := by
     rw [List.findIdx?_isSome]
     exact List.any_eq_true.2 ⟨x, hasW_iff.1 h, by simp⟩
   obtain ⟨i, hi⟩ := Option.isSome_iff_exists.1 this
   have : 0 ≤ idxS l x := by unfold idxS; rw [hi]; simp
   simp [this]
 | false =>
   have : idxS l x = -1 := idxS_miss fun j hj e => by
     have := hasW_iff.2 (e ▸ List.getElem_mem hj : x ∈ l)
     rw [h] at this
     cases this
   simp [this]
theorem w209 (l : List ByteArray) (o c : Nat) (x : ByteArray) (hl : l.length < 2 ^ 31) : AC Tryz.prog 209 [.slice (some ⟨10, o, none⟩) l.length c, sv x] [(10, .inp o (l.map sv))] 11 (iv (idxS l x)) [(10, .inp o (l.map sv))] 11 := by
 have hr := recT_ok (P := Tryz.prog) (l := []) (by simp)
 refine AC.pure Tryz.func209 rfl (by kernel_rfl) rfl [0, 1, 7, 8] rfl ?_
 refine E.seq ?_
 refine E.reg hr (by simp; rfl) ?_
 refine E.seq ?_
 refine E.seq ?_
 refine E.reg hr (by simp; rfl) ?_
 refine E.block ?_
 refine E.loop ?_
 refine EL.ind (fun i : Nat => { fr := [(0, .slice (some ⟨10, o, none⟩) l.length c), (1, sv x), (7, iv l.length), (8, iv i)], sz := 19, H := [(10, .inp o (l.map sv))], n := 11, marks := [], vs := [0, 1, 7, 8] }) (fun i => l.length - i) (fun i => i ≤ l.length ∧ ∀ j, j < i → ∀ h : j < l.length, x ≠ l[j]) 0 (.less rfl rfl rfl (by simp) (by simp)) ⟨Nat.zero_le _, fun j hj => absurd hj (by omega)⟩ (fun _ => rfl) ?_
 intro i ⟨hi, hg⟩
 have hw : IntKind.i64.wrap ((i : Int) + 1) = (i : Int) + 1 := W_in (by omega) (by omega)
 refine E.seq ?_
 refine E.reg hr (by simp; rfl) ?_
 refine E.seq ?_
 refine E.cond (by rfl) (fun h => ?_) (fun h => ?_)
 · simp at h
   refine E.skip ?_
   refine E.seq ?_
   refine E.block ?_
   refine E.seq ?_
   refine E.reg hr (by simp; rfl) ?_
   refine E.seq ?_
   refine E.reg hr (by simp [h]; rfl) ?_
   refine E.cond (by rfl) (fun h2 => ?_) (fun h2 => ?_)
   · simp at h2
     refine E.seq ?_
     refine E.reg hr (by simp; rfl) ?_
     refine E.ret ?_
     exact pureK.ret rfl rfl (by simp [idxS_hit h h2 fun j h3 h4 => hg j h4 h3]) (by repeat first | exact sub_refl _ | refine sub_cons rfl ?_)
   · simp at h2
     refine E.skip ?_
     refine E.reg hr (by simp [hw]; rfl) ?_
     refine ⟨i + 1, .less rfl rfl rfl (by simp) (by simp), ⟨by omega, fun j hj h3 => ?_⟩, by dsimp only; omega⟩
     rcases Nat.lt_or_ge j i with h4 | h4
     · exact hg j h4 h3
     · obtain rfl : j = i := by omega
       exact h2
 · simp at h
   refine E.exit ?_
   refine E.seq ?_
   refine E.reg hr (by simp; rfl) ?_
   refine E.ret ?_
   exact pureK.ret rfl rfl (by simp [idxS_miss (l := l) (x := x) fun j h3 => hg j (by omega) h3]) (by repeat first | exact sub_refl _ | refine sub_cons rfl ?_)
def g209 (args : List Value) (H : Heap) (n : Nat) : R := match args with
 | [.slice (some a) len _, .string x] => (strsAt H a len).map fun l => (iv (idxS l x), H, n)
 | _ => none
theorem ok209 : EntOk Tryz.prog (209, g209) := by
 intro args H n v H' n' h'
 simp only [g209] at h'
 split at h'
 · rename_i a len c x
   rw [Option.map_eq_some_iff] at h'
   obtain ⟨l, h1, h2⟩ := h'
   injection h2 with e1 e2; injection e2 with e2 e3; subst e1 e2 e3
   obtain ⟨hf, hc, hlen, hlt⟩ := strsAt_ok h1
   subst hlen
   exact AC.liftP rfl (Part.one (fun s => [s, sv x]) (by intro φ φ0 s s0 h; simp [denL, den, h]) (by intro p s h; exact ⟨h, trivial, trivial⟩) hf hc (afL_sv l) [] (by simp [Seen]) gsz fun c => ⟨_, _, w209 l _ c x hlt⟩)
 · cases h'
theorem w161 (l : List ByteArray) (o c : Nat) (x : ByteArray) (hl : l.length < 2 ^ 31) : AC Tryz.prog 161 [.slice (some ⟨10, o, none⟩) l.length c, sv x] [(10, .inp o (l.map sv))] 11 (.bool (hasW x l)) [(10, .inp o (l.map sv))] 11 := by
 have hr := recT_ok (P := Tryz.prog) (l := [(209, g209)]) (by simp only [List.forall_mem_cons]; exact ⟨ok209, by simp⟩)
 have ht : strsAt [(10, .inp o (l.map sv))] ⟨10, o, none⟩ l.length = some l := by
   unfold strsAt
   simp [List.take_of_length_le, strsOf_sv, show l.length < 2147483648 by omega]
 refine AC.pure Tryz.func161 rfl (by kernel_rfl) rfl [4, 1, 0] rfl ?_
 refine E.seq ?_
 refine E.reg hr (by simp; rfl) ?_
 refine E.seq ?_
 refine E.reg hr (by simp [g209, ht]; rfl) ?_
 refine E.ret ?_
 exact pureK.ret rfl rfl (by simp [idxS_mem]) (by repeat first | exact sub_refl _ | refine sub_cons rfl ?_)
def g161 (args : List Value) (H : Heap) (n : Nat) : R := match args with
 | [.slice (some a) len _, .string x] => (strsAt H a len).map fun l => (.bool (hasW x l), H, n)
 | _ => none
theorem ok161 : EntOk Tryz.prog (161, g161) := by
 intro args H n v H' n' h'
 simp only [g161] at h'
 split at h'
 · rename_i a len c x
   rw [Option.map_eq_some_iff] at h'
   obtain ⟨l, h1, h2⟩ := h'
   injection h2 with e1 e2; injection e2 with e2 e3; subst e1 e2 e3
   obtain ⟨hf, hc, hlen, hlt⟩ := strsAt_ok h1
   subst hlen
   exact AC.liftP rfl (Part.one (fun s => [s, sv x]) (by intro φ φ0 s s0 h; simp [denL, den, h]) (by intro p s h; exact ⟨h, trivial, trivial⟩) hf hc (afL_sv l) [] (by simp [Seen]) gsz fun c => ⟨_, _, w161 l _ c x hlt⟩)
 · cases h'
def dirs : List ByteArray := [⟨#[100, 111, 119, 110]⟩, ⟨#[102, 111, 114, 101]⟩, ⟨#[97, 102, 116]⟩, ⟨#[112, 111, 114, 116]⟩, ⟨#[115, 116, 97, 114, 98, 111, 97, 114, 100]⟩]
theorem names_dirs : names0 = dirs.map sv := by kernel_rfl
def dirE (s : ByteArray) : Int := if hasW s dirs then 0 else 13
theorem w115 (s : ByteArray) : AC Tryz.prog 115 [sv s] [(0, .inp 0 names0)] 10 (iv (dirE s)) [(0, .inp 0 names0)] 10 := by
 have hr := recT_ok (P := Tryz.prog) (l := [(161, g161), (114, g114)]) (by simp only [List.forall_mem_cons]; exact ⟨ok161, ok114, by simp⟩)
 have ht : strsAt [(0, .inp 0 names0)] ⟨0, 0, none⟩ 5 = some dirs := by
   rw [names_dirs]
   unfold strsAt
   rfl
 refine AC.pure Tryz.func115 rfl (by kernel_rfl) rfl [2, 0] rfl ?_
 refine E.seq ?_
 refine E.reg hr (by simp; rfl) ?_
 refine E.seq ?_
 have hs2 : ∀ fr, opSlice Tryz.prog 256 (.global 0) none none none fr [(0, .inp 0 names0)] 10 = some (.slice (some ⟨0, 0, none⟩) 5 5, [(0, .inp 0 names0)], 10) := fun fr => by kernel_rfl
 cases hd : hasW s dirs with
 | true =>
   refine E.reg hr (by simp [hs2, g161, ht, g114, hd, whenV]; rfl) ?_
   refine E.ret ?_
   exact pureK.ret rfl rfl (by simp [dirE, hd]) (by repeat first | exact sub_refl _ | refine sub_cons rfl ?_)
 | false =>
   refine E.reg hr (by simp [hs2, g161, ht, g114, hd, whenV]; rfl) ?_
   refine E.ret ?_
   exact pureK.ret rfl rfl (by simp [dirE, hd]) (by repeat first | exact sub_refl _ | refine sub_cons rfl ?_)
open Classical in
noncomputable def g115 (args : List Value) (H : Heap) (n : Nat) : R := match args with
 | [.string s] => if hget H 0 = some (.inp 0 names0) then some (iv (dirE s), H, n) else none
 | _ => none
theorem ok115 : EntOk Tryz.prog (115, g115) := by
 intro args H n v H' n' h
 simp only [g115] at h
 split at h
 · split at h
   · rename_i s h0
     injection h with h; injection h with e1 e2; injection e2 with e2 e3; subst e1 e2 e3
     refine AC.liftP rfl (Part.plain (by simp) [(0, .inp 0 names0)] ?_ gsz ⟨_, _, w115 s⟩)
     intro x hx
     rw [gsz]
     simp at hx
     subst hx
     exact ⟨by simp, h0, rfl, scL_af _ _ af_names0⟩
   · cases h
 · cases h
theorem w119 : ∃ u H1 n1 H2, AC Tryz.prog 119 [] [] 10 u H1 n1 ∧ (∃ m, u = .slice (some ⟨m, 0, none⟩) 5 5 ∧ hget H2 m = some (.cells (dirs.map sv) 9) ∧ 10 ≤ m) ∧ (af u = false → H1 = H2) := by
 have hr := recT_ok (P := Tryz.prog) (l := []) (by simp)
 refine AC.out (Q := fun u H => ∃ m, u = .slice (some ⟨m, 0, none⟩) 5 5 ∧ hget H m = some (.cells (dirs.map sv) 9) ∧ 10 ≤ m) Tryz.func119 rfl (by kernel_rfl) rfl [0] ?_
 refine E.seq ?_
 refine E.reg hr (by simp; rfl) ?_
 refine E.seq ?_
 refine E.reg hr (by simp; rfl) ?_
 refine E.ret ?_
 refine outK.ret rfl rfl ?_
 exact ⟨10, rfl, by simp [dirs], by omega⟩
def g119 (args : List Value) (H : Heap) (n : Nat) : R := match args with
 | [] => some (.slice (some ⟨n, 0, none⟩) 5 5, (n, .cells (dirs.map sv) 9) :: H, n + 1)
 | _ => none
theorem ok119 : EntOk Tryz.prog (119, g119) := by
 intro args H n v H' n' h'
 simp only [g119] at h'
 split at h'
 · injection h' with h'; injection h' with e1 e2; injection e2 with e2 e3; subst e1 e2 e3
   obtain ⟨u, H1, n1, H2, hAC, ⟨m, hu, hm, hle⟩, hh⟩ := w119
   subst hu
   have := hh (by simp)
   subst this
   exact AC.liftF (names_fl 5 5) (.inl ⟨_, _, rfl, afL_sv _⟩) (Part.plain (by simp) [] (by simp [Seen]) gsz ⟨m, _, _, hle, hm, hAC⟩)
 · cases h'
theorem w29 (s : ByteArray) : AC Tryz.prog 29 [sv s] [] 10 (iv (dirE s)) [] 10 := by
 have hr := recT_ok (P := Tryz.prog) (l := [(119, g119), (67, g67)]) (by simp only [List.forall_mem_cons]; exact ⟨ok119, ok67, by simp⟩)
 have ht : ∀ G : Heap, hget G 10 = some (.cells (dirs.map sv) 9) → strsAt G ⟨10, 0, none⟩ 5 = some dirs := fun G hG => by
   unfold strsAt
   simp only [flat, cellsA, hG]
   rfl
 refine AC.pure Tryz.func29 rfl (by kernel_rfl) rfl [] rfl ?_
 refine E.seq ?_
 refine E.reg hr (by simp; rfl) ?_
 refine E.seq ?_
 refine E.seq ?_
 cases hd : hasW s dirs with
 | true =>
   refine E.reg hr (by simp [g119, g67, ht, hd]; rfl) ?_
   refine E.cond (by rfl) (fun h => ?_) (fun h => ?_)
   · simp at h
   refine E.skip ?_
   refine E.seq ?_
   refine E.reg hr (by simp; rfl) ?_
   refine E.ret ?_
   exact pureK.ret rfl rfl (by simp [dirE, hd]) (by repeat first | exact sub_refl _ | refine sub_cons rfl ?_)
 | false =>
   refine E.reg hr (by simp [g119, g67, ht, hd]; rfl) ?_
   refine E.cond (by rfl) (fun h => ?_) (fun h => ?_)
   rotate_left
   · simp at h
   refine E.seq ?_
   refine E.reg hr (by simp; rfl) ?_
   refine E.ret ?_
   exact pureK.ret rfl rfl (by simp [dirE, hd]) (by repeat first | exact sub_refl _ | refine sub_cons rfl ?_)
theorem ok29 : EntOk Tryz.prog (29, gSI dirE) := okSI w29
theorem min33 (a b : Int) (c : Array Bool) : runP Tryz.prog (builtin .min #[3, 3] 3 c #[iv a, iv b]) = some (.value (iv (min a b))) := by
 have h : runP Tryz.prog (builtin .min #[3, 3] 3 c #[iv a, iv b]) = some (.value (.int .i64 (if b < a then b else a))) := rfl
 rw [h]
 congr 3
 split <;> omega
def minN (l : List Int) : Nat → Int
 | 0 => (l[0]?).getD 0
 | i + 1 => min (minN l i) ((l[i + 1]?).getD 0)
theorem w188 (l : List Int) (o c : Nat) (h1 : 1 ≤ l.length) (hl : l.length < 2 ^ 31) : AC Tryz.prog 188 [.slice (some ⟨10, o, none⟩) l.length c] [(10, .inp o (l.map iv))] 11 (iv (minN l (l.length - 1))) [(10, .inp o (l.map iv))] 11 := by
 have hr := recT_ok (P := Tryz.prog) (l := []) (by simp)
 have h0 : 0 < l.length := h1
 have hn1 : ¬ (l.length : Int) < 1 := by omega
 refine AC.pure Tryz.func188 rfl (by kernel_rfl) rfl [0, 3, 4] rfl ?_
 refine E.seq ?_
 refine E.reg hr (by simp; rfl) ?_
 refine E.seq ?_
 refine E.seq ?_
 refine E.reg hr (by simp [hn1]; rfl) ?_
 refine E.cond (by rfl) (fun h => ?_) (fun h => ?_)
 · simp at h
 refine E.skip ?_
 refine E.seq ?_
 refine E.reg hr (by simp [h0]; rfl) ?_
 refine E.seq ?_
 refine E.seq ?_
 refine E.reg hr (by simp; rfl) ?_
 refine E.block ?_
 refine E.loop ?_
 refine EL.ind (fun i : Nat => { fr := [(0, .slice (some ⟨10, o, none⟩) l.length c), (3, iv (minN l i)), (4, iv (i + 1 : Nat))], sz := 25, H := [(10, .inp o (l.map iv))], n := 11, marks := [], vs := [0, 3, 4] }) (fun i => l.length - i) (fun i => i < l.length) 0 (.less rfl rfl rfl (by simp [minN, h0]) (by simp)) h0 (fun _ => rfl) ?_
 intro i hi
 have hw : IntKind.i64.wrap ((i : Int) + 1 + 1) = (i : Int) + 1 + 1 := W_in (by omega) (by omega)
 refine E.seq ?_
 refine E.seq ?_
 refine E.reg hr (by simp; rfl) ?_
 refine E.cond (by rfl) (fun h => ?_) (fun h => ?_)
 · simp at h
   have hlt : i + 1 < l.length := by omega
   have hltI : (i : Int) + 1 < l.length := by omega
   refine E.skip ?_
   refine E.seq ?_
   refine E.block ?_
   refine E.reg hr (by simp [hlt, hltI, min33]; rfl) ?_
   refine E.reg hr (by simp [hw]; rfl) ?_
   exact ⟨i + 1, .less rfl rfl rfl (by simp [minN, hlt]) (by simp), hlt, by dsimp only; omega⟩
 · simp at h
   have hi1 : i = l.length - 1 := by omega
   subst hi1
   refine E.exit ?_
   refine E.seq ?_
   refine E.reg hr (by simp; rfl) ?_
   refine E.ret ?_
   exact pureK.ret rfl rfl (by simp) (by repeat first | exact sub_refl _ | refine sub_cons rfl ?_)
def g188 (args : List Value) (H : Heap) (n : Nat) : R := match args with
 | [.slice (some a) len _] => match intsAt H a len with
   | some l => if 1 ≤ l.length then some (iv (minN l (l.length - 1)), H, n) else none
   | none => none
 | _ => none
theorem ok188 : EntOk Tryz.prog (188, g188) := by
 intro args H n v H' n' h'
 simp only [g188] at h'
 split at h'
 · rename_i a len c
   split at h'
   · rename_i l h1
     split at h'
     · rename_i hp
       injection h' with h'; injection h' with e1 e2; injection e2 with e2 e3; subst e1 e2 e3
       obtain ⟨hf, hc, hlen, hlt⟩ := intsAt_ok h1
       subst hlen
       exact AC.liftP rfl (Part.one (fun s => [s]) (by intro φ φ0 s s0 h; simp [denL, h]) (by intro p s h; exact ⟨h, trivial⟩) hf hc (afL_iv l) [] (by simp [Seen]) gsz fun c => ⟨_, _, w188 l _ c hp hlt⟩)
     · cases h'
   · cases h'
 · cases h'
end Go.Proofs.YtndlfijfjglkdaaGreatDoor

namespace Go.Ab
open Go
theorem Part.genG {P : Program} {args : List Value} {H : Heap} {n : Nat} {R : List Value → Heap → Nat → Prop} (vs : List V2) (G : Heap) (hG : Seen P H G) {N : Nat} (hN : P.globals.size = N) (hv : ∀ v ∈ vs, V2.ok H v)
   (h : ∀ φ : Vl, ∃ args0, (∀ φ0 : Vl, (∀ i v, vs[i]? = some v → φ0.loc (N + i) = φ.loc v.blk ∧ φ0.cap (N + i) = φ.cap v.blk) → denL φ0 args0 = denL φ args) ∧ scL (· < N + vs.length) args0 ∧ R args0 (v2H N vs G) (N + vs.length)) : Part P args H n R := by
 intro p φ w hB hsc
 obtain ⟨args0, hden, hsc0, hR⟩ := h φ
 let φ0 : Vl := ⟨fun k => if k < N then φ.loc k else match vs[k - N]? with | some v => φ.loc v.blk | none => 0, fun k => if k < N then φ.cap k else match vs[k - N]? with | some v => φ.cap v.blk | none => 0⟩
 have hl : ∀ i v, vs[i]? = some v → φ0.loc (N + i) = φ.loc v.blk ∧ φ0.cap (N + i) = φ.cap v.blk := fun i v hi => by
   simp only [φ0]; rw [if_neg (by omega), if_neg (by omega), Nat.add_sub_cancel_left, hi]; exact ⟨rfl, rfl⟩
 have hlow : ∀ k, k < N → φ0.loc k = φ.loc k := fun k hk => by simp only [φ0]; rw [if_pos hk]
 have hcap : ∀ k, k < N → φ0.cap k = φ.cap k := fun k hk => by simp only [φ0]; rw [if_pos hk]
 have hH0 : ∀ k b, hget (v2H N vs G) k = some b → (k < N ∧ (k, b) ∈ G) ∨ ∃ v, vs[k - N]? = some v ∧ N ≤ k ∧ b = v.b := fun k b hk => by
   rcases hget_v2H vs G k b (fun x hx => hN ▸ (hG x hx).1) hk with ⟨h1, h2⟩ | h1
   · exact .inl ⟨h1, hget_mem _ _ _ h2⟩
   · exact .inr h1
 have hown : ∀ k b, hget (v2H N vs G) k = some b → b.own = false := fun k b hk => by
   rcases hH0 k b hk with ⟨_, h2⟩ | ⟨v, h1, _, rfl⟩
   · exact (hG _ h2).2.2.1
   · have := hv v (List.mem_of_getElem? h1)
     unfold V2.ok at this
     split at this
     · rename_i e; rw [e]; rfl
     · rename_i e; rw [e]; rfl
     · exact this.elim
 refine ⟨args0, v2H N vs G, N + vs.length, φ0, (· < N + vs.length), ⟨⟨fun k b hk => ?_, fun k b k' b' h1 _ _ ho => (by rw [hown k b h1] at ho; cases ho), fun g hg => ?_⟩, fun _ h => h, fun g hg => ?_, (by omega), fun k b hk => ?_, fun t v hv => by simp [lk] at hv, fun t v hv => by simp [lk] at hv⟩, hsc0, hden φ0 hl, hown, hR⟩
 · rcases hH0 k b hk with ⟨h1, h2⟩ | ⟨v, h1, h2, rfl⟩
   · rw [hlow k h1]
     have hg := hG _ h2
     exact (hB.rel.blk k b hg.2.1).congr (p := fun k => k < N) (k := k) (fun j hj => ⟨hlow j hj, hcap j hj⟩) h1 (scB_mono (fun _ h => h.elim) _ hg.2.2.2)
   · have hok := hv v (List.mem_of_getElem? h1)
     have hlk := hl _ _ h1
     rw [show N + (k - N) = k by omega] at hlk
     rw [hlk.1]
     unfold V2.ok at hok
     split at hok
     · rename_i o cs e
       rw [e]
       obtain ⟨⟨m, hc⟩, haf⟩ := hok
       exact cellsA_block hB.rel hc haf φ0 k
     · rename_i cs sz e
       rw [e]
       obtain ⟨c, t, fz, e1, e2, e3, e4⟩ := rowOf_rel hB hok.1
       refine ⟨c, t, fz, e1, ?_, ?_, e4⟩
       · rw [e2, denL_af _ _ hok.2, denL_af _ _ hok.2]
       · rw [e3, hlk.2]
     · exact hok.elim
 · rw [hlow g (hN ▸ hg)]; exact hB.rel.glob g hg
 · rw [← hN]; omega
 · rcases hH0 k b hk with ⟨h1, h2⟩ | ⟨v, h1, h2, rfl⟩
   · exact ⟨by omega, scB_mono (fun _ h => h.elim) _ (hG _ h2).2.2.2⟩
   · have := (List.getElem?_eq_some_iff.1 h1).1
     have hok := hv v (List.mem_of_getElem? h1)
     refine ⟨by omega, ?_⟩
     unfold V2.ok at hok
     split at hok
     · rename_i e; rw [e]; exact scL_af _ _ hok.2
     · rename_i e; rw [e]; exact scL_af _ _ hok.2
     · exact hok.elim
end Go.Ab

namespace Go.Proofs.YtndlfijfjglkdaaGreatDoor
open Go Go.Ab Go.Proofs
def isDir (F : Nat) : Bool := Nat.ble 229 F && Nat.ble F 233
theorem isDir_cases {F : Nat} (h : isDir F = true) : F = 229 ∨ F = 230 ∨ F = 231 ∨ F = 232 ∨ F = 233 := by
 unfold isDir at h
 rw [Bool.and_eq_true] at h
 have h1 := Nat.le_of_ble_eq_true h.1
 have h2 := Nat.le_of_ble_eq_true h.2
 omega
def coF (F : Nat) (x y : Int) : Int := if F = 230 then IntKind.i64.wrap (-x) else if F = 231 then x else if F = 232 then IntKind.i64.wrap (-y) else if F = 233 then y else 0
def dOf (F : Nat) : ByteArray := if F = 229 then ⟨#[100, 111, 119, 110]⟩ else if F = 230 then ⟨#[102, 111, 114, 101]⟩ else if F = 231 then ⟨#[97, 102, 116]⟩ else if F = 232 then ⟨#[112, 111, 114, 116]⟩ else ⟨#[115, 116, 97, 114, 98, 111, 97, 114, 100]⟩
theorem w229 (x y : Int) : AC Tryz.prog 229 [.agg ⟨[iv x, iv y]⟩] [] 10 (iv (coF 229 x y)) [] 10 := by
 have hr := recT_ok (P := Tryz.prog) (l := []) (by simp)
 refine AC.pure Tryz.func229 rfl (by kernel_rfl) rfl [] rfl ?_
 refine E.seq ?_
 refine E.reg hr (by simp; rfl) ?_
 refine E.seq ?_
 refine E.reg hr (by simp; rfl) ?_
 refine E.ret ?_
 exact pureK.ret rfl rfl (by simp [coF]) (by repeat first | exact sub_refl _ | refine sub_cons rfl ?_)
theorem w230 (x y : Int) : AC Tryz.prog 230 [.agg ⟨[iv x, iv y]⟩] [] 10 (iv (coF 230 x y)) [] 10 := by
 have hr := recT_ok (P := Tryz.prog) (l := []) (by simp)
 refine AC.pure Tryz.func230 rfl (by kernel_rfl) rfl [] rfl ?_
 refine E.seq ?_
 refine E.reg hr (by simp; rfl) ?_
 refine E.seq ?_
 refine E.reg hr (by simp; rfl) ?_
 refine E.ret ?_
 exact pureK.ret rfl rfl (by simp [coF]) (by repeat first | exact sub_refl _ | refine sub_cons rfl ?_)
theorem w231 (x y : Int) : AC Tryz.prog 231 [.agg ⟨[iv x, iv y]⟩] [] 10 (iv (coF 231 x y)) [] 10 := by
 have hr := recT_ok (P := Tryz.prog) (l := []) (by simp)
 refine AC.pure Tryz.func231 rfl (by kernel_rfl) rfl [] rfl ?_
 refine E.seq ?_
 refine E.reg hr (by simp; rfl) ?_
 refine E.seq ?_
 refine E.reg hr (by simp; rfl) ?_
 refine E.ret ?_
 exact pureK.ret rfl rfl (by simp [coF]) (by repeat first | exact sub_refl _ | refine sub_cons rfl ?_)
theorem w232 (x y : Int) : AC Tryz.prog 232 [.agg ⟨[iv x, iv y]⟩] [] 10 (iv (coF 232 x y)) [] 10 := by
 have hr := recT_ok (P := Tryz.prog) (l := []) (by simp)
 refine AC.pure Tryz.func232 rfl (by kernel_rfl) rfl [] rfl ?_
 refine E.seq ?_
 refine E.reg hr (by simp; rfl) ?_
 refine E.seq ?_
 refine E.reg hr (by simp; rfl) ?_
 refine E.ret ?_
 exact pureK.ret rfl rfl (by simp [coF]) (by repeat first | exact sub_refl _ | refine sub_cons rfl ?_)
theorem w233 (x y : Int) : AC Tryz.prog 233 [.agg ⟨[iv x, iv y]⟩] [] 10 (iv (coF 233 x y)) [] 10 := by
 have hr := recT_ok (P := Tryz.prog) (l := []) (by simp)
 refine AC.pure Tryz.func233 rfl (by kernel_rfl) rfl [] rfl ?_
 refine E.seq ?_
 refine E.reg hr (by simp; rfl) ?_
 refine E.seq ?_
 refine E.reg hr (by simp; rfl) ?_
 refine E.ret ?_
 exact pureK.ret rfl rfl (by simp [coF]) (by repeat first | exact sub_refl _ | refine sub_cons rfl ?_)
def gCo (F : Nat) (args : List Value) (H : Heap) (n : Nat) : R := match args with
 | [.agg ⟨[.int .i64 x, .int .i64 y]⟩] => some (iv (coF F x y), H, n)
 | _ => none
theorem okCo {f : FuncId} {F : Nat} (h : ∀ x y, AC Tryz.prog f [.agg ⟨[iv x, iv y]⟩] [] 10 (iv (coF F x y)) [] 10) : EntOk Tryz.prog (f, gCo F) := by
 intro args H n v H' n' h'
 simp only [gCo] at h'
 split at h'
 · injection h' with h'; injection h' with e1 e2; injection e2 with e2 e3; subst e1 e2 e3
   exact AC.liftP rfl (Part.plain (by simp) [] (by simp [Seen]) gsz ⟨_, _, h _ _⟩)
 · cases h'
theorem ok229 : EntOk Tryz.prog (229, gCo 229) := okCo w229
theorem ok230 : EntOk Tryz.prog (230, gCo 230) := okCo w230
theorem ok231 : EntOk Tryz.prog (231, gCo 231) := okCo w231
theorem ok232 : EntOk Tryz.prog (232, gCo 232) := okCo w232
theorem ok233 : EntOk Tryz.prog (233, gCo 233) := okCo w233
abbrev fnV (F : Nat) : Value := .func (.func F) #[] #[]
abbrev H187 (F : Nat) : Heap := [(10, .inp 0 [fnV F])]
theorem w187 (F : Nat) (hF : isDir F = true) (g : Gun) : AC Tryz.prog 187 [.agg ⟨g.cells⟩, .pointer (some ⟨10, 0, none⟩)] (H187 F) 11 (iv (coF F g.x g.y)) (H187 F) 11 := by
 have hr := recT_ok (P := Tryz.prog) (l := [(229, gCo 229), (230, gCo 230), (231, gCo 231), (232, gCo 232), (233, gCo 233)]) (by simp only [List.forall_mem_cons]; exact ⟨ok229, ok230, ok231, ok232, ok233, by simp⟩)
 refine AC.pure Tryz.func187 rfl (by kernel_rfl) rfl [] rfl ?_
 refine E.seq ?_
 refine E.reg hr (by simp; rfl) ?_
 refine E.seq ?_
 rcases isDir_cases hF with rfl | rfl | rfl | rfl | rfl
 · refine E.reg hr (by simp [gCo]; rfl) ?_
   refine E.ret ?_
   exact pureK.ret rfl rfl (by simp) (by repeat first | exact sub_refl _ | refine sub_cons rfl ?_)
 · refine E.reg hr (by simp [gCo]; rfl) ?_
   refine E.ret ?_
   exact pureK.ret rfl rfl (by simp) (by repeat first | exact sub_refl _ | refine sub_cons rfl ?_)
 · refine E.reg hr (by simp [gCo]; rfl) ?_
   refine E.ret ?_
   exact pureK.ret rfl rfl (by simp) (by repeat first | exact sub_refl _ | refine sub_cons rfl ?_)
 · refine E.reg hr (by simp [gCo]; rfl) ?_
   refine E.ret ?_
   exact pureK.ret rfl rfl (by simp) (by repeat first | exact sub_refl _ | refine sub_cons rfl ?_)
 · refine E.reg hr (by simp [gCo]; rfl) ?_
   refine E.ret ?_
   exact pureK.ret rfl rfl (by simp) (by repeat first | exact sub_refl _ | refine sub_cons rfl ?_)
def g187 (args : List Value) (H : Heap) (n : Nat) : R := match args with
 | [.agg ⟨[.string _, .int .i64 _, .int .i64 x, .int .i64 y, .int .i64 _, .int .i64 _, .int .i64 _]⟩, .pointer (some ⟨b, 0, none⟩)] => match cellsA H b 0 1 with
   | some [.func (.func F) ⟨[]⟩ ⟨[]⟩] => if isDir F then some (iv (coF F x y), H, n) else none
   | _ => none
 | _ => none
theorem ok187 : EntOk Tryz.prog (187, g187) := by
 intro args H n v H' n' h'
 simp only [g187] at h'
 split at h'
 · rename_i s v0 x y d lo hi b
   split at h'
   · rename_i F hc
     split at h'
     · rename_i hF
       injection h' with h'; injection h' with e1 e2; injection e2 with e2 e3; subst e1 e2 e3
       exact AC.liftP rfl (Part.gen [⟨b, .inp 0 [fnV F]⟩] gsz (fun u hu => by rw [List.mem_singleton] at hu; subst hu; exact ⟨⟨1, hc⟩, by simp⟩) fun φ => ⟨[.agg ⟨[.string s, .int .i64 v0, .int .i64 x, .int .i64 y, .int .i64 d, .int .i64 lo, .int .i64 hi]⟩, .pointer (some ⟨10, 0, none⟩)], fun φ0 hl => by
         have := (hl 0 _ rfl).1
         simp only [Nat.add_zero] at this
         simp [denL, den, this], by simp [scL, sc], _, _, w187 F hF ⟨s, v0, x, y, d, lo, hi⟩⟩)
     · cases h'
   · cases h'
 · cases h'
def coG (F : Nat) (g : Gun) : Int := coF F g.x g.y
abbrev H186 (F : Nat) (l : List Gun) : Heap := [(11, .inp 0 [fnV F]), (10, .row (gcs l) 7)]
abbrev clV (b : Nat) : Value := .func (.func 187) #[] #[.pointer (some ⟨b, 0, none⟩)]
def S186 (F : Nat) (l : List Gun) : Nat → St
 | 0 => { fr := [(1, clV 11), (8, .slice (some ⟨10, 0, some 0⟩) l.length 0), (9, iv l.length), (5, .slice none 0 0), (10, iv 0)], sz := 22, H := H186 F l, n := 12, marks := [], vs := [1, 8, 9, 5, 10] }
 | i + 1 => { fr := [(1, clV 11), (8, .slice (some ⟨10, 0, some 0⟩) l.length 0), (9, iv l.length), (5, .slice (some ⟨12, 0, some 0⟩) (i + 1) 0), (10, iv (i + 1 : Nat))], sz := 22, H := (12, .ext ((tk (coG F) l (i + 1)).map iv) 3 1) :: H186 F l, n := 13, marks := [], vs := [1, 8, 9, 5, 10] }
def intQ (k : Nat) (l : List Int) (u : Value) (H : Heap) : Prop := ∃ m, u = .slice (some ⟨m, 0, some 0⟩) l.length 0 ∧ hget H m = some (.ext (l.map iv) 3 1) ∧ k ≤ m
set_option maxRecDepth 100000 in
theorem w186 (F : Nat) (hF : isDir F = true) (l : List Gun) (h1 : 1 ≤ l.length) (hl : l.length ≤ 4096) : ∃ u H1 n1 H2, AC Tryz.prog 186 [.slice (some ⟨10, 0, some 0⟩) l.length 0, clV 11] (H186 F l) 12 u H1 n1 ∧ intQ 12 (l.map (coG F)) u H2 ∧ (af u = false → H1 = H2) := by
 have hr := recT_ok (P := Tryz.prog) (l := [(187, g187)]) (by simp only [List.forall_mem_cons]; exact ⟨ok187, by simp⟩)
 have hpos : 0 < l.length := h1
 refine AC.out Tryz.func186 rfl (by kernel_rfl) rfl [1, 8, 9, 5, 10] ?_
 refine E.seq ?_
 refine E.reg hr (by simp; rfl) ?_
 refine E.seq ?_
 refine E.reg hr (by simp; rfl) ?_
 refine E.seq ?_
 refine E.seq ?_
 refine E.reg hr (by simp; rfl) ?_
 refine E.block ?_
 refine E.loop ?_
 refine EL.ind (S186 F l) (fun i => l.length - i) (fun i => i ≤ l.length) 0 (.less rfl rfl rfl (by simp [S186]) (by simp [S186])) (Nat.zero_le _) (fun i => by cases i <;> rfl) ?_
 intro i hi
 rcases i with _ | i
 · have hw : IntKind.i64.wrap 1 = 1 := W_in (by omega) (by omega)
   refine E.seq ?_
   refine E.reg hr (by simp [S186]; rfl) ?_
   refine E.seq ?_
   refine E.cond (by rfl) (fun h => ?_) (fun h => ?_)
   · simp at h
     have hx := gcs_take hpos
     have h7 : 7 ≤ l.length * 7 := by omega
     rw [Nat.zero_mul, List.drop_zero] at hx
     have hts : (tk (coG F) l 1).map iv = [iv (coF F l[0].x l[0].y)] := by rw [tk_succ (coG F) hpos]; rfl
     refine E.skip ?_
     refine E.seq ?_
     refine E.block ?_
     refine E.seq ?_
     refine E.reg hr (by simp [hx, hpos, h7]; rfl) ?_
     refine E.reg hr (by simp [g187, hF]; rfl) ?_
     refine E.reg hr (by simp [hw]; rfl) ?_
     exact ⟨1, Leads.ren [14] rfl rfl rfl ⟨rfl, rfl⟩ (by simp [S186]) (by simp [S186, hts]), by omega, by dsimp only; omega⟩
   · simp at h
     simp [h] at h1
 · have hw : IntKind.i64.wrap ((i : Int) + 1 + 1) = (i : Int) + 1 + 1 := W_in (by omega) (by omega)
   have hlen : (tk (coG F) l (i + 1)).length = i + 1 := tk_length _ (by omega)
   have ht : List.take (i + 1) ((tk (coG F) l (i + 1)).map iv) = (tk (coG F) l (i + 1)).map iv := List.take_of_length_le (by simp [hlen])
   refine E.seq ?_
   refine E.reg hr (by simp [S186]; rfl) ?_
   refine E.seq ?_
   refine E.cond (by rfl) (fun h => ?_) (fun h => ?_)
   · simp at h
     have hlt : i + 1 < l.length := by omega
     have hltI : (i : Int) + 1 < l.length := by omega
     have hx := gcs_take hlt
     have h7 : (i + 1) * 7 + 7 ≤ l.length * 7 := by omega
     have hts : (tk (coG F) l (i + 1 + 1)).map iv = (tk (coG F) l (i + 1)).map iv ++ [iv (coF F l[i + 1].x l[i + 1].y)] := by rw [tk_succ (coG F) hlt, List.map_append]; rfl
     have hsm : (i + 1 + 1) * 8 ≤ 1099511627776 ∧ i + 1 + 1 ≤ 1099511627776 := by omega
     refine E.skip ?_
     refine E.seq ?_
     refine E.block ?_
     refine E.seq ?_
     refine E.reg hr (by simp [hx, hltI, h7]; rfl) ?_
     refine E.reg hr (by simp [g187, hF, hsm, ht, hlen]; rfl) ?_
     refine E.reg hr (by simp [hw]; rfl) ?_
     exact ⟨i + 2, Leads.ren [15] rfl rfl rfl ⟨rfl, rfl⟩ (by simp [S186]) (by simp [S186, hts]), by omega, by dsimp only; omega⟩
   · simp at h
     have hal : tk (coG F) l (i + 1) = l.map (coG F) := tk_all _ (by omega)
     have hll : l.length = i + 1 := by omega
     refine E.exit ?_
     refine E.seq ?_
     refine E.reg hr (by simp; rfl) ?_
     refine E.ret ?_
     refine outK.ret rfl rfl ?_
     exact ⟨12, by simp [hll], by simp [hal], by omega⟩
def g186 (args : List Value) (H : Heap) (n : Nat) : R := match args with
 | [.slice (some ⟨b, 0, some 0⟩) len 0, .func (.func 187) ⟨[]⟩ ⟨[.pointer (some ⟨a, 0, none⟩)]⟩] => match rowGuns H b len, cellsA H a 0 1 with
   | some l, some [.func (.func F) ⟨[]⟩ ⟨[]⟩] => if isDir F = true ∧ 1 ≤ l.length ∧ l.length ≤ 4096 then some (.slice (some ⟨n, 0, some 0⟩) (l.map (coG F)).length 0, (n, .ext ((l.map (coG F)).map iv) 3 1) :: H, n + 1) else none
   | _, _ => none
 | _ => none
theorem ok186 : EntOk Tryz.prog (186, g186) := by
 intro args H n v H' n' h'
 simp only [g186] at h'
 split at h'
 · rename_i b len a
   split at h'
   · rename_i l F hg hc
     split at h'
     · rename_i hh
       obtain ⟨hF, h1, hl⟩ := hh
       injection h' with h'; injection h' with e1 e2; injection e2 with e2 e3; subst e1 e2 e3
       obtain ⟨hb, rfl, _⟩ := rowGuns_ok hg
       refine AC.liftF (names_sx _ _) (.inr ⟨_, _, _, rfl, afL_iv _⟩) (Part.gen [⟨b, .row (gcs l) 7⟩, ⟨a, .inp 0 [fnV F]⟩] gsz (fun u hu => ?_) fun φ => ⟨[.slice (some ⟨10, 0, some 0⟩) l.length 0, clV 11], fun φ0 hv => ?_, ?_, ?_⟩)
       · rcases List.mem_cons.1 hu with rfl | hu
         · exact ⟨hb, afL_gcs l⟩
         · rw [List.mem_singleton] at hu
           subst hu
           exact ⟨⟨1, hc⟩, by simp⟩
       · have h0 := hv 0 _ rfl
         have h1 := (hv 1 _ rfl).1
         simp only [Nat.add_zero] at h0
         simp [denL, den, h0, h1]
       · simp [scL, sc]
       · obtain ⟨u, H1, n1, H2, hAC, ⟨m, hu, hm, hle⟩, hh⟩ := w186 F hF l h1 hl
         subst hu
         have := hh (by simp)
         subst this
         exact ⟨m, _, _, hle, hm, hAC⟩
     · cases h'
   · cases h'
 · cases h'
end Go.Proofs.YtndlfijfjglkdaaGreatDoor

namespace Go.Ab
open Go
section
variable {P : Program} {n0 m : Nat} {ro : Option Nat} {st : St} {K : Ex → St → Prop} {r : Rec}
theorem E.regE (hr : RecOk P r m) {id : Nat} {ops : Array Oper} (h : (opsF P r ops ops.toList st).isSome = true) (k : K .normal ((opsF P r ops ops.toList st).get h)) : E P n0 ro (.region id ops false) st K :=
 E.reg hr (Option.some_get h).symm k
end
end Go.Ab
namespace Go.Proofs.YtndlfijfjglkdaaGreatDoor
open Go Go.Ab Go.Proofs
def leastV (F : Nat) (l : List Gun) : Int := minN (l.map (coG F)) (l.length - 1)
def arrG (F : Nat) (l : List Gun) (g : Gun) : Int := g.d + (coG F g - leastV F l).tdiv 15
def inB (l : List Gun) : Prop := ∀ g ∈ l, -1000 ≤ g.x ∧ g.x ≤ 1000 ∧ -1000 ≤ g.y ∧ g.y ≤ 1000 ∧ 0 ≤ g.d ∧ g.d ≤ 16
theorem coF_bound (F : Nat) {x y : Int} (hx : -1000 ≤ x ∧ x ≤ 1000) (hy : -1000 ≤ y ∧ y ≤ 1000) : -1000 ≤ coF F x y ∧ coF F x y ≤ 1000 := by
 unfold coF
 split
 · rw [W_in (by omega) (by omega)]; omega
 split
 · omega
 split
 · rw [W_in (by omega) (by omega)]; omega
 split
 · omega
 · omega
theorem minN_mem (l : List Int) : ∀ i, i < l.length → minN l i ∈ l
 | 0, h => by simp [minN, h]
 | i + 1, h => by
   have ih := minN_mem l i (by omega)
   unfold minN
   rw [List.getElem?_eq_getElem h, Option.getD_some]
   rcases (show min (minN l i) l[i + 1] = minN l i ∨ min (minN l i) l[i + 1] = l[i + 1] by omega) with e | e
   · rw [e]; exact ih
   · rw [e]; exact List.getElem_mem h
theorem minN_le (l : List Int) : ∀ i, i < l.length → ∀ j (hj : j < l.length), j ≤ i → minN l i ≤ l[j]
 | 0, h, j, hj, hji => by
   obtain rfl : j = 0 := by omega
   simp [minN, h]
 | i + 1, h, j, hj, hji => by
   unfold minN
   rw [List.getElem?_eq_getElem h, Option.getD_some]
   rcases Nat.lt_or_ge i j with h1 | h1
   · obtain rfl : j = i + 1 := by omega
     omega
   · have := minN_le l i (by omega) j hj h1
     omega
theorem co_bound {F : Nat} {l : List Gun} (hb : inB l) {g : Gun} (hg : g ∈ l) : -1000 ≤ coG F g ∧ coG F g ≤ 1000 := by
 obtain ⟨h1, h2, h3, h4, _⟩ := hb g hg
 exact coF_bound F ⟨h1, h2⟩ ⟨h3, h4⟩
theorem least_bound {F : Nat} {l : List Gun} (hb : inB l) (h1 : 1 ≤ l.length) : -1000 ≤ leastV F l ∧ leastV F l ≤ 1000 := by
 have := minN_mem (l.map (coG F)) (l.length - 1) (by simp; omega)
 obtain ⟨g, hg, e⟩ := List.mem_map.1 this
 have := co_bound (F := F) hb hg
 unfold leastV
 omega
theorem gcs_dE {l : List Gun} {i : Nat} (h : i < l.length) (h2 : i * 7 + 4 < (gcs l).length) : (gcs l)[i * 7 + 4] = iv l[i].d := by
 have := gcs_get h 4 (by omega)
 rw [List.getElem?_eq_getElem h2] at this
 exact Option.some.inj this
theorem arr_wraps {F : Nat} {l : List Gun} (hb : inB l) (h1 : 1 ≤ l.length) {g : Gun} (hg : g ∈ l) : IntKind.i64.wrap (coG F g - leastV F l) = coG F g - leastV F l ∧ IntKind.i64.wrap ((coG F g - leastV F l).tdiv 15) = (coG F g - leastV F l).tdiv 15 ∧ IntKind.i64.wrap (g.d + (coG F g - leastV F l).tdiv 15) = arrG F l g := by
 have h2 := co_bound (F := F) hb hg
 have h3 := least_bound (F := F) hb h1
 obtain ⟨_, _, _, _, h4, h5⟩ := hb g hg
 have h6 : ((coG F g - leastV F l).tdiv 15).natAbs ≤ (coG F g - leastV F l).natAbs := by rw [Int.natAbs_tdiv]; exact Nat.div_le_self _ _
 exact ⟨W_in (by omega) (by omega), W_in (by omega) (by omega), W_in (by omega) (by omega)⟩
abbrev H116 (l : List Gun) : Heap := [(11, .cells [.slice (some ⟨10, 0, some 0⟩) l.length 0] 32), (10, .row (gcs l) 7)]
def C116 (F : Nat) (l : List Gun) : St := { fr := [(2, .pointer (some ⟨11, 0, none⟩)), (5, .pointer (some ⟨13, 0, none⟩))], sz := 44, H := (13, .cells [fnV F] 257) :: H116 l, n := 14, marks := [], vs := [2, 7, 8, 21, 22, 23] }
def S116 (F : Nat) (l : List Gun) (cl : List Int) : Nat → St
 | 0 => { fr := [(2, .pointer (some ⟨11, 0, none⟩)), (7, iv (leastV F l)), (8, .slice none 0 0), (21, .slice (some ⟨12, 0, some 0⟩) cl.length 0), (22, iv cl.length), (23, iv 0)], sz := 44, H := (12, .ext (cl.map iv) 3 1) :: H116 l, n := 13, marks := [], vs := [2, 7, 8, 21, 22, 23] }
 | i + 1 => { fr := [(2, .pointer (some ⟨11, 0, none⟩)), (7, iv (leastV F l)), (8, .slice (some ⟨13, 0, some 0⟩) (i + 1) 0), (21, .slice (some ⟨12, 0, some 0⟩) cl.length 0), (22, iv cl.length), (23, iv (i + 1 : Nat))], sz := 44, H := (13, .ext ((tk (arrG F l) l (i + 1)).map iv) 3 1) :: (12, .ext (cl.map iv) 3 1) :: H116 l, n := 14, marks := [], vs := [2, 7, 8, 21, 22, 23] }
set_option maxRecDepth 100000 in
theorem w116 (F : Nat) (hF : isDir F = true) (l : List Gun) (h1 : 1 ≤ l.length) (h8 : l.length ≤ 8) (hb : inB l) : ∃ u H1 n1 H2, AC Tryz.prog 116 [rowV l.length, sv (dOf F)] [(10, .row (gcs l) 7)] 11 u H1 n1 ∧ intQ 11 (l.map (arrG F l)) u H2 ∧ (af u = false → H1 = H2) := by
 have hr := recT_ok (P := Tryz.prog) (l := [(186, g186), (188, g188)]) (by simp only [List.forall_mem_cons]; exact ⟨ok186, ok188, by simp⟩)
 have hrE := ev_sound mixed (O := fun _ _ _ _ => none) (fun _ _ _ _ _ _ _ h => by cases h) 30
 have hpos : 0 < l.length := h1
 obtain ⟨cl, hcl⟩ : ∃ cl, cl = l.map (coG F) := ⟨_, rfl⟩
 have hcll : cl.length = l.length := by rw [hcl, List.length_map]
 have hce : ∀ i (h : i < cl.length) (h' : i < l.length), cl[i] = coG F l[i] := fun i h h' => by subst hcl; simp
 have hle : minN cl (cl.length - 1) = leastV F l := by rw [hcll, hcl]; rfl
 have hrow : ∀ G : Heap, hget G 10 = some (.row (gcs l) 7) → rowGuns G 10 l.length = some l := fun G hG => by
   unfold rowGuns rowOf
   rw [hG]
   simp [gunsOf_gcs, show l.length < 9223372036854775808 by omega]
 have hin : ∀ (G : Heap) (b : Nat), hget G b = some (.ext (cl.map iv) 3 1) → intsAt G ⟨b, 0, some 0⟩ cl.length = some cl := fun G b hG => by
   unfold intsAt
   simp [hG, List.take_of_length_le, intsOf_iv, show cl.length < 2147483648 by omega]
 have hl6 : l.length ≤ 4096 := by omega
 have hc1 : 1 ≤ cl.length := by omega
 refine AC.out Tryz.func116 rfl (by kernel_rfl) rfl [2, 7, 8, 21, 22, 23] ?_
 refine E.seq ?_
 refine E.reg hr (by simp; rfl) ?_
 refine E.cut (C116 F l) ?_ ?_
 · rcases isDir_cases hF with rfl | rfl | rfl | rfl | rfl
   · refine E.regE hrE (by kernel_rfl) ?_
     exact Leads.less (by kernel_rfl) (by kernel_rfl) (by kernel_rfl) (List.forall_mem_cons.2 ⟨by kernel_rfl, List.forall_mem_cons.2 ⟨by kernel_rfl, by simp⟩⟩) (List.forall_mem_cons.2 ⟨by kernel_rfl, List.forall_mem_cons.2 ⟨by kernel_rfl, List.forall_mem_cons.2 ⟨by kernel_rfl, by simp⟩⟩⟩)
   · refine E.regE hrE (by kernel_rfl) ?_
     exact Leads.less (by kernel_rfl) (by kernel_rfl) (by kernel_rfl) (List.forall_mem_cons.2 ⟨by kernel_rfl, List.forall_mem_cons.2 ⟨by kernel_rfl, by simp⟩⟩) (List.forall_mem_cons.2 ⟨by kernel_rfl, List.forall_mem_cons.2 ⟨by kernel_rfl, List.forall_mem_cons.2 ⟨by kernel_rfl, by simp⟩⟩⟩)
   · refine E.regE hrE (by kernel_rfl) ?_
     exact Leads.less (by kernel_rfl) (by kernel_rfl) (by kernel_rfl) (List.forall_mem_cons.2 ⟨by kernel_rfl, List.forall_mem_cons.2 ⟨by kernel_rfl, by simp⟩⟩) (List.forall_mem_cons.2 ⟨by kernel_rfl, List.forall_mem_cons.2 ⟨by kernel_rfl, List.forall_mem_cons.2 ⟨by kernel_rfl, by simp⟩⟩⟩)
   · refine E.regE hrE (by kernel_rfl) ?_
     exact Leads.less (by kernel_rfl) (by kernel_rfl) (by kernel_rfl) (List.forall_mem_cons.2 ⟨by kernel_rfl, List.forall_mem_cons.2 ⟨by kernel_rfl, by simp⟩⟩) (List.forall_mem_cons.2 ⟨by kernel_rfl, List.forall_mem_cons.2 ⟨by kernel_rfl, List.forall_mem_cons.2 ⟨by kernel_rfl, by simp⟩⟩⟩)
   · refine E.regE hrE (by kernel_rfl) ?_
     exact Leads.less (by kernel_rfl) (by kernel_rfl) (by kernel_rfl) (List.forall_mem_cons.2 ⟨by kernel_rfl, List.forall_mem_cons.2 ⟨by kernel_rfl, by simp⟩⟩) (List.forall_mem_cons.2 ⟨by kernel_rfl, List.forall_mem_cons.2 ⟨by kernel_rfl, List.forall_mem_cons.2 ⟨by kernel_rfl, by simp⟩⟩⟩)
 refine E.seq ?_
 refine E.reg hr (by simp [C116, opMakefunc, g186, hrow, hF, h1, hl6, ← hcl]; rfl) ?_
 refine E.seq ?_
 refine E.reg hr (by simp [g188, hin, hc1, hle]; rfl) ?_
 refine E.seq ?_
 refine E.reg hr (by simp; rfl) ?_
 refine E.seq ?_
 refine E.seq ?_
 refine E.reg hr (by simp; rfl) ?_
 refine E.block ?_
 refine E.loop ?_
 refine EL.ind (S116 F l cl) (fun i => l.length - i) (fun i => i ≤ l.length) 0 (Leads.ren [11, 14] rfl rfl rfl ⟨rfl, rfl⟩ (by simp [S116]) (by simp [S116])) (Nat.zero_le _) (fun i => by cases i <;> rfl) ?_
 intro i hi
 rcases i with _ | i
 · have hw : IntKind.i64.wrap 1 = 1 := W_in (by omega) (by omega)
   refine E.seq ?_
   refine E.reg hr (by simp [S116]; rfl) ?_
   refine E.seq ?_
   refine E.cond (by rfl) (fun h => ?_) (fun h => ?_)
   · simp at h
     obtain ⟨q1, q2, q3⟩ := arr_wraps (F := F) hb h1 (List.getElem_mem hpos)
     have hc := hce 0 (by omega) hpos
     have h0c : 0 < cl.length := by omega
     have h7 : 4 < l.length * 7 := by omega
     have hd := gcs_dE hpos (by simp; omega)
     simp only [Nat.zero_mul, Nat.zero_add] at hd
     have hts : (tk (arrG F l) l 1).map iv = [iv (arrG F l l[0])] := by rw [tk_succ (arrG F l) hpos]; rfl
     refine E.skip ?_
     refine E.seq ?_
     refine E.block ?_
     refine E.seq ?_
     refine E.reg hr (by simp [h0c, hc]; rfl) ?_
     refine E.reg hr (by simp [hpos, h7, hd, q1, bin_quo (show (15 : Int) ≠ 0 by decide), q2, q3]; rfl) ?_
     refine E.reg hr (by simp [hw]; rfl) ?_
     exact ⟨1, Leads.ren [11, 12, 14] rfl rfl rfl ⟨rfl, rfl⟩ (by simp [S116]) (by simp [S116, hts]), by omega, by dsimp only; omega⟩
   · simp at h
     simp [h] at hc1
 · have hw : IntKind.i64.wrap ((i : Int) + 1 + 1) = (i : Int) + 1 + 1 := W_in (by omega) (by omega)
   have hlen : (tk (arrG F l) l (i + 1)).length = i + 1 := tk_length _ (by omega)
   have ht : List.take (i + 1) ((tk (arrG F l) l (i + 1)).map iv) = (tk (arrG F l) l (i + 1)).map iv := List.take_of_length_le (by simp [hlen])
   refine E.seq ?_
   refine E.reg hr (by simp [S116]; rfl) ?_
   refine E.seq ?_
   refine E.cond (by rfl) (fun h => ?_) (fun h => ?_)
   · simp at h
     have hltc : i + 1 < cl.length := by omega
     have hlt : i + 1 < l.length := by omega
     have hltI : (i : Int) + 1 < cl.length := by omega
     have hltJ : (i : Int) + 1 < l.length := by omega
     obtain ⟨q1, q2, q3⟩ := arr_wraps (F := F) hb h1 (List.getElem_mem hlt)
     have hc := hce (i + 1) hltc hlt
     have h7 : (i + 1) * 7 + 4 < l.length * 7 := by omega
     have hd := gcs_dE hlt (by simp; omega)
     have hts : (tk (arrG F l) l (i + 1 + 1)).map iv = (tk (arrG F l) l (i + 1)).map iv ++ [iv (arrG F l l[i + 1])] := by rw [tk_succ (arrG F l) hlt, List.map_append]; rfl
     have hsm : (i + 1 + 1) * 8 ≤ 1099511627776 ∧ i + 1 + 1 ≤ 1099511627776 := by omega
     refine E.skip ?_
     refine E.seq ?_
     refine E.block ?_
     refine E.seq ?_
     refine E.reg hr (by simp [hltc, hltI, hc]; rfl) ?_
     refine E.reg hr (by simp [hltJ, h7, hd, q1, bin_quo (show (15 : Int) ≠ 0 by decide), q2, q3, hsm, ht, hlen]; rfl) ?_
     refine E.reg hr (by simp [hw]; rfl) ?_
     exact ⟨i + 2, Leads.ren [11, 12, 15] rfl rfl rfl ⟨rfl, rfl⟩ (by simp [S116]) (by simp [S116, hts]), by omega, by dsimp only; omega⟩
   · simp at h
     have hal : tk (arrG F l) l (i + 1) = l.map (arrG F l) := tk_all _ (by omega)
     have hll : l.length = i + 1 := by omega
     refine E.exit ?_
     refine E.seq ?_
     refine E.reg hr (by simp; rfl) ?_
     refine E.ret ?_
     refine outK.ret rfl rfl ?_
     exact ⟨13, by simp [hll], by simp [hal], by omega⟩
def fOf (s : ByteArray) : Nat := if s = dOf 229 then 229 else if s = dOf 230 then 230 else if s = dOf 231 then 231 else if s = dOf 232 then 232 else 233
theorem fOf_ok {s : ByteArray} (h : hasW s dirs = true) : isDir (fOf s) = true ∧ dOf (fOf s) = s := by
 have := hasW_iff.1 h
 simp only [dirs, List.mem_cons, List.not_mem_nil, or_false] at this
 rcases this with rfl | rfl | rfl | rfl | rfl <;> exact ⟨by kernel_rfl, by kernel_rfl⟩
theorem gun_nums {l : List Gun} (h : strE l = 0) : ∀ g ∈ l, (1 ≤ g.v ∧ g.v ≤ 64) ∧ (-1000 ≤ g.x ∧ g.x ≤ 1000) ∧ (-1000 ≤ g.y ∧ g.y ≤ 1000) ∧ (0 ≤ g.d ∧ g.d ≤ 16) ∧ (0 ≤ g.lo ∧ g.lo ≤ 4) ∧ (0 ≤ g.hi ∧ g.hi ≤ 4) := by
 intro g hg
 obtain ⟨i, hi, rfl⟩ := List.getElem_of_mem hg
 have hl := strE_len h
 unfold strE at h
 rw [if_neg (by omega), if_neg (by omega)] at h
 have hc := (firstV_zero _).1 h (gunChk l i) (List.mem_map.2 ⟨i, by simpa using hi, rfl⟩)
 rw [gunChk_at hi] at hc
 have h2 := (firstV_zero _).1 hc l[i].err (by simp)
 unfold Gun.err at h2
 exact ⟨(withinV_zero _ _ _).1 ((firstV_zero _).1 h2 (withinV l[i].v 1 64) (by simp)), (withinV_zero _ _ _).1 ((firstV_zero _).1 h2 (withinV l[i].x (-1000) 1000) (by simp)), (withinV_zero _ _ _).1 ((firstV_zero _).1 h2 (withinV l[i].y (-1000) 1000) (by simp)), (withinV_zero _ _ _).1 ((firstV_zero _).1 h2 (withinV l[i].d 0 16) (by simp)), (withinV_zero _ _ _).1 ((firstV_zero _).1 h2 (withinV l[i].lo 0 4) (by simp)), (withinV_zero _ _ _).1 ((firstV_zero _).1 h2 (withinV l[i].hi 0 4) (by simp))⟩
theorem strE_inB {l : List Gun} (h : strE l = 0) : inB l := fun g hg => by
 obtain ⟨_, h1, h2, h3, _⟩ := gun_nums h g hg
 exact ⟨h1.1, h1.2, h2.1, h2.2, h3.1, h3.2⟩
def arrL (s : ByteArray) (l : List Gun) : List Int := l.map (arrG (fOf s) l)
def g116 (args : List Value) (H : Heap) (n : Nat) : R := match args with
 | [.agg ⟨[.slice (some ⟨b, 0, some 0⟩) len 0]⟩, .string s] => match rowGuns H b len with
   | some l => if strE l = 0 ∧ hasW s dirs = true then some (.slice (some ⟨n, 0, some 0⟩) (arrL s l).length 0, (n, .ext ((arrL s l).map iv) 3 1) :: H, n + 1) else none
   | none => none
 | _ => none
theorem ok116 : EntOk Tryz.prog (116, g116) := by
 intro args H n v H' n' h'
 simp only [g116] at h'
 split at h'
 · split at h'
   · rename_i l hg
     split at h'
     · rename_i hh
       obtain ⟨hs, hd⟩ := hh
       injection h' with h'; injection h' with e1 e2; injection e2 with e2 e3; subst e1 e2 e3
       obtain ⟨hb, rfl, _⟩ := rowGuns_ok hg
       obtain ⟨hF, hdo⟩ := fOf_ok hd
       obtain ⟨h1, h8⟩ := strE_len hs
       refine AC.liftF (names_sx _ _) (.inr ⟨_, _, _, rfl, afL_iv _⟩) (Part.row (fun x => [.agg ⟨[x]⟩, sv _]) (by intro φ φ0 s s0 h; simp [denL, den, h]) (by intro p s h; exact ⟨⟨h, trivial⟩, trivial, trivial⟩) hb (afL_gcs l) gsz ?_)
       obtain ⟨u, H1, n1, H2, hAC, ⟨m, hu, hm, hle⟩, hh⟩ := w116 _ hF l h1 h8 (strE_inB hs)
       rw [hdo] at hAC
       subst hu
       have := hh (by simp)
       subst this
       exact ⟨m, _, _, by omega, hm, hAC⟩
     · cases h'
   · cases h'
 · cases h'
end Go.Proofs.YtndlfijfjglkdaaGreatDoor

namespace Go.Proofs.YtndlfijfjglkdaaGreatDoor
open Go Go.Ab Go.Proofs
theorem dirE_zero {s : ByteArray} (h : dirE s = 0) : hasW s dirs = true := by
 unfold dirE at h
 split at h
 · assumption
 · cases h
theorem seen0 {H : Heap} (h0 : hget H 0 = some (.inp 0 names0)) : Seen Tryz.prog H [(0, .inp 0 names0)] := by
 intro x hx
 rw [gsz]
 simp at hx
 subst hx
 exact ⟨by simp, h0, rfl, scL_af _ _ af_names0⟩
end Go.Proofs.YtndlfijfjglkdaaGreatDoor

namespace Go.Proofs.YtndlfijfjglkdaaGreatDoor
open Go Go.Ab Go.Proofs
end Go.Proofs.YtndlfijfjglkdaaGreatDoor

namespace Go.Proofs.YtndlfijfjglkdaaGreatDoor
open Go Go.Ab Go.Proofs
end Go.Proofs.YtndlfijfjglkdaaGreatDoor

namespace Go.Proofs.YtndlfijfjglkdaaGreatDoor
open Go Go.Ab Go.Proofs
section
variable {P : Program}
theorem runP_bind' {α β : Type} (a : Sem α) (g : α → Sem β) : runP P (a >>= g) = (runP P a).bind fun x => runP P (g x) := runP_bind a g
end
end Go.Proofs.YtndlfijfjglkdaaGreatDoor

namespace Go.Proofs.YtndlfijfjglkdaaGreatDoor
open Go Go.Ab Go.Proofs
end Go.Proofs.YtndlfijfjglkdaaGreatDoor

namespace Go.Proofs.YtndlfijfjglkdaaGreatDoor
open Go Go.Ab Go.Proofs
end Go.Proofs.YtndlfijfjglkdaaGreatDoor

namespace Go.Proofs.YtndlfijfjglkdaaGreatDoor
open Go Go.Ab Go.Proofs
def fltsQ (l : List Nat) (v : Value) (H : Heap) : Prop := if l = [] then v = .slice none 0 0 else ∃ m, v = .slice (some ⟨m, 0, some 0⟩) l.length 0 ∧ hget H m = some (.ext (l.map fv) 98 1) ∧ 11 ≤ m
end Go.Proofs.YtndlfijfjglkdaaGreatDoor

namespace Go.Proofs.YtndlfijfjglkdaaGreatDoor
open Go Go.Ab Go.Proofs
attribute [simp] run_vcall_tmp vcallF target
@[simp] theorem cv98 (n : Int) : runP Tryz.prog (convert 3 98 (.int .i64 n)) = some (.float .f32 (FloatKind.f32.nearest n)) := by kernel_rfl
theorem bin_samp {n : Int} {P : Program} {t : TypeId} {x y : Operand} {H : Heap} {k : Nat} (h : sampQ n = some (sampB n)) : binV P .quo t x y (.float .f32 (FloatKind.f32.nearest n)) (.float .f32 1098907648) H k = some (fv (sampB n), H, k) := by
 have : runP P (do eqGuard .quo t x y (.float .f32 (FloatKind.f32.nearest n)) (.float .f32 1098907648); binOp .quo t (.float .f32 (FloatKind.f32.nearest n)) (.float .f32 1098907648)) = some (fv (sampB n)) := by
   show runP P (match sampQ n with | some r => pure (Value.float .f32 r) | none => do pure (Value.float .f32 (← choose (.nanBits .f32 (FloatKind.f32.nearest n) 1098907648)))) = _
   rw [h]; rfl
 simp [binV, this]
@[simp] theorem bin_fneq {P : Program} {t : TypeId} {x y : Operand} {H : Heap} {k : Nat} {a b : Nat} : binV P .neq t x y (.float .f32 a) (.float .f32 b) H k = some (.bool (FloatKind.f32.format.order a b != some .eq), H, k) := rfl
theorem w88 (n : Int) (h : sampQ n = some (sampB n)) : AC Tryz.prog 88 [iv n] [] 10 (fv (sampB n)) [] 10 := by
 have hr := recT_ok (P := Tryz.prog) (l := []) (by simp)
 refine AC.pure Tryz.func88 rfl (by kernel_rfl) rfl [] rfl ?_
 refine E.seq ?_
 refine E.reg hr (by simp; rfl) ?_
 refine E.seq ?_
 refine E.reg hr (by simp [opConvert, bin_samp h]; rfl) ?_
 refine E.ret ?_
 exact pureK.ret rfl rfl (by simp) (sub_refl _)
def gSamp (args : List Value) (H : Heap) (n : Nat) : R := match args with
 | [.int .i64 a] => if -4096 ≤ a ∧ a ≤ 4096 then some (fv (sampB a), H, n) else none
 | _ => none
theorem okSamp {f : FuncId} (h : ∀ a, sampQ a = some (sampB a) → AC Tryz.prog f [iv a] [] 10 (fv (sampB a)) [] 10) : EntOk Tryz.prog (f, gSamp) := by
 intro args H n v H' n' h'
 simp only [gSamp] at h'
 split at h'
 · split at h'
   · rename_i hb
     injection h' with h'; injection h' with e1 e2; injection e2 with e2 e3; subst e1 e2 e3
     exact AC.liftP rfl (Part.plain (by simp) [] (by simp [Seen]) gsz ⟨_, _, h _ (samp_ok hb.1 hb.2).1⟩)
   · cases h'
 · cases h'
theorem ok88 : EntOk Tryz.prog (88, gSamp) := okSamp w88
def S131 (l : List Int) (o c : Nat) : Nat → St
 | 0 => { fr := [(0, .slice (some ⟨10, o, none⟩) l.length c), (3, .slice none 0 0), (4, iv 0)], sz := 20, H := [(10, .inp o (l.map iv))], n := 11, marks := [], vs := [0, 3, 4] }
 | i + 1 => { fr := [(0, .slice (some ⟨10, o, none⟩) l.length c), (3, .slice (some ⟨11, 0, some 0⟩) (i + 1) 0), (4, iv (i + 1 : Nat))], sz := 20, H := [(11, .ext ((tk sampB l (i + 1)).map fv) 98 1), (10, .inp o (l.map iv))], n := 12, marks := [], vs := [0, 3, 4] }
set_option maxRecDepth 20000 in
theorem w131 (l : List Int) (o c : Nat) (hne : l ≠ []) (hl : l.length ≤ 4096) (hb : ∀ x ∈ l, -4096 ≤ x ∧ x ≤ 4096) : ∃ u H1 n1 H2, AC Tryz.prog 131 [.slice (some ⟨10, o, none⟩) l.length c] [(10, .inp o (l.map iv))] 11 u H1 n1 ∧ fltsQ (l.map sampB) u H2 ∧ (af u = false → H1 = H2) := by
 have hr := recT_ok (P := Tryz.prog) (l := [(88, gSamp)]) (by simp only [List.forall_mem_cons]; exact ⟨ok88, by simp⟩)
 have hpos : 0 < l.length := List.length_pos_iff.2 hne
 refine AC.out Tryz.func131 rfl (by kernel_rfl) rfl [0, 3, 4] ?_
 refine E.seq ?_
 refine E.reg hr (by simp; rfl) ?_
 refine E.seq ?_
 refine E.reg hr (by simp; rfl) ?_
 refine E.seq ?_
 refine E.seq ?_
 refine E.reg hr (by simp; rfl) ?_
 refine E.block ?_
 refine E.loop ?_
 refine EL.ind (S131 l o c) (fun i => l.length - i) (fun i => i ≤ l.length) 0 (.less rfl rfl rfl (by simp [S131]) (by simp [S131])) (Nat.zero_le _) (fun i => by cases i <;> rfl) ?_
 intro i hi
 rcases i with _ | i
 · have hw : IntKind.i64.wrap 1 = 1 := W_in (by omega) (by omega)
   refine E.seq ?_
   refine E.seq ?_
   refine E.reg hr (by simp [S131]; rfl) ?_
   refine E.cond (by rfl) (fun h => ?_) (fun h => ?_)
   · simp at h
     have hx := hb l[0] (List.getElem_mem hpos)
     have hts : (tk sampB l 1).map fv = [fv (sampB l[0])] := by rw [tk_succ sampB hpos]; rfl
     refine E.skip ?_
     refine E.seq ?_
     refine E.block ?_
     refine E.reg hr (by simp [gSamp, hx, hpos]; rfl) ?_
     refine E.reg hr (by simp [hw]; rfl) ?_
     exact ⟨1, Leads.ren [12] rfl rfl rfl ⟨rfl, rfl⟩ (by simp [S131]) (by simp [S131, hts]), by omega, by dsimp only; omega⟩
   · simp at h
     exact absurd h hne
 · have hw : IntKind.i64.wrap ((i : Int) + 1 + 1) = (i : Int) + 1 + 1 := W_in (by omega) (by omega)
   have hlen : (tk sampB l (i + 1)).length = i + 1 := tk_length _ (by omega)
   have ht : List.take (i + 1) ((tk sampB l (i + 1)).map fv) = (tk sampB l (i + 1)).map fv := List.take_of_length_le (by simp [hlen])
   refine E.seq ?_
   refine E.seq ?_
   refine E.reg hr (by simp [S131]; rfl) ?_
   refine E.cond (by rfl) (fun h => ?_) (fun h => ?_)
   · simp at h
     have hlt : i + 1 < l.length := by omega
     have hltI : (i : Int) + 1 < l.length := by omega
     have hx := hb l[i + 1] (List.getElem_mem hlt)
     have hts : (tk sampB l (i + 1 + 1)).map fv = (tk sampB l (i + 1)).map fv ++ [fv (sampB l[i + 1])] := by rw [tk_succ sampB hlt, List.map_append]; rfl
     have hsm : (i + 1 + 1) * 4 ≤ 1099511627776 ∧ i + 1 + 1 ≤ 1099511627776 := by omega
     refine E.skip ?_
     refine E.seq ?_
     refine E.block ?_
     refine E.reg hr (by simp [gSamp, hx, hlt, hltI, hsm, ht, hlen]; rfl) ?_
     refine E.reg hr (by simp [hw]; rfl) ?_
     exact ⟨i + 2, Leads.ren [13] rfl rfl rfl ⟨rfl, rfl⟩ (by simp [S131]) (by simp [S131, hts]), by omega, by dsimp only; omega⟩
   · simp at h
     have hal : tk sampB l (i + 1) = l.map sampB := tk_all _ (by omega)
     have hll : l.length = i + 1 := by omega
     refine E.exit ?_
     refine E.seq ?_
     refine E.reg hr (by simp; rfl) ?_
     refine E.ret ?_
     refine outK.ret rfl rfl ?_
     simp [fltsQ, hne, hal, hll]
end Go.Proofs.YtndlfijfjglkdaaGreatDoor

namespace Go.Proofs.YtndlfijfjglkdaaGreatDoor
open Go Go.Ab Go.Proofs
def gFlts (l : List Nat) (H : Heap) (n : Nat) : R := if l = [] then some (.slice none 0 0, H, n) else some (.slice (some ⟨n, 0, some 0⟩) l.length 0, (n, .ext (l.map fv) 98 1) :: H, n + 1)
theorem names_sl (l c : Nat) : Names1 fun m => .slice (some ⟨m, 0, some 0⟩) l c := ⟨fun φ ψ m n h1 h2 => by simp [den, h1, h2], fun p n h => by simp [sc, h]⟩
theorem okFlts1 {f : FuncId} {mk : Value → List Value} (hmk : ∀ φ φ0 s s0, den φ0 s0 = den φ s → denL φ0 (mk s0) = denL φ (mk s)) (hms : ∀ (p : Nat → Prop) s, sc p s → scL p (mk s)) {l : List Int} {r : List Nat}
   (hw : ∀ o c, ∃ u H1 n1 H2, AC Tryz.prog f (mk (.slice (some ⟨10, o, none⟩) l.length c)) [(10, .inp o (l.map iv))] 11 u H1 n1 ∧ fltsQ r u H2 ∧ (af u = false → H1 = H2))
   {H : Heap} {n : Nat} {a : Addr} {len cap : Nat} (h1 : intsAt H a len = some l) {v : Value} {H' : Heap} {n' : Nat} (h : gFlts r H n = some (v, H', n')) : AC Tryz.prog f (mk (.slice (some a) len cap)) H n v H' n' := by
 obtain ⟨hf, hc, hlen, hlt⟩ := intsAt_ok h1
 subst hlen
 unfold gFlts at h
 by_cases hr : r = []
 · rw [if_pos hr] at h
   injection h with h; injection h with e1 e2; injection e2 with e2 e3; subst e1 e2 e3
   refine AC.liftP rfl (Part.one mk hmk hms hf hc (afL_iv l) [] (by simp [Seen]) gsz fun c => ?_)
   obtain ⟨u, H1, n1, H2, hAC, hq, _⟩ := hw a.off c
   unfold fltsQ at hq
   rw [if_pos hr] at hq
   subst hq
   exact ⟨_, _, hAC⟩
 · rw [if_neg hr] at h
   injection h with h; injection h with e1 e2; injection e2 with e2 e3; subst e1 e2 e3
   refine AC.liftF (names_sl _ _) (.inr ⟨_, _, _, rfl, afL_fv r⟩) (Part.one mk hmk hms hf hc (afL_iv l) [] (by simp [Seen]) gsz fun c => ?_)
   obtain ⟨u, H1, n1, H2, hAC, hq, hh⟩ := hw a.off c
   unfold fltsQ at hq
   rw [if_neg hr] at hq
   obtain ⟨m, hv, hm, hle⟩ := hq
   subst hv
   have := hh rfl
   subst this
   exact ⟨m, _, _, hle, hm, hAC⟩
def sampAll (l : List Int) : Prop := l ≠ [] ∧ l.length ≤ 4096 ∧ ∀ x ∈ l, -4096 ≤ x ∧ x ≤ 4096
end Go.Proofs.YtndlfijfjglkdaaGreatDoor

namespace Go.Proofs.YtndlfijfjglkdaaGreatDoor
open Go Go.Ab Go.Proofs
def bodyOf' (f : Func) : Code := match f.body with
 | some c => c
 | none => .skip
def rfOf : Code → Option (Code × Code)
 | .rangeFunc _ _ a b => some (a, b)
 | .seq a b => match rfOf a with
   | some x => some x
   | none => rfOf b
 | .block _ b => rfOf b
 | _ => none
noncomputable def asg128 : Code := match rfOf (bodyOf' Tryz.f128) with
 | some x => x.1
 | none => .skip
noncomputable def bdy128 : Code := match rfOf (bodyOf' Tryz.f128) with
 | some x => x.2
 | none => .skip
def addAt (l : List Int) (i h : Int) : List Int := if i < l.length then l.set i.toNat (IntKind.i64.wrap ((l[i.toNat]?).getD 0 + h)) else l
@[simp] theorem addAt_length (l : List Int) (i h : Int) : (addAt l i h).length = l.length := by unfold addAt; split <;> simp
abbrev fr128 (L c : Nat) (b v s : Int) : Fr := [(12, .func (.func 236) #[] #[.pointer (some ⟨13, 0, none⟩), .pointer (some ⟨14, 0, none⟩)]), (11, iv s), (10, iv v), (5, .pointer (some ⟨12, 0, none⟩)), (4, .pointer (some ⟨11, 0, none⟩)), (0, .slice (some ⟨10, 0, none⟩) L c), (1, iv b), (2, iv v), (3, iv s)]
noncomputable abbrev H128 (X : Heap) (ls : LoopState) (l : List Int) (L c : Nat) (b v s : Int) : Heap := X ++ [(16, .loop ls none (fr128 L c b v s) 30 [] #[13, 14] asg128 bdy128 15), (15, .defd), (14, .cells [iv s] 3), (13, .cells [iv v] 3), (12, .cells [iv b] 3), (11, .cells [.slice (some ⟨10, 0, none⟩) L c] 45), (10, .cells (l.map iv) 3)]
theorem yieldF_of {r : Rec} {l : Nat} {args : List Value} {H : Heap} {n : Nat} {fr : Fr} {sz : Nat} {vs : List Nat} {ps : Array Tmp} {a b : Code} {d : Nat} {s1 s2 : St}
   (h0 : hget H l = some (.loop .ready none fr sz vs ps a b d)) (hlen : (Nat.beq args.length ps.size && ps.toList.all (fun t => Nat.blt t sz)) = true)
   (h1 : r.code (some l) a { fr := (ps.toList.zip args).foldl (fun fr (t, v) => (t, v) :: fr) fr, sz, H, n, marks := [], vs } = some (.normal, s1)) (hl1 : hget s1.H l = some (.loop .ready none fr sz vs ps a b d))
   (h2 : r.code (some l) b { s1 with H := hset s1.H l (.loop .busy none fr sz vs ps a b d) } = some (.normal, s2)) (hl2 : hget s2.H l = some (.loop .busy none fr sz vs ps a b d)) :
   yieldF r l args H n = some (.bool true, hset s2.H l (.loop .ready none fr sz vs ps a b d), s2.n) := by
 unfold yieldF
 rw [h0]
 simp only [hlen, h1, hl1, h2, hl2]
 rfl
theorem E.toAT' {P : Program} {ro : Option Nat} {c : Code} {s s' : St} {e : Ex} (h : E P s.n ro c s fun e2 s2 => e2 = e ∧ s2.n = s'.n ∧ s2.sz = s'.sz ∧ s2.marks = s'.marks ∧ s2.H = s'.H) (hf : s'.fr = []) : AT P ro c s e s' := by
 obtain ⟨e2, s2, hx, rfl, h1, h2, h3, h4⟩ := h
 exact (ATX.at hx).cut h1 h2 h3 (fun t v hv => by rw [hf] at hv; simp at hv) (fun k b hk => by rw [h4]; exact hk)
open Classical in
noncomputable def r128 (s1 s2 : St) : Rec := recV Tryz.prog (fun _ c _ => match c with
 | .seq _ _ => some (.normal, s1)
 | .block _ _ => some (.normal, s2)
 | _ => none) (fun _ _ _ _ => none)
abbrev top128 (hs : List Int) : Heap := [(17, .cells (hs.map iv) 281)]
set_option maxRecDepth 100000 in
theorem yield128 (X : Heap) (hX : X = [] ∨ ∃ hs, X = top128 hs) (n : Nat) (_hn : 17 ≤ n) (l : List Int) (c : Nat) (b v s at' h : Int) (L : Nat) (hL : L = l.length) (_hl : l.length < 2 ^ 31) (hb : 0 ≤ b ∧ b ≤ 4096) (ha : 0 ≤ at' ∧ at' ≤ 4096) :
   ∃ r, RecOk Tryz.prog r 0 ∧ yieldF r 16 [iv at', iv h] (H128 X .ready l L c b v s) n = some (.bool true, H128 X .ready (addAt l (b + at') h) L c b v s, n) := by
 subst hL
 have hr := recT_ok (P := Tryz.prog) (l := []) (by simp)
 let s1 : St := { fr := (9, iv h) :: (8, iv at') :: (14, iv h) :: (13, iv at') :: fr128 l.length c b v s, sz := 30, H := H128 X .ready l l.length c b v s, n := n, marks := [], vs := [] }
 let s2 : St := { fr := [], sz := 30, H := H128 X .busy (addAt l (b + at') h) l.length c b v s, n := n, marks := [], vs := [] }
 refine ⟨r128 s1 s2, recV_ok, ?_⟩
 have hw : IntKind.i64.wrap (b + at') = b + at' := W_in (by omega) (by omega)
 have hA : AT Tryz.prog (some 16) asg128 { fr := (14, iv h) :: (13, iv at') :: fr128 l.length c b v s, sz := 30, H := H128 X .ready l l.length c b v s, n := n, marks := [], vs := [] } .normal s1 := by
   refine E.toAT ?_
   refine E.seq ?_
   refine E.reg hr (by simp; rfl) ?_
   refine E.reg hr (by simp; rfl) ?_
   exact ⟨rfl, rfl⟩
 have hB : AT Tryz.prog (some 16) bdy128 { s1 with H := H128 X .busy l l.length c b v s } .normal s2 := by
   refine E.toAT' ?_ rfl
   refine E.block ?_
   refine E.seq ?_
   rcases hX with rfl | ⟨hs, rfl⟩
   · refine E.reg hr (by simp [s1, hw]; rfl) ?_
     refine E.cond (by rfl) (fun h2 => ?_) (fun h2 => ?_)
     · simp at h2
       have hlt : (b + at').toNat < l.length := by omega
       have h0 : 0 ≤ b + at' := by omega
       refine E.reg hr (by simp [hw, h0, h2, hlt, show (b + at').toNat + 1 ≤ l.length by omega]; rfl) ?_
       refine ⟨rfl, rfl, rfl, rfl, ?_⟩
       simp only [s2, addAt, if_pos h2]
       simp [hlt]
       rw [List.set_eq_take_append_cons_drop, if_pos (by simpa using hlt)]
     · simp at h2
       refine E.skip ?_
       refine ⟨rfl, rfl, rfl, rfl, ?_⟩
       simp [s2, addAt, show ¬ (b + at' < l.length) by omega]
   · refine E.reg hr (by simp [s1, hw]; rfl) ?_
     refine E.cond (by rfl) (fun h2 => ?_) (fun h2 => ?_)
     · simp at h2
       have hlt : (b + at').toNat < l.length := by omega
       have h0 : 0 ≤ b + at' := by omega
       refine E.reg hr (by simp [hw, h0, h2, hlt, show (b + at').toNat + 1 ≤ l.length by omega]; rfl) ?_
       refine ⟨rfl, rfl, rfl, rfl, ?_⟩
       simp only [s2, addAt, if_pos h2]
       simp [hlt]
       rw [List.set_eq_take_append_cons_drop, if_pos (by simpa using hlt)]
     · simp at h2
       refine E.skip ?_
       refine ⟨rfl, rfl, rfl, rfl, ?_⟩
       simp [s2, addAt, show ¬ (b + at' < l.length) by omega]
 have hh : hset (H128 X .busy (addAt l (b + at') h) l.length c b v s) 16 (.loop .ready none (fr128 l.length c b v s) 30 [] #[13, 14] asg128 bdy128 15) = H128 X .ready (addAt l (b + at') h) l.length c b v s := by
   rcases hX with rfl | ⟨hs, rfl⟩ <;> simp
 have hg : ∀ st l', hget (H128 X st l' l.length c b v s) 16 = some (.loop st none (fr128 l.length c b v s) 30 [] #[13, 14] asg128 bdy128 15) := fun st l' => by
   rcases hX with rfl | ⟨hs, rfl⟩ <;> simp
 have hh2 : hset (H128 X .ready l l.length c b v s) 16 (.loop .busy none (fr128 l.length c b v s) 30 [] #[13, 14] asg128 bdy128 15) = H128 X .busy l l.length c b v s := by
   rcases hX with rfl | ⟨hs, rfl⟩ <;> simp
 rw [← hh]
 refine yieldF_of (s1 := s1) (s2 := s2) (hg _ _) rfl ?_ (hg _ _) ?_ (hg _ _)
 · exact recV_code (by intro b h; cases h) rfl hA
 · show (r128 s1 s2).code (some 16) bdy128 { s1 with H := hset (H128 X .ready l l.length c b v s) 16 _ } = _
   rw [hh2]
   exact recV_code (by intro b h; cases h) rfl hB
end Go.Proofs.YtndlfijfjglkdaaGreatDoor

namespace Go.Proofs.YtndlfijfjglkdaaGreatDoor
open Go Go.Ab Go.Proofs
theorem fill4 (a b c d : Int) : Instr.fill (fun i => some (i, 1)) #[.int .i64 0, .int .i64 0, .int .i64 0, .int .i64 0] [(0, iv a), (1, iv b), (2, iv c), (3, iv d)] = some #[iv a, iv b, iv c, iv d] := by kernel_rfl
def addAll (l : List Int) (b v s : Int) : List Int :=
 addAt (addAt (addAt (addAt l (b + 0) (IntKind.i64.wrap (4 * v))) (b + IntKind.i64.wrap ((periodV v s).tdiv 2)) (IntKind.i64.wrap (-2 * v))) (b + periodV v s) (IntKind.i64.wrap (2 * v))) (b + IntKind.i64.wrap (2 * periodV v s)) v
@[simp] theorem addAll_length (l : List Int) (b v s : Int) : (addAll l b v s).length = l.length := by simp [addAll]
theorem period_bounds {v s : Int} (hv : 1 ≤ v ∧ v ≤ 64) (hs : 0 ≤ s ∧ s ≤ 4) : periodV v s = 4 + v / 8 + s ∧ 4 ≤ periodV v s ∧ periodV v s ≤ 16 := by
 have h1 : v.tdiv 8 = v / 8 := Int.tdiv_eq_ediv_of_nonneg (by omega)
 unfold periodV
 rw [h1, W_in (x := v / 8) (by omega) (by omega), W_in (x := 4 + v / 8) (by omega) (by omega), W_in (by omega) (by omega)]
 omega
def lpOf : Code → Option Code
 | .loop b => some b
 | .seq a b => match lpOf a with
   | some x => some x
   | none => lpOf b
 | .block _ b => lpOf b
 | _ => none
noncomputable def lp236 : Code := match lpOf (bodyOf' Tryz.f236) with
 | some x => x
 | none => .skip
abbrev hts (v : Int) : List Int := [IntKind.i64.wrap (4 * v), IntKind.i64.wrap (-2 * v), IntKind.i64.wrap (2 * v), v]
abbrev idx (v s : Int) : List Int := [0, IntKind.i64.wrap ((periodV v s).tdiv 2), periodV v s, IntKind.i64.wrap (2 * periodV v s)]
noncomputable def S236 (l : List Int) (L c : Nat) (b v s : Int) (k : Nat) : St :=
 { fr := [(5, .pointer (some ⟨17, 0, none⟩)), (0, .func (.yield 16) #[] #[]), (24, .agg ⟨(idx v s).map iv⟩), (25, iv k)], sz := 37, H := H128 (top128 (hts v)) .ready l L c b v s, n := 18, marks := [], vs := [5, 0, 24, 25] }
set_option maxRecDepth 100000 in
theorem round236 (l : List Int) (L c : Nat) (b v s : Int) (hL : L = l.length) (hl : l.length < 2 ^ 31) (hb : 0 ≤ b ∧ b ≤ 4096) (k : Nat) (hk : k < 4) (at' h : Int) (hat : (idx v s)[k]? = some at') (hh : (hts v)[k]? = some h) (ha : 0 ≤ at' ∧ at' ≤ 4096)
   (K : Ex → St → Prop) (hnext : EL Tryz.prog 17 none lp236 (S236 (addAt l (b + at') h) L c b v s (k + 1)) K) : EL Tryz.prog 17 none lp236 (S236 l L c b v s k) K := by
 have hr := recT_ok (P := Tryz.prog) (l := []) (by simp)
 obtain ⟨r, hry, hy⟩ := yield128 (top128 (hts v)) (.inr ⟨_, rfl⟩) 18 (by omega) l c b v s at' h L hL hl hb ha
 have w1 : IntKind.i64.wrap 1 = 1 := W_in (by omega) (by omega)
 have w2 : IntKind.i64.wrap 2 = 2 := W_in (by omega) (by omega)
 have w3 : IntKind.i64.wrap 3 = 3 := W_in (by omega) (by omega)
 have w4 : IntKind.i64.wrap 4 = 4 := W_in (by omega) (by omega)
 simp at hy
 have hc : k = 0 ∨ k = 1 ∨ k = 2 ∨ k = 3 := by omega
 rcases hc with rfl | rfl | rfl | rfl
 · simp at hat hh
   subst hat hh
   rw [Int.add_zero] at hnext
   refine EL.step ?_
   refine E.seq ?_
   refine E.reg hr (by simp [S236]; rfl) ?_
   refine E.seq ?_
   refine E.cond (by rfl) (fun _ => ?_) (fun h2 => ?_)
   · refine E.skip ?_
     refine E.seq ?_
     refine E.block ?_
     refine E.seq ?_
     refine E.reg hr (by simp [partA]; rfl) ?_
     refine E.seq ?_
     refine E.reg hry (by simp [hy]; rfl) ?_
     refine E.cond (by rfl) (fun h3 => ?_) (fun _ => ?_)
     · simp at h3
     · refine E.skip ?_
       refine E.reg hr (by simp [w1]; rfl) ?_
       refine EL.lead (S236 _ L c b v s _) ?_ hnext
       exact .less rfl rfl rfl (by simp [S236]) (by simp [S236])
   · simp at h2
 · simp at hat hh
   subst hat hh
   refine EL.step ?_
   refine E.seq ?_
   refine E.reg hr (by simp [S236]; rfl) ?_
   refine E.seq ?_
   refine E.cond (by rfl) (fun _ => ?_) (fun h2 => ?_)
   · refine E.skip ?_
     refine E.seq ?_
     refine E.block ?_
     refine E.seq ?_
     refine E.reg hr (by simp [partA]; rfl) ?_
     refine E.seq ?_
     refine E.reg hry (by simp [hy]; rfl) ?_
     refine E.cond (by rfl) (fun h3 => ?_) (fun _ => ?_)
     · simp at h3
     · refine E.skip ?_
       refine E.reg hr (by simp [w2]; rfl) ?_
       refine EL.lead (S236 _ L c b v s _) ?_ hnext
       exact .less rfl rfl rfl (by simp [S236]) (by simp [S236])
   · simp at h2
 · simp at hat hh
   subst hat hh
   refine EL.step ?_
   refine E.seq ?_
   refine E.reg hr (by simp [S236]; rfl) ?_
   refine E.seq ?_
   refine E.cond (by rfl) (fun _ => ?_) (fun h2 => ?_)
   · refine E.skip ?_
     refine E.seq ?_
     refine E.block ?_
     refine E.seq ?_
     refine E.reg hr (by simp [partA]; rfl) ?_
     refine E.seq ?_
     refine E.reg hry (by simp [hy]; rfl) ?_
     refine E.cond (by rfl) (fun h3 => ?_) (fun _ => ?_)
     · simp at h3
     · refine E.skip ?_
       refine E.reg hr (by simp [w3]; rfl) ?_
       refine EL.lead (S236 _ L c b v s _) ?_ hnext
       exact .less rfl rfl rfl (by simp [S236]) (by simp [S236])
   · simp at h2
 · simp at hat hh
   subst hat hh
   refine EL.step ?_
   refine E.seq ?_
   refine E.reg hr (by simp [S236]; rfl) ?_
   refine E.seq ?_
   refine E.cond (by rfl) (fun _ => ?_) (fun h2 => ?_)
   · refine E.skip ?_
     refine E.seq ?_
     refine E.block ?_
     refine E.seq ?_
     refine E.reg hr (by simp [partA]; rfl) ?_
     refine E.seq ?_
     refine E.reg hry (by simp [hy]; rfl) ?_
     refine E.cond (by rfl) (fun h3 => ?_) (fun _ => ?_)
     · simp at h3
     · refine E.skip ?_
       refine E.reg hr (by simp [w4]; rfl) ?_
       refine EL.lead (S236 _ L c b v s _) ?_ hnext
       exact .less rfl rfl rfl (by simp [S236]) (by simp [S236])
   · simp at h2
set_option maxRecDepth 100000 in
theorem w236 (l : List Int) (L c : Nat) (b v s : Int) (hL : L = l.length) (hl : l.length < 2 ^ 31) (hb : 0 ≤ b ∧ b ≤ 4096) (hv : 1 ≤ v ∧ v ≤ 64) (hs : 0 ≤ s ∧ s ≤ 4) :
   AC Tryz.prog 236 [.func (.yield 16) #[] #[], .pointer (some ⟨13, 0, none⟩), .pointer (some ⟨14, 0, none⟩)] (H128 [] .ready l L c b v s) 17 (.tuple #[]) (H128 (top128 (hts v)) .ready (addAll l b v s) L c b v s) 18 := by
 have hr := recT_ok (P := Tryz.prog) (l := [(126, g2 periodV)]) (by simp only [List.forall_mem_cons]; exact ⟨ok126, by simp⟩)
 obtain ⟨hp, hp1, hp2⟩ := period_bounds hv hs
 have hq : IntKind.i64.wrap ((periodV v s).tdiv 2) = periodV v s / 2 := by rw [Int.tdiv_eq_ediv_of_nonneg (by omega), W_in (by omega) (by omega)]
 have h2p : IntKind.i64.wrap (2 * periodV v s) = 2 * periodV v s := W_in (by omega) (by omega)
 have w4 : IntKind.i64.wrap (3 + 1) = 4 := W_in (by omega) (by omega)
 refine AC.body Tryz.func236 rfl (by kernel_rfl) rfl [5, 0, 24, 25] ?_
 refine E.seq ?_
 refine E.reg hr (by simp; rfl) ?_
 refine E.seq ?_
 refine E.reg hr (by simp [opBuild, fill4]; rfl) ?_
 refine E.seq ?_
 refine E.reg hr (by simp [opBuild, fill4, bin_quo]; rfl) ?_
 refine E.block ?_
 refine E.loop ?_
 refine EL.lead (S236 l L c b v s 0) (.less rfl rfl rfl (by simp [S236]) (by simp [S236])) ?_
 refine round236 l L c b v s hL hl hb 0 (by omega) _ _ rfl rfl ⟨by omega, by omega⟩ _ ?_
 refine round236 _ L c b v s (by simpa using hL) (by simpa using hl) hb 1 (by omega) _ _ rfl rfl (by rw [hq]; omega) _ ?_
 refine round236 _ L c b v s (by simpa using hL) (by simpa using hl) hb 2 (by omega) _ _ rfl rfl (by omega) _ ?_
 refine round236 _ L c b v s (by simpa using hL) (by simpa using hl) hb 3 (by omega) _ _ rfl rfl (by rw [h2p]; omega) _ ?_
 refine EL.step ?_
 refine E.seq ?_
 refine E.reg hr (by simp [S236]; rfl) ?_
 refine E.seq ?_
 refine E.cond (by rfl) (fun h2 => ?_) (fun h2 => ?_)
 · simp at h2
 · refine E.exit ?_
   refine ⟨.inl rfl, ?_⟩
   simp [leaveF, shutA, resultsA, Tryz.results236, dropOk, addAll]
end Go.Proofs.YtndlfijfjglkdaaGreatDoor

namespace Go.Proofs.YtndlfijfjglkdaaGreatDoor
open Go Go.Ab Go.Proofs
open Classical in
noncomputable def g131 (args : List Value) (H : Heap) (n : Nat) : R := match args with
 | [.slice (some a) len _] => match intsAt H a len with
   | some l => if sampAll l then gFlts (l.map sampB) H n else none
   | none => none
 | _ => none
theorem ok131 : EntOk Tryz.prog (131, g131) := by
 intro args H n v H' n' h
 simp only [g131] at h
 split at h
 · split at h
   · rename_i l h1
     split at h
     · rename_i hs
       exact okFlts1 (mk := fun s => [s]) (by intro φ φ0 s s0 h; simp [denL, h]) (by intro p s h; exact ⟨h, trivial⟩) (fun o c => w131 l o c hs.1 hs.2.1 hs.2.2) h1 h
     · cases h
   · cases h
 · cases h
end Go.Proofs.YtndlfijfjglkdaaGreatDoor

namespace Go.Ab
open Go
theorem AC.liftM {P : Program} {f : FuncId} {H : Heap} {n b : Nat} {cs cs' : List Value} {t : TypeId} (mk : Value → List Value) (hmk : ∀ φ φ0 s s0, den φ0 s0 = den φ s → denL φ0 (mk s0) = denL φ (mk s)) (hms : ∀ (p : Nat → Prop) s, sc p s → scL p (mk s))
   (hb : hget H b = some (.cells cs t)) (haf : afL cs = true) (haf' : afL cs' = true) {len cap N n1 : Nat} {H1 : Heap} {v : Value} (hN : P.globals.size = N) (hv : af v = true)
   (hAC : AC P f (mk (.slice (some ⟨N, 0, none⟩) len cap)) [(N, .cells cs t)] (N + 1) v H1 n1) (h1 : hget H1 N = some (.cells cs' t)) : AC P f (mk (.slice (some ⟨b, 0, none⟩) len cap)) H n v (hset H b (.cells cs' t)) n := by
 intro p φ w hB hsc
 have hpb := (hB.sm b _ hb).1
 let φ0 : Vl := ⟨fun k => if k < N then φ.loc k else φ.loc b, fun k => if k < N then φ.cap k else 0⟩
 have hl : φ0.loc N = φ.loc b := by simp [φ0]
 have h0 : ∀ k x, hget [(N, Blk.cells cs t)] k = some x → k = N ∧ x = .cells cs t := fun k x hk => by
   rw [hget_cons] at hk
   by_cases e : N = k
   · rw [if_pos e] at hk; injection hk with hk; exact ⟨e.symm, hk.symm⟩
   · rw [if_neg e] at hk; simp [hget] at hk
 have hB0 : Base P (· < N + 1) φ0 (N + 1) (hget [(N, Blk.cells cs t)]) w [] act0 := by
   refine ⟨⟨fun k x hk => ?_, fun k x k' x' h1 h2 hne _ => ?_, fun g hg => ?_⟩, fun _ h => h, fun g hg => ?_, by omega, fun k x hk => ?_, fun t v hv => by simp [lk] at hv, fun t v hv => by simp [lk] at hv⟩
   · obtain ⟨rfl, rfl⟩ := h0 k x hk
     rw [hl]
     have := hB.rel.blk b _ hb
     simp only [BRel, denL_af _ _ haf] at this ⊢
     exact this
   · exact absurd ((h0 k x h1).1.trans (h0 k' x' h2).1.symm) hne
   · simp only [φ0]; rw [if_pos (by omega)]; exact hB.rel.glob g hg
   · show g < N + 1; omega
   · obtain ⟨rfl, rfl⟩ := h0 k x hk
     exact ⟨Nat.lt_succ_self _, scL_af _ _ haf⟩
 have hgs : ∀ k x, hget (hset H b (.cells cs' t)) k = some x → (k = b ∧ x = .cells cs' t) ∨ (k ≠ b ∧ hget H k = some x) := fun k x hk => by
   rw [hget_hset] at hk
   by_cases e : b = k
   · rw [if_pos e, hb] at hk; simp at hk; exact .inl ⟨e.symm, hk.symm⟩
   · rw [if_neg e] at hk; exact .inr ⟨fun h => e h.symm, hk⟩
 have hdn : denL φ0 (mk (.slice (some ⟨N, 0, none⟩) len cap)) = denL φ (mk (.slice (some ⟨b, 0, none⟩) len cap)) := hmk _ _ _ _ (by simp [den, hl])
 refine hAC.map hB0 (hms _ _ (show N < N + 1 by omega)) hdn fun φ' w' hd => ⟨φ, by rw [den_af _ _ hv, den_af _ _ hv], ?_⟩
 obtain ⟨_, _, hst⟩ := hd
 have hloc : φ'.loc N = φ.loc b := by rw [(hst.only N (.inl (by omega))).1, hl]
 have hkeep : ∀ i, i < w.heap.size → φ.loc b ≠ i → w'.heap[i]? = w.heap[i]? := fun i hi hne => hst.frm.keep i hi fun k x hk _ => by
   obtain ⟨rfl, rfl⟩ := h0 k x hk
   rw [hl]; exact hne
 have hold : ∀ k x, hget (hset H b (.cells cs' t)) k = some x → ∃ x0, hget H k = some x0 ∧ x0.own = x.own := fun k x hk => by
   rcases hgs k x hk with ⟨rfl, rfl⟩ | ⟨_, h⟩
   · exact ⟨_, hb, rfl⟩
   · exact ⟨x, h, rfl⟩
 refine ⟨fun k x hk => ?_, sc_af _ _ hv, Nat.le_refl _, fun _ _ => ⟨rfl, rfl⟩, ⟨fun k x hk => ?_, fun k x k' x' g1 g2 hne ho => ?_, hB.rel.glob⟩, fun k x hk ho => ?_, fun k x hk ho => ?_, ⟨hst.frm.os, hst.frm.tape, hst.frm.output, hst.frm.size, fun i hi hf => hkeep i hi (hf b _ hb rfl)⟩⟩
 · rcases hgs k x hk with ⟨rfl, rfl⟩ | ⟨_, h⟩
   · exact ⟨.inl hpb, scL_af _ _ haf'⟩
   · exact ⟨.inl (hB.sm k x h).1, scB_mono (fun _ h => .inl h) _ (hB.sm k x h).2⟩
 · rcases hgs k x hk with ⟨rfl, rfl⟩ | ⟨hne, h⟩
   · have := hst.rel.blk N _ h1
     rw [hloc] at this
     simp only [BRel, denL_af _ _ haf'] at this ⊢
     exact this
   · rw [hkeep _ (hB.rel.lt h) (hB.rel.apart b _ k x hb h (fun e => hne e.symm) rfl)]
     exact hB.rel.blk k x h
 · obtain ⟨x0, e1, e2⟩ := hold k x g1
   obtain ⟨x1, e3, _⟩ := hold k' x' g2
   exact hB.rel.apart k x0 k' x1 e1 e3 hne (e2.trans ho)
 · obtain ⟨x0, e1, e2⟩ := hold k x hk
   exact .inr ⟨k, x0, e1, e2.trans ho, rfl⟩
 · rcases hgs k x hk with ⟨rfl, rfl⟩ | ⟨_, h⟩
   · cases ho
   · exact h
theorem rangeF_of {P : Program} {r : Rec} {f : Operand} {ps : Array Tmp} {x y : Code} {st : St} {g : FuncId} {first captured : Array Value} {v : Value} {H' : Heap} {k : Nat} {fr : Fr} {sz : Nat} {vs : List Nat} {d : Nat} {a b : Code}
   (hf : evO P st.fr f = some (.func (.func g) first captured)) (he : enterable P g = true)
   (hc : r.call g (first.toList ++ [.func (.yield (st.n + 1)) #[] #[]] ++ captured.toList) ((st.n + 1, .loop .ready none st.fr st.sz st.vs ps x y st.n) :: (st.n, .defd) :: st.H) (st.n + 2) = some (v, H', k))
   (hl : hget H' (st.n + 1) = some (.loop .ready none fr sz vs ps a b d)) :
   rangeF P r none f ps x y st = some (.normal, { st with H := hset H' (st.n + 1) (.loop .exhausted none fr sz vs ps a b d), n := k, marks := st.n :: st.marks }) := by
 unfold rangeF
 rw [hf]
 simp only [he, hc, hl]
 rfl
theorem E.range {P : Program} {n0 : Nat} {r : Rec} {m : Nat} (hr : RecOk P r m) {ro : Option Nat} {f : Operand} {ps : Array Tmp} {x y : Code} {st st' : St} {e : Ex} {K : Ex → St → Prop} (h : rangeF P r ro f ps x y st = some (e, st')) (k : K e st') : E P n0 ro (.rangeFunc f ps x y) st K := .at (rangeF_ok hr h) k
end Go.Ab

namespace Go.Proofs.YtndlfijfjglkdaaGreatDoor
open Go Go.Ab Go.Proofs
@[simp] theorem ent193 : enterable Tryz.prog 193 = true := by kernel_rfl
theorem ent236 : enterable Tryz.prog 236 = true := by kernel_rfl
set_option maxRecDepth 100000 in
theorem w128 (l : List Int) (c : Nat) (b v s : Int) (hl : l.length < 2 ^ 31) (hb : 0 ≤ b ∧ b ≤ 4096) (hv : 1 ≤ v ∧ v ≤ 64) (hs : 0 ≤ s ∧ s ≤ 4) : AC Tryz.prog 128 [.slice (some ⟨10, 0, none⟩) l.length c, iv b, iv v, iv s] [(10, .cells (l.map iv) 3)] 11 (.tuple #[]) [(10, .cells ((addAll l b v s).map iv) 3)] 18 := by
 have hr := ev_sound mixed (tab_ok (P := Tryz.prog) [(126, g2 periodV)] (by simp only [List.forall_mem_cons]; exact ⟨ok126, by simp⟩)) 60
 refine AC.body Tryz.func128 rfl (by kernel_rfl) rfl [] ?_
 refine E.seq ?_
 refine E.reg hr (by simp; rfl) ?_
 refine E.seq ?_
 refine E.reg hr (by simp [ev_call, Tryz.func193, bodyF, Tryz.f193, ↓evc_seq, ↓evc_reg, ↓evc_ret, opMakefunc, leaveF, shutA, resultsA, resultA]; rfl) ?_
 refine E.block ?_
 have hAC := w236 l l.length c b v s rfl hl hb hv hs
 refine E.range (r := recV Tryz.prog (fun _ _ _ => none) (fun _ _ _ _ => some (.tuple #[], H128 (top128 (hts v)) .ready (addAll l b v s) l.length c b v s, 18))) recV_ok (rangeF_of rfl ent236 (recV_call rfl hAC) rfl) ?_
 refine ⟨.inl rfl, ?_⟩
 simp [leaveF, shutA, resultsA, Tryz.results128, dropOk, dropNew]
open Classical in
noncomputable def g128 (args : List Value) (H : Heap) (n : Nat) : R := match args with
 | [.slice (some ⟨b, 0, none⟩) len _, .int .i64 i, .int .i64 v, .int .i64 s] => match hget H b with
   | some (.cells cs 3) => match intsOf cs with
     | some l => if len = l.length ∧ l.length < 2 ^ 31 ∧ (0 ≤ i ∧ i ≤ 4096) ∧ (1 ≤ v ∧ v ≤ 64) ∧ 0 ≤ s ∧ s ≤ 4 then some (.tuple #[], hset H b (.cells ((addAll l i v s).map iv) 3), n) else none
     | none => none
   | _ => none
 | _ => none
theorem ok128 : EntOk Tryz.prog (128, g128) := by
 intro args H n v H' n' h
 simp only [g128] at h
 split at h
 · split at h
   · rename_i cs hb
     split at h
     · rename_i l hl
       split at h
       · rename_i hc
         obtain ⟨rfl, h1, h2, h3, h4⟩ := hc
         injection h with h; injection h with e1 e2; injection e2 with e2 e3; subst e1 e2 e3
         have := intsOf_ok _ _ hl
         subst this
         exact AC.liftM (fun x => [x, iv _, iv _, iv _]) (by intro φ φ0 s s0 h; simp [denL, den, h]) (by intro p s h; exact ⟨h, trivial, trivial, trivial, trivial⟩) hb (afL_iv _) (afL_iv _) gsz rfl (w128 l _ _ _ _ h1 h2 h3 h4) rfl
       · cases h
     · cases h
   · cases h
 · cases h
end Go.Proofs.YtndlfijfjglkdaaGreatDoor

namespace Go.Proofs.YtndlfijfjglkdaaGreatDoor
open Go Go.Ab Go.Proofs
theorem rep_cells (w : Nat) : ((Array.range (w * 1)).map ((if w * 1 = 0 then #[] else #[Value.int .i64 0])[· % (if w * 1 = 0 then #[] else #[Value.int .i64 0]).size]!)).toList = (List.replicate w (0 : Int)).map iv := by
 rw [List.map_replicate]
 refine List.eq_replicate_iff.2 ⟨by simp, fun x hx => ?_⟩
 simp only [Array.toList_map, List.mem_map, Array.toList_range, List.mem_range] at hx
 obtain ⟨i, hi, rfl⟩ := hx
 rw [if_neg (by omega)]
 simp [Nat.mod_one]
theorem mk45 {fr : Fr} {H : Heap} {n : Nat} {x y : Operand} {w : Int} (h0 : 0 ≤ w) (h1 : w ≤ 4096) (hx : evO Tryz.prog fr x = some (iv w)) (hy : evO Tryz.prog fr y = some (iv w)) : opMakeslice Tryz.prog 45 x y fr H n = some (.slice (some ⟨n, 0, none⟩) w.toNat w.toNat, (n, .cells ((List.replicate w.toNat (0 : Int)).map iv) 3) :: H, n + 1) := by
 unfold opMakeslice
 rw [hx, hy, Tryz.underlying45]
 have hz : Tryz.t3.zero = some (.int .i64 0) := by kernel_rfl
 have hb : Tryz.t3.bytes = 8 := by kernel_rfl
 have hs : Tryz.t3.size = 1 := by kernel_rfl
 simp only [inf3, hz, hb, hs]
 have hc : (0 ≤ w ∧ w ≤ w ∧ (smallA 8 w.toNat && afL (Value.int .i64 0).cells.toList) = true) := ⟨h0, Int.le_refl _, by simp [smallA]; omega⟩
 rw [if_pos hc]
 unfold newA
 rw [show (Value.int .i64 0).cells = #[Value.int .i64 0] from rfl, rep_cells]
def zeros (w : Nat) : List Int := List.replicate w 0
@[simp] theorem zeros_length (w : Nat) : (zeros w).length = w := by simp [zeros]
end Go.Proofs.YtndlfijfjglkdaaGreatDoor

namespace Go.Proofs.YtndlfijfjglkdaaGreatDoor
open Go Go.Ab Go.Proofs
theorem addAt_get {l : List Int} {i h : Int} {j : Nat} (h0 : 0 ≤ i) (hj : j < l.length) : (addAt l i h)[j]? = if i = j then some (IntKind.i64.wrap ((l[j]?).getD 0 + h)) else l[j]? := by
 unfold addAt
 by_cases hi : i < l.length
 · rw [if_pos hi]
   have hlt : i.toNat < l.length := by omega
   by_cases e : i = j
   · subst e
     rw [show (j : Int).toNat = j by omega, List.getElem?_set_self hj]; simp
   · rw [if_neg e, List.getElem?_set_ne (by omega)]
 · rw [if_neg hi, if_neg (by omega)]
end Go.Proofs.YtndlfijfjglkdaaGreatDoor

namespace Go.Proofs.YtndlfijfjglkdaaGreatDoor
open Go Go.Ab Go.Proofs
end Go.Proofs.YtndlfijfjglkdaaGreatDoor

namespace Go.Proofs.YtndlfijfjglkdaaGreatDoor
open Go Go.Ab Go.Proofs
def shC (l : List Gun) (sh : List Int) (i : Nat) : Int := match l[i]?, sh[i]? with
 | some g, some n => withinV n g.lo g.hi
 | _, _ => 0
def shE (l : List Gun) (sh : List Int) : Int := if sh.length = l.length then firstV ((List.range l.length).map (shC l sh)) else 2
theorem shC_at {l : List Gun} {sh : List Int} {i : Nat} (h : i < l.length) (h2 : i < sh.length) : shC l sh i = withinV sh[i] l[i].lo l[i].hi := by
 unfold shC
 rw [List.getElem?_eq_getElem h, List.getElem?_eq_getElem h2]
theorem shE_ok {l : List Gun} {sh : List Int} (he : sh.length = l.length) (hb : ∀ j, j < l.length → shC l sh j = 0) : shE l sh = 0 := by
 unfold shE
 rw [if_pos he, firstV_map_zero hb]
theorem shE_zero {l : List Gun} {sh : List Int} (h : shE l sh = 0) : sh.length = l.length ∧ ∀ i (hi : i < l.length) (h2 : i < sh.length), l[i].lo ≤ sh[i] ∧ sh[i] ≤ l[i].hi := by
 unfold shE at h
 split at h
 · rename_i he
   refine ⟨he, fun i hi h2 => ?_⟩
   have := (firstV_zero _).1 h (shC l sh i) (List.mem_map.2 ⟨i, List.mem_range.2 hi, rfl⟩)
   rw [shC_at hi h2] at this
   exact (withinV_zero _ _ _).1 this
 · cases h
end Go.Proofs.YtndlfijfjglkdaaGreatDoor

namespace Go.Proofs.YtndlfijfjglkdaaGreatDoor
open Go Go.Ab Go.Proofs
theorem w134 (i : Int) : AC Tryz.prog 134 [iv i] [] 10 (.bool true) [] 10 := by
 have hr := recT_ok (P := Tryz.prog) (l := []) (by simp)
 refine AC.pure Tryz.func134 rfl (by kernel_rfl) rfl [] rfl ?_
 refine E.seq ?_
 refine E.reg hr (by simp; rfl) ?_
 refine E.seq ?_
 refine E.reg hr (by simp; rfl) ?_
 refine E.ret ?_
 exact pureK.ret rfl rfl (by simp) (by repeat first | exact sub_refl _ | refine sub_cons rfl ?_)
def g134 (args : List Value) (H : Heap) (n : Nat) : R := match args with
 | [.int .i64 _] => some (.bool true, H, n)
 | _ => none
theorem ok134 : EntOk Tryz.prog (134, g134) := by
 intro args H n v H' n' h'
 simp only [g134] at h'
 split at h'
 · injection h' with h'; injection h' with e1 e2; injection e2 with e2 e3; subst e1 e2 e3
   exact AC.liftP rfl (Part.plain (by simp) [] (by simp [Seen]) gsz ⟨_, _, w134 _⟩)
 · cases h'
def vAt (l : List Gun) (i : Nat) : Int := match l[i]? with
 | some g => g.v
 | none => 0
theorem arrL_length (d : ByteArray) (l : List Gun) : (arrL d l).length = l.length := by simp [arrL]
theorem arrL_bounds {l : List Gun} (hst : strE l = 0) (d : ByteArray) : ∀ x ∈ arrL d l, 0 ≤ x ∧ x ≤ 149 := by
 intro x hx
 obtain ⟨g, hg, rfl⟩ := List.mem_map.1 hx
 have hb := strE_inB hst
 obtain ⟨i, hi, rfl⟩ := List.getElem_of_mem hg
 have h1 := (strE_len hst).1
 have h2 := co_bound (F := fOf d) hb (List.getElem_mem hi)
 have h3 := least_bound (F := fOf d) hb h1
 obtain ⟨_, _, _, _, h4, h5⟩ := hb l[i] (List.getElem_mem hi)
 have h6 := minN_le (l.map (coG (fOf d))) (l.length - 1) (by simp; omega) i (by simpa using hi) (by omega)
 rw [List.getElem_map] at h6
 have h7 : leastV (fOf d) l ≤ coG (fOf d) l[i] := h6
 unfold arrG
 have e : (coG (fOf d) l[i] - leastV (fOf d) l).tdiv 15 = (coG (fOf d) l[i] - leastV (fOf d) l) / 15 := Int.tdiv_eq_ediv_of_nonneg (by omega)
 rw [e]
 omega
end Go.Proofs.YtndlfijfjglkdaaGreatDoor

namespace Go.Proofs.YtndlfijfjglkdaaGreatDoor
open Go Go.Ab Go.Proofs
end Go.Proofs.YtndlfijfjglkdaaGreatDoor

namespace Go.Ab
open Go
theorem Part.rowOneG {P : Program} {H : Heap} {n : Nat} {R : List Value → Heap → Nat → Prop} (mk : Value → Value → List Value) (hmk : ∀ φ φ0 s s0 u u0, den φ0 s0 = den φ s → den φ0 u0 = den φ u → denL φ0 (mk s0 u0) = denL φ (mk s u)) (hms : ∀ (p : Nat → Prop) s u, sc p s → sc p u → scL p (mk s u))
   {b len skip sz : Nat} {cs : List Value} (hb : rowOf H b = some (cs, sz)) (haf : afL cs = true) {a2 : Addr} {len2 cap2 m2 : Nat} {cs2 : List Value} (hf2 : flat a2 = true) (hc2 : cellsA H a2.block a2.off m2 = some cs2) (haf2 : afL cs2 = true) (G : Heap) (hG : Seen P H G) {N : Nat} (hN : P.globals.size = N)
   (h : ∀ c2, R (mk (.slice (some ⟨N, 0, some 0⟩) len skip) (.slice (some ⟨N + 1, a2.off, none⟩) len2 c2)) ((N + 1, .inp a2.off cs2) :: (N, .row cs sz) :: G) (N + 2)) : Part P (mk (.slice (some ⟨b, 0, some 0⟩) len skip) (.slice (some a2) len2 cap2)) H n R :=
 Part.genG [⟨b, .row cs sz⟩, ⟨a2.block, .inp a2.off cs2⟩] G hG hN (fun v hv => by
   rcases List.mem_cons.1 hv with rfl | hv
   · exact ⟨hb, haf⟩
   · rw [List.mem_singleton] at hv
     subst hv
     exact ⟨⟨m2, hc2⟩, haf2⟩) fun φ => by
   obtain ⟨c2', hd2⟩ := den_flat φ (ad := a2) (l := len2) (c := cap2) hf2
   refine ⟨_, fun φ0 hl => hmk φ φ0 _ (.slice (some ⟨N, 0, some 0⟩) len skip) _ (.slice (some ⟨N + 1, a2.off, none⟩) len2 c2') ?_ ?_, hms _ _ _ (show N < N + 2 by omega) (show N + 1 < N + 2 by omega), h c2'⟩
   · have h0 := hl 0 _ rfl
     simp only [Nat.add_zero] at h0
     simp only [den, h0.1, h0.2]
   · have h1 := (hl 1 _ rfl).1
     rw [hd2]; simp only [den, h1]
end Go.Ab

namespace Go.Proofs.YtndlfijfjglkdaaGreatDoor
open Go Go.Ab Go.Proofs
theorem pulse256 {v s i : Int} (hv : 1 ≤ v ∧ v ≤ 64) : -256 ≤ pulseV v s i ∧ pulseV v s i ≤ 256 := by
 have a4 : IntKind.i64.wrap (4 * v) = 4 * v := W_in (by omega) (by omega)
 have a2 : IntKind.i64.wrap (2 * v) = 2 * v := W_in (by omega) (by omega)
 have am2 : IntKind.i64.wrap (0 - 2 * v) = 0 - 2 * v := W_in (by omega) (by omega)
 unfold pulseV
 rw [a4, a2, am2]
 split
 · omega
 · split
   · omega
   · split
     · omega
     · split <;> omega
theorem addAll_get {l : List Int} {b v s : Int} (hv : 1 ≤ v ∧ v ≤ 64) (hs : 0 ≤ s ∧ s ≤ 4) (hb : 0 ≤ b ∧ b ≤ 4096) {j : Nat} (hj : j < l.length) {x : Int} (hx : l[j]? = some x) (hxb : -100000 ≤ x ∧ x ≤ 100000) : (addAll l b v s)[j]? = some (x + pulseV v s (j - b)) := by
 obtain ⟨hp, hp1, hp2⟩ := period_bounds hv hs
 have hq : IntKind.i64.wrap ((periodV v s).tdiv 2) = periodV v s / 2 := by rw [Int.tdiv_eq_ediv_of_nonneg (by omega), W_in (by omega) (by omega)]
 have h2p : IntKind.i64.wrap (2 * periodV v s) = 2 * periodV v s := W_in (by omega) (by omega)
 have a4 : IntKind.i64.wrap (4 * v) = 4 * v := W_in (by omega) (by omega)
 have a2 : IntKind.i64.wrap (2 * v) = 2 * v := W_in (by omega) (by omega)
 have am : IntKind.i64.wrap (-2 * v) = -2 * v := W_in (by omega) (by omega)
 have am2 : IntKind.i64.wrap (0 - 2 * v) = 0 - 2 * v := W_in (by omega) (by omega)
 unfold addAll
 rw [addAt_get (by omega) (by simpa using hj), addAt_get (by omega) (by simpa using hj), addAt_get (by omega) (by simpa using hj), addAt_get (by omega) hj, hx]
 unfold pulseV
 rw [hq, h2p, a4, a2, am, am2]
 generalize periodV v s = p at *
 have wr : ∀ y : Int, -200000 ≤ y → y ≤ 200000 → IntKind.i64.wrap y = y := fun y h1 h2 => W_in (by omega) (by omega)
 by_cases c0 : (j : Int) - b = 0
 · rw [if_pos c0, if_neg (by omega), if_neg (by omega), if_neg (by omega), if_pos (by omega)]; simp only [Option.getD_some]; rw [wr _ (by omega) (by omega)]
 · rw [if_neg c0]
   by_cases c1 : (j : Int) - b = p / 2
   · rw [if_pos c1, if_neg (by omega), if_neg (by omega), if_pos (by omega), if_neg (by omega)]; simp only [Option.getD_some]; rw [wr _ (by omega) (by omega)]; congr 1; omega
   · rw [if_neg c1]
     by_cases c2 : (j : Int) - b = p
     · rw [if_pos c2, if_neg (by omega), if_pos (by omega), if_neg (by omega), if_neg (by omega)]; simp only [Option.getD_some]; rw [wr _ (by omega) (by omega)]
     · rw [if_neg c2]
       by_cases c3 : (j : Int) - b = 2 * p
       · rw [if_pos c3, if_pos (by omega), if_neg (by omega), if_neg (by omega), if_neg (by omega)]; simp only [Option.getD_some]; rw [wr _ (by omega) (by omega)]
       · rw [if_neg c3, if_neg (by omega), if_neg (by omega), if_neg (by omega), if_neg (by omega)]; simp
theorem vAt_at {l : List Gun} {i : Nat} (h : i < l.length) : vAt l i = l[i].v := by
 unfold vAt
 rw [List.getElem?_eq_getElem h]
theorem getD_at {l : List Int} {i : Nat} (h : i < l.length) : l.getD i 0 = l[i] := by
 rw [List.getD_eq_getElem?_getD, List.getElem?_eq_getElem h]; rfl
theorem names_tx (l c : Nat) (e : Int) : Names1 fun m => .tuple #[.slice (some ⟨m, 0, some 0⟩) l c, iv e] := ⟨fun φ ψ m n h1 h2 => by simp [den, denL, h1, h2], fun p n h => by simp [sc, scL, h]⟩
end Go.Proofs.YtndlfijfjglkdaaGreatDoor

namespace Go.Proofs.YtndlfijfjglkdaaGreatDoor
open Go Go.Ab Go.Proofs
abbrev bv (n : Int) : Value := .int .u8 n
theorem cv53 (n : Int) : runP Tryz.prog (convert 5 3 (.int .u8 n)) = some (.int .i64 (IntKind.i64.wrap n)) := by kernel_rfl
end Go.Proofs.YtndlfijfjglkdaaGreatDoor

namespace Go.Proofs.YtndlfijfjglkdaaGreatDoor
open Go Go.Ab Go.Proofs
theorem gun_order {l : List Gun} (h : strE l = 0) : ∀ g ∈ l, g.lo ≤ g.hi := by
 intro g hg
 obtain ⟨i, hi, rfl⟩ := List.getElem_of_mem hg
 have hl := strE_len h
 unfold strE at h
 rw [if_neg (by omega), if_neg (by omega)] at h
 have hc := (firstV_zero _).1 h (gunChk l i) (List.mem_map.2 ⟨i, by simpa using hi, rfl⟩)
 rw [gunChk_at hi] at hc
 have h2 := (firstV_zero _).1 hc l[i].err (by simp)
 unfold Gun.err at h2
 have h3 := (firstV_zero _).1 h2 (if l[i].hi < l[i].lo then 11 else 0) (by simp)
 split at h3
 · cases h3
 · omega
end Go.Proofs.YtndlfijfjglkdaaGreatDoor

namespace Go.Proofs.YtndlfijfjglkdaaGreatDoor
open Go Go.Ab Go.Proofs
end Go.Proofs.YtndlfijfjglkdaaGreatDoor

namespace Go.Proofs.YtndlfijfjglkdaaGreatDoor
open Go Go.Ab Go.Proofs
end Go.Proofs.YtndlfijfjglkdaaGreatDoor

namespace Go.Proofs.YtndlfijfjglkdaaGreatDoor
open Go Go.Ab Go.Proofs
end Go.Proofs.YtndlfijfjglkdaaGreatDoor

namespace Go.Proofs.YtndlfijfjglkdaaGreatDoor
open Go Go.Ab Go.Proofs
end Go.Proofs.YtndlfijfjglkdaaGreatDoor

namespace Go.Proofs.YtndlfijfjglkdaaGreatDoor
open Go Go.Ab Go.Proofs
end Go.Proofs.YtndlfijfjglkdaaGreatDoor

namespace Go.Proofs.YtndlfijfjglkdaaGreatDoor
open Go Go.Ab Go.Proofs
end Go.Proofs.YtndlfijfjglkdaaGreatDoor

namespace Go.Ab
open Go
mutual
theorem sc_and {p q : Nat → Prop} : ∀ v, sc p v → sc q v → sc (fun k => p k ∧ q k) v
 | .bool _, _, _ | .int _ _, _, _ | .float _ _, _, _ | .complex _ _ _, _, _ | .string _, _, _ | .nilFunc, _, _ | .nilIface, _, _ | .chan _, _, _ => by simp [sc]
 | .pointer none, _, _ | .slice none _ _, _, _ | .map none, _, _ => by simp [sc]
 | .pointer (some _), h1, h2 => ⟨h1, h2⟩
 | .slice (some _) _ _, h1, h2 => ⟨h1, h2⟩
 | .map (some _), h1, h2 => ⟨h1, h2⟩
 | .func (.yield l) a b, h1, h2 => by
   simp only [sc] at h1 h2 ⊢
   exact ⟨⟨h1.1, h2.1⟩, scL_and _ h1.2.1 h2.2.1, scL_and _ h1.2.2 h2.2.2⟩
 | .func (.func f) a b, h1, h2 | .func (.method f) a b, h1, h2 | .func (.methodOf _ f) a b, h1, h2 | .func (.via _ _ f _) a b, h1, h2 => by
   simp only [sc] at h1 h2 ⊢
   exact ⟨scL_and _ h1.1 h2.1, scL_and _ h1.2 h2.2⟩
 | .iface t v, h1, h2 => by simp only [sc] at h1 h2 ⊢; exact sc_and v h1 h2
 | .agg cs, h1, h2 => by simp only [sc] at h1 h2 ⊢; exact scL_and _ h1 h2
 | .tuple cs, h1, h2 => by simp only [sc] at h1 h2 ⊢; exact scL_and _ h1 h2
theorem scL_and {p q : Nat → Prop} : ∀ vs, scL p vs → scL q vs → scL (fun k => p k ∧ q k) vs
 | [], _, _ => trivial
 | v :: vs, h1, h2 => by simp only [scL] at h1 h2 ⊢; exact ⟨sc_and v h1.1 h2.1, scL_and vs h1.2 h2.2⟩
end
theorem scB_and {p q : Nat → Prop} : ∀ b, scB p b → scB q b → scB (fun k => p k ∧ q k) b
 | .cells cs _, h1, h2 | .ext cs _ _, h1, h2 | .inp _ cs, h1, h2 | .row cs _, h1, h2 | .tab cs, h1, h2 => scL_and cs h1 h2
 | .map _ _, h1, h2 => fun e he => ⟨sc_and _ (h1 e he).1 (h2 e he).1, sc_and _ (h1 e he).2 (h2 e he).2⟩
 | .iter _ _, _, _ | .defd, _, _ => trivial
 | .miter _ _ _ _, h1, h2 => fun r hr => ⟨h1 r hr, h2 r hr⟩
 | .loop .., h1, h2 => ⟨⟨h1.1, h2.1⟩, fun t v hv => sc_and v (h1.2 t v hv) (h2.2 t v hv)⟩
end Go.Ab

namespace Go.Proofs.YtndlfijfjglkdaaGreatDoor
open Go Go.Ab Go.Proofs
end Go.Proofs.YtndlfijfjglkdaaGreatDoor

namespace Go.Proofs.YtndlfijfjglkdaaGreatDoor
open Go Go.Ab Go.Proofs
section
variable (l : List Gun) (d : ByteArray)
def gAt (k : Nat) : Gun := (l[k]?).getD ⟨⟨#[]⟩, 0, 0, 0, 0, 0, 0⟩
theorem gAt_at {k : Nat} (h : k < l.length) : gAt l k = l[k] := by unfold gAt; rw [List.getElem?_eq_getElem h]; rfl
variable {l}
end
end Go.Proofs.YtndlfijfjglkdaaGreatDoor

namespace Go.Proofs.YtndlfijfjglkdaaGreatDoor
open Go Go.Ab Go.Proofs
end Go.Proofs.YtndlfijfjglkdaaGreatDoor

namespace Go.Ab
open Go
attribute [simp] disj backA
end Go.Ab

namespace Go.Proofs.YtndlfijfjglkdaaGreatDoor
open Go Go.Ab Go.Proofs
theorem E.toATc {P : Program} {ro : Option Nat} {c : Code} {s s' : St} {e : Ex} (h : E P s.n ro c s fun e2 s2 => e2 = e ∧ s2.n = s'.n ∧ s2.sz = s'.sz ∧ s2.marks = s'.marks ∧ (∀ x ∈ s'.fr, lk s2.fr x.1 = some x.2) ∧ ∀ x ∈ s'.H, hget s2.H x.1 = some x.2) : AT P ro c s e s' := by
 obtain ⟨e2, s2, hx, rfl, h1, h2, h3, h4, h5⟩ := h
 exact (ATX.at hx).cut h1 h2 h3 (fun t v hv => h4 (t, v) (lk_mem _ _ _ hv)) (fun k b hk => h5 (k, b) (hget_mem _ _ _ hk))
@[simp] theorem scB_cells (p : Nat → Prop) (cs : List Value) (t : TypeId) : scB p (.cells cs t) = scL p cs := rfl
@[simp] theorem scB_ext (p : Nat → Prop) (cs : List Value) (t : TypeId) (sz : Nat) : scB p (.ext cs t sz) = scL p cs := rfl
@[simp] theorem scB_inp (p : Nat → Prop) (o : Nat) (cs : List Value) : scB p (.inp o cs) = scL p cs := rfl
@[simp] theorem scB_row (p : Nat → Prop) (cs : List Value) (sz : Nat) : scB p (.row cs sz) = scL p cs := rfl
@[simp] theorem scB_defd (p : Nat → Prop) : scB p .defd = True := rfl
@[simp] theorem scB_loop {p : Nat → Prop} {ls : LoopState} {pe : Option Code} {fr : Fr} {sz d : Nat} {vs : List Nat} {ps : Array Tmp} {a b : Code} (h1 : p d) (h2 : ∀ x ∈ fr, sc p x.2) : scB p (.loop ls pe fr sz vs ps a b d) = True := eq_true ⟨h1, fun t v hv => h2 (t, v) (lk_mem _ _ _ hv)⟩
end Go.Proofs.YtndlfijfjglkdaaGreatDoor

namespace Go.Proofs.YtndlfijfjglkdaaGreatDoor
open Go Go.Ab Go.Proofs
end Go.Proofs.YtndlfijfjglkdaaGreatDoor

namespace Go.Proofs.YtndlfijfjglkdaaGreatDoor
open Go Go.Ab Go.Proofs
end Go.Proofs.YtndlfijfjglkdaaGreatDoor

namespace Go.Proofs.YtndlfijfjglkdaaGreatDoor
open Go Go.Ab Go.Proofs
end Go.Proofs.YtndlfijfjglkdaaGreatDoor

namespace Go.Ab
open Go
theorem AC.given {P : Program} {f : FuncId} {args : List Value} {H : Heap} {n : Nat} {v : Value} {H' : Heap} {n' : Nat} (h : (∀ k b, hget H k = some b → k < n ∧ scB (· < n) b) → scL (· < n) args → P.globals.size ≤ n → AC P f args H n v H' n') : AC P f args H n v H' n' :=
 fun p φ w hB hsc => h (fun k b hk => ⟨hB.lt k (hB.sm k b hk).1, scB_mono hB.lt _ (hB.sm k b hk).2⟩) (scL_mono hB.lt _ hsc) hB.gn p φ w hB hsc
theorem AC.frame {P : Program} {f : FuncId} {args : List Value} {H H0 H1 H2 : Heap} {n n' : Nat} {v : Value} (h : AC P f args H0 n v H1 n') (hsub : ∀ k b, hget H0 k = some b → hget H k = some b)
   (h2 : ∀ k b, hget H2 k = some b → hget H1 k = some b ∨ (hget H k = some b ∧ hget H0 k = none)) : AC P f args H n v H2 n' := by
 intro p φ w hB hsc
 have hB0 : Base P p φ n (hget H0) w [] act0 := ⟨hB.rel.sub hsub, hB.lt, hB.gl, hB.gn, fun k b hk => hB.sm k b (hsub k b hk), fun t v hv => by simp [lk] at hv, fun t v hv => by simp [lk] at hv⟩
 have key : ∀ φ' w', Dn P p φ n (hget H0) w v n' (hget H1) φ' w' → Dn P p φ n (hget H) w v n' (hget H2) φ' w' := by
   intro φ' w' hd
   obtain ⟨hsm, hscv, hst⟩ := hd
   have hagr : Agr p φ φ' := fun k hk => hst.only k (.inl (hB.lt k hk))
   have hloc : ∀ k b, hget H k = some b → φ'.loc k = φ.loc k := fun k b hk => (hagr k (hB.sm k b hk).1).1
   have hkeep : ∀ k b, hget H k = some b → hget H0 k = none → w'.heap[φ.loc k]? = w.heap[φ.loc k]? := fun k b hk hn => hst.frm.keep _ (hB.rel.lt hk) fun j x hj ho => hB.rel.apart j x k b (hsub j x hj) hk (fun e => by subst e; rw [hn] at hj; cases hj) ho
   refine ⟨fun k b hk => ?_, hscv, hst.le, hst.only, ⟨fun k b hk => ?_, fun k b k' b' g1 g2 hne ho => ?_, hst.rel.glob⟩, fun k b hk ho => ?_, fun k b hk ho => ?_, ⟨hst.frm.os, hst.frm.tape, hst.frm.output, hst.frm.size, fun b hb hx => hst.frm.keep b hb fun k x hk ho => hx k x (hsub k x hk) ho⟩⟩
   · rcases h2 k b hk with h | ⟨h, _⟩
     · exact hsm k b h
     · exact ⟨.inl (hB.sm k b h).1, scB_mono (fun _ h => .inl h) _ (hB.sm k b h).2⟩
   · rcases h2 k b hk with h | ⟨h, hn⟩
     · exact hst.rel.blk k b h
     · rw [hloc k b h, hkeep k b h hn]
       exact (hB.rel.blk k b h).congr hagr (hB.sm k b h).1 (hB.sm k b h).2
   · rcases h2 k b g1 with h | ⟨h, hn⟩ <;> rcases h2 k' b' g2 with h' | ⟨h', hn'⟩
     · exact hst.rel.apart k b k' b' h h' hne ho
     · rw [hloc k' b' h']
       rcases hst.new k b h ho with g | ⟨k0, b0, e1, e2, e3⟩
       · have := hB.rel.lt h'
         omega
       · rw [← e3]
         exact hB.rel.apart k0 b0 k' b' (hsub _ _ e1) h' (fun e => by subst e; rw [hn'] at e1; cases e1) e2
     · rw [hloc k b h]
       cases hb : b'.own with
       | true =>
         rcases hst.new k' b' h' hb with g | ⟨k0, b0, e1, e2, e3⟩
         · have := hB.rel.lt h
           omega
         · rw [← e3]
           exact hB.rel.apart k b k0 b0 h (hsub _ _ e1) (fun e => by subst e; rw [hn] at e1; cases e1) ho
       | false =>
         have e1 := hst.inp k' b' h' hb
         rw [hloc k' b' (hsub _ _ e1)]
         exact hB.rel.apart k b k' b' h (hsub _ _ e1) hne ho
     · rw [hloc k b h, hloc k' b' h']
       exact hB.rel.apart k b k' b' h h' hne ho
   · rcases h2 k b hk with h | ⟨h, _⟩
     · rcases hst.new k b h ho with g | ⟨k0, b0, e1, e2, e3⟩
       · exact .inl g
       · exact .inr ⟨k0, b0, hsub _ _ e1, e2, e3⟩
     · exact .inr ⟨k, b, h, ho, (hloc k b h).symm⟩
   · rcases h2 k b hk with h | ⟨h, _⟩
     · exact hsub _ _ (hst.inp k b h ho)
     · exact h
 rcases h p φ w hB0 hsc with ⟨h1, h3⟩ | ⟨φ', w', h1, h3⟩
 · refine .inl ⟨h1, CallsIn.mono h3 fun e w' hh => ?_⟩
   obtain ⟨φ', he, hd⟩ := hh
   exact ⟨φ', he, key φ' w' hd⟩
 · exact .inr ⟨φ', w', h1, key φ' w' h3⟩
theorem AC.ren {P : Program} {f : FuncId} {args : List Value} {H H1 H2 : Heap} {n n1 n2 : Nat} {u v : Value} (ρ : Nat → Nat) (h : AC P f args H n u H1 n1) (hlow : ∀ k, k < n → ρ k = k) (hle : n ≤ n2) (hv : u = Ab.ren ρ v) (hsv : sc (· < n2) v)
   (hH : ∀ k b, hget H2 k = some b → (hget H k = some b ∧ hget H1 k = some b) ∨ (n ≤ k ∧ k < n2 ∧ n ≤ ρ k ∧ hget H1 (ρ k) = some (renB ρ b) ∧ scB (· < n2) b ∧ carried b ∧ b.own = true))
   (hinj : ∀ j b k c, n ≤ j → n ≤ k → hget H2 j = some b → hget H2 k = some c → ρ j = ρ k → j = k) : AC P f args H n v H2 n2 := by
 intro p φ w hB hsc
 have key : ∀ φ' w', Dn P p φ n (hget H) w u n1 (hget H1) φ' w' → ∃ φ2, den φ' u = den φ2 v ∧ Dn P p φ n (hget H) w v n2 (hget H2) φ2 w' := by
   intro φ' w' hd
   obtain ⟨hsm, hscu, hst⟩ := hd
   let φ2 : Vl := ⟨fun k => if n ≤ k ∧ k < n2 then φ'.loc (ρ k) else φ.loc k, fun k => if n ≤ k ∧ k < n2 then φ'.cap (ρ k) else φ.cap k⟩
   have hoth : ∀ k, ¬ (n ≤ k ∧ k < n2) → φ2.loc k = φ.loc k ∧ φ2.cap k = φ.cap k := fun k hk => by simp only [φ2]; rw [if_neg hk, if_neg hk]; exact ⟨rfl, rfl⟩
   have hmid : ∀ k, n ≤ k ∧ k < n2 → φ2.loc k = φ'.loc (ρ k) ∧ φ2.cap k = φ'.cap (ρ k) := fun k hk => by simp only [φ2]; rw [if_pos hk, if_pos hk]; exact ⟨rfl, rfl⟩
   have hrn : Rn (Nx p n n2) ρ φ' φ2 := fun k hk => by
     rcases hk with hk | hk
     · have hk0 := hB.lt k hk
       rw [(hoth k (by omega)).1, (hoth k (by omega)).2, hlow k hk0, (hst.only k (.inl hk0)).1, (hst.only k (.inl hk0)).2]
       exact ⟨rfl, rfl⟩
     · exact hmid k hk
   have hnx : ∀ k, Nx p n n1 (ρ k) ∧ k < n2 → Nx p n n2 k := fun k hk => by
     by_cases h0 : k < n
     · have := hk.1
       rw [hlow k h0] at this
       rcases this with h1 | h1
       · exact .inl h1
       · omega
     · exact .inr ⟨by omega, hk.2⟩
   have hscv : sc (Nx p n n2) v := sc_mono hnx v (sc_ren v (hv ▸ hscu) hsv)
   have hagr : Agr p φ φ2 := fun k hk => hoth k (by have := hB.lt k hk; omega)
   have hagr' : Agr p φ' φ2 := fun k hk => by
     have h1 := hagr k hk
     have h2 := hst.only k (.inl (hB.lt k hk))
     exact ⟨h1.1.trans h2.1.symm, h1.2.trans h2.2.symm⟩
   have hone : ∀ k b, hget H2 k = some b → (∃ b', hget H1 (ρ k) = some b' ∧ b'.own = b.own) ∧ φ2.loc k = φ'.loc (ρ k) := fun k b hk => by
     rcases hH k b hk with ⟨h1, h2⟩ | ⟨h1, h2, h3, h4, h5, h6, h7⟩
     · have hp := (hB.sm k b h1).1
       have hk0 := hB.lt k hp
       rw [hlow k hk0]
       exact ⟨⟨b, h2, rfl⟩, (hagr' k hp).1⟩
     · exact ⟨⟨_, h4, renB_own _ _⟩, (hmid k ⟨h1, h2⟩).1⟩
   refine ⟨φ2, by rw [hv]; exact den_ren hrn v hscv, fun k b hk => ?_, hscv, hle, fun k hk => hoth k (by omega), ⟨fun k b hk => ?_, fun k b k' b' g1 g2 hne ho => ?_, fun g hg => ?_⟩, fun k b hk ho => ?_, fun k b hk ho => ?_, hst.frm⟩
   · rcases hH k b hk with ⟨h1, h2⟩ | ⟨h1, h2, h3, h4, h5, h6, h7⟩
     · exact ⟨.inl (hB.sm k b h1).1, scB_mono (fun _ h => .inl h) _ (hB.sm k b h1).2⟩
     · exact ⟨.inr ⟨h1, h2⟩, scB_mono hnx _ (scB_ren b h6 (hsm _ _ h4).2 h5)⟩
   · rw [(hone k b hk).2]
     rcases hH k b hk with ⟨h1, h2⟩ | ⟨h1, h2, h3, h4, h5, h6, h7⟩
     · have hp := hB.sm k b h1
       rw [hlow k (hB.lt k hp.1)]
       exact (hst.rel.blk k b h2).congr hagr' hp.1 hp.2
     · exact BRel.ren hrn (.inr ⟨h1, h2⟩) h6 (scB_mono hnx _ (scB_ren b h6 (hsm _ _ h4).2 h5)) (hst.rel.blk _ _ h4)
   · obtain ⟨⟨c, c1, c2⟩, c3⟩ := hone k b g1
     obtain ⟨⟨d, d1, d2⟩, d3⟩ := hone k' b' g2
     rw [c3, d3]
     refine hst.rel.apart _ _ _ _ c1 d1 (fun e => hne ?_) (c2.trans ho)
     rcases hH k b g1 with ⟨h1, _⟩ | ⟨h1, _, h3, _⟩ <;> rcases hH k' b' g2 with ⟨h1', _⟩ | ⟨h1', _, h3', _⟩
     · have hk0 := hB.lt k (hB.sm k b h1).1
       have hk1 := hB.lt k' (hB.sm k' b' h1').1
       rwa [hlow k hk0, hlow k' hk1] at e
     · have hk0 := hB.lt k (hB.sm k b h1).1
       rw [hlow k hk0] at e
       omega
     · have hk1 := hB.lt k' (hB.sm k' b' h1').1
       rw [hlow k' hk1] at e
       omega
     · exact hinj k b k' b' h1 h1' g1 g2 e
   · rw [(hoth g (by have := hB.gn; omega)).1]; exact hB.rel.glob g hg
   · obtain ⟨⟨c, c1, c2⟩, c3⟩ := hone k b hk
     rw [c3]
     exact hst.new _ _ c1 (c2.trans ho)
   · rcases hH k b hk with ⟨h1, _⟩ | ⟨_, _, _, _, _, _, h7⟩
     · exact h1
     · rw [h7] at ho; cases ho
 rcases h p φ w hB hsc with ⟨h1, h3⟩ | ⟨φ', w', h1, h3⟩
 · refine .inl ⟨h1, CallsIn.mono h3 fun e w' hh => ?_⟩
   obtain ⟨φ', he, hd⟩ := hh
   obtain ⟨φ2, e2, hd2⟩ := key φ' w' hd
   exact ⟨φ2, by rw [he, e2], hd2⟩
 · obtain ⟨φ2, e2, hd2⟩ := key φ' w' h3
   exact .inr ⟨φ2, w', by rw [h1, e2], hd2⟩
def Fresh (n n2 : Nat) (H : Heap) (v : Value) (B : Heap) (u : Value) (H1 : Heap) : Prop :=
 ∃ ρ : Nat → Nat, (∀ k, k < n → ρ k = k) ∧ u = ren ρ v ∧ (∀ k b, hget B k = some b → n ≤ k ∧ k < n2 ∧ n ≤ ρ k ∧ hget H1 (ρ k) = some (renB ρ b) ∧ scB (· < n2) b ∧ carried b ∧ b.own = true) ∧
   (∀ j b k c, hget B j = some b → hget B k = some c → ρ j = ρ k → j = k) ∧ ∀ k b, hget H k = some b → hget H1 k = some b
theorem AC.fresh {P : Program} {f : FuncId} {fn : Func} {c : Code} {args : List Value} {H B : Heap} {n n2 : Nat} {v : Value} (hf : P.funcs[f]? = some fn) (hb : fn.body = some c) (he : enterable P f = true) (hlen : Nat.ble args.length fn.ntmps = true) (vs : List Nat) (hle : n ≤ n2) (hsv : sc (· < n2) v) (hnf : ∀ ρ, af (Ab.ren ρ v) = false)
   (h : E P n none c { fr := argsFr args 0, sz := fn.ntmps, H, n, marks := [], vs } (outK P fn (Fresh n n2 H v B))) : AC P f args H n v (B ++ H) n2 := by
 refine AC.given fun hlt _ _ => ?_
 obtain ⟨u, H1, n1, H3, hAC, ⟨ρ, h1, h2, h3, h4, h5⟩, hh⟩ := AC.out hf hb he hlen vs h
 obtain rfl := hh (by rw [h2]; exact hnf ρ)
 have happ : ∀ k b, hget (B ++ H) k = some b → hget B k = some b ∨ (hget B k = none ∧ hget H k = some b) := by
   clear h3 h4 h
   induction B with
   | nil => intro k b hk; exact .inr ⟨rfl, hk⟩
   | cons x B ih =>
     intro k b hk
     obtain ⟨j, y⟩ := x
     rw [List.cons_append, hget_cons] at hk
     rw [hget_cons]
     by_cases e : j = k
     · rw [if_pos e] at hk ⊢; exact .inl hk
     · rw [if_neg e] at hk ⊢; exact ih k b hk
 refine hAC.ren ρ h1 hle h2 hsv (fun k b hk => ?_) fun j b k c hj hk hb hc e => ?_
 · rcases happ k b hk with h | ⟨_, h⟩
   · exact .inr (h3 k b h)
   · exact .inl ⟨h, h5 k b h⟩
 · rcases happ j b hb with g | ⟨_, g⟩
   · rcases happ k c hc with g' | ⟨_, g'⟩
     · exact h4 j b k c g g' e
     · have := (hlt k c g').1
       omega
   · have := (hlt j b g).1
     omega
theorem Leads.renR {P : Program} {n0 : Nat} {s s2 : St} {A H : Heap} (ρ : Nat → Nat) (hs2 : s2.H = A ++ H) (hold : ∀ k b, hget H k = some b → k < n0 ∧ scB (· < n0) b) (hkeep : ∀ k b, hget H k = some b → hget s.H k = some b) (hlow : ∀ k, k < n0 → ρ k = k) (hle : n0 ≤ s2.n) (hz : s2.sz = s.sz) (hm : s.marks = [] ∧ s2.marks = [])
   (hf : ∀ t v, lk s2.fr t = some v → (lk s.fr t = some v ∧ sc (· < n0) v) ∨ (lk s.fr t = some (Ab.ren ρ v) ∧ sc (· < s2.n) v))
   (hA : ∀ x ∈ A, n0 ≤ x.1 ∧ x.1 < s2.n ∧ n0 ≤ ρ x.1 ∧ hget s.H (ρ x.1) = some (renB ρ x.2) ∧ scB (· < s2.n) x.2 ∧ carried x.2 ∧ x.2.own = true) (hinj : ∀ x ∈ A, ∀ y ∈ A, ρ x.1 = ρ y.1 → x.1 = y.1) : Leads P n0 s s2 := by
 intro p φ M w0 hg hp a w φ1 hS hs
 let φ2 : Vl := ⟨fun k => if n0 ≤ k ∧ k < s2.n then φ1.loc (ρ k) else φ.loc k, fun k => if n0 ≤ k ∧ k < s2.n then φ1.cap (ρ k) else φ.cap k⟩
 have hl2 : ∀ k, k < n0 → φ2.loc k = φ.loc k ∧ φ2.cap k = φ.cap k := fun k hk => by simp only [φ2]; rw [if_neg (by omega), if_neg (by omega)]; exact ⟨rfl, rfl⟩
 have hmid : ∀ k, n0 ≤ k → k < s2.n → φ2.loc k = φ1.loc (ρ k) ∧ φ2.cap k = φ1.cap (ρ k) := fun k h1 h2 => by simp only [φ2]; rw [if_pos ⟨h1, h2⟩, if_pos ⟨h1, h2⟩]; exact ⟨rfl, rfl⟩
 have hrn : Rn (Nx p n0 s2.n) ρ φ1 φ2 := fun k hk => by
   rcases hk with hk | hk
   · have hk0 := hp k hk
     rw [(hl2 k hk0).1, (hl2 k hk0).2, hlow k hk0, (hs.only k (.inl hk0)).1, (hs.only k (.inl hk0)).2]
     exact ⟨rfl, rfl⟩
   · exact hmid k hk.1 hk.2
 have hnx : ∀ k, Nx p n0 s.n (ρ k) ∧ k < s2.n → Nx p n0 s2.n k := fun k hk => by
   by_cases h0 : k < n0
   · have := hk.1
     rw [hlow k h0] at this
     rcases this with h1 | h1
     · exact .inl h1
     · omega
   · exact .inr ⟨by omega, hk.2⟩
 have hpl : ∀ k, Nx p n0 s.n k ∧ k < n0 → p k := fun k hk => by
   rcases hk.1 with h1 | h1
   · exact h1
   · omega
 have hagr : Agr p φ1 φ2 := fun k hk => by
   have hk0 := hp k hk
   rw [(hl2 k hk0).1, (hl2 k hk0).2, (hs.only k (.inl hk0)).1, (hs.only k (.inl hk0)).2]
   exact ⟨rfl, rfl⟩
 have hM : ∀ k b, hget s2.H k = some b → ((k, b) ∈ A) ∨ hget H k = some b := by
   rw [hs2]
   clear hA hs2 hinj
   induction A with
   | nil => intro k b hk; exact .inr hk
   | cons x A ih =>
     intro k b hk
     obtain ⟨j, y⟩ := x
     rw [List.cons_append, hget_cons] at hk
     by_cases e : j = k
     · rw [if_pos e] at hk; injection hk with hk; subst e hk; exact .inl (List.mem_cons_self ..)
     · rw [if_neg e] at hk
       rcases ih k b hk with h | h
       · exact .inl (List.mem_cons_of_mem _ h)
       · exact .inr h
 have old : ∀ k b, hget H k = some b → p k ∧ scB p b ∧ hget s.H k = some b ∧ k < n0 := fun k b hk => by
   obtain ⟨h1, h2⟩ := hold k b hk
   have h3 := hkeep k b hk
   have h4 := hS.base.sm k b h3
   exact ⟨hpl k ⟨h4.1, h1⟩, scB_mono hpl _ (scB_and b h4.2 h2), h3, h1⟩
 have hone : ∀ k b, hget s2.H k = some b → Nx p n0 s2.n k ∧ scB (Nx p n0 s2.n) b ∧ (∃ b', hget s.H (ρ k) = some b' ∧ b'.own = b.own) ∧ φ2.loc k = φ1.loc (ρ k) ∧ BRel P φ2 k b w.heap[φ1.loc (ρ k)]? := fun k b hk => by
   rcases hM k b hk with h | h
   · obtain ⟨h1, h2, _, h3, h4, h5, h6⟩ := hA (k, b) h
     have hn' : Nx p n0 s2.n k := .inr ⟨h1, h2⟩
     have hsc := scB_mono hnx _ (scB_ren b h5 (hS.base.sm _ _ h3).2 h4)
     exact ⟨hn', hsc, ⟨_, h3, renB_own _ _⟩, (hrn k hn').1, BRel.ren hrn hn' h5 hsc (hS.base.rel.blk _ _ h3)⟩
   · obtain ⟨h1, h2, h3, h4⟩ := old k b h
     have e : ρ k = k := hlow k h4
     rw [e]
     exact ⟨.inl h1, scB_mono (fun _ h => .inl h) _ h2, ⟨b, h3, rfl⟩, (hagr k h1).1, (hS.base.rel.blk k b h3).congr hagr h1 h2⟩
 have hlt : ∀ k, Nx p n0 s2.n k → k < s2.n := fun k hk => Nx.lt hp hle hk
 have hrinj : ∀ k b k' b', hget s2.H k = some b → hget s2.H k' = some b' → ρ k = ρ k' → k = k' := fun k b k' b' g1 g2 e => by
   rcases hM k b g1 with h | h <;> rcases hM k' b' g2 with h' | h'
   · exact hinj (k, b) h (k', b') h' e
   · have h1 := (hA (k, b) h).2.2.1
     have h3 := (old k' b' h').2.2.2
     rw [hlow k' h3] at e
     dsimp only at h1
     omega
   · have h1 := (hA (k', b') h').2.2.1
     have h3 := (old k b h).2.2.2
     rw [hlow k h3] at e
     dsimp only at h1
     omega
   · have h3 := (old k b h).2.2.2
     have h4 := (old k' b' h').2.2.2
     rwa [hlow k h3, hlow k' h4] at e
 have hrel : HRel P φ2 (hget s2.H) w := by
   refine ⟨fun k b hk => ?_, fun k b k' b' h1 h2 hne ho => ?_, fun g hg' => ?_⟩
   · obtain ⟨_, _, _, h4, h5⟩ := hone k b hk
     rw [h4]; exact h5
   · obtain ⟨_, _, ⟨c, c1, c2⟩, c3, _⟩ := hone k b h1
     obtain ⟨_, _, ⟨d, d1, _⟩, d3, _⟩ := hone k' b' h2
     rw [c3, d3]
     exact hS.base.rel.apart _ _ _ _ c1 d1 (fun e => hne (hrinj k b k' b' h1 h2 e)) (c2.trans ho)
   · have := hp g (hg g hg')
     rw [(hl2 g this).1, ← (hs.only g (.inl this)).1]
     exact hS.base.rel.glob g hg'
 have hfr : ∀ t v, lk s2.fr t = some v → ∃ u, lk s.fr t = some u ∧ den φ1 u = den φ2 v ∧ sc (Nx p n0 s2.n) v := fun t v hv => by
   rcases hf t v hv with ⟨h1, h2⟩ | ⟨h1, h2⟩
   · have hsf := hS.base.sf t _ h1
     have hsp : sc p v := sc_mono hpl v (sc_and v hsf h2)
     exact ⟨v, h1, (den_congr hagr v hsp).symm, sc_mono (fun _ h => .inl h) v hsp⟩
   · have hsf := hS.base.sf t _ h1
     have hsv : sc (Nx p n0 s2.n) v := sc_mono hnx v (sc_ren v hsf h2)
     exact ⟨_, h1, den_ren hrn v hsv, hsv⟩
 refine ⟨φ2, ⟨⟨hrel, hlt, fun g hg' => .inl (hg g hg'), ?_, fun k b hk => ⟨(hone k b hk).1, (hone k b hk).2.1⟩, fun t v hv => ?_, fun t v hv => ?_⟩, ?_, ?_, ?_⟩, hle, fun k hk => ?_, hrel, fun k b hk ho => ?_, fun k b hk ho => ?_, hs.frm⟩
 · refine Nat.le_of_not_lt fun hc => ?_
   have := hp _ (hg _ hc)
   omega
 · obtain ⟨u, h1, h2, _⟩ := hfr t v hv
   rw [hS.base.ar t _ h1, h2]
 · exact (hfr t v hv).choose_spec.2.2
 · rw [hz]; exact hS.size
 · rw [hm.2, hS.defs, hm.1]; rfl
 · rw [hm.2]; simp
 · rcases hk with hk | hk
   · exact hl2 k hk
   · simp only [φ2]; rw [if_neg (by omega), if_neg (by omega)]; exact ⟨rfl, rfl⟩
 · obtain ⟨_, _, ⟨c, c1, c2⟩, c3, _⟩ := hone k b hk
   rw [c3]
   exact hs.new _ _ c1 (c2.trans ho)
 · rcases hM k b hk with h | h
   · rw [(hA (k, b) h).2.2.2.2.2.2] at ho; cases ho
   · exact hs.inp k b (hkeep k b h) ho
theorem Leads.renN {P : Program} {n0 : Nat} {s s2 : St} {A H : Heap} (olds : List Nat) (hs2 : s2.H = A ++ H) (hold : ∀ k b, hget H k = some b → k < n0 ∧ scB (· < n0) b) (hkeep : ∀ k b, hget H k = some b → hget s.H k = some b) (ho : oldsOk n0 s.n olds = true) (hn : s2.n = n0 + olds.length) (hz : s2.sz = s.sz) (hm : s.marks = [] ∧ s2.marks = [])
   (hf : ∀ x ∈ s2.fr, (lk s.fr x.1 = some x.2 ∧ sc (· < n0) x.2) ∨ (lk s.fr x.1 = some (Ab.ren (rnm n0 olds) x.2) ∧ sc (· < s2.n) x.2))
   (hA : ∀ x ∈ A, n0 ≤ x.1 ∧ x.1 < s2.n ∧ hget s.H (rnm n0 olds x.1) = some (renB (rnm n0 olds) x.2) ∧ scB (· < s2.n) x.2 ∧ carried x.2 ∧ x.2.own = true) : Leads P n0 s s2 := by
 obtain ⟨hk, hd⟩ := oldsOk_spec olds ho
 have hlow : ∀ k, k < n0 → rnm n0 olds k = k := fun k h => by unfold rnm; rw [if_pos h]
 have hget' : ∀ k, n0 ≤ k → k < s2.n → ∃ h : k - n0 < olds.length, rnm n0 olds k = olds[k - n0] := fun k h1 h2 => by
   refine ⟨by omega, ?_⟩
   unfold rnm
   rw [if_neg (by omega), List.getD_eq_getElem?_getD, List.getElem?_eq_getElem (by omega)]
   rfl
 have hhigh : ∀ k, n0 ≤ k → k < s2.n → n0 ≤ rnm n0 olds k ∧ rnm n0 olds k < s.n := fun k h1 h2 => by
   obtain ⟨h, e⟩ := hget' k h1 h2
   rw [e]; exact hk _ (List.getElem_mem h)
 have hinj : ∀ j k, n0 ≤ j → j < s2.n → n0 ≤ k → k < s2.n → rnm n0 olds j = rnm n0 olds k → j = k := fun j k a1 a2 b1 b2 he => by
   obtain ⟨h, e⟩ := hget' j a1 a2
   obtain ⟨h', e'⟩ := hget' k b1 b2
   rw [e, e'] at he
   have hne : ∀ (x y : Nat) (hx : x < olds.length) (hy : y < olds.length), x < y → olds[x] ≠ olds[y] := fun x y hx hy hlt => List.pairwise_iff_getElem.1 hd x y hx hy hlt
   rcases Nat.lt_trichotomy (j - n0) (k - n0) with hlt | heq | hlt
   · exact absurd he (hne _ _ _ _ hlt)
   · omega
   · exact absurd he.symm (hne _ _ _ _ hlt)
 refine Leads.renR (rnm n0 olds) hs2 hold hkeep hlow (by omega) hz hm (fun t v hv => hf (t, v) (lk_mem _ _ _ hv)) (fun x hx => ?_) fun x hx y hy e => ?_
 · obtain ⟨h1, h2, h3, h4, h5, h6⟩ := hA x hx
   exact ⟨h1, h2, (hhigh _ h1 h2).1, h3, h4, h5, h6⟩
 · obtain ⟨h1, h2, _⟩ := hA x hx
   obtain ⟨h1', h2', _⟩ := hA y hy
   exact hinj _ _ h1 h2 h1' h2' e
end Go.Ab
