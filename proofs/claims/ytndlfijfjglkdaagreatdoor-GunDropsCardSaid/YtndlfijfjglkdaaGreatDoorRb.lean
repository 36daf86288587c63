/-
Contracts and plain reckonings behind the law GunDrops, part 2 of 8 (each under the conditions in its statement).
-/
import Derived.Test.YtndlfijfjglkdaaGreatDoorRa
import Derived.Test.YtndlfijfjglkdaaGreatDoorFa
namespace Go.Proofs.YtndlfijfjglkdaaGreatDoor
open Go Go.Ab Go.Proofs
def strsOf : List Value → Option (List ByteArray)
 | [] => some []
 | .string n :: vs => (strsOf vs).map (n :: ·)
 | _ => none
theorem strsOf_ok : ∀ (cs : List Value) (l : List ByteArray), strsOf cs = some l → cs = l.map sv
 | [], l, h => by simp [strsOf] at h; subst h; rfl
 | c :: cs, l, h => by
   unfold strsOf at h
   split at h
   · rename_i h1; cases h1
   · rename_i n vs h1
     injection h1 with h1 h2; subst h1 h2
     rw [Option.map_eq_some_iff] at h
     obtain ⟨l', h2, h3⟩ := h
     subst h3
     rw [strsOf_ok _ _ h2]; rfl
   · cases h
theorem strsOf_sv : ∀ l : List ByteArray, strsOf (l.map sv) = some l
 | [] => rfl
 | x :: l => by simp [strsOf, strsOf_sv l]
def strsAt (H : Heap) (a : Addr) (len : Nat) : Option (List ByteArray) := if flat a && Nat.blt len 2147483648 then (cellsA H a.block a.off len).bind strsOf else none
theorem strsAt_ok {H : Heap} {a : Addr} {len : Nat} {l : List ByteArray} (h : strsAt H a len = some l) : flat a = true ∧ cellsA H a.block a.off len = some (l.map sv) ∧ l.length = len ∧ l.length < 2 ^ 31 := by
 unfold strsAt at h
 split at h
 · rename_i hf
   rw [Bool.and_eq_true] at hf
   rw [Option.bind_eq_some_iff] at h
   obtain ⟨cs, h1, h2⟩ := h
   have h3 := strsOf_ok _ _ h2
   subst h3
   have h4 := (cellsA_at h1).1
   rw [List.length_map] at h4
   exact ⟨hf.1, h1, h4, by have := (blt_iff _ _).1 hf.2; omega⟩
 · cases h
def hasW (s : ByteArray) (l : List ByteArray) : Bool := l.any fun x => decide (x = s)
theorem hasW_iff {s : ByteArray} {l : List ByteArray} : hasW s l = true ↔ s ∈ l := by
 unfold hasW
 rw [List.any_eq_true]
 exact ⟨fun ⟨x, h1, h2⟩ => of_decide_eq_true h2 ▸ h1, fun h => ⟨s, h, decide_eq_true rfl⟩⟩
theorem w67 (l : List ByteArray) (o c : Nat) (s : ByteArray) (hl : l.length < 2 ^ 31) : AC Tryz.prog 67 [.slice (some ⟨10, o, none⟩) l.length c, sv s] [(10, .inp o (l.map sv))] 11 (.bool (hasW s l)) [(10, .inp o (l.map sv))] 11 := by
 have hr := recT_ok (P := Tryz.prog) (l := []) (by simp)
 refine AC.pure Tryz.func67 rfl (by kernel_rfl) rfl [0, 1, 5] rfl ?_
 refine E.seq (E.reg hr (by simp; rfl) ?_)
 refine E.seq (E.seq (E.reg hr (by simp; rfl) ?_))
 refine E.block (E.loop ?_)
 refine EL.ind (fun i : Nat => { fr := [(0, .slice (some ⟨10, o, none⟩) l.length c), (1, sv s), (5, iv i)], sz := 18, H := [(10, .inp o (l.map sv))], n := 11, marks := [], vs := [0, 1, 5] }) (fun i => l.length - i) (fun i => i ≤ l.length ∧ ∀ j, j < i → ∀ h : j < l.length, l[j] ≠ s) 0 (.less rfl rfl rfl (by simp) (by simp)) ⟨Nat.zero_le _, fun j hj => absurd hj (by omega)⟩ (fun _ => rfl) ?_
 intro i ⟨hi, hg⟩
 have hw : IntKind.i64.wrap ((i : Int) + 1) = (i : Int) + 1 := W_in (by omega) (by omega)
 refine E.seq (E.seq (E.reg hr (by simp; rfl) ?_))
 refine E.cond (by rfl) (fun h => ?_) (fun h => ?_)
 · simp at h
   refine E.skip (E.seq ?_)
   refine E.block (E.seq (E.reg hr (by simp [h]; rfl) ?_))
   refine E.cond (by rfl) (fun h2 => ?_) (fun h2 => ?_)
   · simp at h2
     refine E.seq (E.reg hr (by simp; rfl) ?_)
     refine E.ret ?_
     have : hasW s l = true := hasW_iff.2 (h2 ▸ List.getElem_mem h)
     exact pureK.ret rfl rfl (by simp [this]) (by repeat first | exact sub_refl _ | refine sub_cons rfl ?_)
   · simp at h2
     refine E.skip (E.reg hr (by simp [hw]; rfl) ?_)
     refine ⟨i + 1, .less rfl rfl rfl (by simp) (by simp), ⟨by omega, fun j hj h3 => ?_⟩, by dsimp only; omega⟩
     rcases Nat.lt_or_ge j i with h4 | h4
     · exact hg j h4 h3
     · obtain rfl : j = i := by omega
       exact h2
 · simp at h
   refine E.exit ?_
   refine E.seq (E.reg hr (by simp; rfl) ?_)
   refine E.ret ?_
   have : hasW s l = false := by
     cases hh : hasW s l with
     | false => rfl
     | true =>
       obtain ⟨j, hj, e⟩ := List.getElem_of_mem (hasW_iff.1 hh)
       exact absurd e (hg j (by omega) hj)
   exact pureK.ret rfl rfl (by simp [this]) (by repeat first | exact sub_refl _ | refine sub_cons rfl ?_)
theorem w67n (s : ByteArray) : AC Tryz.prog 67 [.slice none 0 0, sv s] [] 10 (.bool false) [] 10 := by
 have hr := recT_ok (P := Tryz.prog) (l := []) (by simp)
 refine AC.pure Tryz.func67 rfl (by kernel_rfl) rfl [0, 1, 5] rfl ?_
 refine E.seq (E.reg hr (by simp; rfl) ?_)
 refine E.seq (E.seq (E.reg hr (by simp; rfl) ?_))
 refine E.block (E.loop ?_)
 refine EL.step ?_
 refine E.seq (E.seq (E.reg hr (by simp; rfl) ?_))
 refine E.cond (by rfl) (fun h => ?_) (fun h => ?_)
 · simp at h
 refine E.exit ?_
 refine E.seq (E.reg hr (by simp; rfl) ?_)
 refine E.ret ?_
 exact pureK.ret rfl rfl (by simp) (by repeat first | exact sub_refl _ | refine sub_cons rfl ?_)
def g67 (args : List Value) (H : Heap) (n : Nat) : R := match args with
 | [.slice (some a) len _, .string s] => (strsAt H a len).map fun l => (.bool (hasW s l), H, n)
 | [.slice none 0 0, .string _] => some (.bool false, H, n)
 | _ => none
theorem ok67 : EntOk Tryz.prog (67, g67) := by
 intro args H n v H' n' h'
 simp only [g67] at h'
 split at h'
 · rename_i a len c s
   rw [Option.map_eq_some_iff] at h'
   obtain ⟨l, h1, h2⟩ := h'
   injection h2 with e1 e2; injection e2 with e2 e3; subst e1 e2 e3
   obtain ⟨hf, hc, hlen, hlt⟩ := strsAt_ok h1
   subst hlen
   exact AC.liftP rfl (Part.one (fun x => [x, sv s]) (by intro φ φ0 s s0 h; simp [denL, den, h]) (by intro p s h; exact ⟨h, trivial, trivial⟩) hf hc (afL_sv l) [] (by simp [Seen]) gsz fun c => ⟨_, _, w67 l _ c s hlt⟩)
 · injection h' with h'; injection h' with e1 e2; injection e2 with e2 e3; subst e1 e2 e3
   exact AC.liftP rfl (Part.plain (by simp) [] (by simp [Seen]) gsz ⟨_, _, w67n _⟩)
 · cases h'
end Go.Proofs.YtndlfijfjglkdaaGreatDoor
namespace Go.Ab
open Go
structure V2 where
 blk : Nat
 b : Blk
def V2.ok (H : Heap) (v : V2) : Prop := match v.b with
 | .inp o cs => (∃ m, cellsA H v.blk o m = some cs) ∧ afL cs = true
 | .row cs sz => rowOf H v.blk = some (cs, sz) ∧ afL cs = true
 | _ => False
def v2H (N : Nat) : List V2 → Heap → Heap
 | [], G => G
 | v :: vs, G => v2H (N + 1) vs ((N, v.b) :: G)
theorem hget_v2H {N : Nat} : ∀ (vs : List V2) (G : Heap) (k : Nat) (b : Blk), (∀ x ∈ G, x.1 < N) → hget (v2H N vs G) k = some b → (k < N ∧ hget G k = some b) ∨ ∃ v, vs[k - N]? = some v ∧ N ≤ k ∧ b = v.b
 | [], G, k, b, hG, h => .inl ⟨hG _ (hget_mem _ _ _ h), h⟩
 | v :: vs, G, k, b, hG, h => by
   have := hget_v2H (N := N + 1) vs ((N, v.b) :: G) k b (fun x hx => by
     rcases List.mem_cons.1 hx with rfl | hx
     · exact Nat.lt_succ_self _
     · exact Nat.lt_succ_of_lt (hG x hx)) h
   rcases this with ⟨h1, h2⟩ | ⟨u, h1, h2, h3⟩
   · rw [hget_cons] at h2
     by_cases hk : N = k
     · rw [if_pos hk] at h2; injection h2 with h2; subst hk
       exact .inr ⟨v, by simp, Nat.le_refl _, h2.symm⟩
     · rw [if_neg hk] at h2
       exact .inl ⟨by omega, h2⟩
   · refine .inr ⟨u, ?_, by omega, h3⟩
     rw [show k - N = (k - (N + 1)) + 1 by omega]
     simpa using h1
theorem Part.gen {P : Program} {args : List Value} {H : Heap} {n : Nat} {R : List Value → Heap → Nat → Prop} (vs : List V2) {N : Nat} (hN : P.globals.size = N) (hv : ∀ v ∈ vs, V2.ok H v)
   (h : ∀ φ : Vl, ∃ args0, (∀ φ0 : Vl, (∀ i v, vs[i]? = some v → φ0.loc (N + i) = φ.loc v.blk ∧ φ0.cap (N + i) = φ.cap v.blk) → denL φ0 args0 = denL φ args) ∧ scL (· < N + vs.length) args0 ∧ R args0 (v2H N vs []) (N + vs.length)) : Part P args H n R := by
 intro p φ w hB hsc
 obtain ⟨args0, hden, hsc0, hR⟩ := h φ
 let φ0 : Vl := ⟨fun k => if k < N then φ.loc k else match vs[k - N]? with | some v => φ.loc v.blk | none => 0, fun k => if k < N then φ.cap k else match vs[k - N]? with | some v => φ.cap v.blk | none => 0⟩
 have hl : ∀ i v, vs[i]? = some v → φ0.loc (N + i) = φ.loc v.blk ∧ φ0.cap (N + i) = φ.cap v.blk := fun i v hi => by
   simp only [φ0]; rw [if_neg (by omega), if_neg (by omega), Nat.add_sub_cancel_left, hi]; exact ⟨rfl, rfl⟩
 have hlow : ∀ k, k < N → φ0.loc k = φ.loc k := fun k hk => by simp only [φ0]; rw [if_pos hk]
 have hH0 : ∀ k b, hget (v2H N vs []) k = some b → ∃ v, vs[k - N]? = some v ∧ N ≤ k ∧ b = v.b := fun k b hk => by
   rcases hget_v2H vs [] k b (by simp) hk with ⟨_, h2⟩ | h1
   · simp [hget] at h2
   · exact h1
 have hown : ∀ k b, hget (v2H N vs []) k = some b → b.own = false := fun k b hk => by
   obtain ⟨v, h1, _, rfl⟩ := hH0 k b hk
   have := hv v (List.mem_of_getElem? h1)
   unfold V2.ok at this
   split at this
   · rename_i e; rw [e]; rfl
   · rename_i e; rw [e]; rfl
   · exact this.elim
 refine ⟨args0, v2H N vs [], N + vs.length, φ0, (· < N + vs.length), ⟨⟨fun k b hk => ?_, fun k b k' b' h1 _ _ ho => (by rw [hown k b h1] at ho; cases ho), fun g hg => ?_⟩, fun _ h => h, fun g hg => ?_, (by omega), fun k b hk => ?_, fun t v hv => by simp [lk] at hv, fun t v hv => by simp [lk] at hv⟩, hsc0, hden φ0 hl, hown, hR⟩
 · obtain ⟨v, h1, h2, rfl⟩ := hH0 k b hk
   have hok := hv v (List.mem_of_getElem? h1)
   have hlk := hl _ _ h1
   rw [show N + (k - N) = k by omega] at hlk
   rw [hlk.1]
   unfold V2.ok at hok
   split at hok
   · rename_i o cs e
     rw [e]
     obtain ⟨⟨m, hc⟩, haf⟩ := hok
     exact cellsA_block hB.rel hc haf φ0 k
   · rename_i cs sz e
     rw [e]
     obtain ⟨c, t, fz, e1, e2, e3, e4⟩ := rowOf_rel hB hok.1
     refine ⟨c, t, fz, e1, ?_, ?_, e4⟩
     · rw [e2, denL_af _ _ hok.2, denL_af _ _ hok.2]
     · rw [e3, hlk.2]
   · exact hok.elim
 · rw [hlow g (hN ▸ hg)]; exact hB.rel.glob g hg
 · rw [← hN]; omega
 · obtain ⟨v, h1, h2, rfl⟩ := hH0 k b hk
   have := (List.getElem?_eq_some_iff.1 h1).1
   have hok := hv v (List.mem_of_getElem? h1)
   refine ⟨by omega, ?_⟩
   unfold V2.ok at hok
   split at hok
   · rename_i e; rw [e]; exact scL_af _ _ hok.2
   · rename_i e; rw [e]; exact scL_af _ _ hok.2
   · exact hok.elim
end Go.Ab
namespace Go.Proofs.YtndlfijfjglkdaaGreatDoor
open Go Go.Ab Go.Proofs
theorem names_fl (l c : Nat) : Names1 fun m => .slice (some ⟨m, 0, none⟩) l c := ⟨fun φ ψ m n h1 h2 => by simp [den, h1], fun p n h => by simp [sc, h]⟩
theorem atV_lt {l : List Gun} {s : ByteArray} (h : 0 ≤ atV l s l.length) : ∃ k : Nat, atV l s l.length = k ∧ k < l.length := by
 unfold atV at h ⊢
 split
 · rename_i i hi
   refine ⟨i, rfl, ?_⟩
   rw [List.take_length] at hi
   obtain ⟨h1, _⟩ := List.findIdx?_eq_some_iff_getElem.1 hi
   exact h1
 · rename_i hi
   rw [hi] at h
   simp at h
theorem w113n : AC Tryz.prog 113 [.slice none 0 0] [] 10 (iv 0) [] 10 := by
 have hr := recT_ok (P := Tryz.prog) (l := []) (by simp)
 refine AC.pure Tryz.func113 rfl (by kernel_rfl) rfl [5, 6, 7] rfl ?_
 refine E.seq (E.reg hr (by simp; rfl) ?_)
 refine E.seq (E.seq (E.reg hr (by simp; rfl) ?_))
 refine E.block (E.loop ?_)
 refine EL.step ?_
 refine E.seq (E.reg hr (by simp; rfl) ?_)
 refine E.seq ?_
 refine E.cond (by rfl) (fun h => ?_) (fun h => ?_)
 · simp at h
 refine E.exit ?_
 refine E.seq (E.reg hr (by simp; rfl) ?_)
 refine E.ret ?_
 exact pureK.ret rfl rfl (by simp) (by repeat first | exact sub_refl _ | refine sub_cons rfl ?_)
def g113' (args : List Value) (H : Heap) (n : Nat) : R := match args with
 | [.slice (some a) len _] => (intsAt H a len).map fun l => (iv (firstV l), H, n)
 | [.slice none 0 0] => some (iv 0, H, n)
 | _ => none
theorem ok113' : EntOk Tryz.prog (113, g113') := by
 intro args H n v H' n' h
 simp only [g113'] at h
 split at h
 · exact ok113 _ _ _ _ _ _ h
 · injection h with h; injection h with e1 e2; injection e2 with e2 e3; subst e1 e2 e3
   exact AC.liftP rfl (Part.plain (by simp) [] (by simp [Seen]) gsz ⟨_, _, w113n⟩)
 · cases h
@[simp] theorem oneL_gcs (l : List Gun) : oneL (gcs l) = true := by
 induction l with
 | nil => rfl
 | cons g l ih =>
   show oneL (g.cells ++ gcs l) = true
   simp [Gun.cells, oneL, ih]
theorem strE_len {l : List Gun} (h : strE l = 0) : 1 ≤ l.length ∧ l.length ≤ 8 := by
 unfold strE at h
 split at h
 · omega
 · split at h <;> omega
theorem build32 {fr : Fr} {H : Heap} {n : Nat} {x : Operand} {a : Option Addr} {k c : Nat} (hx : evO Tryz.prog fr x = some (.slice a k c)) : opBuild Tryz.prog 32 #[(0, x)] fr H n = some (.agg #[.slice a k c], H, n) := by
 unfold opBuild
 simp only [evPs_cons, evPs_nil, hx]
 kernel_rfl
end Go.Proofs.YtndlfijfjglkdaaGreatDoor
namespace Go.Ab
open Go
def cutK (P : Program) (n0 : Nat) (S0 : St) (K : Ex → St → Prop) : Ex → St → Prop
 | .normal, st => Leads P n0 st S0
 | e, st => K e st
theorem E.cut {P : Program} {n0 : Nat} {ro : Option Nat} {st : St} {K : Ex → St → Prop} {a b : Code} (S0 : St) (ha : E P n0 ro a st (cutK P n0 S0 K)) (hb : E P n0 ro b S0 K) : E P n0 ro (.seq a b) st K :=
 E.seq (ha.mono fun e st' h => by
   cases e with
   | normal => exact E.lead S0 h hb
   | _ => exact h)
end Go.Ab
namespace Go.Proofs.YtndlfijfjglkdaaGreatDoor
open Go Go.Ab Go.Proofs
def rowGuns (H : Heap) (b len : Nat) : Option (List Gun) := match rowOf H b with
 | some (cs, 7) => match gunsOf cs with
   | some l => if len = l.length ∧ len < 2 ^ 63 then some l else none
   | none => none
 | _ => none
theorem rowGuns_ok {H : Heap} {b len : Nat} {l : List Gun} (h : rowGuns H b len = some l) : rowOf H b = some (gcs l, 7) ∧ len = l.length ∧ l.length < 2 ^ 63 := by
 unfold rowGuns at h
 split at h
 · rename_i cs hb
   split at h
   · rename_i l' hl
     split at h
     · rename_i hc
       injection h with h; subst h
       have := gunsOf_ok _ _ hl
       subst this
       exact ⟨hb, hc.1, hc.1 ▸ hc.2⟩
     · cases h
   · cases h
 · cases h
theorem max33' (a b : Int) (c : Array Bool) : runP Tryz.prog (builtin .max #[3, 3] 3 c #[iv a, iv b]) = some (.value (iv (max a b))) := by
 have h : runP Tryz.prog (builtin .max #[3, 3] 3 c #[iv a, iv b]) = some (.value (.int .i64 (if b > a then b else a))) := rfl
 rw [h]
 congr 3
 split <;> omega
def g51 (args : List Value) (H : Heap) (n : Nat) : R := match args with
 | [.slice none 0 0, .int .i64 e, .int .i64 b, .slice none 0 0] => if e = b ∧ e ≠ 0 then some (.bool true, H, n) else none
 | [.slice (some a) len _, .int .i64 e, .int .i64 b, .slice (some a2) len2 _] => if e = 0 ∧ b = 0 then (match intsAt H a len, intsAt H a2 len2 with
   | some l, some k => some (.bool (decide (l = k)), H, n)
   | _, _ => none) else none
 | _ => none
theorem ok51 : EntOk Tryz.prog (51, g51) := by
 intro args H n v H' n' h
 simp only [g51] at h
 split at h
 · split at h
   · rename_i hc
     obtain ⟨rfl, hc⟩ := hc
     injection h with h; injection h with e1 e2; injection e2 with e2 e3; subst e1 e2 e3
     exact AC.liftP rfl (Part.plain (by simp) [] (by simp [Seen]) gsz ⟨_, _, w51a _ hc⟩)
   · cases h
 · split at h
   · rename_i hc
     obtain ⟨rfl, rfl⟩ := hc
     split at h
     · rename_i l k h1 h2
       injection h with h; injection h with e1 e2; injection e2 with e2 e3; subst e1 e2 e3
       obtain ⟨hf, hc, hlen, hlt⟩ := intsAt_ok h1
       obtain ⟨hf2, hc2, hlen2, hlt2⟩ := intsAt_ok h2
       subst hlen hlen2
       exact AC.liftP rfl (Part.two (fun s u => [s, iv 0, iv 0, u]) (by intro φ φ0 s s0 u u0 h h'; simp [denL, den, h, h']) (by intro p s u h h'; exact ⟨h, trivial, trivial, h', trivial⟩) hf hc (afL_iv l) hf2 hc2 (afL_iv k) [] (by simp [Seen]) gsz fun c c2 => ⟨_, _, w51b l k _ _ c c2 hlt hlt2⟩)
     · cases h
   · cases h
 · cases h
open Classical in
noncomputable def g18 (args : List Value) (H : Heap) (n : Nat) : R := if args = [] ∧ hget H 3 = some (.inp 0 tab3) ∧ hget H 0 = some (.inp 0 names0) then some (.bool true, H, n) else none
theorem ok18 : EntOk Tryz.prog (18, g18) := by
 intro args H n v H' n' h
 simp only [g18] at h
 split at h
 · rename_i hc
   obtain ⟨rfl, h3, h0⟩ := hc
   injection h with h; injection h with e1 e2; injection e2 with e2 e3; subst e1 e2 e3
   refine AC.liftP rfl (Part.plain rfl G0 ?_ gsz ⟨_, _, st0H ▸ awakeAC⟩)
   intro x hx
   rw [gsz]
   simp at hx
   rcases hx with rfl | rfl
   · exact ⟨by simp, h3, rfl, scL_af _ _ af_tab3⟩
   · exact ⟨by simp, h0, rfl, scL_af _ _ af_names0⟩
 · cases h
def idxS (l : List ByteArray) (x : ByteArray) : Int := match l.findIdx? fun y => decide (x = y) with
 | some i => i
 | none => -1
theorem idxS_hit {l : List ByteArray} {x : ByteArray} {i : Nat} (hi : i < l.length) (hn : x = l[i]) (hb : ∀ j (h : j < l.length), j < i → x ≠ l[j]) : idxS l x = i := by
 have : l.findIdx? (fun y => decide (x = y)) = some i := by
   rw [List.findIdx?_eq_some_iff_getElem]
   exact ⟨hi, by simp [hn], fun j hj => by simpa using hb j (by omega) hj⟩
 unfold idxS
 rw [this]
theorem idxS_miss {l : List ByteArray} {x : ByteArray} (hb : ∀ j (h : j < l.length), x ≠ l[j]) : idxS l x = -1 := by
 have : l.findIdx? (fun y => decide (x = y)) = none := by
   rw [List.findIdx?_eq_none_iff]
   intro y hy
   obtain ⟨j, hj, rfl⟩ := List.getElem_of_mem hy
   simpa using hb j hj
 unfold idxS
 rw [this]
theorem idxS_mem (l : List ByteArray) (x : ByteArray) : decide (0 ≤ idxS l x) = hasW x l := by
 cases h : hasW x l with
 | true =>
   have : (l.findIdx? fun y => decide (x = y)).isSome = true := by
     rw [List.findIdx?_isSome]
     exact List.any_eq_true.2 ⟨x, hasW_iff.1 h, by simp⟩
   obtain ⟨i, hi⟩ := Option.isSome_iff_exists.1 this
   have : 0 ≤ idxS l x := by unfold idxS; rw [hi]; simp
   simp [this]
 | false =>
   have : idxS l x = -1 := idxS_miss fun j hj e => by
     have := hasW_iff.2 (e ▸ List.getElem_mem hj : x ∈ l)
     rw [h] at this
     cases this
   simp [this]
theorem w209 (l : List ByteArray) (o c : Nat) (x : ByteArray) (hl : l.length < 2 ^ 31) : AC Tryz.prog 209 [.slice (some ⟨10, o, none⟩) l.length c, sv x] [(10, .inp o (l.map sv))] 11 (iv (idxS l x)) [(10, .inp o (l.map sv))] 11 := by
 have hr := recT_ok (P := Tryz.prog) (l := []) (by simp)
 refine AC.pure Tryz.func209 rfl (by kernel_rfl) rfl [0, 1, 7, 8] rfl ?_
 refine E.seq (E.reg hr (by simp; rfl) ?_)
 refine E.seq (E.seq (E.reg hr (by simp; rfl) ?_))
 refine E.block (E.loop ?_)
 refine EL.ind (fun i : Nat => { fr := [(0, .slice (some ⟨10, o, none⟩) l.length c), (1, sv x), (7, iv l.length), (8, iv i)], sz := 19, H := [(10, .inp o (l.map sv))], n := 11, marks := [], vs := [0, 1, 7, 8] }) (fun i => l.length - i) (fun i => i ≤ l.length ∧ ∀ j, j < i → ∀ h : j < l.length, x ≠ l[j]) 0 (.less rfl rfl rfl (by simp) (by simp)) ⟨Nat.zero_le _, fun j hj => absurd hj (by omega)⟩ (fun _ => rfl) ?_
 intro i ⟨hi, hg⟩
 have hw : IntKind.i64.wrap ((i : Int) + 1) = (i : Int) + 1 := W_in (by omega) (by omega)
 refine E.seq (E.reg hr (by simp; rfl) ?_)
 refine E.seq ?_
 refine E.cond (by rfl) (fun h => ?_) (fun h => ?_)
 · simp at h
   refine E.skip (E.seq ?_)
   refine E.block (E.seq (E.reg hr (by simp; rfl) ?_))
   refine E.seq (E.reg hr (by simp [h]; rfl) ?_)
   refine E.cond (by rfl) (fun h2 => ?_) (fun h2 => ?_)
   · simp at h2
     refine E.seq (E.reg hr (by simp; rfl) ?_)
     refine E.ret ?_
     exact pureK.ret rfl rfl (by simp [idxS_hit h h2 fun j h3 h4 => hg j h4 h3]) (by repeat first | exact sub_refl _ | refine sub_cons rfl ?_)
   · simp at h2
     refine E.skip (E.reg hr (by simp [hw]; rfl) ?_)
     refine ⟨i + 1, .less rfl rfl rfl (by simp) (by simp), ⟨by omega, fun j hj h3 => ?_⟩, by dsimp only; omega⟩
     rcases Nat.lt_or_ge j i with h4 | h4
     · exact hg j h4 h3
     · obtain rfl : j = i := by omega
       exact h2
 · simp at h
   refine E.exit ?_
   refine E.seq (E.reg hr (by simp; rfl) ?_)
   refine E.ret ?_
   exact pureK.ret rfl rfl (by simp [idxS_miss (l := l) (x := x) fun j h3 => hg j (by omega) h3]) (by repeat first | exact sub_refl _ | refine sub_cons rfl ?_)
def g209 (args : List Value) (H : Heap) (n : Nat) : R := match args with
 | [.slice (some a) len _, .string x] => (strsAt H a len).map fun l => (iv (idxS l x), H, n)
 | _ => none
theorem ok209 : EntOk Tryz.prog (209, g209) := by
 intro args H n v H' n' h'
 simp only [g209] at h'
 split at h'
 · rename_i a len c x
   rw [Option.map_eq_some_iff] at h'
   obtain ⟨l, h1, h2⟩ := h'
   injection h2 with e1 e2; injection e2 with e2 e3; subst e1 e2 e3
   obtain ⟨hf, hc, hlen, hlt⟩ := strsAt_ok h1
   subst hlen
   exact AC.liftP rfl (Part.one (fun s => [s, sv x]) (by intro φ φ0 s s0 h; simp [denL, den, h]) (by intro p s h; exact ⟨h, trivial, trivial⟩) hf hc (afL_sv l) [] (by simp [Seen]) gsz fun c => ⟨_, _, w209 l _ c x hlt⟩)
 · cases h'
theorem w161 (l : List ByteArray) (o c : Nat) (x : ByteArray) (hl : l.length < 2 ^ 31) : AC Tryz.prog 161 [.slice (some ⟨10, o, none⟩) l.length c, sv x] [(10, .inp o (l.map sv))] 11 (.bool (hasW x l)) [(10, .inp o (l.map sv))] 11 := by
 have hr := recT_ok (P := Tryz.prog) (l := [(209, g209)]) (by simp only [List.forall_mem_cons]; exact ⟨ok209, by simp⟩)
 have ht : strsAt [(10, .inp o (l.map sv))] ⟨10, o, none⟩ l.length = some l := by
   unfold strsAt
   simp [List.take_of_length_le, strsOf_sv, show l.length < 2147483648 by omega]
 refine AC.pure Tryz.func161 rfl (by kernel_rfl) rfl [4, 1, 0] rfl ?_
 refine E.seq (E.reg hr (by simp; rfl) ?_)
 refine E.seq (E.reg hr (by simp [g209, ht]; rfl) ?_)
 refine E.ret ?_
 exact pureK.ret rfl rfl (by simp [idxS_mem]) (by repeat first | exact sub_refl _ | refine sub_cons rfl ?_)
def g161 (args : List Value) (H : Heap) (n : Nat) : R := match args with
 | [.slice (some a) len _, .string x] => (strsAt H a len).map fun l => (.bool (hasW x l), H, n)
 | _ => none
theorem ok161 : EntOk Tryz.prog (161, g161) := by
 intro args H n v H' n' h'
 simp only [g161] at h'
 split at h'
 · rename_i a len c x
   rw [Option.map_eq_some_iff] at h'
   obtain ⟨l, h1, h2⟩ := h'
   injection h2 with e1 e2; injection e2 with e2 e3; subst e1 e2 e3
   obtain ⟨hf, hc, hlen, hlt⟩ := strsAt_ok h1
   subst hlen
   exact AC.liftP rfl (Part.one (fun s => [s, sv x]) (by intro φ φ0 s s0 h; simp [denL, den, h]) (by intro p s h; exact ⟨h, trivial, trivial⟩) hf hc (afL_sv l) [] (by simp [Seen]) gsz fun c => ⟨_, _, w161 l _ c x hlt⟩)
 · cases h'
def dirs : List ByteArray := [⟨#[100, 111, 119, 110]⟩, ⟨#[102, 111, 114, 101]⟩, ⟨#[97, 102, 116]⟩, ⟨#[112, 111, 114, 116]⟩, ⟨#[115, 116, 97, 114, 98, 111, 97, 114, 100]⟩]
theorem names_dirs : names0 = dirs.map sv := by kernel_rfl
def dirE (s : ByteArray) : Int := if hasW s dirs then 0 else 13
theorem w115 (s : ByteArray) : AC Tryz.prog 115 [sv s] [(0, .inp 0 names0)] 10 (iv (dirE s)) [(0, .inp 0 names0)] 10 := by
 have hr := recT_ok (P := Tryz.prog) (l := [(161, g161), (114, g114)]) (by simp only [List.forall_mem_cons]; exact ⟨ok161, ok114, by simp⟩)
 have ht : strsAt [(0, .inp 0 names0)] ⟨0, 0, none⟩ 5 = some dirs := by
   rw [names_dirs]
   unfold strsAt
   rfl
 refine AC.pure Tryz.func115 rfl (by kernel_rfl) rfl [2, 0] rfl ?_
 refine E.seq (E.reg hr (by simp; rfl) ?_)
 refine E.seq ?_
 have hs2 : ∀ fr, opSlice Tryz.prog 256 (.global 0) none none none fr [(0, .inp 0 names0)] 10 = some (.slice (some ⟨0, 0, none⟩) 5 5, [(0, .inp 0 names0)], 10) := fun fr => by kernel_rfl
 cases hd : hasW s dirs with
 | true =>
   refine E.reg hr (by simp [hs2, g161, ht, g114, hd, whenV]; rfl) ?_
   refine E.ret ?_
   exact pureK.ret rfl rfl (by simp [dirE, hd]) (by repeat first | exact sub_refl _ | refine sub_cons rfl ?_)
 | false =>
   refine E.reg hr (by simp [hs2, g161, ht, g114, hd, whenV]; rfl) ?_
   refine E.ret ?_
   exact pureK.ret rfl rfl (by simp [dirE, hd]) (by repeat first | exact sub_refl _ | refine sub_cons rfl ?_)
open Classical in
noncomputable def g115 (args : List Value) (H : Heap) (n : Nat) : R := match args with
 | [.string s] => if hget H 0 = some (.inp 0 names0) then some (iv (dirE s), H, n) else none
 | _ => none
theorem ok115 : EntOk Tryz.prog (115, g115) := by
 intro args H n v H' n' h
 simp only [g115] at h
 split at h
 · split at h
   · rename_i s h0
     injection h with h; injection h with e1 e2; injection e2 with e2 e3; subst e1 e2 e3
     refine AC.liftP rfl (Part.plain (by simp) [(0, .inp 0 names0)] ?_ gsz ⟨_, _, w115 s⟩)
     intro x hx
     rw [gsz]
     simp at hx
     subst hx
     exact ⟨by simp, h0, rfl, scL_af _ _ af_names0⟩
   · cases h
 · cases h
theorem w119 : ∃ u H1 n1 H2, AC Tryz.prog 119 [] [] 10 u H1 n1 ∧ (∃ m, u = .slice (some ⟨m, 0, none⟩) 5 5 ∧ hget H2 m = some (.cells (dirs.map sv) 9) ∧ 10 ≤ m) ∧ (af u = false → H1 = H2) := by
 have hr := recT_ok (P := Tryz.prog) (l := []) (by simp)
 refine AC.out (Q := fun u H => ∃ m, u = .slice (some ⟨m, 0, none⟩) 5 5 ∧ hget H m = some (.cells (dirs.map sv) 9) ∧ 10 ≤ m) Tryz.func119 rfl (by kernel_rfl) rfl [0] ?_
 refine E.seq (E.reg hr (by simp; rfl) ?_)
 refine E.seq (E.reg hr (by simp; rfl) ?_)
 refine E.ret ?_
 refine outK.ret rfl rfl ?_
 exact ⟨10, rfl, by simp [dirs], by omega⟩
def g119 (args : List Value) (H : Heap) (n : Nat) : R := match args with
 | [] => some (.slice (some ⟨n, 0, none⟩) 5 5, (n, .cells (dirs.map sv) 9) :: H, n + 1)
 | _ => none
theorem ok119 : EntOk Tryz.prog (119, g119) := by
 intro args H n v H' n' h'
 simp only [g119] at h'
 split at h'
 · injection h' with h'; injection h' with e1 e2; injection e2 with e2 e3; subst e1 e2 e3
   obtain ⟨u, H1, n1, H2, hAC, ⟨m, hu, hm, hle⟩, hh⟩ := w119
   subst hu
   have := hh (by simp)
   subst this
   exact AC.liftF (names_fl 5 5) (.inl ⟨_, _, rfl, afL_sv _⟩) (Part.plain (by simp) [] (by simp [Seen]) gsz ⟨m, _, _, hle, hm, hAC⟩)
 · cases h'
theorem w29 (s : ByteArray) : AC Tryz.prog 29 [sv s] [] 10 (iv (dirE s)) [] 10 := by
 have hr := recT_ok (P := Tryz.prog) (l := [(119, g119), (67, g67)]) (by simp only [List.forall_mem_cons]; exact ⟨ok119, ok67, by simp⟩)
 have ht : ∀ G : Heap, hget G 10 = some (.cells (dirs.map sv) 9) → strsAt G ⟨10, 0, none⟩ 5 = some dirs := fun G hG => by
   unfold strsAt
   simp only [flat, cellsA, hG]
   rfl
 refine AC.pure Tryz.func29 rfl (by kernel_rfl) rfl [] rfl ?_
 refine E.seq (E.reg hr (by simp; rfl) ?_)
 refine E.seq (E.seq ?_)
 cases hd : hasW s dirs with
 | true =>
   refine E.reg hr (by simp [g119, g67, ht, hd]; rfl) ?_
   refine E.cond (by rfl) (fun h => ?_) (fun h => ?_)
   · simp at h
   refine E.skip (E.seq (E.reg hr (by simp; rfl) ?_))
   refine E.ret ?_
   exact pureK.ret rfl rfl (by simp [dirE, hd]) (by repeat first | exact sub_refl _ | refine sub_cons rfl ?_)
 | false =>
   refine E.reg hr (by simp [g119, g67, ht, hd]; rfl) ?_
   refine E.cond (by rfl) (fun h => ?_) (fun h => ?_)
   rotate_left
   · simp at h
   refine E.seq (E.reg hr (by simp; rfl) ?_)
   refine E.ret ?_
   exact pureK.ret rfl rfl (by simp [dirE, hd]) (by repeat first | exact sub_refl _ | refine sub_cons rfl ?_)
theorem ok29 : EntOk Tryz.prog (29, gSI dirE) := okSI w29
theorem min33 (a b : Int) (c : Array Bool) : runP Tryz.prog (builtin .min #[3, 3] 3 c #[iv a, iv b]) = some (.value (iv (min a b))) := by
 have h : runP Tryz.prog (builtin .min #[3, 3] 3 c #[iv a, iv b]) = some (.value (.int .i64 (if b < a then b else a))) := rfl
 rw [h]
 congr 3
 split <;> omega
def minN (l : List Int) : Nat → Int
 | 0 => (l[0]?).getD 0
 | i + 1 => min (minN l i) ((l[i + 1]?).getD 0)
theorem w188 (l : List Int) (o c : Nat) (h1 : 1 ≤ l.length) (hl : l.length < 2 ^ 31) : AC Tryz.prog 188 [.slice (some ⟨10, o, none⟩) l.length c] [(10, .inp o (l.map iv))] 11 (iv (minN l (l.length - 1))) [(10, .inp o (l.map iv))] 11 := by
 have hr := recT_ok (P := Tryz.prog) (l := []) (by simp)
 have h0 : 0 < l.length := h1
 have hn1 : ¬ (l.length : Int) < 1 := by omega
 refine AC.pure Tryz.func188 rfl (by kernel_rfl) rfl [0, 3, 4] rfl ?_
 refine E.seq (E.reg hr (by simp; rfl) ?_)
 refine E.seq (E.seq (E.reg hr (by simp [hn1]; rfl) ?_))
 refine E.cond (by rfl) (fun h => ?_) (fun h => ?_)
 · simp at h
 refine E.skip (E.seq (E.reg hr (by simp [h0]; rfl) ?_))
 refine E.seq (E.seq (E.reg hr (by simp; rfl) ?_))
 refine E.block (E.loop ?_)
 refine EL.ind (fun i : Nat => { fr := [(0, .slice (some ⟨10, o, none⟩) l.length c), (3, iv (minN l i)), (4, iv (i + 1 : Nat))], sz := 25, H := [(10, .inp o (l.map iv))], n := 11, marks := [], vs := [0, 3, 4] }) (fun i => l.length - i) (fun i => i < l.length) 0 (.less rfl rfl rfl (by simp [minN, h0]) (by simp)) h0 (fun _ => rfl) ?_
 intro i hi
 have hw : IntKind.i64.wrap ((i : Int) + 1 + 1) = (i : Int) + 1 + 1 := W_in (by omega) (by omega)
 refine E.seq (E.seq (E.reg hr (by simp; rfl) ?_))
 refine E.cond (by rfl) (fun h => ?_) (fun h => ?_)
 · simp at h
   have hlt : i + 1 < l.length := by omega
   have hltI : (i : Int) + 1 < l.length := by omega
   refine E.skip (E.seq ?_)
   refine E.block (E.reg hr (by simp [hlt, hltI, min33]; rfl) ?_)
   refine E.reg hr (by simp [hw]; rfl) ?_
   exact ⟨i + 1, .less rfl rfl rfl (by simp [minN, hlt]) (by simp), hlt, by dsimp only; omega⟩
 · simp at h
   have hi1 : i = l.length - 1 := by omega
   subst hi1
   refine E.exit ?_
   refine E.seq (E.reg hr (by simp; rfl) ?_)
   refine E.ret ?_
   exact pureK.ret rfl rfl (by simp) (by repeat first | exact sub_refl _ | refine sub_cons rfl ?_)
def g188 (args : List Value) (H : Heap) (n : Nat) : R := match args with
 | [.slice (some a) len _] => match intsAt H a len with
   | some l => if 1 ≤ l.length then some (iv (minN l (l.length - 1)), H, n) else none
   | none => none
 | _ => none
theorem ok188 : EntOk Tryz.prog (188, g188) := by
 intro args H n v H' n' h'
 simp only [g188] at h'
 split at h'
 · rename_i a len c
   split at h'
   · rename_i l h1
     split at h'
     · rename_i hp
       injection h' with h'; injection h' with e1 e2; injection e2 with e2 e3; subst e1 e2 e3
       obtain ⟨hf, hc, hlen, hlt⟩ := intsAt_ok h1
       subst hlen
       exact AC.liftP rfl (Part.one (fun s => [s]) (by intro φ φ0 s s0 h; simp [denL, h]) (by intro p s h; exact ⟨h, trivial⟩) hf hc (afL_iv l) [] (by simp [Seen]) gsz fun c => ⟨_, _, w188 l _ c hp hlt⟩)
     · cases h'
   · cases h'
 · cases h'
end Go.Proofs.YtndlfijfjglkdaaGreatDoor
namespace Go.Ab
open Go
theorem Part.genG {P : Program} {args : List Value} {H : Heap} {n : Nat} {R : List Value → Heap → Nat → Prop} (vs : List V2) (G : Heap) (hG : Seen P H G) {N : Nat} (hN : P.globals.size = N) (hv : ∀ v ∈ vs, V2.ok H v)
   (h : ∀ φ : Vl, ∃ args0, (∀ φ0 : Vl, (∀ i v, vs[i]? = some v → φ0.loc (N + i) = φ.loc v.blk ∧ φ0.cap (N + i) = φ.cap v.blk) → denL φ0 args0 = denL φ args) ∧ scL (· < N + vs.length) args0 ∧ R args0 (v2H N vs G) (N + vs.length)) : Part P args H n R := by
 intro p φ w hB hsc
 obtain ⟨args0, hden, hsc0, hR⟩ := h φ
 let φ0 : Vl := ⟨fun k => if k < N then φ.loc k else match vs[k - N]? with | some v => φ.loc v.blk | none => 0, fun k => if k < N then φ.cap k else match vs[k - N]? with | some v => φ.cap v.blk | none => 0⟩
 have hl : ∀ i v, vs[i]? = some v → φ0.loc (N + i) = φ.loc v.blk ∧ φ0.cap (N + i) = φ.cap v.blk := fun i v hi => by
   simp only [φ0]; rw [if_neg (by omega), if_neg (by omega), Nat.add_sub_cancel_left, hi]; exact ⟨rfl, rfl⟩
 have hlow : ∀ k, k < N → φ0.loc k = φ.loc k := fun k hk => by simp only [φ0]; rw [if_pos hk]
 have hcap : ∀ k, k < N → φ0.cap k = φ.cap k := fun k hk => by simp only [φ0]; rw [if_pos hk]
 have hH0 : ∀ k b, hget (v2H N vs G) k = some b → (k < N ∧ (k, b) ∈ G) ∨ ∃ v, vs[k - N]? = some v ∧ N ≤ k ∧ b = v.b := fun k b hk => by
   rcases hget_v2H vs G k b (fun x hx => hN ▸ (hG x hx).1) hk with ⟨h1, h2⟩ | h1
   · exact .inl ⟨h1, hget_mem _ _ _ h2⟩
   · exact .inr h1
 have hown : ∀ k b, hget (v2H N vs G) k = some b → b.own = false := fun k b hk => by
   rcases hH0 k b hk with ⟨_, h2⟩ | ⟨v, h1, _, rfl⟩
   · exact (hG _ h2).2.2.1
   · have := hv v (List.mem_of_getElem? h1)
     unfold V2.ok at this
     split at this
     · rename_i e; rw [e]; rfl
     · rename_i e; rw [e]; rfl
     · exact this.elim
 refine ⟨args0, v2H N vs G, N + vs.length, φ0, (· < N + vs.length), ⟨⟨fun k b hk => ?_, fun k b k' b' h1 _ _ ho => (by rw [hown k b h1] at ho; cases ho), fun g hg => ?_⟩, fun _ h => h, fun g hg => ?_, (by omega), fun k b hk => ?_, fun t v hv => by simp [lk] at hv, fun t v hv => by simp [lk] at hv⟩, hsc0, hden φ0 hl, hown, hR⟩
 · rcases hH0 k b hk with ⟨h1, h2⟩ | ⟨v, h1, h2, rfl⟩
   · rw [hlow k h1]
     have hg := hG _ h2
     exact (hB.rel.blk k b hg.2.1).congr (p := fun k => k < N) (k := k) (fun j hj => ⟨hlow j hj, hcap j hj⟩) h1 (scB_mono (fun _ h => h.elim) _ hg.2.2.2)
   · have hok := hv v (List.mem_of_getElem? h1)
     have hlk := hl _ _ h1
     rw [show N + (k - N) = k by omega] at hlk
     rw [hlk.1]
     unfold V2.ok at hok
     split at hok
     · rename_i o cs e
       rw [e]
       obtain ⟨⟨m, hc⟩, haf⟩ := hok
       exact cellsA_block hB.rel hc haf φ0 k
     · rename_i cs sz e
       rw [e]
       obtain ⟨c, t, fz, e1, e2, e3, e4⟩ := rowOf_rel hB hok.1
       refine ⟨c, t, fz, e1, ?_, ?_, e4⟩
       · rw [e2, denL_af _ _ hok.2, denL_af _ _ hok.2]
       · rw [e3, hlk.2]
     · exact hok.elim
 · rw [hlow g (hN ▸ hg)]; exact hB.rel.glob g hg
 · rw [← hN]; omega
 · rcases hH0 k b hk with ⟨h1, h2⟩ | ⟨v, h1, h2, rfl⟩
   · exact ⟨by omega, scB_mono (fun _ h => h.elim) _ (hG _ h2).2.2.2⟩
   · have := (List.getElem?_eq_some_iff.1 h1).1
     have hok := hv v (List.mem_of_getElem? h1)
     refine ⟨by omega, ?_⟩
     unfold V2.ok at hok
     split at hok
     · rename_i e; rw [e]; exact scL_af _ _ hok.2
     · rename_i e; rw [e]; exact scL_af _ _ hok.2
     · exact hok.elim
end Go.Ab
namespace Go.Proofs.YtndlfijfjglkdaaGreatDoor
open Go Go.Ab Go.Proofs
def isDir (F : Nat) : Bool := Nat.ble 229 F && Nat.ble F 233
theorem isDir_cases {F : Nat} (h : isDir F = true) : F = 229 ∨ F = 230 ∨ F = 231 ∨ F = 232 ∨ F = 233 := by
 unfold isDir at h
 rw [Bool.and_eq_true] at h
 have h1 := Nat.le_of_ble_eq_true h.1
 have h2 := Nat.le_of_ble_eq_true h.2
 omega
def coF (F : Nat) (x y : Int) : Int := if F = 230 then IntKind.i64.wrap (-x) else if F = 231 then x else if F = 232 then IntKind.i64.wrap (-y) else if F = 233 then y else 0
def dOf (F : Nat) : ByteArray := if F = 229 then ⟨#[100, 111, 119, 110]⟩ else if F = 230 then ⟨#[102, 111, 114, 101]⟩ else if F = 231 then ⟨#[97, 102, 116]⟩ else if F = 232 then ⟨#[112, 111, 114, 116]⟩ else ⟨#[115, 116, 97, 114, 98, 111, 97, 114, 100]⟩
theorem w229 (x y : Int) : AC Tryz.prog 229 [.agg ⟨[iv x, iv y]⟩] [] 10 (iv (coF 229 x y)) [] 10 := by
 have hr := recT_ok (P := Tryz.prog) (l := []) (by simp)
 refine AC.pure Tryz.func229 rfl (by kernel_rfl) rfl [] rfl ?_
 refine E.seq (E.reg hr (by simp; rfl) ?_)
 refine E.seq (E.reg hr (by simp; rfl) ?_)
 refine E.ret ?_
 exact pureK.ret rfl rfl (by simp [coF]) (by repeat first | exact sub_refl _ | refine sub_cons rfl ?_)
theorem w230 (x y : Int) : AC Tryz.prog 230 [.agg ⟨[iv x, iv y]⟩] [] 10 (iv (coF 230 x y)) [] 10 := by
 have hr := recT_ok (P := Tryz.prog) (l := []) (by simp)
 refine AC.pure Tryz.func230 rfl (by kernel_rfl) rfl [] rfl ?_
 refine E.seq (E.reg hr (by simp; rfl) ?_)
 refine E.seq (E.reg hr (by simp; rfl) ?_)
 refine E.ret ?_
 exact pureK.ret rfl rfl (by simp [coF]) (by repeat first | exact sub_refl _ | refine sub_cons rfl ?_)
theorem w231 (x y : Int) : AC Tryz.prog 231 [.agg ⟨[iv x, iv y]⟩] [] 10 (iv (coF 231 x y)) [] 10 := by
 have hr := recT_ok (P := Tryz.prog) (l := []) (by simp)
 refine AC.pure Tryz.func231 rfl (by kernel_rfl) rfl [] rfl ?_
 refine E.seq (E.reg hr (by simp; rfl) ?_)
 refine E.seq (E.reg hr (by simp; rfl) ?_)
 refine E.ret ?_
 exact pureK.ret rfl rfl (by simp [coF]) (by repeat first | exact sub_refl _ | refine sub_cons rfl ?_)
theorem w232 (x y : Int) : AC Tryz.prog 232 [.agg ⟨[iv x, iv y]⟩] [] 10 (iv (coF 232 x y)) [] 10 := by
 have hr := recT_ok (P := Tryz.prog) (l := []) (by simp)
 refine AC.pure Tryz.func232 rfl (by kernel_rfl) rfl [] rfl ?_
 refine E.seq (E.reg hr (by simp; rfl) ?_)
 refine E.seq (E.reg hr (by simp; rfl) ?_)
 refine E.ret ?_
 exact pureK.ret rfl rfl (by simp [coF]) (by repeat first | exact sub_refl _ | refine sub_cons rfl ?_)
theorem w233 (x y : Int) : AC Tryz.prog 233 [.agg ⟨[iv x, iv y]⟩] [] 10 (iv (coF 233 x y)) [] 10 := by
 have hr := recT_ok (P := Tryz.prog) (l := []) (by simp)
 refine AC.pure Tryz.func233 rfl (by kernel_rfl) rfl [] rfl ?_
 refine E.seq (E.reg hr (by simp; rfl) ?_)
 refine E.seq (E.reg hr (by simp; rfl) ?_)
 refine E.ret ?_
 exact pureK.ret rfl rfl (by simp [coF]) (by repeat first | exact sub_refl _ | refine sub_cons rfl ?_)
def gCo (F : Nat) (args : List Value) (H : Heap) (n : Nat) : R := match args with
 | [.agg ⟨[.int .i64 x, .int .i64 y]⟩] => some (iv (coF F x y), H, n)
 | _ => none
theorem okCo {f : FuncId} {F : Nat} (h : ∀ x y, AC Tryz.prog f [.agg ⟨[iv x, iv y]⟩] [] 10 (iv (coF F x y)) [] 10) : EntOk Tryz.prog (f, gCo F) := by
 intro args H n v H' n' h'
 simp only [gCo] at h'
 split at h'
 · injection h' with h'; injection h' with e1 e2; injection e2 with e2 e3; subst e1 e2 e3
   exact AC.liftP rfl (Part.plain (by simp) [] (by simp [Seen]) gsz ⟨_, _, h _ _⟩)
 · cases h'
theorem ok229 : EntOk Tryz.prog (229, gCo 229) := okCo w229
theorem ok230 : EntOk Tryz.prog (230, gCo 230) := okCo w230
theorem ok231 : EntOk Tryz.prog (231, gCo 231) := okCo w231
theorem ok232 : EntOk Tryz.prog (232, gCo 232) := okCo w232
theorem ok233 : EntOk Tryz.prog (233, gCo 233) := okCo w233
abbrev fnV (F : Nat) : Value := .func (.func F) #[] #[]
abbrev H187 (F : Nat) : Heap := [(10, .inp 0 [fnV F])]
theorem w187 (F : Nat) (hF : isDir F = true) (g : Gun) : AC Tryz.prog 187 [.agg ⟨g.cells⟩, .pointer (some ⟨10, 0, none⟩)] (H187 F) 11 (iv (coF F g.x g.y)) (H187 F) 11 := by
 have hr := recT_ok (P := Tryz.prog) (l := [(229, gCo 229), (230, gCo 230), (231, gCo 231), (232, gCo 232), (233, gCo 233)]) (by simp only [List.forall_mem_cons]; exact ⟨ok229, ok230, ok231, ok232, ok233, by simp⟩)
 refine AC.pure Tryz.func187 rfl (by kernel_rfl) rfl [] rfl ?_
 refine E.seq (E.reg hr (by simp; rfl) ?_)
 refine E.seq ?_
 rcases isDir_cases hF with rfl | rfl | rfl | rfl | rfl
 · refine E.reg hr (by simp [gCo]; rfl) ?_
   refine E.ret ?_
   exact pureK.ret rfl rfl (by simp) (by repeat first | exact sub_refl _ | refine sub_cons rfl ?_)
 · refine E.reg hr (by simp [gCo]; rfl) ?_
   refine E.ret ?_
   exact pureK.ret rfl rfl (by simp) (by repeat first | exact sub_refl _ | refine sub_cons rfl ?_)
 · refine E.reg hr (by simp [gCo]; rfl) ?_
   refine E.ret ?_
   exact pureK.ret rfl rfl (by simp) (by repeat first | exact sub_refl _ | refine sub_cons rfl ?_)
 · refine E.reg hr (by simp [gCo]; rfl) ?_
   refine E.ret ?_
   exact pureK.ret rfl rfl (by simp) (by repeat first | exact sub_refl _ | refine sub_cons rfl ?_)
 · refine E.reg hr (by simp [gCo]; rfl) ?_
   refine E.ret ?_
   exact pureK.ret rfl rfl (by simp) (by repeat first | exact sub_refl _ | refine sub_cons rfl ?_)
def g187 (args : List Value) (H : Heap) (n : Nat) : R := match args with
 | [.agg ⟨[.string _, .int .i64 _, .int .i64 x, .int .i64 y, .int .i64 _, .int .i64 _, .int .i64 _]⟩, .pointer (some ⟨b, 0, none⟩)] => match cellsA H b 0 1 with
   | some [.func (.func F) ⟨[]⟩ ⟨[]⟩] => if isDir F then some (iv (coF F x y), H, n) else none
   | _ => none
 | _ => none
theorem ok187 : EntOk Tryz.prog (187, g187) := by
 intro args H n v H' n' h'
 simp only [g187] at h'
 split at h'
 · rename_i s v0 x y d lo hi b
   split at h'
   · rename_i F hc
     split at h'
     · rename_i hF
       injection h' with h'; injection h' with e1 e2; injection e2 with e2 e3; subst e1 e2 e3
       exact AC.liftP rfl (Part.gen [⟨b, .inp 0 [fnV F]⟩] gsz (fun u hu => by rw [List.mem_singleton] at hu; subst hu; exact ⟨⟨1, hc⟩, by simp⟩) fun φ => ⟨[.agg ⟨[.string s, .int .i64 v0, .int .i64 x, .int .i64 y, .int .i64 d, .int .i64 lo, .int .i64 hi]⟩, .pointer (some ⟨10, 0, none⟩)], fun φ0 hl => by
         have := (hl 0 _ rfl).1
         simp only [Nat.add_zero] at this
         simp [denL, den, this], by simp [scL, sc], _, _, w187 F hF ⟨s, v0, x, y, d, lo, hi⟩⟩)
     · cases h'
   · cases h'
 · cases h'
def coG (F : Nat) (g : Gun) : Int := coF F g.x g.y
abbrev H186 (F : Nat) (l : List Gun) : Heap := [(11, .inp 0 [fnV F]), (10, .row (gcs l) 7)]
abbrev clV (b : Nat) : Value := .func (.func 187) #[] #[.pointer (some ⟨b, 0, none⟩)]
def S186 (F : Nat) (l : List Gun) : Nat → St
 | 0 => { fr := [(1, clV 11), (8, .slice (some ⟨10, 0, some 0⟩) l.length 0), (9, iv l.length), (5, .slice none 0 0), (10, iv 0)], sz := 22, H := H186 F l, n := 12, marks := [], vs := [1, 8, 9, 5, 10] }
 | i + 1 => { fr := [(1, clV 11), (8, .slice (some ⟨10, 0, some 0⟩) l.length 0), (9, iv l.length), (5, .slice (some ⟨12, 0, some 0⟩) (i + 1) 0), (10, iv (i + 1 : Nat))], sz := 22, H := (12, .ext ((tk (coG F) l (i + 1)).map iv) 3 1) :: H186 F l, n := 13, marks := [], vs := [1, 8, 9, 5, 10] }
def intQ (k : Nat) (l : List Int) (u : Value) (H : Heap) : Prop := ∃ m, u = .slice (some ⟨m, 0, some 0⟩) l.length 0 ∧ hget H m = some (.ext (l.map iv) 3 1) ∧ k ≤ m
set_option maxRecDepth 100000 in
theorem w186 (F : Nat) (hF : isDir F = true) (l : List Gun) (h1 : 1 ≤ l.length) (hl : l.length ≤ 4096) : ∃ u H1 n1 H2, AC Tryz.prog 186 [.slice (some ⟨10, 0, some 0⟩) l.length 0, clV 11] (H186 F l) 12 u H1 n1 ∧ intQ 12 (l.map (coG F)) u H2 ∧ (af u = false → H1 = H2) := by
 have hr := recT_ok (P := Tryz.prog) (l := [(187, g187)]) (by simp only [List.forall_mem_cons]; exact ⟨ok187, by simp⟩)
 have hpos : 0 < l.length := h1
 refine AC.out Tryz.func186 rfl (by kernel_rfl) rfl [1, 8, 9, 5, 10] ?_
 refine E.seq (E.reg hr (by simp; rfl) ?_)
 refine E.seq (E.reg hr (by simp; rfl) ?_)
 refine E.seq (E.seq (E.reg hr (by simp; rfl) ?_))
 refine E.block (E.loop ?_)
 refine EL.ind (S186 F l) (fun i => l.length - i) (fun i => i ≤ l.length) 0 (.less rfl rfl rfl (by simp [S186]) (by simp [S186])) (Nat.zero_le _) (fun i => by cases i <;> rfl) ?_
 intro i hi
 rcases i with _ | i
 · have hw : IntKind.i64.wrap 1 = 1 := W_in (by omega) (by omega)
   refine E.seq (E.reg hr (by simp [S186]; rfl) ?_)
   refine E.seq ?_
   refine E.cond (by rfl) (fun h => ?_) (fun h => ?_)
   · simp at h
     have hx := gcs_take hpos
     have h7 : 7 ≤ l.length * 7 := by omega
     rw [Nat.zero_mul, List.drop_zero] at hx
     have hts : (tk (coG F) l 1).map iv = [iv (coF F l[0].x l[0].y)] := by rw [tk_succ (coG F) hpos]; rfl
     refine E.skip (E.seq ?_)
     refine E.block (E.seq (E.reg hr (by simp [hx, hpos, h7]; rfl) ?_))
     refine E.reg hr (by simp [g187, hF]; rfl) ?_
     refine E.reg hr (by simp [hw]; rfl) ?_
     exact ⟨1, Leads.ren [14] rfl rfl rfl ⟨rfl, rfl⟩ (by simp [S186]) (by simp [S186, hts]), by omega, by dsimp only; omega⟩
   · simp at h
     simp [h] at h1
 · have hw : IntKind.i64.wrap ((i : Int) + 1 + 1) = (i : Int) + 1 + 1 := W_in (by omega) (by omega)
   have hlen : (tk (coG F) l (i + 1)).length = i + 1 := tk_length _ (by omega)
   have ht : List.take (i + 1) ((tk (coG F) l (i + 1)).map iv) = (tk (coG F) l (i + 1)).map iv := List.take_of_length_le (by simp [hlen])
   refine E.seq (E.reg hr (by simp [S186]; rfl) ?_)
   refine E.seq ?_
   refine E.cond (by rfl) (fun h => ?_) (fun h => ?_)
   · simp at h
     have hlt : i + 1 < l.length := by omega
     have hltI : (i : Int) + 1 < l.length := by omega
     have hx := gcs_take hlt
     have h7 : (i + 1) * 7 + 7 ≤ l.length * 7 := by omega
     have hts : (tk (coG F) l (i + 1 + 1)).map iv = (tk (coG F) l (i + 1)).map iv ++ [iv (coF F l[i + 1].x l[i + 1].y)] := by rw [tk_succ (coG F) hlt, List.map_append]; rfl
     have hsm : (i + 1 + 1) * 8 ≤ 1099511627776 ∧ i + 1 + 1 ≤ 1099511627776 := by omega
     refine E.skip (E.seq ?_)
     refine E.block (E.seq (E.reg hr (by simp [hx, hltI, h7]; rfl) ?_))
     refine E.reg hr (by simp [g187, hF, hsm, ht, hlen]; rfl) ?_
     refine E.reg hr (by simp [hw]; rfl) ?_
     exact ⟨i + 2, Leads.ren [15] rfl rfl rfl ⟨rfl, rfl⟩ (by simp [S186]) (by simp [S186, hts]), by omega, by dsimp only; omega⟩
   · simp at h
     have hal : tk (coG F) l (i + 1) = l.map (coG F) := tk_all _ (by omega)
     have hll : l.length = i + 1 := by omega
     refine E.exit ?_
     refine E.seq (E.reg hr (by simp; rfl) ?_)
     refine E.ret ?_
     refine outK.ret rfl rfl ?_
     exact ⟨12, by simp [hll], by simp [hal], by omega⟩
def g186 (args : List Value) (H : Heap) (n : Nat) : R := match args with
 | [.slice (some ⟨b, 0, some 0⟩) len 0, .func (.func 187) ⟨[]⟩ ⟨[.pointer (some ⟨a, 0, none⟩)]⟩] => match rowGuns H b len, cellsA H a 0 1 with
   | some l, some [.func (.func F) ⟨[]⟩ ⟨[]⟩] => if isDir F = true ∧ 1 ≤ l.length ∧ l.length ≤ 4096 then some (.slice (some ⟨n, 0, some 0⟩) (l.map (coG F)).length 0, (n, .ext ((l.map (coG F)).map iv) 3 1) :: H, n + 1) else none
   | _, _ => none
 | _ => none
theorem ok186 : EntOk Tryz.prog (186, g186) := by
 intro args H n v H' n' h'
 simp only [g186] at h'
 split at h'
 · rename_i b len a
   split at h'
   · rename_i l F hg hc
     split at h'
     · rename_i hh
       obtain ⟨hF, h1, hl⟩ := hh
       injection h' with h'; injection h' with e1 e2; injection e2 with e2 e3; subst e1 e2 e3
       obtain ⟨hb, rfl, _⟩ := rowGuns_ok hg
       refine AC.liftF (names_sx _ _) (.inr ⟨_, _, _, rfl, afL_iv _⟩) (Part.gen [⟨b, .row (gcs l) 7⟩, ⟨a, .inp 0 [fnV F]⟩] gsz (fun u hu => ?_) fun φ => ⟨[.slice (some ⟨10, 0, some 0⟩) l.length 0, clV 11], fun φ0 hv => ?_, ?_, ?_⟩)
       · rcases List.mem_cons.1 hu with rfl | hu
         · exact ⟨hb, afL_gcs l⟩
         · rw [List.mem_singleton] at hu
           subst hu
           exact ⟨⟨1, hc⟩, by simp⟩
       · have h0 := hv 0 _ rfl
         have h1 := (hv 1 _ rfl).1
         simp only [Nat.add_zero] at h0
         simp [denL, den, h0, h1]
       · simp [scL, sc]
       · obtain ⟨u, H1, n1, H2, hAC, ⟨m, hu, hm, hle⟩, hh⟩ := w186 F hF l h1 hl
         subst hu
         have := hh (by simp)
         subst this
         exact ⟨m, _, _, hle, hm, hAC⟩
     · cases h'
   · cases h'
 · cases h'
end Go.Proofs.YtndlfijfjglkdaaGreatDoor
namespace Go.Ab
open Go
section
variable {P : Program} {n0 m : Nat} {ro : Option Nat} {st : St} {K : Ex → St → Prop} {r : Rec}
theorem E.regE (hr : RecOk P r m) {id : Nat} {ops : Array Oper} (h : (opsF P r ops ops.toList st).isSome = true) (k : K .normal ((opsF P r ops ops.toList st).get h)) : E P n0 ro (.region id ops false) st K :=
 E.reg hr (Option.some_get h).symm k
end
end Go.Ab
namespace Go.Proofs.YtndlfijfjglkdaaGreatDoor
open Go Go.Ab Go.Proofs
def leastV (F : Nat) (l : List Gun) : Int := minN (l.map (coG F)) (l.length - 1)
def arrG (F : Nat) (l : List Gun) (g : Gun) : Int := g.d + (coG F g - leastV F l).tdiv 15
def inB (l : List Gun) : Prop := ∀ g ∈ l, -1000 ≤ g.x ∧ g.x ≤ 1000 ∧ -1000 ≤ g.y ∧ g.y ≤ 1000 ∧ 0 ≤ g.d ∧ g.d ≤ 16
theorem coF_bound (F : Nat) {x y : Int} (hx : -1000 ≤ x ∧ x ≤ 1000) (hy : -1000 ≤ y ∧ y ≤ 1000) : -1000 ≤ coF F x y ∧ coF F x y ≤ 1000 := by
 unfold coF
 split
 · rw [W_in (by omega) (by omega)]; omega
 split
 · omega
 split
 · rw [W_in (by omega) (by omega)]; omega
 split
 · omega
 · omega
theorem minN_mem (l : List Int) : ∀ i, i < l.length → minN l i ∈ l
 | 0, h => by simp [minN, h]
 | i + 1, h => by
   have ih := minN_mem l i (by omega)
   unfold minN
   rw [List.getElem?_eq_getElem h, Option.getD_some]
   rcases (show min (minN l i) l[i + 1] = minN l i ∨ min (minN l i) l[i + 1] = l[i + 1] by omega) with e | e
   · rw [e]; exact ih
   · rw [e]; exact List.getElem_mem h
theorem minN_le (l : List Int) : ∀ i, i < l.length → ∀ j (hj : j < l.length), j ≤ i → minN l i ≤ l[j]
 | 0, h, j, hj, hji => by
   obtain rfl : j = 0 := by omega
   simp [minN, h]
 | i + 1, h, j, hj, hji => by
   unfold minN
   rw [List.getElem?_eq_getElem h, Option.getD_some]
   rcases Nat.lt_or_ge i j with h1 | h1
   · obtain rfl : j = i + 1 := by omega
     omega
   · have := minN_le l i (by omega) j hj h1
     omega
theorem co_bound {F : Nat} {l : List Gun} (hb : inB l) {g : Gun} (hg : g ∈ l) : -1000 ≤ coG F g ∧ coG F g ≤ 1000 := by
 obtain ⟨h1, h2, h3, h4, _⟩ := hb g hg
 exact coF_bound F ⟨h1, h2⟩ ⟨h3, h4⟩
theorem least_bound {F : Nat} {l : List Gun} (hb : inB l) (h1 : 1 ≤ l.length) : -1000 ≤ leastV F l ∧ leastV F l ≤ 1000 := by
 have := minN_mem (l.map (coG F)) (l.length - 1) (by simp; omega)
 obtain ⟨g, hg, e⟩ := List.mem_map.1 this
 have := co_bound (F := F) hb hg
 unfold leastV
 omega
theorem gcs_dE {l : List Gun} {i : Nat} (h : i < l.length) (h2 : i * 7 + 4 < (gcs l).length) : (gcs l)[i * 7 + 4] = iv l[i].d := by
 have := gcs_get h 4 (by omega)
 rw [List.getElem?_eq_getElem h2] at this
 exact Option.some.inj this
theorem arr_wraps {F : Nat} {l : List Gun} (hb : inB l) (h1 : 1 ≤ l.length) {g : Gun} (hg : g ∈ l) : IntKind.i64.wrap (coG F g - leastV F l) = coG F g - leastV F l ∧ IntKind.i64.wrap ((coG F g - leastV F l).tdiv 15) = (coG F g - leastV F l).tdiv 15 ∧ IntKind.i64.wrap (g.d + (coG F g - leastV F l).tdiv 15) = arrG F l g := by
 have h2 := co_bound (F := F) hb hg
 have h3 := least_bound (F := F) hb h1
 obtain ⟨_, _, _, _, h4, h5⟩ := hb g hg
 have h6 : ((coG F g - leastV F l).tdiv 15).natAbs ≤ (coG F g - leastV F l).natAbs := by rw [Int.natAbs_tdiv]; exact Nat.div_le_self _ _
 exact ⟨W_in (by omega) (by omega), W_in (by omega) (by omega), W_in (by omega) (by omega)⟩
abbrev H116 (l : List Gun) : Heap := [(11, .cells [.slice (some ⟨10, 0, some 0⟩) l.length 0] 32), (10, .row (gcs l) 7)]
def C116 (F : Nat) (l : List Gun) : St := { fr := [(2, .pointer (some ⟨11, 0, none⟩)), (5, .pointer (some ⟨13, 0, none⟩))], sz := 44, H := (13, .cells [fnV F] 257) :: H116 l, n := 14, marks := [], vs := [2, 7, 8, 21, 22, 23] }
def S116 (F : Nat) (l : List Gun) (cl : List Int) : Nat → St
 | 0 => { fr := [(2, .pointer (some ⟨11, 0, none⟩)), (7, iv (leastV F l)), (8, .slice none 0 0), (21, .slice (some ⟨12, 0, some 0⟩) cl.length 0), (22, iv cl.length), (23, iv 0)], sz := 44, H := (12, .ext (cl.map iv) 3 1) :: H116 l, n := 13, marks := [], vs := [2, 7, 8, 21, 22, 23] }
 | i + 1 => { fr := [(2, .pointer (some ⟨11, 0, none⟩)), (7, iv (leastV F l)), (8, .slice (some ⟨13, 0, some 0⟩) (i + 1) 0), (21, .slice (some ⟨12, 0, some 0⟩) cl.length 0), (22, iv cl.length), (23, iv (i + 1 : Nat))], sz := 44, H := (13, .ext ((tk (arrG F l) l (i + 1)).map iv) 3 1) :: (12, .ext (cl.map iv) 3 1) :: H116 l, n := 14, marks := [], vs := [2, 7, 8, 21, 22, 23] }
set_option maxRecDepth 100000 in
theorem w116 (F : Nat) (hF : isDir F = true) (l : List Gun) (h1 : 1 ≤ l.length) (h8 : l.length ≤ 8) (hb : inB l) : ∃ u H1 n1 H2, AC Tryz.prog 116 [rowV l.length, sv (dOf F)] [(10, .row (gcs l) 7)] 11 u H1 n1 ∧ intQ 11 (l.map (arrG F l)) u H2 ∧ (af u = false → H1 = H2) := by
 have hr := recT_ok (P := Tryz.prog) (l := [(186, g186), (188, g188)]) (by simp only [List.forall_mem_cons]; exact ⟨ok186, ok188, by simp⟩)
 have hrE := ev_sound mixed (O := fun _ _ _ _ => none) (fun _ _ _ _ _ _ _ h => by cases h) 30
 have hpos : 0 < l.length := h1
 obtain ⟨cl, hcl⟩ : ∃ cl, cl = l.map (coG F) := ⟨_, rfl⟩
 have hcll : cl.length = l.length := by rw [hcl, List.length_map]
 have hce : ∀ i (h : i < cl.length) (h' : i < l.length), cl[i] = coG F l[i] := fun i h h' => by subst hcl; simp
 have hle : minN cl (cl.length - 1) = leastV F l := by rw [hcll, hcl]; rfl
 have hrow : ∀ G : Heap, hget G 10 = some (.row (gcs l) 7) → rowGuns G 10 l.length = some l := fun G hG => by
   unfold rowGuns rowOf
   rw [hG]
   simp [gunsOf_gcs, show l.length < 9223372036854775808 by omega]
 have hin : ∀ (G : Heap) (b : Nat), hget G b = some (.ext (cl.map iv) 3 1) → intsAt G ⟨b, 0, some 0⟩ cl.length = some cl := fun G b hG => by
   unfold intsAt
   simp [hG, List.take_of_length_le, intsOf_iv, show cl.length < 2147483648 by omega]
 have hl6 : l.length ≤ 4096 := by omega
 have hc1 : 1 ≤ cl.length := by omega
 refine AC.out Tryz.func116 rfl (by kernel_rfl) rfl [2, 7, 8, 21, 22, 23] ?_
 refine E.seq (E.reg hr (by simp; rfl) ?_)
 refine E.cut (C116 F l) ?_ ?_
 · rcases isDir_cases hF with rfl | rfl | rfl | rfl | rfl
   · refine E.regE hrE (by kernel_rfl) ?_
     exact Leads.less (by kernel_rfl) (by kernel_rfl) (by kernel_rfl) (List.forall_mem_cons.2 ⟨by kernel_rfl, List.forall_mem_cons.2 ⟨by kernel_rfl, by simp⟩⟩) (List.forall_mem_cons.2 ⟨by kernel_rfl, List.forall_mem_cons.2 ⟨by kernel_rfl, List.forall_mem_cons.2 ⟨by kernel_rfl, by simp⟩⟩⟩)
   · refine E.regE hrE (by kernel_rfl) ?_
     exact Leads.less (by kernel_rfl) (by kernel_rfl) (by kernel_rfl) (List.forall_mem_cons.2 ⟨by kernel_rfl, List.forall_mem_cons.2 ⟨by kernel_rfl, by simp⟩⟩) (List.forall_mem_cons.2 ⟨by kernel_rfl, List.forall_mem_cons.2 ⟨by kernel_rfl, List.forall_mem_cons.2 ⟨by kernel_rfl, by simp⟩⟩⟩)
   · refine E.regE hrE (by kernel_rfl) ?_
     exact Leads.less (by kernel_rfl) (by kernel_rfl) (by kernel_rfl) (List.forall_mem_cons.2 ⟨by kernel_rfl, List.forall_mem_cons.2 ⟨by kernel_rfl, by simp⟩⟩) (List.forall_mem_cons.2 ⟨by kernel_rfl, List.forall_mem_cons.2 ⟨by kernel_rfl, List.forall_mem_cons.2 ⟨by kernel_rfl, by simp⟩⟩⟩)
   · refine E.regE hrE (by kernel_rfl) ?_
     exact Leads.less (by kernel_rfl) (by kernel_rfl) (by kernel_rfl) (List.forall_mem_cons.2 ⟨by kernel_rfl, List.forall_mem_cons.2 ⟨by kernel_rfl, by simp⟩⟩) (List.forall_mem_cons.2 ⟨by kernel_rfl, List.forall_mem_cons.2 ⟨by kernel_rfl, List.forall_mem_cons.2 ⟨by kernel_rfl, by simp⟩⟩⟩)
   · refine E.regE hrE (by kernel_rfl) ?_
     exact Leads.less (by kernel_rfl) (by kernel_rfl) (by kernel_rfl) (List.forall_mem_cons.2 ⟨by kernel_rfl, List.forall_mem_cons.2 ⟨by kernel_rfl, by simp⟩⟩) (List.forall_mem_cons.2 ⟨by kernel_rfl, List.forall_mem_cons.2 ⟨by kernel_rfl, List.forall_mem_cons.2 ⟨by kernel_rfl, by simp⟩⟩⟩)
 refine E.seq (E.reg hr (by simp [C116, opMakefunc, g186, hrow, hF, h1, hl6, ← hcl]; rfl) ?_)
 refine E.seq (E.reg hr (by simp [g188, hin, hc1, hle]; rfl) ?_)
 refine E.seq (E.reg hr (by simp; rfl) ?_)
 refine E.seq (E.seq (E.reg hr (by simp; rfl) ?_))
 refine E.block (E.loop ?_)
 refine EL.ind (S116 F l cl) (fun i => l.length - i) (fun i => i ≤ l.length) 0 (Leads.ren [11, 14] rfl rfl rfl ⟨rfl, rfl⟩ (by simp [S116]) (by simp [S116])) (Nat.zero_le _) (fun i => by cases i <;> rfl) ?_
 intro i hi
 rcases i with _ | i
 · have hw : IntKind.i64.wrap 1 = 1 := W_in (by omega) (by omega)
   refine E.seq (E.reg hr (by simp [S116]; rfl) ?_)
   refine E.seq ?_
   refine E.cond (by rfl) (fun h => ?_) (fun h => ?_)
   · simp at h
     obtain ⟨q1, q2, q3⟩ := arr_wraps (F := F) hb h1 (List.getElem_mem hpos)
     have hc := hce 0 (by omega) hpos
     have h0c : 0 < cl.length := by omega
     have h7 : 4 < l.length * 7 := by omega
     have hd := gcs_dE hpos (by simp; omega)
     simp only [Nat.zero_mul, Nat.zero_add] at hd
     have hts : (tk (arrG F l) l 1).map iv = [iv (arrG F l l[0])] := by rw [tk_succ (arrG F l) hpos]; rfl
     refine E.skip (E.seq ?_)
     refine E.block (E.seq (E.reg hr (by simp [h0c, hc]; rfl) ?_))
     refine E.reg hr (by simp [hpos, h7, hd, q1, bin_quo (show (15 : Int) ≠ 0 by decide), q2, q3]; rfl) ?_
     refine E.reg hr (by simp [hw]; rfl) ?_
     exact ⟨1, Leads.ren [11, 12, 14] rfl rfl rfl ⟨rfl, rfl⟩ (by simp [S116]) (by simp [S116, hts]), by omega, by dsimp only; omega⟩
   · simp at h
     simp [h] at hc1
 · have hw : IntKind.i64.wrap ((i : Int) + 1 + 1) = (i : Int) + 1 + 1 := W_in (by omega) (by omega)
   have hlen : (tk (arrG F l) l (i + 1)).length = i + 1 := tk_length _ (by omega)
   have ht : List.take (i + 1) ((tk (arrG F l) l (i + 1)).map iv) = (tk (arrG F l) l (i + 1)).map iv := List.take_of_length_le (by simp [hlen])
   refine E.seq (E.reg hr (by simp [S116]; rfl) ?_)
   refine E.seq ?_
   refine E.cond (by rfl) (fun h => ?_) (fun h => ?_)
   · simp at h
     have hltc : i + 1 < cl.length := by omega
     have hlt : i + 1 < l.length := by omega
     have hltI : (i : Int) + 1 < cl.length := by omega
     have hltJ : (i : Int) + 1 < l.length := by omega
     obtain ⟨q1, q2, q3⟩ := arr_wraps (F := F) hb h1 (List.getElem_mem hlt)
     have hc := hce (i + 1) hltc hlt
     have h7 : (i + 1) * 7 + 4 < l.length * 7 := by omega
     have hd := gcs_dE hlt (by simp; omega)
     have hts : (tk (arrG F l) l (i + 1 + 1)).map iv = (tk (arrG F l) l (i + 1)).map iv ++ [iv (arrG F l l[i + 1])] := by rw [tk_succ (arrG F l) hlt, List.map_append]; rfl
     have hsm : (i + 1 + 1) * 8 ≤ 1099511627776 ∧ i + 1 + 1 ≤ 1099511627776 := by omega
     refine E.skip (E.seq ?_)
     refine E.block (E.seq (E.reg hr (by simp [hltc, hltI, hc]; rfl) ?_))
     refine E.reg hr (by simp [hltJ, h7, hd, q1, bin_quo (show (15 : Int) ≠ 0 by decide), q2, q3, hsm, ht, hlen]; rfl) ?_
     refine E.reg hr (by simp [hw]; rfl) ?_
     exact ⟨i + 2, Leads.ren [11, 12, 15] rfl rfl rfl ⟨rfl, rfl⟩ (by simp [S116]) (by simp [S116, hts]), by omega, by dsimp only; omega⟩
   · simp at h
     have hal : tk (arrG F l) l (i + 1) = l.map (arrG F l) := tk_all _ (by omega)
     have hll : l.length = i + 1 := by omega
     refine E.exit ?_
     refine E.seq (E.reg hr (by simp; rfl) ?_)
     refine E.ret ?_
     refine outK.ret rfl rfl ?_
     exact ⟨13, by simp [hll], by simp [hal], by omega⟩
def fOf (s : ByteArray) : Nat := if s = dOf 229 then 229 else if s = dOf 230 then 230 else if s = dOf 231 then 231 else if s = dOf 232 then 232 else 233
theorem fOf_ok {s : ByteArray} (h : hasW s dirs = true) : isDir (fOf s) = true ∧ dOf (fOf s) = s := by
 have := hasW_iff.1 h
 simp only [dirs, List.mem_cons, List.not_mem_nil, or_false] at this
 rcases this with rfl | rfl | rfl | rfl | rfl <;> exact ⟨by kernel_rfl, by kernel_rfl⟩
theorem gun_nums {l : List Gun} (h : strE l = 0) : ∀ g ∈ l, (1 ≤ g.v ∧ g.v ≤ 64) ∧ (-1000 ≤ g.x ∧ g.x ≤ 1000) ∧ (-1000 ≤ g.y ∧ g.y ≤ 1000) ∧ (0 ≤ g.d ∧ g.d ≤ 16) ∧ (0 ≤ g.lo ∧ g.lo ≤ 4) ∧ (0 ≤ g.hi ∧ g.hi ≤ 4) := by
 intro g hg
 obtain ⟨i, hi, rfl⟩ := List.getElem_of_mem hg
 have hl := strE_len h
 unfold strE at h
 rw [if_neg (by omega), if_neg (by omega)] at h
 have hc := (firstV_zero _).1 h (gunChk l i) (List.mem_map.2 ⟨i, by simpa using hi, rfl⟩)
 rw [gunChk_at hi] at hc
 have h2 := (firstV_zero _).1 hc l[i].err (by simp)
 unfold Gun.err at h2
 exact ⟨(withinV_zero _ _ _).1 ((firstV_zero _).1 h2 (withinV l[i].v 1 64) (by simp)), (withinV_zero _ _ _).1 ((firstV_zero _).1 h2 (withinV l[i].x (-1000) 1000) (by simp)), (withinV_zero _ _ _).1 ((firstV_zero _).1 h2 (withinV l[i].y (-1000) 1000) (by simp)), (withinV_zero _ _ _).1 ((firstV_zero _).1 h2 (withinV l[i].d 0 16) (by simp)), (withinV_zero _ _ _).1 ((firstV_zero _).1 h2 (withinV l[i].lo 0 4) (by simp)), (withinV_zero _ _ _).1 ((firstV_zero _).1 h2 (withinV l[i].hi 0 4) (by simp))⟩
theorem strE_inB {l : List Gun} (h : strE l = 0) : inB l := fun g hg => by
 obtain ⟨_, h1, h2, h3, _⟩ := gun_nums h g hg
 exact ⟨h1.1, h1.2, h2.1, h2.2, h3.1, h3.2⟩
def arrL (s : ByteArray) (l : List Gun) : List Int := l.map (arrG (fOf s) l)
def g116 (args : List Value) (H : Heap) (n : Nat) : R := match args with
 | [.agg ⟨[.slice (some ⟨b, 0, some 0⟩) len 0]⟩, .string s] => match rowGuns H b len with
   | some l => if strE l = 0 ∧ hasW s dirs = true then some (.slice (some ⟨n, 0, some 0⟩) (arrL s l).length 0, (n, .ext ((arrL s l).map iv) 3 1) :: H, n + 1) else none
   | none => none
 | _ => none
theorem ok116 : EntOk Tryz.prog (116, g116) := by
 intro args H n v H' n' h'
 simp only [g116] at h'
 split at h'
 · split at h'
   · rename_i l hg
     split at h'
     · rename_i hh
       obtain ⟨hs, hd⟩ := hh
       injection h' with h'; injection h' with e1 e2; injection e2 with e2 e3; subst e1 e2 e3
       obtain ⟨hb, rfl, _⟩ := rowGuns_ok hg
       obtain ⟨hF, hdo⟩ := fOf_ok hd
       obtain ⟨h1, h8⟩ := strE_len hs
       refine AC.liftF (names_sx _ _) (.inr ⟨_, _, _, rfl, afL_iv _⟩) (Part.row (fun x => [.agg ⟨[x]⟩, sv _]) (by intro φ φ0 s s0 h; simp [denL, den, h]) (by intro p s h; exact ⟨⟨h, trivial⟩, trivial, trivial⟩) hb (afL_gcs l) gsz ?_)
       obtain ⟨u, H1, n1, H2, hAC, ⟨m, hu, hm, hle⟩, hh⟩ := w116 _ hF l h1 h8 (strE_inB hs)
       rw [hdo] at hAC
       subst hu
       have := hh (by simp)
       subst this
       exact ⟨m, _, _, by omega, hm, hAC⟩
     · cases h'
   · cases h'
 · cases h'
theorem dirE_zero {s : ByteArray} (h : dirE s = 0) : hasW s dirs = true := by
 unfold dirE at h
 split at h
 · assumption
 · cases h
theorem seen0 {H : Heap} (h0 : hget H 0 = some (.inp 0 names0)) : Seen Tryz.prog H [(0, .inp 0 names0)] := by
 intro x hx
 rw [gsz]
 simp at hx
 subst hx
 exact ⟨by simp, h0, rfl, scL_af _ _ af_names0⟩
def difF (F : Nat) (l : List Gun) (k i : Nat) : Int := match l[k]?, l[i]? with
 | some a, some b => if F = 230 then b.x - a.x else if F = 231 then a.x - b.x else if F = 232 then b.y - a.y else if F = 233 then a.y - b.y else 0
 | _, _ => 0
def farF (F : Nat) (l : List Gun) (k : Nat) : Nat → Int
 | 0 => 0
 | i + 1 => max (farF F l k i) (difF F l k i)
theorem far_bound {F : Nat} {l : List Gun} (hb : inB l) (k : Nat) : ∀ i, 0 ≤ farF F l k i ∧ farF F l k i ≤ 2000
 | 0 => by simp [farF]
 | i + 1 => by
   have ih := far_bound (F := F) hb k i
   have : difF F l k i ≤ 2000 := by
     unfold difF
     split
     · rename_i a b h1 h2
       have ha := hb a (List.mem_of_getElem? h1)
       have hb := hb b (List.mem_of_getElem? h2)
       split
       · omega
       split
       · omega
       split
       · omega
       split
       · omega
       · omega
     · omega
   unfold farF
   omega
def lagV (F : Nat) (l : List Gun) (k : Nat) : Int := (farF F l k l.length).tdiv 15
theorem gcs_at2 {l : List Gun} {i : Nat} (h : i < l.length) : ((gcs l).drop (i * 7 + 2)).take 2 = [iv l[i].x, iv l[i].y] := by
 have := gcs_at h
 rw [← List.drop_drop, this]
 simp [Gun.cells]
abbrev H120 (l : List Gun) (o c : Nat) (a : Gun) : Heap := [(12, .cells [iv a.x, iv a.y] 90), (11, .cells [.slice (some ⟨10, o, none⟩) l.length c] 24), (10, .inp o (gcs l))]
set_option maxRecDepth 100000 in
theorem w120 (F : Nat) (hF : isDir F = true) (l : List Gun) (o c k : Nat) (hk : k < l.length) (hl : l.length ≤ 8) (hb : inB l) : AC Tryz.prog 120 [strV o l.length c, iv k, sv (dOf F)] [(10, .inp o (gcs l))] 11 (iv (lagV F l k)) [(10, .inp o (gcs l))] 11 := by
 have hr := recT_ok (P := Tryz.prog) (l := []) (by simp)
 have hkI : (k : Int) < l.length := by omega
 have hk7 : k * 7 + 2 + 2 ≤ l.length * 7 := by omega
 have hga := gcs_at2 hk
 have hoc : o ≤ o + k * 7 + 2 := by omega
 have hod : o + k * 7 + 2 - o = k * 7 + 2 := by omega
 rcases isDir_cases hF with rfl | rfl | rfl | rfl | rfl
 · refine AC.pure Tryz.func120 rfl (by kernel_rfl) rfl [2, 3, 7, 8, 9] rfl ?_
   refine E.seq (E.reg hr (by simp; rfl) ?_)
   refine E.seq (E.reg hr (by simp [hkI, hk7, hga, hoc, hod]; rfl) ?_)
   refine E.seq (E.reg hr (by simp; rfl) ?_)
   refine E.seq (E.seq (E.reg hr (by simp; rfl) ?_))
   refine E.block (E.loop ?_)
   refine EL.ind (fun i : Nat => { fr := [(2, sv (dOf 229)), (3, .pointer (some ⟨11, 0, none⟩)), (7, .pointer (some ⟨12, 0, none⟩)), (8, iv (farF 229 l k i)), (9, iv i)], sz := 68, H := H120 l o c l[k], n := 13, marks := [], vs := [2, 3, 7, 8, 9] }) (fun i => l.length - i) (fun i => i ≤ l.length) 0 (.less rfl rfl rfl (by simp [farF]) (by simp)) (Nat.zero_le _) (fun _ => rfl) ?_
   intro i hi
   refine E.seq (E.seq (E.reg hr (by simp; rfl) ?_))
   refine E.cond (by rfl) (fun h => ?_) (fun h => ?_)
   · simp at h
     have hw : IntKind.i64.wrap ((i : Int) + 1) = (i : Int) + 1 := W_in (by omega) (by omega)
     have hiI : (i : Int) < l.length := by omega
     have hi7 : i * 7 + 2 + 2 ≤ l.length * 7 := by omega
     have hgi := gcs_at2 h
     have hic : o ≤ o + i * 7 + 2 := by omega
     have hid : o + i * 7 + 2 - o = i * 7 + 2 := by omega
     have b1 := hb l[k] (List.getElem_mem hk)
     have b2 := hb l[i] (List.getElem_mem h)
     have hnx : farF 229 l k (i + 1) = max (farF 229 l k i) (difF 229 l k i) := rfl
     have hdif : difF 229 l k i = 0 := by simp [difF, hk, h]
     have hmx : max (farF 229 l k i) 0 = farF 229 l k i := by have := (far_bound (F := 229) hb k i).1; omega
     refine E.skip (E.seq ?_)
     refine E.block (E.seq (E.reg hr (by simp [h, hiI, hi7, hgi, hic, hid]; rfl) ?_))
     refine E.seq (E.seq (E.reg hr (by simp [dOf]; rfl) ?_))
     refine E.cond (by rfl) (fun h2 => ?_) (fun h2 => ?_)
     · simp at h2
     refine E.skip (E.seq ?_)
     refine E.seq (E.reg hr (by simp; rfl) ?_)
     refine E.cond (by rfl) (fun h2 => ?_) (fun h2 => ?_)
     · simp at h2
     refine E.skip (E.seq ?_)
     refine E.seq (E.reg hr (by simp; rfl) ?_)
     refine E.cond (by rfl) (fun h2 => ?_) (fun h2 => ?_)
     · simp at h2
     refine E.skip (E.seq (E.reg hr (by simp; rfl) ?_))
     refine E.cond (by rfl) (fun h2 => ?_) (fun h2 => ?_)
     · simp at h2
     refine E.skip (E.reg hr (by simp [hw]; rfl) ?_)
     exact ⟨i + 1, Leads.ren [11, 12] rfl rfl rfl ⟨rfl, rfl⟩ (by simp [dOf, hnx, hdif, hmx]) (by simp), h, by dsimp only; omega⟩
   · simp at h
     obtain rfl : i = l.length := by omega
     have fb := far_bound (F := 229) hb k l.length
     have hq : IntKind.i64.wrap ((farF 229 l k l.length).tdiv 15) = lagV 229 l k := by
       have h6 : ((farF 229 l k l.length).tdiv 15).natAbs ≤ (farF 229 l k l.length).natAbs := by rw [Int.natAbs_tdiv]; exact Nat.div_le_self _ _
       exact W_in (by omega) (by omega)
     refine E.exit ?_
     refine E.seq (E.reg hr (by simp [bin_quo (show (15 : Int) ≠ 0 by decide), hq]; rfl) ?_)
     refine E.ret ?_
     exact pureK.ret rfl rfl (by simp) (by repeat first | exact sub_refl _ | refine sub_cons rfl ?_)
 · refine AC.pure Tryz.func120 rfl (by kernel_rfl) rfl [2, 3, 7, 8, 9] rfl ?_
   refine E.seq (E.reg hr (by simp; rfl) ?_)
   refine E.seq (E.reg hr (by simp [hkI, hk7, hga, hoc, hod]; rfl) ?_)
   refine E.seq (E.reg hr (by simp; rfl) ?_)
   refine E.seq (E.seq (E.reg hr (by simp; rfl) ?_))
   refine E.block (E.loop ?_)
   refine EL.ind (fun i : Nat => { fr := [(2, sv (dOf 230)), (3, .pointer (some ⟨11, 0, none⟩)), (7, .pointer (some ⟨12, 0, none⟩)), (8, iv (farF 230 l k i)), (9, iv i)], sz := 68, H := H120 l o c l[k], n := 13, marks := [], vs := [2, 3, 7, 8, 9] }) (fun i => l.length - i) (fun i => i ≤ l.length) 0 (.less rfl rfl rfl (by simp [farF]) (by simp)) (Nat.zero_le _) (fun _ => rfl) ?_
   intro i hi
   refine E.seq (E.seq (E.reg hr (by simp; rfl) ?_))
   refine E.cond (by rfl) (fun h => ?_) (fun h => ?_)
   · simp at h
     have hw : IntKind.i64.wrap ((i : Int) + 1) = (i : Int) + 1 := W_in (by omega) (by omega)
     have hiI : (i : Int) < l.length := by omega
     have hi7 : i * 7 + 2 + 2 ≤ l.length * 7 := by omega
     have hgi := gcs_at2 h
     have hic : o ≤ o + i * 7 + 2 := by omega
     have hid : o + i * 7 + 2 - o = i * 7 + 2 := by omega
     have b1 := hb l[k] (List.getElem_mem hk)
     have b2 := hb l[i] (List.getElem_mem h)
     have hnx : farF 230 l k (i + 1) = max (farF 230 l k i) (difF 230 l k i) := rfl
     have hdif : difF 230 l k i = l[i].x - l[k].x := by simp [difF, hk, h]
     have hdw : IntKind.i64.wrap (l[i].x - l[k].x) = l[i].x - l[k].x := W_in (by omega) (by omega)
     refine E.skip (E.seq ?_)
     refine E.block (E.seq (E.reg hr (by simp [h, hiI, hi7, hgi, hic, hid]; rfl) ?_))
     refine E.seq (E.seq (E.reg hr (by simp [dOf]; rfl) ?_))
     refine E.cond (by rfl) (fun h2 => ?_) (fun h2 => ?_)
     rotate_left
     · simp at h2
     refine E.reg hr (by simp [max33', hdw]; rfl) ?_
     refine E.seq (E.seq (E.reg hr (by simp; rfl) ?_))
     refine E.cond (by rfl) (fun h2 => ?_) (fun h2 => ?_)
     · simp at h2
     refine E.skip (E.seq ?_)
     refine E.seq (E.reg hr (by simp; rfl) ?_)
     refine E.cond (by rfl) (fun h2 => ?_) (fun h2 => ?_)
     · simp at h2
     refine E.skip (E.seq (E.reg hr (by simp; rfl) ?_))
     refine E.cond (by rfl) (fun h2 => ?_) (fun h2 => ?_)
     · simp at h2
     refine E.skip (E.reg hr (by simp [hw]; rfl) ?_)
     exact ⟨i + 1, Leads.ren [11, 12] rfl rfl rfl ⟨rfl, rfl⟩ (by simp [dOf, hnx, hdif]) (by simp), h, by dsimp only; omega⟩
   · simp at h
     obtain rfl : i = l.length := by omega
     have fb := far_bound (F := 230) hb k l.length
     have hq : IntKind.i64.wrap ((farF 230 l k l.length).tdiv 15) = lagV 230 l k := by
       have h6 : ((farF 230 l k l.length).tdiv 15).natAbs ≤ (farF 230 l k l.length).natAbs := by rw [Int.natAbs_tdiv]; exact Nat.div_le_self _ _
       exact W_in (by omega) (by omega)
     refine E.exit ?_
     refine E.seq (E.reg hr (by simp [bin_quo (show (15 : Int) ≠ 0 by decide), hq]; rfl) ?_)
     refine E.ret ?_
     exact pureK.ret rfl rfl (by simp) (by repeat first | exact sub_refl _ | refine sub_cons rfl ?_)
 · refine AC.pure Tryz.func120 rfl (by kernel_rfl) rfl [2, 3, 7, 8, 9] rfl ?_
   refine E.seq (E.reg hr (by simp; rfl) ?_)
   refine E.seq (E.reg hr (by simp [hkI, hk7, hga, hoc, hod]; rfl) ?_)
   refine E.seq (E.reg hr (by simp; rfl) ?_)
   refine E.seq (E.seq (E.reg hr (by simp; rfl) ?_))
   refine E.block (E.loop ?_)
   refine EL.ind (fun i : Nat => { fr := [(2, sv (dOf 231)), (3, .pointer (some ⟨11, 0, none⟩)), (7, .pointer (some ⟨12, 0, none⟩)), (8, iv (farF 231 l k i)), (9, iv i)], sz := 68, H := H120 l o c l[k], n := 13, marks := [], vs := [2, 3, 7, 8, 9] }) (fun i => l.length - i) (fun i => i ≤ l.length) 0 (.less rfl rfl rfl (by simp [farF]) (by simp)) (Nat.zero_le _) (fun _ => rfl) ?_
   intro i hi
   refine E.seq (E.seq (E.reg hr (by simp; rfl) ?_))
   refine E.cond (by rfl) (fun h => ?_) (fun h => ?_)
   · simp at h
     have hw : IntKind.i64.wrap ((i : Int) + 1) = (i : Int) + 1 := W_in (by omega) (by omega)
     have hiI : (i : Int) < l.length := by omega
     have hi7 : i * 7 + 2 + 2 ≤ l.length * 7 := by omega
     have hgi := gcs_at2 h
     have hic : o ≤ o + i * 7 + 2 := by omega
     have hid : o + i * 7 + 2 - o = i * 7 + 2 := by omega
     have b1 := hb l[k] (List.getElem_mem hk)
     have b2 := hb l[i] (List.getElem_mem h)
     have hnx : farF 231 l k (i + 1) = max (farF 231 l k i) (difF 231 l k i) := rfl
     have hdif : difF 231 l k i = l[k].x - l[i].x := by simp [difF, hk, h]
     have hdw : IntKind.i64.wrap (l[k].x - l[i].x) = l[k].x - l[i].x := W_in (by omega) (by omega)
     refine E.skip (E.seq ?_)
     refine E.block (E.seq (E.reg hr (by simp [h, hiI, hi7, hgi, hic, hid]; rfl) ?_))
     refine E.seq (E.seq (E.reg hr (by simp [dOf]; rfl) ?_))
     refine E.cond (by rfl) (fun h2 => ?_) (fun h2 => ?_)
     · simp at h2
     refine E.skip (E.seq ?_)
     refine E.seq (E.reg hr (by simp; rfl) ?_)
     refine E.cond (by rfl) (fun h2 => ?_) (fun h2 => ?_)
     rotate_left
     · simp at h2
     refine E.reg hr (by simp [max33', hdw]; rfl) ?_
     refine E.seq (E.seq (E.reg hr (by simp; rfl) ?_))
     refine E.cond (by rfl) (fun h2 => ?_) (fun h2 => ?_)
     · simp at h2
     refine E.skip (E.seq (E.reg hr (by simp; rfl) ?_))
     refine E.cond (by rfl) (fun h2 => ?_) (fun h2 => ?_)
     · simp at h2
     refine E.skip (E.reg hr (by simp [hw]; rfl) ?_)
     exact ⟨i + 1, Leads.ren [11, 12] rfl rfl rfl ⟨rfl, rfl⟩ (by simp [dOf, hnx, hdif]) (by simp), h, by dsimp only; omega⟩
   · simp at h
     obtain rfl : i = l.length := by omega
     have fb := far_bound (F := 231) hb k l.length
     have hq : IntKind.i64.wrap ((farF 231 l k l.length).tdiv 15) = lagV 231 l k := by
       have h6 : ((farF 231 l k l.length).tdiv 15).natAbs ≤ (farF 231 l k l.length).natAbs := by rw [Int.natAbs_tdiv]; exact Nat.div_le_self _ _
       exact W_in (by omega) (by omega)
     refine E.exit ?_
     refine E.seq (E.reg hr (by simp [bin_quo (show (15 : Int) ≠ 0 by decide), hq]; rfl) ?_)
     refine E.ret ?_
     exact pureK.ret rfl rfl (by simp) (by repeat first | exact sub_refl _ | refine sub_cons rfl ?_)
 · refine AC.pure Tryz.func120 rfl (by kernel_rfl) rfl [2, 3, 7, 8, 9] rfl ?_
   refine E.seq (E.reg hr (by simp; rfl) ?_)
   refine E.seq (E.reg hr (by simp [hkI, hk7, hga, hoc, hod]; rfl) ?_)
   refine E.seq (E.reg hr (by simp; rfl) ?_)
   refine E.seq (E.seq (E.reg hr (by simp; rfl) ?_))
   refine E.block (E.loop ?_)
   refine EL.ind (fun i : Nat => { fr := [(2, sv (dOf 232)), (3, .pointer (some ⟨11, 0, none⟩)), (7, .pointer (some ⟨12, 0, none⟩)), (8, iv (farF 232 l k i)), (9, iv i)], sz := 68, H := H120 l o c l[k], n := 13, marks := [], vs := [2, 3, 7, 8, 9] }) (fun i => l.length - i) (fun i => i ≤ l.length) 0 (.less rfl rfl rfl (by simp [farF]) (by simp)) (Nat.zero_le _) (fun _ => rfl) ?_
   intro i hi
   refine E.seq (E.seq (E.reg hr (by simp; rfl) ?_))
   refine E.cond (by rfl) (fun h => ?_) (fun h => ?_)
   · simp at h
     have hw : IntKind.i64.wrap ((i : Int) + 1) = (i : Int) + 1 := W_in (by omega) (by omega)
     have hiI : (i : Int) < l.length := by omega
     have hi7 : i * 7 + 2 + 2 ≤ l.length * 7 := by omega
     have hgi := gcs_at2 h
     have hic : o ≤ o + i * 7 + 2 := by omega
     have hid : o + i * 7 + 2 - o = i * 7 + 2 := by omega
     have b1 := hb l[k] (List.getElem_mem hk)
     have b2 := hb l[i] (List.getElem_mem h)
     have hnx : farF 232 l k (i + 1) = max (farF 232 l k i) (difF 232 l k i) := rfl
     have hdif : difF 232 l k i = l[i].y - l[k].y := by simp [difF, hk, h]
     have hdw : IntKind.i64.wrap (l[i].y - l[k].y) = l[i].y - l[k].y := W_in (by omega) (by omega)
     refine E.skip (E.seq ?_)
     refine E.block (E.seq (E.reg hr (by simp [h, hiI, hi7, hgi, hic, hid]; rfl) ?_))
     refine E.seq (E.seq (E.reg hr (by simp [dOf]; rfl) ?_))
     refine E.cond (by rfl) (fun h2 => ?_) (fun h2 => ?_)
     · simp at h2
     refine E.skip (E.seq ?_)
     refine E.seq (E.reg hr (by simp; rfl) ?_)
     refine E.cond (by rfl) (fun h2 => ?_) (fun h2 => ?_)
     · simp at h2
     refine E.skip (E.seq ?_)
     refine E.seq (E.reg hr (by simp; rfl) ?_)
     refine E.cond (by rfl) (fun h2 => ?_) (fun h2 => ?_)
     rotate_left
     · simp at h2
     refine E.reg hr (by simp [max33', hdw]; rfl) ?_
     refine E.seq (E.reg hr (by simp; rfl) ?_)
     refine E.cond (by rfl) (fun h2 => ?_) (fun h2 => ?_)
     · simp at h2
     refine E.skip (E.reg hr (by simp [hw]; rfl) ?_)
     exact ⟨i + 1, Leads.ren [11, 12] rfl rfl rfl ⟨rfl, rfl⟩ (by simp [dOf, hnx, hdif]) (by simp), h, by dsimp only; omega⟩
   · simp at h
     obtain rfl : i = l.length := by omega
     have fb := far_bound (F := 232) hb k l.length
     have hq : IntKind.i64.wrap ((farF 232 l k l.length).tdiv 15) = lagV 232 l k := by
       have h6 : ((farF 232 l k l.length).tdiv 15).natAbs ≤ (farF 232 l k l.length).natAbs := by rw [Int.natAbs_tdiv]; exact Nat.div_le_self _ _
       exact W_in (by omega) (by omega)
     refine E.exit ?_
     refine E.seq (E.reg hr (by simp [bin_quo (show (15 : Int) ≠ 0 by decide), hq]; rfl) ?_)
     refine E.ret ?_
     exact pureK.ret rfl rfl (by simp) (by repeat first | exact sub_refl _ | refine sub_cons rfl ?_)
 · refine AC.pure Tryz.func120 rfl (by kernel_rfl) rfl [2, 3, 7, 8, 9] rfl ?_
   refine E.seq (E.reg hr (by simp; rfl) ?_)
   refine E.seq (E.reg hr (by simp [hkI, hk7, hga, hoc, hod]; rfl) ?_)
   refine E.seq (E.reg hr (by simp; rfl) ?_)
   refine E.seq (E.seq (E.reg hr (by simp; rfl) ?_))
   refine E.block (E.loop ?_)
   refine EL.ind (fun i : Nat => { fr := [(2, sv (dOf 233)), (3, .pointer (some ⟨11, 0, none⟩)), (7, .pointer (some ⟨12, 0, none⟩)), (8, iv (farF 233 l k i)), (9, iv i)], sz := 68, H := H120 l o c l[k], n := 13, marks := [], vs := [2, 3, 7, 8, 9] }) (fun i => l.length - i) (fun i => i ≤ l.length) 0 (.less rfl rfl rfl (by simp [farF]) (by simp)) (Nat.zero_le _) (fun _ => rfl) ?_
   intro i hi
   refine E.seq (E.seq (E.reg hr (by simp; rfl) ?_))
   refine E.cond (by rfl) (fun h => ?_) (fun h => ?_)
   · simp at h
     have hw : IntKind.i64.wrap ((i : Int) + 1) = (i : Int) + 1 := W_in (by omega) (by omega)
     have hiI : (i : Int) < l.length := by omega
     have hi7 : i * 7 + 2 + 2 ≤ l.length * 7 := by omega
     have hgi := gcs_at2 h
     have hic : o ≤ o + i * 7 + 2 := by omega
     have hid : o + i * 7 + 2 - o = i * 7 + 2 := by omega
     have b1 := hb l[k] (List.getElem_mem hk)
     have b2 := hb l[i] (List.getElem_mem h)
     have hnx : farF 233 l k (i + 1) = max (farF 233 l k i) (difF 233 l k i) := rfl
     have hdif : difF 233 l k i = l[k].y - l[i].y := by simp [difF, hk, h]
     have hdw : IntKind.i64.wrap (l[k].y - l[i].y) = l[k].y - l[i].y := W_in (by omega) (by omega)
     refine E.skip (E.seq ?_)
     refine E.block (E.seq (E.reg hr (by simp [h, hiI, hi7, hgi, hic, hid]; rfl) ?_))
     refine E.seq (E.seq (E.reg hr (by simp [dOf]; rfl) ?_))
     refine E.cond (by rfl) (fun h2 => ?_) (fun h2 => ?_)
     · simp at h2
     refine E.skip (E.seq ?_)
     refine E.seq (E.reg hr (by simp; rfl) ?_)
     refine E.cond (by rfl) (fun h2 => ?_) (fun h2 => ?_)
     · simp at h2
     refine E.skip (E.seq ?_)
     refine E.seq (E.reg hr (by simp; rfl) ?_)
     refine E.cond (by rfl) (fun h2 => ?_) (fun h2 => ?_)
     · simp at h2
     refine E.skip (E.seq (E.reg hr (by simp; rfl) ?_))
     refine E.cond (by rfl) (fun h2 => ?_) (fun h2 => ?_)
     rotate_left
     · simp at h2
     refine E.reg hr (by simp [max33', hdw]; rfl) ?_
     refine E.reg hr (by simp [hw]; rfl) ?_
     exact ⟨i + 1, Leads.ren [11, 12] rfl rfl rfl ⟨rfl, rfl⟩ (by simp [dOf, hnx, hdif]) (by simp), h, by dsimp only; omega⟩
   · simp at h
     obtain rfl : i = l.length := by omega
     have fb := far_bound (F := 233) hb k l.length
     have hq : IntKind.i64.wrap ((farF 233 l k l.length).tdiv 15) = lagV 233 l k := by
       have h6 : ((farF 233 l k l.length).tdiv 15).natAbs ≤ (farF 233 l k l.length).natAbs := by rw [Int.natAbs_tdiv]; exact Nat.div_le_self _ _
       exact W_in (by omega) (by omega)
     refine E.exit ?_
     refine E.seq (E.reg hr (by simp [bin_quo (show (15 : Int) ≠ 0 by decide), hq]; rfl) ?_)
     refine E.ret ?_
     exact pureK.ret rfl rfl (by simp) (by repeat first | exact sub_refl _ | refine sub_cons rfl ?_)
def g120 (args : List Value) (H : Heap) (n : Nat) : R := match args with
 | [v, .int .i64 k, .string s] => match strAt H v with
   | some l => if strE l = 0 ∧ hasW s dirs = true ∧ 0 ≤ k ∧ k < l.length then some (iv (lagV (fOf s) l k.toNat), H, n) else none
   | none => none
 | _ => none
theorem ok120 : EntOk Tryz.prog (120, g120) := by
 intro args H n v H' n' h'
 simp only [g120] at h'
 split at h'
 · split at h'
   · rename_i l h1
     split at h'
     · rename_i hp
       obtain ⟨hst, hd, hk0, hkl⟩ := hp
       obtain ⟨j, rfl⟩ := Int.eq_ofNat_of_zero_le hk0
       obtain ⟨hF, hdo⟩ := fOf_ok hd
       injection h' with h'; injection h' with e1 e2; injection e2 with e2 e3; subst e1 e2 e3
       unfold strAt at h1
       split at h1
       · injection h1 with h1; subst h1; simp at hkl; omega
       · obtain ⟨hf, hc, hlen, hlt⟩ := gunsAt_ok h1
         subst hlen
         have hw := fun oo c => w120 _ hF l oo c j (by omega) (strE_len hst).2 (strE_inB hst)
         simp only [hdo] at hw
         exact AC.liftP rfl (Part.one (fun s' => [.agg ⟨[s']⟩, iv j, sv _]) (by intro φ φ0 s s0 h; simp [denL, den, h]) (by intro p s h; exact ⟨⟨h, trivial⟩, trivial, trivial, trivial⟩) hf hc (afL_gcs l) [] (by simp [Seen]) gsz fun c => ⟨_, _, hw _ c⟩)
       · cases h1
     · cases h'
   · cases h'
 · cases h'
def arrV (s : ByteArray) (l : List Gun) (k : Nat) : Int := (match l[k]? with | some g => g.d | none => 0) + lagV (fOf s) l k
theorem w30 (l : List Gun) (o c k : Nat) (s : ByteArray) (hst : strE l = 0) (hd : hasW s dirs = true) (hk : k < l.length) : AC Tryz.prog 30 [strV o l.length c, iv k, sv s] [(10, .inp o (gcs l))] 11 (iv (arrV s l k)) [(10, .inp o (gcs l))] 11 := by
 have hr := recT_ok (P := Tryz.prog) (l := [(120, g120)]) (by simp only [List.forall_mem_cons]; exact ⟨ok120, by simp⟩)
 have hkI : (k : Int) < l.length := by omega
 have h8 := (strE_len hst).2
 have h7 : k * 7 + 4 < l.length * 7 := by omega
 have hdE := gcs_dE hk (by simp; omega)
 have hoc : o ≤ o + k * 7 + 4 := by omega
 have hod : o + k * 7 + 4 - o = k * 7 + 4 := by omega
 have hsat : ∀ G : Heap, hget G 10 = some (.inp o (gcs l)) → strAt G (strV o l.length c) = some l := fun G hG => by
   unfold strAt gunsAt
   simp [hG, List.take_of_length_le, gunsOf_gcs, show l.length < 9223372036854775808 by omega]
 obtain ⟨_, _, _, hdb, _⟩ := gun_nums hst l[k] (List.getElem_mem hk)
 have hlb : 0 ≤ lagV (fOf s) l k ∧ lagV (fOf s) l k ≤ 2000 := by
   have fb := far_bound (F := fOf s) (strE_inB hst) k l.length
   have h6 : ((farF (fOf s) l k l.length).tdiv 15).natAbs ≤ (farF (fOf s) l k l.length).natAbs := by rw [Int.natAbs_tdiv]; exact Nat.div_le_self _ _
   have h9 : 0 ≤ (farF (fOf s) l k l.length).tdiv 15 := Int.tdiv_nonneg fb.1 (by omega)
   unfold lagV
   omega
 have hsum : IntKind.i64.wrap (l[k].d + lagV (fOf s) l k) = arrV s l k := by
   unfold arrV
   rw [List.getElem?_eq_getElem hk]
   exact W_in (by omega) (by omega)
 refine AC.pure Tryz.func30 rfl (by kernel_rfl) rfl [] rfl ?_
 refine E.seq (E.reg hr (by simp; rfl) ?_)
 refine E.seq (E.drawC mixed hr [] [9] [1, 5, 6, 9] (by kernel_rfl) (by simp [g120, hsat, hst, hd, hkI, h7, hdE, hoc, hod, hsum]; rfl) ?_)
 refine E.ret ?_
 exact pureK.ret rfl rfl (by simp) (by repeat first | exact sub_refl _ | refine sub_cons rfl ?_)
def g30 (args : List Value) (H : Heap) (n : Nat) : R := match args with
 | [v, .int .i64 k, .string s] => match strAt H v with
   | some l => if strE l = 0 ∧ hasW s dirs = true ∧ 0 ≤ k ∧ k < l.length then some (iv (arrV s l k.toNat), H, n) else none
   | none => none
 | _ => none
theorem ok30 : EntOk Tryz.prog (30, g30) := by
 intro args H n v H' n' h'
 simp only [g30] at h'
 split at h'
 · split at h'
   · rename_i l h1
     split at h'
     · rename_i hp
       obtain ⟨hst, hd, hk0, hkl⟩ := hp
       obtain ⟨j, rfl⟩ := Int.eq_ofNat_of_zero_le hk0
       injection h' with h'; injection h' with e1 e2; injection e2 with e2 e3; subst e1 e2 e3
       unfold strAt at h1
       split at h1
       · injection h1 with h1; subst h1; simp at hkl; omega
       · obtain ⟨hf, hc, hlen, hlt⟩ := gunsAt_ok h1
         subst hlen
         exact AC.liftP rfl (Part.one (fun s' => [.agg ⟨[s']⟩, iv j, sv _]) (by intro φ φ0 s s0 h; simp [denL, den, h]) (by intro p s h; exact ⟨⟨h, trivial⟩, trivial, trivial, trivial⟩) hf hc (afL_gcs l) [] (by simp [Seen]) gsz fun c => ⟨_, _, w30 l _ c j _ hst hd (by omega)⟩)
       · cases h1
     · cases h'
   · cases h'
 · cases h'
abbrev H55 (o : Nat) (l : List Gun) (c : Nat) (s : Value) : Heap := [(13, .cells [s] 24), (12, .cells [.slice none 0 0] 24), (11, .cells [.slice (some ⟨10, o, none⟩) l.length c] 32), (10, .inp o (gcs l))]
def S55 (l : List Gun) (o c : Nat) : Nat → St
 | 0 => { fr := [(2, .pointer (some ⟨12, 0, none⟩)), (3, .pointer (some ⟨13, 0, none⟩)), (7, .slice (some ⟨10, o, none⟩) l.length c), (8, iv l.length), (9, iv 0)], sz := 21, H := H55 o l c (.slice none 0 0), n := 14, marks := [], vs := [2, 3, 7, 8, 9] }
 | i + 1 => { fr := [(2, .pointer (some ⟨12, 0, none⟩)), (3, .pointer (some ⟨13, 0, none⟩)), (7, .slice (some ⟨10, o, none⟩) l.length c), (8, iv l.length), (9, iv (i + 1 : Nat))], sz := 21, H := (14, .ext (gcs (l.take (i + 1))) 94 7) :: H55 o l c (.slice (some ⟨14, 0, some 0⟩) (i + 1) 0), n := 15, marks := [], vs := [2, 3, 7, 8, 9] }
def strQ55 (l : List Gun) (u : Value) (H : Heap) : Prop := if l = [] then u = nilV else ∃ m, u = .agg ⟨[.slice (some ⟨m, 0, some 0⟩) l.length 0]⟩ ∧ hget H m = some (.ext (gcs l) 94 7) ∧ 11 ≤ m
set_option maxRecDepth 100000 in
theorem w55 (l : List Gun) (o c : Nat) (hne : l ≠ []) (hl : l.length ≤ 4096) : ∃ u H1 n1 H2, AC Tryz.prog 55 [strV o l.length c] [(10, .inp o (gcs l))] 11 u H1 n1 ∧ strQ55 l u H2 ∧ (af u = false → H1 = H2) := by
 have hr := recT_ok (P := Tryz.prog) (l := []) (by simp)
 have hpos : 0 < l.length := List.length_pos_iff.2 hne
 refine AC.out Tryz.func55 rfl (by kernel_rfl) rfl [2, 3, 7, 8, 9] ?_
 refine E.seq (E.reg hr (by simp; rfl) ?_)
 refine E.seq (E.reg hr (by simp; rfl) ?_)
 refine E.seq (E.seq (E.reg hr (by simp; rfl) ?_))
 refine E.block (E.loop ?_)
 refine EL.ind (S55 l o c) (fun i => l.length - i) (fun i => i ≤ l.length) 0 (.less rfl rfl rfl (by simp [S55]) (by simp [S55])) (Nat.zero_le _) (fun i => by cases i <;> rfl) ?_
 intro i hi
 rcases i with _ | i
 · have hw : IntKind.i64.wrap 1 = 1 := W_in (by omega) (by omega)
   refine E.seq (E.reg hr (by simp [S55]; rfl) ?_)
   refine E.seq ?_
   refine E.cond (by rfl) (fun h => ?_) (fun h => ?_)
   · simp at h
     have hx := gcs_take hpos
     have hts : gcs (l.take 1) = l[0].cells := by rw [gcs_succ hpos]; simp [gcs]
     have h7 : 7 ≤ l.length * 7 := by omega
     rw [Nat.zero_mul, List.drop_zero] at hx
     refine E.skip (E.seq ?_)
     refine E.block (E.seq (E.reg hr (by simp [hx, hpos, h7]; rfl) ?_))
     refine E.reg hr (by simp; rfl) ?_
     refine E.reg hr (by simp [hw]; rfl) ?_
     exact ⟨1, Leads.ren [11, 12, 13, 16] rfl rfl rfl ⟨rfl, rfl⟩ (by simp [S55]) (by simp [S55, hts]), by omega, by dsimp only; omega⟩
   · simp at h
     exact absurd h hne
 · have hw : IntKind.i64.wrap ((i : Int) + 1 + 1) = (i : Int) + 1 + 1 := W_in (by omega) (by omega)
   have hlen : (gcs (l.take (i + 1))).length = (i + 1) * 7 := by rw [gcs_length, List.length_take, Nat.min_eq_left hi]
   have ht : List.take ((i + 1) * 7) (gcs (l.take (i + 1))) = gcs (l.take (i + 1)) := List.take_of_length_le (by omega)
   refine E.seq (E.reg hr (by simp [S55]; rfl) ?_)
   refine E.seq ?_
   refine E.cond (by rfl) (fun h => ?_) (fun h => ?_)
   · simp at h
     have hlt : i + 1 < l.length := by omega
     have hltI : (i : Int) + 1 < l.length := by omega
     have hx := gcs_take hlt
     have hts := gcs_succ hlt
     have h7 : (i + 1) * 7 + 7 ≤ l.length * 7 := by omega
     have hno : ¬ (i + 1 + 1) * 7 ≤ (i + 1) * 7 := by omega
     have hsm : (i + 1 + 1) * 64 ≤ 1099511627776 ∧ (i + 1 + 1) * 7 ≤ 1099511627776 ∧ i + 1 + 1 ≤ 1099511627776 := by omega
     refine E.skip (E.seq ?_)
     refine E.block (E.seq (E.reg hr (by simp [hx, hltI, h7]; rfl) ?_))
     refine E.reg hr (by simp [hsm, ht, hlen, hno]; rfl) ?_
     refine E.reg hr (by simp [hw]; rfl) ?_
     exact ⟨i + 2, Leads.ren [11, 12, 13, 17] rfl rfl rfl ⟨rfl, rfl⟩ (by simp [S55]) (by simp [S55, hts]), by omega, by dsimp only; omega⟩
   · simp at h
     have hal : l.take (i + 1) = l := List.take_of_length_le (by omega)
     have hll : l.length = i + 1 := by omega
     refine E.exit ?_
     refine E.seq (E.reg hr (by simp; rfl) ?_)
     refine E.ret ?_
     refine outK.ret rfl rfl ?_
     simp [strQ55, hne, hal, hll]
     exact ⟨14, by kernel_rfl, by simp, by omega⟩
set_option maxRecDepth 100000 in
theorem w55e (o c : Nat) : AC Tryz.prog 55 [strV o 0 c] [(10, .inp o (gcs []))] 11 nilV [(10, .inp o (gcs []))] 11 := by
 have hr := recT_ok (P := Tryz.prog) (l := []) (by simp)
 refine AC.pure Tryz.func55 rfl (by kernel_rfl) rfl [2, 3, 7, 8, 9] rfl ?_
 refine E.seq (E.reg hr (by simp; rfl) ?_)
 refine E.seq (E.reg hr (by simp; rfl) ?_)
 refine E.seq (E.seq (E.reg hr (by simp; rfl) ?_))
 refine E.block (E.loop ?_)
 refine EL.step ?_
 refine E.seq (E.reg hr (by simp; rfl) ?_)
 refine E.seq ?_
 refine E.cond (by rfl) (fun h => ?_) (fun h => ?_)
 · simp at h
 refine E.exit ?_
 refine E.seq (E.reg hr (by simp; rfl) ?_)
 refine E.ret ?_
 exact pureK.ret rfl rfl (by simp; kernel_rfl) (by repeat first | exact sub_refl _ | refine sub_cons rfl ?_)
set_option maxRecDepth 100000 in
theorem w55n : AC Tryz.prog 55 [nilV] [] 10 nilV [] 10 := by
 have hr := recT_ok (P := Tryz.prog) (l := []) (by simp)
 refine AC.pure Tryz.func55 rfl (by kernel_rfl) rfl [2, 3, 7, 8, 9] rfl ?_
 refine E.seq (E.reg hr (by simp; rfl) ?_)
 refine E.seq (E.reg hr (by simp; rfl) ?_)
 refine E.seq (E.seq (E.reg hr (by simp; rfl) ?_))
 refine E.block (E.loop ?_)
 refine EL.step ?_
 refine E.seq (E.reg hr (by simp; rfl) ?_)
 refine E.seq ?_
 refine E.cond (by rfl) (fun h => ?_) (fun h => ?_)
 · simp at h
 refine E.exit ?_
 refine E.seq (E.reg hr (by simp; rfl) ?_)
 refine E.ret ?_
 exact pureK.ret rfl rfl (by simp; kernel_rfl) (by repeat first | exact sub_refl _ | refine sub_cons rfl ?_)
def g55 (args : List Value) (H : Heap) (n : Nat) : R := match args with
 | [v] => match strAt H v with
   | some l => if l = [] then some (nilV, H, n) else if l.length ≤ 4096 then some (.agg ⟨[.slice (some ⟨n, 0, some 0⟩) l.length 0]⟩, (n, .ext (gcs l) 94 7) :: H, n + 1) else none
   | none => none
 | _ => none
theorem ok55 : EntOk Tryz.prog (55, g55) := by
 intro args H n v H' n' h'
 simp only [g55] at h'
 split at h'
 · rename_i x
   split at h'
   · rename_i l hx
     split at h'
     · rename_i hl
       subst hl
       injection h' with h'; injection h' with e1 e2; injection e2 with e2 e3; subst e1 e2 e3
       unfold strAt at hx
       split at hx
       · exact AC.liftP (by simp) (Part.plain (by simp) [] (by simp [Seen]) gsz ⟨_, _, w55n⟩)
       · obtain ⟨hf, hc, hlen, hlt⟩ := gunsAt_ok hx
         subst hlen
         exact AC.liftP (by simp) (Part.one (fun s => [.agg ⟨[s]⟩]) (by intro φ φ0 s s0 h; simp [denL, den, h]) (by intro p s h; exact ⟨⟨h, trivial⟩, trivial⟩) hf hc (afL_gcs []) [] (by simp [Seen]) gsz fun c => ⟨_, _, w55e _ c⟩)
       · cases hx
     rename_i hne
     split at h'
     · rename_i hle
       injection h' with h'; injection h' with e1 e2; injection e2 with e2 e3; subst e1 e2 e3
       unfold strAt at hx
       split at hx
       · injection hx with hx; exact absurd hx.symm hne
       · obtain ⟨hf, hc, hlen, hlt⟩ := gunsAt_ok hx
         subst hlen
         refine AC.liftF (names_str _ _) (.inr ⟨_, _, _, rfl, afL_gcs l⟩) (Part.one (fun s => [.agg ⟨[s]⟩]) (by intro φ φ0 s s0 h; simp [denL, den, h]) (by intro p s h; exact ⟨⟨h, trivial⟩, trivial⟩) hf hc (afL_gcs l) [] (by simp [Seen]) gsz fun c => ?_)
         obtain ⟨u, H1, n1, H2, hAC, hq, hh⟩ := w55 l _ c hne hle
         unfold strQ55 at hq
         rw [if_neg hne] at hq
         obtain ⟨m, hv, hm, hle⟩ := hq
         subst hv
         have := hh rfl
         subst this
         exact ⟨m, _, _, hle, hm, hAC⟩
       · cases hx
     · cases h'
   · cases h'
 · cases h'
section
variable {P : Program}
theorem runP_bind' {α β : Type} (a : Sem α) (g : α → Sem β) : runP P (a >>= g) = (runP P a).bind fun x => runP P (g x) := runP_bind a g
theorem runP_pure {α : Type} (a : α) : runP P (pure a : Sem α) = some a := rfl
theorem runP_program : runP P program = some P := rfl
theorem runP_und' {t : TypeId} {d : TypeDesc} (h : P.underlying t = some d) : runP P (underlying t) = some d := by
 show runP P (match P.underlying t with | some d => _ | none => _) = _
 rw [h]
 rfl
theorem runP_ite {α : Type} {c : Prop} [Decidable c] (a b : Sem α) : runP P (if c then a else b) = if c then runP P a else runP P b := by
 split <;> rfl
theorem runP_eqStruct (d : Nat) {t : TypeId} {fs : Array Field} (xs ys : Array Value) (ht : P.underlying t = some (.struct fs)) (hp : P.stoodInHeld t = false)
   (h : ∀ f ∈ fs.toList, ∃ a b, runP P (part f.type xs f.offset) = some a ∧ runP P (part f.type ys f.offset) = some b ∧ runP P (Op.equalIn d f.type a b) = some true) : runP P (Op.equalIn (d + 1) t (.agg xs) (.agg ys)) = some true := by
 simp only [Op.equalIn, runP_bind', runP_und' ht, Option.bind_some, runP_program, hp, Bool.false_eq_true, if_false]
 rw [← Array.forIn_toList]
 generalize fs.toList = fl at h
 induction fl with
 | nil => rfl
 | cons f fl ih =>
   obtain ⟨a, b, h1, h2, h3⟩ := h f (List.mem_cons_self ..)
   have ih := ih fun f hf => h f (List.mem_cons_of_mem _ hf)
   simp only [List.forIn_cons, runP_bind', runP_ite]
   split
   · simp only [h1, h2, h3, Option.bind_some, Bool.not_true, Bool.false_eq_true, if_false, runP_pure]
     exact ih
   · simp only [runP_pure, Option.bind_some]
     exact ih
theorem runP_eqInt (d : Nat) {t : TypeId} {k k' : IntKind} (n : Int) (h : P.underlying t = some (.int k')) : runP P (Op.equalIn (d + 1) t (.int k n) (.int k n)) = some true := by
 simp only [Op.equalIn, runP_bind', runP_und' h, Option.bind_some, if_true, runP_pure, beq_self_eq_true]
theorem bytes_beq (s : ByteArray) : (s == s) = true := by
 obtain ⟨⟨x⟩⟩ := s
 show ((⟨x⟩ : Array UInt8) == ⟨x⟩) = true
 simp
theorem runP_eqStr (d : Nat) {t : TypeId} (s : ByteArray) (h : P.underlying t = some .string) : runP P (Op.equalIn (d + 1) t (.string s) (.string s)) = some true := by
 simp only [Op.equalIn, runP_bind', runP_und' h, Option.bind_some, runP_pure, bytes_beq]
end
theorem eq_pair {t : TypeId} {f1 f2 : Field} (ht : Tryz.prog.underlying t = some (.struct #[f1, f2])) (hp : Tryz.prog.stoodInHeld t = false) (h1 : f1.type = 3 ∧ f1.offset = 0) (h2 : f2.type = 3 ∧ f2.offset = 1) (a b : Int) (d : Nat) : runP Tryz.prog (Op.equalIn (d + 2) t (.agg #[iv a, iv b]) (.agg #[iv a, iv b])) = some true := by
 refine runP_eqStruct (d + 1) _ _ ht hp fun f hf => ?_
 simp at hf
 rcases hf with rfl | rfl
 · rw [h1.1, h1.2]
   exact ⟨iv a, iv a, by kernel_rfl, by kernel_rfl, runP_eqInt d a Tryz.underlying3⟩
 · rw [h2.1, h2.2]
   exact ⟨iv b, iv b, by kernel_rfl, by kernel_rfl, runP_eqInt d b Tryz.underlying3⟩
set_option maxRecDepth 100000 in
theorem eq_gun (g : Gun) : runP Tryz.prog (Op.equalIn 10000 94 (.agg ⟨g.cells⟩) (.agg ⟨g.cells⟩)) = some true := by
 refine runP_eqStruct 9999 _ _ Tryz.underlying94 (by kernel_rfl) fun f hf => ?_
 simp at hf
 rcases hf with rfl | rfl | rfl | rfl | rfl
 · exact ⟨sv g.name, sv g.name, by kernel_rfl, by kernel_rfl, runP_eqStr 9998 g.name Tryz.underlying9⟩
 · exact ⟨iv g.v, iv g.v, by kernel_rfl, by kernel_rfl, runP_eqInt 9998 g.v Tryz.underlying3⟩
 · exact ⟨.agg #[iv g.x, iv g.y], .agg #[iv g.x, iv g.y], by kernel_rfl, by kernel_rfl, eq_pair Tryz.underlying90 (by kernel_rfl) ⟨rfl, rfl⟩ ⟨rfl, rfl⟩ g.x g.y 9997⟩
 · exact ⟨iv g.d, iv g.d, by kernel_rfl, by kernel_rfl, runP_eqInt 9998 g.d Tryz.underlying3⟩
 · exact ⟨.agg #[iv g.lo, iv g.hi], .agg #[iv g.lo, iv g.hi], by kernel_rfl, by kernel_rfl, eq_pair Tryz.underlying92 (by kernel_rfl) ⟨rfl, rfl⟩ ⟨rfl, rfl⟩ g.lo g.hi 9997⟩
set_option maxRecDepth 100000 in
theorem neq_gun {x y : Operand} {H : Heap} {n : Nat} (g : Gun) : binV Tryz.prog .neq 94 x y (.agg ⟨g.cells⟩) (.agg ⟨g.cells⟩) H n = some (.bool false, H, n) := by
 have h : runP Tryz.prog (do eqGuard .neq 94 x y (.agg ⟨g.cells⟩) (.agg ⟨g.cells⟩); binOp .neq 94 (.agg ⟨g.cells⟩) (.agg ⟨g.cells⟩)) = some (.bool false) := by
   rw [runP_bind']
   have h1 : runP Tryz.prog (eqGuard .neq 94 x y (.agg ⟨g.cells⟩) (.agg ⟨g.cells⟩)) = some () := by kernel_rfl
   rw [h1, Option.bind_some]
   show runP Tryz.prog (Op.equalIn 10000 94 (.agg ⟨g.cells⟩) (.agg ⟨g.cells⟩) >>= fun b => pure (Value.bool (!b))) = _
   rw [runP_bind', eq_gun]
   rfl
 have ha : afq (.agg ⟨g.cells⟩) = true := rfl
 unfold binV
 rw [ha]
 simp only [Bool.and_self, if_true]
 rw [h]
 rfl
theorem w110 (l : List ByteArray) (o o2 c c2 : Nat) (hl : l.length < 2 ^ 31) : AC Tryz.prog 110 [.slice (some ⟨10, o, none⟩) l.length c, .slice (some ⟨11, o2, none⟩) l.length c2] [(11, .inp o2 (l.map sv)), (10, .inp o (l.map sv))] 12 (.bool true) [(11, .inp o2 (l.map sv)), (10, .inp o (l.map sv))] 12 := by
 have hr := recT_ok (P := Tryz.prog) (l := []) (by simp)
 refine AC.pure Tryz.func110 rfl (by kernel_rfl) rfl [0, 1, 5] rfl ?_
 refine E.seq (E.reg hr (by simp; rfl) ?_)
 refine E.seq (E.seq (E.reg hr (by simp; rfl) ?_))
 refine E.cond (by rfl) (fun h => ?_) (fun h => ?_)
 · simp at h
 refine E.skip (E.seq ?_)
 refine E.seq (E.reg hr (by simp; rfl) ?_)
 refine E.block (E.loop ?_)
 refine EL.ind (fun i : Nat => { fr := [(0, .slice (some ⟨10, o, none⟩) l.length c), (1, .slice (some ⟨11, o2, none⟩) l.length c2), (5, iv i)], sz := 26, H := [(11, .inp o2 (l.map sv)), (10, .inp o (l.map sv))], n := 12, marks := [], vs := [0, 1, 5] }) (fun i => l.length - i) (fun i => i ≤ l.length) 0 (.less rfl rfl rfl (by simp) (by simp)) (Nat.zero_le _) (fun _ => rfl) ?_
 intro i hi
 have hw : IntKind.i64.wrap ((i : Int) + 1) = (i : Int) + 1 := W_in (by omega) (by omega)
 refine E.seq (E.seq (E.reg hr (by simp; rfl) ?_))
 refine E.cond (by rfl) (fun h2 => ?_) (fun h2 => ?_)
 · simp at h2
   refine E.skip (E.seq ?_)
   refine E.block (E.seq ?_)
   refine E.drawC mixed hr [] [] [3, 7] (by kernel_rfl) (by simp [h2]; rfl) ?_
   refine E.cond (by rfl) (fun h3 => ?_) (fun h3 => ?_)
   · simp at h3
   refine E.skip (E.reg hr (by simp [hw]; rfl) ?_)
   exact ⟨i + 1, .less rfl rfl rfl (by simp) (by simp), h2, by dsimp only; omega⟩
 · refine E.exit ?_
   refine E.seq (E.reg hr (by simp; rfl) ?_)
   refine E.ret ?_
   exact pureK.ret rfl rfl (by simp) (by repeat first | exact sub_refl _ | refine sub_cons rfl ?_)
theorem w110n : AC Tryz.prog 110 [.slice none 0 0, .slice none 0 0] [] 10 (.bool true) [] 10 := by
 have hr := recT_ok (P := Tryz.prog) (l := []) (by simp)
 refine AC.pure Tryz.func110 rfl (by kernel_rfl) rfl [0, 1, 5] rfl ?_
 refine E.seq (E.reg hr (by simp; rfl) ?_)
 refine E.seq (E.seq (E.reg hr (by simp; rfl) ?_))
 refine E.cond (by rfl) (fun h => ?_) (fun h => ?_)
 · simp at h
 refine E.skip (E.seq ?_)
 refine E.seq (E.reg hr (by simp; rfl) ?_)
 refine E.block (E.loop ?_)
 refine EL.step ?_
 refine E.seq (E.seq (E.reg hr (by simp; rfl) ?_))
 refine E.cond (by rfl) (fun h2 => ?_) (fun h2 => ?_)
 · simp at h2
 refine E.exit ?_
 refine E.seq (E.reg hr (by simp; rfl) ?_)
 refine E.ret ?_
 exact pureK.ret rfl rfl (by simp) (by repeat first | exact sub_refl _ | refine sub_cons rfl ?_)
def g110 (args : List Value) (H : Heap) (n : Nat) : R := match args with
 | [.slice none 0 0, .slice none 0 0] => some (.bool true, H, n)
 | [.slice (some a) len _, .slice (some b) len2 _] => match strsAt H a len, strsAt H b len2 with
   | some l, some k => if l = k then some (.bool true, H, n) else none
   | _, _ => none
 | _ => none
theorem ok110 : EntOk Tryz.prog (110, g110) := by
 intro args H n v H' n' h'
 simp only [g110] at h'
 split at h'
 · injection h' with h'; injection h' with e1 e2; injection e2 with e2 e3; subst e1 e2 e3
   exact AC.liftP rfl (Part.plain (by simp) [] (by simp [Seen]) gsz ⟨_, _, w110n⟩)
 · rename_i a len c0 b len2 c02
   split at h'
   · rename_i l k hl hk
     split at h'
     · rename_i e
       subst e
       injection h' with h'; injection h' with e1 e2; injection e2 with e2 e3; subst e1 e2 e3
       obtain ⟨hf, hc, hlen, hlt⟩ := strsAt_ok hl
       obtain ⟨hf2, hc2, hlen2, hlt2⟩ := strsAt_ok hk
       subst hlen
       have : len2 = l.length := hlen2.symm
       subst this
       exact AC.liftP rfl (Part.two (fun s u => [s, u]) (by intro φ φ0 s s0 u u0 h h'; simp [denL, h, h']) (by intro p s u h h'; exact ⟨h, h', trivial⟩) hf hc (afL_sv l) hf2 hc2 (afL_sv l) [] (by simp [Seen]) gsz fun c c2 => ⟨_, _, w110 l _ _ c c2 hlt⟩)
     · cases h'
   · cases h'
 · cases h'
theorem w65e (e : Int) (he : e ≠ 0) : AC Tryz.prog 65 [.slice none 0 0, iv e, iv e, .slice none 0 0] [] 10 (.bool true) [] 10 := by
 have hr := recT_ok (P := Tryz.prog) (l := []) (by simp)
 refine AC.pure Tryz.func65 rfl (by kernel_rfl) rfl [8] rfl ?_
 refine E.seq (E.reg hr (by simp; rfl) ?_)
 refine E.seq (E.reg hr (by simp [he, undefV]; rfl) ?_)
 refine E.ret ?_
 exact pureK.ret rfl rfl (by simp) (by repeat first | exact sub_refl _ | refine sub_cons rfl ?_)
theorem w65n : AC Tryz.prog 65 [.slice none 0 0, iv 0, iv 0, .slice none 0 0] [] 10 (.bool true) [] 10 := by
 have hr := recT_ok (P := Tryz.prog) (l := [(110, g110)]) (by simp only [List.forall_mem_cons]; exact ⟨ok110, by simp⟩)
 refine AC.pure Tryz.func65 rfl (by kernel_rfl) rfl [8] rfl ?_
 refine E.seq (E.reg hr (by simp; rfl) ?_)
 refine E.seq (E.reg hr (by simp [g110, undefV]; rfl) ?_)
 refine E.ret ?_
 exact pureK.ret rfl rfl (by simp) (by repeat first | exact sub_refl _ | refine sub_cons rfl ?_)
theorem w65 (l : List ByteArray) (o o2 c c2 : Nat) (hl : l.length < 2 ^ 31) : AC Tryz.prog 65 [.slice (some ⟨10, o, none⟩) l.length c, iv 0, iv 0, .slice (some ⟨11, o2, none⟩) l.length c2] [(11, .inp o2 (l.map sv)), (10, .inp o (l.map sv))] 12 (.bool true) [(11, .inp o2 (l.map sv)), (10, .inp o (l.map sv))] 12 := by
 have hr := recT_ok (P := Tryz.prog) (l := [(110, g110)]) (by simp only [List.forall_mem_cons]; exact ⟨ok110, by simp⟩)
 have h1 : strsAt [(11, .inp o2 (l.map sv)), (10, .inp o (l.map sv))] ⟨10, o, none⟩ l.length = some l := by
   unfold strsAt
   simp [List.take_of_length_le, strsOf_sv, show l.length < 2147483648 by omega]
 have h2 : strsAt [(11, .inp o2 (l.map sv)), (10, .inp o (l.map sv))] ⟨11, o2, none⟩ l.length = some l := by
   unfold strsAt
   simp [List.take_of_length_le, strsOf_sv, show l.length < 2147483648 by omega]
 refine AC.pure Tryz.func65 rfl (by kernel_rfl) rfl [8] rfl ?_
 refine E.seq (E.reg hr (by simp; rfl) ?_)
 refine E.seq (E.reg hr (by simp [g110, h1, h2, undefV]; rfl) ?_)
 refine E.ret ?_
 exact pureK.ret rfl rfl (by simp) (by repeat first | exact sub_refl _ | refine sub_cons rfl ?_)
def g65 (args : List Value) (H : Heap) (n : Nat) : R := match args with
 | [.slice none 0 0, .int .i64 e, .int .i64 b, .slice none 0 0] => if e = b then some (.bool true, H, n) else none
 | [.slice (some a) len _, .int .i64 e, .int .i64 b, .slice (some a2) len2 _] => if e = 0 ∧ b = 0 then (match strsAt H a len, strsAt H a2 len2 with
   | some l, some k => if l = k then some (.bool true, H, n) else none
   | _, _ => none) else none
 | _ => none
theorem ok65 : EntOk Tryz.prog (65, g65) := by
 intro args H n v H' n' h'
 simp only [g65] at h'
 split at h'
 · rename_i e b
   split at h'
   · rename_i he
     subst he
     injection h' with h'; injection h' with e1 e2; injection e2 with e2 e3; subst e1 e2 e3
     by_cases h0 : e = 0
     · subst h0
       exact AC.liftP rfl (Part.plain (by simp) [] (by simp [Seen]) gsz ⟨_, _, w65n⟩)
     · exact AC.liftP rfl (Part.plain (by simp) [] (by simp [Seen]) gsz ⟨_, _, w65e e h0⟩)
   · cases h'
 · rename_i a len c0 e b a2 len2 c02
   split at h'
   · rename_i he
     obtain ⟨rfl, rfl⟩ := he
     split at h'
     · rename_i l k hl hk
       split at h'
       · rename_i e
         subst e
         injection h' with h'; injection h' with e1 e2; injection e2 with e2 e3; subst e1 e2 e3
         obtain ⟨hf, hc, hlen, hlt⟩ := strsAt_ok hl
         obtain ⟨hf2, hc2, hlen2, hlt2⟩ := strsAt_ok hk
         subst hlen
         have : len2 = l.length := hlen2.symm
         subst this
         exact AC.liftP rfl (Part.two (fun s u => [s, iv 0, iv 0, u]) (by intro φ φ0 s s0 u u0 h h'; simp [denL, den, h, h']) (by intro p s u h h'; exact ⟨h, trivial, trivial, h', trivial⟩) hf hc (afL_sv l) hf2 hc2 (afL_sv l) [] (by simp [Seen]) gsz fun c c2 => ⟨_, _, w65 l _ _ c c2 hlt⟩)
       · cases h'
     · cases h'
   · cases h'
 · cases h'
theorem w66n : AC Tryz.prog 66 [nilV, nilV] [] 10 (.bool true) [] 10 := by
 have hr := recT_ok (P := Tryz.prog) (l := []) (by simp)
 refine AC.pure Tryz.func66 rfl (by kernel_rfl) rfl [2, 3, 5] rfl ?_
 refine E.seq (E.reg hr (by simp; rfl) ?_)
 refine E.seq (E.seq (E.reg hr (by simp; rfl) ?_))
 refine E.cond (by rfl) (fun h => ?_) (fun h => ?_)
 · simp at h
 refine E.skip (E.seq ?_)
 refine E.seq (E.reg hr (by simp; rfl) ?_)
 refine E.block (E.loop ?_)
 refine EL.step ?_
 refine E.seq (E.seq (E.reg hr (by simp; rfl) ?_))
 refine E.cond (by rfl) (fun h2 => ?_) (fun h2 => ?_)
 · simp at h2
 refine E.exit ?_
 refine E.seq (E.reg hr (by simp; rfl) ?_)
 refine E.ret ?_
 exact pureK.ret rfl rfl (by simp) (by repeat first | exact sub_refl _ | refine sub_cons rfl ?_)
set_option maxRecDepth 100000 in
theorem w66 (l : List Gun) (o o2 c c2 : Nat) (hl : l.length < 2 ^ 63) : AC Tryz.prog 66 [strV o l.length c, .agg ⟨[.slice (some ⟨11, o2, none⟩) l.length c2]⟩] [(11, .inp o2 (gcs l)), (10, .inp o (gcs l))] 12 (.bool true) [(11, .inp o2 (gcs l)), (10, .inp o (gcs l))] 12 := by
 have hr := recT_ok (P := Tryz.prog) (l := []) (by simp)
 refine AC.pure Tryz.func66 rfl (by kernel_rfl) rfl [2, 3, 5] rfl ?_
 refine E.seq (E.reg hr (by simp; rfl) ?_)
 refine E.seq (E.seq (E.reg hr (by simp; rfl) ?_))
 refine E.cond (by rfl) (fun h => ?_) (fun h => ?_)
 · simp at h
 refine E.skip (E.seq ?_)
 refine E.seq (E.reg hr (by simp; rfl) ?_)
 refine E.block (E.loop ?_)
 refine EL.ind (fun i : Nat => { fr := [(2, .pointer (some ⟨12, 0, none⟩)), (3, .pointer (some ⟨13, 0, none⟩)), (5, iv i)], sz := 31, H := [(13, .cells [.slice (some ⟨11, o2, none⟩) l.length c2] 24), (12, .cells [.slice (some ⟨10, o, none⟩) l.length c] 24), (11, .inp o2 (gcs l)), (10, .inp o (gcs l))], n := 14, marks := [], vs := [2, 3, 5] }) (fun i => l.length - i) (fun i => i ≤ l.length) 0 (.less rfl rfl rfl (by simp) (by simp)) (Nat.zero_le _) (fun _ => rfl) ?_
 intro i hi
 refine E.seq (E.seq (E.reg hr (by simp; rfl) ?_))
 refine E.cond (by rfl) (fun h2 => ?_) (fun h2 => ?_)
 · simp at h2
   have hw : IntKind.i64.wrap ((i : Int) + 1) = (i : Int) + 1 := W_in (by omega) (by omega)
   have h7 : i * 7 + 7 ≤ l.length * 7 := by omega
   have hx := gcs_take h2
   refine E.skip (E.seq ?_)
   refine E.block (E.seq ?_)
   refine E.drawC mixed hr [] [] [1, 4, 6, 9] (by kernel_rfl) (by simp [h2, h7, hx, neq_gun]; rfl) ?_
   refine E.cond (by rfl) (fun h3 => ?_) (fun h3 => ?_)
   · simp at h3
   refine E.skip (E.reg hr (by simp [hw]; rfl) ?_)
   exact ⟨i + 1, .less rfl rfl rfl (by simp) (by simp), h2, by dsimp only; omega⟩
 · refine E.exit ?_
   refine E.seq (E.reg hr (by simp; rfl) ?_)
   refine E.ret ?_
   exact pureK.ret rfl rfl (by simp) (by repeat first | exact sub_refl _ | refine sub_cons rfl ?_)
open Classical in
noncomputable def g66 (args : List Value) (H : Heap) (n : Nat) : R := match args with
 | [.agg ⟨[.slice none 0 0]⟩, .agg ⟨[.slice none 0 0]⟩] => some (.bool true, H, n)
 | [.agg ⟨[.slice (some a) len _]⟩, .agg ⟨[.slice (some b) len2 _]⟩] => match gunsAt H a len, gunsAt H b len2 with
   | some l, some k => if l = k then some (.bool true, H, n) else none
   | _, _ => none
 | _ => none
theorem ok66 : EntOk Tryz.prog (66, g66) := by
 intro args H n v H' n' h'
 simp only [g66] at h'
 split at h'
 · injection h' with h'; injection h' with e1 e2; injection e2 with e2 e3; subst e1 e2 e3
   exact AC.liftP rfl (Part.plain (by simp) [] (by simp [Seen]) gsz ⟨_, _, w66n⟩)
 · rename_i a len c0 b len2 c02
   split at h'
   · rename_i l k hl hk
     split at h'
     · rename_i e
       subst e
       injection h' with h'; injection h' with e1 e2; injection e2 with e2 e3; subst e1 e2 e3
       obtain ⟨hf, hc, hlen, hlt⟩ := gunsAt_ok hl
       obtain ⟨hf2, hc2, hlen2, hlt2⟩ := gunsAt_ok hk
       subst hlen
       have : len2 = l.length := hlen2.symm
       subst this
       exact AC.liftP rfl (Part.two (fun s u => [.agg ⟨[s]⟩, .agg ⟨[u]⟩]) (by intro φ φ0 s s0 u u0 h h'; simp [denL, den, h, h']) (by intro p s u h h'; exact ⟨⟨h, trivial⟩, ⟨h', trivial⟩, trivial⟩) hf hc (afL_gcs l) hf2 hc2 (afL_gcs l) [] (by simp [Seen]) gsz fun c c2 => ⟨_, _, w66 l _ _ c c2 hlt⟩)
     · cases h'
   · cases h'
 · cases h'
theorem dif_co {F : Nat} (hF : isDir F = true) {l : List Gun} (hb : inB l) {k i : Nat} (hk : k < l.length) (hi : i < l.length) : difF F l k i = coG F l[k] - coG F l[i] := by
 obtain ⟨h1, h2, h3, h4, _⟩ := hb l[k] (List.getElem_mem hk)
 obtain ⟨g1, g2, g3, g4, _⟩ := hb l[i] (List.getElem_mem hi)
 have w1 : IntKind.i64.wrap (-l[k].x) = -l[k].x := W_in (by omega) (by omega)
 have w2 : IntKind.i64.wrap (-l[i].x) = -l[i].x := W_in (by omega) (by omega)
 have w3 : IntKind.i64.wrap (-l[k].y) = -l[k].y := W_in (by omega) (by omega)
 have w4 : IntKind.i64.wrap (-l[i].y) = -l[i].y := W_in (by omega) (by omega)
 unfold difF coG coF
 rw [List.getElem?_eq_getElem hk, List.getElem?_eq_getElem hi]
 rcases isDir_cases hF with rfl | rfl | rfl | rfl | rfl <;> simp [w1, w2, w3, w4] <;> omega
theorem far_min {F : Nat} (hF : isDir F = true) {l : List Gun} (hb : inB l) {k : Nat} (hk : k < l.length) : ∀ i, i < l.length → farF F l k (i + 1) = max 0 (coG F l[k] - minN (l.map (coG F)) i)
 | 0, h => by
   have hd := dif_co hF hb hk h
   simp only [farF, hd, minN]
   rw [List.getElem?_eq_getElem (by simpa using h), Option.getD_some, List.getElem_map]
 | i + 1, h => by
   have ih := far_min hF hb hk i (by omega)
   have hd := dif_co hF hb hk h
   rw [farF, ih, hd, minN, List.getElem?_eq_getElem (by simpa using h), Option.getD_some, List.getElem_map]
   omega
theorem arr_same {l : List Gun} {s : ByteArray} (hst : strE l = 0) (hd : hasW s dirs = true) {k : Nat} (hk : k < l.length) : (arrL s l).getD k 0 = arrV s l k := by
 obtain ⟨hF, _⟩ := fOf_ok hd
 have hb := strE_inB hst
 have hm := far_min hF hb hk (l.length - 1) (by omega)
 rw [show l.length - 1 + 1 = l.length by omega] at hm
 have hle := minN_le (l.map (coG (fOf s))) (l.length - 1) (by simp; omega) k (by simpa using hk) (by omega)
 rw [List.getElem_map] at hle
 unfold arrL arrV lagV
 rw [hm, List.getD_eq_getElem?_getD, List.getElem?_map, List.getElem?_eq_getElem hk]
 simp only [Option.map_some, Option.getD_some, arrG, leastV]
 rw [show max 0 (coG (fOf s) l[k] - minN (l.map (coG (fOf s))) (l.length - 1)) = coG (fOf s) l[k] - minN (l.map (coG (fOf s))) (l.length - 1) by omega]
attribute [simp] run_vcall_tmp vcallF target
@[simp] theorem bin_fneq {P : Program} {t : TypeId} {x y : Operand} {H : Heap} {k : Nat} {a b : Nat} : binV P .neq t x y (.float .f32 a) (.float .f32 b) H k = some (.bool (FloatKind.f32.format.order a b != some .eq), H, k) := rfl
def bodyOf' (f : Func) : Code := match f.body with
 | some c => c
 | none => .skip
def rfOf : Code → Option (Code × Code)
 | .rangeFunc _ _ a b => some (a, b)
 | .seq a b => match rfOf a with
   | some x => some x
   | none => rfOf b
 | .block _ b => rfOf b
 | _ => none
noncomputable def asg128 : Code := match rfOf (bodyOf' Tryz.f128) with
 | some x => x.1
 | none => .skip
noncomputable def bdy128 : Code := match rfOf (bodyOf' Tryz.f128) with
 | some x => x.2
 | none => .skip
def addAt (l : List Int) (i h : Int) : List Int := if i < l.length then l.set i.toNat (IntKind.i64.wrap ((l[i.toNat]?).getD 0 + h)) else l
@[simp] theorem addAt_length (l : List Int) (i h : Int) : (addAt l i h).length = l.length := by unfold addAt; split <;> simp
abbrev fr128 (L c : Nat) (b v s : Int) : Fr := [(12, .func (.func 236) #[] #[.pointer (some ⟨13, 0, none⟩), .pointer (some ⟨14, 0, none⟩)]), (11, iv s), (10, iv v), (5, .pointer (some ⟨12, 0, none⟩)), (4, .pointer (some ⟨11, 0, none⟩)), (0, .slice (some ⟨10, 0, none⟩) L c), (1, iv b), (2, iv v), (3, iv s)]
noncomputable abbrev H128 (X : Heap) (ls : LoopState) (l : List Int) (L c : Nat) (b v s : Int) : Heap := X ++ [(16, .loop ls none (fr128 L c b v s) 30 [] #[13, 14] asg128 bdy128 15), (15, .defd), (14, .cells [iv s] 3), (13, .cells [iv v] 3), (12, .cells [iv b] 3), (11, .cells [.slice (some ⟨10, 0, none⟩) L c] 45), (10, .cells (l.map iv) 3)]
theorem yieldF_of {r : Rec} {l : Nat} {args : List Value} {H : Heap} {n : Nat} {fr : Fr} {sz : Nat} {vs : List Nat} {ps : Array Tmp} {a b : Code} {d : Nat} {s1 s2 : St}
   (h0 : hget H l = some (.loop .ready none fr sz vs ps a b d)) (hlen : (Nat.beq args.length ps.size && ps.toList.all (fun t => Nat.blt t sz)) = true)
   (h1 : r.code (some l) a { fr := (ps.toList.zip args).foldl (fun fr (t, v) => (t, v) :: fr) fr, sz, H, n, marks := [], vs } = some (.normal, s1)) (hl1 : hget s1.H l = some (.loop .ready none fr sz vs ps a b d))
   (h2 : r.code (some l) b { s1 with H := hset s1.H l (.loop .busy none fr sz vs ps a b d) } = some (.normal, s2)) (hl2 : hget s2.H l = some (.loop .busy none fr sz vs ps a b d)) :
   yieldF r l args H n = some (.bool true, hset s2.H l (.loop .ready none fr sz vs ps a b d), s2.n) := by
 unfold yieldF
 rw [h0]
 simp only [hlen, h1, hl1, h2, hl2]
 rfl
theorem E.toAT' {P : Program} {ro : Option Nat} {c : Code} {s s' : St} {e : Ex} (h : E P s.n ro c s fun e2 s2 => e2 = e ∧ s2.n = s'.n ∧ s2.sz = s'.sz ∧ s2.marks = s'.marks ∧ s2.H = s'.H) (hf : s'.fr = []) : AT P ro c s e s' := by
 obtain ⟨e2, s2, hx, rfl, h1, h2, h3, h4⟩ := h
 exact (ATX.at hx).cut h1 h2 h3 (fun t v hv => by rw [hf] at hv; simp at hv) (fun k b hk => by rw [h4]; exact hk)
open Classical in
noncomputable def r128 (s1 s2 : St) : Rec := recV Tryz.prog (fun _ c _ => match c with
 | .seq _ _ => some (.normal, s1)
 | .block _ _ => some (.normal, s2)
 | _ => none) (fun _ _ _ _ => none)
abbrev top128 (hs : List Int) : Heap := [(17, .cells (hs.map iv) 281)]
set_option maxRecDepth 100000 in
theorem yield128 (X : Heap) (hX : X = [] ∨ ∃ hs, X = top128 hs) (n : Nat) (_hn : 17 ≤ n) (l : List Int) (c : Nat) (b v s at' h : Int) (L : Nat) (hL : L = l.length) (_hl : l.length < 2 ^ 31) (hb : 0 ≤ b ∧ b ≤ 4096) (ha : 0 ≤ at' ∧ at' ≤ 4096) :
   ∃ r, RecOk Tryz.prog r 0 ∧ yieldF r 16 [iv at', iv h] (H128 X .ready l L c b v s) n = some (.bool true, H128 X .ready (addAt l (b + at') h) L c b v s, n) := by
 subst hL
 have hr := recT_ok (P := Tryz.prog) (l := []) (by simp)
 let s1 : St := { fr := (9, iv h) :: (8, iv at') :: (14, iv h) :: (13, iv at') :: fr128 l.length c b v s, sz := 30, H := H128 X .ready l l.length c b v s, n := n, marks := [], vs := [] }
 let s2 : St := { fr := [], sz := 30, H := H128 X .busy (addAt l (b + at') h) l.length c b v s, n := n, marks := [], vs := [] }
 refine ⟨r128 s1 s2, recV_ok, ?_⟩
 have hw : IntKind.i64.wrap (b + at') = b + at' := W_in (by omega) (by omega)
 have hA : AT Tryz.prog (some 16) asg128 { fr := (14, iv h) :: (13, iv at') :: fr128 l.length c b v s, sz := 30, H := H128 X .ready l l.length c b v s, n := n, marks := [], vs := [] } .normal s1 := by
   refine E.toAT ?_
   refine E.seq (E.reg hr (by simp; rfl) ?_)
   refine E.reg hr (by simp; rfl) ?_
   exact ⟨rfl, rfl⟩
 have hB : AT Tryz.prog (some 16) bdy128 { s1 with H := H128 X .busy l l.length c b v s } .normal s2 := by
   refine E.toAT' ?_ rfl
   refine E.block (E.seq ?_)
   rcases hX with rfl | ⟨hs, rfl⟩
   · refine E.reg hr (by simp [s1, hw]; rfl) ?_
     refine E.cond (by rfl) (fun h2 => ?_) (fun h2 => ?_)
     · simp at h2
       have hlt : (b + at').toNat < l.length := by omega
       have h0 : 0 ≤ b + at' := by omega
       refine E.reg hr (by simp [hw, h0, h2, hlt, show (b + at').toNat + 1 ≤ l.length by omega]; rfl) ?_
       refine ⟨rfl, rfl, rfl, rfl, ?_⟩
       simp only [s2, addAt, if_pos h2]
       simp [hlt]
       rw [List.set_eq_take_append_cons_drop, if_pos (by simpa using hlt)]
     · simp at h2
       refine E.skip ?_
       refine ⟨rfl, rfl, rfl, rfl, ?_⟩
       simp [s2, addAt, show ¬ (b + at' < l.length) by omega]
   · refine E.reg hr (by simp [s1, hw]; rfl) ?_
     refine E.cond (by rfl) (fun h2 => ?_) (fun h2 => ?_)
     · simp at h2
       have hlt : (b + at').toNat < l.length := by omega
       have h0 : 0 ≤ b + at' := by omega
       refine E.reg hr (by simp [hw, h0, h2, hlt, show (b + at').toNat + 1 ≤ l.length by omega]; rfl) ?_
       refine ⟨rfl, rfl, rfl, rfl, ?_⟩
       simp only [s2, addAt, if_pos h2]
       simp [hlt]
       rw [List.set_eq_take_append_cons_drop, if_pos (by simpa using hlt)]
     · simp at h2
       refine E.skip ?_
       refine ⟨rfl, rfl, rfl, rfl, ?_⟩
       simp [s2, addAt, show ¬ (b + at' < l.length) by omega]
 have hh : hset (H128 X .busy (addAt l (b + at') h) l.length c b v s) 16 (.loop .ready none (fr128 l.length c b v s) 30 [] #[13, 14] asg128 bdy128 15) = H128 X .ready (addAt l (b + at') h) l.length c b v s := by
   rcases hX with rfl | ⟨hs, rfl⟩ <;> simp
 have hg : ∀ st l', hget (H128 X st l' l.length c b v s) 16 = some (.loop st none (fr128 l.length c b v s) 30 [] #[13, 14] asg128 bdy128 15) := fun st l' => by
   rcases hX with rfl | ⟨hs, rfl⟩ <;> simp
 have hh2 : hset (H128 X .ready l l.length c b v s) 16 (.loop .busy none (fr128 l.length c b v s) 30 [] #[13, 14] asg128 bdy128 15) = H128 X .busy l l.length c b v s := by
   rcases hX with rfl | ⟨hs, rfl⟩ <;> simp
 rw [← hh]
 refine yieldF_of (s1 := s1) (s2 := s2) (hg _ _) rfl ?_ (hg _ _) ?_ (hg _ _)
 · exact recV_code (by intro b h; cases h) rfl hA
 · show (r128 s1 s2).code (some 16) bdy128 { s1 with H := hset (H128 X .ready l l.length c b v s) 16 _ } = _
   rw [hh2]
   exact recV_code (by intro b h; cases h) rfl hB
end Go.Proofs.YtndlfijfjglkdaaGreatDoor
