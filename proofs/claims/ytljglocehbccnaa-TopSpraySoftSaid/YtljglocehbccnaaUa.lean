/-
The walk through what TopSpraySoft reaches, and the plain law behind it (no condition).
-/
import Derived.Test.YtljglocehbccnaaRows
import Derived.WalkKit
import Derived.ProofKit
import Derived.OpenShut
import Derived.Deep.DeepHandedRow
import Derived.Lib.LaidTab
import Derived.LaidSub
import Derived.Carry
import Derived.Test.YtljglocehbccnaaTa
import Derived.Test.YtljglocehbccnaaAg
import Derived.Test.YtljglocehbccnaaAh
/-
From a contract of the evaluator's to the seat's statements, where the program has no package variables: what the arguments read as, and what is left behind the call.
-/
namespace Go.Proofs.Ytljglocehbccnaa
open Go Go.Ab Go.Proofs Go.ChangeShapes Go.WideShapes Go.ChangeAt Go.RowKit
theorem own : ownKnob Try.prog.godebug = none := by kernel_rfl
theorem laidOutT : laidOutB Try.prog = true := by kernel_rfl
/-! ### the ground of a law -/
structure WView where
  blk : Nat
  off : Nat
  cs : List Value
def wviewH (N : Nat) : List WView → Heap → Heap
  | [], G => G
  | v :: vs, G => wviewH (N + 1) vs ((N, .inp v.off v.cs) :: G)
def wloc (vs : List WView) : Vl := ⟨fun k => match vs[k]? with | some v => v.blk | none => 0, fun _ => 0⟩
theorem hget_wviewH {N : Nat} : ∀ (vs : List WView) (G : Heap) (k : Nat) (b : Blk), (∀ x ∈ G, x.1 < N) → hget (wviewH N vs G) k = some b → (k < N ∧ hget G k = some b) ∨ ∃ v, vs[k - N]? = some v ∧ N ≤ k ∧ b = .inp v.off v.cs
  | [], G, k, b, hG, h => .inl ⟨hG _ (hget_mem _ _ _ h), h⟩
  | v :: vs, G, k, b, hG, h => by
    have := hget_wviewH (N := N + 1) vs ((N, .inp v.off v.cs) :: G) k b (fun x hx => by
      rcases List.mem_cons.1 hx with rfl | hx
      · exact Nat.lt_succ_self _
      · exact Nat.lt_succ_of_lt (hG x hx)) h
    rcases this with ⟨h1, h2⟩ | ⟨u, h1, h2, h3⟩
    · rw [hget_cons] at h2
      by_cases hk : N = k
      · rw [if_pos hk] at h2; injection h2 with h2; subst hk
        exact .inr ⟨v, by simp, Nat.le_refl _, h2.symm⟩
      · rw [if_neg hk] at h2
        exact .inl ⟨by omega, h2⟩
    · refine .inr ⟨u, ?_, by omega, h3⟩
      rw [show k - N = (k - (N + 1)) + 1 by omega]
      simpa using h1
theorem baseW {w : World} (vs : List WView)
    (hv : ∀ v ∈ vs, scL (· < vs.length) v.cs ∧ ∃ c t fz, w.heap[v.blk]? = some (.cells c t fz) ∧ ∀ i, i < v.cs.length → c[v.off + i]? = (denL (wloc vs) v.cs)[i]?) :
    Base Try.prog (· < vs.length) (wloc vs) vs.length (hget (wviewH 0 vs [])) w [] act0 ∧ ∀ k b, hget (wviewH 0 vs []) k = some b → b.own = false := by
  have hH : ∀ k b, hget (wviewH 0 vs []) k = some b → ∃ v, vs[k]? = some v ∧ b = .inp v.off v.cs := fun k b hk => by
    rcases hget_wviewH vs [] k b (by simp) hk with ⟨_, h2⟩ | ⟨v, h1, _, h3⟩
    · cases h2
    · exact ⟨v, by simpa using h1, h3⟩
  have hown : ∀ k b, hget (wviewH 0 vs []) k = some b → b.own = false := fun k b hk => by
    obtain ⟨v, _, rfl⟩ := hH k b hk
    rfl
  refine ⟨⟨⟨fun k b hk => ?_, fun k b k' b' h1 _ _ ho => (by rw [hown k b h1] at ho; cases ho), fun g hg => ?_⟩, fun _ h => h, fun g hg => ?_, ?_, fun k b hk => ?_, fun t v hv => by simp [lk] at hv, fun t v hv => by simp [lk] at hv⟩, hown⟩
  · obtain ⟨v, h1, rfl⟩ := hH k b hk
    obtain ⟨_, c, t, fz, e1, e2⟩ := hv v (List.mem_of_getElem? h1)
    have : (wloc vs).loc k = v.blk := by simp only [wloc]; rw [h1]
    rw [this]
    exact ⟨c, t, fz, e1, e2⟩
  · rw [gsz] at hg; omega
  · rw [gsz] at hg; omega
  · rw [gsz]; omega
  · obtain ⟨v, h1, rfl⟩ := hH k b hk
    have := (List.getElem?_eq_some_iff.1 h1).1
    exact ⟨by omega, (hv v (List.mem_of_getElem? h1)).1⟩
theorem lawCalls {f : FuncId} (he : enterable Try.prog f = true) {w : World} (vs : List WView)
    (hv : ∀ v ∈ vs, scL (· < vs.length) v.cs ∧ ∃ c t fz, w.heap[v.blk]? = some (.cells c t fz) ∧ ∀ i, i < v.cs.length → c[v.off + i]? = (denL (wloc vs) v.cs)[i]?)
    {args0 : List Value} (hsc : scL (· < vs.length) args0) {args : Array Value} (hargs : args = (denL (wloc vs) args0).toArray) {H' : Heap} {n' : Nat} (h : AC Try.prog f args0 (wviewH 0 vs []) vs.length (.bool true) H' n') :
    Calls Try.prog f args w fun e w' => e = .returned (.bool true) ∧ Below w.heap.size w w' := by
  obtain ⟨hB, hown⟩ := baseW vs hv
  rw [hargs]
  exact h.calls he rfl hB hsc hown

/-! ### behind the call -/
theorem trodAll_stays {H : Type} {enc : TypeId × Value → H} {P : Program} (hl : laidOutB P = true) {W W' : World} {sp : Nat → Bool} : ∀ (ts : List TypeId) (vs : List Value) (ds : List (DataW H)) (ps : List MemPlace), (∀ t ∈ ts, P.readableRec t = true ∧ t < P.types.size) →
    DataW.TrodAll enc P W 0 (fun _ => true) true ts vs ds ps → (∀ p ∈ ps, W.sameAt W' p) → (∀ p ∈ ps, sp p.block = true) → DataW.TrodAll enc P W' 0 sp true ts vs ds ps
  | [], vs, ds, ps, _, h, _, _ => by
    obtain ⟨rfl, rfl, rfl⟩ := trodAll_nil h
    exact trodAll_mk0
  | t :: ts, vs, ds, ps, ht, h, h1, h2 => by
    obtain ⟨v, vs', d, ds', p, q, rfl, rfl, rfl, h3, h4⟩ := trodAll_cons h
    have := ht t (List.mem_cons_self ..)
    exact trodAll_cons_mk (WideElems.Trod_stays hl this.1 this.2 h3 (fun x hx => h1 x (List.mem_append_left _ hx)) (fun x hx => h2 x (List.mem_append_left _ hx)))
      (trodAll_stays hl ts vs' ds' q (fun t ht' => ht t (List.mem_cons_of_mem _ ht')) h4 (fun x hx => h1 x (List.mem_append_right _ hx)) (fun x hx => h2 x (List.mem_append_right _ hx)))
theorem lawPost {H : Type} {enc : TypeId × Value → H} {f : Func} {s : ChangeSpec} {W W' : World} {args : Array Value} {ds gs : List (DataW H)} {before : List MemPlace} (hread : ∀ t ∈ f.params.toList, Try.prog.readableRec t = true ∧ t < Try.prog.types.size)
    (hvars : s.vars = []) (hfn : s.fn H ds = { results := [.lit (.bool true)], args := ds }) (hres : f.resultTypes = #[4]) (hW : DataW.Whole enc Try.prog f.params.toList s.vars false W args.toList ds gs before) (hb : Below W.heap.size W W') :
    s.post enc Try.prog f false true false false W args (.bool true) W' := by
  have hlt := hW.lt
  have hW' := hW
  obtain ⟨p, q, hA, hV, rfl, _, _⟩ := hW
  rw [hvars] at hV
  obtain ⟨rfl, rfl⟩ := trodVars_none hV
  simp only [List.append_nil] at hlt
  refine ⟨ds, [], p ++ [], [], p, [], hW', ?_, ?_, ?_, hb.frame _, fun h => by cases h⟩
  · rw [List.append_nil, hfn, hres]
    exact trodAll_cons_mk (shut_bool Try.underlying4 _) trodAll_mk0
  · rw [List.append_nil, hfn]
    exact trodAll_stays laidOutT _ _ _ _ hread hA (fun x hx => hb.same (hlt x hx)) (fun x hx => by simpa using hlt x hx)
  · rw [List.append_nil, hfn, hvars]
    rfl
end Go.Proofs.Ytljglocehbccnaa

namespace Go.Proofs.Ytljglocehbccnaa
open Go Go.Ab Go.Proofs
def whenV (b : Bool) (e : Int) : Int := if b then e else 0
def withinV (a lo hi : Int) : Int := if a < lo ∨ hi < a then 3 else 0
def firstV : List Int → Int
  | [] => 0
  | e :: l => if e = 0 then firstV l else e
def intsOf : List Value → Option (List Int)
  | [] => some []
  | .int .i64 n :: vs => (intsOf vs).map (n :: ·)
  | _ => none
theorem intsOf_ok : ∀ (cs : List Value) (l : List Int), intsOf cs = some l → cs = l.map iv
  | [], l, h => by simp [intsOf] at h; subst h; rfl
  | c :: cs, l, h => by
    unfold intsOf at h
    split at h
    · rename_i h1; cases h1
    · rename_i n vs h1
      injection h1 with h1 h2; subst h1 h2
      rw [Option.map_eq_some_iff] at h
      obtain ⟨l', h2, h3⟩ := h
      subst h3
      rw [intsOf_ok _ _ h2]; rfl
    · cases h
/-- a slice of integers with a block -/
def intsAt (H : Heap) (a : Addr) (len : Nat) : Option (List Int) := if flat a && Nat.blt len 2147483648 then (cellsA H a.block a.off len).bind intsOf else none
theorem intsAt_ok {H : Heap} {a : Addr} {len : Nat} {l : List Int} (h : intsAt H a len = some l) : flat a = true ∧ cellsA H a.block a.off len = some (l.map iv) ∧ l.length = len ∧ l.length < 2 ^ 31 := by
  unfold intsAt at h
  split at h
  · rename_i hf
    rw [Bool.and_eq_true] at hf
    rw [Option.bind_eq_some_iff] at h
    obtain ⟨cs, h1, h2⟩ := h
    have h3 := intsOf_ok _ _ h2
    subst h3
    have h4 := (cellsA_at h1).1
    rw [List.length_map] at h4
    exact ⟨hf.1, h1, h4, by have := (blt_iff _ _).1 hf.2; omega⟩
  · cases h
theorem w35 (b : Bool) (e : Int) : AC Try.prog 35 [.bool b, .int .i64 e] [] 0 (.int .i64 (whenV b e)) [] 0 := by
  have hr := recT_ok (P := Try.prog) (l := []) (by simp)
  refine AC.pure Try.func35 rfl (by kernel_rfl) rfl [] rfl ?_
  refine E.seq ?_
  refine E.reg hr (by simp; rfl) ?_ -- region 0
  refine E.seq ?_
  refine E.seq ?_
  refine E.reg hr (by simp; rfl) ?_ -- region 1
  refine E.cond (by rfl) (fun h => ?_) (fun h => ?_)
  · try simp at h
    refine E.seq ?_
    refine E.reg hr (by simp; rfl) ?_ -- region 2
    refine E.ret ?_
    exact pureK.ret rfl rfl (by simp [one, whenV, h]) (sub_refl _)
  · try simp at h
    refine E.skip ?_
    refine E.seq ?_
    refine E.reg hr (by simp; rfl) ?_ -- region 3
    refine E.ret ?_
    exact pureK.ret rfl rfl (by simp [one, whenV, h]) (sub_refl _)
def g35 (args : List Value) (H : Heap) (n : Nat) : R := match args with
  | [.bool b, .int .i64 e] => some (.int .i64 (whenV b e), H, n)
  | _ => none
theorem ok35 : EntOk Try.prog (35, g35) := by
  intro args H n v H' n' h
  simp only [g35] at h
  split at h
  · injection h with h; injection h with e1 e2; injection e2 with e2 e3; subst e1 e2 e3
    exact AC.liftP rfl (Part.plain (by simp) [] (by simp [Seen]) gsz ⟨_, _, w35 _ _⟩)
  · cases h
theorem w64 (b : Bool) (e : Int) : AC Try.prog 64 [.bool b, .int .i64 e] [] 0 (.int .i64 (whenV b e)) [] 0 := by
  have hr := recT_ok (P := Try.prog) (l := []) (by simp)
  refine AC.pure Try.func64 rfl (by kernel_rfl) rfl [] rfl ?_
  refine E.seq ?_
  refine E.reg hr (by simp; rfl) ?_ -- region 0
  refine E.seq ?_
  refine E.seq ?_
  refine E.reg hr (by simp; rfl) ?_ -- region 1
  refine E.cond (by rfl) (fun h => ?_) (fun h => ?_)
  · try simp at h
    refine E.seq ?_
    refine E.reg hr (by simp; rfl) ?_ -- region 2
    refine E.ret ?_
    exact pureK.ret rfl rfl (by simp [one, whenV, h]) (sub_refl _)
  · try simp at h
    refine E.skip ?_
    refine E.seq ?_
    refine E.reg hr (by simp; rfl) ?_ -- region 3
    refine E.ret ?_
    exact pureK.ret rfl rfl (by simp [one, whenV, h]) (sub_refl _)
def g64 (args : List Value) (H : Heap) (n : Nat) : R := match args with
  | [.bool b, .int .i64 e] => some (.int .i64 (whenV b e), H, n)
  | _ => none
theorem ok64 : EntOk Try.prog (64, g64) := by
  intro args H n v H' n' h
  simp only [g64] at h
  split at h
  · injection h with h; injection h with e1 e2; injection e2 with e2 e3; subst e1 e2 e3
    exact AC.liftP rfl (Part.plain (by simp) [] (by simp [Seen]) gsz ⟨_, _, w64 _ _⟩)
  · cases h
theorem w66 (b : Bool) (e : Int) : AC Try.prog 66 [.bool b, .int .i64 e] [] 0 (.int .i64 (whenV b e)) [] 0 := by
  have hr := recT_ok (P := Try.prog) (l := []) (by simp)
  refine AC.pure Try.func66 rfl (by kernel_rfl) rfl [] rfl ?_
  refine E.seq ?_
  refine E.reg hr (by simp; rfl) ?_ -- region 0
  refine E.seq ?_
  refine E.seq ?_
  refine E.reg hr (by simp; rfl) ?_ -- region 1
  refine E.cond (by rfl) (fun h => ?_) (fun h => ?_)
  · try simp at h
    refine E.seq ?_
    refine E.reg hr (by simp; rfl) ?_ -- region 2
    refine E.ret ?_
    exact pureK.ret rfl rfl (by simp [one, whenV, h]) (sub_refl _)
  · try simp at h
    refine E.skip ?_
    refine E.seq ?_
    refine E.reg hr (by simp; rfl) ?_ -- region 3
    refine E.ret ?_
    exact pureK.ret rfl rfl (by simp [one, whenV, h]) (sub_refl _)
def g66 (args : List Value) (H : Heap) (n : Nat) : R := match args with
  | [.bool b, .int .i64 e] => some (.int .i64 (whenV b e), H, n)
  | _ => none
theorem ok66 : EntOk Try.prog (66, g66) := by
  intro args H n v H' n' h
  simp only [g66] at h
  split at h
  · injection h with h; injection h with e1 e2; injection e2 with e2 e3; subst e1 e2 e3
    exact AC.liftP rfl (Part.plain (by simp) [] (by simp [Seen]) gsz ⟨_, _, w66 _ _⟩)
  · cases h
theorem w32 (a lo hi : Int) : AC Try.prog 32 [.int .i64 a, .int .i64 lo, .int .i64 hi] [] 0 (.int .i64 (withinV a lo hi)) [] 0 := by
  have hr := recT_ok (P := Try.prog) (l := [(35, g35)]) (by simp [ok35])
  refine AC.pure Try.func32 rfl (by kernel_rfl) rfl [] rfl ?_
  refine E.seq ?_
  refine E.reg hr (by simp; rfl) ?_ -- region 0
  refine E.seq ?_
  by_cases h1 : a < lo
  · refine E.reg hr (by simp [h1, oneF_guard, yieldedA, g35]; rfl) ?_ -- region 1
    refine E.ret ?_
    exact pureK.ret rfl rfl (by simp [one, withinV, whenV, h1]) (sub_refl _)
  · refine E.reg hr (by simp [h1, oneF_guard, yieldedA, g35]; rfl) ?_ -- region 1
    refine E.ret ?_
    exact pureK.ret rfl rfl (by simp [one, withinV, whenV, h1]) (sub_refl _)
def g32 (args : List Value) (H : Heap) (n : Nat) : R := match args with
  | [.int .i64 a, .int .i64 b, .int .i64 c] => some (.int .i64 (withinV a b c), H, n)
  | _ => none
theorem ok32 : EntOk Try.prog (32, g32) := by
  intro args H n v H' n' h
  simp only [g32] at h
  split at h
  · injection h with h; injection h with e1 e2; injection e2 with e2 e3; subst e1 e2 e3
    exact AC.liftP rfl (Part.plain (by simp) [] (by simp [Seen]) gsz ⟨_, _, w32 _ _ _⟩)
  · cases h
theorem w39 (a lo hi : Int) : AC Try.prog 39 [.int .i64 a, .int .i64 lo, .int .i64 hi] [] 0 (.int .i64 (withinV a lo hi)) [] 0 := by
  have hr := recT_ok (P := Try.prog) (l := [(64, g64)]) (by simp [ok64])
  refine AC.pure Try.func39 rfl (by kernel_rfl) rfl [] rfl ?_
  refine E.seq ?_
  refine E.reg hr (by simp; rfl) ?_ -- region 0
  refine E.seq ?_
  by_cases h1 : a < lo
  · refine E.reg hr (by simp [h1, oneF_guard, yieldedA, g64]; rfl) ?_ -- region 1
    refine E.ret ?_
    exact pureK.ret rfl rfl (by simp [one, withinV, whenV, h1]) (sub_refl _)
  · refine E.reg hr (by simp [h1, oneF_guard, yieldedA, g64]; rfl) ?_ -- region 1
    refine E.ret ?_
    exact pureK.ret rfl rfl (by simp [one, withinV, whenV, h1]) (sub_refl _)
def g39 (args : List Value) (H : Heap) (n : Nat) : R := match args with
  | [.int .i64 a, .int .i64 b, .int .i64 c] => some (.int .i64 (withinV a b c), H, n)
  | _ => none
theorem ok39 : EntOk Try.prog (39, g39) := by
  intro args H n v H' n' h
  simp only [g39] at h
  split at h
  · injection h with h; injection h with e1 e2; injection e2 with e2 e3; subst e1 e2 e3
    exact AC.liftP rfl (Part.plain (by simp) [] (by simp [Seen]) gsz ⟨_, _, w39 _ _ _⟩)
  · cases h
theorem w56 (a lo hi : Int) : AC Try.prog 56 [.int .i64 a, .int .i64 lo, .int .i64 hi] [] 0 (.int .i64 (withinV a lo hi)) [] 0 := by
  have hr := recT_ok (P := Try.prog) (l := [(66, g66)]) (by simp [ok66])
  refine AC.pure Try.func56 rfl (by kernel_rfl) rfl [] rfl ?_
  refine E.seq ?_
  refine E.reg hr (by simp; rfl) ?_ -- region 0
  refine E.seq ?_
  by_cases h1 : a < lo
  · refine E.reg hr (by simp [h1, oneF_guard, yieldedA, g66]; rfl) ?_ -- region 1
    refine E.ret ?_
    exact pureK.ret rfl rfl (by simp [one, withinV, whenV, h1]) (sub_refl _)
  · refine E.reg hr (by simp [h1, oneF_guard, yieldedA, g66]; rfl) ?_ -- region 1
    refine E.ret ?_
    exact pureK.ret rfl rfl (by simp [one, withinV, whenV, h1]) (sub_refl _)
def g56 (args : List Value) (H : Heap) (n : Nat) : R := match args with
  | [.int .i64 a, .int .i64 b, .int .i64 c] => some (.int .i64 (withinV a b c), H, n)
  | _ => none
theorem ok56 : EntOk Try.prog (56, g56) := by
  intro args H n v H' n' h
  simp only [g56] at h
  split at h
  · injection h with h; injection h with e1 e2; injection e2 with e2 e3; subst e1 e2 e3
    exact AC.liftP rfl (Part.plain (by simp) [] (by simp [Seen]) gsz ⟨_, _, w56 _ _ _⟩)
  · cases h
theorem w29 (l : List Int) (o c : Nat) (hl : l.length < 2 ^ 31) : AC Try.prog 29 [.slice (some ⟨0, o, none⟩) l.length c] [(0, .inp o (l.map iv))] 1 (iv (firstV l)) [(0, .inp o (l.map iv))] 1 := by
  have hr := recT_ok (P := Try.prog) (l := []) (by simp)
  refine AC.pure Try.func29 rfl (by kernel_rfl) rfl [5, 6, 7] rfl ?_
  refine E.seq ?_
  refine E.reg hr (by simp; rfl) ?_ -- region 0
  refine E.seq ?_
  refine E.seq ?_
  refine E.reg hr (by simp [opBuiltin, builtinA]; rfl) ?_ -- region 1
  refine E.block ?_ -- 0
  refine E.loop ?_
  refine EL.ind (fun i : Nat => { fr := [(5, .slice (some ⟨0, o, none⟩) l.length c), (6, iv l.length), (7, iv i)], sz := 15, H := [(0, .inp o (l.map iv))], n := 1, marks := [], vs := [5, 6, 7] }) (fun i => l.length - i) (fun i => i ≤ l.length ∧ firstV (l.drop i) = firstV l) 0 (.less rfl rfl rfl (by simp) (by simp)) ⟨Nat.zero_le _, rfl⟩ (fun _ => rfl) ?_
  intro i ⟨hi, hg⟩
  refine E.seq ?_
  refine E.reg hr (by simp; rfl) ?_
  refine E.seq ?_
  refine E.cond (by rfl) (fun h => ?_) (fun h => ?_)
  · simp at h
    refine E.skip ?_
    refine E.seq ?_
    refine E.block ?_
    refine E.seq ?_
    refine E.reg hr (by simp [opIndexaddr, flat, h, loadA, cellA]; rfl) ?_
    refine E.seq ?_
    refine E.reg hr (by simp; rfl) ?_
    refine E.cond (by rfl) (fun h2 => ?_) (fun h2 => ?_)
    · simp at h2
      refine E.seq ?_
      refine E.reg hr (by simp; rfl) ?_
      refine E.ret ?_
      refine pureK.ret rfl rfl ?_ (sub_refl _)
      rw [List.drop_eq_getElem_cons h] at hg
      simp [one, ← hg, firstV, h2]
    · simp at h2
      refine E.skip ?_
      have hw : IntKind.i64.wrap ((i : Int) + 1) = (i : Int) + 1 := W_in (by omega) (by omega)
      refine E.reg hr (by simp [hw]; rfl) ?_
      rw [List.drop_eq_getElem_cons h] at hg
      exact ⟨i + 1, .less rfl rfl rfl (by simp) (by simp), ⟨h, by rw [← hg]; simp [firstV, h2]⟩, by dsimp only; omega⟩
  · simp at h
    refine E.exit ?_
    refine E.seq ?_
    refine E.reg hr (by simp; rfl) ?_ -- region 7
    refine E.ret ?_
    have : l.drop i = [] := by simp; omega
    refine pureK.ret rfl rfl ?_ (sub_refl _)
    simp [one, ← hg, this, firstV]
def g29 (args : List Value) (H : Heap) (n : Nat) : R := match args with
  | [.slice (some a) len _] => (intsAt H a len).map fun l => (iv (firstV l), H, n)
  | _ => none
theorem ok29 : EntOk Try.prog (29, g29) := by
  intro args H n v H' n' h
  simp only [g29] at h
  split at h
  · rename_i a len c
    rw [Option.map_eq_some_iff] at h
    obtain ⟨l, h1, h⟩ := h
    injection h with e1 e2; injection e2 with e2 e3; subst e1 e2 e3
    obtain ⟨hf, hc, hlen, hlt⟩ := intsAt_ok h1
    subst hlen
    exact AC.liftP rfl (Part.one (fun s => [s]) (by intro φ φ0 s s0 h; simp [denL, h]) (by intro p s h; exact ⟨h, trivial⟩) hf hc (afL_iv l) [] (by simp [Seen]) gsz fun c => ⟨_, _, w29 l _ c hlt⟩)
  · cases h
theorem w55 (l : List Int) (o c : Nat) (hl : l.length < 2 ^ 31) : AC Try.prog 55 [.slice (some ⟨0, o, none⟩) l.length c] [(0, .inp o (l.map iv))] 1 (iv (firstV l)) [(0, .inp o (l.map iv))] 1 := by
  have hr := recT_ok (P := Try.prog) (l := []) (by simp)
  refine AC.pure Try.func55 rfl (by kernel_rfl) rfl [5, 6, 7] rfl ?_
  refine E.seq ?_
  refine E.reg hr (by simp; rfl) ?_ -- region 0
  refine E.seq ?_
  refine E.seq ?_
  refine E.reg hr (by simp [opBuiltin, builtinA]; rfl) ?_ -- region 1
  refine E.block ?_ -- 0
  refine E.loop ?_
  refine EL.ind (fun i : Nat => { fr := [(5, .slice (some ⟨0, o, none⟩) l.length c), (6, iv l.length), (7, iv i)], sz := 15, H := [(0, .inp o (l.map iv))], n := 1, marks := [], vs := [5, 6, 7] }) (fun i => l.length - i) (fun i => i ≤ l.length ∧ firstV (l.drop i) = firstV l) 0 (.less rfl rfl rfl (by simp) (by simp)) ⟨Nat.zero_le _, rfl⟩ (fun _ => rfl) ?_
  intro i ⟨hi, hg⟩
  refine E.seq ?_
  refine E.reg hr (by simp; rfl) ?_
  refine E.seq ?_
  refine E.cond (by rfl) (fun h => ?_) (fun h => ?_)
  · simp at h
    refine E.skip ?_
    refine E.seq ?_
    refine E.block ?_
    refine E.seq ?_
    refine E.reg hr (by simp [opIndexaddr, flat, h, loadA, cellA]; rfl) ?_
    refine E.seq ?_
    refine E.reg hr (by simp; rfl) ?_
    refine E.cond (by rfl) (fun h2 => ?_) (fun h2 => ?_)
    · simp at h2
      refine E.seq ?_
      refine E.reg hr (by simp; rfl) ?_
      refine E.ret ?_
      refine pureK.ret rfl rfl ?_ (sub_refl _)
      rw [List.drop_eq_getElem_cons h] at hg
      simp [one, ← hg, firstV, h2]
    · simp at h2
      refine E.skip ?_
      have hw : IntKind.i64.wrap ((i : Int) + 1) = (i : Int) + 1 := W_in (by omega) (by omega)
      refine E.reg hr (by simp [hw]; rfl) ?_
      rw [List.drop_eq_getElem_cons h] at hg
      exact ⟨i + 1, .less rfl rfl rfl (by simp) (by simp), ⟨h, by rw [← hg]; simp [firstV, h2]⟩, by dsimp only; omega⟩
  · simp at h
    refine E.exit ?_
    refine E.seq ?_
    refine E.reg hr (by simp; rfl) ?_ -- region 7
    refine E.ret ?_
    have : l.drop i = [] := by simp; omega
    refine pureK.ret rfl rfl ?_ (sub_refl _)
    simp [one, ← hg, this, firstV]
def g55 (args : List Value) (H : Heap) (n : Nat) : R := match args with
  | [.slice (some a) len _] => (intsAt H a len).map fun l => (iv (firstV l), H, n)
  | _ => none
theorem ok55 : EntOk Try.prog (55, g55) := by
  intro args H n v H' n' h
  simp only [g55] at h
  split at h
  · rename_i a len c
    rw [Option.map_eq_some_iff] at h
    obtain ⟨l, h1, h⟩ := h
    injection h with e1 e2; injection e2 with e2 e3; subst e1 e2 e3
    obtain ⟨hf, hc, hlen, hlt⟩ := intsAt_ok h1
    subst hlen
    exact AC.liftP rfl (Part.one (fun s => [s]) (by intro φ φ0 s s0 h; simp [denL, h]) (by intro p s h; exact ⟨h, trivial⟩) hf hc (afL_iv l) [] (by simp [Seen]) gsz fun c => ⟨_, _, w55 l _ c hlt⟩)
  · cases h
theorem w38 (l : List Int) (o c : Nat) (hl : l.length < 2 ^ 31) : AC Try.prog 38 [.slice (some ⟨0, o, none⟩) l.length c] [(0, .inp o (l.map iv))] 1 (iv (firstV l)) [(0, .inp o (l.map iv))] 1 := by
  have hr := recT_ok (P := Try.prog) (l := []) (by simp)
  refine AC.pure Try.func38 rfl (by kernel_rfl) rfl [0, 3] rfl ?_
  refine E.seq ?_
  refine E.reg hr (by simp; rfl) ?_ -- region 0
  refine E.seq ?_
  refine E.seq ?_
  refine E.reg hr (by simp; rfl) ?_ -- region 1
  refine E.block ?_ -- 0
  refine E.loop ?_
  refine EL.ind (fun i : Nat => { fr := [(0, .slice (some ⟨0, o, none⟩) l.length c), (3, iv i)], sz := 19, H := [(0, .inp o (l.map iv))], n := 1, marks := [], vs := [0, 3] }) (fun i => l.length - i) (fun i => i ≤ l.length ∧ firstV (l.drop i) = firstV l) 0 (.less rfl rfl rfl (by simp) (by simp)) ⟨Nat.zero_le _, rfl⟩ (fun _ => rfl) ?_
  intro i ⟨hi, hg⟩
  refine E.seq ?_
  refine E.seq ?_
  refine E.reg hr (by simp; rfl) ?_
  refine E.cond (by rfl) (fun h => ?_) (fun h => ?_)
  · simp at h
    refine E.skip ?_
    refine E.seq ?_
    refine E.block ?_
    refine E.seq ?_
    refine E.reg hr (by simp [opIndexaddr, flat, h, loadA, cellA]; rfl) ?_
    refine E.cond (by rfl) (fun h2 => ?_) (fun h2 => ?_)
    · simp at h2
      refine E.seq ?_
      refine E.reg hr (by simp [opIndexaddr, flat, h, loadA, cellA]; rfl) ?_
      refine E.ret ?_
      refine pureK.ret rfl rfl ?_ (sub_refl _)
      rw [List.drop_eq_getElem_cons h] at hg
      simp [one, ← hg, firstV, h2]
    · simp at h2
      refine E.skip ?_
      have hw : IntKind.i64.wrap ((i : Int) + 1) = (i : Int) + 1 := W_in (by omega) (by omega)
      refine E.reg hr (by simp [hw]; rfl) ?_
      rw [List.drop_eq_getElem_cons h] at hg
      exact ⟨i + 1, .less rfl rfl rfl (by simp) (by simp), ⟨h, by rw [← hg]; simp [firstV, h2]⟩, by dsimp only; omega⟩
  · simp at h
    refine E.exit ?_
    refine E.seq ?_
    refine E.reg hr (by simp; rfl) ?_ -- region 7
    refine E.ret ?_
    have : l.drop i = [] := by simp; omega
    refine pureK.ret rfl rfl ?_ (sub_refl _)
    simp [one, ← hg, this, firstV]
def g38 (args : List Value) (H : Heap) (n : Nat) : R := match args with
  | [.slice (some a) len _] => (intsAt H a len).map fun l => (iv (firstV l), H, n)
  | _ => none
theorem ok38 : EntOk Try.prog (38, g38) := by
  intro args H n v H' n' h
  simp only [g38] at h
  split at h
  · rename_i a len c
    rw [Option.map_eq_some_iff] at h
    obtain ⟨l, h1, h⟩ := h
    injection h with e1 e2; injection e2 with e2 e3; subst e1 e2 e3
    obtain ⟨hf, hc, hlen, hlt⟩ := intsAt_ok h1
    subst hlen
    exact AC.liftP rfl (Part.one (fun s => [s]) (by intro φ φ0 s s0 h; simp [denL, h]) (by intro p s h; exact ⟨h, trivial⟩) hf hc (afL_iv l) [] (by simp [Seen]) gsz fun c => ⟨_, _, w38 l _ c hlt⟩)
  · cases h
end Go.Proofs.Ytljglocehbccnaa

namespace Go.Proofs.Ytljglocehbccnaa
open Go Go.Ab Go.Proofs
def ptV (x y m : Int) : Int := firstV [withinV x (IntKind.i64.wrap (0 - m)) m, withinV y (IntKind.i64.wrap (0 - m)) m]
def vesV (x y dx dy t : Int) : Int := firstV [ptV x y 100000, ptV dx dy 1000, withinV t 1 4096]
def watV (r s l c f : Int) : Int := firstV [withinV r 0 10000, withinV s 0 1000, withinV l 0 1000, withinV c 0 1000, withinV f 0 1000]
def lineV (s f d p u e : Int) : Int := firstV [withinV s 0 100000, withinV f 0 100000, withinV d 1 100000, withinV p 1 256, withinV u 1 1000, withinV e 1 1000]
theorem w75 (x y m : Int) : AC Try.prog 75 [.agg ⟨[iv x, iv y]⟩, iv m] [] 0 (iv (ptV x y m)) [] 0 := by
  have hr := recT_ok (P := Try.prog) (l := [(32, g32), (29, g29)]) (by simp [ok32, ok29])
  refine AC.pure Try.func75 rfl (by kernel_rfl) rfl [] rfl ?_
  refine E.seq ?_
  refine E.reg hr (by simp [Value.cells]; rfl) ?_ -- region 0
  refine E.seq ?_
  refine E.drawK mixed hr (by simp [-Int.zero_sub, g32, g29, intsAt, flat, partsOk, Value.cells, Nat.blt, intsOf]; rfl) (by kernel_rfl) (by kernel_rfl) ?_ -- region 1
  refine E.ret ?_
  refine pureK.ret rfl rfl ?_ (by repeat first | exact sub_refl _ | refine sub_cons rfl ?_)
  simp [-Int.zero_sub, one, ptV]
def g75 (args : List Value) (H : Heap) (n : Nat) : R := match args with
  | [.agg ⟨[.int .i64 x, .int .i64 y]⟩, .int .i64 m] => some (iv (ptV x y m), H, n)
  | _ => none
theorem ok75 : EntOk Try.prog (75, g75) := by
  intro args H n v H' n' h
  simp only [g75] at h
  split at h
  · injection h with h; injection h with e1 e2; injection e2 with e2 e3; subst e1 e2 e3
    exact AC.liftP rfl (Part.plain (by simp) [] (by simp [Seen]) gsz ⟨_, _, w75 _ _ _⟩)
  · cases h
theorem w74 (x y m : Int) : AC Try.prog 74 [.agg ⟨[iv x, iv y]⟩, iv m] [] 0 (iv (ptV x y m)) [] 0 := by
  have hr := recT_ok (P := Try.prog) (l := [(39, g39), (38, g38)]) (by simp [ok39, ok38])
  refine AC.pure Try.func74 rfl (by kernel_rfl) rfl [] rfl ?_
  refine E.seq ?_
  refine E.reg hr (by simp [Value.cells]; rfl) ?_ -- region 0
  refine E.seq ?_
  refine E.drawK mixed hr (by simp [-Int.zero_sub, g39, g38, intsAt, flat, partsOk, Value.cells, Nat.blt, intsOf]; rfl) (by kernel_rfl) (by kernel_rfl) ?_ -- region 1
  refine E.ret ?_
  refine pureK.ret rfl rfl ?_ (by repeat first | exact sub_refl _ | refine sub_cons rfl ?_)
  simp [-Int.zero_sub, one, ptV]
def g74 (args : List Value) (H : Heap) (n : Nat) : R := match args with
  | [.agg ⟨[.int .i64 x, .int .i64 y]⟩, .int .i64 m] => some (iv (ptV x y m), H, n)
  | _ => none
theorem ok74 : EntOk Try.prog (74, g74) := by
  intro args H n v H' n' h
  simp only [g74] at h
  split at h
  · injection h with h; injection h with e1 e2; injection e2 with e2 e3; subst e1 e2 e3
    exact AC.liftP rfl (Part.plain (by simp) [] (by simp [Seen]) gsz ⟨_, _, w74 _ _ _⟩)
  · cases h
theorem w57 (x y dx dy t : Int) : AC Try.prog 57 [.agg ⟨[iv x, iv y, iv dx, iv dy, iv t]⟩] [] 0 (iv (vesV x y dx dy t)) [] 0 := by
  have hr := recT_ok (P := Try.prog) (l := [(75, g75), (32, g32), (29, g29)]) (by simp [ok75, ok32, ok29])
  refine AC.pure Try.func57 rfl (by kernel_rfl) rfl [] rfl ?_
  refine E.seq ?_
  refine E.reg hr (by simp [Value.cells]; rfl) ?_ -- region 0
  refine E.seq ?_
  refine E.drawK mixed hr (by simp [-Int.zero_sub, g75, g32, g29, intsAt, flat, partsOk, Value.cells, Nat.blt, intsOf]; rfl) (by kernel_rfl) (by kernel_rfl) ?_ -- region 1
  refine E.ret ?_
  refine pureK.ret rfl rfl ?_ (by repeat first | exact sub_refl _ | refine sub_cons rfl ?_)
  simp [-Int.zero_sub, one, vesV]
def g57 (args : List Value) (H : Heap) (n : Nat) : R := match args with
  | [.agg ⟨[.int .i64 x, .int .i64 y, .int .i64 dx, .int .i64 dy, .int .i64 t]⟩] => some (iv (vesV x y dx dy t), H, n)
  | _ => none
theorem ok57 : EntOk Try.prog (57, g57) := by
  intro args H n v H' n' h
  simp only [g57] at h
  split at h
  · injection h with h; injection h with e1 e2; injection e2 with e2 e3; subst e1 e2 e3
    exact AC.liftP rfl (Part.plain (by simp) [] (by simp [Seen]) gsz ⟨_, _, w57 _ _ _ _ _⟩)
  · cases h
theorem w52 (x y dx dy t : Int) : AC Try.prog 52 [.agg ⟨[iv x, iv y, iv dx, iv dy, iv t]⟩] [] 0 (iv (vesV x y dx dy t)) [] 0 := by
  have hr := recT_ok (P := Try.prog) (l := [(74, g74), (39, g39), (38, g38)]) (by simp [ok74, ok39, ok38])
  refine AC.pure Try.func52 rfl (by kernel_rfl) rfl [] rfl ?_
  refine E.seq ?_
  refine E.reg hr (by simp [Value.cells]; rfl) ?_ -- region 0
  refine E.seq ?_
  refine E.drawK mixed hr (by simp [-Int.zero_sub, g74, g39, g38, intsAt, flat, partsOk, Value.cells, Nat.blt, intsOf]; rfl) (by kernel_rfl) (by kernel_rfl) ?_ -- region 1
  refine E.ret ?_
  refine pureK.ret rfl rfl ?_ (by repeat first | exact sub_refl _ | refine sub_cons rfl ?_)
  simp [-Int.zero_sub, one, vesV]
def g52 (args : List Value) (H : Heap) (n : Nat) : R := match args with
  | [.agg ⟨[.int .i64 x, .int .i64 y, .int .i64 dx, .int .i64 dy, .int .i64 t]⟩] => some (iv (vesV x y dx dy t), H, n)
  | _ => none
theorem ok52 : EntOk Try.prog (52, g52) := by
  intro args H n v H' n' h
  simp only [g52] at h
  split at h
  · injection h with h; injection h with e1 e2; injection e2 with e2 e3; subst e1 e2 e3
    exact AC.liftP rfl (Part.plain (by simp) [] (by simp [Seen]) gsz ⟨_, _, w52 _ _ _ _ _⟩)
  · cases h
theorem w58 (r s l c f : Int) : AC Try.prog 58 [.agg ⟨[iv r, iv s, iv l, iv c, iv f]⟩] [] 0 (iv (watV r s l c f)) [] 0 := by
  have hr := recT_ok (P := Try.prog) (l := [(32, g32), (29, g29)]) (by simp [ok32, ok29])
  refine AC.pure Try.func58 rfl (by kernel_rfl) rfl [] rfl ?_
  refine E.seq ?_
  refine E.reg hr (by simp [Value.cells]; rfl) ?_ -- region 0
  refine E.seq ?_
  refine E.drawK mixed hr (by simp [-Int.zero_sub, g32, g29, intsAt, flat, partsOk, Value.cells, Nat.blt, intsOf]; rfl) (by kernel_rfl) (by kernel_rfl) ?_ -- region 1
  refine E.ret ?_
  refine pureK.ret rfl rfl ?_ (by repeat first | exact sub_refl _ | refine sub_cons rfl ?_)
  simp [-Int.zero_sub, one, watV]
def g58 (args : List Value) (H : Heap) (n : Nat) : R := match args with
  | [.agg ⟨[.int .i64 r, .int .i64 s, .int .i64 l, .int .i64 c, .int .i64 f]⟩] => some (iv (watV r s l c f), H, n)
  | _ => none
theorem ok58 : EntOk Try.prog (58, g58) := by
  intro args H n v H' n' h
  simp only [g58] at h
  split at h
  · injection h with h; injection h with e1 e2; injection e2 with e2 e3; subst e1 e2 e3
    exact AC.liftP rfl (Part.plain (by simp) [] (by simp [Seen]) gsz ⟨_, _, w58 _ _ _ _ _⟩)
  · cases h
theorem w53 (r s l c f : Int) : AC Try.prog 53 [.agg ⟨[iv r, iv s, iv l, iv c, iv f]⟩] [] 0 (iv (watV r s l c f)) [] 0 := by
  have hr := recT_ok (P := Try.prog) (l := [(39, g39), (38, g38)]) (by simp [ok39, ok38])
  refine AC.pure Try.func53 rfl (by kernel_rfl) rfl [] rfl ?_
  refine E.seq ?_
  refine E.reg hr (by simp [Value.cells]; rfl) ?_ -- region 0
  refine E.seq ?_
  refine E.drawK mixed hr (by simp [-Int.zero_sub, g39, g38, intsAt, flat, partsOk, Value.cells, Nat.blt, intsOf]; rfl) (by kernel_rfl) (by kernel_rfl) ?_ -- region 1
  refine E.ret ?_
  refine pureK.ret rfl rfl ?_ (by repeat first | exact sub_refl _ | refine sub_cons rfl ?_)
  simp [-Int.zero_sub, one, watV]
def g53 (args : List Value) (H : Heap) (n : Nat) : R := match args with
  | [.agg ⟨[.int .i64 r, .int .i64 s, .int .i64 l, .int .i64 c, .int .i64 f]⟩] => some (iv (watV r s l c f), H, n)
  | _ => none
theorem ok53 : EntOk Try.prog (53, g53) := by
  intro args H n v H' n' h
  simp only [g53] at h
  split at h
  · injection h with h; injection h with e1 e2; injection e2 with e2 e3; subst e1 e2 e3
    exact AC.liftP rfl (Part.plain (by simp) [] (by simp [Seen]) gsz ⟨_, _, w53 _ _ _ _ _⟩)
  · cases h
theorem w23 (s f d p u e : Int) : AC Try.prog 23 [.agg ⟨[iv s, iv f, iv d, iv p, iv u, iv e]⟩] [] 0 (iv (lineV s f d p u e)) [] 0 := by
  have hr := recT_ok (P := Try.prog) (l := [(56, g56), (55, g55)]) (by simp [ok56, ok55])
  refine AC.pure Try.func23 rfl (by kernel_rfl) rfl [] rfl ?_
  refine E.seq ?_
  refine E.reg hr (by simp [Value.cells]; rfl) ?_ -- region 0
  refine E.seq ?_
  refine E.drawK mixed hr (by simp [-Int.zero_sub, g56, g55, intsAt, flat, partsOk, Value.cells, Nat.blt, intsOf]; rfl) (by kernel_rfl) (by kernel_rfl) ?_ -- region 1
  refine E.ret ?_
  refine pureK.ret rfl rfl ?_ (by repeat first | exact sub_refl _ | refine sub_cons rfl ?_)
  simp [-Int.zero_sub, one, lineV]
def g23 (args : List Value) (H : Heap) (n : Nat) : R := match args with
  | [.agg ⟨[.int .i64 s, .int .i64 f, .int .i64 d, .int .i64 p, .int .i64 u, .int .i64 e]⟩] => some (iv (lineV s f d p u e), H, n)
  | _ => none
theorem ok23 : EntOk Try.prog (23, g23) := by
  intro args H n v H' n' h
  simp only [g23] at h
  split at h
  · injection h with h; injection h with e1 e2; injection e2 with e2 e3; subst e1 e2 e3
    exact AC.liftP rfl (Part.plain (by simp) [] (by simp [Seen]) gsz ⟨_, _, w23 _ _ _ _ _ _⟩)
  · cases h
end Go.Proofs.Ytljglocehbccnaa

namespace Go.Proofs.Ytljglocehbccnaa
open Go Go.Ab Go.Proofs
set_option maxRecDepth 20000
/-! ### an animal near -/
/-- a watch and a vessel, without the sightings -/
structure Brg where
  r : Int
  s : Int
  l : Int
  c : Int
  f : Int
  x : Int
  y : Int
  dx : Int
  dy : Int
  t : Int
structure Sg where
  tk : Int
  x : Int
  y : Int
  deriving DecidableEq
abbrev W (x : Int) : Int := IntKind.i64.wrap x
def Brg.val (b : Brg) (v : Value) : Value := .agg ⟨[iv b.r, iv b.s, iv b.l, iv b.c, iv b.f, iv b.x, iv b.y, iv b.dx, iv b.dy, iv b.t, v]⟩
def plX (b : Brg) (t : Int) : Int := IntKind.i64.wrap (b.x + IntKind.i64.wrap (t * b.dx))
def plY (b : Brg) (t : Int) : Int := IntKind.i64.wrap (b.y + IntKind.i64.wrap (t * b.dy))
def insR (x y r : Int) : Bool := decide (IntKind.i64.wrap (IntKind.i64.wrap (x * x) + IntKind.i64.wrap (y * y)) ≤ IntKind.i64.wrap (r * r))
def nearV (b : Brg) (q : Sg) (t : Int) : Bool :=
  if IntKind.i64.wrap (t - q.tk) < 0 ∨ b.l < IntKind.i64.wrap (t - q.tk) then false
  else if plX b t = q.x ∧ plY b t = q.y then true
  else insR (IntKind.i64.wrap (plX b t - q.x)) (IntKind.i64.wrap (plY b t - q.y)) (IntKind.i64.wrap (b.r + IntKind.i64.wrap (b.s * IntKind.i64.wrap (t - q.tk))))
/-! ### structs that are built -/
section
variable {fr : Fr} {H : Heap} {n : Nat}
theorem build23 {x y : Operand} {a b : Int} (hx : evO Try.prog fr x = some (iv a)) (hy : evO Try.prog fr y = some (iv b)) : opBuild Try.prog 23 #[(0, x), (1, y)] fr H n = some (.agg #[iv a, iv b], H, n) := by
  unfold opBuild
  simp only [evPs_cons, evPs_nil, hx, hy]
  kernel_rfl
theorem build52 {x y : Operand} {a b : Int} (hx : evO Try.prog fr x = some (iv a)) (hy : evO Try.prog fr y = some (iv b)) : opBuild Try.prog 52 #[(0, x), (1, y)] fr H n = some (.agg #[iv a, iv b], H, n) := by
  unfold opBuild
  simp only [evPs_cons, evPs_nil, hx, hy]
  kernel_rfl
theorem build54 {x y : Operand} {a b : Int} (hx : evO Try.prog fr x = some (iv a)) (hy : evO Try.prog fr y = some (iv b)) : opBuild Try.prog 54 #[(0, x), (1, y)] fr H n = some (.agg #[iv a, iv b], H, n) := by
  unfold opBuild
  simp only [evPs_cons, evPs_nil, hx, hy]
  kernel_rfl
theorem build34 {x1 x2 x3 x4 x5 : Operand} {a1 a2 a3 a4 a5 : Int} (h1 : evO Try.prog fr x1 = some (iv a1)) (h2 : evO Try.prog fr x2 = some (iv a2)) (h3 : evO Try.prog fr x3 = some (iv a3)) (h4 : evO Try.prog fr x4 = some (iv a4)) (h5 : evO Try.prog fr x5 = some (iv a5)) : opBuild Try.prog 34 #[(1, x1), (2, x2), (3, x3), (4, x4), (5, x5)] fr H n = some (.agg #[iv 0, iv a1, iv a2, iv a3, iv a4, iv a5], H, n) := by
  unfold opBuild
  simp only [evPs_cons, evPs_nil, h1, h2, h3, h4, h5]
  kernel_rfl
theorem build84 {x y z : Operand} {r s l c f vx vy dx dy t : Int} {oa : Option Addr} {L k : Nat} (hx : evO Try.prog fr x = some (.agg #[iv r, iv s, iv l, iv c, iv f])) (hy : evO Try.prog fr y = some (.agg #[iv vx, iv vy, iv dx, iv dy, iv t])) (hz : evO Try.prog fr z = some (.slice oa L k)) : opBuild Try.prog 84 #[(0, x), (1, y), (2, z)] fr H n = some (.agg #[iv r, iv s, iv l, iv c, iv f, iv vx, iv vy, iv dx, iv dy, iv t, .slice oa L k], H, n) := by
  unfold opBuild
  simp only [evPs_cons, evPs_nil, hx, hy, hz]
  kernel_rfl
end
theorem w79 {H : Heap} {n : Nat} (b : Brg) (t : Int) (oa : Option Addr) (L c : Nat) : AC Try.prog 79 [b.val (.slice oa L c), iv t] H n (.agg ⟨[iv (plX b t), iv (plY b t)]⟩) H n := by
  refine AC.given fun hold _ _ => AC.tidied (B := []) (by simp) ?_
  have hr := recT_ok (P := Try.prog) (l := []) (by simp)
  unfold Brg.val
  refine AC.pure Try.func79 rfl (by kernel_rfl) rfl [4, 1, 5, 2, 0] rfl ?_
  refine E.seq ?_
  refine E.reg hr (by simp [Value.cells]; rfl) ?_ -- region 0
  refine E.seq ?_
  refine E.reg hr (by simp [Value.cells]; rfl) ?_ -- region 1
  refine E.seq ?_
  refine E.reg hr (by simp [Value.cells, build23]; rfl) ?_ -- region 2
  refine E.ret ?_
  exact pureK.ret rfl (vs := [.agg #[iv (plX b t), iv (plY b t)]]) (by simp [resultsA, resultA, Try.f79, plX, plY]) rfl (by repeat first | exact Sub.refl _ | refine Sub.cons (by simp) ?_)
theorem w63 (r s l c f : Int) : AC Try.prog 63 [.agg ⟨[iv r, iv s, iv l, iv c, iv f]⟩] [] 0 (iv (IntKind.i64.wrap (f + 1))) [] 0 := by
  have hr := recT_ok (P := Try.prog) (l := []) (by simp)
  refine AC.pure Try.func63 rfl (by kernel_rfl) rfl [] rfl ?_
  refine E.seq ?_
  refine E.reg hr (by simp [Value.cells]; rfl) ?_ -- region 0
  refine E.seq ?_
  refine E.reg hr (by simp; rfl) ?_ -- region 1
  refine E.ret ?_
  exact pureK.ret rfl rfl (by simp) (by repeat first | exact sub_refl _ | refine sub_cons rfl ?_)
def g63 (args : List Value) (H : Heap) (n : Nat) : R := match args with
  | [.agg ⟨[.int .i64 _, .int .i64 _, .int .i64 _, .int .i64 _, .int .i64 f]⟩] => some (iv (IntKind.i64.wrap (f + 1)), H, n)
  | _ => none
theorem ok63 : EntOk Try.prog (63, g63) := by
  intro args H n v H' n' h
  simp only [g63] at h
  split at h
  · injection h with h; injection h with e1 e2; injection e2 with e2 e3; subst e1 e2 e3
    exact AC.liftP rfl (Part.plain (by simp) [] (by simp [Seen]) gsz ⟨_, _, w63 _ _ _ _ _⟩)
  · cases h
def g79 (args : List Value) (H : Heap) (n : Nat) : R := match args with
  | [.agg ⟨[.int .i64 r, .int .i64 s, .int .i64 l, .int .i64 c, .int .i64 f, .int .i64 x, .int .i64 y, .int .i64 dx, .int .i64 dy, .int .i64 t, .slice _ _ _]⟩, .int .i64 k] => some (.agg ⟨[iv (plX ⟨r, s, l, c, f, x, y, dx, dy, t⟩ k), iv (plY ⟨r, s, l, c, f, x, y, dx, dy, t⟩ k)]⟩, H, n)
  | _ => none
theorem ok79 : EntOk Try.prog (79, g79) := by
  intro args H n v H' n' h
  simp only [g79] at h
  split at h
  · injection h with h; injection h with e1 e2; injection e2 with e2 e3; subst e1 e2 e3
    exact w79 ⟨_, _, _, _, _, _, _, _, _, _⟩ _ _ _ _
  · cases h
end Go.Proofs.Ytljglocehbccnaa

namespace Go.Proofs.Ytljglocehbccnaa
open Go Go.Ab Go.Proofs
set_option maxRecDepth 20000
theorem eqp23 (a b c d : Int) : runP Try.prog (Op.equalIn 10000 23 (.agg #[iv a, iv b]) (.agg #[iv c, iv d])) = some (decide (a = c) && decide (b = d)) := by
  have h := runS_eq (P := Try.prog) 9999 (t := 23) #[iv a, iv b] #[iv c, iv d] (fun f => if f.offset = 0 then a == c else b == d) Try.underlying23 (by kernel_rfl) fun f hf => ?_
  · rw [h]
    simp
    rfl
  · simp at hf
    rcases hf with rfl | rfl
    · exact ⟨by decide, iv a, iv c, by kernel_rfl, by kernel_rfl, runS_int 9998 a c Try.underlying3⟩
    · exact ⟨by decide, iv b, iv d, by kernel_rfl, by kernel_rfl, runS_int 9998 b d Try.underlying3⟩
theorem eq23 {x y : Operand} {H : Heap} {n : Nat} {a b c d : Int} : binV Try.prog .eql 23 x y (.agg #[iv a, iv b]) (.agg #[iv c, iv d]) H n = some (.bool (decide (a = c) && decide (b = d)), H, n) := by
  have h : runP Try.prog (do eqGuard .eql 23 x y (.agg #[iv a, iv b]) (.agg #[iv c, iv d]); binOp .eql 23 (.agg #[iv a, iv b]) (.agg #[iv c, iv d])) = some (.bool (decide (a = c) && decide (b = d))) := by
    rw [runS_bind]
    have h1 : runP Try.prog (eqGuard .eql 23 x y (.agg #[iv a, iv b]) (.agg #[iv c, iv d])) = some () := by kernel_rfl
    rw [h1, Option.bind_some]
    show runP Try.prog (Op.equalIn 10000 23 (.agg #[iv a, iv b]) (.agg #[iv c, iv d]) >>= fun b => pure (Value.bool b)) = _
    rw [runS_bind, eqp23]
    rfl
  have ha : ∀ a b : Int, afq (.agg #[iv a, iv b]) = true := fun _ _ => rfl
  unfold binV
  rw [ha, ha, h]
  rfl
theorem w62 {H : Heap} {n : Nat} (b : Brg) (q : Sg) (t : Int) (oa : Option Addr) (L c : Nat) : AC Try.prog 62 [b.val (.slice oa L c), .agg ⟨[iv q.tk, iv q.x, iv q.y]⟩, iv t] H n (.bool (nearV b q t)) H n := by
  refine AC.given fun hold _ _ => AC.tidied (B := []) (by simp) ?_
  have hr := recT_ok (P := Try.prog) (l := [(79, g79)]) (by simp [ok79])
  unfold nearV Brg.val
  obtain ⟨X, hX⟩ : ∃ X, plX b t = X := ⟨_, rfl⟩
  obtain ⟨Y, hY⟩ : ∃ Y, plY b t = Y := ⟨_, rfl⟩
  rw [hX, hY]
  obtain ⟨A, hA⟩ : ∃ A, IntKind.i64.wrap (t - q.tk) = A := ⟨_, rfl⟩
  rw [hA]
  have hg : ∀ (H : Heap) (n : Nat), g79 [.agg ⟨[iv b.r, iv b.s, iv b.l, iv b.c, iv b.f, iv b.x, iv b.y, iv b.dx, iv b.dy, iv b.t, .slice oa L c]⟩, iv t] H n = some (.agg ⟨[iv X, iv Y]⟩, H, n) := fun H n => by subst hX; subst hY; rfl
  refine AC.pure Try.func62 rfl (by kernel_rfl) rfl [6, 11, 10, 9, 31, 8, 24, 3, 7, 4, 2, 1, 0] rfl ?_
  refine E.seq ?_
  refine E.reg hr (by simp [Value.cells]; rfl) ?_ -- region 0
  refine E.seq ?_
  refine E.reg hr (by simp [hA]; rfl) ?_ -- region 1
  refine E.seq ?_
  refine E.seq ?_
  by_cases h1 : A < 0 ∨ b.l < A
  · have hc : (decide (A < 0) || decide (b.l < A)) = true := by simpa using h1
    rw [if_pos h1]
    by_cases h2 : A < 0
    · refine E.reg hr (by simp [h2, yieldedA, undefV]; rfl) ?_ -- region 2
      refine E.cond (t := true) (by simp) (fun _ => ?_) (fun h => by cases h)
      refine E.seq ?_
      refine E.reg hr (by simp; rfl) ?_ -- region 3
      refine E.ret ?_
      exact pureK.ret rfl rfl (by simp) (by repeat first | exact Sub.refl _ | refine Sub.cons (by simp) ?_)
    · have h3 : b.l < A := by omega
      refine E.reg hr (by simp [h2, h3, yieldedA]; rfl) ?_ -- region 2
      refine E.cond (t := true) (by simp) (fun _ => ?_) (fun h => by cases h)
      refine E.seq ?_
      refine E.reg hr (by simp; rfl) ?_ -- region 3
      refine E.ret ?_
      exact pureK.ret rfl rfl (by simp) (by repeat first | exact Sub.refl _ | refine Sub.cons (by simp) ?_)
  · have h2 : ¬ A < 0 := by omega
    have h3 : ¬ b.l < A := by omega
    rw [if_neg h1]
    refine E.reg hr (by simp [h2, h3, yieldedA]; rfl) ?_ -- region 2
    refine E.cond (t := false) (by simp) (fun h => by cases h) (fun _ => ?_)
    refine E.skip ?_
    refine E.seq ?_
    refine E.reg hr (by simp [Value.cells, hg]; rfl) ?_ -- region 4
    refine E.seq ?_
    refine E.seq ?_
    by_cases h4 : X = q.x ∧ Y = q.y
    · rw [if_pos h4]
      refine E.reg hr (by simp [eq23, h4.1, h4.2]; rfl) ?_ -- region 5
      refine E.cond (t := true) (by simp) (fun _ => ?_) (fun h => by cases h)
      refine E.seq ?_
      refine E.reg hr (by simp; rfl) ?_ -- region 6
      refine E.ret ?_
      exact pureK.ret rfl rfl (by simp) (by repeat first | exact Sub.refl _ | refine Sub.cons (by simp) ?_)
    · rw [if_neg h4]
      have h5 : (decide (X = q.x) && decide (Y = q.y)) = false := by simpa using h4
      refine E.reg hr (by simp [-Bool.and_eq_false_imp, eq23, h5]; rfl) ?_ -- region 5
      refine E.cond (t := false) (by simp) (fun h => by cases h) (fun _ => ?_)
      refine E.skip ?_
      refine E.seq ?_
      have n1 : ¬ n = n + 1 + 1 := by omega
      have n2 : ¬ n + 1 = n + 1 + 1 := by omega
      have n3 : ¬ n = n + 1 := by omega
      have n4 : ¬ n + 1 + 1 = n := by omega
      have n5 : ¬ n + 1 + 1 = n + 1 := by omega
      have n6 : ¬ n + 1 = n := by omega
      refine E.drawU mixed hr [] [] [1, 4, 7, 10, 14, 17] (by kernel_rfl) (by simp [n1, n4]; rfl) ?_ -- region 7
      refine E.seq ?_
      refine E.reg hr (by simp; rfl) ?_ -- region 8
      refine E.ret ?_
      exact pureK.ret rfl rfl (by simp [insR]) (by repeat first | exact Sub.refl _ | refine Sub.cons (by simp) ?_)
end Go.Proofs.Ytljglocehbccnaa
