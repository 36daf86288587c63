/-
The walks of a bubble: its pulses, visited by ranging over a function, and its samples (each a contract: no condition but those in its statement).
-/
import Derived.Test.YtndlfijfjglkdaaGreatDoorGc
import Derived.Test.YtndlfijfjglkdaaGreatDoorGa
namespace Go.Ab
open Go
theorem AC.liftM {P : Program} {f : FuncId} {H : Heap} {n b : Nat} {cs cs' : List Value} {t : TypeId} (mk : Value → List Value) (hmk : ∀ φ φ0 s s0, den φ0 s0 = den φ s → denL φ0 (mk s0) = denL φ (mk s)) (hms : ∀ (p : Nat → Prop) s, sc p s → scL p (mk s))
    (hb : hget H b = some (.cells cs t)) (haf : afL cs = true) (haf' : afL cs' = true) {len cap N n1 : Nat} {H1 : Heap} {v : Value} (hN : P.globals.size = N) (hv : af v = true)
    (hAC : AC P f (mk (.slice (some ⟨N, 0, none⟩) len cap)) [(N, .cells cs t)] (N + 1) v H1 n1) (h1 : hget H1 N = some (.cells cs' t)) : AC P f (mk (.slice (some ⟨b, 0, none⟩) len cap)) H n v (hset H b (.cells cs' t)) n := by
  intro p φ w hB hsc
  have hpb := (hB.sm b _ hb).1
  let φ0 : Vl := ⟨fun k => if k < N then φ.loc k else φ.loc b, fun k => if k < N then φ.cap k else 0⟩
  have hl : φ0.loc N = φ.loc b := by simp [φ0]
  have h0 : ∀ k x, hget [(N, Blk.cells cs t)] k = some x → k = N ∧ x = .cells cs t := fun k x hk => by
    rw [hget_cons] at hk
    by_cases e : N = k
    · rw [if_pos e] at hk; injection hk with hk; exact ⟨e.symm, hk.symm⟩
    · rw [if_neg e] at hk; simp [hget] at hk
  have hB0 : Base P (· < N + 1) φ0 (N + 1) (hget [(N, Blk.cells cs t)]) w [] act0 := by
    refine ⟨⟨fun k x hk => ?_, fun k x k' x' h1 h2 hne _ => ?_, fun g hg => ?_⟩, fun _ h => h, fun g hg => ?_, by omega, fun k x hk => ?_, fun t v hv => by simp [lk] at hv, fun t v hv => by simp [lk] at hv⟩
    · obtain ⟨rfl, rfl⟩ := h0 k x hk
      rw [hl]
      have := hB.rel.blk b _ hb
      simp only [BRel, denL_af _ _ haf] at this ⊢
      exact this
    · exact absurd ((h0 k x h1).1.trans (h0 k' x' h2).1.symm) hne
    · simp only [φ0]; rw [if_pos (by omega)]; exact hB.rel.glob g hg
    · show g < N + 1; omega
    · obtain ⟨rfl, rfl⟩ := h0 k x hk
      exact ⟨Nat.lt_succ_self _, scL_af _ _ haf⟩
  have hgs : ∀ k x, hget (hset H b (.cells cs' t)) k = some x → (k = b ∧ x = .cells cs' t) ∨ (k ≠ b ∧ hget H k = some x) := fun k x hk => by
    rw [hget_hset] at hk
    by_cases e : b = k
    · rw [if_pos e, hb] at hk; simp at hk; exact .inl ⟨e.symm, hk.symm⟩
    · rw [if_neg e] at hk; exact .inr ⟨fun h => e h.symm, hk⟩
  have hdn : denL φ0 (mk (.slice (some ⟨N, 0, none⟩) len cap)) = denL φ (mk (.slice (some ⟨b, 0, none⟩) len cap)) := hmk _ _ _ _ (by simp [den, hl])
  refine hAC.map hB0 (hms _ _ (show N < N + 1 by omega)) hdn fun φ' w' hd => ⟨φ, by rw [den_af _ _ hv, den_af _ _ hv], ?_⟩
  obtain ⟨_, _, hst⟩ := hd
  have hloc : φ'.loc N = φ.loc b := by rw [(hst.only N (.inl (by omega))).1, hl]
  have hkeep : ∀ i, i < w.heap.size → φ.loc b ≠ i → w'.heap[i]? = w.heap[i]? := fun i hi hne => hst.frm.keep i hi fun k x hk _ => by
    obtain ⟨rfl, rfl⟩ := h0 k x hk
    rw [hl]; exact hne
  have hold : ∀ k x, hget (hset H b (.cells cs' t)) k = some x → ∃ x0, hget H k = some x0 ∧ x0.own = x.own := fun k x hk => by
    rcases hgs k x hk with ⟨rfl, rfl⟩ | ⟨_, h⟩
    · exact ⟨_, hb, rfl⟩
    · exact ⟨x, h, rfl⟩
  refine ⟨fun k x hk => ?_, sc_af _ _ hv, Nat.le_refl _, fun _ _ => ⟨rfl, rfl⟩, ⟨fun k x hk => ?_, fun k x k' x' g1 g2 hne ho => ?_, hB.rel.glob⟩, fun k x hk ho => ?_, fun k x hk ho => ?_, ⟨hst.frm.os, hst.frm.tape, hst.frm.output, hst.frm.size, fun i hi hf => hkeep i hi (hf b _ hb rfl)⟩⟩
  · rcases hgs k x hk with ⟨rfl, rfl⟩ | ⟨_, h⟩
    · exact ⟨.inl hpb, scL_af _ _ haf'⟩
    · exact ⟨.inl (hB.sm k x h).1, scB_mono (fun _ h => .inl h) _ (hB.sm k x h).2⟩
  · rcases hgs k x hk with ⟨rfl, rfl⟩ | ⟨hne, h⟩
    · have := hst.rel.blk N _ h1
      rw [hloc] at this
      simp only [BRel, denL_af _ _ haf'] at this ⊢
      exact this
    · rw [hkeep _ (hB.rel.lt h) (hB.rel.apart b _ k x hb h (fun e => hne e.symm) rfl)]
      exact hB.rel.blk k x h
  · obtain ⟨x0, e1, e2⟩ := hold k x g1
    obtain ⟨x1, e3, _⟩ := hold k' x' g2
    exact hB.rel.apart k x0 k' x1 e1 e3 hne (e2.trans ho)
  · obtain ⟨x0, e1, e2⟩ := hold k x hk
    exact .inr ⟨k, x0, e1, e2.trans ho, rfl⟩
  · rcases hgs k x hk with ⟨rfl, rfl⟩ | ⟨_, h⟩
    · cases ho
    · exact h
theorem rangeF_of {P : Program} {r : Rec} {f : Operand} {ps : Array Tmp} {x y : Code} {st : St} {g : FuncId} {first captured : Array Value} {v : Value} {H' : Heap} {k : Nat} {fr : Fr} {sz : Nat} {vs : List Nat} {d : Nat} {a b : Code}
    (hf : evO P st.fr f = some (.func (.func g) first captured)) (he : enterable P g = true)
    (hc : r.call g (first.toList ++ [.func (.yield (st.n + 1)) #[] #[]] ++ captured.toList) ((st.n + 1, .loop .ready none st.fr st.sz st.vs ps x y st.n) :: (st.n, .defd) :: st.H) (st.n + 2) = some (v, H', k))
    (hl : hget H' (st.n + 1) = some (.loop .ready none fr sz vs ps a b d)) :
    rangeF P r none f ps x y st = some (.normal, { st with H := hset H' (st.n + 1) (.loop .exhausted none fr sz vs ps a b d), n := k, marks := st.n :: st.marks }) := by
  unfold rangeF
  rw [hf]
  simp only [he, hc, hl]
  rfl
theorem E.range {P : Program} {n0 : Nat} {r : Rec} {m : Nat} (hr : RecOk P r m) {ro : Option Nat} {f : Operand} {ps : Array Tmp} {x y : Code} {st st' : St} {e : Ex} {K : Ex → St → Prop} (h : rangeF P r ro f ps x y st = some (e, st')) (k : K e st') : E P n0 ro (.rangeFunc f ps x y) st K := .at (rangeF_ok hr h) k
end Go.Ab

namespace Go.Proofs.YtndlfijfjglkdaaGreatDoor
open Go Go.Ab Go.Proofs
/-- a result that is a new slice of integers -/
def intsQ (l : List Int) (v : Value) (H : Heap) : Prop := if l = [] then v = .slice none 0 0 else ∃ m, v = .slice (some ⟨m, 0, some 0⟩) l.length 0 ∧ hget H m = some (.ext (l.map iv) 3 1) ∧ 10 ≤ m
def fltsQ (l : List Nat) (v : Value) (H : Heap) : Prop := if l = [] then v = .slice none 0 0 else ∃ m, v = .slice (some ⟨m, 0, some 0⟩) l.length 0 ∧ hget H m = some (.ext (l.map fv) 98 1) ∧ 11 ≤ m
def bubR (v s : Int) (n : Nat) : List Int := rl (fun i : Nat => pulseV v s i) n
@[simp] theorem bubR_length (v s : Int) (n : Nat) : (bubR v s n).length = n := by simp [bubR]
theorem bubR_succ (v s : Int) (n : Nat) : bubR v s (n + 1) = bubR v s n ++ [pulseV v s n] := rl_succ _ _
def S39 (v s w : Int) : Nat → St
  | 0 => { fr := [(0, iv v), (1, iv s), (2, iv w), (7, .slice none 0 0), (8, iv 0)], sz := 22, H := [], n := 10, marks := [], vs := [0, 1, 2, 7, 8] }
  | i + 1 => { fr := [(0, iv v), (1, iv s), (2, iv w), (7, .slice (some ⟨10, 0, some 0⟩) (i + 1) 0), (8, iv (i + 1 : Nat))], sz := 22, H := [(10, .ext ((bubR v s (i + 1)).map iv) 3 1)], n := 11, marks := [], vs := [0, 1, 2, 7, 8] }
set_option maxRecDepth 20000 in
theorem w39 (v s w : Int) (h1 : 1 ≤ w) (h64 : w ≤ 4096) : ∃ u H1 n1 H2, AC Tryz.prog 39 [iv v, iv s, iv w] [] 10 u H1 n1 ∧ intsQ (bubR v s w.toNat) u H2 ∧ (af u = false → H1 = H2) := by
  have hr := recT_ok (P := Tryz.prog) (l := [(130, g3 pulseV)]) (by simp only [List.forall_mem_cons]; exact ⟨ok130, by simp⟩)
  refine AC.out Tryz.func39 rfl (by kernel_rfl) rfl [0, 1, 2, 7, 8] ?_
  refine E.seq ?_
  refine E.reg hr (by simp; rfl) ?_
  refine E.seq ?_
  refine E.reg hr (by simp; rfl) ?_
  refine E.seq ?_
  refine E.seq ?_
  refine E.reg hr (by simp; rfl) ?_
  refine E.block ?_
  refine E.loop ?_
  refine EL.ind (S39 v s w) (fun i => w.toNat - i) (fun i => i ≤ w.toNat) 0 (.less rfl rfl rfl (by simp [S39]) (by simp [S39])) (Nat.zero_le _) (fun i => by cases i <;> rfl) ?_
  intro i hi
  rcases i with _ | i
  · have hw : IntKind.i64.wrap 1 = 1 := W_in (by omega) (by omega)
    refine E.seq ?_
    refine E.seq ?_
    refine E.reg hr (by simp [S39]; rfl) ?_
    refine E.cond (by rfl) (fun h => ?_) (fun h => ?_)
    · refine E.skip ?_
      refine E.seq ?_
      refine E.block ?_
      refine E.reg hr (by simp; rfl) ?_
      refine E.reg hr (by simp [hw]; rfl) ?_
      exact ⟨1, Leads.ren [11] rfl rfl rfl ⟨rfl, rfl⟩ (by simp [S39]) (by simp [S39, bubR, rl]), by omega, by dsimp only; omega⟩
    · simp at h; omega
  · have hw : IntKind.i64.wrap ((i : Int) + 1 + 1) = (i : Int) + 1 + 1 := W_in (by omega) (by omega)
    have ht : List.take (i + 1) ((bubR v s (i + 1)).map iv) = (bubR v s (i + 1)).map iv := List.take_of_length_le (by simp)
    have hts : (bubR v s (i + 1 + 1)).map iv = (bubR v s (i + 1)).map iv ++ [iv (pulseV v s (i + 1 : Nat))] := by rw [bubR_succ, List.map_append]; rfl
    refine E.seq ?_
    refine E.seq ?_
    refine E.reg hr (by simp [S39]; rfl) ?_
    refine E.cond (by rfl) (fun h => ?_) (fun h => ?_)
    · simp at h
      have hsm : (i + 1 + 1) * 8 ≤ 1099511627776 ∧ i + 1 + 1 ≤ 1099511627776 := by omega
      refine E.skip ?_
      refine E.seq ?_
      refine E.block ?_
      refine E.reg hr (by simp [hsm, ht]; rfl) ?_
      refine E.reg hr (by simp [hw]; rfl) ?_
      exact ⟨i + 2, Leads.ren [12] rfl rfl rfl ⟨rfl, rfl⟩ (by simp [S39]) (by simp [S39, hts]), by omega, by dsimp only; omega⟩
    · simp at h
      have hwi : w.toNat = i + 1 := by omega
      refine E.exit ?_
      refine E.seq ?_
      refine E.reg hr (by simp; rfl) ?_
      refine E.ret ?_
      refine outK.ret rfl rfl ?_
      have hne : bubR v s (i + 1) ≠ [] := fun e => by have := congrArg List.length e; simp at this
      simp [intsQ, hwi, hne]
end Go.Proofs.YtndlfijfjglkdaaGreatDoor

namespace Go.Proofs.YtndlfijfjglkdaaGreatDoor
open Go Go.Ab Go.Proofs
attribute [simp] run_vcall_tmp vcallF target
@[simp] theorem cv98 (n : Int) : runP Tryz.prog (convert 3 98 (.int .i64 n)) = some (.float .f32 (FloatKind.f32.nearest n)) := by kernel_rfl
theorem bin_samp {n : Int} {P : Program} {t : TypeId} {x y : Operand} {H : Heap} {k : Nat} (h : sampQ n = some (sampB n)) : binV P .quo t x y (.float .f32 (FloatKind.f32.nearest n)) (.float .f32 1098907648) H k = some (fv (sampB n), H, k) := by
  have : runP P (do eqGuard .quo t x y (.float .f32 (FloatKind.f32.nearest n)) (.float .f32 1098907648); binOp .quo t (.float .f32 (FloatKind.f32.nearest n)) (.float .f32 1098907648)) = some (fv (sampB n)) := by
    show runP P (match sampQ n with | some r => pure (Value.float .f32 r) | none => do pure (Value.float .f32 (← choose (.nanBits .f32 (FloatKind.f32.nearest n) 1098907648)))) = _
    rw [h]; rfl
  simp [binV, this]
@[simp] theorem bin_fneq {P : Program} {t : TypeId} {x y : Operand} {H : Heap} {k : Nat} {a b : Nat} : binV P .neq t x y (.float .f32 a) (.float .f32 b) H k = some (.bool (FloatKind.f32.format.order a b != some .eq), H, k) := rfl
theorem w88 (n : Int) (h : sampQ n = some (sampB n)) : AC Tryz.prog 88 [iv n] [] 10 (fv (sampB n)) [] 10 := by
  have hr := recT_ok (P := Tryz.prog) (l := []) (by simp)
  refine AC.pure Tryz.func88 rfl (by kernel_rfl) rfl [] rfl ?_
  refine E.seq ?_
  refine E.reg hr (by simp; rfl) ?_
  refine E.seq ?_
  refine E.reg hr (by simp [opConvert, bin_samp h]; rfl) ?_
  refine E.ret ?_
  exact pureK.ret rfl rfl (by simp) (sub_refl _)
theorem w195 (n : Int) (h : sampQ n = some (sampB n)) : AC Tryz.prog 195 [iv n] [] 10 (fv (sampB n)) [] 10 := by
  have hr := recT_ok (P := Tryz.prog) (l := []) (by simp)
  refine AC.pure Tryz.func195 rfl (by kernel_rfl) rfl [] rfl ?_
  refine E.seq ?_
  refine E.reg hr (by simp; rfl) ?_
  refine E.seq ?_
  refine E.reg hr (by simp [opConvert, bin_samp h]; rfl) ?_
  refine E.ret ?_
  exact pureK.ret rfl rfl (by simp) (sub_refl _)
def gSamp (args : List Value) (H : Heap) (n : Nat) : R := match args with
  | [.int .i64 a] => if -4096 ≤ a ∧ a ≤ 4096 then some (fv (sampB a), H, n) else none
  | _ => none
theorem okSamp {f : FuncId} (h : ∀ a, sampQ a = some (sampB a) → AC Tryz.prog f [iv a] [] 10 (fv (sampB a)) [] 10) : EntOk Tryz.prog (f, gSamp) := by
  intro args H n v H' n' h'
  simp only [gSamp] at h'
  split at h'
  · split at h'
    · rename_i hb
      injection h' with h'; injection h' with e1 e2; injection e2 with e2 e3; subst e1 e2 e3
      exact AC.liftP rfl (Part.plain (by simp) [] (by simp [Seen]) gsz ⟨_, _, h _ (samp_ok hb.1 hb.2).1⟩)
    · cases h'
  · cases h'
theorem ok88 : EntOk Tryz.prog (88, gSamp) := okSamp w88
theorem ok195 : EntOk Tryz.prog (195, gSamp) := okSamp w195
def fltsOf : List Value → Option (List Nat)
  | [] => some []
  | .float .f32 n :: vs => (fltsOf vs).map (n :: ·)
  | _ => none
theorem fltsOf_ok : ∀ (cs : List Value) (l : List Nat), fltsOf cs = some l → cs = l.map fv
  | [], l, h => by simp [fltsOf] at h; subst h; rfl
  | c :: cs, l, h => by
    unfold fltsOf at h
    split at h
    · rename_i h1; cases h1
    · rename_i n vs h1
      injection h1 with h1 h2; subst h1 h2
      rw [Option.map_eq_some_iff] at h
      obtain ⟨l', h2, h3⟩ := h
      subst h3
      rw [fltsOf_ok _ _ h2]; rfl
    · cases h
theorem fltsOf_fv : ∀ l : List Nat, fltsOf (l.map fv) = some l
  | [] => rfl
  | x :: l => by simp [fltsOf, fltsOf_fv l]
def fltsAt (H : Heap) (a : Addr) (len : Nat) : Option (List Nat) := if flat a && Nat.blt len 2147483648 then (cellsA H a.block a.off len).bind fltsOf else none
theorem fltsAt_ok {H : Heap} {a : Addr} {len : Nat} {l : List Nat} (h : fltsAt H a len = some l) : flat a = true ∧ cellsA H a.block a.off len = some (l.map fv) ∧ l.length = len ∧ l.length < 2 ^ 31 := by
  unfold fltsAt at h
  split at h
  · rename_i hf
    rw [Bool.and_eq_true] at hf
    rw [Option.bind_eq_some_iff] at h
    obtain ⟨cs, h1, h2⟩ := h
    have h3 := fltsOf_ok _ _ h2
    subst h3
    have h4 := (cellsA_at h1).1
    rw [List.length_map] at h4
    exact ⟨hf.1, h1, h4, by have := (blt_iff _ _).1 hf.2; omega⟩
  · cases h
theorem fltsAt_fv {H : Heap} {a : Addr} {len : Nat} {l : List Nat} (hf : flat a = true) (h : cellsA H a.block a.off len = some (l.map fv)) (hlt : len < 2147483648) : fltsAt H a len = some l := by
  unfold fltsAt
  rw [hf, h]
  simp [hlt, fltsOf_fv]
def S131 (l : List Int) (o c : Nat) : Nat → St
  | 0 => { fr := [(0, .slice (some ⟨10, o, none⟩) l.length c), (3, .slice none 0 0), (4, iv 0)], sz := 20, H := [(10, .inp o (l.map iv))], n := 11, marks := [], vs := [0, 3, 4] }
  | i + 1 => { fr := [(0, .slice (some ⟨10, o, none⟩) l.length c), (3, .slice (some ⟨11, 0, some 0⟩) (i + 1) 0), (4, iv (i + 1 : Nat))], sz := 20, H := [(11, .ext ((tk sampB l (i + 1)).map fv) 98 1), (10, .inp o (l.map iv))], n := 12, marks := [], vs := [0, 3, 4] }
set_option maxRecDepth 20000 in
theorem w131 (l : List Int) (o c : Nat) (hne : l ≠ []) (hl : l.length ≤ 4096) (hb : ∀ x ∈ l, -4096 ≤ x ∧ x ≤ 4096) : ∃ u H1 n1 H2, AC Tryz.prog 131 [.slice (some ⟨10, o, none⟩) l.length c] [(10, .inp o (l.map iv))] 11 u H1 n1 ∧ fltsQ (l.map sampB) u H2 ∧ (af u = false → H1 = H2) := by
  have hr := recT_ok (P := Tryz.prog) (l := [(88, gSamp)]) (by simp only [List.forall_mem_cons]; exact ⟨ok88, by simp⟩)
  have hpos : 0 < l.length := List.length_pos_iff.2 hne
  refine AC.out Tryz.func131 rfl (by kernel_rfl) rfl [0, 3, 4] ?_
  refine E.seq ?_
  refine E.reg hr (by simp; rfl) ?_
  refine E.seq ?_
  refine E.reg hr (by simp; rfl) ?_
  refine E.seq ?_
  refine E.seq ?_
  refine E.reg hr (by simp; rfl) ?_
  refine E.block ?_
  refine E.loop ?_
  refine EL.ind (S131 l o c) (fun i => l.length - i) (fun i => i ≤ l.length) 0 (.less rfl rfl rfl (by simp [S131]) (by simp [S131])) (Nat.zero_le _) (fun i => by cases i <;> rfl) ?_
  intro i hi
  rcases i with _ | i
  · have hw : IntKind.i64.wrap 1 = 1 := W_in (by omega) (by omega)
    refine E.seq ?_
    refine E.seq ?_
    refine E.reg hr (by simp [S131]; rfl) ?_
    refine E.cond (by rfl) (fun h => ?_) (fun h => ?_)
    · simp at h
      have hx := hb l[0] (List.getElem_mem hpos)
      have hts : (tk sampB l 1).map fv = [fv (sampB l[0])] := by rw [tk_succ sampB hpos]; rfl
      refine E.skip ?_
      refine E.seq ?_
      refine E.block ?_
      refine E.reg hr (by simp [gSamp, hx, hpos]; rfl) ?_
      refine E.reg hr (by simp [hw]; rfl) ?_
      exact ⟨1, Leads.ren [12] rfl rfl rfl ⟨rfl, rfl⟩ (by simp [S131]) (by simp [S131, hts]), by omega, by dsimp only; omega⟩
    · simp at h
      exact absurd h hne
  · have hw : IntKind.i64.wrap ((i : Int) + 1 + 1) = (i : Int) + 1 + 1 := W_in (by omega) (by omega)
    have hlen : (tk sampB l (i + 1)).length = i + 1 := tk_length _ (by omega)
    have ht : List.take (i + 1) ((tk sampB l (i + 1)).map fv) = (tk sampB l (i + 1)).map fv := List.take_of_length_le (by simp [hlen])
    refine E.seq ?_
    refine E.seq ?_
    refine E.reg hr (by simp [S131]; rfl) ?_
    refine E.cond (by rfl) (fun h => ?_) (fun h => ?_)
    · simp at h
      have hlt : i + 1 < l.length := by omega
      have hltI : (i : Int) + 1 < l.length := by omega
      have hx := hb l[i + 1] (List.getElem_mem hlt)
      have hts : (tk sampB l (i + 1 + 1)).map fv = (tk sampB l (i + 1)).map fv ++ [fv (sampB l[i + 1])] := by rw [tk_succ sampB hlt, List.map_append]; rfl
      have hsm : (i + 1 + 1) * 4 ≤ 1099511627776 ∧ i + 1 + 1 ≤ 1099511627776 := by omega
      refine E.skip ?_
      refine E.seq ?_
      refine E.block ?_
      refine E.reg hr (by simp [gSamp, hx, hlt, hltI, hsm, ht, hlen]; rfl) ?_
      refine E.reg hr (by simp [hw]; rfl) ?_
      exact ⟨i + 2, Leads.ren [13] rfl rfl rfl ⟨rfl, rfl⟩ (by simp [S131]) (by simp [S131, hts]), by omega, by dsimp only; omega⟩
    · simp at h
      have hal : tk sampB l (i + 1) = l.map sampB := tk_all _ (by omega)
      have hll : l.length = i + 1 := by omega
      refine E.exit ?_
      refine E.seq ?_
      refine E.reg hr (by simp; rfl) ?_
      refine E.ret ?_
      refine outK.ret rfl rfl ?_
      simp [fltsQ, hne, hal, hll]
def S194 (l : List Int) (o c : Nat) : Nat → St
  | 0 => { fr := [(1, .func (.func 195) #[] #[]), (8, .slice (some ⟨10, o, none⟩) l.length c), (9, iv l.length), (5, .slice none 0 0), (10, iv 0)], sz := 22, H := [(10, .inp o (l.map iv))], n := 11, marks := [], vs := [1, 8, 9, 5, 10] }
  | i + 1 => { fr := [(1, .func (.func 195) #[] #[]), (8, .slice (some ⟨10, o, none⟩) l.length c), (9, iv l.length), (5, .slice (some ⟨11, 0, some 0⟩) (i + 1) 0), (10, iv (i + 1 : Nat))], sz := 22, H := [(11, .ext ((tk sampB l (i + 1)).map fv) 98 1), (10, .inp o (l.map iv))], n := 12, marks := [], vs := [1, 8, 9, 5, 10] }
set_option maxRecDepth 20000 in
theorem w194 (l : List Int) (o c : Nat) (hne : l ≠ []) (hl : l.length ≤ 4096) (hb : ∀ x ∈ l, -4096 ≤ x ∧ x ≤ 4096) : ∃ u H1 n1 H2, AC Tryz.prog 194 [.slice (some ⟨10, o, none⟩) l.length c, .func (.func 195) #[] #[]] [(10, .inp o (l.map iv))] 11 u H1 n1 ∧ fltsQ (l.map sampB) u H2 ∧ (af u = false → H1 = H2) := by
  have hr := recT_ok (P := Tryz.prog) (l := [(195, gSamp)]) (by simp only [List.forall_mem_cons]; exact ⟨ok195, by simp⟩)
  have hpos : 0 < l.length := List.length_pos_iff.2 hne
  refine AC.out Tryz.func194 rfl (by kernel_rfl) rfl [1, 8, 9, 5, 10] ?_
  refine E.seq ?_
  refine E.reg hr (by simp; rfl) ?_
  refine E.seq ?_
  refine E.reg hr (by simp; rfl) ?_
  refine E.seq ?_
  refine E.seq ?_
  refine E.reg hr (by simp; rfl) ?_
  refine E.block ?_
  refine E.loop ?_
  refine EL.ind (S194 l o c) (fun i => l.length - i) (fun i => i ≤ l.length) 0 (.less rfl rfl rfl (by simp [S194]) (by simp [S194])) (Nat.zero_le _) (fun i => by cases i <;> rfl) ?_
  intro i hi
  rcases i with _ | i
  · have hw : IntKind.i64.wrap 1 = 1 := W_in (by omega) (by omega)
    refine E.seq ?_
    refine E.reg hr (by simp [S194]; rfl) ?_
    refine E.seq ?_
    refine E.cond (by rfl) (fun h => ?_) (fun h => ?_)
    · simp at h
      have hx := hb l[0] (List.getElem_mem hpos)
      have hts : (tk sampB l 1).map fv = [fv (sampB l[0])] := by rw [tk_succ sampB hpos]; rfl
      refine E.skip ?_
      refine E.seq ?_
      refine E.block ?_
      refine E.seq ?_
      refine E.reg hr (by simp [hpos]; rfl) ?_
      refine E.reg hr (by simp [gSamp, hx]; rfl) ?_
      refine E.reg hr (by simp [hw]; rfl) ?_
      exact ⟨1, Leads.ren [12] rfl rfl rfl ⟨rfl, rfl⟩ (by simp [S194]) (by simp [S194, hts]), by omega, by dsimp only; omega⟩
    · simp at h
      exact absurd h hne
  · have hw : IntKind.i64.wrap ((i : Int) + 1 + 1) = (i : Int) + 1 + 1 := W_in (by omega) (by omega)
    have hlen : (tk sampB l (i + 1)).length = i + 1 := tk_length _ (by omega)
    have ht : List.take (i + 1) ((tk sampB l (i + 1)).map fv) = (tk sampB l (i + 1)).map fv := List.take_of_length_le (by simp [hlen])
    refine E.seq ?_
    refine E.reg hr (by simp [S194]; rfl) ?_
    refine E.seq ?_
    refine E.cond (by rfl) (fun h => ?_) (fun h => ?_)
    · simp at h
      have hlt : i + 1 < l.length := by omega
      have hltI : (i : Int) + 1 < l.length := by omega
      have hx := hb l[i + 1] (List.getElem_mem hlt)
      have hts : (tk sampB l (i + 1 + 1)).map fv = (tk sampB l (i + 1)).map fv ++ [fv (sampB l[i + 1])] := by rw [tk_succ sampB hlt, List.map_append]; rfl
      have hsm : (i + 1 + 1) * 4 ≤ 1099511627776 ∧ i + 1 + 1 ≤ 1099511627776 := by omega
      refine E.skip ?_
      refine E.seq ?_
      refine E.block ?_
      refine E.seq ?_
      refine E.reg hr (by simp [hlt, hltI]; rfl) ?_
      refine E.reg hr (by simp [gSamp, hx, hsm, ht, hlen]; rfl) ?_
      refine E.reg hr (by simp [hw]; rfl) ?_
      exact ⟨i + 2, Leads.ren [13] rfl rfl rfl ⟨rfl, rfl⟩ (by simp [S194]) (by simp [S194, hts]), by omega, by dsimp only; omega⟩
    · simp at h
      have hal : tk sampB l (i + 1) = l.map sampB := tk_all _ (by omega)
      have hll : l.length = i + 1 := by omega
      refine E.exit ?_
      refine E.seq ?_
      refine E.reg hr (by simp; rfl) ?_
      refine E.ret ?_
      refine outK.ret rfl rfl ?_
      simp [fltsQ, hne, hal, hll]
end Go.Proofs.YtndlfijfjglkdaaGreatDoor

namespace Go.Proofs.YtndlfijfjglkdaaGreatDoor
open Go Go.Ab Go.Proofs
theorem w56 (l : List Nat) (o o2 c c2 : Nat) (hl : l.length < 2 ^ 31) (hs : ∀ x ∈ l, FloatKind.f32.format.order x x = some .eq) : AC Tryz.prog 56 [.slice (some ⟨10, o, none⟩) l.length c, .slice (some ⟨11, o2, none⟩) l.length c2] [(11, .inp o2 (l.map fv)), (10, .inp o (l.map fv))] 12 (.bool true) [(11, .inp o2 (l.map fv)), (10, .inp o (l.map fv))] 12 := by
  have hr := recT_ok (P := Tryz.prog) (l := []) (by simp)
  refine AC.pure Tryz.func56 rfl (by kernel_rfl) rfl [0, 1, 5] rfl ?_
  refine E.seq ?_
  refine E.reg hr (by simp; rfl) ?_
  refine E.seq ?_
  refine E.seq ?_
  refine E.reg hr (by simp; rfl) ?_
  refine E.cond (by rfl) (fun h => ?_) (fun h => ?_)
  · simp at h
  · refine E.skip ?_
    refine E.seq ?_
    refine E.seq ?_
    refine E.reg hr (by simp; rfl) ?_
    refine E.block ?_
    refine E.loop ?_
    refine EL.ind (fun i : Nat => { fr := [(0, .slice (some ⟨10, o, none⟩) l.length c), (1, .slice (some ⟨11, o2, none⟩) l.length c2), (5, iv i)], sz := 26, H := [(11, .inp o2 (l.map fv)), (10, .inp o (l.map fv))], n := 12, marks := [], vs := [0, 1, 5] })
      (fun i => l.length - i) (fun i => i ≤ l.length) 0 (.less rfl rfl rfl (by simp) (by simp)) (Nat.zero_le _) (fun _ => rfl) ?_
    intro i hi
    have hw : IntKind.i64.wrap ((i : Int) + 1) = (i : Int) + 1 := W_in (by omega) (by omega)
    refine E.seq ?_
    refine E.seq ?_
    refine E.reg hr (by simp; rfl) ?_
    refine E.cond (by rfl) (fun h2 => ?_) (fun h2 => ?_)
    · simp at h2
      have ho := hs l[i] (List.getElem_mem h2)
      refine E.skip ?_
      refine E.seq ?_
      refine E.block ?_
      refine E.seq ?_
      refine E.drawS mixed hr [] (by kernel_rfl) (by simp [h2, ho]; rfl) ?_
      refine E.cond (by rfl) (fun h3 => ?_) (fun h3 => ?_)
      · simp at h3
      · refine E.skip ?_
        refine E.reg hr (by simp [hw]; rfl) ?_
        exact ⟨i + 1, .less rfl rfl rfl (by simp) (by simp), h2, by dsimp only; omega⟩
    · simp at h2
      refine E.exit ?_
      refine E.seq ?_
      refine E.reg hr (by simp; rfl) ?_
      refine E.ret ?_
      exact pureK.ret rfl rfl (by simp) (sub_refl _)
open Classical in
noncomputable def g56 (args : List Value) (H : Heap) (n : Nat) : R := match args with
  | [.slice (some a) len _, .slice (some b) len2 _] => match fltsAt H a len, fltsAt H b len2 with
    | some l, some k => if l = k ∧ ∀ x ∈ l, FloatKind.f32.format.order x x = some .eq then some (.bool true, H, n) else none
    | _, _ => none
  | _ => none
theorem ok56 : EntOk Tryz.prog (56, g56) := by
  intro args H n v H' n' h
  simp only [g56] at h
  split at h
  · rename_i a len c b len2 c2
    split at h
    · rename_i l k h1 h2
      split at h
      · rename_i hc
        obtain ⟨rfl, hs⟩ := hc
        injection h with h; injection h with e1 e2; injection e2 with e2 e3; subst e1 e2 e3
        obtain ⟨hf, hc, hlen, hlt⟩ := fltsAt_ok h1
        obtain ⟨hf2, hc2, hlen2, hlt2⟩ := fltsAt_ok h2
        subst hlen hlen2
        exact AC.liftP rfl (Part.two (fun s u => [s, u]) (by intro φ φ0 s s0 u u0 h h'; simp [denL, h, h']) (by intro p s u h h'; exact ⟨h, h', trivial⟩) hf hc (afL_fv l) hf2 hc2 (afL_fv l) [] (by simp [Seen]) gsz fun c c2 => ⟨_, _, w56 l _ _ c c2 hlt hs⟩)
      · cases h
    · cases h
  · cases h
/-- a new slice of samples, as a callee's answer -/
def gFlts (l : List Nat) (H : Heap) (n : Nat) : R := if l = [] then some (.slice none 0 0, H, n) else some (.slice (some ⟨n, 0, some 0⟩) l.length 0, (n, .ext (l.map fv) 98 1) :: H, n + 1)
theorem names_sl (l c : Nat) : Names1 fun m => .slice (some ⟨m, 0, some 0⟩) l c := ⟨fun φ ψ m n h1 h2 => by simp [den, h1, h2], fun p n h => by simp [sc, h]⟩
theorem okFlts1 {f : FuncId} {mk : Value → List Value} (hmk : ∀ φ φ0 s s0, den φ0 s0 = den φ s → denL φ0 (mk s0) = denL φ (mk s)) (hms : ∀ (p : Nat → Prop) s, sc p s → scL p (mk s)) {l : List Int} {r : List Nat}
    (hw : ∀ o c, ∃ u H1 n1 H2, AC Tryz.prog f (mk (.slice (some ⟨10, o, none⟩) l.length c)) [(10, .inp o (l.map iv))] 11 u H1 n1 ∧ fltsQ r u H2 ∧ (af u = false → H1 = H2))
    {H : Heap} {n : Nat} {a : Addr} {len cap : Nat} (h1 : intsAt H a len = some l) {v : Value} {H' : Heap} {n' : Nat} (h : gFlts r H n = some (v, H', n')) : AC Tryz.prog f (mk (.slice (some a) len cap)) H n v H' n' := by
  obtain ⟨hf, hc, hlen, hlt⟩ := intsAt_ok h1
  subst hlen
  unfold gFlts at h
  by_cases hr : r = []
  · rw [if_pos hr] at h
    injection h with h; injection h with e1 e2; injection e2 with e2 e3; subst e1 e2 e3
    refine AC.liftP rfl (Part.one mk hmk hms hf hc (afL_iv l) [] (by simp [Seen]) gsz fun c => ?_)
    obtain ⟨u, H1, n1, H2, hAC, hq, _⟩ := hw a.off c
    unfold fltsQ at hq
    rw [if_pos hr] at hq
    subst hq
    exact ⟨_, _, hAC⟩
  · rw [if_neg hr] at h
    injection h with h; injection h with e1 e2; injection e2 with e2 e3; subst e1 e2 e3
    refine AC.liftF (names_sl _ _) (.inr ⟨_, _, _, rfl, afL_fv r⟩) (Part.one mk hmk hms hf hc (afL_iv l) [] (by simp [Seen]) gsz fun c => ?_)
    obtain ⟨u, H1, n1, H2, hAC, hq, hh⟩ := hw a.off c
    unfold fltsQ at hq
    rw [if_neg hr] at hq
    obtain ⟨m, hv, hm, hle⟩ := hq
    subst hv
    have := hh rfl
    subst this
    exact ⟨m, _, _, hle, hm, hAC⟩
def sampAll (l : List Int) : Prop := l ≠ [] ∧ l.length ≤ 4096 ∧ ∀ x ∈ l, -4096 ≤ x ∧ x ≤ 4096
end Go.Proofs.YtndlfijfjglkdaaGreatDoor

namespace Go.Proofs.YtndlfijfjglkdaaGreatDoor
open Go Go.Ab Go.Proofs
theorem w32 (a e w : Int) (h1 : e ≠ 0 → a = 0) (h2 : e = 0 → a = w) : AC Tryz.prog 32 [iv a, iv e, iv e, iv w] [] 10 (.bool true) [] 10 := by
  have hr := recT_ok (P := Tryz.prog) (l := []) (by simp)
  refine AC.pure Tryz.func32 rfl (by kernel_rfl) rfl [] rfl ?_
  refine E.seq ?_
  refine E.reg hr (by simp; rfl) ?_
  refine E.seq ?_
  by_cases he : e = 0
  · have hw := h2 he
    refine E.reg hr (by simp [he, hw]; rfl) ?_
    refine E.ret ?_
    exact pureK.ret rfl rfl (by simp) (sub_refl _)
  · have hw := h1 he
    refine E.reg hr (by simp [he, hw]; rfl) ?_
    refine E.ret ?_
    exact pureK.ret rfl rfl (by simp) (sub_refl _)
def g32 (args : List Value) (H : Heap) (n : Nat) : R := match args with
  | [.int .i64 a, .int .i64 e, .int .i64 b, .int .i64 w] => if e = b ∧ (e ≠ 0 → a = 0) ∧ (e = 0 → a = w) then some (.bool true, H, n) else none
  | _ => none
theorem ok32 : EntOk Tryz.prog (32, g32) := by
  intro args H n v H' n' h
  simp only [g32] at h
  split at h
  · split at h
    · rename_i hc
      obtain ⟨rfl, h1, h2⟩ := hc
      injection h with h; injection h with e1 e2; injection e2 with e2 e3; subst e1 e2 e3
      exact AC.liftP rfl (Part.plain (by simp) [] (by simp [Seen]) gsz ⟨_, _, w32 _ _ _ h1 h2⟩)
    · cases h
  · cases h
end Go.Proofs.YtndlfijfjglkdaaGreatDoor

namespace Go.Proofs.YtndlfijfjglkdaaGreatDoor
open Go Go.Ab Go.Proofs
def bodyOf' (f : Func) : Code := match f.body with
  | some c => c
  | none => .skip
def rfOf : Code → Option (Code × Code)
  | .rangeFunc _ _ a b => some (a, b)
  | .seq a b => match rfOf a with
    | some x => some x
    | none => rfOf b
  | .block _ b => rfOf b
  | _ => none
noncomputable def asg128 : Code := match rfOf (bodyOf' Tryz.f128) with
  | some x => x.1
  | none => .skip
noncomputable def bdy128 : Code := match rfOf (bodyOf' Tryz.f128) with
  | some x => x.2
  | none => .skip
/-- what a pulse adds to a list -/
def addAt (l : List Int) (i h : Int) : List Int := if i < l.length then l.set i.toNat (IntKind.i64.wrap ((l[i.toNat]?).getD 0 + h)) else l
@[simp] theorem addAt_length (l : List Int) (i h : Int) : (addAt l i h).length = l.length := by unfold addAt; split <;> simp
abbrev fr128 (L c : Nat) (b v s : Int) : Fr := [(12, .func (.func 236) #[] #[.pointer (some ⟨13, 0, none⟩), .pointer (some ⟨14, 0, none⟩)]), (11, iv s), (10, iv v), (5, .pointer (some ⟨12, 0, none⟩)), (4, .pointer (some ⟨11, 0, none⟩)), (0, .slice (some ⟨10, 0, none⟩) L c), (1, iv b), (2, iv v), (3, iv s)]
noncomputable abbrev H128 (X : Heap) (ls : LoopState) (l : List Int) (L c : Nat) (b v s : Int) : Heap := X ++ [(16, .loop ls none (fr128 L c b v s) 30 [] #[13, 14] asg128 bdy128 15), (15, .defd), (14, .cells [iv s] 3), (13, .cells [iv v] 3), (12, .cells [iv b] 3), (11, .cells [.slice (some ⟨10, 0, none⟩) L c] 45), (10, .cells (l.map iv) 3)]
theorem yieldF_of {r : Rec} {l : Nat} {args : List Value} {H : Heap} {n : Nat} {fr : Fr} {sz : Nat} {vs : List Nat} {ps : Array Tmp} {a b : Code} {d : Nat} {s1 s2 : St}
    (h0 : hget H l = some (.loop .ready none fr sz vs ps a b d)) (hlen : (Nat.beq args.length ps.size && ps.toList.all (fun t => Nat.blt t sz)) = true)
    (h1 : r.code (some l) a { fr := (ps.toList.zip args).foldl (fun fr (t, v) => (t, v) :: fr) fr, sz, H, n, marks := [], vs } = some (.normal, s1)) (hl1 : hget s1.H l = some (.loop .ready none fr sz vs ps a b d))
    (h2 : r.code (some l) b { s1 with H := hset s1.H l (.loop .busy none fr sz vs ps a b d) } = some (.normal, s2)) (hl2 : hget s2.H l = some (.loop .busy none fr sz vs ps a b d)) :
    yieldF r l args H n = some (.bool true, hset s2.H l (.loop .ready none fr sz vs ps a b d), s2.n) := by
  unfold yieldF
  rw [h0]
  simp only [hlen, h1, hl1, h2, hl2]
  rfl
theorem E.toAT' {P : Program} {ro : Option Nat} {c : Code} {s s' : St} {e : Ex} (h : E P s.n ro c s fun e2 s2 => e2 = e ∧ s2.n = s'.n ∧ s2.sz = s'.sz ∧ s2.marks = s'.marks ∧ s2.H = s'.H) (hf : s'.fr = []) : AT P ro c s e s' := by
  obtain ⟨e2, s2, hx, rfl, h1, h2, h3, h4⟩ := h
  exact (ATX.at hx).cut h1 h2 h3 (fun t v hv => by rw [hf] at hv; simp at hv) (fun k b hk => by rw [h4]; exact hk)
open Classical in
noncomputable def r128 (s1 s2 : St) : Rec := recV Tryz.prog (fun _ c _ => match c with
  | .seq _ _ => some (.normal, s1)
  | .block _ _ => some (.normal, s2)
  | _ => none) (fun _ _ _ _ => none)
abbrev top128 (hs : List Int) : Heap := [(17, .cells (hs.map iv) 281)]
set_option maxRecDepth 100000 in
theorem yield128 (X : Heap) (hX : X = [] ∨ ∃ hs, X = top128 hs) (n : Nat) (_hn : 17 ≤ n) (l : List Int) (c : Nat) (b v s at' h : Int) (L : Nat) (hL : L = l.length) (_hl : l.length < 2 ^ 31) (hb : 0 ≤ b ∧ b ≤ 4096) (ha : 0 ≤ at' ∧ at' ≤ 4096) :
    ∃ r, RecOk Tryz.prog r 0 ∧ yieldF r 16 [iv at', iv h] (H128 X .ready l L c b v s) n = some (.bool true, H128 X .ready (addAt l (b + at') h) L c b v s, n) := by
  subst hL
  have hr := recT_ok (P := Tryz.prog) (l := []) (by simp)
  let s1 : St := { fr := (9, iv h) :: (8, iv at') :: (14, iv h) :: (13, iv at') :: fr128 l.length c b v s, sz := 30, H := H128 X .ready l l.length c b v s, n := n, marks := [], vs := [] }
  let s2 : St := { fr := [], sz := 30, H := H128 X .busy (addAt l (b + at') h) l.length c b v s, n := n, marks := [], vs := [] }
  refine ⟨r128 s1 s2, recV_ok, ?_⟩
  have hw : IntKind.i64.wrap (b + at') = b + at' := W_in (by omega) (by omega)
  have hA : AT Tryz.prog (some 16) asg128 { fr := (14, iv h) :: (13, iv at') :: fr128 l.length c b v s, sz := 30, H := H128 X .ready l l.length c b v s, n := n, marks := [], vs := [] } .normal s1 := by
    refine E.toAT ?_
    refine E.seq ?_
    refine E.reg hr (by simp; rfl) ?_
    refine E.reg hr (by simp; rfl) ?_
    exact ⟨rfl, rfl⟩
  have hB : AT Tryz.prog (some 16) bdy128 { s1 with H := H128 X .busy l l.length c b v s } .normal s2 := by
    refine E.toAT' ?_ rfl
    refine E.block ?_
    refine E.seq ?_
    rcases hX with rfl | ⟨hs, rfl⟩
    · refine E.reg hr (by simp [s1, hw]; rfl) ?_
      refine E.cond (by rfl) (fun h2 => ?_) (fun h2 => ?_)
      · simp at h2
        have hlt : (b + at').toNat < l.length := by omega
        have h0 : 0 ≤ b + at' := by omega
        refine E.reg hr (by simp [hw, h0, h2, hlt, show (b + at').toNat + 1 ≤ l.length by omega]; rfl) ?_
        refine ⟨rfl, rfl, rfl, rfl, ?_⟩
        simp only [s2, addAt, if_pos h2]
        simp [hlt]
        rw [List.set_eq_take_append_cons_drop, if_pos (by simpa using hlt)]
      · simp at h2
        refine E.skip ?_
        refine ⟨rfl, rfl, rfl, rfl, ?_⟩
        simp [s2, addAt, show ¬ (b + at' < l.length) by omega]
    · refine E.reg hr (by simp [s1, hw]; rfl) ?_
      refine E.cond (by rfl) (fun h2 => ?_) (fun h2 => ?_)
      · simp at h2
        have hlt : (b + at').toNat < l.length := by omega
        have h0 : 0 ≤ b + at' := by omega
        refine E.reg hr (by simp [hw, h0, h2, hlt, show (b + at').toNat + 1 ≤ l.length by omega]; rfl) ?_
        refine ⟨rfl, rfl, rfl, rfl, ?_⟩
        simp only [s2, addAt, if_pos h2]
        simp [hlt]
        rw [List.set_eq_take_append_cons_drop, if_pos (by simpa using hlt)]
      · simp at h2
        refine E.skip ?_
        refine ⟨rfl, rfl, rfl, rfl, ?_⟩
        simp [s2, addAt, show ¬ (b + at' < l.length) by omega]
  have hh : hset (H128 X .busy (addAt l (b + at') h) l.length c b v s) 16 (.loop .ready none (fr128 l.length c b v s) 30 [] #[13, 14] asg128 bdy128 15) = H128 X .ready (addAt l (b + at') h) l.length c b v s := by
    rcases hX with rfl | ⟨hs, rfl⟩ <;> simp
  have hg : ∀ st l', hget (H128 X st l' l.length c b v s) 16 = some (.loop st none (fr128 l.length c b v s) 30 [] #[13, 14] asg128 bdy128 15) := fun st l' => by
    rcases hX with rfl | ⟨hs, rfl⟩ <;> simp
  have hh2 : hset (H128 X .ready l l.length c b v s) 16 (.loop .busy none (fr128 l.length c b v s) 30 [] #[13, 14] asg128 bdy128 15) = H128 X .busy l l.length c b v s := by
    rcases hX with rfl | ⟨hs, rfl⟩ <;> simp
  rw [← hh]
  refine yieldF_of (s1 := s1) (s2 := s2) (hg _ _) rfl ?_ (hg _ _) ?_ (hg _ _)
  · exact recV_code (by intro b h; cases h) rfl hA
  · show (r128 s1 s2).code (some 16) bdy128 { s1 with H := hset (H128 X .ready l l.length c b v s) 16 _ } = _
    rw [hh2]
    exact recV_code (by intro b h; cases h) rfl hB
end Go.Proofs.YtndlfijfjglkdaaGreatDoor

namespace Go.Proofs.YtndlfijfjglkdaaGreatDoor
open Go Go.Ab Go.Proofs
open Classical in
noncomputable def g131 (args : List Value) (H : Heap) (n : Nat) : R := match args with
  | [.slice (some a) len _] => match intsAt H a len with
    | some l => if sampAll l then gFlts (l.map sampB) H n else none
    | none => none
  | _ => none
theorem ok131 : EntOk Tryz.prog (131, g131) := by
  intro args H n v H' n' h
  simp only [g131] at h
  split at h
  · split at h
    · rename_i l h1
      split at h
      · rename_i hs
        exact okFlts1 (mk := fun s => [s]) (by intro φ φ0 s s0 h; simp [denL, h]) (by intro p s h; exact ⟨h, trivial⟩) (fun o c => w131 l o c hs.1 hs.2.1 hs.2.2) h1 h
      · cases h
    · cases h
  · cases h
open Classical in
noncomputable def g194 (args : List Value) (H : Heap) (n : Nat) : R := match args with
  | [.slice (some a) len _, .func (.func 195) ⟨[]⟩ ⟨[]⟩] => match intsAt H a len with
    | some l => if sampAll l then gFlts (l.map sampB) H n else none
    | none => none
  | _ => none
theorem ok194 : EntOk Tryz.prog (194, g194) := by
  intro args H n v H' n' h
  simp only [g194] at h
  split at h
  · split at h
    · rename_i l h1
      split at h
      · rename_i hs
        exact okFlts1 (mk := fun s => [s, .func (.func 195) #[] #[]]) (by intro φ φ0 s s0 h; simp [denL, den, h]) (by intro p s h; exact ⟨h, ⟨trivial, trivial⟩, trivial⟩) (fun o c => w194 l o c hs.1 hs.2.1 hs.2.2) h1 h
      · cases h
    · cases h
  · cases h
theorem w129 (l : List Int) (o c : Nat) (hs : sampAll l) : ∃ u H1 n1 H2, AC Tryz.prog 129 [.slice (some ⟨10, o, none⟩) l.length c] [(10, .inp o (l.map iv))] 11 u H1 n1 ∧ fltsQ (l.map sampB) u H2 ∧ (af u = false → H1 = H2) := by
  have hr := recT_ok (P := Tryz.prog) (l := [(194, g194)]) (by simp only [List.forall_mem_cons]; exact ⟨ok194, by simp⟩)
  have hlt : l.length < 2147483648 := by have := hs.2.1; omega
  have ht : List.take l.length (l.map iv) = l.map iv := List.take_of_length_le (by simp)
  have hne : l.map sampB ≠ [] := by simp [hs.1]
  refine AC.out Tryz.func129 rfl (by kernel_rfl) rfl [] ?_
  refine E.seq ?_
  refine E.reg hr (by simp; rfl) ?_
  refine E.seq ?_
  refine E.reg hr (by simp [g194, intsAt, hlt, ht, intsOf_iv, hs, gFlts, hne]; rfl) ?_
  refine E.ret ?_
  refine outK.ret rfl rfl ?_
  simp [fltsQ, hne]
open Classical in
noncomputable def g129 (args : List Value) (H : Heap) (n : Nat) : R := match args with
  | [.slice (some a) len _] => match intsAt H a len with
    | some l => if sampAll l then gFlts (l.map sampB) H n else none
    | none => none
  | _ => none
theorem ok129 : EntOk Tryz.prog (129, g129) := by
  intro args H n v H' n' h
  simp only [g129] at h
  split at h
  · split at h
    · rename_i l h1
      split at h
      · rename_i hs
        exact okFlts1 (mk := fun s => [s]) (by intro φ φ0 s s0 h; simp [denL, h]) (by intro p s h; exact ⟨h, trivial⟩) (fun o c => w129 l o c hs) h1 h
      · cases h
    · cases h
  · cases h
theorem w40a (e : Int) (he : e ≠ 0) : AC Tryz.prog 40 [.slice none 0 0, iv e, iv e, .slice none 0 0] [] 10 (.bool true) [] 10 := by
  have hr := recT_ok (P := Tryz.prog) (l := []) (by simp)
  refine AC.pure Tryz.func40 rfl (by kernel_rfl) rfl [] rfl ?_
  refine E.seq ?_
  refine E.reg hr (by simp; rfl) ?_
  refine E.seq ?_
  refine E.reg hr (by simp [he]; rfl) ?_
  refine E.ret ?_
  exact pureK.ret rfl rfl (by simp) (sub_refl _)
theorem w40b (l : List Int) (o o2 c c2 : Nat) (hs : sampAll l) : AC Tryz.prog 40 [.slice (some ⟨10, o, none⟩) l.length c, iv 0, iv 0, .slice (some ⟨11, o2, none⟩) l.length c2] [(11, .inp o2 (l.map iv)), (10, .inp o ((l.map sampB).map fv))] 12 (.bool true) [(11, .inp o2 (l.map iv)), (10, .inp o ((l.map sampB).map fv))] 12 := by
  have hr := recT_ok (P := Tryz.prog) (l := [(131, g131), (56, g56)]) (by simp only [List.forall_mem_cons]; exact ⟨ok131, ok56, by simp⟩)
  have hlt : l.length < 2147483648 := by have := hs.2.1; omega
  have hne : l.map sampB ≠ [] := by simp [hs.1]
  obtain ⟨m, hm⟩ : ∃ m, m = l.map sampB := ⟨_, rfl⟩
  have hml : m.length = l.length := by rw [hm]; simp
  have hord : ∀ x ∈ m, FloatKind.f32.format.order x x = some .eq := fun x hx => by
    rw [hm] at hx
    obtain ⟨y, hy, rfl⟩ := List.mem_map.1 hx
    exact (samp_ok (hs.2.2 y hy).1 (hs.2.2 y hy).2).2
  rw [← hm] at hne ⊢
  have i1 : intsAt [(11, .inp o2 (l.map iv)), (10, .inp o (m.map fv))] ⟨11, o2, none⟩ l.length = some l := intsAt_iv rfl (by simp; exact List.take_of_length_le (by simp)) hlt
  have i2 : fltsAt [(12, .ext (m.map fv) 98 1), (11, .inp o2 (l.map iv)), (10, .inp o (m.map fv))] ⟨10, o, none⟩ l.length = some m := fltsAt_fv rfl (by simp [hml]; exact List.take_of_length_le (by simp [hml])) hlt
  have i3 : fltsAt [(12, .ext (m.map fv) 98 1), (11, .inp o2 (l.map iv)), (10, .inp o (m.map fv))] ⟨12, 0, some 0⟩ l.length = some m := fltsAt_fv rfl (by simp [hml]; exact List.take_of_length_le (by simp [hml])) hlt
  refine AC.pure Tryz.func40 rfl (by kernel_rfl) rfl [] rfl ?_
  refine E.seq ?_
  refine E.reg hr (by simp; rfl) ?_
  refine E.seq ?_
  refine E.reg hr (by simp [g131, i1, hs, ← hm, gFlts, hne, g56, hml, i2, i3]; rw [if_pos hord]; rfl) ?_
  refine E.ret ?_
  exact pureK.ret rfl rfl (by simp) (by repeat first | exact sub_refl _ | refine sub_cons rfl ?_)
end Go.Proofs.YtndlfijfjglkdaaGreatDoor

namespace Go.Proofs.YtndlfijfjglkdaaGreatDoor
open Go Go.Ab Go.Proofs
theorem fill4 (a b c d : Int) : Instr.fill (fun i => some (i, 1)) #[.int .i64 0, .int .i64 0, .int .i64 0, .int .i64 0] [(0, iv a), (1, iv b), (2, iv c), (3, iv d)] = some #[iv a, iv b, iv c, iv d] := by kernel_rfl
def addAll (l : List Int) (b v s : Int) : List Int :=
  addAt (addAt (addAt (addAt l (b + 0) (IntKind.i64.wrap (4 * v))) (b + IntKind.i64.wrap ((periodV v s).tdiv 2)) (IntKind.i64.wrap (-2 * v))) (b + periodV v s) (IntKind.i64.wrap (2 * v))) (b + IntKind.i64.wrap (2 * periodV v s)) v
@[simp] theorem addAll_length (l : List Int) (b v s : Int) : (addAll l b v s).length = l.length := by simp [addAll]
theorem period_bounds {v s : Int} (hv : 1 ≤ v ∧ v ≤ 64) (hs : 0 ≤ s ∧ s ≤ 4) : periodV v s = 4 + v / 8 + s ∧ 4 ≤ periodV v s ∧ periodV v s ≤ 16 := by
  have h1 : v.tdiv 8 = v / 8 := Int.tdiv_eq_ediv_of_nonneg (by omega)
  unfold periodV
  rw [h1, W_in (x := v / 8) (by omega) (by omega), W_in (x := 4 + v / 8) (by omega) (by omega), W_in (by omega) (by omega)]
  omega
def lpOf : Code → Option Code
  | .loop b => some b
  | .seq a b => match lpOf a with
    | some x => some x
    | none => lpOf b
  | .block _ b => lpOf b
  | _ => none
noncomputable def lp236 : Code := match lpOf (bodyOf' Tryz.f236) with
  | some x => x
  | none => .skip
abbrev hts (v : Int) : List Int := [IntKind.i64.wrap (4 * v), IntKind.i64.wrap (-2 * v), IntKind.i64.wrap (2 * v), v]
abbrev idx (v s : Int) : List Int := [0, IntKind.i64.wrap ((periodV v s).tdiv 2), periodV v s, IntKind.i64.wrap (2 * periodV v s)]
noncomputable def S236 (l : List Int) (L c : Nat) (b v s : Int) (k : Nat) : St :=
  { fr := [(5, .pointer (some ⟨17, 0, none⟩)), (0, .func (.yield 16) #[] #[]), (24, .agg ⟨(idx v s).map iv⟩), (25, iv k)], sz := 37, H := H128 (top128 (hts v)) .ready l L c b v s, n := 18, marks := [], vs := [5, 0, 24, 25] }
set_option maxRecDepth 100000 in
theorem round236 (l : List Int) (L c : Nat) (b v s : Int) (hL : L = l.length) (hl : l.length < 2 ^ 31) (hb : 0 ≤ b ∧ b ≤ 4096) (k : Nat) (hk : k < 4) (at' h : Int) (hat : (idx v s)[k]? = some at') (hh : (hts v)[k]? = some h) (ha : 0 ≤ at' ∧ at' ≤ 4096)
    (K : Ex → St → Prop) (hnext : EL Tryz.prog 17 none lp236 (S236 (addAt l (b + at') h) L c b v s (k + 1)) K) : EL Tryz.prog 17 none lp236 (S236 l L c b v s k) K := by
  have hr := recT_ok (P := Tryz.prog) (l := []) (by simp)
  obtain ⟨r, hry, hy⟩ := yield128 (top128 (hts v)) (.inr ⟨_, rfl⟩) 18 (by omega) l c b v s at' h L hL hl hb ha
  have w1 : IntKind.i64.wrap 1 = 1 := W_in (by omega) (by omega)
  have w2 : IntKind.i64.wrap 2 = 2 := W_in (by omega) (by omega)
  have w3 : IntKind.i64.wrap 3 = 3 := W_in (by omega) (by omega)
  have w4 : IntKind.i64.wrap 4 = 4 := W_in (by omega) (by omega)
  simp at hy
  have hc : k = 0 ∨ k = 1 ∨ k = 2 ∨ k = 3 := by omega
  rcases hc with rfl | rfl | rfl | rfl
  · simp at hat hh
    subst hat hh
    rw [Int.add_zero] at hnext
    refine EL.step ?_
    refine E.seq ?_
    refine E.reg hr (by simp [S236]; rfl) ?_
    refine E.seq ?_
    refine E.cond (by rfl) (fun _ => ?_) (fun h2 => ?_)
    · refine E.skip ?_
      refine E.seq ?_
      refine E.block ?_
      refine E.seq ?_
      refine E.reg hr (by simp [partA]; rfl) ?_
      refine E.seq ?_
      refine E.reg hry (by simp [hy]; rfl) ?_
      refine E.cond (by rfl) (fun h3 => ?_) (fun _ => ?_)
      · simp at h3
      · refine E.skip ?_
        refine E.reg hr (by simp [w1]; rfl) ?_
        refine EL.lead (S236 _ L c b v s _) ?_ hnext
        exact .less rfl rfl rfl (by simp [S236]) (by simp [S236])
    · simp at h2
  · simp at hat hh
    subst hat hh
    refine EL.step ?_
    refine E.seq ?_
    refine E.reg hr (by simp [S236]; rfl) ?_
    refine E.seq ?_
    refine E.cond (by rfl) (fun _ => ?_) (fun h2 => ?_)
    · refine E.skip ?_
      refine E.seq ?_
      refine E.block ?_
      refine E.seq ?_
      refine E.reg hr (by simp [partA]; rfl) ?_
      refine E.seq ?_
      refine E.reg hry (by simp [hy]; rfl) ?_
      refine E.cond (by rfl) (fun h3 => ?_) (fun _ => ?_)
      · simp at h3
      · refine E.skip ?_
        refine E.reg hr (by simp [w2]; rfl) ?_
        refine EL.lead (S236 _ L c b v s _) ?_ hnext
        exact .less rfl rfl rfl (by simp [S236]) (by simp [S236])
    · simp at h2
  · simp at hat hh
    subst hat hh
    refine EL.step ?_
    refine E.seq ?_
    refine E.reg hr (by simp [S236]; rfl) ?_
    refine E.seq ?_
    refine E.cond (by rfl) (fun _ => ?_) (fun h2 => ?_)
    · refine E.skip ?_
      refine E.seq ?_
      refine E.block ?_
      refine E.seq ?_
      refine E.reg hr (by simp [partA]; rfl) ?_
      refine E.seq ?_
      refine E.reg hry (by simp [hy]; rfl) ?_
      refine E.cond (by rfl) (fun h3 => ?_) (fun _ => ?_)
      · simp at h3
      · refine E.skip ?_
        refine E.reg hr (by simp [w3]; rfl) ?_
        refine EL.lead (S236 _ L c b v s _) ?_ hnext
        exact .less rfl rfl rfl (by simp [S236]) (by simp [S236])
    · simp at h2
  · simp at hat hh
    subst hat hh
    refine EL.step ?_
    refine E.seq ?_
    refine E.reg hr (by simp [S236]; rfl) ?_
    refine E.seq ?_
    refine E.cond (by rfl) (fun _ => ?_) (fun h2 => ?_)
    · refine E.skip ?_
      refine E.seq ?_
      refine E.block ?_
      refine E.seq ?_
      refine E.reg hr (by simp [partA]; rfl) ?_
      refine E.seq ?_
      refine E.reg hry (by simp [hy]; rfl) ?_
      refine E.cond (by rfl) (fun h3 => ?_) (fun _ => ?_)
      · simp at h3
      · refine E.skip ?_
        refine E.reg hr (by simp [w4]; rfl) ?_
        refine EL.lead (S236 _ L c b v s _) ?_ hnext
        exact .less rfl rfl rfl (by simp [S236]) (by simp [S236])
    · simp at h2
set_option maxRecDepth 100000 in
theorem w236 (l : List Int) (L c : Nat) (b v s : Int) (hL : L = l.length) (hl : l.length < 2 ^ 31) (hb : 0 ≤ b ∧ b ≤ 4096) (hv : 1 ≤ v ∧ v ≤ 64) (hs : 0 ≤ s ∧ s ≤ 4) :
    AC Tryz.prog 236 [.func (.yield 16) #[] #[], .pointer (some ⟨13, 0, none⟩), .pointer (some ⟨14, 0, none⟩)] (H128 [] .ready l L c b v s) 17 (.tuple #[]) (H128 (top128 (hts v)) .ready (addAll l b v s) L c b v s) 18 := by
  have hr := recT_ok (P := Tryz.prog) (l := [(126, g2 periodV)]) (by simp only [List.forall_mem_cons]; exact ⟨ok126, by simp⟩)
  obtain ⟨hp, hp1, hp2⟩ := period_bounds hv hs
  have hq : IntKind.i64.wrap ((periodV v s).tdiv 2) = periodV v s / 2 := by rw [Int.tdiv_eq_ediv_of_nonneg (by omega), W_in (by omega) (by omega)]
  have h2p : IntKind.i64.wrap (2 * periodV v s) = 2 * periodV v s := W_in (by omega) (by omega)
  have w4 : IntKind.i64.wrap (3 + 1) = 4 := W_in (by omega) (by omega)
  refine AC.body Tryz.func236 rfl (by kernel_rfl) rfl [5, 0, 24, 25] ?_
  refine E.seq ?_
  refine E.reg hr (by simp; rfl) ?_
  refine E.seq ?_
  refine E.reg hr (by simp [opBuild, fill4]; rfl) ?_
  refine E.seq ?_
  refine E.reg hr (by simp [opBuild, fill4, bin_quo]; rfl) ?_
  refine E.block ?_
  refine E.loop ?_
  refine EL.lead (S236 l L c b v s 0) (.less rfl rfl rfl (by simp [S236]) (by simp [S236])) ?_
  refine round236 l L c b v s hL hl hb 0 (by omega) _ _ rfl rfl ⟨by omega, by omega⟩ _ ?_
  refine round236 _ L c b v s (by simpa using hL) (by simpa using hl) hb 1 (by omega) _ _ rfl rfl (by rw [hq]; omega) _ ?_
  refine round236 _ L c b v s (by simpa using hL) (by simpa using hl) hb 2 (by omega) _ _ rfl rfl (by omega) _ ?_
  refine round236 _ L c b v s (by simpa using hL) (by simpa using hl) hb 3 (by omega) _ _ rfl rfl (by rw [h2p]; omega) _ ?_
  refine EL.step ?_
  refine E.seq ?_
  refine E.reg hr (by simp [S236]; rfl) ?_
  refine E.seq ?_
  refine E.cond (by rfl) (fun h2 => ?_) (fun h2 => ?_)
  · simp at h2
  · refine E.exit ?_
    refine ⟨.inl rfl, ?_⟩
    simp [leaveF, shutA, resultsA, Tryz.results236, dropOk, addAll]
end Go.Proofs.YtndlfijfjglkdaaGreatDoor

namespace Go.Proofs.YtndlfijfjglkdaaGreatDoor
open Go Go.Ab Go.Proofs
@[simp] theorem ent193 : enterable Tryz.prog 193 = true := by kernel_rfl
theorem ent236 : enterable Tryz.prog 236 = true := by kernel_rfl
set_option maxRecDepth 100000 in
theorem w128 (l : List Int) (c : Nat) (b v s : Int) (hl : l.length < 2 ^ 31) (hb : 0 ≤ b ∧ b ≤ 4096) (hv : 1 ≤ v ∧ v ≤ 64) (hs : 0 ≤ s ∧ s ≤ 4) : AC Tryz.prog 128 [.slice (some ⟨10, 0, none⟩) l.length c, iv b, iv v, iv s] [(10, .cells (l.map iv) 3)] 11 (.tuple #[]) [(10, .cells ((addAll l b v s).map iv) 3)] 18 := by
  have hr := ev_sound mixed (tab_ok (P := Tryz.prog) [(126, g2 periodV)] (by simp only [List.forall_mem_cons]; exact ⟨ok126, by simp⟩)) 60
  refine AC.body Tryz.func128 rfl (by kernel_rfl) rfl [] ?_
  refine E.seq ?_
  refine E.reg hr (by simp; rfl) ?_
  refine E.seq ?_
  refine E.reg hr (by simp [ev_call, Tryz.func193, bodyF, Tryz.f193, ↓evc_seq, ↓evc_reg, ↓evc_ret, opMakefunc, leaveF, shutA, resultsA, resultA]; rfl) ?_
  refine E.block ?_
  have hAC := w236 l l.length c b v s rfl hl hb hv hs
  refine E.range (r := recV Tryz.prog (fun _ _ _ => none) (fun _ _ _ _ => some (.tuple #[], H128 (top128 (hts v)) .ready (addAll l b v s) l.length c b v s, 18))) recV_ok (rangeF_of rfl ent236 (recV_call rfl hAC) rfl) ?_
  refine ⟨.inl rfl, ?_⟩
  simp [leaveF, shutA, resultsA, Tryz.results128, dropOk, dropNew]
open Classical in
noncomputable def g128 (args : List Value) (H : Heap) (n : Nat) : R := match args with
  | [.slice (some ⟨b, 0, none⟩) len _, .int .i64 i, .int .i64 v, .int .i64 s] => match hget H b with
    | some (.cells cs 3) => match intsOf cs with
      | some l => if len = l.length ∧ l.length < 2 ^ 31 ∧ (0 ≤ i ∧ i ≤ 4096) ∧ (1 ≤ v ∧ v ≤ 64) ∧ 0 ≤ s ∧ s ≤ 4 then some (.tuple #[], hset H b (.cells ((addAll l i v s).map iv) 3), n) else none
      | none => none
    | _ => none
  | _ => none
theorem ok128 : EntOk Tryz.prog (128, g128) := by
  intro args H n v H' n' h
  simp only [g128] at h
  split at h
  · split at h
    · rename_i cs hb
      split at h
      · rename_i l hl
        split at h
        · rename_i hc
          obtain ⟨rfl, h1, h2, h3, h4⟩ := hc
          injection h with h; injection h with e1 e2; injection e2 with e2 e3; subst e1 e2 e3
          have := intsOf_ok _ _ hl
          subst this
          exact AC.liftM (fun x => [x, iv _, iv _, iv _]) (by intro φ φ0 s s0 h; simp [denL, den, h]) (by intro p s h; exact ⟨h, trivial, trivial, trivial, trivial⟩) hb (afL_iv _) (afL_iv _) gsz rfl (w128 l _ _ _ _ h1 h2 h3 h4) rfl
        · cases h
      · cases h
    · cases h
  · cases h
end Go.Proofs.YtndlfijfjglkdaaGreatDoor

namespace Go.Proofs.YtndlfijfjglkdaaGreatDoor
open Go Go.Ab Go.Proofs
theorem rep_cells (w : Nat) : ((Array.range (w * 1)).map ((if w * 1 = 0 then #[] else #[Value.int .i64 0])[· % (if w * 1 = 0 then #[] else #[Value.int .i64 0]).size]!)).toList = (List.replicate w (0 : Int)).map iv := by
  rw [List.map_replicate]
  refine List.eq_replicate_iff.2 ⟨by simp, fun x hx => ?_⟩
  simp only [Array.toList_map, List.mem_map, Array.toList_range, List.mem_range] at hx
  obtain ⟨i, hi, rfl⟩ := hx
  rw [if_neg (by omega)]
  simp [Nat.mod_one]
theorem mk45 {fr : Fr} {H : Heap} {n : Nat} {x y : Operand} {w : Int} (h0 : 0 ≤ w) (h1 : w ≤ 4096) (hx : evO Tryz.prog fr x = some (iv w)) (hy : evO Tryz.prog fr y = some (iv w)) : opMakeslice Tryz.prog 45 x y fr H n = some (.slice (some ⟨n, 0, none⟩) w.toNat w.toNat, (n, .cells ((List.replicate w.toNat (0 : Int)).map iv) 3) :: H, n + 1) := by
  unfold opMakeslice
  rw [hx, hy, Tryz.underlying45]
  have hz : Tryz.t3.zero = some (.int .i64 0) := by kernel_rfl
  have hb : Tryz.t3.bytes = 8 := by kernel_rfl
  have hs : Tryz.t3.size = 1 := by kernel_rfl
  simp only [inf3, hz, hb, hs]
  have hc : (0 ≤ w ∧ w ≤ w ∧ (smallA 8 w.toNat && afL (Value.int .i64 0).cells.toList) = true) := ⟨h0, Int.le_refl _, by simp [smallA]; omega⟩
  rw [if_pos hc]
  unfold newA
  rw [show (Value.int .i64 0).cells = #[Value.int .i64 0] from rfl, rep_cells]
def zeros (w : Nat) : List Int := List.replicate w 0
@[simp] theorem zeros_length (w : Nat) : (zeros w).length = w := by simp [zeros]
def bubP (v s w : Int) : List Int := addAll (zeros w.toNat) 0 v s
@[simp] theorem bubP_length (v s w : Int) : (bubP v s w).length = w.toNat := by simp [bubP]
def bubQ (v s w : Int) (u : Value) (H : Heap) : Prop := if bubE v s w = 0 then ∃ m, u = .tuple #[.slice (some ⟨m, 0, some 0⟩) w.toNat 0, iv 0] ∧ hget H m = some (.ext (((bubP v s w).map sampB).map fv) 98 1) ∧ 10 ≤ m else u = .tuple #[.slice none 0 0, iv (bubE v s w)]
set_option maxRecDepth 100000 in
theorem w34 (v s w : Int) (hsamp : bubE v s w = 0 → sampAll (bubP v s w)) : ∃ u H1 n1 H2, AC Tryz.prog 34 [iv v, iv s, iv w] [] 10 u H1 n1 ∧ bubQ v s w u H2 ∧ (af u = false → H1 = H2) := by
  have hr := recT_ok (P := Tryz.prog) (l := [(124, g1 fun a => withinV a 1 64), (125, g1 fun a => withinV a 0 4), (127, g1 fun a => withinV a 1 64), (113, g113), (128, g128), (129, g129)]) (by simp only [List.forall_mem_cons]; exact ⟨ok124, ok125, ok127, ok113, ok128, ok129, by simp⟩)
  refine AC.out Tryz.func34 rfl (by kernel_rfl) rfl [] ?_
  refine E.seq ?_
  refine E.reg hr (by simp; rfl) ?_
  refine E.seq ?_
  refine E.seq ?_
  refine E.reg hr (by simp [g113, intsAt, intsOf]; rfl) ?_
  refine E.seq ?_
  refine E.reg hr (by simp; rfl) ?_
  refine E.cond (by rfl) (fun h => ?_) (fun h => ?_)
  · simp at h
    refine E.seq ?_
    refine E.reg hr (by simp; rfl) ?_
    refine E.ret ?_
    exact outK.ret rfl rfl (by simp [bubQ, bubE, h])
  · simp at h
    have he : bubE v s w = 0 := h
    have hall := (firstV_zero _).1 h
    simp [withinV_zero] at hall
    obtain ⟨hv, hs, hw⟩ := hall
    have hsa := hsamp he
    have hsa' : sampAll (addAll (zeros w.toNat) 0 v s) := hsa
    have hne : addAll (zeros w.toNat) 0 v s ≠ [] := hsa.1
    have hl31 : w.toNat < 2147483648 := by omega
    have hz : intsOf ((zeros w.toNat).map iv) = some (zeros w.toNat) := intsOf_iv _
    refine E.skip ?_
    refine E.seq ?_
    refine E.reg hr (by simp [mk45 (w := w) (by omega) (by omega)]; rw [show List.replicate w.toNat (iv 0) = (zeros w.toNat).map iv by simp [zeros]]) ?_
    refine E.seq ?_
    refine E.reg hr (by simp [g128, hz, hl31, hv, hs]; rfl) ?_
    refine E.seq ?_
    have ht : List.take w.toNat ((addAll (zeros w.toNat) 0 v s).map iv) = (addAll (zeros w.toNat) 0 v s).map iv := List.take_of_length_le (by simp)
    refine E.reg hr (by simp [g129, intsAt, hl31, ht, intsOf_iv, hsa', gFlts, hne]; rfl) ?_
    refine E.ret ?_
    refine outK.ret rfl rfl ?_
    simp [bubQ, he, bubP]
end Go.Proofs.YtndlfijfjglkdaaGreatDoor

namespace Go.Proofs.YtndlfijfjglkdaaGreatDoor
open Go Go.Ab Go.Proofs
theorem addAt_get {l : List Int} {i h : Int} {j : Nat} (h0 : 0 ≤ i) (hj : j < l.length) : (addAt l i h)[j]? = if i = j then some (IntKind.i64.wrap ((l[j]?).getD 0 + h)) else l[j]? := by
  unfold addAt
  by_cases hi : i < l.length
  · rw [if_pos hi]
    have hlt : i.toNat < l.length := by omega
    by_cases e : i = j
    · subst e
      rw [show (j : Int).toNat = j by omega, List.getElem?_set_self hj]; simp
    · rw [if_neg e, List.getElem?_set_ne (by omega)]
  · rw [if_neg hi, if_neg (by omega)]
theorem bub_eq {v s w : Int} (hv : 1 ≤ v ∧ v ≤ 64) (hs : 0 ≤ s ∧ s ≤ 4) : bubP v s w = bubR v s w.toNat := by
  obtain ⟨hp, hp1, hp2⟩ := period_bounds hv hs
  have hq : IntKind.i64.wrap ((periodV v s).tdiv 2) = periodV v s / 2 := by rw [Int.tdiv_eq_ediv_of_nonneg (by omega), W_in (by omega) (by omega)]
  have h2p : IntKind.i64.wrap (2 * periodV v s) = 2 * periodV v s := W_in (by omega) (by omega)
  have a4 : IntKind.i64.wrap (4 * v) = 4 * v := W_in (by omega) (by omega)
  have a2 : IntKind.i64.wrap (2 * v) = 2 * v := W_in (by omega) (by omega)
  have am : IntKind.i64.wrap (-2 * v) = -2 * v := W_in (by omega) (by omega)
  have am2 : IntKind.i64.wrap (0 - 2 * v) = 0 - 2 * v := W_in (by omega) (by omega)
  apply List.ext_getElem?
  intro j
  by_cases hj : j < w.toNat
  rotate_left
  · rw [List.getElem?_eq_none (by simp; omega), List.getElem?_eq_none (by simp; omega)]
  have z : (zeros w.toNat)[j]? = some 0 := by simp [zeros, hj]
  rw [List.getElem?_eq_getElem (l := bubR v s w.toNat) (by simpa using hj)]
  unfold bubP addAll
  rw [addAt_get (by omega) (by simpa using hj), addAt_get (by omega) (by simpa using hj), addAt_get (by omega) (by simpa using hj), addAt_get (by omega) (by simpa using hj), z]
  simp only [bubR, rl_getElem]
  unfold pulseV
  rw [hq, h2p, a4, a2, am, am2]
  generalize periodV v s = p at *
  have wr : ∀ x : Int, -1000 ≤ x → x ≤ 1000 → IntKind.i64.wrap x = x := fun x h1 h2 => W_in (by omega) (by omega)
  by_cases c0 : (j : Int) = 0
  · rw [if_pos c0, if_neg (by omega), if_neg (by omega), if_neg (by omega), if_pos (by omega)]; simp only [Option.getD_some]; rw [wr _ (by omega) (by omega)]; congr 1; omega
  · rw [if_neg c0]
    by_cases c1 : (j : Int) = p / 2
    · rw [if_pos c1, if_neg (by omega), if_neg (by omega), if_pos (by omega), if_neg (by omega)]; simp only [Option.getD_some]; rw [wr _ (by omega) (by omega)]; congr 1; omega
    · rw [if_neg c1]
      by_cases c2 : (j : Int) = p
      · rw [if_pos c2, if_neg (by omega), if_pos (by omega), if_neg (by omega), if_neg (by omega)]; simp only [Option.getD_some]; rw [wr _ (by omega) (by omega)]; congr 1; omega
      · rw [if_neg c2]
        by_cases c3 : (j : Int) = 2 * p
        · rw [if_pos c3, if_pos (by omega), if_neg (by omega), if_neg (by omega), if_neg (by omega)]; simp only [Option.getD_some]; rw [wr _ (by omega) (by omega)]; congr 1; omega
        · rw [if_neg c3, if_neg (by omega), if_neg (by omega), if_neg (by omega), if_neg (by omega)]
theorem pulse_bounds {v s i : Int} (hv : 1 ≤ v ∧ v ≤ 64) : -4096 ≤ pulseV v s i ∧ pulseV v s i ≤ 4096 := by
  have a4 : IntKind.i64.wrap (4 * v) = 4 * v := W_in (by omega) (by omega)
  have a2 : IntKind.i64.wrap (2 * v) = 2 * v := W_in (by omega) (by omega)
  have am2 : IntKind.i64.wrap (0 - 2 * v) = 0 - 2 * v := W_in (by omega) (by omega)
  unfold pulseV
  rw [a4, a2, am2]
  split
  · omega
  · split
    · omega
    · split
      · omega
      · split <;> omega
theorem bubE_zero {v s w : Int} (h : bubE v s w = 0) : (1 ≤ v ∧ v ≤ 64) ∧ (0 ≤ s ∧ s ≤ 4) ∧ 1 ≤ w ∧ w ≤ 64 := by
  have := (firstV_zero _).1 h
  simpa [withinV_zero] using this
theorem bub_samp {v s w : Int} (h : bubE v s w = 0) : sampAll (bubP v s w) := by
  obtain ⟨hv, hs, hw⟩ := bubE_zero h
  refine ⟨fun e => by have := congrArg List.length e; simp at this; omega, by simp; omega, fun x hx => ?_⟩
  rw [bub_eq hv hs] at hx
  unfold bubR rl at hx
  obtain ⟨i, _, rfl⟩ := List.mem_map.1 hx
  exact pulse_bounds hv
def gBub (args : List Value) (H : Heap) (n : Nat) : R := match args with
  | [.int .i64 v, .int .i64 s, .int .i64 w] => if bubE v s w = 0 then some (.tuple #[.slice (some ⟨n, 0, some 0⟩) w.toNat 0, iv 0], (n, .ext (((bubP v s w).map sampB).map fv) 98 1) :: H, n + 1) else some (.tuple #[.slice none 0 0, iv (bubE v s w)], H, n)
  | _ => none
theorem ok34 : EntOk Tryz.prog (34, gBub) := by
  intro args H n u H' n' h
  simp only [gBub] at h
  split at h
  · rename_i v s w
    obtain ⟨u0, H1, n1, H2, hAC, hq, hh⟩ := w34 v s w bub_samp
    unfold bubQ at hq
    by_cases he : bubE v s w = 0
    · rw [if_pos he] at h hq
      injection h with h; injection h with e1 e2; injection e2 with e2 e3; subst e1 e2 e3
      obtain ⟨m, hv, hm, hle⟩ := hq
      subst hv
      have := hh (by simp)
      subst this
      exact AC.liftF (vf := fun m => .tuple #[.slice (some ⟨m, 0, some 0⟩) w.toNat 0, iv 0]) ⟨fun φ ψ m n h1 h2 => by simp [den, denL, h1, h2], fun p n h => by simp [sc, scL, h]⟩ (.inr ⟨_, _, _, rfl, afL_fv _⟩) (Part.plain (by simp) [] (by simp [Seen]) gsz ⟨m, _, _, hle, hm, hAC⟩)
    · rw [if_neg he] at h hq
      injection h with h; injection h with e1 e2; injection e2 with e2 e3; subst e1 e2 e3
      subst hq
      exact AC.liftP (by simp) (Part.plain (by simp) [] (by simp [Seen]) gsz ⟨_, _, hAC⟩)
  · cases h
def g39 (args : List Value) (H : Heap) (n : Nat) : R := match args with
  | [.int .i64 v, .int .i64 s, .int .i64 w] => if 1 ≤ w ∧ w ≤ 4096 then some (.slice (some ⟨n, 0, some 0⟩) w.toNat 0, (n, .ext ((bubR v s w.toNat).map iv) 3 1) :: H, n + 1) else none
  | _ => none
theorem ok39 : EntOk Tryz.prog (39, g39) := by
  intro args H n u H' n' h
  simp only [g39] at h
  split at h
  · rename_i v s w
    split at h
    · rename_i hw
      obtain ⟨u0, H1, n1, H2, hAC, hq, hh⟩ := w39 v s w hw.1 hw.2
      have hne : bubR v s w.toNat ≠ [] := fun e => by have := congrArg List.length e; simp at this; omega
      unfold intsQ at hq
      rw [if_neg hne] at hq
      injection h with h; injection h with e1 e2; injection e2 with e2 e3; subst e1 e2 e3
      obtain ⟨m, hv, hm, hle⟩ := hq
      subst hv
      have := hh (by simp)
      subst this
      rw [bubR_length] at hAC
      exact AC.liftF (names_sl _ _) (.inr ⟨_, _, _, rfl, afL_iv _⟩) (Part.plain (by simp) [] (by simp [Seen]) gsz ⟨m, _, _, hle, hm, hAC⟩)
    · cases h
  · cases h
end Go.Proofs.YtndlfijfjglkdaaGreatDoor

namespace Go.Proofs.YtndlfijfjglkdaaGreatDoor
open Go Go.Ab Go.Proofs
def g33 (args : List Value) (H : Heap) (n : Nat) : R := match args with
  | [.int .i64 v, .int .i64 s] => some (.tuple #[iv (if volE v s = 0 then periodV v s else 0), iv (volE v s)], H, n)
  | _ => none
theorem ok33 : EntOk Tryz.prog (33, g33) := by
  intro args H n v H' n' h
  simp only [g33] at h
  split at h
  · injection h with h; injection h with e1 e2; injection e2 with e2 e3; subst e1 e2 e3
    exact AC.liftP (by simp) (Part.plain (by simp) [] (by simp [Seen]) gsz ⟨_, _, w33 _ _⟩)
  · cases h
open Classical in
noncomputable def g40 (args : List Value) (H : Heap) (n : Nat) : R := match args with
  | [.slice none 0 0, .int .i64 e, .int .i64 b, .slice none 0 0] => if e = b ∧ e ≠ 0 then some (.bool true, H, n) else none
  | [.slice (some a) len _, .int .i64 e, .int .i64 b, .slice (some a2) len2 _] => if e = 0 ∧ b = 0 then (match fltsAt H a len, intsAt H a2 len2 with
    | some m, some l => if m = l.map sampB ∧ sampAll l then some (.bool true, H, n) else none
    | _, _ => none) else none
  | _ => none
theorem ok40 : EntOk Tryz.prog (40, g40) := by
  intro args H n v H' n' h
  simp only [g40] at h
  split at h
  · split at h
    · rename_i hc
      obtain ⟨rfl, hc⟩ := hc
      injection h with h; injection h with e1 e2; injection e2 with e2 e3; subst e1 e2 e3
      exact AC.liftP rfl (Part.plain (by simp) [] (by simp [Seen]) gsz ⟨_, _, w40a _ hc⟩)
    · cases h
  · split at h
    · rename_i hc
      obtain ⟨rfl, rfl⟩ := hc
      split at h
      · rename_i m l h1 h2
        split at h
        · rename_i hm
          obtain ⟨rfl, hs⟩ := hm
          injection h with h; injection h with e1 e2; injection e2 with e2 e3; subst e1 e2 e3
          obtain ⟨hf, hc, hlen, hlt⟩ := fltsAt_ok h1
          obtain ⟨hf2, hc2, hlen2, hlt2⟩ := intsAt_ok h2
          rw [List.length_map] at hlen
          subst hlen hlen2
          exact AC.liftP rfl (Part.two (fun s u => [s, iv 0, iv 0, u]) (by intro φ φ0 s s0 u u0 h h'; simp [denL, den, h, h']) (by intro p s u h h'; exact ⟨h, trivial, trivial, h', trivial⟩) hf hc (afL_fv _) hf2 hc2 (afL_iv l) [] (by simp [Seen]) gsz fun c c2 => ⟨_, _, w40b l _ _ c c2 hs⟩)
        · cases h
      · cases h
    · cases h
  · cases h
theorem two_eq (v s w : Int) : firstV [volE v s, withinV w 1 64] = bubE v s w := by
  simp only [volE, bubE, firstV]
  by_cases h1 : withinV v 1 64 = 0 <;> by_cases h2 : withinV s 0 4 = 0 <;> simp [h1, h2]
abbrev arr3 (v s w : Int) : List Value := [iv v, iv s, iv w]
set_option maxRecDepth 100000 in
theorem w4 (v s w : Int) : AC Tryz.prog 4 [.agg ⟨arr3 v s w⟩] G0 10 (.bool true) G0 10 := by
  have hr := recT_ok (P := Tryz.prog) (l := [(18, g18), (33, g33), (34, gBub), (35, g1 fun a => withinV a 1 64), (36, g1 fun a => withinV a 0 4), (37, g1 fun a => withinV a 1 64), (27, g113), (38, g2 periodV), (39, g39), (32, g32), (40, g40)]) (by simp only [List.forall_mem_cons]; exact ⟨ok18, ok33, ok34, ok35, ok36, ok37, ok27, ok38, ok39, ok32, ok40, by simp⟩)
  have h2 := two_eq v s w
  have hf : firstV [withinV v 1 64, withinV s 0 4] = volE v s := rfl
  refine AC.pure Tryz.func4 rfl (by kernel_rfl) rfl [] rfl ?_
  refine E.seq ?_
  refine E.reg hr (by simp; rfl) ?_
  refine E.seq ?_
  refine E.seq ?_
  refine E.reg hr (by simp [g18]; rfl) ?_
  refine E.cond (by rfl) (fun h => ?_) (fun h => ?_)
  · simp at h
  refine E.skip ?_
  refine E.seq ?_
  refine E.reg hr (by simp [g33]; rfl) ?_
  refine E.seq ?_
  by_cases hb : bubE v s w = 0
  · obtain ⟨hv, hs, hw⟩ := bubE_zero hb
    have hvol : volE v s = 0 := by have := (firstV_zero [withinV v 1 64, withinV s 0 4]).2 (by simp [withinV_zero, hv, hs]); exact this
    have hsa := bub_samp hb
    have heq := bub_eq (w := w) hv hs
    have hlt : w.toNat < 2147483648 := by omega
    have hw1 : 1 ≤ w ∧ w ≤ 4096 := by omega
    rw [heq] at hsa
    have h2' : firstV [0, withinV w 1 64] = bubE v s w := by rw [← hvol]; exact h2
    have i1 : ∀ X, intsAt ((14, .ext ((bubR v s w.toNat).map iv) 3 1) :: X) ⟨14, 0, some 0⟩ w.toNat = some (bubR v s w.toNat) := fun X => intsAt_iv rfl (by simp; exact List.take_of_length_le (by simp)) hlt
    have i3 : ∀ a b c X, fltsAt ((14, a) :: (13, b) :: (12, c) :: (11, .ext ((bubR v s w.toNat).map (fv ∘ sampB)) 98 1) :: X) ⟨11, 0, some 0⟩ w.toNat = some ((bubR v s w.toNat).map sampB) := fun a b c X => by
      rw [← List.map_map]
      exact fltsAt_fv rfl (by simp; exact List.take_of_length_le (by simp)) hlt
    refine E.reg hr (by simp [gBub, hb]; rfl) ?_
    refine E.seq ?_
    refine E.drawK mixed hr (by simp [g113, g1, intsAt, intsOf]; rfl) (by kernel_rfl) (by kernel_rfl) ?_
    refine E.seq ?_
    refine E.reg hr (by simp [g113, g1, intsAt, intsOf]; rfl) ?_
    refine E.seq ?_
    refine E.reg hr (by simp; rfl) ?_
    refine E.seq ?_
    refine E.reg hr (by simp; rfl) ?_
    refine E.seq ?_
    refine E.seq ?_
    refine E.reg hr (by simp; rfl) ?_
    refine E.cond (by rfl) (fun h => ?_) (fun h => ?_)
    rotate_left
    · exact absurd hvol (by simpa [volE] using h)
    refine E.reg hr (by simp [g2]; rfl) ?_
    refine E.seq ?_
    refine E.seq ?_
    refine E.reg hr (by simp; rfl) ?_
    refine E.cond (by rfl) (fun h => ?_) (fun h => ?_)
    rotate_left
    · exact absurd hb (by simpa [← h2, volE] using h)
    refine E.reg hr (by simp [g39, hw1]; rfl) ?_
    refine E.seq ?_
    refine E.reg hr (by simp [g32, g40, hf, h2', hvol, hb, heq, i1, i3, hsa]; rfl) ?_
    refine E.ret ?_
    exact pureK.ret rfl rfl (by simp) (by repeat first | exact sub_refl _ | refine sub_cons rfl ?_)
  · by_cases hvol : volE v s = 0
    · have h2' : firstV [0, withinV w 1 64] = bubE v s w := by rw [← hvol]; exact h2
      refine E.reg hr (by simp [gBub, hb]; rfl) ?_
      refine E.seq ?_
      refine E.drawK mixed hr (by simp [g113, g1, intsAt, intsOf]; rfl) (by kernel_rfl) (by kernel_rfl) ?_
      refine E.seq ?_
      refine E.reg hr (by simp [g113, g1, intsAt, intsOf]; rfl) ?_
      refine E.seq ?_
      refine E.reg hr (by simp; rfl) ?_
      refine E.seq ?_
      refine E.reg hr (by simp; rfl) ?_
      refine E.seq ?_
      refine E.seq ?_
      refine E.reg hr (by simp; rfl) ?_
      refine E.cond (by rfl) (fun h => ?_) (fun h => ?_)
      rotate_left
      · exact absurd hvol (by simpa [volE] using h)
      refine E.reg hr (by simp [g2]; rfl) ?_
      refine E.seq ?_
      refine E.seq ?_
      refine E.reg hr (by simp; rfl) ?_
      refine E.cond (by rfl) (fun h => ?_) (fun h => ?_)
      · exact absurd (by simpa [← h2, volE] using h) hb
      refine E.skip ?_
      refine E.seq ?_
      refine E.reg hr (by simp [g32, g40, hf, h2', hvol, hb]; rfl) ?_
      refine E.ret ?_
      exact pureK.ret rfl rfl (by simp) (by repeat first | exact sub_refl _ | refine sub_cons rfl ?_)
    · refine E.reg hr (by simp [gBub, hb]; rfl) ?_
      refine E.seq ?_
      refine E.drawK mixed hr (by simp [g113, g1, intsAt, intsOf]; rfl) (by kernel_rfl) (by kernel_rfl) ?_
      refine E.seq ?_
      refine E.reg hr (by simp [g113, g1, intsAt, intsOf]; rfl) ?_
      refine E.seq ?_
      refine E.reg hr (by simp; rfl) ?_
      refine E.seq ?_
      refine E.reg hr (by simp; rfl) ?_
      refine E.seq ?_
      refine E.seq ?_
      refine E.reg hr (by simp; rfl) ?_
      refine E.cond (by rfl) (fun h => ?_) (fun h => ?_)
      · exact absurd (by simpa [volE] using h) hvol
      refine E.skip ?_
      refine E.seq ?_
      refine E.seq ?_
      refine E.reg hr (by simp; rfl) ?_
      refine E.cond (by rfl) (fun h => ?_) (fun h => ?_)
      · exact absurd (by simpa [← h2, volE] using h) hb
      refine E.skip ?_
      refine E.seq ?_
      refine E.reg hr (by simp [g32, g40, hf, h2, hvol, hb]; rfl) ?_
      refine E.ret ?_
      exact pureK.ret rfl rfl (by simp) (by repeat first | exact sub_refl _ | refine sub_cons rfl ?_)
end Go.Proofs.YtndlfijfjglkdaaGreatDoor
