/-
Rounds over maps, whose order is open, and names put anew by a reckoning; the integer root found by halving (each under the conditions in its statement).
-/
import Derived.Maps.RangeRun
import Derived.Test.YtkongcnmkiihjaaGreatDoorAf
/-
Rounds over a map: the order of its entries is open, so that a piece of code may end in several ways.
-/
namespace Go.Ab
open Go

/-- the entries that are still to come -/
def leftA (es : List MapEntry) (seen : List Nat) : List MapEntry := es.filter fun e => !seen.contains e.born
def stepsA (H : Heap) (b m since clock : Nat) (seen : List Nat) : List MapEntry → List (Value × Heap)
  | [] => []
  | e :: es => (.tuple #[.bool true, e.key, e.val], hset H b (.miter (some m) since (seen ++ [e.born]) clock)) :: stepsA H b m since clock seen es
/-- the ways in which 'next' over a map may end -/
def nextA (P : Program) (it : Operand) (fr : Fr) (H : Heap) : Option (List (Value × Heap)) :=
  match evO P fr it with
  | some (.pointer (some a)) => match Nat.beq a.off 0 with
    | true => match hget H a.block with
      | some (.miter none _ _ _) => some [(.tuple #[.bool false], H)]
      | some (.miter (some m) since seen last) => match hget H m with
        | some (.map es clock) => match (es.all fun e => Nat.blt e.born since) && Nat.ble since last with
          | true => match leftA es seen with
            | [] => some [(.tuple #[.bool false], H)]
            | e :: l => some (stepsA H a.block m since clock seen (e :: l))
          | false => none
        | _ => none
      | _ => none
    | false => none
  | _ => none
theorem stepsA_mem {H : Heap} {b m since clock : Nat} {seen : List Nat} : ∀ (l : List MapEntry) (e : MapEntry), e ∈ l → (Value.tuple #[.bool true, e.key, e.val], hset H b (.miter (some m) since (seen ++ [e.born]) clock)) ∈ stepsA H b m since clock seen l
  | e' :: l, e, h => by
    rcases List.mem_cons.1 h with rfl | h
    · exact List.mem_cons_self ..
    · exact List.mem_cons_of_mem _ (stepsA_mem l e h)
section
variable {P : Program} {p : Nat → Prop} {φ : Vl} {n : Nat} {H : Heap} {w : World} {fr : Fr} {a : Act} {o : Oper}
theorem leftOf_den (φ : Vl) (es : List MapEntry) (seen : List Nat) : (leftOf (es.map (denE φ)).toArray seen.toArray).toList = (leftA es seen).map (denE φ) := by
  simp only [leftOf, leftA, Array.toList_filter]
  rw [List.filter_map]
  congr 1
  congr 1
  funext e
  rw [Bool.eq_iff_iff]
  simp [denE]
  exact decide_eq_false_iff_not
theorem ok_nextM (hB : Base P p φ n (hget H) w fr a) {it : Operand} (ho : o.op = .next it false) {L : List (Value × Heap)} (h : nextA P it fr H = some L) :
    ∃ x ∈ L, Outc P p φ n (hget H) w ((execOp a.eval o).run P w) x.1 n (hget x.2) := by
  unfold nextA at h
  split at h
  · rename_i ad hx
    split at h
    · rename_i hoff
      have hoff := Nat.eq_of_beq_eq_true hoff
      have hx' := hB.evO hx
      split at h
      · rename_i s q l hb
        injection h with h; subst h
        have hblk := hB.rel.blk _ _ hb
        simp only [BRel, Option.map_none] at hblk
        refine ⟨_, List.mem_singleton_self _, .same hB.rel hB.sm ⟨trivial, trivial⟩ ?_⟩
        simp [execOp, ho, hx'.1, den, hoff, Instr.next, getObj, Sem.run, hblk, denL]
      · rename_i m since seen last hb
        split at h
        · rename_i es clock hm
          split at h
          · rename_i hc
            simp only [Bool.and_eq_true, List.all_eq_true] at hc
            have hblk := hB.rel.blk _ _ hb
            have hmap := hB.rel.blk _ _ hm
            simp only [BRel, Option.map_some] at hblk hmap
            have hN := run_next_at (P := P) w o.type (φ.loc ad.block) (φ.loc m) since last seen.toArray (es.map (denE φ)).toArray clock hblk hmap
              (fun x hx => by
                simp only [List.mem_map] at hx
                obtain ⟨e, he, rfl⟩ := hx
                exact (blt_iff _ _).1 (hc.1 e he)) (Nat.le_of_ble_eq_true hc.2)
            have hmem : ∀ e, e ∈ (leftOf (es.map (denE φ)).toArray seen.toArray).toList → ∃ e0 ∈ leftA es seen, denE φ e0 = e := fun e he => by
              rw [leftOf_den] at he
              exact List.mem_map.1 he
            split at h
            · rename_i hl
              injection h with h; subst h
              refine ⟨_, List.mem_singleton_self _, .same hB.rel hB.sm ⟨trivial, trivial⟩ ?_⟩
              rcases hN with ⟨_, hr⟩ | ⟨e, he, _⟩
              · have hs : den φ (.pointer (some ad)) = .pointer (some ⟨φ.loc ad.block, 0, none⟩) := by simp [den, hoff]
                simp [execOp, ho, hx'.1, hoff, hr, denL, den]
              · obtain ⟨e0, he0, _⟩ := hmem e he
                rw [hl] at he0; cases he0
            · rename_i e1 l1 hl
              injection h with h; subst h
              rcases hN with ⟨hz, _⟩ | ⟨e, he, w1, hw, hr⟩
              · have : (leftOf (es.map (denE φ)).toArray seen.toArray).toList = [] := by
                  rw [Array.toList_eq_nil_iff]; exact Array.eq_empty_of_size_eq_zero hz
                rw [leftOf_den, hl] at this
                cases this
              · obtain ⟨e0, he0, rfl⟩ := hmem e he
                have hes : e0 ∈ es := (List.mem_filter.1 he0).1
                have hsc := (hB.sm m _ hm).2 e0 hes
                have hpm := (hB.sm m _ hm).1
                have hheap : w1.heap = w.heap := by rcases hw with rfl | rfl <;> rfl
                refine ⟨_, stepsA_mem _ e0 (hl ▸ he0), ?_⟩
                rw [hget_hset_eq _ hb]
                refine ⟨(hB.sm.set hb (b := .miter (some m) since (seen ++ [e0.born]) clock) (fun r hr => by injection hr with hr; subst hr; exact hpm)).mono fun _ h => .inl h, ⟨trivial, sc_mono (fun _ h => .inl h) _ hsc.1, sc_mono (fun _ h => .inl h) _ hsc.2, trivial⟩, φ,
                  Go.ChangeMaps.setBlock w1 (φ.loc ad.block) (.mapIter (some (φ.loc m)) since (seen.toArray.push e0.born) clock), .inl ?_, Step.put hB.rel hb rfl rfl ?_ ?_ ?_ ?_ (fun i hi => ?_) ?_⟩
                · have hs : den φ (.pointer (some ad)) = .pointer (some ⟨φ.loc ad.block, 0, none⟩) := by simp [den, hoff]
                  simp [execOp, ho, hx'.1, hoff, hr, denL, den, denE]
                · rcases hw with rfl | rfl <;> rfl
                · rcases hw with rfl | rfl <;> rfl
                · rcases hw with rfl | rfl <;> rfl
                · simp [Go.ChangeMaps.setBlock, hheap]
                · simp [Go.ChangeMaps.setBlock, hheap, Array.getElem?_setIfInBounds_ne (Ne.symm hi)]
                · have hlt := hB.rel.lt hb
                  simp [Go.ChangeMaps.setBlock, hheap, hlt, BRel]
          · cases h
        · cases h
      · cases h
    · cases h
  · cases h
end

/-! ### code that may end in several ways -/
def NPost (P : Program) (p : Nat → Prop) (φ : Vl) (n : Nat) (M : Mp) (w : World) (L : List (Ex × St)) (e2 : Exit) (a' : Act) (w' : World) : Prop := ∃ y ∈ L, Post P p φ n M w y.1 y.2 e2 a' w'
def NT (P : Program) (ro : Option Nat) (c : Code) (st : St) (L : List (Ex × St)) : Prop :=
  ∀ p φ a w, SRel P p φ st a w → (∀ l, ro = some l → p l) → c.wpIn (fence φ ro) 0 P (NPost P p φ st.n (hget st.H) w L) a w
section
variable {P : Program} {ro : Option Nat} {st : St} {L : List (Ex × St)}
theorem NT.one {c : Code} {e : Ex} {st' : St} (h : AT P ro c st e st') : NT P ro c st [(e, st')] := fun p φ a w hS hl => wpIn_mono (h p φ a w hS hl) fun _ _ _ hh => ⟨_, List.mem_singleton_self _, hh⟩
theorem NT.then {b : Code} {st1 : St} {L2 : List (Ex × St)} (hb : NT P ro b st1 L2) (hsub : ∀ z ∈ L2, z ∈ L) {p : Nat → Prop} {φ : Vl} {n : Nat} {M : Mp} {w : World} (hp : ∀ k, p k → k < n) (hl : ∀ l, ro = some l → p l) {e2 : Exit} {a1 : Act} {w1 : World} (h : Post P p φ n M w .normal st1 e2 a1 w1) :
    b.wpIn (fence φ ro) 0 P (NPost P p φ n M w L) a1 w1 := by
  obtain ⟨_, φ1, hr, hs⟩ := h
  have := hb _ φ1 a1 w1 hr (fun l h => .inl (hl l h))
  rw [fence_step hs hp hl] at this
  exact wpIn_mono this fun _ _ _ ⟨z, hz, hh⟩ => ⟨z, hsub z hz, Post.trans hp hs hh⟩
/-- behind a first piece -/
def onN (P : Program) (ro : Option Nat) (b : Code) (L : List (Ex × St)) (y : Ex × St) : Prop := match y.1 with
  | .normal => ∃ L2, NT P ro b y.2 L2 ∧ ∀ z ∈ L2, z ∈ L
  | _ => y ∈ L
theorem NT.seq {x b : Code} {L1 : List (Ex × St)} (hx : NT P ro x st L1) (hy : ∀ y ∈ L1, onN P ro b L y) : NT P ro (.seq x b) st L := fun p φ a w h hl =>
  wpIn_seq (wpIn_mono (hx p φ a w h hl) fun e2 a1 w1 hh => by
    obtain ⟨⟨e, s1⟩, hm, hh⟩ := hh
    have hon := hy _ hm
    have he := hh.1
    subst he
    cases e with
    | normal =>
      obtain ⟨L2, hN, hsub⟩ := hon
      exact hN.then hsub h.base.lt hl hh
    | _ => exact ⟨_, hon, hh⟩)
theorem NT.cond {c : Operand} {x y : Code} {t : Bool} (hc : evO P st.fr c = some (.bool t)) (h : NT P ro (if t then x else y) st L) : NT P ro (.cond c x y) st L := fun p φ a w hs hl =>
  wpIn_cond (t := t) (by rw [(hs.base.evO hc).1, den]) (h p φ a w hs hl)
def blockN (id : Nat) : List (Ex × St) → List (Ex × St)
  | [] => []
  | (.exit j, s) :: l => (match Nat.beq j id with | true => .normal | false => .exit j, s) :: blockN id l
  | (e, s) :: l => (e, s) :: blockN id l
theorem blockN_mem {id : Nat} : ∀ {L : List (Ex × St)} {e : Ex} {s : St}, (e, s) ∈ L → ((match e with | .exit j => (match Nat.beq j id with | true => Ex.normal | false => .exit j) | e => e), s) ∈ blockN id L
  | (e', s') :: l, e, s, h => by
    rcases List.mem_cons.1 h with h | h
    · injection h with h1 h2; subst h1 h2
      cases e <;> exact List.mem_cons_self ..
    · have := blockN_mem (id := id) h
      cases e' <;> exact List.mem_cons_of_mem _ this
theorem NT.block {id : Nat} {b : Code} (h : NT P ro b st L) : NT P ro (.block id b) st (blockN id L) := fun p φ a w hs hl =>
  wpIn_block (wpIn_mono (h p φ a w hs hl) fun e2 a1 w1 hh => by
    obtain ⟨⟨e, s1⟩, hm, hh⟩ := hh
    have hm' := blockN_mem (id := id) hm
    have he := hh.1
    subst he
    cases e with
    | exit j =>
      cases hj : Nat.beq j id with
      | true =>
        have e1 := Nat.eq_of_beq_eq_true hj
        subst e1
        simp only [hj] at hm'
        simp only [Ex.to, Exit.inBlock, if_true]
        exact ⟨_, hm', rfl, hh.2⟩
      | false =>
        have hne : j ≠ id := fun e => by rw [e, Nat.beq_refl] at hj; cases hj
        simp only [hj] at hm'
        simp only [Ex.to, Exit.inBlock, hne, if_false]
        exact ⟨_, hm', hh⟩
    | _ => exact ⟨_, hm', hh⟩)
/-- a loop, so many rounds at most -/
def LN (P : Program) (ro : Option Nat) (b : Code) (k : Nat) (st : St) (L : List (Ex × St)) : Prop :=
  ∀ p φ a w, SRel P p φ st a w → (∀ l, ro = some l → p l) → ∀ Q : Exit → Act → World → Prop, (∀ e2 a' w', NPost P p φ st.n (hget st.H) w L e2 a' w' → Q e2 a' w') → LoopN (fence φ ro) 0 P b Q k a w
theorem LN.nt {b : Code} {k : Nat} (h : LN P ro b k st L) : NT P ro (.loop b) st L := fun p φ a w hS hl => (h p φ a w hS hl _ fun _ _ _ hh => hh).wpIn
def onL (P : Program) (ro : Option Nat) (b : Code) (k : Nat) (L : List (Ex × St)) (y : Ex × St) : Prop := match y.1 with
  | .normal => ∃ L2, LN P ro b k y.2 L2 ∧ ∀ z ∈ L2, z ∈ L
  | _ => y ∈ L
theorem LN.step {b : Code} {k : Nat} {L1 : List (Ex × St)} (hb : NT P ro b { st with fr := trim st.vs st.fr } L1) (hy : ∀ y ∈ L1, onL P ro b k L y) : LN P ro b (k + 1) st L := fun p φ a w hS hl Q hQ => by
  unfold LoopN
  refine wpIn_mono (hb p φ a w hS.trim hl) fun e2 a1 w1 hh => ?_
  obtain ⟨⟨e, s1⟩, hm, hh⟩ := hh
  have hon := hy _ hm
  have he := hh.1
  subst he
  cases e with
  | normal =>
    obtain ⟨L2, hN, hsub⟩ := hon
    obtain ⟨_, φ1, hr, hs⟩ := hh
    have := hN _ φ1 a1 w1 hr (fun l h => .inl (hl l h)) Q fun e3 a2 w2 hh2 => by
      obtain ⟨z, hz, hh2⟩ := hh2
      exact hQ _ _ _ ⟨z, hsub z hz, Post.trans hS.base.lt hs hh2⟩
    rw [fence_step hs hS.base.lt hl] at this
    exact this
  | _ => exact hQ _ _ _ ⟨_, hon, hh⟩
end

/-! ### regions that begin with 'next' -/
def opsN (P : Program) (r : Rec) (ops : Array Oper) (os : List Oper) (st : St) (d : Option Tmp) : List (Value × Heap) → Option (List (Ex × St))
  | [] => some []
  | (v, H) :: l => match opsF P r ops os { st with fr := putA st.fr d v, H := H } with
    | some s => match opsN P r ops os st d l with
      | some L => some ((.normal, s) :: L)
      | none => none
    | none => none
theorem opsN_mem {P : Program} {r : Rec} {ops : Array Oper} {os : List Oper} {st : St} {d : Option Tmp} : ∀ {l : List (Value × Heap)} {L : List (Ex × St)}, opsN P r ops os st d l = some L → ∀ x ∈ l, ∃ s, opsF P r ops os { st with fr := putA st.fr d x.1, H := x.2 } = some s ∧ (Ex.normal, s) ∈ L
  | (v, H) :: l, L, h, x, hx => by
    unfold opsN at h
    split at h
    · rename_i s hs
      split at h
      · rename_i L' hL
        injection h with h; subst h
        rcases List.mem_cons.1 hx with rfl | hx
        · exact ⟨s, hs, List.mem_cons_self ..⟩
        · obtain ⟨s', h1, h2⟩ := opsN_mem hL x hx
          exact ⟨s', h1, List.mem_cons_of_mem _ h2⟩
      · cases h
    · cases h
def nextOp : Op → Option Operand
  | .next it false => some it
  | _ => none
theorem nextOp_spec {o : Op} {it : Operand} (h : nextOp o = some it) : o = .next it false := by
  unfold nextOp at h
  split at h
  · injection h with h; rw [h]
  · cases h
def regN (P : Program) (r : Rec) (ops : Array Oper) (st : St) : Option (List (Ex × St)) :=
  match ops.toList with
  | [] => none
  | o :: os => match nextOp o.op, o.guard, dstOk st.sz o.dst with
    | some it, none, true => match nextA P it st.fr st.H with
      | some l => opsN P r ops os st o.dst l
      | none => none
    | _, _, _ => none
theorem NT.region {P : Program} {r : Rec} {m : Nat} (hr : RecOk P r m) {ro : Option Nat} {id : Nat} {ops : Array Oper} {st : St} {L : List (Ex × St)} (h : regN P r ops st = some L) : NT P ro (.region id ops false) st L := fun p φ a w hS hl => by
  unfold regN at h
  split at h
  · cases h
  rename_i o os hops
  split at h
  · rename_i it hit hg hd
    split at h
    · rename_i l hl'
      have hop := nextOp_spec hit
      refine wpIn_region ?_
      have hsz : ops.size = os.length + 1 := by rw [← Array.length_toList, hops]; rfl
      have h0 : ops[0]? = some o := by rw [← Array.getElem?_toList, hops]; rfl
      have hrange : List.range ops.size = 0 :: (List.range ops.size).drop 1 := by
        rw [hsz, List.range_succ_eq_map]; rfl
      show wpOpsIn (fence φ ro) 0 P ops _ (List.range ops.size) a w
      rw [hrange, wpOpsIn_cons]
      unfold wpOpIn
      rw [h0]
      simp only
      have hw : Region.wanted o (yielded ops a.tmps) = true := by simp [Region.wanted, hg]
      rw [hw]
      simp only [if_true]
      refine ⟨fun f _ => fence_fn _ _ f, ?_⟩
      rw [Oper.semAt_eq _ _ _ (fun c hc => by rw [hop] at hc; cases hc)]
      obtain ⟨x, hx, h1, h2, φ', w', hrun, hs⟩ := ok_nextM hS.base hop hl'
      obtain ⟨s, hs1, hmem⟩ := opsN_mem h x hx
      have go : ∀ (hv : (execOp a.eval o).run P w = .ok (.value (den φ' x.1)) w'), wpOpsIn (fence φ ro) 0 P ops (NPost P p φ st.n (hget st.H) w L) ((List.range ops.size).drop 1) (a.put o.dst (den φ' x.1)) w' := fun _ => by
        have hS1 := hS.put hd (v := x.1) (n' := st.n) (H' := x.2) ⟨h1, h2, hs⟩
        have hdrop : ops.toList.drop (ops.size - os.length) = os := by rw [hops, hsz]; simp
        have := opsF_ok hr φ ro (ops := ops) (Q := NPost P p φ st.n (hget st.H) w L) os.length _ _ φ' _ w' s (by omega) (by rw [hdrop]; exact hs1) hS1 fun φ2 a2 w2 hS2 hst2 =>
          ⟨_, hmem, rfl, φ2, hS2.mono (fun k hk => Nx.trans hs.le hst2.le hk) (fun k hk => Nx.lt hS.base.lt (Nat.le_trans hs.le hst2.le) hk), hs.trans hst2⟩
        rw [show ops.size - os.length = 1 by omega] at this
        exact this
      rcases hrun with hv | ⟨hv, hu⟩
      · rw [hv, Oper.uponIn_value]
        exact go hv
      · exfalso
        have : x.1 ≠ undefV := by
          have : ∀ l', nextA P it st.fr st.H = some l' → ∀ y ∈ l', y.1 ≠ undefV := by
            intro l' hl2 y hy
            have hst : ∀ (H : Heap) (b m since clock : Nat) (seen : List Nat) (es : List MapEntry), ∀ y ∈ stepsA H b m since clock seen es, y.1 ≠ undefV := by
              intro H b m since clock seen es
              induction es with
              | nil => intro y hy; cases hy
              | cons e es ih =>
                intro y hy
                rcases List.mem_cons.1 hy with rfl | hy
                · simp [undefV]
                · exact ih y hy
            unfold nextA at hl2
            split at hl2
            · split at hl2
              · split at hl2
                · injection hl2 with hl2; subst hl2; rw [List.mem_singleton] at hy; subst hy; simp [undefV]
                · split at hl2
                  · split at hl2
                    · split at hl2
                      · injection hl2 with hl2; subst hl2; rw [List.mem_singleton] at hy; subst hy; simp [undefV]
                      · injection hl2 with hl2; subst hl2; exact hst _ _ _ _ _ _ _ _ hy
                    · cases hl2
                  · cases hl2
                · cases hl2
              · cases hl2
            · cases hl2
          exact this l hl' x hx
        exact this hu
    · cases h
  · cases h

/-! ### the evaluator of such code -/
def bindN (f : Ex → St → Option (List (Ex × St))) : List (Ex × St) → Option (List (Ex × St))
  | [] => some []
  | (e, s) :: l => match f e s with
    | some x => match bindN f l with
      | some y => some (x ++ y)
      | none => none
    | none => none
theorem bindN_mem {f : Ex → St → Option (List (Ex × St))} : ∀ {l L : List (Ex × St)}, bindN f l = some L → ∀ y ∈ l, ∃ x, f y.1 y.2 = some x ∧ ∀ z ∈ x, z ∈ L
  | (e, s) :: l, L, h, y, hy => by
    unfold bindN at h
    split at h
    · rename_i x hx
      split at h
      · rename_i y' hy'
        injection h with h; subst h
        rcases List.mem_cons.1 hy with rfl | hy
        · exact ⟨x, hx, fun z hz => List.mem_append_left _ hz⟩
        · obtain ⟨x', h1, h2⟩ := bindN_mem hy' y hy
          exact ⟨x', h1, fun z hz => List.mem_append_right _ (h2 z hz)⟩
      · cases h
    · cases h
def onlyN (f : St → Option (List (Ex × St))) (e : Ex) (s : St) : Option (List (Ex × St)) := match e with
  | .normal => f s
  | e => some [(e, s)]
def evN (P : Program) (r : Rec) (ro : Option Nat) : Nat → Code → St → Option (List (Ex × St))
  | 0, _, _ => none
  | k + 1, c, st => match c with
    | .loop b => match evN P r ro k b { st with fr := trim st.vs st.fr } with
      | some l => bindN (onlyN fun s => evN P r ro k (.loop b) s) l
      | none => none
    | c => match r.code ro c st with
      | some x => some [x]
      | none => match c with
        | .region _ ops false => regN P r ops st
        | .seq a b => match evN P r ro k a st with
          | some l => bindN (onlyN fun s => evN P r ro k b s) l
          | none => none
        | .cond x a b => match evO P st.fr x with
          | some (.bool true) => evN P r ro k a st
          | some (.bool false) => evN P r ro k b st
          | _ => none
        | .block id b => match evN P r ro k b st with
          | some l => some (blockN id l)
          | none => none
        | _ => none
theorem evN_ok {P : Program} {r : Rec} {m : Nat} (hr : RecOk P r m) (ro : Option Nat) : ∀ (k : Nat),
    (∀ (c : Code) (st : St) (L : List (Ex × St)), evN P r ro k c st = some L → NT P ro c st L) ∧ (∀ (b : Code) (st : St) (L : List (Ex × St)), evN P r ro k (.loop b) st = some L → LN P ro b k st L)
  | 0 => ⟨fun c st L h => (by simp [evN] at h), fun b st L h => (by simp [evN] at h)⟩
  | k + 1 => by
    obtain ⟨ih1, ih2⟩ := evN_ok hr ro k
    have hloop : ∀ (b : Code) (st : St) (L : List (Ex × St)), evN P r ro (k + 1) (.loop b) st = some L → LN P ro b (k + 1) st L := fun b st L h => by
      simp only [evN] at h
      split at h
      · rename_i l hl
        refine LN.step (ih1 _ _ _ hl) fun y hy => ?_
        obtain ⟨x, hx, hsub⟩ := bindN_mem h y hy
        obtain ⟨e, s⟩ := y
        cases e with
        | normal => exact ⟨x, ih2 _ _ _ hx, hsub⟩
        | _ =>
          injection hx with hx
          subst hx
          exact hsub _ (List.mem_singleton_self _)
      · cases h
    refine ⟨fun c st L h => ?_, hloop⟩
    have hcode : ∀ (c : Code) (x : Ex × St), r.code ro c st = some x → NT P ro c st [x] := fun c x hx => NT.one (hr.code _ _ _ _ _ (by rw [hx]))
    cases c with
    | loop b => exact (hloop b st L h).nt
    | region id ops d =>
      simp only [evN] at h
      split at h
      · rename_i x hx
        injection h with h; subst h
        exact hcode _ _ hx
      · cases d with
        | false => exact NT.region hr h
        | true => cases h
    | seq a b =>
      simp only [evN] at h
      split at h
      · rename_i x hx
        injection h with h; subst h
        exact hcode _ _ hx
      · split at h
        · rename_i l hl
          refine NT.seq (ih1 _ _ _ hl) fun y hy => ?_
          obtain ⟨x, hx, hsub⟩ := bindN_mem h y hy
          obtain ⟨e, s⟩ := y
          cases e with
          | normal => exact ⟨x, ih1 _ _ _ hx, hsub⟩
          | _ =>
            injection hx with hx
            subst hx
            exact hsub _ (List.mem_singleton_self _)
        · cases h
    | cond x a b =>
      simp only [evN] at h
      split at h
      · rename_i x hx
        injection h with h; subst h
        exact hcode _ _ hx
      · split at h
        · rename_i hx
          exact NT.cond hx (ih1 _ _ _ h)
        · rename_i hx
          exact NT.cond hx (ih1 _ _ _ h)
        · cases h
    | block id b =>
      simp only [evN] at h
      split at h
      · rename_i x hx
        injection h with h; subst h
        exact hcode _ _ hx
      · split at h
        · rename_i l hl
          injection h with h; subst h
          exact NT.block (ih1 _ _ _ hl)
        · cases h
    | _ =>
      simp only [evN] at h
      split at h
      · rename_i x hx
        injection h with h; subst h
        exact hcode _ _ hx
      · cases h
/-- all ways lead to one state -/
theorem NT.join {P : Program} {ro : Option Nat} {c : Code} {st st0 : St} {e : Ex} {L : List (Ex × St)} (h : NT P ro c st L) (hj : ∀ y ∈ L, y.1 = e ∧ Leads P st.n y.2 st0) : AT P ro c st e st0 := fun p φ a w hS hl =>
  wpIn_mono (h p φ a w hS hl) fun e2 a' w' hh => by
    obtain ⟨⟨e', s⟩, hy, he, φ', hr, hs⟩ := hh
    obtain ⟨rfl, hlead⟩ := hj _ hy
    exact ⟨he, hlead p φ (hget st.H) w hS.base.gl hS.base.lt a' w' φ' hr hs⟩
end Go.Ab

/-
Equality of values and of memory, and names put anew by a list: told by a reckoning.
-/
namespace Go.Ab
open Go
def beqNo : Option Nat → Option Nat → Bool
  | none, b => b.isNone
  | some a, b => match b with
    | some b => Nat.beq a b
    | none => false
theorem beqNo_eq {a b : Option Nat} (h : beqNo a b = true) : a = b := by
  cases a <;> cases b <;> simp [beqNo] at h ⊢
  exact h
def beqAd (a b : Addr) : Bool := Nat.beq a.block b.block && Nat.beq a.off b.off && beqNo a.spot b.spot
theorem beqAd_eq {a b : Addr} (h : beqAd a b = true) : a = b := by
  obtain ⟨x, y, z⟩ := a
  obtain ⟨x', y', z'⟩ := b
  simp only [beqAd, Bool.and_eq_true] at h
  have h1 := Nat.eq_of_beq_eq_true h.1.1
  have h2 := Nat.eq_of_beq_eq_true h.1.2
  have h3 := beqNo_eq h.2
  subst h1 h2 h3
  rfl
def beqAo : Option Addr → Option Addr → Bool
  | none, b => b.isNone
  | some a, b => match b with
    | some b => beqAd a b
    | none => false
theorem beqAo_eq {a b : Option Addr} (h : beqAo a b = true) : a = b := by
  cases a <;> cases b <;> simp [beqAo] at h ⊢
  exact beqAd_eq h
mutual
def beqV : Value → Value → Bool
  | .bool a, w => match w with
    | .bool b => decide (a = b)
    | _ => false
  | .int k a, w => match w with
    | .int l b => decide (k = l) && decide (a = b)
    | _ => false
  | .float k a, w => match w with
    | .float l b => decide (k = l) && Nat.beq a b
    | _ => false
  | .string a, w => match w with
    | .string b => decide (a.data.toList = b.data.toList)
    | _ => false
  | .pointer a, w => match w with
    | .pointer b => beqAo a b
    | _ => false
  | .slice a l c, w => match w with
    | .slice b l' c' => beqAo a b && Nat.beq l l' && Nat.beq c c'
    | _ => false
  | .map a, w => match w with
    | .map b => beqNo a b
    | _ => false
  | .nilFunc, w => match w with
    | .nilFunc => true
    | _ => false
  | .nilIface, w => match w with
    | .nilIface => true
    | _ => false
  | .agg a, w => match w with
    | .agg b => beqL a.toList b.toList
    | _ => false
  | .tuple a, w => match w with
    | .tuple b => beqL a.toList b.toList
    | _ => false
  | _, _ => false
def beqL : List Value → List Value → Bool
  | [], ys => match ys with
    | [] => true
    | _ :: _ => false
  | x :: xs, ys => match ys with
    | [] => false
    | y :: ys => beqV x y && beqL xs ys
end
theorem toList_inj {α : Type} {a b : Array α} (h : a.toList = b.toList) : a = b := by
  cases a; cases b; simp at h; rw [h]
mutual
theorem beqV_eq : ∀ (v w : Value), beqV v w = true → v = w
  | .bool a, w, h => by
    cases w <;> simp [beqV] at h ⊢
    exact h
  | .int k a, w, h => by
    cases w <;> simp [beqV] at h ⊢
    exact h
  | .float k a, w, h => by
    cases w <;> simp [beqV] at h ⊢
    exact h
  | .string a, w, h => by
    cases w <;> simp [beqV] at h ⊢
    rename_i b
    obtain ⟨a⟩ := a
    obtain ⟨b⟩ := b
    simp at h ⊢
    exact h
  | .pointer a, w, h => by
    cases w <;> simp [beqV] at h ⊢
    exact beqAo_eq h
  | .slice a l c, w, h => by
    cases w <;> simp [beqV] at h ⊢
    exact ⟨beqAo_eq h.1.1, h.1.2, h.2⟩
  | .map a, w, h => by
    cases w <;> simp [beqV] at h ⊢
    exact beqNo_eq h
  | .nilFunc, w, h => by cases w <;> simp [beqV] at h ⊢
  | .nilIface, w, h => by cases w <;> simp [beqV] at h ⊢
  | .agg a, w, h => by
    cases w <;> simp [beqV] at h ⊢
    exact toList_inj (beqL_eq _ _ h)
  | .tuple a, w, h => by
    cases w <;> simp [beqV] at h ⊢
    exact toList_inj (beqL_eq _ _ h)
  | .complex _ _ _, w, h => by simp [beqV] at h
  | .chan _, w, h => by simp [beqV] at h
  | .func _ _ _, w, h => by simp [beqV] at h
  | .iface _ _, w, h => by simp [beqV] at h
theorem beqL_eq : ∀ (v w : List Value), beqL v w = true → v = w
  | [], w, h => by cases w <;> simp [beqL] at h ⊢
  | x :: xs, w, h => by
    cases w <;> simp [beqL] at h ⊢
    exact ⟨beqV_eq _ _ h.1, beqL_eq _ _ h.2⟩
end
def beqE : List MapEntry → List MapEntry → Bool
  | [], ys => match ys with
    | [] => true
    | _ :: _ => false
  | x :: xs, ys => match ys with
    | [] => false
    | y :: ys => beqV x.key y.key && beqV x.val y.val && Nat.beq x.born y.born && beqE xs ys
theorem beqE_eq : ∀ (v w : List MapEntry), beqE v w = true → v = w
  | [], w, h => by cases w <;> simp [beqE] at h ⊢
  | x :: xs, w, h => by
    cases w with
    | nil => simp [beqE] at h
    | cons y ys =>
      simp only [beqE, Bool.and_eq_true] at h
      obtain ⟨k, v, b⟩ := x
      obtain ⟨k', v', b'⟩ := y
      have h1 := beqV_eq _ _ h.1.1.1
      have h2 := beqV_eq _ _ h.1.1.2
      have h3 := Nat.eq_of_beq_eq_true h.1.2
      simp only at h1 h2 h3
      subst h1 h2 h3
      rw [beqE_eq _ _ h.2]
def beqB : Blk → Blk → Bool
  | .cells a t, w => match w with
    | .cells b u => beqL a b && Nat.beq t u
    | _ => false
  | .ext a t z, w => match w with
    | .ext b u y => beqL a b && Nat.beq t u && Nat.beq z y
    | _ => false
  | .inp o a, w => match w with
    | .inp q b => Nat.beq o q && beqL a b
    | _ => false
  | .tab a, w => match w with
    | .tab b => beqL a b
    | _ => false
  | .row a z, w => match w with
    | .row b y => beqL a b && Nat.beq z y
    | _ => false
  | .map a c, w => match w with
    | .map b d => beqE a b && Nat.beq c d
    | _ => false
  | _, _ => false
theorem beqB_eq : ∀ (v w : Blk), beqB v w = true → v = w
  | .cells a t, w, h => by
    cases w <;> simp [beqB] at h ⊢
    exact ⟨beqL_eq _ _ h.1, h.2⟩
  | .ext a t z, w, h => by
    cases w <;> simp [beqB] at h ⊢
    exact ⟨beqL_eq _ _ h.1.1, h.1.2, h.2⟩
  | .inp o a, w, h => by
    cases w <;> simp [beqB] at h ⊢
    exact ⟨h.1, beqL_eq _ _ h.2⟩
  | .row a z, w, h => by
    cases w <;> simp [beqB] at h ⊢
    exact ⟨beqL_eq _ _ h.1, h.2⟩
  | .tab a, w, h => by
    cases w <;> simp [beqB] at h ⊢
    exact beqL_eq _ _ h
  | .map a c, w, h => by
    cases w <;> simp [beqB] at h ⊢
    exact ⟨beqE_eq _ _ h.1, h.2⟩
  | .iter .., w, h => by simp [beqB] at h
  | .miter .., w, h => by simp [beqB] at h
  | .defd, w, h => by simp [beqB] at h
  | .loop .., w, h => by simp [beqB] at h
def beqH : Heap → Heap → Bool
  | [], ys => match ys with
    | [] => true
    | _ :: _ => false
  | (k, x) :: xs, ys => match ys with
    | [] => false
    | (j, y) :: ys => Nat.beq k j && beqB x y && beqH xs ys
theorem beqH_eq : ∀ (v w : Heap), beqH v w = true → v = w
  | [], w, h => by cases w <;> simp [beqH] at h ⊢
  | (k, x) :: xs, w, h => by
    cases w with
    | nil => simp [beqH] at h
    | cons y ys =>
      obtain ⟨j, y⟩ := y
      simp only [beqH, Bool.and_eq_true] at h
      rw [Nat.eq_of_beq_eq_true h.1.1, beqB_eq _ _ h.1.2, beqH_eq _ _ h.2]
/- every name lies below 'n' -/
mutual
def scb (n : Nat) : Value → Bool
  | .pointer a => match a with
    | some a => Nat.blt a.block n
    | none => true
  | .slice a _ _ => match a with
    | some a => Nat.blt a.block n
    | none => true
  | .map r => match r with
    | some r => Nat.blt r n
    | none => true
  | .bool _ | .int _ _ | .float _ _ | .string _ | .nilFunc | .nilIface => true
  | .agg cs => scbL n cs.toList
  | .tuple cs => scbL n cs.toList
  | _ => false
def scbL (n : Nat) : List Value → Bool
  | [] => true
  | v :: vs => scb n v && scbL n vs
end
mutual
theorem scb_ok (n : Nat) : ∀ v, scb n v = true → sc (· < n) v
  | .pointer none, _ | .slice none _ _, _ | .map none, _ => by simp [sc]
  | .pointer (some _), h | .slice (some _) _ _, h | .map (some _), h => by
    simp only [scb] at h
    exact (blt_iff _ _).1 h
  | .bool _, _ | .int _ _, _ | .float _ _, _ | .string _, _ | .nilFunc, _ | .nilIface, _ => by simp [sc]
  | .agg cs, h => by simp only [scb, sc] at *; exact scbL_ok n _ h
  | .tuple cs, h => by simp only [scb, sc] at *; exact scbL_ok n _ h
  | .complex _ _ _, h => by simp [scb] at h
  | .chan _, h => by simp [scb] at h
  | .func _ _ _, h => by simp [scb] at h
  | .iface _ _, h => by simp [scb] at h
theorem scbL_ok (n : Nat) : ∀ vs, scbL n vs = true → scL (· < n) vs
  | [], _ => trivial
  | v :: vs, h => by
    simp only [scbL, Bool.and_eq_true] at h
    exact ⟨scb_ok n v h.1, scbL_ok n vs h.2⟩
end
def scbE (n : Nat) : List MapEntry → Bool
  | [] => true
  | e :: es => scb n e.key && scb n e.val && scbE n es
theorem scbE_ok (n : Nat) : ∀ es, scbE n es = true → ∀ e ∈ es, sc (· < n) e.key ∧ sc (· < n) e.val
  | [], _, _, h => by cases h
  | x :: xs, h, e, he => by
    simp only [scbE, Bool.and_eq_true] at h
    rcases List.mem_cons.1 he with rfl | he
    · exact ⟨scb_ok n _ h.1.1, scb_ok n _ h.1.2⟩
    · exact scbE_ok n xs h.2 e he
def scbB (n : Nat) : Blk → Bool
  | .cells cs _ | .ext cs _ _ | .inp _ cs | .row cs _ | .tab cs => scbL n cs
  | .map es _ => scbE n es
  | _ => false
theorem scbB_ok {n : Nat} : ∀ {b : Blk}, scbB n b = true → scB (· < n) b ∧ carried b
  | .cells _ _, h | .ext _ _ _, h | .inp _ _, h | .row _ _, h | .tab _, h => ⟨scbL_ok n _ h, trivial⟩
  | .map _ _, h => ⟨scbE_ok n _ h, trivial⟩
  | .iter .., h => by simp [scbB] at h
  | .miter .., h => by simp [scbB] at h
  | .defd, h => by simp [scbB] at h
  | .loop .., h => by simp [scbB] at h
def frOk (n0 : Nat) (olds : List Nat) (s : St) (n : Nat) : Fr → Bool
  | [] => true
  | (t, v) :: l => (match lk s.fr t with
    | some u => beqV u (ren (rnm n0 olds) v)
    | none => false) && scb n v && frOk n0 olds s n l
theorem frOk_ok {n0 : Nat} {olds : List Nat} {s : St} {n : Nat} : ∀ {fr : Fr}, frOk n0 olds s n fr = true → ∀ x ∈ fr, lk s.fr x.1 = some (ren (rnm n0 olds) x.2) ∧ sc (· < n) x.2
  | (t, v) :: l, h, x, hx => by
    simp only [frOk, Bool.and_eq_true] at h
    rcases List.mem_cons.1 hx with rfl | hx
    · refine ⟨?_, scb_ok n _ h.1.2⟩
      have h1 := h.1.1
      split at h1
      · rename_i u hu
        rw [hu, beqV_eq _ _ h1]
      · cases h1
    · exact frOk_ok h.2 x hx
def heapOk (n0 : Nat) (olds : List Nat) (s : St) (n : Nat) : Heap → Bool
  | [] => true
  | (k, b) :: l => Nat.blt k n && (match hget s.H (rnm n0 olds k) with
    | some c => beqB c (renB (rnm n0 olds) b)
    | none => false) && scbB n b && (b.own || (Nat.beq (rnm n0 olds k) k && beqB (renB (rnm n0 olds) b) b)) && heapOk n0 olds s n l
theorem heapOk_ok {n0 : Nat} {olds : List Nat} {s : St} {n : Nat} : ∀ {H : Heap}, heapOk n0 olds s n H = true →
    ∀ x ∈ H, x.1 < n ∧ hget s.H (rnm n0 olds x.1) = some (renB (rnm n0 olds) x.2) ∧ scB (· < n) x.2 ∧ carried x.2 ∧ (x.2.own = false → rnm n0 olds x.1 = x.1 ∧ renB (rnm n0 olds) x.2 = x.2)
  | (k, b) :: l, h, x, hx => by
    simp only [heapOk, Bool.and_eq_true] at h
    rcases List.mem_cons.1 hx with rfl | hx
    · obtain ⟨⟨⟨⟨h1, h2⟩, h3⟩, h4⟩, _⟩ := h
      refine ⟨(blt_iff _ _).1 h1, ?_, (scbB_ok h3).1, (scbB_ok h3).2, fun ho => ?_⟩
      · split at h2
        · rename_i u hu
          rw [hu, beqB_eq _ _ h2]
        · cases h2
      · simp only at ho h4
        rw [ho, Bool.false_or, Bool.and_eq_true] at h4
        exact ⟨Nat.eq_of_beq_eq_true h4.1, beqB_eq _ _ h4.2⟩
    · exact heapOk_ok h.2 x hx
def renOk (n0 : Nat) (olds : List Nat) (s s2 : St) : Bool := oldsOk n0 s.n olds && Nat.beq s2.n (n0 + olds.length) && Nat.beq s2.sz s.sz && s.marks.isEmpty && s2.marks.isEmpty && frOk n0 olds s s2.n s2.fr && heapOk n0 olds s s2.n s2.H
theorem renOk_leads {P : Program} {n0 : Nat} {olds : List Nat} {s s2 : St} (h : renOk n0 olds s s2 = true) : Leads P n0 s s2 := by
  simp only [renOk, Bool.and_eq_true, List.isEmpty_iff] at h
  obtain ⟨⟨⟨⟨⟨⟨h1, h2⟩, h3⟩, h4⟩, h5⟩, h6⟩, h7⟩ := h
  exact Leads.ren olds h1 (Nat.eq_of_beq_eq_true h2) (Nat.eq_of_beq_eq_true h3) ⟨h4, h5⟩ (frOk_ok h6) (heapOk_ok h7)
/-! ### the names that lie behind a value, in the order in which they are met -/
def namesV : Value → List Nat
  | .pointer (some a) => [a.block]
  | .slice (some a) _ _ => [a.block]
  | .map (some r) => [r]
  | _ => []
def namesW : Value → List Nat
  | .agg cs => cs.toList.flatMap namesV
  | .tuple cs => cs.toList.flatMap namesV
  | v => namesV v
def namesB : Blk → List Nat
  | .cells cs _ | .ext cs _ _ | .inp _ cs | .row cs _ | .tab cs => cs.flatMap namesW
  | .map es _ => es.flatMap fun e => namesW e.val
  | _ => []
def metN (H : Heap) (n0 : Nat) : Nat → List Nat → List Nat → List Nat
  | 0, _, acc => acc
  | _ + 1, [], acc => acc
  | k + 1, x :: xs, acc => match Nat.blt x n0 || memN acc x with
    | true => metN H n0 k xs acc
    | false => metN H n0 k ((match hget H x with | some b => namesB b | none => []) ++ xs) (acc ++ [x])
/-- all ways lead to one state: each under names of its own -/
def joinB (n0 : Nat) (s0 : St) : List (Ex × St) → Bool
  | [] => true
  | (.ret, s) :: l => renOk n0 (metN s.H n0 200 (s.fr.flatMap fun x => match Nat.beq x.1 (match s0.fr with | (t, _) :: _ => t | [] => 0) with | true => namesW x.2 | false => []) []) s s0 && joinB n0 s0 l
  | _ => false
theorem joinB_ok {P : Program} {n0 : Nat} {s0 : St} : ∀ {L : List (Ex × St)}, joinB n0 s0 L = true → ∀ y ∈ L, y.1 = .ret ∧ Leads P n0 y.2 s0
  | (e, s) :: l, h, y, hy => by
    cases e with
    | ret =>
      simp only [joinB, Bool.and_eq_true] at h
      rcases List.mem_cons.1 hy with rfl | hy
      · exact ⟨rfl, renOk_leads h.1⟩
      · exact joinB_ok h.2 y hy
    | _ => simp [joinB] at h
end Go.Ab

/-
The greatest integer whose square is at most a number, found by halving.
-/
namespace Go.Ab
def isqF : Nat → Nat → Nat → Nat → Nat
  | 0, lo, _, _ => lo
  | k + 1, lo, hi, n => if lo < hi then (if ((lo + hi + 1) / 2) * ((lo + hi + 1) / 2) ≤ n then isqF k ((lo + hi + 1) / 2) hi n else isqF k lo ((lo + hi + 1) / 2 - 1) n) else lo
/-- the root of a number below 2^40 -/
def isq (n : Nat) : Nat := isqF 21 0 1048576 n
def IsR (n r : Nat) : Prop := r * r ≤ n ∧ n < (r + 1) * (r + 1)
theorem IsR.le {n m r s : Nat} (h : IsR n r) (h' : IsR m s) (hn : n ≤ m) : r ≤ s := by
  by_cases hc : r ≤ s
  · exact hc
  · have : (s + 1) * (s + 1) ≤ r * r := Nat.mul_le_mul (by omega) (by omega)
    have := h.1
    have := h'.2
    omega
theorem IsR.unique {n r s : Nat} (h : IsR n r) (h' : IsR n s) : r = s := Nat.le_antisymm (h.le h' (Nat.le_refl _)) (h'.le h (Nat.le_refl _))
theorem isqF_spec : ∀ (k lo hi n : Nat), lo ≤ hi → hi - lo < 2 ^ k → lo * lo ≤ n → n < (hi + 1) * (hi + 1) → IsR n (isqF k lo hi n)
  | 0, lo, hi, n, h, hk, h1, h2 => by
    obtain rfl : lo = hi := by simp at hk; omega
    exact ⟨h1, h2⟩
  | k + 1, lo, hi, n, h, hk, h1, h2 => by
    unfold isqF
    rw [Nat.pow_succ] at hk
    split
    · rename_i hlt
      split
      · rename_i hm
        exact isqF_spec k _ hi n (by omega) (by omega) hm h2
      · rename_i hm
        refine isqF_spec k lo _ n (by omega) (by omega) h1 ?_
        rw [show (lo + hi + 1) / 2 - 1 + 1 = (lo + hi + 1) / 2 by omega]
        omega
    · obtain rfl : lo = hi := by omega
      exact ⟨h1, h2⟩
theorem isq_spec {n : Nat} (h : n < 2 ^ 40) : IsR n (isq n) := isqF_spec 21 0 1048576 n (by omega) (by decide) (by omega) (by omega)
theorem isq_eq {n r : Nat} (hn : n < 2 ^ 40) (h : IsR n r) : isq n = r := (isq_spec hn).unique h
theorem isq_mono {n m : Nat} (hm : m < 2 ^ 40) (h : n ≤ m) : isq n ≤ isq m := (isq_spec (by omega)).le (isq_spec hm) h
theorem isq_sq {t : Nat} (h : t * t < 2 ^ 40) : isq (t * t) = t := isq_eq h ⟨Nat.le_refl _, Nat.mul_lt_mul'' (Nat.lt_succ_self _) (Nat.lt_succ_self _)⟩
end Go.Ab
