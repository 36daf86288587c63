/-
An abstract evaluator of code, its rules and its views of memory: no program in sight (no condition).
-/
import Derived.Test.YtljglocehbccnaaAg
import Derived.Test.YtljglocehbccnaaAh
/-
Plain laws of a stable sort by insertion: its result is the only list in order, whatever made it.
-/
namespace Go.Soft
section
variable {α : Type} (vol : α → Int)
/-- an element put into a list that lies backwards, the greatest first -/
def insR (x : α) : List α → List α
  | [] => [x]
  | y :: ys => if vol x < vol y then y :: insR x ys else x :: y :: ys
def srtR (l : List α) : List α := l.foldl (fun acc x => insR vol x acc) []
end
section
variable {α β : Type} {vol : α → Int} {f : β → α}
theorem insR_map (x : β) : ∀ l : List β, insR vol (f x) (l.map f) = (insR (fun i => vol (f i)) x l).map f
  | [] => rfl
  | y :: ys => by
    simp only [List.map_cons, insR]
    split
    · rw [insR_map x ys]; rfl
    · rfl
theorem foldl_map (l : List β) : ∀ acc : List β, (l.map f).foldl (fun acc x => insR vol x acc) (acc.map f) = (l.foldl (fun acc x => insR (fun i => vol (f i)) x acc) acc).map f := by
  induction l with
  | nil => intro acc; rfl
  | cons x l ih =>
    intro acc
    simp only [List.map_cons, List.foldl_cons]
    rw [insR_map, ih]
theorem srtR_map (l : List β) : srtR vol (l.map f) = (srtR (fun i => vol (f i)) l).map f := foldl_map l []
theorem insR_mem {x y : α} : ∀ {l : List α}, y ∈ insR vol x l ↔ y = x ∨ y ∈ l
  | [] => by simp [insR]
  | z :: zs => by
    rw [insR]
    split
    · rw [List.mem_cons, insR_mem (l := zs), List.mem_cons]
      constructor
      · rintro (h | h | h)
        · exact .inr (.inl h)
        · exact .inl h
        · exact .inr (.inr h)
      · rintro (h | h | h)
        · exact .inr (.inl h)
        · exact .inl h
        · exact .inr (.inr h)
    · rw [List.mem_cons]
theorem insR_len {x : α} : ∀ l : List α, (insR vol x l).length = l.length + 1
  | [] => rfl
  | z :: zs => by
    rw [insR]
    split
    · simp [insR_len zs]
    · rfl
theorem foldl_len (l : List α) : ∀ acc : List α, (l.foldl (fun acc x => insR vol x acc) acc).length = acc.length + l.length := by
  induction l with
  | nil => intro acc; rfl
  | cons x l ih =>
    intro acc
    rw [List.foldl_cons, ih, insR_len, List.length_cons]
    omega
theorem srtR_len (l : List α) : (srtR vol l).length = l.length := by
  unfold srtR
  rw [foldl_len]
  simp
theorem foldl_mem {y : α} (l : List α) : ∀ acc : List α, y ∈ l.foldl (fun acc x => insR vol x acc) acc ↔ y ∈ acc ∨ y ∈ l := by
  induction l with
  | nil => intro acc; simp
  | cons x l ih =>
    intro acc
    rw [List.foldl_cons, ih, insR_mem, List.mem_cons]
    constructor
    · rintro ((h | h) | h)
      · exact .inr (.inl h)
      · exact .inl h
      · exact .inr (.inr h)
    · rintro (h | h | h)
      · exact .inl (.inr h)
      · exact .inl (.inl h)
      · exact .inr h
theorem srtR_mem {y : α} (l : List α) : y ∈ srtR vol l ↔ y ∈ l := by
  unfold srtR
  rw [foldl_mem]
  simp
end
/-! ### the only list in order -/
section
variable (vol : Nat → Int)
def Lt (a b : Nat) : Prop := vol a < vol b ∨ (vol a = vol b ∧ a < b)
end
section
variable {vol : Nat → Int}
theorem Lt.asymm {a b : Nat} (h : Lt vol a b) (h' : Lt vol b a) : False := by
  rcases h with h | ⟨h1, h2⟩ <;> rcases h' with h' | ⟨h3, h4⟩ <;> omega
theorem Lt.trans {a b c : Nat} (h : Lt vol a b) (h' : Lt vol b c) : Lt vol a c := by
  unfold Lt at *
  rcases h with h | ⟨h1, h2⟩ <;> rcases h' with h' | ⟨h3, h4⟩
  · exact .inl (by omega)
  · exact .inl (by omega)
  · exact .inl (by omega)
  · exact .inr ⟨by omega, by omega⟩
theorem only : ∀ {l m : List Nat}, l.Pairwise (Lt vol) → m.Pairwise (Lt vol) → (∀ x, x ∈ l ↔ x ∈ m) → l = m
  | [], [], _, _, _ => rfl
  | [], b :: m, _, _, h => by
    have := (h b).2 (List.mem_cons_self ..)
    cases this
  | a :: l, [], _, _, h => by
    have := (h a).1 (List.mem_cons_self ..)
    cases this
  | a :: l, b :: m, h1, h2, h => by
    rw [List.pairwise_cons] at h1 h2
    have e : a = b := by
      rcases List.mem_cons.1 ((h a).1 (List.mem_cons_self ..)) with e | h3
      · exact e
      · rcases List.mem_cons.1 ((h b).2 (List.mem_cons_self ..)) with e | h4
        · exact e.symm
        · exact absurd (h1.1 b h4) fun h5 => Lt.asymm h5 (h2.1 a h3)
    subst e
    congr 1
    refine only h1.2 h2.2 fun x => ⟨fun hx => ?_, fun hx => ?_⟩
    · rcases List.mem_cons.1 ((h x).1 (List.mem_cons_of_mem _ hx)) with e | h3
      · subst e; exact absurd (h1.1 x hx) fun h5 => Lt.asymm h5 h5
      · exact h3
    · rcases List.mem_cons.1 ((h x).2 (List.mem_cons_of_mem _ hx)) with e | h3
      · subst e; exact absurd (h2.1 x hx) fun h5 => Lt.asymm h5 h5
      · exact h3
/-- put in, what is in order backwards stays so, if the new one is the last of its kind -/
theorem insR_ord {x : Nat} : ∀ {l : List Nat}, l.Pairwise (fun a b => Lt vol b a) → (∀ y ∈ l, y < x) → (insR vol x l).Pairwise (fun a b => Lt vol b a)
  | [], _, _ => by simp [insR]
  | y :: ys, h, hx => by
    rw [List.pairwise_cons] at h
    rw [insR]
    split
    · rename_i hlt
      rw [List.pairwise_cons]
      refine ⟨fun z hz => ?_, insR_ord h.2 fun z hz => hx z (List.mem_cons_of_mem _ hz)⟩
      rcases insR_mem.1 hz with rfl | hz
      · exact .inl hlt
      · exact h.1 z hz
    · rename_i hge
      have hy : Lt vol y x := by
        have := hx y (List.mem_cons_self ..)
        unfold Lt
        omega
      rw [List.pairwise_cons]
      refine ⟨fun z hz => ?_, List.pairwise_cons.2 h⟩
      rcases List.mem_cons.1 hz with rfl | hz
      · exact hy
      · exact (h.1 z hz).trans hy
theorem foldl_ord (l : List Nat) : ∀ acc : List Nat, acc.Pairwise (fun a b => Lt vol b a) → l.Pairwise (· < ·) → (∀ a ∈ acc, ∀ x ∈ l, a < x) → (l.foldl (fun acc x => insR vol x acc) acc).Pairwise (fun a b => Lt vol b a) := by
  induction l with
  | nil => intro acc h _ _; exact h
  | cons x l ih =>
    intro acc h hl hx
    rw [List.pairwise_cons] at hl
    refine ih _ (insR_ord h fun y hy => hx y hy x (List.mem_cons_self ..)) hl.2 fun a ha z hz => ?_
    rcases insR_mem.1 ha with rfl | ha
    · exact hl.1 z hz
    · exact hx a ha z (List.mem_cons_of_mem _ hz)
/-- the list of the numbers below 'n', by their volumes, equal ones in their order -/
def byVol (vol : Nat → Int) (n : Nat) : List Nat := (srtR vol (List.range n)).reverse
theorem byVol_ord (n : Nat) : (byVol vol n).Pairwise (Lt vol) := by
  unfold byVol srtR
  rw [List.pairwise_reverse]
  exact foldl_ord _ _ List.Pairwise.nil List.pairwise_lt_range fun a ha => by cases ha
theorem byVol_mem {n x : Nat} : x ∈ byVol vol n ↔ x < n := by
  unfold byVol
  rw [List.mem_reverse, srtR_mem, List.mem_range]
/-- by buckets: the volumes from 'v' on, so many -/
def bucket (vol : Nat → Int) (n : Nat) : Nat → Int → List Nat
  | 0, _ => []
  | k + 1, v => (List.range n).filter (fun i => decide (vol i = v)) ++ bucket vol n k (v + 1)
theorem bucket_mem {n x : Nat} : ∀ (k : Nat) (v : Int), x ∈ bucket vol n k v ↔ x < n ∧ v ≤ vol x ∧ vol x < v + k
  | 0, v => by simp [bucket]
  | k + 1, v => by
    rw [bucket, List.mem_append, List.mem_filter, List.mem_range, bucket_mem k (v + 1)]
    simp only [decide_eq_true_eq]
    omega
theorem bucket_ord (n : Nat) : ∀ (k : Nat) (v : Int), (bucket vol n k v).Pairwise (Lt vol)
  | 0, _ => List.Pairwise.nil
  | k + 1, v => by
    rw [bucket, List.pairwise_append]
    refine ⟨?_, bucket_ord n k (v + 1), fun a ha b hb => ?_⟩
    · have h1 : ((List.range n).filter fun i => decide (vol i = v)).Pairwise (· < ·) := List.Pairwise.filter _ List.pairwise_lt_range
      refine List.Pairwise.imp_of_mem (fun {a b} ha hb hab => ?_) h1
      rw [List.mem_filter] at ha hb
      simp only [decide_eq_true_eq] at ha hb
      exact .inr ⟨by omega, hab⟩
    · rw [List.mem_filter] at ha
      simp only [decide_eq_true_eq] at ha
      have := (bucket_mem k (v + 1)).1 hb
      exact .inl (by omega)
theorem bucket_eq {n : Nat} {k : Nat} (h : ∀ i, i < n → 1 ≤ vol i ∧ vol i ≤ k) : bucket vol n k 1 = byVol vol n :=
  only (bucket_ord n k 1) (byVol_ord n) fun x => by
    rw [bucket_mem, byVol_mem]
    constructor
    · exact fun h => h.1
    · intro hx
      have := h x hx
      exact ⟨hx, this.1, by omega⟩
end
end Go.Soft

/-
A list of one-cell elements without addresses that is made by appends, at a heap that is not named.
-/
namespace Go.Ab
open Go
def outC (n : Nat) (l : List Value) : Value := if l = [] then .slice none 0 0 else .slice (some ⟨n, 0, some 0⟩) l.length 0
def outCB (n t : Nat) (l : List Value) : Heap := if l = [] then [] else [(n, .ext l t 1)]
@[simp] theorem outC_nil {n : Nat} : outC n [] = .slice none 0 0 := rfl
@[simp] theorem outCB_nil {n t : Nat} : outCB n t [] = [] := rfl
theorem outC_ne {n : Nat} {l : List Value} (h : l ≠ []) : outC n l = .slice (some ⟨n, 0, some 0⟩) l.length 0 := if_neg h
theorem outCB_ne {n t : Nat} {l : List Value} (h : l ≠ []) : outCB n t l = [(n, .ext l t 1)] := if_neg h
theorem hget_outC {n t k : Nat} {l : List Value} {H : Heap} (h : k ≠ n) : hget (outCB n t l ++ H) k = hget H k := by
  unfold outCB
  split
  · rfl
  · show hget ((n, _) :: H) k = _
    rw [hget_cons, if_neg (fun e => h e.symm)]
theorem sub_outC {n t : Nat} {l : List Value} {H : Heap} (h : hget H n = none) : Sub H (outCB n t l ++ H) := by
  unfold outCB
  split
  · exact Sub.refl _
  · exact Sub.cons h (Sub.refl _)
theorem sc_outC {n : Nat} {p : Nat → Prop} {l : List Value} (h : p n) : sc p (outC n l) := by
  unfold outC
  split
  · trivial
  · exact h
theorem ren_outC {n m : Nat} {ρ : Nat → Nat} {l : List Value} (h : ρ n = m) : ren ρ (outC n l) = outC m l := by
  unfold outC
  split
  · rfl
  · simp [ren, h]
mutual
theorem ren_af (ρ : Nat → Nat) : ∀ v, af v = true → ren ρ v = v
  | .bool _, _ | .int _ _, _ | .float _ _, _ | .complex _ _ _, _ | .string _, _ | .nilFunc, _ | .nilIface, _ | .chan _, _ => by simp [ren]
  | .pointer none, _ | .slice none _ _, _ | .map none, _ => by simp [ren]
  | .pointer (some a), hs | .slice (some _) _ _, hs | .map (some r), hs | .func (.yield l) a b, hs => by simp [af] at hs
  | .func (.func f) a b, hs | .func (.method f) a b, hs | .func (.methodOf _ f) a b, hs | .func (.via _ _ f _) a b, hs => by
    simp only [af, Bool.and_eq_true] at hs
    simp only [ren]
    rw [renL_af ρ _ hs.1, renL_af ρ _ hs.2]
  | .iface t v, hs => by simp only [ren]; rw [ren_af ρ v (by simpa [af] using hs)]
  | .agg cs, hs => by simp only [ren]; rw [renL_af ρ _ (by simpa [af] using hs)]
  | .tuple cs, hs => by simp only [ren]; rw [renL_af ρ _ (by simpa [af] using hs)]
theorem renL_af (ρ : Nat → Nat) : ∀ vs, afL vs = true → renL ρ vs = vs
  | [], _ => rfl
  | v :: vs, hs => by
    simp only [afL, Bool.and_eq_true] at hs
    simp only [renL]; rw [ren_af ρ v hs.1, renL_af ρ vs hs.2]
end
theorem Leads.outC0 {P : Program} {n : Nat} {s s2 : St} {H : Heap} (hold : ∀ k b, hget H k = some b → k < n ∧ scB (· < n) b) (hkeep : Sub H s.H) (hs2 : s2.H = H) (hn : s2.n = n + 1) (hz : s2.sz = s.sz) (hm : s.marks = [] ∧ s2.marks = []) (hf : ∀ x ∈ s2.fr, lk s.fr x.1 = some x.2 ∧ sc (· < n) x.2) : Leads P n s s2 :=
  Leads.renR (A := []) (H := H) id (by simpa using hs2) hold hkeep (fun _ _ => rfl) (by omega) hz hm (fun t v hv => .inl (hf (t, v) (lk_mem _ _ _ hv))) (by simp) (by simp)
theorem Leads.outC1 {P : Program} {n t m : Nat} {s s2 : St} {H : Heap} {l : List Value} (haf : afL l = true) (hold : ∀ k b, hget H k = some b → k < n ∧ scB (· < n) b) (hkeep : Sub H s.H) (hl : l ≠ []) (hs2 : s2.H = outCB n t l ++ H) (hm1 : n ≤ m) (hg : hget s.H m = some (.ext l t 1)) (hn : s2.n = n + 1) (hz : s2.sz = s.sz) (hm : s.marks = [] ∧ s2.marks = [])
    (hf : ∀ x ∈ s2.fr, (lk s.fr x.1 = some x.2 ∧ sc (· < n) x.2) ∨ (x.2 = outC n l ∧ lk s.fr x.1 = some (outC m l))) : Leads P n s s2 := by
  refine Leads.renR (A := outCB n t l) (H := H) (fun k => if k = n then m else k) hs2 hold hkeep (fun k hk => if_neg (by omega)) (by omega) hz hm (fun t v hv => ?_) (fun x hx => ?_) fun x hx y hy _ => ?_
  · rcases hf (t, v) (lk_mem _ _ _ hv) with h | ⟨h1, h2⟩
    · exact .inl h
    · dsimp only at h1 h2
      subst h1
      refine .inr ⟨?_, sc_outC (by omega)⟩
      rw [h2, ren_outC (ρ := fun k => if k = n then m else k) (m := m) (by simp)]
  · rw [outCB_ne hl, List.mem_singleton] at hx
    subst hx
    refine ⟨Nat.le_refl _, by dsimp only; omega, ?_, ?_, scL_af _ _ haf, trivial, rfl⟩
    · simpa using hm1
    · simp [hg, renB, renL_af _ _ haf]
  · rw [outCB_ne hl, List.mem_singleton] at hx hy
    rw [hx, hy]
theorem outK_outC {n m t : Nat} {H H1 : Heap} {l : List Value} {u : Value} (haf : afL l = true) (hu : u = outC m l) (hm : n ≤ m) (hg : l ≠ [] → hget H1 m = some (.ext l t 1)) (hs : Sub H H1) : Fresh n (n + 1) H (outC n l) (outCB n t l) u H1 := by
  refine ⟨fun k => if k = n then m else k, fun k hk => if_neg (by omega), by rw [hu, ren_outC (ρ := fun k => if k = n then m else k) (m := m) (by simp)], fun k b hk => ?_, fun j b k c hj hk _ => ?_, hs⟩
  · by_cases hl : l = []
    · subst hl; cases hk
    · rw [outCB_ne hl, hget_cons] at hk
      split at hk
      · rename_i e
        subst e
        injection hk with hk
        subst hk
        refine ⟨Nat.le_refl _, Nat.lt_succ_self _, by simpa using hm, ?_, scL_af _ _ haf, trivial, rfl⟩
        simp [hg hl, renB, renL_af _ _ haf]
      · cases hk
  · by_cases hl : l = []
    · subst hl; cases hj
    · rw [outCB_ne hl, hget_cons] at hj hk
      split at hj
      · split at hk
        · omega
        · cases hk
      · cases hj
theorem AC.outList {P : Program} {f : FuncId} {fn : Func} {c : Code} {args : List Value} {H : Heap} {n t : Nat} {l : List Value} (hf : P.funcs[f]? = some fn) (hb : fn.body = some c) (he : enterable P f = true) (hlen : Nat.ble args.length fn.ntmps = true) (vs : List Nat) (hl : l ≠ [])
    (h : E P n none c { fr := argsFr args 0, sz := fn.ntmps, H, n, marks := [], vs } (outK P fn (Fresh n (n + 1) H (outC n l) (outCB n t l)))) : AC P f args H n (outC n l) (outCB n t l ++ H) (n + 1) :=
  AC.fresh hf hb he hlen vs (by omega) (sc_outC (by omega)) (fun ρ => by rw [outC_ne hl]; rfl) h
end Go.Ab

/-
Lists of rows that are made, rows of several kinds among them: how they lie, how they read, how they are handed back.
-/
namespace Go.Ab
open Go
/-- how a row that is made lies; what it is, and how it lies, is told by 'δ' -/
structure RowD (δ α : Type) (dec : Dec α) where
  val : Nat → δ → Value
  blk : δ → Blk
  row : δ → List α
  ren : ∀ (ρ : Nat → Nat) m l, Ab.ren ρ (val m l) = val (ρ m) l
  sc : ∀ (p : Nat → Prop) m l, p m → Ab.sc p (val m l)
  fix : ∀ (ρ : Nat → Nat) l, renB ρ (blk l) = blk l
  scB : ∀ (p : Nat → Prop) l, Ab.scB p (blk l)
  car : ∀ l, carried (blk l)
  own : ∀ l, (blk l).own = true
  see : ∀ H m l, hget H m = some (blk l) → (row l).length < 2147483648 → listV 1 dec H (val m l) = some (row l)
section
variable {δ α : Type} {dec : Dec α}
def kvd (K : RowD δ α dec) : List Nat → List δ → List Value
  | m :: ms, l :: ls => K.val m l :: kvd K ms ls
  | _, _ => []
def kbd (K : RowD δ α dec) : List Nat → List δ → Heap
  | m :: ms, l :: ls => (m, K.blk l) :: kbd K ms ls
  | _, _ => []
theorem kvd_len (K : RowD δ α dec) : ∀ (ms : List Nat) (ls : List δ), ms.length = ls.length → (kvd K ms ls).length = ls.length
  | [], [], _ => rfl
  | m :: ms, l :: ls, h => by simp [kvd, kvd_len K ms ls (by simpa using h)]
  | [], _ :: _, h => by simp at h
  | _ :: _, [], h => by simp at h
theorem kvd_get (K : RowD δ α dec) : ∀ (ms : List Nat) (ls : List δ) (i m : Nat) (l : δ), ms[i]? = some m → ls[i]? = some l → (kvd K ms ls)[i]? = some (K.val m l)
  | m' :: ms, l' :: ls, 0, m, _, h1, h2 => by simp at h1 h2; subst h1 h2; simp [kvd]
  | m' :: ms, l' :: ls, i + 1, m, l, h1, h2 => by
    simp only [List.getElem?_cons_succ] at h1 h2
    rw [kvd, List.getElem?_cons_succ]
    exact kvd_get K ms ls i m l h1 h2
  | [], _, i, m, l, h1, _ => by simp at h1
  | _ :: _, [], i, m, l, _, h2 => by simp at h2
theorem kvd_ren (K : RowD δ α dec) (ρ : Nat → Nat) : ∀ (ms : List Nat) (ls : List δ), renL ρ (kvd K ms ls) = kvd K (ms.map ρ) ls
  | m :: ms, l :: ls => by simp only [kvd, renL, K.ren, List.map_cons, kvd_ren K ρ ms ls]
  | [], _ => rfl
  | _ :: _, [] => rfl
theorem kvd_sc (K : RowD δ α dec) {p : Nat → Prop} : ∀ (ms : List Nat) (ls : List δ), (∀ m ∈ ms, p m) → scL p (kvd K ms ls)
  | m :: ms, _l :: ls, h => ⟨K.sc _ _ _ (h m (List.mem_cons_self ..)), kvd_sc K ms ls fun k hk => h k (List.mem_cons_of_mem _ hk)⟩
  | [], _, _ => trivial
  | _ :: _, [], _ => trivial
theorem hget_kbd (K : RowD δ α dec) : ∀ (ms : List Nat) (ls : List δ) (k : Nat) (b : Blk), hget (kbd K ms ls) k = some b → ∃ (i : Nat) (l : δ), ms[i]? = some k ∧ ls[i]? = some l ∧ b = K.blk l
  | m :: ms, l :: ls, k, b, h => by
    rw [kbd, hget_cons] at h
    split at h
    · rename_i e; subst e; injection h with h
      exact ⟨0, l, rfl, rfl, h.symm⟩
    · obtain ⟨i, l', h1, h2, h3⟩ := hget_kbd K ms ls k b h
      exact ⟨i + 1, l', by simpa using h1, by simpa using h2, h3⟩
  | [], _, k, b, h => by simp [kbd] at h
  | _ :: _, [], k, b, h => by simp [kbd] at h
theorem kbd_at (K : RowD δ α dec) : ∀ (L c : Nat) (ls : List δ) (i : Nat) (l : δ), ls.length = L → ls[i]? = some l → ∀ H, hget (kbd K (names c L) ls ++ H) (c + i) = some (K.blk l)
  | 0, c, ls, i, l, h1, h2, H => by
    rw [List.length_eq_zero_iff] at h1; subst h1; simp at h2
  | L + 1, c, l' :: ls, 0, l, h1, h2, H => by
    simp at h2; subst h2
    rw [names, kbd, List.cons_append, hget_cons, if_pos (by omega)]
  | L + 1, c, l' :: ls, i + 1, l, h1, h2, H => by
    simp only [List.getElem?_cons_succ] at h2
    rw [names, kbd, List.cons_append, hget_cons, if_neg (by omega), show c + (i + 1) = c + 1 + i by omega]
    exact kbd_at K L (c + 1) ls i l (by simpa using h1) h2 H
  | L + 1, c, [], i, l, h1, h2, H => by simp at h2
def ndvD (O : LstK) (n : Nat) (ls : List δ) : Value := O.val n ls.length
def ndbD (K : RowD δ α dec) (O : LstK) (n : Nat) (ls : List δ) : Heap := (n, O.blk (kvd K (names (n + 1) ls.length) ls)) :: kbd K (names (n + 1) ls.length) ls
theorem ndbD_names {K : RowD δ α dec} {O : LstK} {n : Nat} {ls : List δ} : ∀ x ∈ ndbD K O n ls, n ≤ x.1 ∧ x.1 < n + 1 + ls.length := by
  intro x hx
  rcases List.mem_cons.1 hx with rfl | hx
  · exact ⟨Nat.le_refl _, by dsimp only; omega⟩
  · have key : ∀ (L c : Nat) (xs : List δ), ∀ x ∈ kbd K (names c L) xs, c ≤ x.1 ∧ x.1 < c + L := by
      intro L
      induction L with
      | zero => intro c xs x hx; cases hx
      | succ L ih =>
        intro c xs x hx
        cases xs with
        | nil => cases hx
        | cons y ys =>
          rcases List.mem_cons.1 hx with rfl | hx
          · exact ⟨Nat.le_refl _, by dsimp only; omega⟩
          · have := ih (c + 1) ys x hx
            omega
    have := key _ _ _ x hx
    omega
theorem sub_ndD {K : RowD δ α dec} {O : LstK} {n : Nat} {ls : List δ} {H : Heap} (h : ∀ j, n ≤ j → hget H j = none) : Sub H (ndbD K O n ls ++ H) :=
  Sub.app (fun x hx => h _ (ndbD_names x hx).1) (Sub.refl _)
theorem nestV_ndD {K : RowD δ α dec} {O : LstK} {n : Nat} {ls : List δ} {H : Heap} (h1 : ls.length < 2147483648) (h2 : ∀ l ∈ ls, (K.row l).length < 2147483648) : listV 1 (decL 1 dec) (ndbD K O n ls ++ H) (ndvD O n ls) = some (ls.map K.row) := by
  obtain ⟨s, c, hv, hf⟩ := O.form n ls.length
  have hl := kvd_len K (names (n + 1) ls.length) ls (names_len _ _)
  have hm : (ls.map K.row).length = ls.length := List.length_map ..
  rw [ndvD, hv, ← hm]
  refine listV_mk (cs := kvd K (names (n + 1) ls.length) ls) hf ?_ (by rw [hl, hm]) (by rw [hm]; exact h1) fun i v hi => ?_
  · exact O.cells _ _ _ (by rw [ndbD, List.cons_append, hget_cons, if_pos rfl])
  · have hi' : i < ls.length := by
      have := (List.getElem?_eq_some_iff.1 hi).1
      omega
    have e1 := kvd_get K (names (n + 1) ls.length) ls i _ ls[i] (names_get _ _ i hi') (List.getElem?_eq_getElem hi')
    rw [e1] at hi
    injection hi with hi
    subst hi
    rw [List.getElem?_map, List.getElem?_eq_getElem hi']
    refine K.see _ _ _ ?_ (h2 _ (List.getElem_mem hi'))
    rw [ndbD, List.cons_append, hget_cons, if_neg (by omega)]
    exact kbd_at K _ _ ls i _ rfl (List.getElem?_eq_getElem hi') H
theorem outK_ndD {K : RowD δ α dec} {O : LstK} {n o : Nat} {ms : List Nat} {ls : List δ} {H H1 : Heap} {u : Value} (hu : u = O.val o ls.length) (hlen : ms.length = ls.length) (ho : n ≤ o) (hms : ∀ m ∈ ms, n ≤ m ∧ m ≠ o) (hnd : ms.Nodup) (hO : hget H1 o = some (O.blk (kvd K ms ls))) (hK : ∀ (i m : Nat) (l : δ), ms[i]? = some m → ls[i]? = some l → hget H1 m = some (K.blk l)) (hs : Sub H H1) :
    Fresh n (n + 1 + ls.length) H (ndvD O n ls) (ndbD K O n ls) u H1 := by
  let ρ : Nat → Nat := fun k => if k < n then k else if k = n then o else ms.getD (k - (n + 1)) 0
  have hlow : ∀ k, k < n → ρ k = k := fun k hk => by simp only [ρ]; rw [if_pos hk]
  have hn : ρ n = o := by simp [ρ]
  have hrow : ∀ i m, ms[i]? = some m → ρ (n + 1 + i) = m := fun i m hi => by
    simp only [ρ]
    rw [if_neg (by omega), if_neg (by omega), show n + 1 + i - (n + 1) = i by omega, List.getD_eq_getElem?_getD, hi]
    rfl
  have hmap : (names (n + 1) ls.length).map ρ = ms := by
    apply List.ext_getElem?
    intro i
    by_cases hi : i < ls.length
    · rw [List.getElem?_map, names_get _ _ _ hi]
      obtain ⟨m, hm⟩ : ∃ m, ms[i]? = some m := ⟨_, List.getElem?_eq_getElem (by omega)⟩
      rw [hm, Option.map_some, hrow i m hm]
    · rw [List.getElem?_eq_none (by rw [List.length_map, names_len]; omega), List.getElem?_eq_none (by omega)]
  have hB : ∀ k b, hget (ndbD K O n ls) k = some b → (k = n ∧ b = O.blk (kvd K (names (n + 1) ls.length) ls)) ∨ ∃ (i m : Nat) (l : δ), i < ls.length ∧ k = n + 1 + i ∧ ms[i]? = some m ∧ ls[i]? = some l ∧ b = K.blk l := fun k b hk => by
    rw [ndbD, hget_cons] at hk
    split at hk
    · rename_i e; subst e; injection hk with hk; exact .inl ⟨rfl, hk.symm⟩
    · obtain ⟨i, l, h1, h2, h3⟩ := hget_kbd K _ _ k b hk
      have hi : i < ls.length := (List.getElem?_eq_some_iff.1 h2).1
      rw [names_get _ _ _ hi] at h1
      injection h1 with h1
      exact .inr ⟨i, ms[i]'(by omega), l, hi, h1.symm, List.getElem?_eq_getElem (by omega), h2, h3⟩
  refine ⟨ρ, hlow, by rw [hu, ndvD, O.ren, hn], fun k b hk => ?_, fun j b k c hj hk e => ?_, hs⟩
  · rcases hB k b hk with ⟨rfl, rfl⟩ | ⟨i, m, l, h1, rfl, h3, h4, rfl⟩
    · refine ⟨Nat.le_refl _, by omega, by rw [hn]; exact ho, ?_, ?_, O.car _, O.own _⟩
      · rw [hn, O.fix, kvd_ren, hmap]; exact hO
      · refine O.scB _ _ (kvd_sc K _ _ fun m hm => ?_)
        obtain ⟨i, hi, rfl⟩ := List.getElem_of_mem hm
        rw [names_len] at hi
        have := names_get ls.length (k + 1) i hi
        rw [List.getElem?_eq_getElem (by rw [names_len]; exact hi)] at this
        injection this with this
        rw [this]
        show k + 1 + i < k + 1 + ls.length
        omega
    · refine ⟨by omega, by omega, ?_, ?_, K.scB _ _, K.car _, K.own _⟩
      · rw [hrow i m h3]; exact (hms m (List.mem_of_getElem? h3)).1
      · rw [hrow i m h3, K.fix]; exact hK i m l h3 h4
  · rcases hB j b hj with ⟨rfl, _⟩ | ⟨i, m, l, h1, rfl, h3, _, _⟩ <;> rcases hB k c hk with ⟨rfl, _⟩ | ⟨i', m', l', h1', rfl, h3', _, _⟩
    · rfl
    · rw [hn, hrow i' m' h3'] at e
      exact absurd e.symm (hms m' (List.mem_of_getElem? h3')).2
    · rw [hn, hrow i m h3] at e
      exact absurd e (hms m (List.mem_of_getElem? h3)).2
    · rw [hrow i m h3, hrow i' m' h3'] at e
      have hi : i < ms.length := (List.getElem?_eq_some_iff.1 h3).1
      have hi' : i' < ms.length := (List.getElem?_eq_some_iff.1 h3').1
      have e1 : ms[i] = m := by rw [List.getElem?_eq_getElem hi] at h3; exact Option.some.inj h3
      have e2 : ms[i'] = m' := by rw [List.getElem?_eq_getElem hi'] at h3'; exact Option.some.inj h3'
      have := (List.nodup_iff_pairwise_ne.1 hnd)
      rw [List.pairwise_iff_getElem] at this
      rcases Nat.lt_trichotomy i i' with h | h | h
      · exact absurd (e1.trans (e.trans e2.symm)) (this i i' hi hi' h)
      · subst h; rfl
      · exact absurd (e2.trans (e.symm.trans e1.symm)) (this i' i hi' hi h)
theorem kvd_snoc (K : RowD δ α dec) {m : Nat} {l : δ} : ∀ (ms : List Nat) (R : List δ), ms.length = R.length → kvd K (ms ++ [m]) (R ++ [l]) = kvd K ms R ++ [K.val m l]
  | [], [], _ => rfl
  | _ :: ms, _ :: R, h => by simp [kvd, kvd_snoc K ms R (by simpa using h)]
  | [], _ :: _, h => by simp at h
  | _ :: _, [], h => by simp at h
theorem outK_mvD {K : RowD δ α dec} {O : LstK} {n o : Nat} {ls : List δ} {H H1 : Heap} (ho : n ≤ o) (hs : Sub H H1) (hH1 : ∀ j, o ≤ j → hget H1 j = none) : Fresh n (n + 1 + ls.length) H (ndvD O n ls) (ndbD K O n ls) (ndvD O o ls) (ndbD K O o ls ++ H1) := by
  refine outK_ndD (o := o) (ms := names (o + 1) ls.length) rfl (names_len _ _) ho (fun m hm => ?_) (names_nodup _ _) ?_ (fun i m l h1 h2 => ?_) (hs.trans (sub_ndD hH1))
  · have := names_ge _ _ _ hm
    omega
  · rw [ndbD, List.cons_append, hget_cons, if_pos rfl]
  · obtain ⟨rfl, hi⟩ := names_at h1
    rw [ndbD, List.cons_append, hget_cons, if_neg (by omega)]
    exact kbd_at K _ _ ls i _ rfl h2 H1
end

/-! ### texts -/
def svL (l : List ByteArray) : List Value := l.map sv
theorem svL_ren (ρ : Nat → Nat) : ∀ l : List ByteArray, renL ρ (svL l) = svL l
  | [] => rfl
  | s :: l => by
    have := svL_ren ρ l
    unfold svL at this ⊢
    simp only [List.map_cons, renL, ren, this]
theorem svL_sc (p : Nat → Prop) : ∀ l : List ByteArray, scL p (svL l)
  | [] => trivial
  | _ :: l => ⟨trivial, svL_sc p l⟩
theorem svL_af : ∀ l : List ByteArray, afL (svL l) = true
  | [] => rfl
  | s :: l => by
    have := svL_af l
    unfold svL at this ⊢
    simp [af, this]
theorem svL_one : ∀ l : List ByteArray, oneL (svL l) = true
  | [] => rfl
  | s :: l => by
    have := svL_one l
    unfold svL at this ⊢
    simp [oneL, this]
@[simp] theorem svL_len (l : List ByteArray) : (svL l).length = l.length := by simp [svL]
theorem svL_snoc (l : List ByteArray) (s : ByteArray) : svL (l ++ [s]) = svL l ++ [sv s] := by simp [svL]
theorem svL_app (l k : List ByteArray) : svL (l ++ k) = svL l ++ svL k := by simp [svL]
theorem svL_nil : svL [] = [] := rfl
theorem svL_ne {l : List ByteArray} : svL l = [] ↔ l = [] := by simp [svL]
/-- a row of texts: made of a literal, or by an append -/
def kTx (t : TypeId) : RowD (Bool × List ByteArray) ByteArray decS where
  val := fun m d => if d.1 then .slice (some ⟨m, 0, none⟩) d.2.length d.2.length else .slice (some ⟨m, 0, some 0⟩) d.2.length 0
  blk := fun d => if d.1 then .cells (svL d.2) t else .ext (svL d.2) t 1
  row := fun d => d.2
  ren := fun ρ m d => by split <;> rfl
  sc := fun p m d h => by split <;> exact h
  fix := fun ρ d => by split <;> simp only [renB, svL_ren]
  scB := fun p d => by split <;> exact svL_sc p d.2
  car := fun d => by split <;> trivial
  own := fun d => by split <;> rfl
  see := fun H m d h hl => by
    obtain ⟨b, l⟩ := d
    cases b with
    | true => exact listV_mk (cs := svL l) rfl (by rw [cellsA_eq, h]; simp [cellsB]; exact List.take_of_length_le (by simp)) (by simp) hl dec_sv
    | false => exact listV_mk (cs := svL l) rfl (by rw [cellsA_eq, h]; simp [cellsB]; exact List.take_of_length_le (by simp)) (by simp) hl dec_sv
/-- a list of rows: a literal of one row, or made by appends -/
def oLit (t : TypeId) : LstK where
  val := fun m k => if k = 1 then .slice (some ⟨m, 0, none⟩) 1 1 else .slice (some ⟨m, 0, some 0⟩) k 0
  blk := fun l => if l.length = 1 then .cells l t else .ext l t 1
  ren := fun ρ m l => by split <;> rfl
  sc := fun p m l h => by split <;> exact h
  af := fun m k => by split <;> rfl
  fix := fun ρ l => by
    have : (renL ρ l).length = l.length := by rw [renL_eq, List.length_map]
    rw [this]
    split <;> rfl
  scB := fun p l h => by split <;> exact h
  car := fun l => by split <;> trivial
  own := fun l => by split <;> rfl
  cells := fun H m l h => by
    rw [cellsA_eq, h]
    split <;> simp [cellsB]
  form := fun m k => by
    by_cases h : k = 1
    · subst h; exact ⟨none, 1, rfl, rfl⟩
    · exact ⟨some 0, 0, if_neg h, rfl⟩
end Go.Ab

/-
Where the steps of a soft start end: a step takes guns, in order, as long as the sum of all up to there is at most twice the sum ahead of the step.
-/
namespace Go.Soft
def sumTo (V : List Int) (k : Nat) : Int := (V.take k).foldl (· + ·) 0
theorem sumTo_succ {V : List Int} {k : Nat} (h : k < V.length) : sumTo V (k + 1) = sumTo V k + V[k] := by
  unfold sumTo
  rw [List.take_succ_eq_append_getElem h, List.foldl_append]
  rfl
/-- the end of the step that begins at 'from', looked for from 'to' on -/
def stopAt (V : List Int) (from' : Nat) : Nat → Nat → Nat
  | 0, to => to
  | k + 1, to => if to < V.length ∧ sumTo V (to + 1) ≤ 2 * sumTo V from' then stopAt V from' k (to + 1) else to
theorem stopAt_go {V : List Int} {from' to : Nat} (h : to < V.length ∧ sumTo V (to + 1) ≤ 2 * sumTo V from') : stopAt V from' (V.length - to) to = stopAt V from' (V.length - (to + 1)) (to + 1) := by
  obtain ⟨k, hk⟩ : ∃ k, V.length - to = k + 1 := ⟨V.length - to - 1, by omega⟩
  rw [hk, stopAt, if_pos h, show V.length - (to + 1) = k by omega]
theorem stopAt_end {V : List Int} {from' to : Nat} (h : ¬ (to < V.length ∧ sumTo V (to + 1) ≤ 2 * sumTo V from')) : stopAt V from' (V.length - to) to = to := by
  cases e : V.length - to with
  | zero => rfl
  | succ k => rw [stopAt, if_neg h]
theorem stopAt_ge {V : List Int} {from' : Nat} : ∀ (k to : Nat), to ≤ stopAt V from' k to ∧ (to ≤ V.length → stopAt V from' k to ≤ V.length)
  | 0, to => ⟨Nat.le_refl _, fun h => h⟩
  | k + 1, to => by
    rw [stopAt]
    split
    · rename_i h
      have := stopAt_ge (V := V) (from' := from') k (to + 1)
      exact ⟨by omega, fun _ => this.2 (by omega)⟩
    · exact ⟨Nat.le_refl _, fun h => h⟩
/-- the next step's begin -/
def nextS (V : List Int) (from' : Nat) : Nat := stopAt V from' (V.length - (from' + 1)) (from' + 1)
theorem nextS_gt {V : List Int} {from' : Nat} (h : from' < V.length) : from' < nextS V from' ∧ nextS V from' ≤ V.length := by
  have := stopAt_ge (V := V) (from' := from') (V.length - (from' + 1)) (from' + 1)
  unfold nextS
  exact ⟨by omega, this.2 (by omega)⟩
/-- the steps from 'from' on, as pairs of begin and end -/
def cuts (V : List Int) : Nat → Nat → List (Nat × Nat)
  | 0, _ => []
  | k + 1, from' => if from' < V.length then (from', nextS V from') :: cuts V k (nextS V from') else []
theorem cuts_go {V : List Int} {from' : Nat} (h : from' < V.length) : ∀ k, V.length - from' ≤ k → cuts V k from' = (from', nextS V from') :: cuts V (V.length - nextS V from') (nextS V from') := by
  have key : ∀ (m k j from' : Nat), V.length - from' ≤ m → V.length - from' ≤ k → V.length - from' ≤ j → cuts V k from' = cuts V j from' := by
    intro m
    induction m with
    | zero =>
      intro k j from' h0 _ _
      have hf : ¬ from' < V.length := by omega
      cases k <;> cases j <;> simp [cuts, hf]
    | succ m ih =>
      intro k j from' h0 h1 h2
      by_cases hf : from' < V.length
      · obtain ⟨k', rfl⟩ : ∃ k', k = k' + 1 := ⟨k - 1, by omega⟩
        obtain ⟨j', rfl⟩ : ∃ j', j = j' + 1 := ⟨j - 1, by omega⟩
        have := nextS_gt hf
        rw [cuts, cuts, if_pos hf, if_pos hf, ih k' j' (nextS V from') (by omega) (by omega) (by omega)]
      · cases k <;> cases j <;> simp [cuts, hf]
  intro k hk
  obtain ⟨k', rfl⟩ : ∃ k', k = k' + 1 := ⟨k - 1, by omega⟩
  have := nextS_gt h
  rw [cuts, if_pos h, key _ k' (V.length - nextS V from') (nextS V from') (Nat.le_refl _) (by omega) (Nat.le_refl _)]
end Go.Soft
