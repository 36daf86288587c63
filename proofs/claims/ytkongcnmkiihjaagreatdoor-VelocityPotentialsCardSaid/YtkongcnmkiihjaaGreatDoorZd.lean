/-
The program's least potentials, walked: the rows that are made hold them.
-/
import Derived.Test.YtkongcnmkiihjaaGreatDoorZc
namespace Go.Proofs.YtkongcnmkiihjaaGreatDoor
open Go Go.Ab Go.Proofs
/-! ### lists of lists that are made: how a row lies, how the outer list lies -/
structure Kd where
  val : Nat → List Int → Value
  blk : List Int → Blk
  ren : ∀ (ρ : Nat → Nat) m l, Ab.ren ρ (val m l) = val (ρ m) l
  sc : ∀ (p : Nat → Prop) m l, p m → Ab.sc p (val m l)
  fix : ∀ (ρ : Nat → Nat) l, renB ρ (blk l) = blk l
  scB : ∀ (p : Nat → Prop) l, Ab.scB p (blk l)
  car : ∀ l, carried (blk l)
  own : ∀ l, (blk l).own = true
  see : ∀ H m l, hget H m = some (blk l) → l.length < 2147483648 → intV H (val m l) = some l
/-- rows made by 'make' -/
def kMake : Kd where
  val := fun m l => .slice (some ⟨m, 0, none⟩) l.length l.length
  blk := fun l => .cells (l.map iv) 3
  ren := fun ρ m l => rfl
  sc := fun p m l h => h
  fix := fun ρ l => by simp [renB]
  scB := fun p l => by simp [Ab.scB]
  car := fun l => trivial
  own := fun l => rfl
  see := fun H m l h hl => intV_cells h hl
/-- rows copied by an append to a slice that is empty -/
def kCopy : Kd where
  val := fun m l => if l = [] then .slice (some ⟨m, 0, none⟩) 0 0 else .slice (some ⟨m, 0, some 0⟩) l.length 0
  blk := fun l => if l = [] then .cells [] 3 else .ext (l.map iv) 3 1
  ren := fun ρ m l => by split <;> rfl
  sc := fun p m l h => by split <;> exact h
  fix := fun ρ l => by split <;> simp [renB]
  scB := fun p l => by split <;> simp [Ab.scB]
  car := fun l => by split <;> trivial
  own := fun l => by split <;> rfl
  see := fun H m l h hl => by
    by_cases e : l = []
    · subst e; rfl
    · simp only [e, if_false] at h ⊢
      exact intV_ext h hl
structure Od where
  val : Nat → Nat → Value
  blk : List Value → Blk
  ren : ∀ (ρ : Nat → Nat) m k, Ab.ren ρ (val m k) = val (ρ m) k
  sc : ∀ (p : Nat → Prop) m k, p m → Ab.sc p (val m k)
  af : ∀ m k, Ab.af (val m k) = false
  fix : ∀ (ρ : Nat → Nat) l, renB ρ (blk l) = blk (renL ρ l)
  scB : ∀ (p : Nat → Prop) l, scL p l → Ab.scB p (blk l)
  car : ∀ l, carried (blk l)
  own : ∀ l, (blk l).own = true
  cells : ∀ H m l, hget H m = some (blk l) → cellsA H m 0 l.length = some l
  form : ∀ m k, ∃ s c, val m k = .slice (some ⟨m, 0, s⟩) k c ∧ flat ⟨m, 0, s⟩ = true
def oMake : Od where
  val := fun m k => .slice (some ⟨m, 0, none⟩) k k
  blk := fun l => .cells l 24
  ren := fun ρ m l => rfl
  sc := fun p m l h => h
  af := fun m k => rfl
  fix := fun ρ l => rfl
  scB := fun p l h => h
  car := fun l => trivial
  own := fun l => rfl
  cells := fun H m l h => by rw [cellsA_eq, h]; simp
  form := fun m k => ⟨none, k, rfl, rfl⟩
def oExt : Od where
  val := fun m k => .slice (some ⟨m, 0, some 0⟩) k 0
  blk := fun l => .ext l 24 1
  ren := fun ρ m l => rfl
  sc := fun p m l h => h
  af := fun m k => rfl
  fix := fun ρ l => rfl
  scB := fun p l h => h
  car := fun l => trivial
  own := fun l => rfl
  cells := fun H m l h => by rw [cellsA_eq, h]; simp
  form := fun m k => ⟨some 0, 0, rfl, rfl⟩
/-- the rows' values, by their names -/
def kvs (K : Kd) : List Nat → List (List Int) → List Value
  | m :: ms, l :: ls => K.val m l :: kvs K ms ls
  | _, _ => []
def kbs (K : Kd) : List Nat → List (List Int) → Heap
  | m :: ms, l :: ls => (m, K.blk l) :: kbs K ms ls
  | _, _ => []
def names (c : Nat) : Nat → List Nat
  | 0 => []
  | k + 1 => c :: names (c + 1) k
theorem names_len : ∀ (k c : Nat), (names c k).length = k
  | 0, _ => rfl
  | k + 1, c => by simp [names, names_len k]
theorem names_get : ∀ (k c i : Nat), i < k → (names c k)[i]? = some (c + i)
  | 0, _, _, h => by omega
  | k + 1, c, 0, _ => by simp [names]
  | k + 1, c, i + 1, h => by
    rw [names, List.getElem?_cons_succ, names_get k (c + 1) i (by omega)]
    congr 1; omega
theorem kvs_len (K : Kd) : ∀ (ms : List Nat) (ls : List (List Int)), ms.length = ls.length → (kvs K ms ls).length = ls.length
  | [], [], _ => rfl
  | m :: ms, l :: ls, h => by simp [kvs, kvs_len K ms ls (by simpa using h)]
  | [], _ :: _, h => by simp at h
  | _ :: _, [], h => by simp at h
theorem kvs_get (K : Kd) : ∀ (ms : List Nat) (ls : List (List Int)) (i m : Nat) (l : List Int), ms[i]? = some m → ls[i]? = some l → (kvs K ms ls)[i]? = some (K.val m l)
  | m' :: ms, l' :: ls, 0, m, _, h1, h2 => by simp at h1 h2; subst h1 h2; simp [kvs]
  | m' :: ms, l' :: ls, i + 1, m, l, h1, h2 => by
    simp only [List.getElem?_cons_succ] at h1 h2
    rw [kvs, List.getElem?_cons_succ]
    exact kvs_get K ms ls i m l h1 h2
  | [], _, i, m, l, h1, _ => by simp at h1
  | _ :: _, [], i, m, l, _, h2 => by simp at h2
theorem kvs_ren (K : Kd) (ρ : Nat → Nat) : ∀ (ms : List Nat) (ls : List (List Int)), renL ρ (kvs K ms ls) = kvs K (ms.map ρ) ls
  | m :: ms, l :: ls => by simp only [kvs, renL, K.ren, List.map_cons, kvs_ren K ρ ms ls]
  | [], _ => rfl
  | _ :: _, [] => rfl
theorem kvs_sc (K : Kd) {p : Nat → Prop} : ∀ (ms : List Nat) (ls : List (List Int)), (∀ m ∈ ms, p m) → scL p (kvs K ms ls)
  | m :: ms, _l :: ls, h => ⟨K.sc _ _ _ (h m (List.mem_cons_self ..)), kvs_sc K ms ls fun k hk => h k (List.mem_cons_of_mem _ hk)⟩
  | [], _, _ => trivial
  | _ :: _, [], _ => trivial
theorem hget_kbs (K : Kd) : ∀ (ms : List Nat) (ls : List (List Int)) (k : Nat) (b : Blk), hget (kbs K ms ls) k = some b → ∃ (i : Nat) (l : List Int), ms[i]? = some k ∧ ls[i]? = some l ∧ b = K.blk l
  | m :: ms, l :: ls, k, b, h => by
    rw [kbs, hget_cons] at h
    split at h
    · rename_i e; subst e; injection h with h
      exact ⟨0, l, rfl, rfl, h.symm⟩
    · obtain ⟨i, l', h1, h2, h3⟩ := hget_kbs K ms ls k b h
      exact ⟨i + 1, l', by simpa using h1, by simpa using h2, h3⟩
  | [], _, k, b, h => by simp [kbs] at h
  | _ :: _, [], k, b, h => by simp [kbs] at h
theorem kbs_at (K : Kd) : ∀ (L c : Nat) (ls : List (List Int)) (i : Nat) (l : List Int), ls.length = L → ls[i]? = some l → ∀ H, hget (kbs K (names c L) ls ++ H) (c + i) = some (K.blk l)
  | 0, c, ls, i, l, h1, h2, H => by
    rw [List.length_eq_zero_iff] at h1; subst h1; simp at h2
  | L + 1, c, l' :: ls, 0, l, h1, h2, H => by
    simp at h2; subst h2
    rw [names, kbs, List.cons_append, hget_cons, if_pos (by omega)]
  | L + 1, c, l' :: ls, i + 1, l, h1, h2, H => by
    simp only [List.getElem?_cons_succ] at h2
    rw [names, kbs, List.cons_append, hget_cons, if_neg (by omega), show c + (i + 1) = c + 1 + i by omega]
    exact kbs_at K L (c + 1) ls i l (by simpa using h1) h2 H
  | L + 1, c, [], i, l, h1, h2, H => by simp at h2
/-- a list of lists, made: itself under the name 'n', its rows behind it -/
def ndV (O : Od) (n : Nat) (ls : List (List Int)) : Value := O.val n ls.length
def ndB (K : Kd) (O : Od) (n : Nat) (ls : List (List Int)) : Heap := (n, O.blk (kvs K (names (n + 1) ls.length) ls)) :: kbs K (names (n + 1) ls.length) ls
theorem ndB_names {K : Kd} {O : Od} {n : Nat} {ls : List (List Int)} : ∀ x ∈ ndB K O n ls, n ≤ x.1 ∧ x.1 < n + 1 + ls.length := by
  intro x hx
  rcases List.mem_cons.1 hx with rfl | hx
  · exact ⟨Nat.le_refl _, by dsimp only; omega⟩
  · have key : ∀ (L c : Nat) (xs : List (List Int)), ∀ x ∈ kbs K (names c L) xs, c ≤ x.1 ∧ x.1 < c + L := by
      intro L
      induction L with
      | zero => intro c xs x hx; cases hx
      | succ L ih =>
        intro c xs x hx
        cases xs with
        | nil => cases hx
        | cons y ys =>
          rcases List.mem_cons.1 hx with rfl | hx
          · exact ⟨Nat.le_refl _, by dsimp only; omega⟩
          · have := ih (c + 1) ys x hx
            omega
    have := key _ _ _ x hx
    omega
theorem sub_nd {K : Kd} {O : Od} {n : Nat} {ls : List (List Int)} {H : Heap} (h : ∀ j, n ≤ j → hget H j = none) : Sub H (ndB K O n ls ++ H) :=
  Sub.app (fun x hx => h _ (ndB_names x hx).1) (Sub.refl _)
theorem nestV_nd {K : Kd} {O : Od} {n : Nat} {ls : List (List Int)} {H : Heap} (h1 : ls.length < 2147483648) (h2 : ∀ l ∈ ls, l.length < 2147483648) : nestV (ndB K O n ls ++ H) (ndV O n ls) = some ls := by
  obtain ⟨s, c, hv, hf⟩ := O.form n ls.length
  have hl := kvs_len K (names (n + 1) ls.length) ls (names_len _ _)
  rw [ndV, hv]
  refine listV_mk (cs := kvs K (names (n + 1) ls.length) ls) hf ?_ hl h1 fun i v hi => ?_
  · exact O.cells _ _ _ (by rw [ndB, List.cons_append, hget_cons, if_pos rfl])
  · have hi' : i < ls.length := by
      have := (List.getElem?_eq_some_iff.1 hi).1
      omega
    have e1 := kvs_get K (names (n + 1) ls.length) ls i _ ls[i] (names_get _ _ i hi') (List.getElem?_eq_getElem hi')
    rw [e1] at hi
    injection hi with hi
    subst hi
    rw [List.getElem?_eq_getElem hi']
    refine K.see _ _ _ ?_ (h2 _ (List.getElem_mem hi'))
    rw [ndB, List.cons_append, hget_cons, if_neg (by omega)]
    exact kbs_at K _ _ ls i _ rfl (List.getElem?_eq_getElem hi') H
/-- behind the body: the list's blocks lie anywhere -/
theorem outK_nd {K : Kd} {O : Od} {n o : Nat} {ms : List Nat} {ls : List (List Int)} {H H1 : Heap} {u : Value} (hu : u = O.val o ls.length) (hlen : ms.length = ls.length) (ho : n ≤ o) (hms : ∀ m ∈ ms, n ≤ m ∧ m ≠ o) (hnd : ms.Nodup) (hO : hget H1 o = some (O.blk (kvs K ms ls))) (hK : ∀ (i m : Nat) (l : List Int), ms[i]? = some m → ls[i]? = some l → hget H1 m = some (K.blk l)) (hs : Sub H H1) :
    Fresh n (n + 1 + ls.length) H (ndV O n ls) (ndB K O n ls) u H1 := by
  let ρ : Nat → Nat := fun k => if k < n then k else if k = n then o else ms.getD (k - (n + 1)) 0
  have hlow : ∀ k, k < n → ρ k = k := fun k hk => by simp only [ρ]; rw [if_pos hk]
  have hn : ρ n = o := by simp [ρ]
  have hrow : ∀ i m, ms[i]? = some m → ρ (n + 1 + i) = m := fun i m hi => by
    simp only [ρ]
    rw [if_neg (by omega), if_neg (by omega), show n + 1 + i - (n + 1) = i by omega, List.getD_eq_getElem?_getD, hi]
    rfl
  have hmap : (names (n + 1) ls.length).map ρ = ms := by
    apply List.ext_getElem?
    intro i
    by_cases hi : i < ls.length
    · rw [List.getElem?_map, names_get _ _ _ hi]
      obtain ⟨m, hm⟩ : ∃ m, ms[i]? = some m := ⟨_, List.getElem?_eq_getElem (by omega)⟩
      rw [hm, Option.map_some, hrow i m hm]
    · rw [List.getElem?_eq_none (by rw [List.length_map, names_len]; omega), List.getElem?_eq_none (by omega)]
  have hB : ∀ k b, hget (ndB K O n ls) k = some b → (k = n ∧ b = O.blk (kvs K (names (n + 1) ls.length) ls)) ∨ ∃ (i m : Nat) (l : List Int), i < ls.length ∧ k = n + 1 + i ∧ ms[i]? = some m ∧ ls[i]? = some l ∧ b = K.blk l := fun k b hk => by
    rw [ndB, hget_cons] at hk
    split at hk
    · rename_i e; subst e; injection hk with hk; exact .inl ⟨rfl, hk.symm⟩
    · obtain ⟨i, l, h1, h2, h3⟩ := hget_kbs K _ _ k b hk
      have hi : i < ls.length := (List.getElem?_eq_some_iff.1 h2).1
      rw [names_get _ _ _ hi] at h1
      injection h1 with h1
      exact .inr ⟨i, ms[i]'(by omega), l, hi, h1.symm, List.getElem?_eq_getElem (by omega), h2, h3⟩
  refine ⟨ρ, hlow, by rw [hu, ndV, O.ren, hn], fun k b hk => ?_, fun j b k c hj hk e => ?_, hs⟩
  · rcases hB k b hk with ⟨rfl, rfl⟩ | ⟨i, m, l, h1, rfl, h3, h4, rfl⟩
    · refine ⟨Nat.le_refl _, by omega, by rw [hn]; exact ho, ?_, ?_, O.car _, O.own _⟩
      · rw [hn, O.fix, kvs_ren, hmap]; exact hO
      · refine O.scB _ _ (kvs_sc K _ _ fun m hm => ?_)
        obtain ⟨i, hi, rfl⟩ := List.getElem_of_mem hm
        rw [names_len] at hi
        have := names_get ls.length (k + 1) i hi
        rw [List.getElem?_eq_getElem (by rw [names_len]; exact hi)] at this
        injection this with this
        rw [this]
        show k + 1 + i < k + 1 + ls.length
        omega
    · refine ⟨by omega, by omega, ?_, ?_, K.scB _ _, K.car _, K.own _⟩
      · rw [hrow i m h3]; exact (hms m (List.mem_of_getElem? h3)).1
      · rw [hrow i m h3, K.fix]; exact hK i m l h3 h4
  · rcases hB j b hj with ⟨rfl, _⟩ | ⟨i, m, l, h1, rfl, h3, _, _⟩ <;> rcases hB k c hk with ⟨rfl, _⟩ | ⟨i', m', l', h1', rfl, h3', _, _⟩
    · rfl
    · rw [hn, hrow i' m' h3'] at e
      exact absurd e.symm (hms m' (List.mem_of_getElem? h3')).2
    · rw [hn, hrow i m h3] at e
      exact absurd e (hms m (List.mem_of_getElem? h3)).2
    · rw [hrow i m h3, hrow i' m' h3'] at e
      have hi : i < ms.length := (List.getElem?_eq_some_iff.1 h3).1
      have hi' : i' < ms.length := (List.getElem?_eq_some_iff.1 h3').1
      have e1 : ms[i] = m := by rw [List.getElem?_eq_getElem hi] at h3; exact Option.some.inj h3
      have e2 : ms[i'] = m' := by rw [List.getElem?_eq_getElem hi'] at h3'; exact Option.some.inj h3'
      have := (List.nodup_iff_pairwise_ne.1 hnd)
      rw [List.pairwise_iff_getElem] at this
      rcases Nat.lt_trichotomy i i' with h | h | h
      · exact absurd (e1.trans (e.trans e2.symm)) (this i i' hi hi' h)
      · subst h; rfl
      · exact absurd (e2.trans (e.symm.trans e1.symm)) (this i' i hi' hi h)
end Go.Proofs.YtkongcnmkiihjaaGreatDoor

namespace Go.Proofs.YtkongcnmkiihjaaGreatDoor
open Go Go.Ab Go.Proofs
/-! ### the least potentials -/
def bst (up dn : Int) (row : Nat) : Nat → Int → List Int → Int
  | _, acc, [] => acc
  | j, acc, x :: l => bst up dn row (j + 1) (if mayB up dn row j = true then max acc x else acc) l
def addB (up dn : Int) (nx : List Int) : Nat → List Int → List Int
  | _, [] => []
  | k, x :: l => (x + bst up dn k 0 0 nx) :: addB up dn nx (k + 1) l
def potR (up dn : Int) : List (List Int) → List (List Int)
  | [] => []
  | l :: ls => addB up dn ((potR up dn ls).headD []) 0 l :: potR up dn ls
section
variable {up dn : Int}
theorem addB_len {nx : List Int} : ∀ (l : List Int) (k : Nat), (addB up dn nx k l).length = l.length
  | [], _ => rfl
  | x :: l, k => by simp [addB, addB_len l]
theorem addB_get {nx : List Int} : ∀ (l : List Int) (k i : Nat), (addB up dn nx k l)[i]? = (l[i]?).map fun x => x + bst up dn (k + i) 0 0 nx
  | [], _, _ => rfl
  | x :: l, k, 0 => by simp [addB]
  | x :: l, k, i + 1 => by
    simp only [addB, List.getElem?_cons_succ, addB_get l (k + 1) i]
    rw [show k + 1 + i = k + (i + 1) by omega]
theorem addB_nil : ∀ (l : List Int) (k : Nat), addB up dn [] k l = l
  | [], _ => rfl
  | x :: l, k => by simp [addB, addB_nil l, bst]
theorem potR_len : ∀ ls : List (List Int), (potR up dn ls).length = ls.length
  | [] => rfl
  | l :: ls => by simp [potR, potR_len ls]
theorem potR_rows {k0 : Nat} : ∀ ls : List (List Int), (∀ l ∈ ls, l.length = k0) → ∀ l ∈ potR up dn ls, l.length = k0
  | [], _, l, hl => by cases hl
  | x :: ls, h, l, hl => by
    rcases List.mem_cons.1 hl with rfl | hl
    · rw [addB_len]; exact h x (List.mem_cons_self ..)
    · exact potR_rows ls (fun y hy => h y (List.mem_cons_of_mem _ hy)) l hl
theorem potR_one (l : List Int) : potR up dn [l] = [l] := by simp [potR, addB_nil]
theorem bst_bound {row : Nat} {B : Int} : ∀ (l : List Int) (j : Nat) (acc : Int), 0 ≤ acc ∧ acc ≤ B → (∀ x ∈ l, 0 ≤ x ∧ x ≤ B) → 0 ≤ bst up dn row j acc l ∧ bst up dn row j acc l ≤ B
  | [], _, _, h, _ => h
  | x :: l, j, acc, h, hx => by
    rw [bst]
    refine bst_bound l (j + 1) _ ?_ fun y hy => hx y (List.mem_cons_of_mem _ hy)
    have := hx x (List.mem_cons_self ..)
    split <;> omega
theorem addB_bound {B : Int} {nx : List Int} (hB : 0 ≤ B) (hn : ∀ x ∈ nx, 0 ≤ x ∧ x ≤ B) : ∀ (l : List Int) (k : Nat), (∀ x ∈ l, 0 ≤ x ∧ x ≤ 1024) → ∀ x ∈ addB up dn nx k l, 0 ≤ x ∧ x ≤ B + 1024
  | [], _, _, x, hx => by cases hx
  | y :: l, k, h, x, hx => by
    rcases List.mem_cons.1 hx with rfl | hx
    · have h1 := bst_bound (up := up) (dn := dn) (row := k) nx 0 0 ⟨by omega, hB⟩ hn
      have h2 := h y (List.mem_cons_self ..)
      omega
    · exact addB_bound hB hn l (k + 1) (fun z hz => h z (List.mem_cons_of_mem _ hz)) x hx
theorem potR_bound : ∀ ls : List (List Int), (∀ l ∈ ls, ∀ x ∈ l, 0 ≤ x ∧ x ≤ 1024) → ∀ l ∈ potR up dn ls, ∀ x ∈ l, 0 ≤ x ∧ x ≤ 1024 * (ls.length : Int)
  | [], _, l, hl => by cases hl
  | y :: ls, h, l, hl => by
    have ih := potR_bound ls fun z hz => h z (List.mem_cons_of_mem _ hz)
    rcases List.mem_cons.1 hl with rfl | hl
    · intro x hx
      have hn : ∀ x ∈ (potR up dn ls).headD [], 0 ≤ x ∧ x ≤ 1024 * (ls.length : Int) := by
        cases hp : potR up dn ls with
        | nil => intro x hx; simp at hx
        | cons z zs =>
          intro x hx
          exact ih z (by rw [hp]; exact List.mem_cons_self ..) x (by simpa using hx)
      have := addB_bound (up := up) (dn := dn) (by omega) hn y 0 (h y (List.mem_cons_self ..)) x hx
      simp only [List.length_cons]
      omega
    · intro x hx
      have := ih l hl x hx
      simp only [List.length_cons]
      omega
end
/-- the row behind: of the potentials from 't' on the first one -/
def nxt (up dn : Int) (p : List (List Int)) (t : Nat) : List Int := (potR up dn (p.drop t)).headD []
theorem potR_drop {up dn : Int} {p : List (List Int)} {u : Nat} (hu : u < p.length) : potR up dn (p.drop u) = addB up dn (nxt up dn p (u + 1)) 0 p[u] :: potR up dn (p.drop (u + 1)) := by
  rw [List.drop_eq_getElem_cons hu, potR]
  rfl
theorem nxt_get {up dn : Int} {p : List (List Int)} {t : Nat} (ht : t < p.length) : (potR up dn (p.drop t))[0]? = some (nxt up dn p t) := by
  rw [potR_drop ht]
  unfold nxt
  rw [potR_drop ht]
  rfl
theorem nxt_rows {up dn : Int} {p : List (List Int)} {t k0 : Nat} (ht : t < p.length) (h : ∀ l ∈ p, l.length = k0) : (nxt up dn p t).length = k0 := by
  refine potR_rows (up := up) (dn := dn) (p.drop t) (fun l hl => h l (List.mem_of_mem_drop hl)) _ ?_
  exact List.mem_of_getElem? (nxt_get ht)
theorem nxt_bound {up dn : Int} {p : List (List Int)} {t : Nat} (ht : t < p.length) (h : ∀ l ∈ p, ∀ x ∈ l, 0 ≤ x ∧ x ≤ 1024) : ∀ x ∈ nxt up dn p t, 0 ≤ x ∧ x ≤ 1024 * (p.length : Int) := fun x hx => by
  have := potR_bound (up := up) (dn := dn) (p.drop t) (fun l hl => h l (List.mem_of_mem_drop hl)) _ (List.mem_of_getElem? (nxt_get ht)) x hx
  rw [List.length_drop] at this
  omega
/-- rows while the row 'u' is worked on, up to its element 'k' -/
def rowK (up dn : Int) (p : List (List Int)) (u k : Nat) : List Int := addB up dn (nxt up dn p (u + 1)) 0 ((p.getD u []).take k) ++ (p.getD u []).drop k
def rowsK (up dn : Int) (p : List (List Int)) (u k : Nat) : List (List Int) := p.take u ++ rowK up dn p u k :: potR up dn (p.drop (u + 1))
def rowsT (up dn : Int) (p : List (List Int)) (t : Nat) : List (List Int) := p.take t ++ potR up dn (p.drop t)
section
variable {up dn : Int} {p : List (List Int)}
theorem rowsT_len (t : Nat) : (rowsT up dn p t).length = p.length := by
  unfold rowsT
  rw [List.length_append, potR_len, List.length_take, List.length_drop]
  omega
theorem rowsK_len {u k : Nat} (hu : u < p.length) : (rowsK up dn p u k).length = p.length := by
  unfold rowsK
  rw [List.length_append, List.length_cons, potR_len, List.length_take, List.length_drop]
  omega
theorem rowsT_last (h : 0 < p.length) : rowsT up dn p (p.length - 1) = p := by
  unfold rowsT
  have : p.drop (p.length - 1) = [p[p.length - 1]] := by
    rw [List.drop_eq_getElem_cons (by omega), List.drop_eq_nil_of_le (by omega)]
  rw [this, potR_one, ← this, List.take_append_drop]
theorem rowsT_zero : rowsT up dn p 0 = potR up dn p := rfl
theorem rowsK_zero {u : Nat} (hu : u < p.length) : rowsK up dn p u 0 = rowsT up dn p (u + 1) := by
  unfold rowsK rowsT rowK
  rw [getD_at hu, List.take_zero, List.drop_zero, addB, List.nil_append, List.take_succ_eq_append_getElem hu, List.append_assoc]
  rfl
theorem rowsK_full {u : Nat} (hu : u < p.length) : rowsK up dn p u p[u].length = rowsT up dn p u := by
  unfold rowsK rowsT rowK
  rw [getD_at hu, List.take_length, List.drop_length, List.append_nil, potR_drop hu]
theorem rowsK_at {u k : Nat} (hu : u < p.length) : (rowsK up dn p u k)[u]? = some (rowK up dn p u k) := by
  unfold rowsK
  rw [List.getElem?_append_right (by rw [List.length_take]; omega), List.length_take, Nat.min_eq_left (by omega), Nat.sub_self]
  rfl
theorem rowsK_next {u k : Nat} (hu : u + 1 < p.length) : (rowsK up dn p u k)[u + 1]? = some (nxt up dn p (u + 1)) := by
  unfold rowsK
  rw [List.getElem?_append_right (by rw [List.length_take]; omega), List.length_take, Nat.min_eq_left (by omega), show u + 1 - u = 1 by omega, List.getElem?_cons_succ]
  exact nxt_get hu
theorem rowK_len {u k : Nat} (hu : u < p.length) : (rowK up dn p u k).length = p[u].length := by
  unfold rowK
  rw [getD_at hu, List.length_append, addB_len, List.length_take, List.length_drop]
  omega
theorem rowK_at {u k : Nat} (hu : u < p.length) (hk : k < p[u].length) : (rowK up dn p u k)[k]? = some p[u][k] := by
  unfold rowK
  rw [getD_at hu, List.getElem?_append_right (by rw [addB_len, List.length_take]; omega), addB_len, List.length_take, Nat.min_eq_left (by omega), Nat.sub_self, List.getElem?_drop, Nat.add_zero, List.getElem?_eq_getElem hk]
theorem rowK_set {u k : Nat} (hu : u < p.length) (hk : k < p[u].length) : (rowK up dn p u k).set k (p[u][k] + bst up dn k 0 0 (nxt up dn p (u + 1))) = rowK up dn p u (k + 1) := by
  have hsplit : addB up dn (nxt up dn p (u + 1)) 0 (p[u].take (k + 1)) = addB up dn (nxt up dn p (u + 1)) 0 (p[u].take k) ++ [p[u][k] + bst up dn k 0 0 (nxt up dn p (u + 1))] := by
    apply List.ext_getElem?
    intro i
    rw [addB_get, List.getElem?_append, addB_len, List.length_take, Nat.min_eq_left (by omega), List.getElem?_take, addB_get, List.getElem?_take, Nat.zero_add]
    by_cases h1 : i < k
    · rw [if_pos (by omega), if_pos h1, if_pos h1]
    · rw [if_neg h1]
      by_cases h2 : i = k
      · subst h2
        rw [if_pos (by omega), Nat.sub_self, List.getElem?_eq_getElem hk]
        rfl
      · rw [if_neg (by omega), List.getElem?_eq_none (by simp; omega)]
        rfl
  unfold rowK
  rw [getD_at hu, hsplit, List.set_append_right _ _ (by rw [addB_len, List.length_take]; omega), addB_len, List.length_take, Nat.min_eq_left (by omega), Nat.sub_self, List.drop_eq_getElem_cons hk, List.set_cons_zero, List.append_assoc]
  rfl
theorem rowsK_set {u k : Nat} (hu : u < p.length) : (rowsK up dn p u k).set u (rowK up dn p u (k + 1)) = rowsK up dn p u (k + 1) := by
  unfold rowsK
  rw [List.set_append_right _ _ (by rw [List.length_take]; omega), List.length_take, Nat.min_eq_left (by omega), Nat.sub_self]
  rfl
end
end Go.Proofs.YtkongcnmkiihjaaGreatDoor

namespace Go.Proofs.YtkongcnmkiihjaaGreatDoor
open Go Go.Ab Go.Proofs
/-! ### rows that are made and written -/
def nils (k : Nat) : List Value := List.replicate k (.slice none 0 0)
theorem rep_cellsV (w : Nat) (z : Value) : ((Array.range (w * 1)).map ((if w * 1 = 0 then #[] else #[z])[· % (if w * 1 = 0 then #[] else #[z]).size]!)).toList = List.replicate w z := by
  refine List.eq_replicate_iff.2 ⟨by simp, fun x hx => ?_⟩
  simp only [Array.toList_map, List.mem_map, Array.toList_range, List.mem_range] at hx
  obtain ⟨i, hi, rfl⟩ := hx
  rw [if_neg (by omega)]
  simp [Nat.mod_one]
theorem inf24 : Tryz.prog.info? 24 = some Tryz.t24 := by kernel_rfl
theorem mkZ24 {fr : Fr} {H : Heap} {n : Nat} {x y : Operand} {k : Nat} (hx : evO Tryz.prog fr x = some (iv k)) (hy : evO Tryz.prog fr y = some (iv k)) (hk : k < 4294967296) : opMakeslice Tryz.prog 24 x y fr H n = some (.slice (some ⟨n, 0, none⟩) k k, (n, .cells (zer k) 3) :: H, n + 1) := by
  unfold opMakeslice
  rw [hx, hy, Tryz.underlying24]
  have hz : Tryz.t3.zero = some (.int .i64 0) := by kernel_rfl
  have hb : Tryz.t3.bytes = 8 := by kernel_rfl
  have hs : Tryz.t3.size = 1 := by kernel_rfl
  simp only [inf3, hz, hb, hs, Int.toNat_natCast]
  have hc : ((0 : Int) ≤ k ∧ (k : Int) ≤ k ∧ (smallA 8 k && afL (Value.int .i64 0).cells.toList) = true) := ⟨by omega, Int.le_refl _, by simp [smallA]; omega⟩
  rw [if_pos hc]
  unfold newA
  rw [show (Value.int .i64 0).cells = #[Value.int .i64 0] from rfl, rep_cellsV]
  rfl
theorem mkZ38 {fr : Fr} {H : Heap} {n : Nat} {x y : Operand} {k : Nat} (hx : evO Tryz.prog fr x = some (iv k)) (hy : evO Tryz.prog fr y = some (iv k)) (hk : k < 4294967296) : opMakeslice Tryz.prog 38 x y fr H n = some (.slice (some ⟨n, 0, none⟩) k k, (n, .cells (nils k) 24) :: H, n + 1) := by
  unfold opMakeslice
  rw [hx, hy, Tryz.underlying38]
  have hz : Tryz.t24.zero = some (.slice none 0 0) := by kernel_rfl
  have hb : Tryz.t24.bytes = 24 := by kernel_rfl
  have hs : Tryz.t24.size = 1 := by kernel_rfl
  simp only [inf24, hz, hb, hs, Int.toNat_natCast]
  have hc : ((0 : Int) ≤ k ∧ (k : Int) ≤ k ∧ (smallA 24 k && afL (Value.slice none 0 0).cells.toList) = true) := ⟨by omega, Int.le_refl _, by simp [smallA]; omega⟩
  rw [if_pos hc]
  unfold newA
  rw [show (Value.slice none 0 0).cells = #[Value.slice none 0 0] from rfl, rep_cellsV]
  rfl
theorem put_at {α : Type} {cs : List α} {i : Nat} {v : α} (h : i < cs.length) : cs.take i ++ [v] ++ cs.drop (i + 1) = cs.set i v := by
  rw [List.set_eq_take_append_cons_drop, if_pos h, List.append_assoc]
  rfl
theorem store_at {H : Heap} {b i : Nat} {t : TypeId} {cs : List Value} {v : Value} (h : hget H b = some (.cells cs t)) (hi : i < cs.length) : storeA H b i [v] = some (hset H b (.cells (cs.set i v) t)) := by
  unfold storeA
  rw [h]
  simp only [List.length_cons, List.length_nil, putL]
  rw [if_pos (by omega), put_at hi]
theorem hget_set {H : Heap} {b k : Nat} {x : Blk} : hget (hset H b x) k = if b = k then (hget H b).map fun _ => x else hget H k := by
  rw [hget_hset]
theorem copy_ints {H : Heap} {m q : Nat} {v : Value} {l : List Int} (hq : hget H q = some (.cells (zer l.length) 3)) (hv : intV H v = some l) (hne : l ≠ []) : builtinA Tryz.prog .copy #[24, 24] H m [.slice (some ⟨q, 0, none⟩) l.length l.length, v] = some (iv l.length, hset H q (.cells (l.map iv) 3), m) := by
  obtain ⟨a, c, rfl, hf, hc⟩ := intV_src hv hne
  have h1 : ¬ l.length = 0 := fun e => hne (List.length_eq_zero_iff.1 e)
  have hst : storeA H q 0 (l.map iv) = some (hset H q (.cells (l.map iv) 3)) := by
    unfold storeA
    rw [hq]
    simp [putL, List.drop_eq_nil_of_le]
  have hne' : l.map iv ≠ [] := by simpa using hne
  have hsrc : srcA H 1 l.length (.slice (some a) l.length c) = some (l.map iv) := by
    unfold srcA
    simp only [Nat.mul_one]
    rw [if_neg h1, if_pos hf, hc]
  have hmin : Nat.min l.length l.length = l.length := Nat.min_self _
  obtain ⟨x, xs, hx⟩ : ∃ x xs, l.map iv = x :: xs := by
    cases hl : l.map iv with
    | nil => exact absurd hl hne'
    | cons x xs => exact ⟨x, xs, rfl⟩
  have hone : oneL (l.map iv) = true := oneL_iv l
  unfold builtinA
  simp only [List.getElem?_toArray, List.getElem?_cons_zero, Tryz.underlying24, sz3, lenV, hmin, hsrc]
  rw [hx] at hst hone ⊢
  simp only [flat_n, hone, Bool.and_self, if_true, hst]
end Go.Proofs.YtkongcnmkiihjaaGreatDoor

namespace Go.Proofs.YtkongcnmkiihjaaGreatDoor
open Go Go.Ab Go.Proofs
theorem len24 {H : Heap} {m k c : Nat} {oa : Option Addr} : builtinA Tryz.prog .len #[24] H m [.slice oa k c] = some (iv k, H, m) := by simp
theorem len38 {H : Heap} {m k c : Nat} {oa : Option Addr} : builtinA Tryz.prog .len #[38] H m [.slice oa k c] = some (iv k, H, m) := by simp
theorem names_snoc : ∀ (k c : Nat), names c (k + 1) = names c k ++ [c + k]
  | 0, c => by simp [names]
  | k + 1, c => by
    rw [names, names_snoc k (c + 1), names, List.cons_append]
    congr 3
    omega
theorem kvs_snoc (K : Kd) {m : Nat} {l : List Int} : ∀ (ms : List Nat) (R : List (List Int)), ms.length = R.length → kvs K (ms ++ [m]) (R ++ [l]) = kvs K ms R ++ [K.val m l]
  | [], [], _ => rfl
  | _ :: ms, _ :: R, h => by simp [kvs, kvs_snoc K ms R (by simpa using h)]
  | [], _ :: _, h => by simp at h
  | _ :: _, [], h => by simp at h
theorem kvs_set (K : Kd) (hK : ∀ m l l', l.length = l'.length → K.val m l = K.val m l') {r : List Int} : ∀ (ms : List Nat) (R : List (List Int)) (u : Nat), (∀ l, R[u]? = some l → r.length = l.length) → kvs K ms (R.set u r) = kvs K ms R
  | m :: ms, l :: R, 0, h => by
    simp only [List.set_cons_zero, kvs]
    rw [hK m r l (h l rfl)]
  | m :: ms, l :: R, u + 1, h => by
    simp only [List.set_cons_succ, kvs]
    rw [kvs_set K hK ms R u fun l hl => h l (by simpa using hl)]
  | [], R, u, _ => by cases R.set u r <;> cases R <;> rfl
  | _ :: _, [], u, _ => rfl
/-- the rows 'R' that lie so far, of 'L' -/
structure PI (n : Nat) (H : Heap) (up dn : Int) (L : Nat) (R : List (List Int)) (Hx : Heap) : Prop where
  box : hget Hx n = some (.cells [iv up, iv dn] 45)
  out : hget Hx (n + 1) = some (.cells (kvs kMake (names (n + 1 + 1) R.length) R ++ nils (L - R.length)) 24)
  row : ∀ (i : Nat) (l : List Int), R[i]? = some l → hget Hx (n + 1 + 1 + i) = some (.cells (l.map iv) 3)
  sub : Sub (tidy n H) Hx
  new : ∀ j, n + 1 + 1 + R.length ≤ j → hget Hx j = none
section
variable {n L : Nat} {H Hx : Heap} {up dn : Int} {R : List (List Int)}
theorem PI.at (h : PI n H up dn L R Hx) {i : Nat} {l : List Int} (hl : R[i]? = some l) : cellA Hx (n + 1) i = some (.slice (some ⟨n + 1 + 1 + i, 0, none⟩) l.length l.length) := by
  have hi : i < R.length := (List.getElem?_eq_some_iff.1 hl).1
  rw [cellA_eq, h.out]
  simp only [Option.bind_some, cellB]
  rw [List.getElem?_append_left (by rw [kvs_len _ _ _ (names_len _ _)]; exact hi), kvs_get kMake _ R i _ l (names_get _ _ i hi) hl]
  rfl
theorem PI.cell (h : PI n H up dn L R Hx) {i k : Nat} {l : List Int} (hl : R[i]? = some l) (hk : k < l.length) : cellA Hx (n + 1 + 1 + i) k = some (iv l[k]) := by
  rw [cellA_eq, h.row i l hl]
  simp [cellB, hk]
theorem PI.write (h : PI n H up dn L R Hx) {u : Nat} {r r' : List Int} (hr : R[u]? = some r) (hlen : r'.length = r.length) : PI n H up dn L (R.set u r') (hset Hx (n + 1 + 1 + u) (.cells (r'.map iv) 3)) := by
  have hu : u < R.length := (List.getElem?_eq_some_iff.1 hr).1
  refine ⟨?_, ?_, fun i l hl => ?_, fun k b hk => ?_, fun j hj => ?_⟩
  · rw [hget_set, if_neg (by omega)]; exact h.box
  · rw [hget_set, if_neg (by omega), List.length_set, kvs_set kMake (fun m l l' e => by simp [kMake, e]) _ R u fun l hl => by rw [hr] at hl; injection hl with hl; rw [hlen, hl]]
    exact h.out
  · rw [hget_set]
    by_cases e : u = i
    · subst e
      rw [List.getElem?_set_self hu] at hl
      injection hl with hl
      rw [if_pos rfl, h.row u r hr, hl]
      rfl
    · rw [if_neg (by omega)]
      rw [List.getElem?_set_ne e] at hl
      exact h.row i l hl
  · rw [hget_set, if_neg]
    · exact h.sub k b hk
    · have := tidy_lt k b hk
      omega
  · rw [List.length_set] at hj
    rw [hget_set, if_neg (by omega)]
    exact h.new j hj
/-- a row more -/
theorem PI.more (h : PI n H up dn L R Hx) (hR : R.length < L) {l : List Int} (hne : l ≠ []) {v : Value} (hv : intV (tidy n H) v = some l) :
    ∃ Hy Hz, storeA ((n + 1 + 1 + R.length, .cells (zer l.length) 3) :: Hx) (n + 1) R.length [.slice (some ⟨n + 1 + 1 + R.length, 0, none⟩) l.length l.length] = some Hy ∧
      cellA Hy (n + 1) R.length = some (.slice (some ⟨n + 1 + 1 + R.length, 0, none⟩) l.length l.length) ∧
      (∀ m, builtinA Tryz.prog .copy #[24, 24] Hy m [.slice (some ⟨n + 1 + 1 + R.length, 0, none⟩) l.length l.length, v] = some (iv l.length, Hz, m)) ∧ PI n H up dn L (R ++ [l]) Hz := by
  obtain ⟨q, hq⟩ : ∃ q, n + 1 + 1 + R.length = q := ⟨_, rfl⟩
  rw [hq]
  have hlen : (kvs kMake (names (n + 1 + 1) R.length) R ++ nils (L - R.length)).length = L := by
    rw [List.length_append, kvs_len _ _ _ (names_len _ _)]
    simp [nils]
    omega
  have hno : hget Hx q = none := h.new q (by omega)
  have h1 : hget ((q, Blk.cells (zer l.length) 3) :: Hx) (n + 1) = some (.cells (kvs kMake (names (n + 1 + 1) R.length) R ++ nils (L - R.length)) 24) := by rw [hget_cons, if_neg (by omega)]; exact h.out
  have hst := store_at (v := .slice (some ⟨q, 0, none⟩) l.length l.length) h1 (i := R.length) (by omega)
  obtain ⟨Hy, hHy⟩ : ∃ Hy, hset ((q, Blk.cells (zer l.length) 3) :: Hx) (n + 1) (.cells ((kvs kMake (names (n + 1 + 1) R.length) R ++ nils (L - R.length)).set R.length (.slice (some ⟨q, 0, none⟩) l.length l.length)) 24) = Hy := ⟨_, rfl⟩
  rw [hHy] at hst
  have hg : ∀ k, hget Hy k = if n + 1 = k then some (.cells ((kvs kMake (names (n + 1 + 1) R.length) R ++ nils (L - R.length)).set R.length (.slice (some ⟨q, 0, none⟩) l.length l.length)) 24) else if q = k then some (.cells (zer l.length) 3) else hget Hx k := fun k => by
    rw [← hHy, hget_set, h1, hget_cons]
    rfl
  have hqy : hget Hy q = some (.cells (zer l.length) 3) := by rw [hg, if_neg (by omega), if_pos rfl]
  have hsub : Sub (tidy n H) Hy := fun k b hk => by
    have := tidy_lt k b hk
    rw [hg, if_neg (by omega), if_neg (by omega)]
    exact h.sub k b hk
  have hcp := fun m => copy_ints (m := m) hqy (listV_mono decI_mono hsub hv) hne
  have hg2 : ∀ k, hget (hset Hy q (.cells (l.map iv) 3)) k = if q = k then some (.cells (l.map iv) 3) else hget Hy k := fun k => by
    rw [hget_set, hqy]; rfl
  refine ⟨Hy, _, hst, ?_, hcp, ⟨?_, ?_, fun i l' hl => ?_, fun k b hk => ?_, fun j hj => ?_⟩⟩
  · rw [cellA_eq, hg, if_pos rfl]
    simp only [Option.bind_some, cellB]
    rw [List.getElem?_set_self (by omega)]
  · rw [hg2, if_neg (by omega), hg, if_neg (by omega), if_neg (by omega)]; exact h.box
  · rw [hg2, if_neg (by omega), hg, if_pos rfl]
    congr 2
    rw [List.length_append, List.length_singleton, names_snoc, kvs_snoc _ _ _ (names_len _ _)]
    have hnil : nils (L - R.length) = .slice none 0 0 :: nils (L - (R.length + 1)) := by
      unfold nils
      rw [show L - R.length = (L - (R.length + 1)) + 1 by omega, List.replicate_succ]
    rw [hnil, List.set_append_right _ _ (by rw [kvs_len _ _ _ (names_len _ _)]; exact Nat.le_refl _), kvs_len _ _ _ (names_len _ _), Nat.sub_self, List.set_cons_zero, List.append_assoc, hq]
    rfl
  · rw [hg2]
    by_cases e : i < R.length
    · rw [List.getElem?_append_left e] at hl
      rw [if_neg (by omega), hg, if_neg (by omega), if_neg (by omega)]
      exact h.row i l' hl
    · rw [List.getElem?_append_right (by omega)] at hl
      have e2 : i = R.length := by
        have := (List.getElem?_eq_some_iff.1 hl).1
        simp at this
        omega
      subst e2
      rw [Nat.sub_self, List.getElem?_cons_zero] at hl
      injection hl with hl
      subst hl
      rw [if_pos hq.symm]
  · have := tidy_lt k b hk
    rw [hg2, if_neg (by omega)]
    exact hsub k b hk
  · rw [List.length_append, List.length_singleton] at hj
    rw [hg2, if_neg (by omega), hg, if_neg (by omega), if_neg (by omega)]
    exact h.new j (by omega)
end
end Go.Proofs.YtkongcnmkiihjaaGreatDoor

namespace Go.Proofs.YtkongcnmkiihjaaGreatDoor
open Go Go.Ab Go.Proofs
theorem bst_drop {up dn : Int} {row : Nat} {l : List Int} {j : Nat} {acc : Int} (hj : j < l.length) : bst up dn row j acc (l.drop j) = bst up dn row (j + 1) (if mayB up dn row j = true then max acc l[j] else acc) (l.drop (j + 1)) := by
  rw [List.drop_eq_getElem_cons hj, bst]
theorem load45 {H : Heap} {n : Nat} {a b : Int} (h : hget H n = some (.cells [iv a, iv b] 45)) : loadA Tryz.prog 45 H (.pointer (some ⟨n, 0, none⟩)) = some (limA a b) := by
  have : cellsA H n 0 2 = some [iv a, iv b] := by rw [cellsA_eq, h]; rfl
  simp only [loadA, ag45, sz45, this, Option.map_some]
theorem r101 {HX : Heap} {n m : Nat} {up dn x y : Int} {b : Bool} {gm : List Value → Heap → Nat → R} {f5 f8 f10 : Value} {fr : Fr} {vs : List Nat} (hld : loadA Tryz.prog 45 HX (.pointer (some ⟨n, 0, none⟩)) = some (limA up dn)) (hgm : ∀ H n, gm [.agg #[iv up, iv dn], iv x, iv y] H n = some (.bool b, H, n)) :
    opsF Tryz.prog (recT [(112, gm)]) #[⟨some 62, .load 45 (.tmp 3), 45, "path.go:78", #[], none⟩, ⟨some 63, .move (.tmp 9), 3, "path.go:78", #[], none⟩, ⟨some 64, .move (.tmp 11), 3, "path.go:78", #[], none⟩, ⟨some 65, .call ⟨.value (.func 112), #[.tmp 62, .tmp 63, .tmp 64], #[45, 3, 3]⟩, 4, "path.go:78", #[⟨0, .data⟩, ⟨1, .data⟩, ⟨2, .data⟩], none⟩] [⟨some 62, .load 45 (.tmp 3), 45, "path.go:78", #[], none⟩, ⟨some 63, .move (.tmp 9), 3, "path.go:78", #[], none⟩, ⟨some 64, .move (.tmp 11), 3, "path.go:78", #[], none⟩, ⟨some 65, .call ⟨.value (.func 112), #[.tmp 62, .tmp 63, .tmp 64], #[45, 3, 3]⟩, 4, "path.go:78", #[⟨0, .data⟩, ⟨1, .data⟩, ⟨2, .data⟩], none⟩]
      { fr := (3, .pointer (some ⟨n, 0, none⟩)) :: (5, f5) :: (8, f8) :: (9, iv x) :: (10, f10) :: (11, iv y) :: fr, sz := 82, H := HX, n := m, marks := [], vs := vs } = some { fr := (65, .bool b) :: (64, iv y) :: (63, iv x) :: (62, .agg #[iv up, iv dn]) :: (3, .pointer (some ⟨n, 0, none⟩)) :: (5, f5) :: (8, f8) :: (9, iv x) :: (10, f10) :: (11, iv y) :: fr, sz := 82, H := HX, n := m, marks := [], vs := vs } := by
  simp [-loadA, hld, hgm]
set_option maxRecDepth 50000 in
theorem w101 {H : Heap} {n : Nat} {v : Value} {p : List (List Int)} (up dn : Int) (hP : nestV H v = some p) (hp0 : panE p = 0) : AC Tryz.prog 101 [v, limA up dn] H n (ndV oMake n (potR up dn p)) (ndB kMake oMake n (potR up dn p) ++ H) (n + 1 + (potR up dn p).length) := by
  obtain ⟨q1, q2, q3, q4, q5, q6⟩ := panE_zero hp0
  have hLp : (potR up dn p).length = p.length := potR_len p
  refine AC.given fun hold hsc hgn => AC.tidied (fun x hx => (ndB_names x hx).1) ?_
  replace hP := nest_tidy hold hP
  replace hold := tidy_old hold
  have hr := recT_ok (P := Tryz.prog) (l := [(112, gMay)]) (by simp [ok112])
  have hS : Sub (tidy n H) (tidy n H) := Sub.refl _
  obtain ⟨oa, c, rfl, hlt, _, hrow⟩ := nestV_form hP
  refine AC.fresh Tryz.func101 rfl (by kernel_rfl) rfl [0, 3, 5, 8, 9, 10, 16, 17, 18, 47, 48, 55, 56, 57] (by omega) (oMake.sc _ _ _ (by omega)) (fun ρ => by rw [ndV, oMake.ren]; exact oMake.af _ _) ?_
  refine E.seq ?_
  refine E.reg hr (by simp; rfl) ?_ -- region 0
  refine E.seq ?_
  refine E.reg hr (by simp [-builtinA, len38, mkZ38 (k := p.length) _ _ (show p.length < 4294967296 by omega)]; rfl) ?_ -- region 1
  refine E.seq ?_
  refine E.seq ?_
  refine E.reg hr (by simp; rfl) ?_ -- region 2
  refine E.block ?_ -- 0
  refine E.loop ?_
  have hI0 : PI n H up dn p.length [] ((n + 1, .cells (nils p.length) 24) :: (n, .cells [iv up, iv dn] 45) :: tidy n H) := by
    refine ⟨?_, ?_, fun i l h => by simp at h, Sub.cons (by simp) (Sub.cons (by simp) hS), fun j hj => ?_⟩
    · rw [hget_cons, if_neg (by omega), hget_cons, if_pos rfl]
    · rw [hget_cons, if_pos rfl]; rfl
    · simp only [List.length_nil, Nat.add_zero] at hj
      rw [hget_cons, if_neg (by omega), hget_cons, if_neg (by omega)]
      have := (no_new (tidy_lt (n := n) (H := H))).2 (j - n)
      rwa [show n + (j - n) = j by omega] at this
  refine EL.ind (fun x : Nat × Heap => { fr := [(0, .slice oa p.length c), (3, .pointer (some ⟨n, 0, none⟩)), (5, .slice (some ⟨n + 1, 0, none⟩) p.length p.length), (16, .slice oa p.length c), (17, iv p.length), (18, iv x.1)], sz := 82, H := x.2, n := n + 1 + 1 + x.1, marks := [], vs := [0, 3, 5, 8, 9, 10, 16, 17, 18, 47, 48, 55, 56, 57] }) (fun x => p.length - x.1) (fun x => x.1 ≤ p.length ∧ PI n H up dn p.length (p.take x.1) x.2) (0, (n + 1, .cells (nils p.length) 24) :: (n, .cells [iv up, iv dn] 45) :: tidy n H) (.keep rfl rfl rfl (by simp) (Sub.refl _)) ⟨Nat.zero_le _, hI0⟩ (fun _ => rfl) ?_
  rintro ⟨i, Hx⟩ ⟨hi, hI⟩
  dsimp only at hi hI ⊢
  have hw : IntKind.i64.wrap ((i : Int) + 1) = (i : Int) + 1 := W_in (by omega) (by omega)
  have hti : (p.take i).length = i := by rw [List.length_take]; omega
  refine E.seq ?_
  refine E.reg hr (by simp; rfl) ?_ -- region 3
  refine E.seq ?_
  by_cases hil : i < p.length
  · obtain ⟨a, r, rfl, hf, hc, hv⟩ := hrow i hil
    obtain ⟨orr, cr, rfl, hlr, _, hcl⟩ := intV_form hv
    have hpi : p[i].length = len0 p := q5 _ (List.getElem_mem hil)
    have hne : p[i] ≠ [] := fun e => by rw [e] at hpi; simp at hpi; omega
    obtain ⟨Hy, Hz, m1, m2, m3, m4⟩ := hI.more (by omega) hne hv
    rw [hti] at m1 m2 m3
    have hc2 := hI.sub.cell hc
    have hts : p.take i ++ [p[i]] = p.take (i + 1) := by rw [List.take_succ_eq_append_getElem hil]
    rw [hts] at m4
    refine E.cond (t := true) (by simp [hil]) (fun _ => ?_) (fun h => by cases h)
    refine E.skip ?_
    refine E.seq ?_
    refine E.block ?_ -- 1
    refine E.seq ?_
    refine E.reg hr (by simp [-cellA, -flat, hil, hf, hc2]; rfl) ?_ -- region 4
    refine E.seq ?_
    obtain ⟨q, hq⟩ : ∃ q, n + 1 + 1 + i = q := ⟨_, rfl⟩
    rw [hq] at m1 m2 m3
    rw [hq]
    refine E.reg hr (by simp [-builtinA, -storeA, -flat, flat_n, len24, mkZ24 (k := p[i].length) _ _ (show p[i].length < 4294967296 by omega), hil, m1]; rfl) ?_ -- region 5
    refine E.reg hr (by simp [-builtinA, -cellA, -flat, flat_n, hil, m2, m3]; rfl) ?_ -- region 6
    refine E.reg hr (by simp [hw]; rfl) ?_ -- region 7
    exact ⟨(i + 1, Hz), .keep (by dsimp only; omega) rfl rfl (by simp) (Sub.refl _), ⟨hil, m4⟩, by dsimp only; omega⟩
  · refine E.cond (t := false) (by simp [hil]) (fun h => by cases h) (fun _ => ?_)
    have hil2 : i = p.length := by omega
    subst hil2
    rw [List.take_length] at hI
    have hwL : IntKind.i64.wrap ((p.length : Int) - 2) = (p.length : Int) - 2 := W_in (by omega) (by omega)
    refine E.exit ?_ -- 0
    refine E.seq ?_
    refine E.seq ?_
    refine E.reg hr (by simp [hwL]; rfl) ?_ -- region 8
    refine E.block ?_ -- 2
    refine E.loop ?_
    obtain ⟨N, hN⟩ : ∃ N, n + 1 + 1 + p.length = N := ⟨_, rfl⟩
    have e8 : ((p.length - 1 : Nat) : Int) - 1 = (p.length : Int) - 2 := by omega
    refine EL.ind (fun x : Nat × Heap => { fr := [(3, .pointer (some ⟨n, 0, none⟩)), (5, .slice (some ⟨n + 1, 0, none⟩) p.length p.length), (8, iv ((x.1 : Int) - 1))], sz := 82, H := x.2, n := N, marks := [], vs := [0, 3, 5, 8, 9, 10, 16, 17, 18, 47, 48, 55, 56, 57] }) (fun x => x.1) (fun x => x.1 < p.length ∧ PI n H up dn p.length (rowsT up dn p x.1) x.2) (p.length - 1, Hx) (.keep hN.symm rfl rfl (by simp [e8]) (Sub.refl _)) ⟨by dsimp only; omega, by rw [rowsT_last q1]; exact hI⟩ (fun _ => rfl) ?_
    clear hI
    rintro ⟨t, Hx⟩ ⟨ht, hI⟩
    dsimp only at ht hI ⊢
    refine E.seq ?_
    refine E.seq ?_
    refine E.reg hr (by simp; rfl) ?_ -- region 9
    rcases t with _ | u
    · refine E.cond (t := false) (by simp) (fun h => by cases h) (fun _ => ?_)
      refine E.exit ?_ -- 2
      refine E.seq ?_
      refine E.reg hr (by simp; rfl) ?_ -- region 23
      refine E.ret ?_
      rw [rowsT_zero] at hI
      have hout := hI.out
      rw [hLp, Nat.sub_self] at hout
      refine outK.ret rfl rfl ?_
      refine outK_nd (o := n + 1) (ms := names (n + 1 + 1) p.length) (K := kMake) (O := oMake) (by simp only [hLp]; rfl) (by rw [names_len, hLp]) (by omega) (fun m hm => ?_) ?_ (by rw [show nils 0 = [] from rfl, List.append_nil] at hout; exact hout) (fun i m l h1 h2 => ?_) hI.sub
      · obtain ⟨i, hi, rfl⟩ := List.getElem_of_mem hm
        rw [names_len] at hi
        have := names_get p.length (n + 1 + 1) i hi
        rw [List.getElem?_eq_getElem (by rw [names_len]; exact hi)] at this
        injection this with this
        omega
      · rw [List.nodup_iff_pairwise_ne, List.pairwise_iff_getElem]
        intro i j hi hj hij e
        have hi' := hi
        have hj' := hj
        rw [names_len] at hi' hj'
        have e1 := names_get p.length (n + 1 + 1) i hi'
        have e2 := names_get p.length (n + 1 + 1) j hj'
        rw [List.getElem?_eq_getElem hi] at e1
        rw [List.getElem?_eq_getElem hj] at e2
        injection e1 with e1
        injection e2 with e2
        omega
      · have hi : i < p.length := by rw [← hLp]; exact (List.getElem?_eq_some_iff.1 h2).1
        rw [names_get _ _ _ hi] at h1
        injection h1 with h1
        rw [← h1]
        exact hI.row i l h2
    · have hu : u < p.length := by omega
      refine E.cond (t := true) (by simp; omega) (fun _ => ?_) (fun h => by cases h)
      have hc8 : ((u + 1 : Nat) : Int) - 1 = u := by omega
      rw [hc8]
      refine E.skip ?_
      refine E.lead { fr := [(3, .pointer (some ⟨n, 0, none⟩)), (5, .slice (some ⟨n + 1, 0, none⟩) p.length p.length), (8, iv u)], sz := 82, H := Hx, n := N, marks := [], vs := [0, 3, 5, 8, 9, 10, 16, 17, 18, 47, 48, 55, 56, 57] } (.keep rfl rfl rfl (by simp) (Sub.refl _)) ?_
      rw [← rowsK_zero hu] at hI
      have hpu : p[u].length = len0 p := q5 _ (List.getElem_mem hu)
      have hat := hI.at (rowsK_at hu)
      have hlen0 := rowK_len (up := up) (dn := dn) (k := 0) hu
      rw [hlen0] at hat
      refine E.seq ?_
      refine E.block ?_ -- 3
      refine E.seq ?_
      refine E.reg hr (by simp [-cellA, -flat, flat_n, hu, hat]; rfl) ?_ -- region 11
      refine E.block ?_ -- 4
      refine E.loop ?_
      refine EL.ind (fun x : Nat × Heap => { fr := [(3, .pointer (some ⟨n, 0, none⟩)), (5, .slice (some ⟨n + 1, 0, none⟩) p.length p.length), (8, iv u), (47, iv p[u].length), (48, iv x.1)], sz := 82, H := x.2, n := N, marks := [], vs := [0, 3, 5, 8, 9, 10, 16, 17, 18, 47, 48, 55, 56, 57] }) (fun x => p[u].length - x.1) (fun x => x.1 ≤ p[u].length ∧ PI n H up dn p.length (rowsK up dn p u x.1) x.2) (0, Hx) (.keep rfl rfl rfl (by simp) (Sub.refl _)) ⟨Nat.zero_le _, hI⟩ (fun _ => rfl) ?_
      clear hI hat
      rintro ⟨k, Hx⟩ ⟨hk, hI⟩
      dsimp only at hk hI ⊢
      have hw : IntKind.i64.wrap ((k : Int) + 1) = (k : Int) + 1 := W_in (by omega) (by omega)
      have hwu : IntKind.i64.wrap ((u : Int) + 1) = (u : Int) + 1 := W_in (by omega) (by omega)
      have hwm : IntKind.i64.wrap ((u : Int) - 1) = (u : Int) - 1 := W_in (by omega) (by omega)
      refine E.seq ?_
      refine E.reg hr (by simp; rfl) ?_ -- region 12
      refine E.seq ?_
      by_cases hkl : k < p[u].length
      · have hu1 : u + 1 < p.length := by omega
        have huI : (u : Int) + 1 < p.length := by omega
        have hnx := rowsK_next (up := up) (dn := dn) (k := k) hu1
        obtain ⟨nx, hnxe⟩ : ∃ nx, nxt up dn p (u + 1) = nx := ⟨_, rfl⟩
        have hnl : nx.length = len0 p := by rw [← hnxe]; exact nxt_rows hu1 q5
        have hnb : ∀ x ∈ nx, 0 ≤ x ∧ x ≤ 1024 * (p.length : Int) := by rw [← hnxe]; exact nxt_bound hu1 q6
        rw [hnxe] at hnx
        have hat1 := hI.at hnx
        rw [show n + 1 + 1 + (u + 1) = n + 1 + 1 + u + 1 by omega] at hat1
        refine E.cond (t := true) (by simp [hkl]) (fun _ => ?_) (fun h => by cases h)
        refine E.skip ?_
        refine E.seq ?_
        refine E.block ?_ -- 5
        refine E.seq ?_
        refine E.reg hr (by simp; rfl) ?_ -- region 13
        refine E.seq ?_
        refine E.reg hr (by simp; rfl) ?_ -- region 14
        refine E.seq ?_
        refine E.seq ?_
        refine E.reg hr (by simp [-cellA, -flat, flat_n, hwu, huI, hat1]; rfl) ?_ -- region 15
        refine E.block ?_ -- 6
        refine E.loop ?_
        refine EL.ind (fun x : Nat × Int => { fr := [(3, .pointer (some ⟨n, 0, none⟩)), (5, .slice (some ⟨n + 1, 0, none⟩) p.length p.length), (8, iv u), (9, iv k), (10, iv x.2), (47, iv p[u].length), (48, iv k), (55, .slice (some ⟨n + 1 + 1 + u + 1, 0, none⟩) nx.length nx.length), (56, iv nx.length), (57, iv x.1)], sz := 82, H := Hx, n := N, marks := [], vs := [0, 3, 5, 8, 9, 10, 16, 17, 18, 47, 48, 55, 56, 57] }) (fun x => nx.length - x.1) (fun x => x.1 ≤ nx.length ∧ bst up dn k x.1 x.2 (nx.drop x.1) = bst up dn k 0 0 nx) (0, 0) (.keep rfl rfl rfl (by simp) (Sub.refl _)) ⟨Nat.zero_le _, rfl⟩ (fun _ => rfl) ?_
        rintro ⟨j, acc⟩ ⟨hj, hq⟩
        dsimp only at hj hq ⊢
        have hwj : IntKind.i64.wrap ((j : Int) + 1) = (j : Int) + 1 := W_in (by omega) (by omega)
        refine E.seq ?_
        refine E.reg hr (by simp; rfl) ?_ -- region 16
        refine E.seq ?_
        by_cases hjl : j < nx.length
        · have hcj := hI.cell hnx hjl
          rw [show n + 1 + 1 + (u + 1) = n + 1 + 1 + u + 1 by omega] at hcj
          have hld := load45 hI.box
          have hgm := gMay_eq (up := up) (dn := dn) (show k < 2147483648 by omega) (show j < 2147483648 by omega)
          rw [bst_drop hjl] at hq
          refine E.cond (t := true) (by simp [hjl]) (fun _ => ?_) (fun h => by cases h)
          refine E.skip ?_
          refine E.seq ?_
          refine E.block ?_ -- 7
          refine E.seq ?_
          refine E.reg hr (by simp [-cellA, -flat, flat_n, hjl, hcj]; rfl) ?_ -- region 17
          refine E.seq ?_
          refine E.lead { fr := [(3, .pointer (some ⟨n, 0, none⟩)), (5, .slice (some ⟨n + 1, 0, none⟩) p.length p.length), (8, iv u), (9, iv k), (10, iv acc), (11, iv j), (12, iv nx[j]), (47, iv p[u].length), (48, iv k), (55, .slice (some ⟨n + 1 + 1 + u + 1, 0, none⟩) nx.length nx.length), (56, iv nx.length), (57, iv j)], sz := 82, H := Hx, n := N, marks := [], vs := [0, 3, 5, 8, 9, 10, 16, 17, 18, 47, 48, 55, 56, 57] } (.keep rfl rfl rfl (by simp) (Sub.refl _)) ?_
          refine E.reg hr (r101 hld hgm) ?_ -- region 18
          by_cases hmay : mayB up dn k j = true
          · rw [if_pos hmay] at hq
            refine E.cond (t := true) (by simp [hmay]) (fun _ => ?_) (fun h => by cases h)
            refine E.reg hr (by simp [max33]; rfl) ?_ -- region 19
            refine E.reg hr (by simp [hwj]; rfl) ?_ -- region 20
            exact ⟨(j + 1, max acc nx[j]), .keep rfl rfl rfl (by simp) (Sub.refl _), ⟨hjl, hq⟩, by dsimp only; omega⟩
          · rw [if_neg hmay] at hq
            refine E.cond (t := false) (by simp [hmay]) (fun h => by cases h) (fun _ => ?_)
            refine E.skip ?_
            refine E.reg hr (by simp [hwj]; rfl) ?_ -- region 20
            exact ⟨(j + 1, acc), .keep rfl rfl rfl (by simp) (Sub.refl _), ⟨hjl, hq⟩, by dsimp only; omega⟩
        · rw [List.drop_eq_nil_of_le (by omega), bst] at hq
          have hrk := rowsK_at (up := up) (dn := dn) (k := k) hu
          have hat2 := hI.at hrk
          have hrl := rowK_len (up := up) (dn := dn) (k := k) hu
          have hkr : k < (rowK up dn p u k).length := by omega
          have hck := hI.cell hrk hkr
          have hke : (rowK up dn p u k)[k] = p[u][k] := by
            have := rowK_at (up := up) (dn := dn) hu hkl
            rw [List.getElem?_eq_getElem hkr] at this
            exact Option.some.inj this
          rw [hke] at hck
          rw [hrl] at hat2
          have hb1 := bst_bound (up := up) (dn := dn) (row := k) nx 0 0 ⟨by omega, (show (0 : Int) ≤ 1024 * (p.length : Int) by omega)⟩ hnb
          have hb2 := q6 _ (List.getElem_mem hu) _ (List.getElem_mem hkl)
          have hacc : acc = bst up dn k 0 0 nx := hq
          have hws : IntKind.i64.wrap (p[u][k] + acc) = p[u][k] + acc := W_in (by omega) (by omega)
          have hst := store_at (v := iv (p[u][k] + acc)) (hI.row u _ hrk) (i := k) (by rw [List.length_map]; exact hkr)
          have hsetE : ((rowK up dn p u k).map iv).set k (iv (p[u][k] + acc)) = (rowK up dn p u (k + 1)).map iv := by
            rw [← List.map_set, hacc, ← hnxe, rowK_set hu hkl]
          rw [hsetE] at hst
          have hI2 := hI.write (r' := rowK up dn p u (k + 1)) hrk (by rw [rowK_len hu, rowK_len hu])
          rw [rowsK_set hu] at hI2
          refine E.cond (t := false) (by simp [hjl]) (fun h => by cases h) (fun _ => ?_)
          refine E.exit ?_ -- 6
          refine E.reg hr (by simp [-cellA, -storeA, -flat, flat_n, hu, hat2, hkl, hck, hws, hst]; rfl) ?_ -- region 21
          refine E.reg hr (by simp [hw]; rfl) ?_ -- region 22
          exact ⟨(k + 1, hset Hx (n + 1 + 1 + u) (.cells ((rowK up dn p u (k + 1)).map iv) 3)), .keep rfl rfl rfl (by simp) (Sub.refl _), ⟨hkl, hI2⟩, by dsimp only; omega⟩
      · refine E.cond (t := false) (by simp [hkl]) (fun h => by cases h) (fun _ => ?_)
        refine E.exit ?_ -- 4
        refine E.reg hr (by simp [hwm]; rfl) ?_ -- region 10
        have hk2 : k = p[u].length := by omega
        rw [hk2, rowsK_full hu] at hI
        exact ⟨(u, Hx), .keep rfl rfl rfl (by simp) (Sub.refl _), ⟨by dsimp only; omega, hI⟩, by dsimp only; omega⟩
end Go.Proofs.YtkongcnmkiihjaaGreatDoor
