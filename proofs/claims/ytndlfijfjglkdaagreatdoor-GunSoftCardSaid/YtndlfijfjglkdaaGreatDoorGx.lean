/-
The soft start walked, by the program and by the reference, and the plain reckoning that both give the same steps (each under the conditions in its statement).
-/
import Derived.Test.YtndlfijfjglkdaaGreatDoorGw
import Derived.Test.YtndlfijfjglkdaaGreatDoorGz
namespace Go.Proofs.YtndlfijfjglkdaaGreatDoor
open Go Go.Ab Go.Proofs Go.Soft
abbrev TxD := Bool × List ByteArray
abbrev kT : RowD TxD ByteArray decS := kTx 9
abbrev oT : LstK := oLit 102
/-- rows of texts on their way, above a heap 'K' that is kept -/
structure LB (q : Nat) (K : Heap) (ms : List Nat) (ds : List TxD) (o : Nat) (Hx : Heap) (N : Nat) : Prop where
  sub : Sub K Hx
  nm : namesOk N Hx = true
  pl : plainH Hx = true
  len : ms.length = ds.length
  row : ∀ (i m : Nat) (d : TxD), ms[i]? = some m → ds[i]? = some d → hget Hx m = some (kT.blk d)
  out : hget Hx o = some (oT.blk (kvd kT ms ds))
  mem : ∀ m ∈ ms, q ≤ m ∧ m < N ∧ m ≠ o
  nd : ms.Nodup
  ho : q ≤ o ∧ o < N
  ne : ds ≠ []
section
variable {q o N : Nat} {K Hx : Heap} {ms : List Nat} {ds : List TxD}
theorem LB.skip (h : LB q K ms ds o Hx N) (hK : ∀ k b, hget K k = some b → k < q) (b : Blk) (hb : plainB2 b = true) : LB q K ms ds o ((N, b) :: Hx) (N + 1) := by
  have h0 := h.ho
  refine ⟨fun k b' hk => ?_, namesOk_put (by omega) (namesOk_mono (by omega) _ h.nm), by rw [plainH, hb, h.pl]; rfl, h.len, fun i m d h1 h2 => ?_, ?_, fun m hm => ?_, h.nd, ⟨h0.1, by omega⟩, h.ne⟩
  · have := hK k b' hk
    rw [hget_cons, if_neg (by omega)]
    exact h.sub k b' hk
  · have := h.mem m (List.mem_of_getElem? h1)
    rw [hget_cons, if_neg (by omega)]
    exact h.row i m d h1 h2
  · rw [hget_cons, if_neg (by omega)]; exact h.out
  · have := h.mem m hm
    exact ⟨this.1, by omega, this.2.2⟩
theorem kT_form (m : Nat) (d : TxD) : ∃ s c, kT.val m d = .slice (some ⟨m, 0, s⟩) d.2.length c := by
  obtain ⟨b, l⟩ := d
  cases b
  · exact ⟨some 0, 0, rfl⟩
  · exact ⟨none, l.length, rfl⟩
theorem kT_one (m : Nat) (d : TxD) : oneL [kT.val m d] = true := by
  obtain ⟨s, c, e⟩ := kT_form m d
  rw [e]; rfl
/-- a row more -/
theorem LB.more (h : LB q K ms ds o Hx N) (hK : ∀ k b, hget K k = some b → k < q) {m : Nat} {d : TxD} (hm : hget Hx m = some (kT.blk d)) (hq : q ≤ m ∧ m < N ∧ m ≠ o) (hn : m ∉ ms) (hl : ds.length < 2147483648) :
    ∃ Hz, builtinA Tryz.prog .append #[122, 122] ((N, .cells [kT.val m d] 102) :: Hx) (N + 1) [oT.val o ds.length, .slice (some ⟨N, 0, none⟩) 1 1] = some (oT.val (N + 1) (ds.length + 1), Hz, N + 1 + 1) ∧ LB q K (ms ++ [m]) (ds ++ [d]) (N + 1) Hz (N + 1 + 1) := by
  have hl0 := kvd_len kT ms ds h.len
  have hpos : 0 < ds.length := List.length_pos_iff.2 h.ne
  have hk : cellsA ((N, .cells [kT.val m d] 102) :: Hx) N 0 1 = some [kT.val m d] := by
    rw [cellsA_eq, hget_cons, if_pos rfl]; rfl
  have hsn : kvd kT (ms ++ [m]) (ds ++ [d]) = kvd kT ms ds ++ [kT.val m d] := kvd_snoc kT ms ds h.len
  have h0 := h.ho
  have hox : hget ((N, Blk.cells [kT.val m d] 102) :: Hx) o = some (oT.blk (kvd kT ms ds)) := by rw [hget_cons, if_neg (by omega)]; exact h.out
  have hv : oT.val (N + 1) (ds.length + 1) = .slice (some ⟨N + 1, 0, some 0⟩) (ds.length + 1) 0 := if_neg (by omega)
  have hb : oT.blk (kvd kT (ms ++ [m]) (ds ++ [d])) = .ext (kvd kT ms ds ++ [kT.val m d]) 102 1 := by
    rw [hsn]
    exact if_neg (by rw [List.length_append, List.length_singleton]; omega)
  have hsm : (ds.length + 1) * 24 ≤ 1099511627776 ∧ ds.length + 1 ≤ 1099511627776 := by omega
  have h1 := kT_one m d
  have fin : ∀ Hd : Heap, (∀ k, k ≠ o → hget Hd k = hget ((N, Blk.cells [kT.val m d] 102) :: Hx) k) → namesOk (N + 1) Hd = true → plainH Hd = true → LB q K (ms ++ [m]) (ds ++ [d]) (N + 1) ((N + 1, .ext (kvd kT ms ds ++ [kT.val m d]) 102 1) :: Hd) (N + 1 + 1) := by
    intro Hd hg hnm hpl
    refine ⟨fun k b hk => ?_, namesOk_put (by omega) (namesOk_mono (by omega) _ hnm), by simp [plainH, hpl], by simp [h.len], fun i m' d' e1 e2 => ?_, ?_, fun m' hm' => ?_, ?_, ⟨by omega, by omega⟩, by simp⟩
    · have := hK k b hk
      rw [hget_cons, if_neg (by omega), hg k (by omega), hget_cons, if_neg (by omega)]
      exact h.sub k b hk
    · by_cases hi : i < ms.length
      · rw [List.getElem?_append_left hi] at e1
        rw [List.getElem?_append_left (by rw [← h.len]; exact hi)] at e2
        have := h.mem m' (List.mem_of_getElem? e1)
        rw [hget_cons, if_neg (by omega), hg m' this.2.2, hget_cons, if_neg (by omega)]
        exact h.row i m' d' e1 e2
      · rw [List.getElem?_append_right (by omega)] at e1
        rw [List.getElem?_append_right (by rw [← h.len]; omega)] at e2
        have hi2 : i - ms.length = 0 := by
          have := (List.getElem?_eq_some_iff.1 e1).1
          simp at this
          omega
        rw [hi2] at e1
        rw [← h.len, hi2] at e2
        simp at e1 e2
        subst e1 e2
        rw [hget_cons, if_neg (by omega), hg m hq.2.2, hget_cons, if_neg (by omega)]
        exact hm
    · rw [hget_cons, if_pos rfl, hb]
    · rcases List.mem_append.1 hm' with hm' | hm'
      · have := h.mem m' hm'
        exact ⟨this.1, by omega, by omega⟩
      · rw [List.mem_singleton] at hm'
        subst hm'
        exact ⟨hq.1, by omega, by omega⟩
    · rw [List.nodup_append]
      refine ⟨h.nd, by simp, fun a ha b hb e => ?_⟩
      rw [List.mem_singleton] at hb
      subst hb e
      exact hn ha
  have hn1 : namesOk (N + 1) ((N, Blk.cells [kT.val m d] 102) :: Hx) = true := namesOk_put (by omega) (namesOk_mono (by omega) _ h.nm)
  have hp1 : plainH ((N, Blk.cells [kT.val m d] 102) :: Hx) = true := by simp [plainH, h.pl]
  rw [hv]
  obtain ⟨x, hx⟩ : ∃ x, kT.val m d = x := ⟨_, rfl⟩
  rw [hx] at hk h1 hox hn1 hp1 fin ⊢
  obtain ⟨ks, hks⟩ : ∃ ks, kvd kT ms ds = ks := ⟨_, rfl⟩
  rw [hks] at hl0 hox fin
  by_cases hd1 : ds.length = 1
  · have hvo : oT.val o ds.length = .slice (some ⟨o, 0, none⟩) 1 1 := if_pos hd1
    have hbo : oT.blk ks = .cells ks 102 := if_pos (by rw [hl0, hd1])
    rw [hbo] at hox
    have hko : cellsA ((N, Blk.cells [x] 102) :: Hx) o 0 1 = some ks := by
      rw [cellsA_eq, hox]
      simp [cellsB, hl0, hd1]
      exact List.take_of_length_le (by omega)
    refine ⟨_, ?_, fin _ (fun k hk => rfl) hn1 hp1⟩
    rw [hvo, hd1]
    simp [-cellsA, inf102, hk, h1, hko]
  · have hvo : oT.val o ds.length = .slice (some ⟨o, 0, some 0⟩) ds.length 0 := if_neg hd1
    have hbo : oT.blk ks = .ext ks 102 1 := if_neg (by rw [hl0]; exact hd1)
    rw [hbo] at hox
    refine ⟨_, ?_, fin (hdel ((N, Blk.cells [x] 102) :: Hx) o) (fun k hk => by rw [hget_hdel, if_neg (by omega)]) (namesOk_hdel hn1) (plainH_hdel hp1)⟩
    rw [hvo, ← hl0]
    rw [← hl0] at hsm
    simp [-cellsA, inf102, hk, h1, hox, hsm]
/-- the first row -/
theorem LB.first (hK : ∀ k b, hget K k = some b → k < q) (hnm : namesOk q K = true) (hpl : plainH K = true) (s : ByteArray) : LB q K [q] [(true, [s])] (q + 1) ((q + 1, .cells [.slice (some ⟨q, 0, none⟩) 1 1] 102) :: (q, .cells [sv s] 9) :: K) (q + 1 + 1) := by
  refine ⟨fun k b hk => ?_, namesOk_put (by omega) (namesOk_put (by omega) (namesOk_mono (by omega) _ hnm)), by simp [plainH, hpl], rfl, fun i m d h1 h2 => ?_, ?_, fun m hm => ?_, by simp, ⟨by omega, by omega⟩, by simp⟩
  · have := hK k b hk
    rw [hget_cons, if_neg (by omega), hget_cons, if_neg (by omega)]
    exact hk
  · have hi : i = 0 := by
      have := (List.getElem?_eq_some_iff.1 h1).1
      simp at this
      exact this
    subst hi
    simp at h1 h2
    subst h1 h2
    rw [hget_cons, if_neg (by omega), hget_cons, if_pos rfl]
    rfl
  · rw [hget_cons, if_pos rfl]
    rfl
  · rw [List.mem_singleton] at hm
    omega
/-- handed back -/
theorem LB.fresh (h : LB q K ms ds o Hx N) {n : Nat} {H : Heap} (hn : n ≤ q) (hs : Sub H K) : Fresh n (n + 1 + ds.length) H (ndvD oT n ds) (ndbD kT oT n ds) (oT.val o ds.length) Hx :=
  outK_ndD (o := o) (ms := ms) rfl h.len (by have := h.ho; omega) (fun m hm => by have := h.mem m hm; omega) h.nd h.out h.row (hs.trans h.sub)
end
end Go.Proofs.YtndlfijfjglkdaaGreatDoor

namespace Go.Proofs.YtndlfijfjglkdaaGreatDoor
open Go Go.Ab Go.Proofs Go.Soft
def nmsG (l : List Gun) : List ByteArray := l.map Gun.name
theorem svs_eq (l : List Gun) : svs l = svL (nmsG l) := by simp [svs, svL, nmsG]
def vsG (l : List Gun) : List Int := (sorted l).map Gun.v
/-- the steps of a soft start, by where they begin and end -/
def softD (l : List Gun) : List TxD := (true, [((sorted l).getD 0 zeroG).name]) :: (cuts (vsG l) ((vsG l).length - 1) 1).map fun p => (false, nmsG (((sorted l).take p.2).drop p.1))
theorem sorted_len (l : List Gun) : (sorted l).length = l.length := by unfold sorted; rw [List.length_reverse, srtR_len]
theorem sorted_mem {l : List Gun} {g : Gun} : g ∈ sorted l ↔ g ∈ l := by unfold sorted; rw [List.mem_reverse, srtR_mem]
theorem vsG_len (l : List Gun) : (vsG l).length = l.length := by unfold vsG; rw [List.length_map, sorted_len]
theorem volW_sum : ∀ (l : List Gun) (a : Int), (∀ g ∈ l, 1 ≤ g.v ∧ g.v ≤ 64) → 0 ≤ a → a + 64 * l.length ≤ 1000000 → l.foldl (fun a g => IntKind.i64.wrap (a + g.v)) a = (l.map Gun.v).foldl (· + ·) a ∧ a ≤ (l.map Gun.v).foldl (· + ·) a ∧ (l.map Gun.v).foldl (· + ·) a ≤ a + 64 * l.length
  | [], a, _, _, _ => by simp
  | g :: l, a, hb, h0, h1 => by
    have hg := hb g (List.mem_cons_self ..)
    rw [List.length_cons] at h1
    push_cast at h1
    have hw : IntKind.i64.wrap (a + g.v) = a + g.v := W_in (by omega) (by omega)
    have ih := volW_sum l (a + g.v) (fun x hx => hb x (List.mem_cons_of_mem _ hx)) (by omega) (by omega)
    simp only [List.foldl_cons, List.map_cons, hw, List.length_cons]
    refine ⟨ih.1, by omega, ?_⟩
    push_cast
    omega
theorem vol_sum {l : List Gun} (hb : ∀ g ∈ l, 1 ≤ g.v ∧ g.v ≤ 64) (hl : l.length ≤ 4096) (k : Nat) : volW ((sorted l).take k) = sumTo (vsG l) k ∧ 0 ≤ sumTo (vsG l) k ∧ sumTo (vsG l) k ≤ 64 * 4096 := by
  have h1 : ((sorted l).take k).length ≤ 4096 := by rw [List.length_take, sorted_len]; omega
  have := volW_sum ((sorted l).take k) 0 (fun g hg => hb g (sorted_mem.1 (List.mem_of_mem_take hg))) (by omega) (by omega)
  rw [List.map_take] at this
  exact ⟨this.1, this.2.1, Int.le_trans this.2.2 (by omega)⟩
theorem w69e {H : Heap} {n : Nat} {v : Value} {l : List Gun} (hG : OwnG H v l) (hE : strE l ≠ 0) : AC Tryz.prog 69 [.agg ⟨[v]⟩] H n (.tuple #[.slice none 0 0, iv (strE l)]) H n := by
  refine AC.given fun hold _ _ => AC.tidied (B := []) (by simp) ?_
  replace hG := hG.tidy (fun k b h => (hold k b h).1)
  have hr := recT_ok (P := Tryz.prog) (l := [(31, g31)]) (by simp [ok31])
  have hS : Sub (tidy n H) ((n, .cells [v] 32) :: tidy n H) := Sub.cons (by simp) (Sub.refl _)
  have hc31 := (hG.mono hS).check (n + 1)
  have hv : ∃ a c, v = .slice (some a) l.length c := by
    obtain ⟨b, e, _⟩ := hG
    exact ⟨_, _, e⟩
  obtain ⟨a, c, rfl⟩ := hv
  refine AC.pure Tryz.func69 rfl (by kernel_rfl) rfl [] rfl ?_
  refine E.seq ?_
  refine E.reg hr (by simp; rfl) ?_
  refine E.seq ?_
  refine E.seq ?_
  refine E.reg hr (by simp [hc31]; rfl) ?_
  refine E.seq ?_
  refine E.reg hr (by simp; rfl) ?_
  refine E.cond (t := true) (by simp [hE]) (fun _ => ?_) (fun h => by cases h)
  refine E.seq ?_
  refine E.reg hr (by simp; rfl) ?_
  refine E.ret ?_
  exact pureK.ret rfl rfl (by simp) hS
theorem w69n {H : Heap} {n : Nat} : AC Tryz.prog 69 [nilV] H n (.tuple #[.slice none 0 0, iv 12]) H n := by
  refine AC.given fun hold _ _ => AC.tidied (B := []) (by simp) ?_
  have hr := recT_ok (P := Tryz.prog) (l := [(31, g31)]) (by simp [ok31])
  have h12 : strE [] = 12 := rfl
  refine AC.pure Tryz.func69 rfl (by kernel_rfl) rfl [] rfl ?_
  refine E.seq ?_
  refine E.reg hr (by simp; rfl) ?_
  refine E.seq ?_
  refine E.seq ?_
  refine E.reg hr (by simp [g31, h12]; rfl) ?_
  refine E.seq ?_
  refine E.reg hr (by simp; rfl) ?_
  refine E.cond (t := true) (by simp) (fun _ => ?_) (fun h => by cases h)
  refine E.seq ?_
  refine E.reg hr (by simp; rfl) ?_
  refine E.ret ?_
  exact pureK.ret rfl rfl (by simp) (Sub.cons (by simp) (Sub.refl _))
set_option maxRecDepth 20000 in
set_option maxHeartbeats 1000000 in
theorem w69 {H : Heap} {n : Nat} {v : Value} {l : List Gun} (hG : OwnG H v l) (hE : strE l = 0) : AC Tryz.prog 69 [.agg ⟨[v]⟩] H n (.tuple #[ndvD oT n (softD l), iv 0]) (ndbD kT oT n (softD l) ++ H) (n + 1 + (softD l).length) := by
  refine AC.given fun hold _ _ => AC.tidied (fun x hx => (ndbD_names x hx).1) ?_
  replace hG := hG.tidy (fun k b h => (hold k b h).1)
  have hr := recT_ok (P := Tryz.prog) (l := [(31, g31), (142, g142), (143, g143), (111, g111), (146, g146)]) (by simp only [List.forall_mem_cons]; exact ⟨ok31, ok142, ok143, ok111, ok146, by simp⟩)
  obtain ⟨_, h8, hd, hbd⟩ := strE_zero hE
  obtain ⟨bb, rfl, hb1, hp, hlt⟩ := id hG
  obtain ⟨V, hV⟩ : ∃ V, Value.slice (some ⟨bb, 0, some 0⟩) l.length 0 = V := ⟨_, rfl⟩
  rw [hV] at hG ⊢
  have hS : Sub (tidy n H) ((n, .cells [V] 32) :: tidy n H) := Sub.cons (by simp) (Sub.refl _)
  have hG1 := hG.mono hS
  have hc31 := hG1.check (n + 1)
  rw [hE] at hc31
  have hc142 : g142 [V] ((n, .cells [V] 32) :: tidy n H) (n + 1) = some (.slice (some ⟨n + 1, 0, some 0⟩) l.length 0, (n + 1, .ext (gcs l) 95 7) :: (n, .cells [V] 32) :: tidy n H, n + 1 + 1) := by
    simp only [g142, gunsOf_atB hG1.guns, Option.map_some]
  obtain ⟨Z, hZ⟩ : ∃ Z, sorted l = Z := ⟨_, rfl⟩
  have hZl : Z.length = l.length := by rw [← hZ, sorted_len]
  obtain ⟨L, hL⟩ : ∃ L, l.length = L := ⟨_, rfl⟩
  have hc143 : g143 [.slice (some ⟨n + 1, 0, some 0⟩) L 0, cmpF] ((n + 1, .ext (gcs l) 95 7) :: (n, .cells [V] 32) :: tidy n H) (n + 1 + 1) = some (.tuple #[], (n + 1, .ext (gcs Z) 95 7) :: (n, .cells [V] 32) :: tidy n H, n + 1 + 1) := by
    simp only [g143]
    rw [← hL, gOrd_at (by rw [hget_cons, if_pos rfl]) (by omega), hZ]
    simp [hset]
  rw [hL] at hp hlt hZl h8 hc142
  have hvl : (vsG l).length = L := by rw [vsG_len, hL]
  have hsum : ∀ k, volW (Z.take k) = sumTo (vsG l) k ∧ 0 ≤ sumTo (vsG l) k ∧ sumTo (vsG l) k ≤ 64 * 4096 := fun k => by
    have := vol_sum hbd (by omega) k
    rwa [hZ] at this
  obtain ⟨K0, hK0⟩ : ∃ K0, (n + 1, Blk.ext (gcs Z) 95 7) :: (n, .cells [V] 32) :: tidy n H = K0 := ⟨_, rfl⟩
  have hKlt : ∀ k b, hget K0 k = some b → k < n + 1 + 1 := fun k b hk => by
    rw [← hK0, hget_cons] at hk
    split at hk
    · omega
    · rw [hget_cons] at hk
      split at hk
      · omega
      · have := tidy_lt k b hk
        omega
  have hKnm : namesOk (n + 1 + 1) K0 = true := by rw [← hK0]; exact namesOk_put (by omega) (namesOk_put (by omega) (namesOk_mono (by omega) _ namesOk_tidy))
  have hKpl : plainH K0 = true := by rw [← hK0]; simp [plainH]
  have hKs : Sub (tidy n H) K0 := by rw [← hK0]; exact hS.trans (Sub.cons (by simp) (Sub.refl _))
  have hKg : hget K0 (n + 1) = some (.ext (gcs Z) 95 7) := by rw [← hK0, hget_cons, if_pos rfl]
  have hc0 : cellA K0 (n + 1) 0 = some (sv (Z.getD 0 zeroG).name) := by
    have h1 := row_at hKg (j := 0) (by omega)
    have h2 := (cellsA_cell h1 (i := 0) (by omega)).1
    rw [Nat.zero_mul, Nat.zero_add] at h2
    rw [h2, List.getD_eq_getElem?_getD, List.getElem?_eq_getElem (show 0 < Z.length by omega)]
    rfl
  have hlb0 := LB.first hKlt hKnm hKpl (Z.getD 0 zeroG).name
  obtain ⟨s0, hs0⟩ : ∃ s0, (Z.getD 0 zeroG).name = s0 := ⟨_, rfl⟩
  rw [hs0] at hc0 hlb0
  have hsoft : softD l = (true, [s0]) :: (cuts (vsG l) (L - 1) 1).map fun p => (false, nmsG ((Z.take p.2).drop p.1)) := by
    unfold softD
    rw [hZ, hs0, hvl]
  refine AC.fresh Tryz.func69 rfl (by kernel_rfl) rfl [5, 6, 7, 8, 9] (Nat.le_trans (Nat.le_add_right n 1) (Nat.le_add_right _ _)) ⟨oT.sc _ _ _ (by show n < _; omega), trivial, trivial⟩ (fun ρ => by simp only [Ab.ren, renL, af, afL, ndvD, oT.ren, oT.af]; rfl) ?_
  refine E.seq ?_
  refine E.reg hr (by simp; rfl) ?_
  refine E.seq ?_
  refine E.seq ?_
  refine E.reg hr (by simp [hc31]; rfl) ?_
  refine E.seq ?_
  refine E.reg hr (by simp; rfl) ?_
  refine E.cond (t := false) (by simp) (fun h => by cases h) (fun _ => ?_)
  refine E.skip ?_
  refine E.seq ?_
  refine E.reg hr (by simp [hc142]; rfl) ?_
  refine E.seq ?_
  refine E.reg hr (by simp [hc143]; rfl) ?_
  rw [hK0]
  refine E.seq ?_
  refine E.reg hr (by simp; rfl) ?_
  refine E.seq ?_
  refine E.reg hr (by simp [-cellA, hp, hc0]; rfl) ?_
  refine E.seq ?_
  refine E.seq ?_
  refine E.reg hr (by simp; rfl) ?_
  refine E.block ?_
  refine E.loop ?_
  refine EL.ind (fun x : Nat × Heap × Nat × Nat × List Nat × List TxD => { fr := [(5, .slice (some ⟨n + 1, 0, some 0⟩) L 0), (6, .func (.func 145) #[] #[]), (7, oT.val x.2.2.2.1 x.2.2.2.2.2.length), (8, iv x.1)], sz := 62, H := x.2.1, n := x.2.2.1, marks := [], vs := [5, 6, 7, 8, 9] }) (fun x => L - x.1) (fun x => (1 ≤ x.1 ∧ x.1 ≤ L ∧ x.2.2.2.2.2.length ≤ x.1) ∧ x.2.2.2.2.2 ++ (cuts (vsG l) (L - x.1) x.1).map (fun p => (false, nmsG ((Z.take p.2).drop p.1))) = softD l ∧ LB (n + 1 + 1) K0 x.2.2.2.2.1 x.2.2.2.2.2 x.2.2.2.1 x.2.1 x.2.2.1) (1, _, n + 1 + 1 + 1 + 1, n + 1 + 1 + 1, [n + 1 + 1], [(true, [s0])]) (.keep rfl rfl rfl (by simp [oT, oLit]) (Sub.refl _)) ⟨⟨Nat.le_refl _, hp, Nat.le_refl _⟩, hsoft.symm, hlb0⟩ (fun _ => rfl) ?_
  rintro ⟨f, Hx, N, o, ms, ds⟩ ⟨⟨hf1, hfL, hdl⟩, hds, hLB⟩
  dsimp only at hf1 hfL hdl hds hLB ⊢
  refine E.seq ?_
  refine E.seq ?_
  refine E.reg hr (by simp; rfl) ?_
  by_cases hfl : f < L
  · have hgo := cuts_go (V := vsG l) (from' := f) (by omega) (L - f) (by omega)
    have hwf : IntKind.i64.wrap ((f : Int) + 1) = (f : Int) + 1 := W_in (by omega) (by omega)
    have hnxt : nextS (vsG l) f = stopAt (vsG l) f ((vsG l).length - (f + 1)) (f + 1) := rfl
    have hRG : hget Hx (n + 1) = some (.ext (gcs Z) 95 7) := hLB.sub _ _ hKg
    have hR1 : RowG Hx (n + 1) Z := .inl hRG
    have hR2 : RowG (frzH Hx) (n + 1) Z := .inr (by rw [hget_frz, hRG]; rfl)
    have hR3 : RowG (readA [n + 1] Hx) (n + 1) Z := .inl (by rw [hget_readA, if_pos (by simp), hRG])
    have hnm := hLB.nm
    have hpl := hLB.pl
    have htk := takeNew_frz hnm
    have hN0 : n + 1 < N := by have := hLB.ho; omega
    have h111 : ∀ X, RowG X (n + 1) Z → ∀ k m, 0 < k → k ≤ L → g111 [.slice (some ⟨n + 1, 0, some 0⟩) k 0] X m = some (iv (sumTo (vsG l) k), X, m) := fun X hX k m h0 hk => by
      have hlen : (Z.take k).length = k := by rw [List.length_take]; omega
      have hat : gunsAt X ⟨n + 1, 0, some 0⟩ k = some (Z.take k) := by
        have hcc : cellsA X (n + 1) 0 (k * 7) = some (gcs (Z.take k)) := by
          have hgl := gcs_length Z
          have h7 : k * 7 ≤ (gcs Z).length := by omega
          rcases hX with hX | hX <;> rw [cellsA_eq, hX] <;> simp [cellsB, gcs_takeN]
          all_goals omega
        have hbk : Nat.blt k 9223372036854775808 = true := (blt_iff _ _).2 (by omega)
        unfold gunsAt
        simp only [flat, Nat.beq_refl, hbk, Bool.and_self, if_true, hcc, Option.bind_some, gunsOf_gcs]
      simp only [g111, hat, Option.map_some, (hsum k).1]
    refine E.cond (t := true) (by simp [hfl]) (fun _ => ?_) (fun h => by cases h)
    refine E.skip ?_
    refine E.block ?_
    refine E.seq ?_
    refine E.reg hr (by simp [hwf]; rfl) ?_
    refine E.seq ?_
    refine E.block ?_
    refine E.loop ?_
    refine EL.ind (fun t : Nat => { fr := [(5, .slice (some ⟨n + 1, 0, some 0⟩) L 0), (6, .func (.func 145) #[] #[]), (7, oT.val o ds.length), (8, iv f), (9, iv t)], sz := 62, H := Hx, n := N, marks := [], vs := [5, 6, 7, 8, 9] }) (fun t => L - t) (fun t => f < t ∧ t ≤ L ∧ nextS (vsG l) f = stopAt (vsG l) f ((vsG l).length - t) t) (f + 1) (.keep rfl rfl rfl (by simp) (Sub.refl _)) ⟨Nat.lt_succ_self f, hfl, hnxt⟩ (fun _ => rfl) ?_
    rintro t ⟨hft, htL, hst⟩
    have hwt : IntKind.i64.wrap ((t : Int) + 1) = (t : Int) + 1 := W_in (by omega) (by omega)
    refine E.seq ?_
    refine E.seq ?_
    have hgoal : (t < L ∧ sumTo (vsG l) (t + 1) ≤ 2 * sumTo (vsG l) f) ∨ ¬ (t < L ∧ sumTo (vsG l) (t + 1) ≤ 2 * sumTo (vsG l) f) := Classical.em _
    have hs1 := (hsum (t + 1)).2
    have hs2 := (hsum f).2
    have hw2 : IntKind.i64.wrap (2 * sumTo (vsG l) f) = 2 * sumTo (vsG l) f := W_in (by omega) (by omega)
    rcases hgoal with hgo2 | hgo2
    · have htl : t < L := hgo2.1
      have hti : (t : Int) < L := by omega
      have hle := hgo2.2
      have a1 := fun m => h111 (frzH Hx) hR2 (t + 1) m (by omega) (by omega)
      have a2 := fun m => h111 Hx hR1 f m (by omega) (by omega)
      have h1 : t + 1 ≤ Z.length := by omega
      have h2 : f ≤ Z.length := by omega
      have h3 : 0 < Z.length := by omega
      refine E.drawU mixed hr [13] [9, 13] [8, 9, 13] (by kernel_rfl) (by simp [-readA, hnm, hpl, htk, hN0, hti, hwt, hw2, slice_hi (i := t + 1) (L := L) hR3 h1 h3, slice_hi (i := f) (L := L) hR3 h2 h3, a1, a2, hle]; rfl) ?_
      refine E.cond (t := true) (by simp) (fun _ => ?_) (fun h => by cases h)
      refine E.skip ?_
      refine E.block ?_
      refine E.reg hr (by simp [hwt]; rfl) ?_
      exact ⟨t + 1, .keep rfl rfl rfl (by simp) (Sub.refl _), ⟨by omega, by omega, by rw [hst, ← stopAt_go (by rw [hvl]; exact hgo2)]⟩, by dsimp only; omega⟩
    · have hnt : nextS (vsG l) f = t := by rw [hst, stopAt_end (by rw [hvl]; exact hgo2)]
      have hpl0 : ((Z.take t).drop f).length = t - f := by rw [List.length_drop, List.length_take]; omega
      have hgp := guns_part hRG (i := f) (j := t) (c := f) hft (by omega) (by omega)
      obtain ⟨P, hP⟩ : ∃ P, (Z.take t).drop f = P := ⟨_, rfl⟩
      rw [hP] at hpl0 hgp
      have hPne : svs P ≠ [] := by
        intro e
        have h0 : P.length = 0 := by rw [← svs_len, e]; rfl
        omega
      have hc146 : g146 [.slice (some ⟨n + 1, f * 7, some 0⟩) (t - f) f, .func (.func 145) #[] #[]] Hx N = some (.slice (some ⟨N, 0, some 0⟩) (t - f) 0, (N, .ext (svs P) 9 1) :: Hx, N + 1) := by
        simp only [g146, gunsOf_atB hgp, Option.map_some, outC_ne hPne, outCB_ne hPne, svs_len, hpl0]
        rfl
      have hrow : kT.blk (false, nmsG P) = .ext (svs P) 9 1 := by rw [svs_eq]; rfl
      have hval : kT.val N (false, nmsG P) = .slice (some ⟨N, 0, some 0⟩) (t - f) 0 := by
        show Value.slice (some ⟨N, 0, some 0⟩) (nmsG P).length 0 = _
        rw [nmsG, List.length_map, hpl0]
      have hL1 := hLB.skip hKlt (.ext (svs P) 9 1) rfl
      have hmem := hLB.mem
      have hho := hLB.ho
      obtain ⟨Hz, happ, hL2⟩ := hL1.more hKlt (m := N) (d := (false, nmsG P)) (by rw [hget_cons, if_pos rfl, hrow]) ⟨by omega, by omega, by omega⟩ (fun h => by have := hmem N h; omega) (by omega)
      rw [hval] at happ
      obtain ⟨ov, hov⟩ : ∃ ov, oT.val o ds.length = ov := ⟨_, rfl⟩
      rw [hov] at happ ⊢
      have hds2 : (ds ++ [(false, nmsG P)]) ++ (cuts (vsG l) (L - t) t).map (fun p => (false, nmsG ((Z.take p.2).drop p.1))) = softD l := by
        rw [← hds, hgo, hnt, hvl, List.map_cons, hP, List.append_assoc]
        rfl
      have ht1 : f ≤ t := by omega
      by_cases htl : t < L
      · have hti : (t : Int) < L := by omega
        have hle : ¬ sumTo (vsG l) (t + 1) ≤ 2 * sumTo (vsG l) f := fun h => hgo2 ⟨htl, h⟩
        have a1 := fun m => h111 (frzH Hx) hR2 (t + 1) m (by omega) (by omega)
        have a2 := fun m => h111 Hx hR1 f m (by omega) (by omega)
        have h1 : t + 1 ≤ Z.length := by omega
        have h2 : f ≤ Z.length := by omega
        have h3 : 0 < Z.length := by omega
        refine E.drawU mixed hr [13] [9, 13] [8, 9, 13] (by kernel_rfl) (by simp [-readA, hnm, hpl, htk, hN0, hti, hwt, hw2, slice_hi (i := t + 1) (L := L) hR3 h1 h3, slice_hi (i := f) (L := L) hR3 h2 h3, a1, a2, hle]; rfl) ?_
        refine E.cond (t := false) (by simp) (fun h => by cases h) (fun _ => ?_)
        refine E.exit ?_
        refine E.seq ?_
        refine E.reg hr (by simp [-builtinA, slice_lohi (L := L) (i := f) (j := t) hR1 hft (by omega), hc146, happ]; rfl) ?_
        refine E.reg hr (by simp; rfl) ?_
        exact ⟨(t, Hz, N + 1 + 1 + 1, N + 1 + 1, ms ++ [N], ds ++ [(false, nmsG P)]), .keep rfl rfl rfl (by simp) (Sub.refl _), ⟨⟨by dsimp only; omega, htL, by simp; omega⟩, hds2, hL2⟩, by dsimp only; omega⟩
      · have hti : ¬ (t : Int) < L := by omega
        refine E.drawU mixed hr [13] [9, 13] [8, 9, 13] (by kernel_rfl) (by simp [hnm, hti, undefV]; rfl) ?_
        refine E.cond (t := false) (by simp) (fun h => by cases h) (fun _ => ?_)
        refine E.exit ?_
        refine E.seq ?_
        refine E.reg hr (by simp [-builtinA, slice_lohi (L := L) (i := f) (j := t) hR1 hft (by omega), hc146, happ]; rfl) ?_
        refine E.reg hr (by simp; rfl) ?_
        exact ⟨(t, Hz, N + 1 + 1 + 1, N + 1 + 1, ms ++ [N], ds ++ [(false, nmsG P)]), .keep rfl rfl rfl (by simp) (Sub.refl _), ⟨⟨by dsimp only; omega, htL, by simp; omega⟩, hds2, hL2⟩, by dsimp only; omega⟩
  · have hfe : f = L := by omega
    have hcut : cuts (vsG l) (L - f) f = [] := by rw [hfe, Nat.sub_self]; rfl
    rw [hcut, List.map_nil, List.append_nil] at hds
    rw [← hds]
    have hfin := hLB.fresh (n := n) (H := tidy n H) (by omega) hKs
    obtain ⟨ov, hov⟩ : ∃ ov, oT.val o ds.length = ov := ⟨_, rfl⟩
    rw [hov] at hfin ⊢
    refine E.cond (t := false) (by simp [hfl]) (fun h => by cases h) (fun _ => ?_)
    refine E.exit ?_
    refine E.seq ?_
    refine E.reg hr (by simp; rfl) ?_
    refine E.ret ?_
    exact outK.ret rfl rfl (hfin.pair 0)
end Go.Proofs.YtndlfijfjglkdaaGreatDoor

namespace Go.Proofs.YtndlfijfjglkdaaGreatDoor
open Go Go.Ab Go.Proofs Go.Soft
def ordN (l : List Gun) : List Nat := bucket (volAt l) l.length 64 1
theorem volAt_getD (l : List Gun) (i : Nat) : volAt l i = (l.getD i zeroG).v := by
  unfold volAt
  rw [List.getD_eq_getElem?_getD]
  cases l[i]? <;> rfl
theorem ordN_eq {l : List Gun} (hb : ∀ g ∈ l, 1 ≤ g.v ∧ g.v ≤ 64) : ordN l = byVol (volAt l) l.length := by
  unfold ordN
  refine bucket_eq fun i hi => ?_
  rw [volAt_getD, List.getD_eq_getElem?_getD, List.getElem?_eq_getElem hi]
  exact hb _ (List.getElem_mem hi)
theorem range_get (l : List Gun) : (List.range l.length).map (fun i => l.getD i zeroG) = l := by
  apply List.ext_getElem
  · simp
  · intro i h1 h2
    simp [List.getD_eq_getElem?_getD, h2]
theorem ordN_map {l : List Gun} (hb : ∀ g ∈ l, 1 ≤ g.v ∧ g.v ≤ 64) : (ordN l).map (fun i => l.getD i zeroG) = sorted l := by
  rw [ordN_eq hb]
  unfold byVol sorted
  conv => rhs; rw [← range_get l, srtR_map]
  rw [← List.map_reverse]
  congr 3
  funext i
  exact volAt_getD l i
theorem ordN_lt {l : List Gun} (hb : ∀ g ∈ l, 1 ≤ g.v ∧ g.v ≤ 64) {i : Nat} (h : i ∈ ordN l) : i < l.length := by
  rw [ordN_eq hb] at h
  exact byVol_mem.1 h
section
variable {q o N : Nat} {K Hx : Heap} {ms : List Nat} {ds : List TxD}
/-- a word more in a row that is not yet one of the list -/
theorem LB.word (h : LB q K ms ds o Hx N) (hK : ∀ k b, hget K k = some b → k < q) {m : Nat} {b : Bool} {l : List ByteArray} (hm : hget Hx m = some (kT.blk (b, l))) (hq : q ≤ m ∧ m < N ∧ m ≠ o) (hn : m ∉ ms) (hl : l.length < 2147483647) (s : ByteArray) :
    ∃ Hz, builtinA Tryz.prog .append #[102, 102] ((N, .cells [sv s] 9) :: Hx) (N + 1) [kT.val m (b, l), .slice (some ⟨N, 0, none⟩) 1 1] = some (kT.val (N + 1) (false, l ++ [s]), Hz, N + 1 + 1) ∧ LB q K ms ds o Hz (N + 1 + 1) ∧ hget Hz (N + 1) = some (kT.blk (false, l ++ [s])) := by
  have h0 := h.ho
  have h1 := h.skip hK (.cells [sv s] 9) rfl
  have hk : cellsA ((N, .cells [sv s] 9) :: Hx) N 0 1 = some [sv s] := by
    rw [cellsA_eq, hget_cons, if_pos rfl]; rfl
  have hmx : hget ((N, Blk.cells [sv s] 9) :: Hx) m = some (kT.blk (b, l)) := by rw [hget_cons, if_neg (by omega)]; exact hm
  have hsm : (l.length + 1) * 16 ≤ 1099511627776 ∧ l.length + 1 ≤ 1099511627776 := by omega
  have hv : kT.val (N + 1) (false, l ++ [s]) = .slice (some ⟨N + 1, 0, some 0⟩) (l.length + 1) 0 := by
    show Value.slice (some ⟨N + 1, 0, some 0⟩) (l ++ [s]).length 0 = _
    rw [List.length_append]; rfl
  have hb : kT.blk (false, l ++ [s]) = .ext (svL l ++ [sv s]) 9 1 := by
    show Blk.ext (svL (l ++ [s])) 9 1 = _
    rw [svL_snoc]
  rw [hv, hb]
  have fin : ∀ Hd : Heap, (∀ k, k ≠ m → hget Hd k = hget ((N, Blk.cells [sv s] 9) :: Hx) k) → namesOk (N + 1) Hd = true → plainH Hd = true → LB q K ms ds o ((N + 1, .ext (svL l ++ [sv s]) 9 1) :: Hd) (N + 1 + 1) := by
    intro Hd hg hnm hpl
    refine ⟨fun k b hk => ?_, namesOk_put (by omega) (namesOk_mono (by omega) _ hnm), by simp [plainH, hpl], h.len, fun i m' d' e1 e2 => ?_, ?_, fun m' hm' => ?_, h.nd, ⟨h0.1, by omega⟩, h.ne⟩
    · have := hK k b hk
      rw [hget_cons, if_neg (by omega), hg k (by omega), hget_cons, if_neg (by omega)]
      exact h.sub k b hk
    · have hmem := List.mem_of_getElem? e1
      have := h.mem m' hmem
      have hne : m' ≠ m := fun e => hn (e ▸ hmem)
      rw [hget_cons, if_neg (by omega), hg m' hne, hget_cons, if_neg (by omega)]
      exact h.row i m' d' e1 e2
    · rw [hget_cons, if_neg (by omega), hg o (by omega), hget_cons, if_neg (by omega)]
      exact h.out
    · have := h.mem m' hm'
      exact ⟨this.1, by omega, this.2.2⟩
  cases b with
  | true =>
    have hvo : kT.val m (true, l) = .slice (some ⟨m, 0, none⟩) l.length l.length := rfl
    have hmo : hget ((N, Blk.cells [sv s] 9) :: Hx) m = some (.cells (svL l) 9) := hmx
    have hko : cellsA ((N, Blk.cells [sv s] 9) :: Hx) m 0 l.length = some (svL l) := by
      rw [cellsA_eq, hmo]
      simp [cellsB]
      exact List.take_of_length_le (by simp)
    refine ⟨_, ?_, fin _ (fun k hk => rfl) h1.nm h1.pl, by rw [hget_cons, if_pos rfl]⟩
    rw [hvo]
    simp [-cellsA, hk, hko, hsm]
  | false =>
    have hvo : kT.val m (false, l) = .slice (some ⟨m, 0, some 0⟩) l.length 0 := rfl
    have hmo : hget ((N, Blk.cells [sv s] 9) :: Hx) m = some (.ext (svL l) 9 1) := hmx
    have hll := svL_len l
    refine ⟨_, ?_, fin (hdel ((N, Blk.cells [sv s] 9) :: Hx) m) (fun k hk => by rw [hget_hdel, if_neg (by omega)]) (namesOk_hdel h1.nm) (plainH_hdel h1.pl), by rw [hget_cons, if_pos rfl]⟩
    rw [hvo]
    obtain ⟨ks, hks⟩ : ∃ ks, svL l = ks := ⟨_, rfl⟩
    rw [hks] at hll hmo ⊢
    rw [← hll]
    rw [← hll] at hsm
    simp [-cellsA, hk, hmo, hsm]
end
def gunAt (Z : List Gun) (j : Nat) : Gun := Z.getD j zeroG
theorem gunAt_eq {Z : List Gun} {j : Nat} (h : j < Z.length) : gunAt Z j = Z[j] := by
  unfold gunAt
  rw [List.getD_eq_getElem?_getD, List.getElem?_eq_getElem h]
  rfl
end Go.Proofs.YtndlfijfjglkdaaGreatDoor

namespace Go.Proofs.YtndlfijfjglkdaaGreatDoor
open Go Go.Ab Go.Proofs Go.Soft
open Classical in
noncomputable def ownOf (H : Heap) (v : Value) : Option (List Gun) := if h : ∃ l, OwnG H v l then some (Classical.choose h) else none
theorem ownOf_at {H : Heap} {v : Value} {l : List Gun} (h : OwnG H v l) : ownOf H v = some l := by
  have hc : ∃ l, OwnG H v l := ⟨l, h⟩
  unfold ownOf
  rw [dif_pos hc, (Classical.choose_spec hc).guns.one h.guns]
theorem ownOf_spec {H : Heap} {v : Value} {l : List Gun} (h : ownOf H v = some l) : OwnG H v l := by
  unfold ownOf at h
  split at h
  · rename_i hc
    injection h with h
    rw [← h]
    exact Classical.choose_spec hc
  · cases h
noncomputable def g69 (args : List Value) (H : Heap) (n : Nat) : R := match args with
  | [.agg ⟨[.slice none 0 0]⟩] => some (.tuple #[.slice none 0 0, iv 12], H, n)
  | [.agg ⟨[v]⟩] => match ownOf H v with
    | some l => if strE l = 0 then some (.tuple #[ndvD oT n (softD l), iv 0], ndbD kT oT n (softD l) ++ H, n + 1 + (softD l).length) else some (.tuple #[.slice none 0 0, iv (strE l)], H, n)
    | none => none
  | _ => none
theorem ok69 : EntOk Tryz.prog (69, g69) := by
  intro args H n v H' n' h
  simp only [g69] at h
  split at h
  · injection h with h; injection h with e1 e2; injection e2 with e2 e3; subst e1 e2 e3
    exact w69n
  · split at h
    · rename_i l h1
      split at h
      · rename_i hE
        injection h with h; injection h with e1 e2; injection e2 with e2 e3; subst e1 e2 e3
        exact w69 (ownOf_spec h1) hE
      · rename_i hE
        injection h with h; injection h with e1 e2; injection e2 with e2 e3; subst e1 e2 e3
        exact w69e (ownOf_spec h1) hE
    · cases h
  · cases h
theorem g69_own {H : Heap} {n : Nat} {v : Value} {l : List Gun} (h : OwnG H v l) : g69 [.agg ⟨[v]⟩] H n = if strE l = 0 then some (.tuple #[ndvD oT n (softD l), iv 0], ndbD kT oT n (softD l) ++ H, n + 1 + (softD l).length) else some (.tuple #[.slice none 0 0, iv (strE l)], H, n) := by
  have h1 := ownOf_at h
  obtain ⟨b, rfl, _⟩ := h
  simp only [g69, h1]
theorem strAt_mono {H H' : Heap} (hs : Sub H H') {x : Value} {l : List Gun} (h : strAt H x = some l) : strAt H' x = some l := by
  unfold strAt at h ⊢
  split at h
  · exact h
  · unfold gunsAt at h ⊢
    split at h
    · rename_i hc
      rw [if_pos hc]
      obtain ⟨cs, h1, h2⟩ := Option.bind_eq_some_iff.1 h
      rw [hs.cells h1]
      exact h2
    · cases h
  · cases h
theorem strAt_tidy {H : Heap} {n : Nat} (hl : ∀ k b, hget H k = some b → k < n) {x : Value} {l : List Gun} (h : strAt H x = some l) : strAt (Ab.tidy n H) x = some l := by
  unfold strAt at h ⊢
  split at h
  · exact h
  · unfold gunsAt at h ⊢
    split at h
    · rename_i hc
      rw [if_pos hc]
      obtain ⟨cs, h1, h2⟩ := Option.bind_eq_some_iff.1 h
      rw [cellsA_tidy hl h1]
      exact h2
    · cases h
  · cases h
theorem strAt_guns {H : Heap} {v : Value} {l : List Gun} (h : strAt H (.agg ⟨[v]⟩) = some l) (hne : l ≠ []) (hlt : l.length < 2147483648) : GunsAt H v l := by
  unfold strAt at h
  split at h
  · injection h with h
    exact absurd h.symm hne
  · rename_i a len c e
    simp only [Value.agg.injEq, Array.mk.injEq, List.cons.injEq, and_true] at e
    subst e
    obtain ⟨hf, hc, hlen, _⟩ := gunsAt_ok h
    subst hlen
    exact ⟨a, c, rfl, hf, hc, List.length_pos_iff.2 hne, hlt⟩
  · cases h
theorem strAt_own {H : Heap} {n : Nat} {v : Value} {l : List Gun} (h : strAt H (.agg ⟨[v]⟩) = some l) (hne : l ≠ []) (hl : l.length ≤ 4096) : g21 [.agg ⟨[v]⟩] H n = some (.agg ⟨[.slice (some ⟨n, 0, some 0⟩) l.length 0]⟩, (n, .ext (gcs l) 95 7) :: H, n + 1) := by
  simp only [g21, h]
  rw [if_neg hne, if_pos hl]
theorem own_row {H : Heap} {n : Nat} {l : List Gun} (hne : l ≠ []) (hl : l.length ≤ 4096) : OwnG ((n, .ext (gcs l) 95 7) :: H) (.slice (some ⟨n, 0, some 0⟩) l.length 0) l :=
  ⟨n, rfl, .inl (by rw [hget_cons, if_pos rfl]), List.length_pos_iff.2 hne, by omega⟩
theorem cuts_bound {V : List Int} : ∀ (k f : Nat), ∀ p ∈ cuts V k f, p.1 < p.2 ∧ p.2 ≤ V.length
  | 0, _, p, h => by simp [cuts] at h
  | k + 1, f, p, h => by
    rw [cuts] at h
    split at h
    · rename_i hf
      have := nextS_gt hf
      rcases List.mem_cons.1 h with rfl | h
      · exact this
      · exact cuts_bound k _ p h
    · cases h
theorem cuts_len {V : List Int} : ∀ (k f : Nat), (cuts V k f).length ≤ k
  | 0, _ => by simp [cuts]
  | k + 1, f => by
    rw [cuts]
    split
    · have := cuts_len (V := V) k (nextS V f)
      simp only [List.length_cons]
      omega
    · simp
/-- the steps of the soft start of a string -/
def softL (l : List Gun) : List (List ByteArray) := (softD l).map fun d => d.2
theorem softL_len (l : List Gun) : (softL l).length ≤ l.length + 1 := by
  unfold softL softD
  rw [List.length_map, List.length_cons, List.length_map]
  have := cuts_len (V := vsG l) ((vsG l).length - 1) 1
  rw [vsG_len] at this ⊢
  omega
theorem softL_row {l : List Gun} {r : List ByteArray} (h : r ∈ softL l) : r ≠ [] ∧ r.length ≤ l.length + 1 := by
  unfold softL softD at h
  rw [List.map_cons, List.map_map] at h
  rcases List.mem_cons.1 h with rfl | h
  · exact ⟨by simp, by simp⟩
  · obtain ⟨p, hp, rfl⟩ := List.mem_map.1 h
    have hb := cuts_bound _ _ p hp
    rw [vsG_len] at hb
    have hl : (((sorted l).take p.2).drop p.1).length = p.2 - p.1 := by
      rw [List.length_drop, List.length_take, sorted_len]
      omega
    have hl2 : (nmsG (((sorted l).take p.2).drop p.1)).length = p.2 - p.1 := by rw [nmsG, List.length_map, hl]
    refine ⟨fun e => ?_, ?_⟩
    · have e' : nmsG (((sorted l).take p.2).drop p.1) = [] := e
      rw [e'] at hl2
      simp at hl2
      omega
    · show (nmsG (((sorted l).take p.2).drop p.1)).length ≤ _
      omega
theorem soft_nest {l : List Gun} {n : Nat} {H : Heap} (hl : l.length ≤ 4096) : nestS (ndbD kT oT n (softD l) ++ H) (ndvD oT n (softD l)) = some (softL l) := by
  have h1 := softL_len l
  refine nestV_ndD (K := kT) (O := oT) (ls := softD l) ?_ fun d hd => ?_
  · unfold softL at h1
    rw [List.length_map] at h1
    omega
  · have := (softL_row (l := l) (r := d.2) (List.mem_map_of_mem hd)).2
    show d.2.length < _
    omega
theorem lis_nest {n : Nat} {H : Heap} {p : List (List ByteArray)} (h1 : p.length < 2147483648) (h2 : ∀ l ∈ p, l.length < 2147483648) : nestS (lisB n p ++ H) (lisV n p) = some p := by
  unfold lisB lisV
  by_cases h : p = []
  · rw [if_pos h, if_pos h, h]
    rfl
  · rw [if_neg h, if_neg h]
    exact nestV_nd h1 h2
theorem ndbD_ok {n : Nat} {ds : List TxD} : (∀ x ∈ ndbD kT oT n ds, n ≤ x.1) ∧ namesOk (n + 1 + ds.length) (ndbD kT oT n ds) = true ∧ plainH (ndbD kT oT n ds) = true := by
  refine ⟨fun x hx => (ndbD_names x hx).1, namesOk_iff.2 fun x hx => (ndbD_names x hx).2, ?_⟩
  have hk : ∀ (ms : List Nat) (ds : List TxD), plainH (kbd kT ms ds) = true := by
    intro ms
    induction ms with
    | nil => intro ds; cases ds <;> rfl
    | cons m ms ih =>
      intro ds
      cases ds with
      | nil => rfl
      | cons d ds =>
        rw [kbd, plainH, ih ds, Bool.and_true]
        obtain ⟨b, l⟩ := d
        cases b <;> rfl
  rw [ndbD, plainH, hk, Bool.and_true]
  unfold oT oLit
  dsimp only
  split <;> rfl
theorem lisB_ok {n : Nat} {p : List (List ByteArray)} : ∀ x ∈ lisB n p, n ≤ x.1 := by
  intro x hx
  unfold lisB at hx
  split at hx
  · cases hx
  · exact (ndB_names x hx).1
theorem sub_app {A H : Heap} {n : Nat} (hA : ∀ x ∈ A, n ≤ x.1) (hH : namesOk n H = true) : Sub H (A ++ H) :=
  Sub.app (fun x hx => namesOk_none hH _ (hA x hx)) (Sub.refl _)
end Go.Proofs.YtndlfijfjglkdaaGreatDoor
