/-
Walks through the guns and their soft start, and the plain law behind them (no condition).
-/
import Derived.Test.YtljglocehbccnaaRe
import Derived.Test.YtljglocehbccnaaAi
namespace Go.Proofs.Ytljglocehbccnaa.Gn
open Go Go.Ab Go.Proofs Go.Soft
abbrev TxD := Bool × List ByteArray
abbrev kT : RowD TxD ByteArray decS := kTx 9
abbrev oT : LstK := oLit 70
/-- rows of texts on their way, above a heap 'K' that is kept -/
structure LB (q : Nat) (K : Heap) (ms : List Nat) (ds : List TxD) (o : Nat) (Hx : Heap) (N : Nat) : Prop where
  sub : Sub K Hx
  nm : namesOk N Hx = true
  pl : plainH Hx = true
  len : ms.length = ds.length
  row : ∀ (i m : Nat) (d : TxD), ms[i]? = some m → ds[i]? = some d → hget Hx m = some (kT.blk d)
  out : hget Hx o = some (oT.blk (kvd kT ms ds))
  mem : ∀ m ∈ ms, q ≤ m ∧ m < N ∧ m ≠ o
  nd : ms.Nodup
  ho : q ≤ o ∧ o < N
  ne : ds ≠ []
section
variable {q o N : Nat} {K Hx : Heap} {ms : List Nat} {ds : List TxD}
theorem LB.skip (h : LB q K ms ds o Hx N) (hK : ∀ k b, hget K k = some b → k < q) (b : Blk) (hb : plainB2 b = true) : LB q K ms ds o ((N, b) :: Hx) (N + 1) := by
  have h0 := h.ho
  refine ⟨fun k b' hk => ?_, namesOk_put (by omega) (namesOk_mono (by omega) _ h.nm), by rw [plainH, hb, h.pl]; rfl, h.len, fun i m d h1 h2 => ?_, ?_, fun m hm => ?_, h.nd, ⟨h0.1, by omega⟩, h.ne⟩
  · have := hK k b' hk
    rw [hget_cons, if_neg (by omega)]
    exact h.sub k b' hk
  · have := h.mem m (List.mem_of_getElem? h1)
    rw [hget_cons, if_neg (by omega)]
    exact h.row i m d h1 h2
  · rw [hget_cons, if_neg (by omega)]; exact h.out
  · have := h.mem m hm
    exact ⟨this.1, by omega, this.2.2⟩
theorem kT_form (m : Nat) (d : TxD) : ∃ s c, kT.val m d = .slice (some ⟨m, 0, s⟩) d.2.length c := by
  obtain ⟨b, l⟩ := d
  cases b
  · exact ⟨some 0, 0, rfl⟩
  · exact ⟨none, l.length, rfl⟩
theorem kT_one (m : Nat) (d : TxD) : oneL [kT.val m d] = true := by
  obtain ⟨s, c, e⟩ := kT_form m d
  rw [e]; rfl
/-- a row more -/
theorem LB.more (h : LB q K ms ds o Hx N) (hK : ∀ k b, hget K k = some b → k < q) {m : Nat} {d : TxD} (hm : hget Hx m = some (kT.blk d)) (hq : q ≤ m ∧ m < N ∧ m ≠ o) (hn : m ∉ ms) (hl : ds.length < 2147483648) :
    ∃ Hz, builtinA Try.prog .append #[61, 61] ((N, .cells [kT.val m d] 70) :: Hx) (N + 1) [oT.val o ds.length, .slice (some ⟨N, 0, none⟩) 1 1] = some (oT.val (N + 1) (ds.length + 1), Hz, N + 1 + 1) ∧ LB q K (ms ++ [m]) (ds ++ [d]) (N + 1) Hz (N + 1 + 1) := by
  have hl0 := kvd_len kT ms ds h.len
  have hpos : 0 < ds.length := List.length_pos_iff.2 h.ne
  have hk : cellsA ((N, .cells [kT.val m d] 70) :: Hx) N 0 1 = some [kT.val m d] := by
    rw [cellsA_eq, hget_cons, if_pos rfl]; rfl
  have hsn : kvd kT (ms ++ [m]) (ds ++ [d]) = kvd kT ms ds ++ [kT.val m d] := kvd_snoc kT ms ds h.len
  have h0 := h.ho
  have hox : hget ((N, Blk.cells [kT.val m d] 70) :: Hx) o = some (oT.blk (kvd kT ms ds)) := by rw [hget_cons, if_neg (by omega)]; exact h.out
  have hv : oT.val (N + 1) (ds.length + 1) = .slice (some ⟨N + 1, 0, some 0⟩) (ds.length + 1) 0 := if_neg (by omega)
  have hb : oT.blk (kvd kT (ms ++ [m]) (ds ++ [d])) = .ext (kvd kT ms ds ++ [kT.val m d]) 70 1 := by
    rw [hsn]
    exact if_neg (by rw [List.length_append, List.length_singleton]; omega)
  have hsm : (ds.length + 1) * 24 ≤ 1099511627776 ∧ ds.length + 1 ≤ 1099511627776 := by omega
  have h1 := kT_one m d
  have fin : ∀ Hd : Heap, (∀ k, k ≠ o → hget Hd k = hget ((N, Blk.cells [kT.val m d] 70) :: Hx) k) → namesOk (N + 1) Hd = true → plainH Hd = true → LB q K (ms ++ [m]) (ds ++ [d]) (N + 1) ((N + 1, .ext (kvd kT ms ds ++ [kT.val m d]) 70 1) :: Hd) (N + 1 + 1) := by
    intro Hd hg hnm hpl
    refine ⟨fun k b hk => ?_, namesOk_put (by omega) (namesOk_mono (by omega) _ hnm), by simp [plainH, hpl], by simp [h.len], fun i m' d' e1 e2 => ?_, ?_, fun m' hm' => ?_, ?_, ⟨by omega, by omega⟩, by simp⟩
    · have := hK k b hk
      rw [hget_cons, if_neg (by omega), hg k (by omega), hget_cons, if_neg (by omega)]
      exact h.sub k b hk
    · by_cases hi : i < ms.length
      · rw [List.getElem?_append_left hi] at e1
        rw [List.getElem?_append_left (by rw [← h.len]; exact hi)] at e2
        have := h.mem m' (List.mem_of_getElem? e1)
        rw [hget_cons, if_neg (by omega), hg m' this.2.2, hget_cons, if_neg (by omega)]
        exact h.row i m' d' e1 e2
      · rw [List.getElem?_append_right (by omega)] at e1
        rw [List.getElem?_append_right (by rw [← h.len]; omega)] at e2
        have hi2 : i - ms.length = 0 := by
          have := (List.getElem?_eq_some_iff.1 e1).1
          simp at this
          omega
        rw [hi2] at e1
        rw [← h.len, hi2] at e2
        simp at e1 e2
        subst e1 e2
        rw [hget_cons, if_neg (by omega), hg m hq.2.2, hget_cons, if_neg (by omega)]
        exact hm
    · rw [hget_cons, if_pos rfl, hb]
    · rcases List.mem_append.1 hm' with hm' | hm'
      · have := h.mem m' hm'
        exact ⟨this.1, by omega, by omega⟩
      · rw [List.mem_singleton] at hm'
        subst hm'
        exact ⟨hq.1, by omega, by omega⟩
    · rw [List.nodup_append]
      refine ⟨h.nd, by simp, fun a ha b hb e => ?_⟩
      rw [List.mem_singleton] at hb
      subst hb e
      exact hn ha
  have hn1 : namesOk (N + 1) ((N, Blk.cells [kT.val m d] 70) :: Hx) = true := namesOk_put (by omega) (namesOk_mono (by omega) _ h.nm)
  have hp1 : plainH ((N, Blk.cells [kT.val m d] 70) :: Hx) = true := by simp [plainH, h.pl]
  rw [hv]
  obtain ⟨x, hx⟩ : ∃ x, kT.val m d = x := ⟨_, rfl⟩
  rw [hx] at hk h1 hox hn1 hp1 fin ⊢
  obtain ⟨ks, hks⟩ : ∃ ks, kvd kT ms ds = ks := ⟨_, rfl⟩
  rw [hks] at hl0 hox fin
  by_cases hd1 : ds.length = 1
  · have hvo : oT.val o ds.length = .slice (some ⟨o, 0, none⟩) 1 1 := if_pos hd1
    have hbo : oT.blk ks = .cells ks 70 := if_pos (by rw [hl0, hd1])
    rw [hbo] at hox
    have hko : cellsA ((N, Blk.cells [x] 70) :: Hx) o 0 1 = some ks := by
      rw [cellsA_eq, hox]
      simp [cellsB, hl0, hd1]
      exact List.take_of_length_le (by omega)
    refine ⟨_, ?_, fin _ (fun k hk => rfl) hn1 hp1⟩
    rw [hvo, hd1]
    simp [-cellsA, inf70, hk, h1, hko]
  · have hvo : oT.val o ds.length = .slice (some ⟨o, 0, some 0⟩) ds.length 0 := if_neg hd1
    have hbo : oT.blk ks = .ext ks 70 1 := if_neg (by rw [hl0]; exact hd1)
    rw [hbo] at hox
    refine ⟨_, ?_, fin (hdel ((N, Blk.cells [x] 70) :: Hx) o) (fun k hk => by rw [hget_hdel, if_neg (by omega)]) (namesOk_hdel hn1) (plainH_hdel hp1)⟩
    rw [hvo, ← hl0]
    rw [← hl0] at hsm
    simp [-cellsA, inf70, hk, h1, hox, hsm]
/-- the first row -/
theorem LB.first (hK : ∀ k b, hget K k = some b → k < q) (hnm : namesOk q K = true) (hpl : plainH K = true) (s : ByteArray) : LB q K [q] [(true, [s])] (q + 1) ((q + 1, .cells [.slice (some ⟨q, 0, none⟩) 1 1] 70) :: (q, .cells [sv s] 9) :: K) (q + 1 + 1) := by
  refine ⟨fun k b hk => ?_, namesOk_put (by omega) (namesOk_put (by omega) (namesOk_mono (by omega) _ hnm)), by simp [plainH, hpl], rfl, fun i m d h1 h2 => ?_, ?_, fun m hm => ?_, by simp, ⟨by omega, by omega⟩, by simp⟩
  · have := hK k b hk
    rw [hget_cons, if_neg (by omega), hget_cons, if_neg (by omega)]
    exact hk
  · have hi : i = 0 := by
      have := (List.getElem?_eq_some_iff.1 h1).1
      simp at this
      exact this
    subst hi
    simp at h1 h2
    subst h1 h2
    rw [hget_cons, if_neg (by omega), hget_cons, if_pos rfl]
    rfl
  · rw [hget_cons, if_pos rfl]
    rfl
  · rw [List.mem_singleton] at hm
    omega
/-- handed back -/
theorem LB.fresh (h : LB q K ms ds o Hx N) {n : Nat} {H : Heap} (hn : n ≤ q) (hs : Sub H K) : Fresh n (n + 1 + ds.length) H (ndvD oT n ds) (ndbD kT oT n ds) (oT.val o ds.length) Hx :=
  outK_ndD (o := o) (ms := ms) rfl h.len (by have := h.ho; omega) (fun m hm => by have := h.mem m hm; omega) h.nd h.out h.row (hs.trans h.sub)
end
end Go.Proofs.Ytljglocehbccnaa.Gn
namespace Go.Proofs.Ytljglocehbccnaa.Gn
open Go Go.Ab Go.Proofs Go.Soft
def nmsG (l : List Gun) : List ByteArray := l.map Gun.name
theorem svs_eq (l : List Gun) : svs l = svL (nmsG l) := by simp [svs, svL, nmsG]
def vsG (l : List Gun) : List Int := (sorted l).map Gun.v
/-- the steps of a soft start, by where they begin and end -/
def softD (l : List Gun) : List TxD := (true, [((sorted l).getD 0 zeroG).name]) :: (cuts (vsG l) ((vsG l).length - 1) 1).map fun p => (false, nmsG (((sorted l).take p.2).drop p.1))
theorem sorted_len (l : List Gun) : (sorted l).length = l.length := by unfold sorted; rw [List.length_reverse, srtR_len]
theorem sorted_mem {l : List Gun} {g : Gun} : g ∈ sorted l ↔ g ∈ l := by unfold sorted; rw [List.mem_reverse, srtR_mem]
theorem vsG_len (l : List Gun) : (vsG l).length = l.length := by unfold vsG; rw [List.length_map, sorted_len]
theorem volW_sum : ∀ (l : List Gun) (a : Int), (∀ g ∈ l, 1 ≤ g.v ∧ g.v ≤ 64) → 0 ≤ a → a + 64 * l.length ≤ 1000000 → l.foldl (fun a g => IntKind.i64.wrap (a + g.v)) a = (l.map Gun.v).foldl (· + ·) a ∧ a ≤ (l.map Gun.v).foldl (· + ·) a ∧ (l.map Gun.v).foldl (· + ·) a ≤ a + 64 * l.length
  | [], a, _, _, _ => by simp
  | g :: l, a, hb, h0, h1 => by
    have hg := hb g (List.mem_cons_self ..)
    rw [List.length_cons] at h1
    push_cast at h1
    have hw : IntKind.i64.wrap (a + g.v) = a + g.v := W_in (by omega) (by omega)
    have ih := volW_sum l (a + g.v) (fun x hx => hb x (List.mem_cons_of_mem _ hx)) (by omega) (by omega)
    simp only [List.foldl_cons, List.map_cons, hw, List.length_cons]
    refine ⟨ih.1, by omega, ?_⟩
    push_cast
    omega
theorem vol_sum {l : List Gun} (hb : ∀ g ∈ l, 1 ≤ g.v ∧ g.v ≤ 64) (hl : l.length ≤ 4096) (k : Nat) : volW ((sorted l).take k) = sumTo (vsG l) k ∧ 0 ≤ sumTo (vsG l) k ∧ sumTo (vsG l) k ≤ 64 * 4096 := by
  have h1 : ((sorted l).take k).length ≤ 4096 := by rw [List.length_take, sorted_len]; omega
  have := volW_sum ((sorted l).take k) 0 (fun g hg => hb g (sorted_mem.1 (List.mem_of_mem_take hg))) (by omega) (by omega)
  rw [List.map_take] at this
  exact ⟨this.1, this.2.1, Int.le_trans this.2.2 (by omega)⟩
theorem w15e {H : Heap} {n : Nat} {v : Value} {l : List Gun} (hG : OwnG H v l) (hE : strE l ≠ 0) : AC Try.prog 15 [.agg ⟨[v]⟩] H n (.tuple #[.slice none 0 0, iv (strE l)]) H n := by
  refine AC.given fun hold _ _ => AC.tidied (B := []) (by simp) ?_
  replace hG := hG.tidy (fun k b h => (hold k b h).1)
  have hr := recT_ok (P := Try.prog) (l := [(41, g41)]) (by simp [ok41])
  have hS : Sub (tidy n H) ((n, .cells [v] 66) :: tidy n H) := Sub.cons (by simp) (Sub.refl _)
  have hc31 := (hG.mono hS).check (n + 1)
  have hv : ∃ a c, v = .slice (some a) l.length c := by
    obtain ⟨b, e, _⟩ := hG
    exact ⟨_, _, e⟩
  obtain ⟨a, c, rfl⟩ := hv
  refine AC.pure Try.func15 rfl (by kernel_rfl) rfl [] rfl ?_
  refine E.seq ?_
  refine E.reg hr (by simp; rfl) ?_
  refine E.seq ?_
  refine E.seq ?_
  refine E.reg hr (by simp [hc31]; rfl) ?_
  refine E.seq ?_
  refine E.reg hr (by simp; rfl) ?_
  refine E.cond (t := true) (by simp [hE]) (fun _ => ?_) (fun h => by cases h)
  refine E.seq ?_
  refine E.reg hr (by simp; rfl) ?_
  refine E.ret ?_
  exact pureK.ret rfl rfl (by simp) hS
theorem w15n {H : Heap} {n : Nat} : AC Try.prog 15 [nilV] H n (.tuple #[.slice none 0 0, iv 12]) H n := by
  refine AC.given fun hold _ _ => AC.tidied (B := []) (by simp) ?_
  have hr := recT_ok (P := Try.prog) (l := [(41, g41)]) (by simp [ok41])
  have h12 : strE [] = 12 := rfl
  refine AC.pure Try.func15 rfl (by kernel_rfl) rfl [] rfl ?_
  refine E.seq ?_
  refine E.reg hr (by simp; rfl) ?_
  refine E.seq ?_
  refine E.seq ?_
  refine E.reg hr (by simp [g41, h12]; rfl) ?_
  refine E.seq ?_
  refine E.reg hr (by simp; rfl) ?_
  refine E.cond (t := true) (by simp) (fun _ => ?_) (fun h => by cases h)
  refine E.seq ?_
  refine E.reg hr (by simp; rfl) ?_
  refine E.ret ?_
  exact pureK.ret rfl rfl (by simp) (Sub.cons (by simp) (Sub.refl _))
set_option maxRecDepth 20000 in
set_option maxHeartbeats 1000000 in
theorem w15 {H : Heap} {n : Nat} {v : Value} {l : List Gun} (hG : OwnG H v l) (hE : strE l = 0) : AC Try.prog 15 [.agg ⟨[v]⟩] H n (.tuple #[ndvD oT n (softD l), iv 0]) (ndbD kT oT n (softD l) ++ H) (n + 1 + (softD l).length) := by
  refine AC.given fun hold _ _ => AC.tidied (fun x hx => (ndbD_names x hx).1) ?_
  replace hG := hG.tidy (fun k b h => (hold k b h).1)
  have hr := recT_ok (P := Try.prog) (l := [(41, g41), (42, g42), (43, g43), (46, g46), (47, g47)]) (by simp only [List.forall_mem_cons]; exact ⟨ok41, ok42, ok43, ok46, ok47, by simp⟩)
  obtain ⟨_, h8, hd, hbd⟩ := strE_zero hE
  obtain ⟨bb, rfl, hb1, hp, hlt⟩ := id hG
  obtain ⟨V, hV⟩ : ∃ V, Value.slice (some ⟨bb, 0, some 0⟩) l.length 0 = V := ⟨_, rfl⟩
  rw [hV] at hG ⊢
  have hS : Sub (tidy n H) ((n, .cells [V] 66) :: tidy n H) := Sub.cons (by simp) (Sub.refl _)
  have hG1 := hG.mono hS
  have hc31 := hG1.check (n + 1)
  rw [hE] at hc31
  have hc142 : g42 [V] ((n, .cells [V] 66) :: tidy n H) (n + 1) = some (.slice (some ⟨n + 1, 0, some 0⟩) l.length 0, (n + 1, .ext (gcs l) 79 7) :: (n, .cells [V] 66) :: tidy n H, n + 1 + 1) := by
    simp only [g42, gunsOf_atB hG1.guns, Option.map_some]
  obtain ⟨Z, hZ⟩ : ∃ Z, sorted l = Z := ⟨_, rfl⟩
  have hZl : Z.length = l.length := by rw [← hZ, sorted_len]
  obtain ⟨L, hL⟩ : ∃ L, l.length = L := ⟨_, rfl⟩
  have hc143 : g43 [.slice (some ⟨n + 1, 0, some 0⟩) L 0, cmpF] ((n + 1, .ext (gcs l) 79 7) :: (n, .cells [V] 66) :: tidy n H) (n + 1 + 1) = some (.tuple #[], (n + 1, .ext (gcs Z) 79 7) :: (n, .cells [V] 66) :: tidy n H, n + 1 + 1) := by
    simp only [g43]
    rw [← hL, gOrd_at (by rw [hget_cons, if_pos rfl]) (by omega), hZ]
    simp [hset]
  rw [hL] at hp hlt hZl h8 hc142
  have hvl : (vsG l).length = L := by rw [vsG_len, hL]
  have hsum : ∀ k, volW (Z.take k) = sumTo (vsG l) k ∧ 0 ≤ sumTo (vsG l) k ∧ sumTo (vsG l) k ≤ 64 * 4096 := fun k => by
    have := vol_sum hbd (by omega) k
    rwa [hZ] at this
  obtain ⟨K0, hK0⟩ : ∃ K0, (n + 1, Blk.ext (gcs Z) 79 7) :: (n, .cells [V] 66) :: tidy n H = K0 := ⟨_, rfl⟩
  have hKlt : ∀ k b, hget K0 k = some b → k < n + 1 + 1 := fun k b hk => by
    rw [← hK0, hget_cons] at hk
    split at hk
    · omega
    · rw [hget_cons] at hk
      split at hk
      · omega
      · have := tidy_lt k b hk
        omega
  have hKnm : namesOk (n + 1 + 1) K0 = true := by rw [← hK0]; exact namesOk_put (by omega) (namesOk_put (by omega) (namesOk_mono (by omega) _ namesOk_tidy))
  have hKpl : plainH K0 = true := by rw [← hK0]; simp [plainH]
  have hKs : Sub (tidy n H) K0 := by rw [← hK0]; exact hS.trans (Sub.cons (by simp) (Sub.refl _))
  have hKg : hget K0 (n + 1) = some (.ext (gcs Z) 79 7) := by rw [← hK0, hget_cons, if_pos rfl]
  have hc0 : cellA K0 (n + 1) 0 = some (sv (Z.getD 0 zeroG).name) := by
    have h1 := row_at hKg (j := 0) (by omega)
    have h2 := (cellsA_cell h1 (i := 0) (by omega)).1
    rw [Nat.zero_mul, Nat.zero_add] at h2
    rw [h2, List.getD_eq_getElem?_getD, List.getElem?_eq_getElem (show 0 < Z.length by omega)]
    rfl
  have hlb0 := LB.first hKlt hKnm hKpl (Z.getD 0 zeroG).name
  obtain ⟨s0, hs0⟩ : ∃ s0, (Z.getD 0 zeroG).name = s0 := ⟨_, rfl⟩
  rw [hs0] at hc0 hlb0
  have hsoft : softD l = (true, [s0]) :: (cuts (vsG l) (L - 1) 1).map fun p => (false, nmsG ((Z.take p.2).drop p.1)) := by
    unfold softD
    rw [hZ, hs0, hvl]
  refine AC.fresh Try.func15 rfl (by kernel_rfl) rfl [5, 6, 7, 8, 9] (Nat.le_trans (Nat.le_add_right n 1) (Nat.le_add_right _ _)) ⟨oT.sc _ _ _ (by show n < _; omega), trivial, trivial⟩ (fun ρ => by simp only [Ab.ren, renL, af, afL, ndvD, oT.ren, oT.af]; rfl) ?_
  refine E.seq ?_
  refine E.reg hr (by simp; rfl) ?_
  refine E.seq ?_
  refine E.seq ?_
  refine E.reg hr (by simp [hc31]; rfl) ?_
  refine E.seq ?_
  refine E.reg hr (by simp; rfl) ?_
  refine E.cond (t := false) (by simp) (fun h => by cases h) (fun _ => ?_)
  refine E.skip ?_
  refine E.seq ?_
  refine E.reg hr (by simp [hc142]; rfl) ?_
  refine E.seq ?_
  refine E.reg hr (by simp [hc143]; rfl) ?_
  rw [hK0]
  refine E.seq ?_
  refine E.reg hr (by simp; rfl) ?_
  refine E.seq ?_
  refine E.reg hr (by simp [-cellA, hp, hc0]; rfl) ?_
  refine E.seq ?_
  refine E.seq ?_
  refine E.reg hr (by simp; rfl) ?_
  refine E.block ?_
  refine E.loop ?_
  refine EL.ind (fun x : Nat × Heap × Nat × Nat × List Nat × List TxD => { fr := [(5, .slice (some ⟨n + 1, 0, some 0⟩) L 0), (6, .func (.func 45) #[] #[]), (7, oT.val x.2.2.2.1 x.2.2.2.2.2.length), (8, iv x.1)], sz := 62, H := x.2.1, n := x.2.2.1, marks := [], vs := [5, 6, 7, 8, 9] }) (fun x => L - x.1) (fun x => (1 ≤ x.1 ∧ x.1 ≤ L ∧ x.2.2.2.2.2.length ≤ x.1) ∧ x.2.2.2.2.2 ++ (cuts (vsG l) (L - x.1) x.1).map (fun p => (false, nmsG ((Z.take p.2).drop p.1))) = softD l ∧ LB (n + 1 + 1) K0 x.2.2.2.2.1 x.2.2.2.2.2 x.2.2.2.1 x.2.1 x.2.2.1) (1, _, n + 1 + 1 + 1 + 1, n + 1 + 1 + 1, [n + 1 + 1], [(true, [s0])]) (.keep rfl rfl rfl (by simp [oT, oLit]) (Sub.refl _)) ⟨⟨Nat.le_refl _, hp, Nat.le_refl _⟩, hsoft.symm, hlb0⟩ (fun _ => rfl) ?_
  rintro ⟨f, Hx, N, o, ms, ds⟩ ⟨⟨hf1, hfL, hdl⟩, hds, hLB⟩
  dsimp only at hf1 hfL hdl hds hLB ⊢
  refine E.seq ?_
  refine E.seq ?_
  refine E.reg hr (by simp; rfl) ?_
  by_cases hfl : f < L
  · have hgo := cuts_go (V := vsG l) (from' := f) (by omega) (L - f) (by omega)
    have hwf : IntKind.i64.wrap ((f : Int) + 1) = (f : Int) + 1 := W_in (by omega) (by omega)
    have hnxt : nextS (vsG l) f = stopAt (vsG l) f ((vsG l).length - (f + 1)) (f + 1) := rfl
    have hRG : hget Hx (n + 1) = some (.ext (gcs Z) 79 7) := hLB.sub _ _ hKg
    have hR1 : RowG Hx (n + 1) Z := .inl hRG
    have hR2 : RowG (frzH Hx) (n + 1) Z := .inr (by rw [hget_frz, hRG]; rfl)
    have hR3 : RowG (readA [n + 1] Hx) (n + 1) Z := .inl (by rw [hget_readA, if_pos (by simp), hRG])
    have hnm := hLB.nm
    have hpl := hLB.pl
    have htk := takeNew_frz hnm
    have hN0 : n + 1 < N := by have := hLB.ho; omega
    have h111 : ∀ X, RowG X (n + 1) Z → ∀ k m, 0 < k → k ≤ L → g46 [.slice (some ⟨n + 1, 0, some 0⟩) k 0] X m = some (iv (sumTo (vsG l) k), X, m) := fun X hX k m h0 hk => by
      have hlen : (Z.take k).length = k := by rw [List.length_take]; omega
      have hat : gunsAt X ⟨n + 1, 0, some 0⟩ k = some (Z.take k) := by
        have hcc : cellsA X (n + 1) 0 (k * 7) = some (gcs (Z.take k)) := by
          have hgl := gcs_length Z
          have h7 : k * 7 ≤ (gcs Z).length := by omega
          rcases hX with hX | hX <;> rw [cellsA_eq, hX] <;> simp [cellsB, gcs_takeN]
          all_goals omega
        have hbk : Nat.blt k 9223372036854775808 = true := (blt_iff _ _).2 (by omega)
        unfold gunsAt
        simp only [flat, Nat.beq_refl, hbk, Bool.and_self, if_true, hcc, Option.bind_some, gunsOf_gcs]
      simp only [g46, hat, Option.map_some, (hsum k).1]
    refine E.cond (t := true) (by simp [hfl]) (fun _ => ?_) (fun h => by cases h)
    refine E.skip ?_
    refine E.block ?_
    refine E.seq ?_
    refine E.reg hr (by simp [hwf]; rfl) ?_
    refine E.seq ?_
    refine E.block ?_
    refine E.loop ?_
    refine EL.ind (fun t : Nat => { fr := [(5, .slice (some ⟨n + 1, 0, some 0⟩) L 0), (6, .func (.func 45) #[] #[]), (7, oT.val o ds.length), (8, iv f), (9, iv t)], sz := 62, H := Hx, n := N, marks := [], vs := [5, 6, 7, 8, 9] }) (fun t => L - t) (fun t => f < t ∧ t ≤ L ∧ nextS (vsG l) f = stopAt (vsG l) f ((vsG l).length - t) t) (f + 1) (.keep rfl rfl rfl (by simp) (Sub.refl _)) ⟨Nat.lt_succ_self f, hfl, hnxt⟩ (fun _ => rfl) ?_
    rintro t ⟨hft, htL, hst⟩
    have hwt : IntKind.i64.wrap ((t : Int) + 1) = (t : Int) + 1 := W_in (by omega) (by omega)
    refine E.seq ?_
    refine E.seq ?_
    have hgoal : (t < L ∧ sumTo (vsG l) (t + 1) ≤ 2 * sumTo (vsG l) f) ∨ ¬ (t < L ∧ sumTo (vsG l) (t + 1) ≤ 2 * sumTo (vsG l) f) := Classical.em _
    have hs1 := (hsum (t + 1)).2
    have hs2 := (hsum f).2
    have hw2 : IntKind.i64.wrap (2 * sumTo (vsG l) f) = 2 * sumTo (vsG l) f := W_in (by omega) (by omega)
    rcases hgoal with hgo2 | hgo2
    · have htl : t < L := hgo2.1
      have hti : (t : Int) < L := by omega
      have hle := hgo2.2
      have a1 := fun m => h111 (frzH Hx) hR2 (t + 1) m (by omega) (by omega)
      have a2 := fun m => h111 Hx hR1 f m (by omega) (by omega)
      have h1 : t + 1 ≤ Z.length := by omega
      have h2 : f ≤ Z.length := by omega
      have h3 : 0 < Z.length := by omega
      refine E.drawU mixed hr [13] [9, 13] [8, 9, 13] (by kernel_rfl) (by simp [-readA, hnm, hpl, htk, hN0, hti, hwt, hw2, slice_hi (i := t + 1) (L := L) hR3 h1 h3, slice_hi (i := f) (L := L) hR3 h2 h3, a1, a2, hle]; rfl) ?_
      refine E.cond (t := true) (by simp) (fun _ => ?_) (fun h => by cases h)
      refine E.skip ?_
      refine E.block ?_
      refine E.reg hr (by simp [hwt]; rfl) ?_
      exact ⟨t + 1, .keep rfl rfl rfl (by simp) (Sub.refl _), ⟨by omega, by omega, by rw [hst, ← stopAt_go (by rw [hvl]; exact hgo2)]⟩, by dsimp only; omega⟩
    · have hnt : nextS (vsG l) f = t := by rw [hst, stopAt_end (by rw [hvl]; exact hgo2)]
      have hpl0 : ((Z.take t).drop f).length = t - f := by rw [List.length_drop, List.length_take]; omega
      have hgp := guns_part hRG (i := f) (j := t) (c := f) hft (by omega) (by omega)
      obtain ⟨P, hP⟩ : ∃ P, (Z.take t).drop f = P := ⟨_, rfl⟩
      rw [hP] at hpl0 hgp
      have hPne : svs P ≠ [] := by
        intro e
        have h0 : P.length = 0 := by rw [← svs_len, e]; rfl
        omega
      have hc146 : g47 [.slice (some ⟨n + 1, f * 7, some 0⟩) (t - f) f, .func (.func 45) #[] #[]] Hx N = some (.slice (some ⟨N, 0, some 0⟩) (t - f) 0, (N, .ext (svs P) 9 1) :: Hx, N + 1) := by
        simp only [g47, gunsOf_atB hgp, Option.map_some, outC_ne hPne, outCB_ne hPne, svs_len, hpl0]
        rfl
      have hrow : kT.blk (false, nmsG P) = .ext (svs P) 9 1 := by rw [svs_eq]; rfl
      have hval : kT.val N (false, nmsG P) = .slice (some ⟨N, 0, some 0⟩) (t - f) 0 := by
        show Value.slice (some ⟨N, 0, some 0⟩) (nmsG P).length 0 = _
        rw [nmsG, List.length_map, hpl0]
      have hL1 := hLB.skip hKlt (.ext (svs P) 9 1) rfl
      have hmem := hLB.mem
      have hho := hLB.ho
      obtain ⟨Hz, happ, hL2⟩ := hL1.more hKlt (m := N) (d := (false, nmsG P)) (by rw [hget_cons, if_pos rfl, hrow]) ⟨by omega, by omega, by omega⟩ (fun h => by have := hmem N h; omega) (by omega)
      rw [hval] at happ
      obtain ⟨ov, hov⟩ : ∃ ov, oT.val o ds.length = ov := ⟨_, rfl⟩
      rw [hov] at happ ⊢
      have hds2 : (ds ++ [(false, nmsG P)]) ++ (cuts (vsG l) (L - t) t).map (fun p => (false, nmsG ((Z.take p.2).drop p.1))) = softD l := by
        rw [← hds, hgo, hnt, hvl, List.map_cons, hP, List.append_assoc]
        rfl
      have ht1 : f ≤ t := by omega
      by_cases htl : t < L
      · have hti : (t : Int) < L := by omega
        have hle : ¬ sumTo (vsG l) (t + 1) ≤ 2 * sumTo (vsG l) f := fun h => hgo2 ⟨htl, h⟩
        have a1 := fun m => h111 (frzH Hx) hR2 (t + 1) m (by omega) (by omega)
        have a2 := fun m => h111 Hx hR1 f m (by omega) (by omega)
        have h1 : t + 1 ≤ Z.length := by omega
        have h2 : f ≤ Z.length := by omega
        have h3 : 0 < Z.length := by omega
        refine E.drawU mixed hr [13] [9, 13] [8, 9, 13] (by kernel_rfl) (by simp [-readA, hnm, hpl, htk, hN0, hti, hwt, hw2, slice_hi (i := t + 1) (L := L) hR3 h1 h3, slice_hi (i := f) (L := L) hR3 h2 h3, a1, a2, hle]; rfl) ?_
        refine E.cond (t := false) (by simp) (fun h => by cases h) (fun _ => ?_)
        refine E.exit ?_
        refine E.seq ?_
        refine E.reg hr (by simp [-builtinA, slice_lohi (L := L) (i := f) (j := t) hR1 hft (by omega), hc146, happ]; rfl) ?_
        refine E.reg hr (by simp; rfl) ?_
        exact ⟨(t, Hz, N + 1 + 1 + 1, N + 1 + 1, ms ++ [N], ds ++ [(false, nmsG P)]), .keep rfl rfl rfl (by simp) (Sub.refl _), ⟨⟨by dsimp only; omega, htL, by simp; omega⟩, hds2, hL2⟩, by dsimp only; omega⟩
      · have hti : ¬ (t : Int) < L := by omega
        refine E.drawU mixed hr [13] [9, 13] [8, 9, 13] (by kernel_rfl) (by simp [hnm, hti, undefV]; rfl) ?_
        refine E.cond (t := false) (by simp) (fun h => by cases h) (fun _ => ?_)
        refine E.exit ?_
        refine E.seq ?_
        refine E.reg hr (by simp [-builtinA, slice_lohi (L := L) (i := f) (j := t) hR1 hft (by omega), hc146, happ]; rfl) ?_
        refine E.reg hr (by simp; rfl) ?_
        exact ⟨(t, Hz, N + 1 + 1 + 1, N + 1 + 1, ms ++ [N], ds ++ [(false, nmsG P)]), .keep rfl rfl rfl (by simp) (Sub.refl _), ⟨⟨by dsimp only; omega, htL, by simp; omega⟩, hds2, hL2⟩, by dsimp only; omega⟩
  · have hfe : f = L := by omega
    have hcut : cuts (vsG l) (L - f) f = [] := by rw [hfe, Nat.sub_self]; rfl
    rw [hcut, List.map_nil, List.append_nil] at hds
    rw [← hds]
    have hfin := hLB.fresh (n := n) (H := tidy n H) (by omega) hKs
    obtain ⟨ov, hov⟩ : ∃ ov, oT.val o ds.length = ov := ⟨_, rfl⟩
    rw [hov] at hfin ⊢
    refine E.cond (t := false) (by simp [hfl]) (fun h => by cases h) (fun _ => ?_)
    refine E.exit ?_
    refine E.seq ?_
    refine E.reg hr (by simp; rfl) ?_
    refine E.ret ?_
    exact outK.ret rfl rfl (hfin.pair 0)
end Go.Proofs.Ytljglocehbccnaa.Gn

namespace Go.Proofs.Ytljglocehbccnaa.Gn
open Go Go.Ab Go.Proofs Go.Soft
def ordN (l : List Gun) : List Nat := bucket (volAt l) l.length 64 1
theorem volAt_getD (l : List Gun) (i : Nat) : volAt l i = (l.getD i zeroG).v := by
  unfold volAt
  rw [List.getD_eq_getElem?_getD]
  cases l[i]? <;> rfl
theorem ordN_eq {l : List Gun} (hb : ∀ g ∈ l, 1 ≤ g.v ∧ g.v ≤ 64) : ordN l = byVol (volAt l) l.length := by
  unfold ordN
  refine bucket_eq fun i hi => ?_
  rw [volAt_getD, List.getD_eq_getElem?_getD, List.getElem?_eq_getElem hi]
  exact hb _ (List.getElem_mem hi)
theorem range_get (l : List Gun) : (List.range l.length).map (fun i => l.getD i zeroG) = l := by
  apply List.ext_getElem
  · simp
  · intro i h1 h2
    simp [List.getD_eq_getElem?_getD, h2]
theorem ordN_map {l : List Gun} (hb : ∀ g ∈ l, 1 ≤ g.v ∧ g.v ≤ 64) : (ordN l).map (fun i => l.getD i zeroG) = sorted l := by
  rw [ordN_eq hb]
  unfold byVol sorted
  conv => rhs; rw [← range_get l, srtR_map]
  rw [← List.map_reverse]
  congr 3
  funext i
  exact volAt_getD l i
theorem ordN_lt {l : List Gun} (hb : ∀ g ∈ l, 1 ≤ g.v ∧ g.v ≤ 64) {i : Nat} (h : i ∈ ordN l) : i < l.length := by
  rw [ordN_eq hb] at h
  exact byVol_mem.1 h
section
variable {q o N : Nat} {K Hx : Heap} {ms : List Nat} {ds : List TxD}
/-- a word more in a row that is not yet one of the list -/
theorem LB.word (h : LB q K ms ds o Hx N) (hK : ∀ k b, hget K k = some b → k < q) {m : Nat} {b : Bool} {l : List ByteArray} (hm : hget Hx m = some (kT.blk (b, l))) (hq : q ≤ m ∧ m < N ∧ m ≠ o) (hn : m ∉ ms) (hl : l.length < 2147483647) (s : ByteArray) :
    ∃ Hz, builtinA Try.prog .append #[70, 70] ((N, .cells [sv s] 9) :: Hx) (N + 1) [kT.val m (b, l), .slice (some ⟨N, 0, none⟩) 1 1] = some (kT.val (N + 1) (false, l ++ [s]), Hz, N + 1 + 1) ∧ LB q K ms ds o Hz (N + 1 + 1) ∧ hget Hz (N + 1) = some (kT.blk (false, l ++ [s])) := by
  have h0 := h.ho
  have h1 := h.skip hK (.cells [sv s] 9) rfl
  have hk : cellsA ((N, .cells [sv s] 9) :: Hx) N 0 1 = some [sv s] := by
    rw [cellsA_eq, hget_cons, if_pos rfl]; rfl
  have hmx : hget ((N, Blk.cells [sv s] 9) :: Hx) m = some (kT.blk (b, l)) := by rw [hget_cons, if_neg (by omega)]; exact hm
  have hsm : (l.length + 1) * 16 ≤ 1099511627776 ∧ l.length + 1 ≤ 1099511627776 := by omega
  have hv : kT.val (N + 1) (false, l ++ [s]) = .slice (some ⟨N + 1, 0, some 0⟩) (l.length + 1) 0 := by
    show Value.slice (some ⟨N + 1, 0, some 0⟩) (l ++ [s]).length 0 = _
    rw [List.length_append]; rfl
  have hb : kT.blk (false, l ++ [s]) = .ext (svL l ++ [sv s]) 9 1 := by
    show Blk.ext (svL (l ++ [s])) 9 1 = _
    rw [svL_snoc]
  rw [hv, hb]
  have fin : ∀ Hd : Heap, (∀ k, k ≠ m → hget Hd k = hget ((N, Blk.cells [sv s] 9) :: Hx) k) → namesOk (N + 1) Hd = true → plainH Hd = true → LB q K ms ds o ((N + 1, .ext (svL l ++ [sv s]) 9 1) :: Hd) (N + 1 + 1) := by
    intro Hd hg hnm hpl
    refine ⟨fun k b hk => ?_, namesOk_put (by omega) (namesOk_mono (by omega) _ hnm), by simp [plainH, hpl], h.len, fun i m' d' e1 e2 => ?_, ?_, fun m' hm' => ?_, h.nd, ⟨h0.1, by omega⟩, h.ne⟩
    · have := hK k b hk
      rw [hget_cons, if_neg (by omega), hg k (by omega), hget_cons, if_neg (by omega)]
      exact h.sub k b hk
    · have hmem := List.mem_of_getElem? e1
      have := h.mem m' hmem
      have hne : m' ≠ m := fun e => hn (e ▸ hmem)
      rw [hget_cons, if_neg (by omega), hg m' hne, hget_cons, if_neg (by omega)]
      exact h.row i m' d' e1 e2
    · rw [hget_cons, if_neg (by omega), hg o (by omega), hget_cons, if_neg (by omega)]
      exact h.out
    · have := h.mem m' hm'
      exact ⟨this.1, by omega, this.2.2⟩
  cases b with
  | true =>
    have hvo : kT.val m (true, l) = .slice (some ⟨m, 0, none⟩) l.length l.length := rfl
    have hmo : hget ((N, Blk.cells [sv s] 9) :: Hx) m = some (.cells (svL l) 9) := hmx
    have hko : cellsA ((N, Blk.cells [sv s] 9) :: Hx) m 0 l.length = some (svL l) := by
      rw [cellsA_eq, hmo]
      simp [cellsB]
      exact List.take_of_length_le (by simp)
    refine ⟨_, ?_, fin _ (fun k hk => rfl) h1.nm h1.pl, by rw [hget_cons, if_pos rfl]⟩
    rw [hvo]
    simp [-cellsA, hk, hko, hsm]
  | false =>
    have hvo : kT.val m (false, l) = .slice (some ⟨m, 0, some 0⟩) l.length 0 := rfl
    have hmo : hget ((N, Blk.cells [sv s] 9) :: Hx) m = some (.ext (svL l) 9 1) := hmx
    have hll := svL_len l
    refine ⟨_, ?_, fin (hdel ((N, Blk.cells [sv s] 9) :: Hx) m) (fun k hk => by rw [hget_hdel, if_neg (by omega)]) (namesOk_hdel h1.nm) (plainH_hdel h1.pl), by rw [hget_cons, if_pos rfl]⟩
    rw [hvo]
    obtain ⟨ks, hks⟩ : ∃ ks, svL l = ks := ⟨_, rfl⟩
    rw [hks] at hll hmo ⊢
    rw [← hll]
    rw [← hll] at hsm
    simp [-cellsA, hk, hmo, hsm]
end
end Go.Proofs.Ytljglocehbccnaa.Gn
namespace Go.Proofs.Ytljglocehbccnaa.Gn
open Go Go.Ab Go.Proofs Go.Soft
open Classical in
noncomputable def ownOf (H : Heap) (v : Value) : Option (List Gun) := if h : ∃ l, OwnG H v l then some (Classical.choose h) else none
theorem ownOf_at {H : Heap} {v : Value} {l : List Gun} (h : OwnG H v l) : ownOf H v = some l := by
  have hc : ∃ l, OwnG H v l := ⟨l, h⟩
  unfold ownOf
  rw [dif_pos hc, (Classical.choose_spec hc).guns.one h.guns]
theorem ownOf_spec {H : Heap} {v : Value} {l : List Gun} (h : ownOf H v = some l) : OwnG H v l := by
  unfold ownOf at h
  split at h
  · rename_i hc
    injection h with h
    rw [← h]
    exact Classical.choose_spec hc
  · cases h
noncomputable def g15 (args : List Value) (H : Heap) (n : Nat) : R := match args with
  | [.agg ⟨[.slice none 0 0]⟩] => some (.tuple #[.slice none 0 0, iv 12], H, n)
  | [.agg ⟨[v]⟩] => match ownOf H v with
    | some l => if strE l = 0 then some (.tuple #[ndvD oT n (softD l), iv 0], ndbD kT oT n (softD l) ++ H, n + 1 + (softD l).length) else some (.tuple #[.slice none 0 0, iv (strE l)], H, n)
    | none => none
  | _ => none
theorem ok15 : EntOk Try.prog (15, g15) := by
  intro args H n v H' n' h
  simp only [g15] at h
  split at h
  · injection h with h; injection h with e1 e2; injection e2 with e2 e3; subst e1 e2 e3
    exact w15n
  · split at h
    · rename_i l h1
      split at h
      · rename_i hE
        injection h with h; injection h with e1 e2; injection e2 with e2 e3; subst e1 e2 e3
        exact w15 (ownOf_spec h1) hE
      · rename_i hE
        injection h with h; injection h with e1 e2; injection e2 with e2 e3; subst e1 e2 e3
        exact w15e (ownOf_spec h1) hE
    · cases h
  · cases h
theorem g15_own {H : Heap} {n : Nat} {v : Value} {l : List Gun} (h : OwnG H v l) : g15 [.agg ⟨[v]⟩] H n = if strE l = 0 then some (.tuple #[ndvD oT n (softD l), iv 0], ndbD kT oT n (softD l) ++ H, n + 1 + (softD l).length) else some (.tuple #[.slice none 0 0, iv (strE l)], H, n) := by
  have h1 := ownOf_at h
  obtain ⟨b, rfl, _⟩ := h
  simp only [g15, h1]
theorem strAt_mono {H H' : Heap} (hs : Sub H H') {x : Value} {l : List Gun} (h : strAt H x = some l) : strAt H' x = some l := by
  unfold strAt at h ⊢
  split at h
  · exact h
  · unfold gunsAt at h ⊢
    split at h
    · rename_i hc
      rw [if_pos hc]
      obtain ⟨cs, h1, h2⟩ := Option.bind_eq_some_iff.1 h
      rw [hs.cells h1]
      exact h2
    · cases h
  · cases h
theorem strAt_tidy {H : Heap} {n : Nat} (hl : ∀ k b, hget H k = some b → k < n) {x : Value} {l : List Gun} (h : strAt H x = some l) : strAt (Ab.tidy n H) x = some l := by
  unfold strAt at h ⊢
  split at h
  · exact h
  · unfold gunsAt at h ⊢
    split at h
    · rename_i hc
      rw [if_pos hc]
      obtain ⟨cs, h1, h2⟩ := Option.bind_eq_some_iff.1 h
      rw [cellsA_tidy hl h1]
      exact h2
    · cases h
  · cases h
theorem strAt_guns {H : Heap} {v : Value} {l : List Gun} (h : strAt H (.agg ⟨[v]⟩) = some l) (hne : l ≠ []) (hlt : l.length < 2147483648) : GunsAt H v l := by
  unfold strAt at h
  split at h
  · injection h with h
    exact absurd h.symm hne
  · rename_i a len c e
    simp only [Value.agg.injEq, Array.mk.injEq, List.cons.injEq, and_true] at e
    subst e
    obtain ⟨hf, hc, hlen, _⟩ := gunsAt_ok h
    subst hlen
    exact ⟨a, c, rfl, hf, hc, List.length_pos_iff.2 hne, hlt⟩
  · cases h
theorem strAt_own {H : Heap} {n : Nat} {v : Value} {l : List Gun} (h : strAt H (.agg ⟨[v]⟩) = some l) (hne : l ≠ []) (hl : l.length ≤ 4096) : g16 [.agg ⟨[v]⟩] H n = some (.agg ⟨[.slice (some ⟨n, 0, some 0⟩) l.length 0]⟩, (n, .ext (gcs l) 79 7) :: H, n + 1) := by
  simp only [g16, h]
  rw [if_neg hne, if_pos hl]
theorem own_row {H : Heap} {n : Nat} {l : List Gun} (hne : l ≠ []) (hl : l.length ≤ 4096) : OwnG ((n, .ext (gcs l) 79 7) :: H) (.slice (some ⟨n, 0, some 0⟩) l.length 0) l :=
  ⟨n, rfl, .inl (by rw [hget_cons, if_pos rfl]), List.length_pos_iff.2 hne, by omega⟩
theorem cuts_bound {V : List Int} : ∀ (k f : Nat), ∀ p ∈ cuts V k f, p.1 < p.2 ∧ p.2 ≤ V.length
  | 0, _, p, h => by simp [cuts] at h
  | k + 1, f, p, h => by
    rw [cuts] at h
    split at h
    · rename_i hf
      have := nextS_gt hf
      rcases List.mem_cons.1 h with rfl | h
      · exact this
      · exact cuts_bound k _ p h
    · cases h
theorem cuts_len {V : List Int} : ∀ (k f : Nat), (cuts V k f).length ≤ k
  | 0, _ => by simp [cuts]
  | k + 1, f => by
    rw [cuts]
    split
    · have := cuts_len (V := V) k (nextS V f)
      simp only [List.length_cons]
      omega
    · simp
/-- the steps of the soft start of a string -/
def softL (l : List Gun) : List (List ByteArray) := (softD l).map fun d => d.2
theorem softL_len (l : List Gun) : (softL l).length ≤ l.length + 1 := by
  unfold softL softD
  rw [List.length_map, List.length_cons, List.length_map]
  have := cuts_len (V := vsG l) ((vsG l).length - 1) 1
  rw [vsG_len] at this ⊢
  omega
theorem softL_row {l : List Gun} {r : List ByteArray} (h : r ∈ softL l) : r ≠ [] ∧ r.length ≤ l.length + 1 := by
  unfold softL softD at h
  rw [List.map_cons, List.map_map] at h
  rcases List.mem_cons.1 h with rfl | h
  · exact ⟨by simp, by simp⟩
  · obtain ⟨p, hp, rfl⟩ := List.mem_map.1 h
    have hb := cuts_bound _ _ p hp
    rw [vsG_len] at hb
    have hl : (((sorted l).take p.2).drop p.1).length = p.2 - p.1 := by
      rw [List.length_drop, List.length_take, sorted_len]
      omega
    have hl2 : (nmsG (((sorted l).take p.2).drop p.1)).length = p.2 - p.1 := by rw [nmsG, List.length_map, hl]
    refine ⟨fun e => ?_, ?_⟩
    · have e' : nmsG (((sorted l).take p.2).drop p.1) = [] := e
      rw [e'] at hl2
      simp at hl2
      omega
    · show (nmsG (((sorted l).take p.2).drop p.1)).length ≤ _
      omega
theorem soft_nest {l : List Gun} {n : Nat} {H : Heap} (hl : l.length ≤ 4096) : nestS (ndbD kT oT n (softD l) ++ H) (ndvD oT n (softD l)) = some (softL l) := by
  have h1 := softL_len l
  refine nestV_ndD (K := kT) (O := oT) (ls := softD l) ?_ fun d hd => ?_
  · unfold softL at h1
    rw [List.length_map] at h1
    omega
  · have := (softL_row (l := l) (r := d.2) (List.mem_map_of_mem hd)).2
    show d.2.length < _
    omega
theorem lis_nest {n : Nat} {H : Heap} {p : List (List ByteArray)} (h1 : p.length < 2147483648) (h2 : ∀ l ∈ p, l.length < 2147483648) : nestS (lisB n p ++ H) (lisV n p) = some p := by
  unfold lisB lisV
  by_cases h : p = []
  · rw [if_pos h, if_pos h, h]
    rfl
  · rw [if_neg h, if_neg h]
    exact nestV_nd h1 h2
theorem shortS_small {l : List Gun} (h : shortS l = true) : l.length ≤ 9 := by
  unfold shortS at h
  rw [Bool.and_eq_true, Bool.or_eq_true] at h
  rcases h.2 with h | h
  · have := of_decide_eq_true h; omega
  · have := of_decide_eq_true h; omega
theorem ndbD_ok {n : Nat} {ds : List TxD} : (∀ x ∈ ndbD kT oT n ds, n ≤ x.1) ∧ namesOk (n + 1 + ds.length) (ndbD kT oT n ds) = true ∧ plainH (ndbD kT oT n ds) = true := by
  refine ⟨fun x hx => (ndbD_names x hx).1, namesOk_iff.2 fun x hx => (ndbD_names x hx).2, ?_⟩
  have hk : ∀ (ms : List Nat) (ds : List TxD), plainH (kbd kT ms ds) = true := by
    intro ms
    induction ms with
    | nil => intro ds; cases ds <;> rfl
    | cons m ms ih =>
      intro ds
      cases ds with
      | nil => rfl
      | cons d ds =>
        rw [kbd, plainH, ih ds, Bool.and_true]
        obtain ⟨b, l⟩ := d
        cases b <;> rfl
  rw [ndbD, plainH, hk, Bool.and_true]
  unfold oT oLit
  dsimp only
  split <;> rfl
theorem lisB_ok {n : Nat} {p : List (List ByteArray)} : ∀ x ∈ lisB n p, n ≤ x.1 := by
  intro x hx
  unfold lisB at hx
  split at hx
  · cases hx
  · exact (ndB_names x hx).1
theorem sub_app {A H : Heap} {n : Nat} (hA : ∀ x ∈ A, n ≤ x.1) (hH : namesOk n H = true) : Sub H (A ++ H) :=
  Sub.app (fun x hx => namesOk_none hH _ (hA x hx)) (Sub.refl _)
end Go.Proofs.Ytljglocehbccnaa.Gn

namespace Go.Proofs.Ytljglocehbccnaa.Gn
open Go Go.Ab Go.Proofs Go.Soft
section
variable {l : List Gun} (hb : ∀ g ∈ l, 1 ≤ g.v ∧ g.v ≤ 64) (hd : Dis l)
include hb in
theorem sorted_le : (sorted l).Pairwise fun a b => a.v ≤ b.v := by
  rw [← ordN_map hb, List.pairwise_map, ordN_eq hb]
  refine List.Pairwise.imp (fun {a b} h => ?_) (byVol_ord _)
  rw [← volAt_getD, ← volAt_getD]
  unfold Lt at h
  omega
include hb hd in
theorem nms_nodup : (nmsG (sorted l)).Nodup := by
  have h1 := byVol_ord (vol := volAt l) l.length
  rw [← ordN_eq hb] at h1
  rw [← ordN_map hb, nmsG, List.map_map, List.nodup_iff_pairwise_ne, List.pairwise_map]
  refine List.Pairwise.imp_of_mem (fun {a b} ha hbm h e => ?_) h1
  have la := ordN_lt hb ha
  have lb := ordN_lt hb hbm
  simp only [Function.comp_apply, List.getD_eq_getElem?_getD, List.getElem?_eq_getElem la, List.getElem?_eq_getElem lb, Option.getD_some] at e
  have := hd a b la lb e
  subst this
  exact Lt.asymm h h
end
theorem pair_le {Z : List Gun} (h : Z.Pairwise fun a b => a.v ≤ b.v) {j k : Nat} (hj : j < Z.length) (hk : k < Z.length) (hjk : j ≤ k) : Z[j].v ≤ Z[k].v := by
  rcases Nat.lt_or_eq_of_le hjk with h1 | h1
  · exact (List.pairwise_iff_getElem.1 h) j k hj hk h1
  · subst h1; exact Int.le_refl _
theorem nms_len (l : List Gun) : (nmsG l).length = l.length := by rw [nmsG, List.length_map]
theorem nms_get {Z : List Gun} {j : Nat} (h : j < Z.length) : (nmsG Z)[j]'(by rw [nms_len]; exact h) = Z[j].name := by
  unfold nmsG
  rw [List.getElem_map]
theorem nms_dis {Z : List Gun} (h : (nmsG Z).Nodup) : Dis Z := fun i j hi hj e => by
  rw [List.nodup_iff_pairwise_ne, List.pairwise_iff_getElem] at h
  have hi' : i < (nmsG Z).length := by rw [nms_len]; exact hi
  have hj' : j < (nmsG Z).length := by rw [nms_len]; exact hj
  rcases Nat.lt_trichotomy i j with h1 | h1 | h1
  · exact absurd (by rw [nms_get hi, nms_get hj]; exact e) (h i j hi' hj' h1)
  · exact h1
  · exact absurd (by rw [nms_get hi, nms_get hj]; exact e.symm) (h j i hj' hi' h1)
theorem nms_mem {Z : List Gun} {s : ByteArray} : s ∈ nmsG Z ↔ ∃ g ∈ Z, g.name = s := by
  unfold nmsG
  rw [List.mem_map]
theorem nms_take {Z : List Gun} {f : Nat} (h : f < Z.length) : nmsG (Z.take (f + 1)) = nmsG (Z.take f) ++ [Z[f].name] := by
  unfold nmsG
  rw [List.take_succ_eq_append_getElem h, List.map_append]
  rfl
/-- a name among the first ones -/
theorem nms_first {Z : List Gun} (hd : Dis Z) {f m : Nat} (hm : m < Z.length) : Z[m].name ∈ nmsG (Z.take f) ↔ m < f := by
  rw [nms_mem]
  constructor
  · rintro ⟨g, hg, e⟩
    obtain ⟨j, hj, rfl⟩ := List.getElem_of_mem hg
    rw [List.length_take] at hj
    rw [List.getElem_take] at e
    have := hd j m (by omega) hm e
    omega
  · intro h
    refine ⟨Z[m], ?_, rfl⟩
    rw [List.mem_take_iff_getElem]
    exact ⟨m, by omega, rfl⟩
theorem vs_get {l : List Gun} {k : Nat} (h : k < (sorted l).length) : (vsG l)[k]'(by rw [vsG_len, ← sorted_len]; exact h) = (sorted l)[k].v := by
  unfold vsG
  rw [List.getElem_map]
theorem sum_nms {l : List Gun} (hd : Dis l) : ∀ f, f ≤ l.length → sumN l (nmsG ((sorted l).take f)) = sumTo (vsG l) f
  | 0, _ => by simp [nmsG, sumN, sumTo]
  | f + 1, h => by
    have hf : f < (sorted l).length := by rw [sorted_len]; omega
    have hm : (sorted l)[f] ∈ l := sorted_mem.1 (List.getElem_mem hf)
    obtain ⟨i, hi, e⟩ := List.getElem_of_mem hm
    rw [nms_take hf, sumN_snoc, sum_nms hd f (by omega), sumTo_succ (by rw [vsG_len]; omega), vs_get hf, ← e, hd.vol hi]
/-- the least of those that wait -/
theorem least_wait {l : List Gun} (hb : ∀ g ∈ l, 1 ≤ g.v ∧ g.v ≤ 64) (hd : Dis l) {f : Nat} (hf : f < (sorted l).length) : (leastG (waitN l (nmsG ((sorted l).take f)))).v = (sorted l)[f].v := by
  have hs := sorted_le hb
  have hz := nms_dis (nms_nodup hb hd)
  have hin : ∀ g, g ∈ waitN l (nmsG ((sorted l).take f)) ↔ ∃ m, ∃ h : m < (sorted l).length, f ≤ m ∧ (sorted l)[m] = g := fun g => by
    unfold waitN
    rw [List.mem_filter]
    constructor
    · rintro ⟨h1, h2⟩
      obtain ⟨m, hm, rfl⟩ := List.getElem_of_mem (sorted_mem.2 h1)
      refine ⟨m, hm, ?_, rfl⟩
      refine Nat.le_of_not_lt fun hlt => ?_
      have := hasW_iff.2 ((nms_first hz hm).2 hlt)
      rw [this] at h2
      cases h2
    · rintro ⟨m, hm, hfm, rfl⟩
      refine ⟨sorted_mem.1 (List.getElem_mem hm), ?_⟩
      cases e : hasW (sorted l)[m].name (nmsG ((sorted l).take f)) with
      | false => rfl
      | true =>
        have := (nms_first hz hm).1 (hasW_iff.1 e)
        omega
  obtain ⟨W, hW⟩ : ∃ W, waitN l (nmsG ((sorted l).take f)) = W := ⟨_, rfl⟩
  rw [hW] at hin ⊢
  have h1 : (sorted l)[f] ∈ W := (hin _).2 ⟨f, hf, Nat.le_refl _, rfl⟩
  obtain ⟨j, hj, e⟩ := List.getElem_of_mem h1
  have h2 := minG_le (W := W) (W.length - 1) j hj (by omega) (by omega)
  have h3 := minG_mem (W := W) (W.length - 1) (by omega)
  obtain ⟨m, hm, hfm, e2⟩ := (hin _).1 h3
  have h4 := pair_le hs hf hm hfm
  rw [e] at h2
  rw [e2] at h4
  show (minG W (W.length - 1)).v = _
  omega
def Known (l : List Gun) (s : ByteArray) : Prop := ∃ i, ∃ h : i < l.length, l[i].name = s
theorem known_pos {l : List Gun} {s : ByteArray} (h : Known l s) : ¬ atV l s l.length < 0 := by
  intro hn
  obtain ⟨i, hi, e⟩ := h
  unfold atV at hn
  split at hn
  · omega
  · rename_i hf
    rw [List.take_length, List.findIdx?_eq_none_iff] at hf
    have := hf _ (List.getElem_mem hi)
    simp [e] at this
theorem rowP_nodup {l : List Gun} : ∀ {r seen : List ByteArray}, (∀ s ∈ r, Known l s) → (seen ++ r).Nodup → rowP l seen r = 0
  | [], _, _, _ => rfl
  | s :: r, seen, hk, hn => by
    have h1 : s ∉ seen := fun h => by
      rw [List.nodup_append] at hn
      exact hn.2.2 s h s (List.mem_cons_self ..) rfl
    have h2 : nameP l seen s = 0 := by
      unfold nameP
      rw [if_neg (known_pos (hk s (List.mem_cons_self ..))), if_neg fun h => h1 (hasW_iff.1 h)]
    rw [rowP, if_pos h2]
    exact rowP_nodup (fun x hx => hk x (List.mem_cons_of_mem _ hx)) (by rw [List.append_assoc]; exact hn)
theorem stpP_nodup {l : List Gun} : ∀ {ls : List (List ByteArray)} {seen : List ByteArray}, (∀ r ∈ ls, r ≠ []) → (∀ s ∈ ls.flatten, Known l s) → (seen ++ ls.flatten).Nodup → stpP l seen ls = if (seen ++ ls.flatten).length < l.length then 32 else 0
  | [], seen, _, _, _ => by simp [stpP]
  | r :: ls, seen, hne, hk, hn => by
    rw [List.flatten_cons, ← List.append_assoc] at hn
    have h1 : rowP l seen r = 0 := rowP_nodup (fun s hs => hk s (by rw [List.flatten_cons]; exact List.mem_append_left _ hs)) (List.nodup_append.1 hn).1
    rw [stpP, if_neg (hne r (List.mem_cons_self ..)), if_pos h1, stpP_nodup (fun x hx => hne x (List.mem_cons_of_mem _ hx)) (fun s hs => hk s (by rw [List.flatten_cons]; exact List.mem_append_right _ hs)) hn, List.flatten_cons, List.append_assoc]
abbrev rowN (l : List Gun) (f t : Nat) : List ByteArray := nmsG (((sorted l).take t).drop f)
theorem softL_eq (l : List Gun) : softL l = [((sorted l).getD 0 zeroG).name] :: (cuts (vsG l) (l.length - 1) 1).map fun p => rowN l p.1 p.2 := by
  unfold softL softD
  rw [List.map_cons, List.map_map, vsG_len]
  rfl
theorem stopAt_le {V : List Int} {f : Nat} : ∀ (k to : Nat), stopAt V f k to = to ∨ sumTo V (stopAt V f k to) ≤ 2 * sumTo V f
  | 0, to => .inl rfl
  | k + 1, to => by
    rw [stopAt]
    split
    · rename_i h
      rcases stopAt_le (V := V) (f := f) k (to + 1) with e | e
      · rw [e]; exact .inr h.2
      · exact .inr e
    · exact .inl rfl
theorem stopAt_gt {V : List Int} {f : Nat} : ∀ (k to : Nat), V.length - to ≤ k → stopAt V f k to < V.length → 2 * sumTo V f < sumTo V (stopAt V f k to + 1)
  | 0, to, h, h2 => by rw [stopAt] at h2; omega
  | k + 1, to, h, h2 => by
    rw [stopAt] at h2 ⊢
    split
    · rename_i h3
      rw [if_pos h3] at h2
      exact stopAt_gt k (to + 1) (by omega) h2
    · rename_i h3
      rw [if_neg h3] at h2
      have : ¬ sumTo V (to + 1) ≤ 2 * sumTo V f := fun h4 => h3 ⟨h2, h4⟩
      omega
def nxt (l : List Gun) (i f : Nat) : Nat := if i = 0 then 1 else nextS (vsG l) f
/-- the step 'i' begins at the gun 'f' -/
structure At (l : List Gun) (i f : Nat) : Prop where
  le : f ≤ l.length
  pos : (i = 0 ∧ f = 0) ∨ (1 ≤ i ∧ 1 ≤ f ∧ (softL l).drop i = (cuts (vsG l) (l.length - f) f).map fun p => rowN l p.1 p.2)
  seen : seenN (softL l) i = nmsG ((sorted l).take f)
structure Nx (l : List Gun) (i f t : Nat) : Prop where
  lt : f < t
  le : t ≤ l.length
  row : rowAt (softL l) i = rowN l f t
  next : At l (i + 1) t
  more : t - f = 1 ∨ (i ≠ 0 ∧ sumTo (vsG l) t ≤ 2 * sumTo (vsG l) f)
  stop : i ≠ 0 → t < l.length → 2 * sumTo (vsG l) f < sumTo (vsG l) (t + 1)
theorem at_zero (l : List Gun) : At l 0 0 := ⟨Nat.zero_le _, .inl ⟨rfl, rfl⟩, by simp [nmsG]⟩
theorem row_first {l : List Gun} (h : 0 < l.length) : rowN l 0 1 = [((sorted l).getD 0 zeroG).name] := by
  have hz : 0 < (sorted l).length := by rw [sorted_len]; exact h
  have e := nms_take hz
  rw [rowN, List.drop_zero, e, List.getD_eq_getElem?_getD, List.getElem?_eq_getElem hz]
  rfl
theorem row_app {Z : List Gun} {f t : Nat} (h : f ≤ t) : nmsG (Z.take f) ++ nmsG ((Z.take t).drop f) = nmsG (Z.take t) := by
  unfold nmsG
  rw [← List.map_append]
  congr 1
  have e1 : Z.take f = (Z.take t).take f := by rw [List.take_take, Nat.min_eq_left h]
  rw [e1, List.take_append_drop]
theorem at_next {l : List Gun} (hl : 0 < l.length) {i f : Nat} (h : At l i f) (hi : i < (softL l).length) : f < l.length ∧ Nx l i f (nxt l i f) := by
  rcases h.pos with ⟨rfl, rfl⟩ | ⟨h1, h2, h3⟩
  · have hn : nxt l 0 0 = 1 := if_pos rfl
    have hrow : rowAt (softL l) 0 = rowN l 0 1 := by
      rw [row_first hl, softL_eq]
      rfl
    rw [hn]
    refine ⟨hl, Nat.lt_succ_self 0, hl, hrow, ⟨hl, .inr ⟨Nat.le_refl _, Nat.le_refl _, by rw [softL_eq]; rfl⟩, ?_⟩, .inl rfl, fun h => absurd rfl h⟩
    have e := flat_succ hi
    rw [← rowAt_eq hi, hrow] at e
    rw [show seenN (softL l) (0 + 1) = _ from e]
    simp [rowN]
  · have hfl : f < l.length := by
      refine Nat.lt_of_not_le fun hge => ?_
      have hc : cuts (vsG l) (l.length - f) f = [] := by rw [show l.length - f = 0 by omega]; rfl
      rw [hc, List.map_nil] at h3
      have := congrArg List.length h3
      rw [List.length_drop, List.length_nil] at this
      omega
    have hvl := vsG_len l
    have hn : nxt l i f = nextS (vsG l) f := if_neg (by omega)
    have hgo := cuts_go (V := vsG l) (from' := f) (by omega) (l.length - f) (by omega)
    have hgt := nextS_gt (V := vsG l) (from' := f) (by omega)
    rw [hgo, List.map_cons, hvl] at h3
    have hrow : rowAt (softL l) i = rowN l f (nextS (vsG l) f) := by
      have h4 : ((softL l).drop i)[0]? = some (rowN l f (nextS (vsG l) f)) := by rw [h3]; rfl
      rw [List.getElem?_drop, Nat.add_zero] at h4
      rw [rowAt_eq hi]
      rw [List.getElem?_eq_getElem hi] at h4
      exact Option.some.inj h4
    rw [hn]
    refine ⟨hfl, hgt.1, by omega, hrow, ⟨by omega, .inr ⟨by omega, by omega, ?_⟩, ?_⟩, ?_, fun _ htl => ?_⟩
    · have h5 : (softL l).drop (i + 1) = ((softL l).drop i).tail := by rw [← List.drop_one, List.drop_drop]
      rw [h5, h3]
      rfl
    · have e := flat_succ hi
      rw [← rowAt_eq hi, hrow] at e
      rw [show seenN (softL l) (i + 1) = _ from e, show ((softL l).take i).flatten = _ from h.seen]
      exact row_app (by omega)
    · rcases stopAt_le (V := vsG l) (f := f) ((vsG l).length - (f + 1)) (f + 1) with e | e
      · left
        unfold nextS
        rw [e]
        omega
      · exact .inr ⟨by omega, e⟩
    · exact stopAt_gt (V := vsG l) (f := f) ((vsG l).length - (f + 1)) (f + 1) (Nat.le_refl _) (by show nextS (vsG l) f < _; omega)
theorem at_end {l : List Gun} (_ : 0 < l.length) {i f : Nat} (h : At l i f) (hi : ¬ i < (softL l).length) : f = l.length := by
  rcases h.pos with ⟨rfl, rfl⟩ | ⟨h1, h2, h3⟩
  · exact absurd (by rw [softL_eq]; simp) hi
  · have hfl : ¬ f < l.length := fun hfl => by
      have hgo := cuts_go (V := vsG l) (from' := f) (by rw [vsG_len]; exact hfl) (l.length - f) (by rw [vsG_len]; exact Nat.le_refl _)
      rw [hgo, List.drop_eq_nil_of_le (by omega)] at h3
      simp at h3
    have := h.le
    omega
theorem at_reach {l : List Gun} (hl : 0 < l.length) : ∀ i, i ≤ (softL l).length → ∃ f, At l i f
  | 0, _ => ⟨0, at_zero l⟩
  | i + 1, h => by
    obtain ⟨f, hf⟩ := at_reach hl i (by omega)
    exact ⟨_, (at_next hl hf (by omega)).2.next⟩
theorem nx_more {l : List Gun} (hl : 0 < l.length) {i f t : Nat} (h : Nx l i f t) : i + 1 < (softL l).length ↔ t < l.length := by
  constructor
  · exact fun hi => (at_next hl h.next hi).1
  · intro ht
    refine Nat.lt_of_not_le fun hge => ?_
    have := at_end hl h.next (by omega)
    omega
theorem softL_len2 {l : List Gun} (hl : 0 < l.length) : (softL l).length ≤ l.length ∧ 0 < (softL l).length := by
  rw [softL_eq, List.length_cons, List.length_map]
  have := cuts_len (V := vsG l) (l.length - 1) 1
  omega
theorem softL_flat {l : List Gun} (hl : 0 < l.length) : (softL l).flatten = nmsG (sorted l) := by
  obtain ⟨f, hf⟩ := at_reach hl (softL l).length (Nat.le_refl _)
  have hfe := at_end hl hf (Nat.lt_irrefl _)
  have := hf.seen
  rw [hfe] at this
  unfold seenN at this
  rw [List.take_length] at this
  rw [this, List.take_of_length_le (by rw [sorted_len]; exact Nat.le_refl _)]
theorem known_sorted {l : List Gun} {s : ByteArray} (h : s ∈ nmsG (sorted l)) : Known l s := by
  obtain ⟨g, hg, rfl⟩ := nms_mem.1 h
  obtain ⟨i, hi, e⟩ := List.getElem_of_mem (sorted_mem.1 hg)
  exact ⟨i, hi, by rw [e]⟩
theorem rowN_len {l : List Gun} {f t : Nat} (h : f ≤ t) (ht : t ≤ l.length) : (rowN l f t).length = t - f := by
  rw [rowN, nms_len, List.length_drop, List.length_take, sorted_len]
  omega
theorem soft_rule {l : List Gun} (hE : strE l = 0) {i : Nat} (hi : i < (softL l).length) : badP l (softL l) i = false := by
  obtain ⟨hne, _, hd, hb⟩ := strE_zero hE
  have hl : 0 < l.length := List.length_pos_iff.2 hne
  obtain ⟨f, hf⟩ := at_reach hl i (by omega)
  obtain ⟨hfl, hx⟩ := at_next hl hf hi
  obtain ⟨t, ht⟩ : ∃ t, nxt l i f = t := ⟨_, rfl⟩
  rw [ht] at hx
  have hfs : f < (sorted l).length := by rw [sorted_len]; exact hfl
  have happ : seenN (softL l) i ++ rowAt (softL l) i = nmsG ((sorted l).take t) := by
    rw [hx.row, hf.seen]
    exact row_app (Nat.le_of_lt hx.lt)
  unfold badP
  rw [happ, sum_nms hd t hx.le]
  have hs1 : sumN l (seenN (softL l) i) = sumTo (vsG l) f := by rw [hf.seen, sum_nms hd f (Nat.le_of_lt hfl)]
  rw [hs1]
  rcases hx.more with h1 | ⟨h1, h2⟩
  · have htf : t = f + 1 := by have := hx.lt; omega
    have hal : aloneP l (seenN (softL l) i) (rowAt (softL l) i) = true := by
      unfold aloneP
      rw [happ, sum_nms hd t hx.le, hs1, hx.row, rowN_len (Nat.le_of_lt hx.lt) hx.le, hf.seen, least_wait hb hd hfs, htf, sumTo_succ (by rw [vsG_len]; exact hfl), vs_get hfs]
      have e1 : f + 1 - f = 1 := by omega
      have e2 : sumTo (vsG l) f + (sorted l)[f].v - sumTo (vsG l) f = (sorted l)[f].v := by omega
      rw [e1, e2, decide_eq_true rfl, decide_eq_true rfl]
      rfl
    rw [hal]
    rfl
  · unfold badS
    have h3 : ¬ 2 * sumTo (vsG l) f < sumTo (vsG l) t := by omega
    simp [h1, h3]
theorem soft_start {l : List Gun} (hE : strE l = 0) : startE l (softL l) = 0 := by
  obtain ⟨hne, _, hd, hb⟩ := strE_zero hE
  have hl : 0 < l.length := List.length_pos_iff.2 hne
  have hfl := softL_flat hl
  have h1 : stpP l [] (softL l) = 0 := by
    rw [stpP_nodup (fun r hr => (softL_row hr).1) (fun s hs => known_sorted (by rw [← hfl]; exact hs)) (by rw [List.nil_append, hfl]; exact nms_nodup hb hd), List.nil_append, hfl, nms_len, sorted_len, if_neg (Nat.lt_irrefl _)]
  unfold startE
  rw [if_pos hE, if_pos h1]
  exact ruleV_miss fun j hj => soft_rule hE hj
theorem soft_fewer {l : List Gun} (hE : strE l = 0) {k : Nat} (hk : k < (softL l).length) : startE l ((softL l).take k ++ (softL l).drop (k + 1)) = 32 := by
  obtain ⟨hne, _, hd, hb⟩ := strE_zero hE
  have hl : 0 < l.length := List.length_pos_iff.2 hne
  have hfl := softL_flat hl
  have e1 : softL l = (softL l).take k ++ ((softL l)[k] :: (softL l).drop (k + 1)) := by rw [← List.drop_eq_getElem_cons hk, List.take_append_drop]
  have hrow := (softL_row (List.getElem_mem hk)).1
  have hrl : 0 < (softL l)[k].length := List.length_pos_iff.2 hrow
  have e2 : (softL l).flatten = ((softL l).take k).flatten ++ ((softL l)[k] ++ ((softL l).drop (k + 1)).flatten) := by
    conv => lhs; rw [e1]
    rw [List.flatten_append, List.flatten_cons]
  have e3 : ((softL l).take k ++ (softL l).drop (k + 1)).flatten = ((softL l).take k).flatten ++ ((softL l).drop (k + 1)).flatten := List.flatten_append
  have hsub : (((softL l).take k ++ (softL l).drop (k + 1)).flatten).Sublist (softL l).flatten := by
    rw [e2, e3]
    exact List.Sublist.append_left (List.sublist_append_right _ _) _
  have hlen : (((softL l).take k ++ (softL l).drop (k + 1)).flatten).length < l.length := by
    have h1 := congrArg List.length e2
    rw [hfl, nms_len, sorted_len, List.length_append, List.length_append] at h1
    rw [e3, List.length_append]
    omega
  have h1 : stpP l [] ((softL l).take k ++ (softL l).drop (k + 1)) = 32 := by
    rw [stpP_nodup (fun r hr => ?_) (fun s hs => known_sorted (by rw [← hfl]; exact hsub.subset hs)) (by rw [List.nil_append]; exact hsub.nodup (by rw [hfl]; exact nms_nodup hb hd)), List.nil_append, if_pos hlen]
    rcases List.mem_append.1 hr with h | h
    · exact (softL_row (List.mem_of_mem_take h)).1
    · exact (softL_row (List.mem_of_mem_drop h)).1
  unfold startE
  rw [if_pos hE, if_neg (by rw [h1]; decide), h1]
def totG : List Gun → Int
  | [] => 0
  | g :: l => g.v + totG l
theorem tot_fold : ∀ (l : List Gun) (a : Int), (l.map Gun.v).foldl (· + ·) a = a + totG l
  | [], a => by simp [totG]
  | g :: l, a => by
    rw [List.map_cons, List.foldl_cons, tot_fold l, totG]
    omega
theorem tot_app : ∀ a b : List Gun, totG (a ++ b) = totG a + totG b
  | [], b => by simp [totG]
  | g :: a, b => by
    rw [List.cons_append, totG, totG, tot_app a b]
    omega
theorem tot_rev : ∀ a : List Gun, totG a.reverse = totG a
  | [] => rfl
  | g :: a => by
    rw [List.reverse_cons, tot_app, tot_rev a]
    simp [totG]
    omega
theorem tot_ins (x : Gun) : ∀ l : List Gun, totG (insR Gun.v x l) = x.v + totG l
  | [] => rfl
  | y :: l => by
    rw [insR]
    split
    · rw [totG, tot_ins x l, totG]
      omega
    · rfl
theorem tot_fold2 (l : List Gun) : ∀ acc : List Gun, totG (l.foldl (fun acc x => insR Gun.v x acc) acc) = totG acc + totG l := by
  induction l with
  | nil => intro acc; simp [totG]
  | cons x l ih =>
    intro acc
    rw [List.foldl_cons, ih, tot_ins, totG]
    omega
theorem vol_all {l : List Gun} (hb : ∀ g ∈ l, 1 ≤ g.v ∧ g.v ≤ 64) (hl : l.length ≤ 4096) : volW l = sumTo (vsG l) l.length := by
  have h1 := (volW_sum l 0 hb (by omega) (by omega)).1
  have h2 : volW l = totG l := by
    unfold volW
    rw [h1, tot_fold]
    omega
  rw [h2]
  unfold sumTo
  rw [List.take_of_length_le (by rw [vsG_len]; exact Nat.le_refl _)]
  unfold vsG
  rw [tot_fold]
  unfold sorted srtR
  rw [tot_rev, tot_fold2]
  simp [totG]
/-- a gun of the order, found by its name -/
theorem find_sorted {l : List Gun} (hd : Dis l) {m : Nat} (hm : m < (sorted l).length) : ∃ k, ∃ hk : k < l.length, atV l (sorted l)[m].name l.length = (k : Int) ∧ l[k].v = (sorted l)[m].v := by
  obtain ⟨i, hi, e⟩ := List.getElem_of_mem (sorted_mem.1 (List.getElem_mem hm))
  refine ⟨i, hi, ?_, by rw [e]⟩
  refine atV_hit (Nat.le_refl _) hi (by rw [e]) fun j hj e2 => ?_
  have := hd j i (by omega) hi (by rw [e]; exact e2)
  omega
end Go.Proofs.Ytljglocehbccnaa.Gn
