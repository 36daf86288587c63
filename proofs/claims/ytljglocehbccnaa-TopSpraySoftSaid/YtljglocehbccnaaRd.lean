/-
Walks through the guns and their soft start, and the plain law behind them (no condition).
-/
import Derived.Test.YtljglocehbccnaaRc
import Derived.Test.YtljglocehbccnaaAi
namespace Go.Proofs.Ytljglocehbccnaa.Gn
open Go Go.Ab Go.Proofs Go.Soft
/-- guns that a value names in a heap -/
def GunsAt (H : Heap) (v : Value) (l : List Gun) : Prop := ∃ a c, v = .slice (some a) l.length c ∧ flat a = true ∧ cellsA H a.block a.off (l.length * 7) = some (gcs l) ∧ 0 < l.length ∧ l.length < 2147483648
theorem GunsAt.mono {H H' : Heap} (hs : Sub H H') {v : Value} {l : List Gun} (h : GunsAt H v l) : GunsAt H' v l := by
  obtain ⟨a, c, e, h1, h2, h3⟩ := h
  exact ⟨a, c, e, h1, hs.cells h2, h3⟩
theorem GunsAt.tidy {H : Heap} {n : Nat} (hl : ∀ k b, hget H k = some b → k < n) {v : Value} {l : List Gun} (h : GunsAt H v l) : GunsAt (Ab.tidy n H) v l := by
  obtain ⟨a, c, e, h1, h2, h3⟩ := h
  exact ⟨a, c, e, h1, cellsA_tidy hl h2, h3⟩
theorem z95 : Try.prog.info? 79 = some Try.t79 := by kernel_rfl
theorem b95 : Try.t79.bytes ≤ 128 := by decide +kernel
theorem s95 : Try.t79.size = 7 := by kernel_rfl
theorem o95 : zeroOk Try.t79 = true := by kernel_rfl
theorem app_guns {H : Heap} {n m : Nat} {l : List Gun} {v : Value} (h : GunsAt H v l) (h0 : cellsA H n 0 0 = some []) : builtinA Try.prog .append #[64, 64] H m [.slice (some ⟨n, 0, none⟩) 0 0, v] = some (.slice (some ⟨m, 0, some 0⟩) l.length 0, (m, .ext (gcs l) 79 7) :: H, m + 1) := by
  obtain ⟨a, c, rfl, hf, hc, hp, hlt⟩ := h
  have h1 : ¬ l.length = 0 := by omega
  have h2 : ¬ l.length * 7 = 0 := by omega
  have hb := b95
  have hsm : smallA Try.t79.bytes l.length = true := by
    unfold smallA
    rw [Bool.and_eq_true]
    refine ⟨decide_eq_true ?_, decide_eq_true ?_⟩
    · have := Nat.mul_le_mul_left l.length hb
      omega
    · omega
  show appendA Try.prog #[64, 64] H m (.slice (some ⟨n, 0, none⟩) 0 0) (.slice (some a) l.length c) = _
  unfold appendA
  have hu : Try.prog.underlying 64 = some (.slice 79) := Try.underlying64
  simp only [List.getElem?_toArray, List.getElem?_cons_zero, List.getElem?_cons_succ, hu, z95, lenX, lenV, srcX, srcA, s95, if_neg h2, hf, if_true, hc, gcs_lenB, oneL_gcs, Nat.beq_refl, Bool.and_self]
  unfold appendTo
  simp only [Nat.zero_add, Nat.le_zero, h1, if_false, Nat.zero_mul, s95, h0, hsm, o95, Bool.and_self, if_true, List.nil_append]
  rfl
end Go.Proofs.Ytljglocehbccnaa.Gn
namespace Go.Proofs.Ytljglocehbccnaa.Gn
open Go Go.Ab Go.Proofs Go.Soft
set_option maxRecDepth 20000 in
theorem w42 {H : Heap} {n : Nat} {v : Value} {l : List Gun} (hG : GunsAt H v l) : AC Try.prog 42 [v] H n (.slice (some ⟨n, 0, some 0⟩) l.length 0) ([(n, .ext (gcs l) 79 7)] ++ H) (n + 1) := by
  refine AC.given fun hold hsc hgn => AC.tidied (fun x hx => ?_) ?_
  · rw [List.mem_singleton] at hx; subst hx; exact Nat.le_refl _
  replace hG := GunsAt.tidy (fun k b h => (hold k b h).1) hG
  have hr := recT_ok (P := Try.prog) (l := []) (by simp)
  have hS : Sub (tidy n H) ((n, .cells [] 79) :: tidy n H) := Sub.cons (by simp) (Sub.refl _)
  have happ := app_guns (m := n + 1) (hG.mono hS) (n := n) (by rw [cellsA_eq, hget_cons, if_pos rfl]; rfl)
  obtain ⟨a, c, rfl, hf, hc, hp, hlt⟩ := hG
  refine AC.fresh Try.func42 rfl (by kernel_rfl) rfl [0, 2, 4] (by omega) (by show n < n + 1; omega) (fun ρ => rfl) ?_
  refine E.seq ?_
  refine E.reg hr (by simp; rfl) ?_
  refine E.seq ?_
  refine E.seq ?_
  refine E.reg hr (by simp; rfl) ?_
  refine E.cond (t := false) (by simp) (fun h => by cases h) (fun _ => ?_)
  refine E.skip ?_
  refine E.seq ?_
  refine E.reg hr (by simp [-builtinA, happ]; rfl) ?_
  refine E.ret ?_
  refine outK.ret rfl rfl ⟨fun k => if k = n then n + 1 else k, fun k hk => if_neg (by omega), by simp [ren], fun k b hk => ?_, fun j b k c hj hk _ => ?_, hS.trans (Sub.cons (by simp) (Sub.refl _))⟩
  · rw [hget_cons] at hk
    split at hk
    · rename_i e; subst e; injection hk with hk; subst hk
      refine ⟨Nat.le_refl _, Nat.lt_succ_self _, by simp, ?_, scL_af _ _ (gcs_afB _), trivial, rfl⟩
      have hren : ∀ (ρ : Nat → Nat) (l : List Gun), renL ρ (gcs l) = gcs l := fun ρ l => by
        rw [renL_eq]
        conv => rhs; rw [← List.map_id (gcs l)]
        refine List.map_congr_left fun v hv => ?_
        unfold gcs at hv
        obtain ⟨g, _, hv⟩ := List.mem_flatMap.1 hv
        simp only [Gun.cells, List.mem_cons, List.not_mem_nil, or_false] at hv
        rcases hv with rfl | rfl | rfl | rfl | rfl | rfl | rfl <;> rfl
      simp [renB, hren]
    · cases hk
  · rw [hget_cons] at hj hk
    split at hj
    · split at hk
      · omega
      · cases hk
    · cases hj
theorem w45 {n : Nat} (g : Gun) : AC Try.prog 45 [gAgg g] [] n (sv g.name) [] n := by
  have hr := recT_ok (P := Try.prog) (l := []) (by simp)
  refine AC.pure Try.func45 rfl (by kernel_rfl) rfl [0, 1, 2] rfl ?_
  refine E.seq ?_
  refine E.reg hr (by simp; rfl) ?_
  refine E.seq ?_
  refine E.reg hr (by simp; rfl) ?_
  refine E.ret ?_
  exact pureK.ret rfl rfl (by simp) (by simp)
def g45 (args : List Value) (H : Heap) (n : Nat) : R := match args with
  | [.agg ⟨[.string s, .int .i64 _, .int .i64 _, .int .i64 _, .int .i64 _, .int .i64 _, .int .i64 _]⟩] => some (.string s, H, n)
  | _ => none
theorem ok45 : EntOk Try.prog (45, g45) := by
  intro args H n v H' n' h
  simp only [g45] at h
  split at h
  · rename_i s a x y f l u
    injection h with h; injection h with e1 e2; injection e2 with e2 e3; subst e1 e2 e3
    exact AC.frame0 (w45 ⟨s, a, x, y, f, l, u⟩) (by simp)
  · cases h
end Go.Proofs.Ytljglocehbccnaa.Gn
namespace Go.Proofs.Ytljglocehbccnaa.Gn
open Go Go.Ab Go.Proofs Go.Soft
def svs (l : List Gun) : List Value := l.map fun g => sv g.name
theorem svs_af : ∀ l : List Gun, afL (svs l) = true
  | [] => rfl
  | g :: l => by
    have := svs_af l
    unfold svs at this ⊢
    simp [af, this]
theorem svs_snoc (l : List Gun) (g : Gun) : svs (l ++ [g]) = svs l ++ [sv g.name] := by simp [svs]
theorem svs_len (l : List Gun) : (svs l).length = l.length := by simp [svs]
theorem app102 {H : Heap} {o k m : Nat} {cs : List Value} {x : ByteArray} (hk : cellsA H k 0 1 = some [sv x]) (ho : cs ≠ [] → hget H o = some (.ext cs 9 1)) (hl : cs.length < 2147483648) :
    builtinA Try.prog .append #[70, 70] H m [outC o cs, .slice (some ⟨k, 0, none⟩) 1 1] = some (outC m (cs ++ [sv x]), (m, .ext (cs ++ [sv x]) 9 1) :: (if cs = [] then H else hdel H o), m + 1) := by
  have hne : cs ++ [sv x] ≠ [] := by simp
  have hsm : (cs.length + 1) * 16 ≤ 1099511627776 ∧ cs.length + 1 ≤ 1099511627776 := by omega
  rw [outC_ne hne]
  by_cases h : cs = []
  · subst h
    simp [-cellsA, hk]
  · rw [outC_ne h, if_neg h]
    simp [-cellsA, hk, ho h, hsm]
set_option maxRecDepth 20000 in
theorem w47 {H : Heap} {n : Nat} {v : Value} {l : List Gun} (hG : GunsAt H v l) : AC Try.prog 47 [v, .func (.func 45) #[] #[]] H n (outC n (svs l)) (outCB n 9 (svs l) ++ H) (n + 1) := by
  have hne : svs l ≠ [] := fun e => by
    obtain ⟨_, _, _, _, _, hp, _⟩ := hG
    have := svs_len l
    rw [e] at this
    simp at this
    omega
  refine AC.given fun hold hsc hgn => AC.tidied (fun x hx => ?_) ?_
  · rw [outCB_ne hne, List.mem_singleton] at hx; subst hx; exact Nat.le_refl _
  replace hG := GunsAt.tidy (fun k b h => (hold k b h).1) hG
  replace hold := tidy_old hold
  have hr := recT_ok (P := Try.prog) (l := [(45, g45)]) (by simp [ok45])
  obtain ⟨a, c, rfl, hf, hc, hp, hlt⟩ := hG
  have hsc : sc (· < n) (.slice (some a) l.length c) := hsc.1
  have hS : Sub (tidy n H) (tidy n H) := Sub.refl _
  refine AC.outList Try.func47 rfl (by kernel_rfl) rfl [0, 1, 4, 5, 7, 8, 9, 10, 11] hne ?_
  refine E.seq ?_
  refine E.reg hr (by simp; rfl) ?_
  refine E.seq ?_
  refine E.reg hr (by simp; rfl) ?_
  refine E.seq ?_
  refine E.seq ?_
  refine E.reg hr (by simp; rfl) ?_
  refine E.block ?_
  refine E.loop ?_
  refine EL.ind (fun i : Nat => { fr := [(1, .func (.func 45) #[] #[]), (5, outC n (svs (l.take i))), (8, .slice (some a) l.length c), (9, iv l.length), (10, iv i)], sz := 22, H := outCB n 9 (svs (l.take i)) ++ tidy n H, n := n + 1, marks := [], vs := [0, 1, 4, 5, 7, 8, 9, 10, 11] }) (fun i => l.length - i) (fun i => i ≤ l.length) 0 (Leads.outC0 hold hS rfl rfl rfl ⟨rfl, rfl⟩ (by simp [-sc, hsc, svs]; simp [sc, scL])) (Nat.zero_le _) (fun _ => rfl) ?_
  intro i hi
  have hw : IntKind.i64.wrap ((i : Int) + 1) = (i : Int) + 1 := W_in (by omega) (by omega)
  refine E.seq ?_
  refine E.reg hr (by simp; rfl) ?_
  refine E.seq ?_
  by_cases hil : i < l.length
  · obtain ⟨cs, hcs⟩ : ∃ cs, svs (l.take i) = cs := ⟨_, rfl⟩
    have haf : afL cs = true := by rw [← hcs]; exact svs_af _
    have hcl : cs.length = i := by rw [← hcs, svs_len, List.length_take]; omega
    have hts : svs (l.take (i + 1)) = cs ++ [sv l[i].name] := by rw [List.take_succ_eq_append_getElem hil, svs_snoc, hcs]
    rw [hcs]
    obtain ⟨HX, hHX⟩ : ∃ HX, outCB n 9 cs ++ tidy n H = HX := ⟨_, rfl⟩
    rw [hHX]
    have hSX : Sub (tidy n H) HX := by rw [← hHX]; exact sub_outC (by simp)
    have hc1 := cells_part (sz := 7) (i := i) hc hil
    rw [gcs_atB hil] at hc1
    have hld := load95 (s := none) (hSX.cells hc1)
    have hoX : cs ≠ [] → hget HX n = some (.ext cs 9 1) := fun h => by rw [← hHX, outCB_ne h, List.singleton_append, hget_cons, if_pos rfl]
    obtain ⟨g, hg⟩ : ∃ g, l[i] = g := ⟨_, rfl⟩
    rw [hg] at hld hts
    obtain ⟨Hb, hHb⟩ : ∃ Hb, ((n + 1 + 1, Blk.cells [sv g.name] 9) :: (n + 1, .cells [.string g.name, iv g.v, iv g.x, iv g.y, iv g.d, iv g.lo, iv g.hi] 79) :: HX) = Hb := ⟨_, rfl⟩
    have happ := app102 (H := Hb) (o := n) (k := n + 1 + 1) (m := n + 1 + 1 + 1) (cs := cs) (x := g.name) (by rw [cellsA_eq, ← hHb, hget_cons, if_pos rfl]; rfl) (fun h => by rw [← hHb, hget_cons, if_neg (by omega), hget_cons, if_neg (by omega)]; exact hoX h) (by omega)
    have hg145 : ∀ H n, g45 [gAgg g] H n = some (.string g.name, H, n) := fun _ _ => rfl
    obtain ⟨Hd, hHd⟩ : ∃ Hd, (if cs = [] then Hb else hdel Hb n) = Hd := ⟨_, rfl⟩
    rw [hHd] at happ
    have hSd : Sub (tidy n H) Hd := fun k b hk => by
      have h1 := tidy_lt k b hk
      have h2 : hget Hb k = some b := by rw [← hHb, hget_cons, if_neg (by omega), hget_cons, if_neg (by omega)]; exact hSX k b hk
      rw [← hHd]
      split
      · exact h2
      · rw [hget_hdel, if_neg (by omega)]; exact h2
    refine E.cond (t := true) (by simp [hil]) (fun _ => ?_) (fun h => by cases h)
    refine E.skip ?_
    refine E.seq ?_
    refine E.block ?_
    refine E.seq ?_
    refine E.reg hr (by simp [-loadA, -flat, hil, hf, hld]; rfl) ?_
    refine E.reg hr (by simp [-builtinA, run_vcall_tmp, vcallF, target, hg145, hHb, happ]; rfl) ?_
    refine E.reg hr (by simp [hw]; rfl) ?_
    refine ⟨i + 1, Leads.outC1 (m := n + 1 + 1 + 1) (l := svs (l.take (i + 1))) (t := 9) (svs_af _) hold ?_ (by rw [hts]; simp) rfl (by omega) ?_ rfl rfl ⟨rfl, rfl⟩ (by simp [-sc, hsc, hts]; simp [sc, scL]), by omega, by dsimp only; omega⟩
    · intro k b hk
      have := tidy_lt k b hk
      dsimp only
      rw [hget_cons, if_neg (by omega)]
      exact hSd k b hk
    · dsimp only
      rw [hget_cons, if_pos rfl, hts]
  · refine E.cond (t := false) (by simp [hil]) (fun h => by cases h) (fun _ => ?_)
    have hti : l.take i = l := List.take_of_length_le (by omega)
    rw [hti]
    refine E.exit ?_
    refine E.seq ?_
    refine E.reg hr (by simp; rfl) ?_
    refine E.ret ?_
    refine outK.ret rfl rfl (outK_outC (m := n) (svs_af _) rfl (Nat.le_refl _) (fun h => ?_) (sub_outC tidy_new))
    dsimp only
    rw [outCB_ne h, List.singleton_append, hget_cons, if_pos rfl]
end Go.Proofs.Ytljglocehbccnaa.Gn
namespace Go.Proofs.Ytljglocehbccnaa.Gn
open Go Go.Ab Go.Proofs Go.Soft
theorem GunsAt.one {H : Heap} {v : Value} {l k : List Gun} (h : GunsAt H v l) (h' : GunsAt H v k) : l = k := by
  obtain ⟨a, c, rfl, _, h1, _⟩ := h
  obtain ⟨a', c', e, _, h1', _⟩ := h'
  injection e with e1 e2 e3
  injection e1 with e1
  subst e1
  rw [← e2, h1] at h1'
  injection h1' with h1'
  exact gcs_injB h1'
open Classical in
noncomputable def gunsOfB (H : Heap) (v : Value) : Option (List Gun) := if h : ∃ l, GunsAt H v l then some (Classical.choose h) else none
theorem gunsOf_atB {H : Heap} {v : Value} {l : List Gun} (h : GunsAt H v l) : gunsOfB H v = some l := by
  have hc : ∃ l, GunsAt H v l := ⟨l, h⟩
  unfold gunsOfB
  rw [dif_pos hc, (Classical.choose_spec hc).one h]
theorem gunsOf_specB {H : Heap} {v : Value} {l : List Gun} (h : gunsOfB H v = some l) : GunsAt H v l := by
  unfold gunsOfB at h
  split at h
  · rename_i hc
    injection h with h
    rw [← h]
    exact Classical.choose_spec hc
  · cases h
noncomputable def g42 (args : List Value) (H : Heap) (n : Nat) : R := match args with
  | [v] => (gunsOfB H v).map fun l => (.slice (some ⟨n, 0, some 0⟩) l.length 0, (n, .ext (gcs l) 79 7) :: H, n + 1)
  | _ => none
theorem ok42 : EntOk Try.prog (42, g42) := by
  intro args H n v H' n' h
  simp only [g42] at h
  split at h
  · rw [Option.map_eq_some_iff] at h
    obtain ⟨l, h1, h⟩ := h
    injection h with e1 e2; injection e2 with e2 e3; subst e1 e2 e3
    exact w42 (gunsOf_specB h1)
  · cases h
noncomputable def g47 (args : List Value) (H : Heap) (n : Nat) : R := match args with
  | [v, .func (.func 45) ⟨[]⟩ ⟨[]⟩] => (gunsOfB H v).map fun l => (outC n (svs l), outCB n 9 (svs l) ++ H, n + 1)
  | _ => none
theorem ok47 : EntOk Try.prog (47, g47) := by
  intro args H n v H' n' h
  simp only [g47] at h
  split at h
  · rw [Option.map_eq_some_iff] at h
    obtain ⟨l, h1, h⟩ := h
    injection h with e1 e2; injection e2 with e2 e3; subst e1 e2 e3
    exact w47 (gunsOf_specB h1)
  · cases h
/-- the guns of a row, some of them -/
theorem guns_part {H : Heap} {m : Nat} {l : List Gun} (h : hget H m = some (.ext (gcs l) 79 7)) {i j c : Nat} (hij : i < j) (hj : j ≤ l.length) (hl : l.length < 2147483648) : GunsAt H (.slice (some ⟨m, i * 7, some 0⟩) (j - i) c) ((l.take j).drop i) := by
  have hlen : ((l.take j).drop i).length = j - i := by rw [List.length_drop, List.length_take]; omega
  refine ⟨⟨m, i * 7, some 0⟩, c, by rw [hlen], rfl, ?_, by omega, by omega⟩
  rw [cellsA_eq, h, hlen]
  have hg := gcs_lenB l
  have h1 : i * 7 + (j - i) * 7 ≤ l.length * 7 := by omega
  have h2 : ((gcs l).drop (i * 7)).take ((j - i) * 7) = gcs ((l.take j).drop i) := by
    have e : l = l.take i ++ ((l.take j).drop i ++ l.drop j) := by
      have e1 : l.take i = (l.take j).take i := by rw [List.take_take, Nat.min_eq_left (by omega)]
      rw [← List.append_assoc, e1, List.take_append_drop, List.take_append_drop]
    have hlen2 : (gcs (l.take i)).length = i * 7 := by rw [gcs_lenB, List.length_take]; congr 1; omega
    conv => lhs; rw [e, gcs_appendB, gcs_appendB]
    rw [List.drop_left' hlen2]
    exact List.take_left' (by rw [gcs_lenB, hlen])
  simp [cellsB, h1, h2]
end Go.Proofs.Ytljglocehbccnaa.Gn
namespace Go.Proofs.Ytljglocehbccnaa.Gn
open Go Go.Ab Go.Proofs Go.Soft
def volAt (l : List Gun) (j : Nat) : Int := match l[j]? with
  | some g => g.v
  | none => 0
theorem app45 {H : Heap} {o k m : Nat} {cs : List Value} {x : Int} (hk : cellsA H k 0 1 = some [iv x]) (ho : cs ≠ [] → hget H o = some (.ext cs 3 1)) (hl : cs.length < 2147483648) :
    builtinA Try.prog .append #[35, 35] H m [outC o cs, .slice (some ⟨k, 0, none⟩) 1 1] = some (outC m (cs ++ [iv x]), (m, .ext (cs ++ [iv x]) 3 1) :: (if cs = [] then H else hdel H o), m + 1) := by
  have hne : cs ++ [iv x] ≠ [] := by simp
  have hsm : (cs.length + 1) * 8 ≤ 1099511627776 ∧ cs.length + 1 ≤ 1099511627776 := by omega
  rw [outC_ne hne]
  by_cases h : cs = []
  · subst h
    simp [-cellsA, hk]
  · rw [outC_ne h, if_neg h]
    simp [-cellsA, hk, ho h, hsm]
/-- a list on its way, beside a box -/
structure OI (n : Nat) (H : Heap) (v : Value) (cs : List Value) (Hx : Heap) (N o : Nat) : Prop where
  box : hget Hx n = some (.cells [v] 58)
  out : cs ≠ [] → hget Hx o = some (.ext cs 3 1) ∧ n < o ∧ o < N
  sub : Sub (tidy n H) Hx
  nm : namesOk N Hx = true
  big : n < N
  low : n ≤ o
theorem OI.more {n N o : Nat} {H Hx : Heap} {v : Value} {cs : List Value} (h : OI n H v cs Hx N o) (hl : cs.length < 2147483648) (x : Int) :
    ∃ Hz, builtinA Try.prog .append #[35, 35] ((N, .cells [iv x] 3) :: Hx) (N + 1) [outC o cs, .slice (some ⟨N, 0, none⟩) 1 1] = some (outC (N + 1) (cs ++ [iv x]), Hz, N + 1 + 1) ∧ OI n H v (cs ++ [iv x]) Hz (N + 1 + 1) (N + 1) := by
  have hb := h.big
  have ho : cs ≠ [] → hget ((N, Blk.cells [iv x] 3) :: Hx) o = some (.ext cs 3 1) := fun hne => by
    obtain ⟨h1, h2, h3⟩ := h.out hne
    rw [hget_cons, if_neg (by omega), h1]
  have happ := app45 (m := N + 1) (x := x) (k := N) (by rw [cellsA_eq, hget_cons, if_pos rfl]; rfl) ho hl
  obtain ⟨Hd, hHd⟩ : ∃ Hd, (if cs = [] then (N, Blk.cells [iv x] 3) :: Hx else hdel ((N, .cells [iv x] 3) :: Hx) o) = Hd := ⟨_, rfl⟩
  rw [hHd] at happ
  have hg : ∀ k, k ≤ n → hget Hd k = hget Hx k := fun k hk => by
    rw [← hHd]
    split
    · rw [hget_cons, if_neg (by omega)]
    · rename_i hne
      have := (h.out hne).2.1
      rw [hget_hdel, if_neg (by omega), hget_cons, if_neg (by omega)]
  have hn1 : namesOk (N + 1) ((N, Blk.cells [iv x] 3) :: Hx) = true := namesOk_put (by omega) (namesOk_mono (by omega) _ h.nm)
  have hn2 : namesOk (N + 1) Hd = true := by
    rw [← hHd]
    split
    · exact hn1
    · exact namesOk_hdel hn1
  refine ⟨_, happ, ⟨?_, fun _ => ⟨by rw [hget_cons, if_pos rfl], by omega, by omega⟩, fun k b hk => ?_, namesOk_put (by omega) (namesOk_mono (by omega) _ hn2), by omega, by omega⟩⟩
  · rw [hget_cons, if_neg (by omega), hg n (Nat.le_refl _)]; exact h.box
  · have := tidy_lt k b hk
    rw [hget_cons, if_neg (by omega), hg k (by omega)]
    exact h.sub k b hk
end Go.Proofs.Ytljglocehbccnaa.Gn
namespace Go.Proofs.Ytljglocehbccnaa.Gn
open Go Go.Ab Go.Proofs Go.Soft
def enS : En ByteArray decS where
  to := fun s => sv s
  ren := fun _ _ => rfl
  sc := fun _ _ => trivial
  one := fun _ _ => rfl
abbrev kS : RowK ByteArray decS := kCp enS 9
theorem strV_src {H : Heap} {v : Value} {l : List ByteArray} (h : Ab.strV H v = some l) (hne : l.length ≠ 0) : ∃ a c, v = .slice (some a) l.length c ∧ flat a = true ∧ cellsA H a.block a.off l.length = some (l.map enS.to) := by
  obtain ⟨oa, c, e, hlt, _, hrow⟩ := strV_form h
  obtain ⟨a, rfl, hf, _⟩ := hrow 0 (by omega)
  refine ⟨a, c, e, hf, ?_⟩
  subst e
  unfold Ab.strV listV at h
  simp only [if_pos hlt, if_neg hne, hf, if_true, Nat.mul_one] at h
  obtain ⟨cs, hc, hm⟩ := Option.bind_eq_some_iff.1 h
  rw [hc]
  have hl := mapO_get hm
  have hcl : cs.length = l.length := by
    have := hl.1
    rw [chunks_len] at this
    have := cellsA_cell hc (i := 0) (by omega)
    exact this.2
  congr 1
  apply List.ext_getElem?
  intro i
  by_cases hi : i < l.length
  · obtain ⟨a', e', _, hci⟩ := hrow i hi
    injection e' with e'
    subst e'
    have := (cellsA_cell hc (i := i) hi).1
    rw [← this, hci, List.getElem?_map, List.getElem?_eq_getElem hi]
    rfl
  · rw [List.getElem?_eq_none (by omega), List.getElem?_eq_none (by simp; omega)]
end Go.Proofs.Ytljglocehbccnaa.Gn

namespace Go.Proofs.Ytljglocehbccnaa.Gn
open Go Go.Ab Go.Proofs Go.Soft
end Go.Proofs.Ytljglocehbccnaa.Gn
namespace Go.Proofs.Ytljglocehbccnaa.Gn
open Go Go.Ab Go.Proofs Go.Soft
end Go.Proofs.Ytljglocehbccnaa.Gn
namespace Go.Proofs.Ytljglocehbccnaa.Gn
open Go Go.Ab Go.Proofs Go.Soft
end Go.Proofs.Ytljglocehbccnaa.Gn
namespace Go.Proofs.Ytljglocehbccnaa.Gn
open Go Go.Ab Go.Proofs Go.Soft
theorem app_nil122 {H : Heap} {k m : Nat} {x : Value} (hk : cellsA H k 0 1 = some [x]) (h1 : oneL [x] = true) : builtinA Try.prog .append #[61, 61] H m [.slice none 0 0, .slice (some ⟨k, 0, none⟩) 1 1] = some (.slice (some ⟨m, 0, some 0⟩) 1 0, (m, .ext [x] 70 1) :: H, m + 1) := by
  simp [-cellsA, inf70, hk, h1]
theorem app_ext122 {H : Heap} {o k m : Nat} {cs : List Value} {x : Value} (hk : cellsA H k 0 1 = some [x]) (h1 : oneL [x] = true) (ho : hget H o = some (.ext cs 70 1)) (hl : cs.length < 2147483648) :
    builtinA Try.prog .append #[61, 61] H m [.slice (some ⟨o, 0, some 0⟩) cs.length 0, .slice (some ⟨k, 0, none⟩) 1 1] = some (.slice (some ⟨m, 0, some 0⟩) (cs.length + 1) 0, (m, .ext (cs ++ [x]) 70 1) :: hdel H o, m + 1) := by
  have hsm : (cs.length + 1) * 24 ≤ 1099511627776 ∧ cs.length + 1 ≤ 1099511627776 := by omega
  simp [-cellsA, inf70, hk, h1, ho, hsm]
def nm3 (n i : Nat) : List Nat := (List.range i).map fun j => n + 3 * j
theorem nm3_len (n i : Nat) : (nm3 n i).length = i := by simp [nm3]
theorem nm3_succ (n i : Nat) : nm3 n (i + 1) = nm3 n i ++ [n + 3 * i] := by simp [nm3, List.range_succ]
structure LI (n : Nat) (H : Heap) (p : List (List ByteArray)) (i : Nat) (Hx : Heap) : Prop where
  row : ∀ j l, j < i → p[j]? = some l → hget Hx (n + 3 * j) = some (kS.blk l)
  out : 0 < i → hget Hx (n + 3 * i - 1) = some (.ext (kvs kS (nm3 n i) (p.take i)) 70 1)
  sub : Sub (tidy n H) Hx
  new : ∀ j, n + 3 * i ≤ j → hget Hx j = none
def lsV (n i : Nat) : Value := if i = 0 then .slice none 0 0 else .slice (some ⟨n + 3 * i - 1, 0, some 0⟩) i 0
theorem kvs_take_len {K : RowK ByteArray decS} {n i : Nat} {p : List (List ByteArray)} (hi : i ≤ p.length) : (kvs K (nm3 n i) (p.take i)).length = i := by
  rw [kvs_len _ _ _ (by rw [nm3_len, List.length_take]; omega), List.length_take]; omega
theorem LI.more {n i : Nat} {H Hx : Heap} {p : List (List ByteArray)} {s : Option Nat} (h : LI n H p i Hx) (hi : i < p.length) (hl : p.length < 2147483648) (hs : kS.val (n + 3 * i) p[i] = .slice (some ⟨n + 3 * i, 0, s⟩) p[i].length 0) :
    ∃ Hz, builtinA Try.prog .append #[61, 61] ((n + 3 * i + 1, .cells [.slice (some ⟨n + 3 * i, 0, s⟩) p[i].length 0] 70) :: (n + 3 * i, kS.blk p[i]) :: Hx) (n + 3 * i + 1 + 1) [lsV n i, .slice (some ⟨n + 3 * i + 1, 0, none⟩) 1 1] = some (lsV n (i + 1), Hz, n + 3 * i + 1 + 1 + 1) ∧ LI n H p (i + 1) Hz := by
  obtain ⟨q, hq⟩ : ∃ q, n + 3 * i = q := ⟨_, rfl⟩
  rw [hq] at hs ⊢
  have hk : cellsA ((q + 1, .cells [.slice (some ⟨q, 0, s⟩) p[i].length 0] 70) :: (q, kS.blk p[i]) :: Hx) (q + 1) 0 1 = some [.slice (some ⟨q, 0, s⟩) p[i].length 0] := by
    rw [cellsA_eq, hget_cons, if_pos rfl]; rfl
  have hts : p.take (i + 1) = p.take i ++ [p[i]] := List.take_succ_eq_append_getElem hi
  have hkv : kvs kS (nm3 n (i + 1)) (p.take (i + 1)) = kvs kS (nm3 n i) (p.take i) ++ [.slice (some ⟨q, 0, s⟩) p[i].length 0] := by
    rw [hts, nm3_succ, kvs_snoc _ _ _ (by rw [nm3_len, List.length_take]; omega), hq, hs]
  have hlv : lsV n (i + 1) = .slice (some ⟨q + 1 + 1, 0, some 0⟩) (i + 1) 0 := by
    unfold lsV
    rw [if_neg (by omega), show n + 3 * (i + 1) - 1 = q + 1 + 1 by omega]
  rw [hlv]
  by_cases h0 : i = 0
  · subst h0
    refine ⟨_, app_nil122 hk rfl, ⟨fun j l hj hl => ?_, fun _ => ?_, ?_, fun j hj => ?_⟩⟩
    · obtain rfl : j = 0 := by omega
      rw [List.getElem?_eq_getElem hi] at hl
      injection hl with hl
      rw [hget_cons, if_neg (by omega), hget_cons, if_neg (by omega), hget_cons, if_pos (by omega), hl]
    · rw [hget_cons, if_pos (by omega), hkv]; rfl
    · refine Sub.trans h.sub (Sub.cons ?_ (Sub.cons ?_ (Sub.cons ?_ (Sub.refl _))))
      · exact h.new _ (by omega)
      · exact h.new _ (by omega)
      · exact h.new _ (by omega)
    · rw [hget_cons, if_neg (by omega), hget_cons, if_neg (by omega), hget_cons, if_neg (by omega)]
      exact h.new j (by omega)
  · have hout := h.out (by omega)
    obtain ⟨o, ho⟩ : ∃ o, n + 3 * i - 1 = o := ⟨_, rfl⟩
    rw [ho] at hout
    have hlv0 : lsV n i = .slice (some ⟨o, 0, some 0⟩) (kvs kS (nm3 n i) (p.take i)).length 0 := by
      unfold lsV
      rw [if_neg h0, ho, kvs_take_len (by omega)]
    have hox : hget ((q + 1, Blk.cells [.slice (some ⟨q, 0, s⟩) p[i].length 0] 70) :: (q, kS.blk p[i]) :: Hx) o = some (.ext (kvs kS (nm3 n i) (p.take i)) 70 1) := by
      rw [hget_cons, if_neg (by omega), hget_cons, if_neg (by omega), hout]
    have happ := app_ext122 (m := q + 1 + 1) hk rfl hox (by rw [kvs_take_len (by omega)]; omega)
    rw [← hlv0, kvs_take_len (by omega)] at happ
    refine ⟨_, happ, ⟨fun j l hj hl => ?_, fun _ => ?_, ?_, fun j hj => ?_⟩⟩
    · by_cases e : j = i
      · subst e
        rw [List.getElem?_eq_getElem hi] at hl
        injection hl with hl
        rw [hget_cons, if_neg (by omega), hget_hdel, if_neg (by omega), hget_cons, if_neg (by omega), hget_cons, if_pos (by omega), hl]
      · rw [hget_cons, if_neg (by omega), hget_hdel, if_neg (by omega), hget_cons, if_neg (by omega), hget_cons, if_neg (by omega)]
        exact h.row j l (by omega) hl
    · rw [hget_cons, if_pos (by omega), hkv]
    · intro k b hk
      have := tidy_lt k b hk
      rw [hget_cons, if_neg (by omega), hget_hdel, if_neg (by omega), hget_cons, if_neg (by omega), hget_cons, if_neg (by omega)]
      exact h.sub k b hk
    · rw [hget_cons, if_neg (by omega), hget_hdel, if_neg (by omega), hget_cons, if_neg (by omega), hget_cons, if_neg (by omega)]
      exact h.new j (by omega)
def lisV (n : Nat) (p : List (List ByteArray)) : Value := if p = [] then .slice none 0 0 else ndV (oEx 70) n p
def lisB (n : Nat) (p : List (List ByteArray)) : Heap := if p = [] then [] else ndB kS (oEx 70) n p
end Go.Proofs.Ytljglocehbccnaa.Gn
namespace Go.Proofs.Ytljglocehbccnaa.Gn
open Go Go.Ab Go.Proofs Go.Soft
theorem strsAt_of {H : Heap} {a : Addr} {c : Nat} {l : List ByteArray} (h : Ab.strV H (.slice (some a) l.length c) = some l) (hne : l.length ≠ 0) : strsAt H a l.length = some l := by
  have hlt : l.length < 2147483648 := by
    obtain ⟨_, _, _, hlt, _⟩ := strV_form h
    exact hlt
  obtain ⟨a', c', e, hf, hc⟩ := strV_src h hne
  injection e with e1 e2 e3
  injection e1 with e1
  subst e1
  unfold strsAt
  have hb : Nat.blt l.length 2147483648 = true := (blt_iff _ _).2 hlt
  rw [hf, hb]
  simp only [Bool.and_self, if_true]
  rw [hc]
  exact strsOf_sv l
theorem w87n {n : Nat} (s : ByteArray) : AC Try.prog 87 [.slice none 0 0, sv s] [] n (iv (-1)) [] n := by
  have hr := recT_ok (P := Try.prog) (l := []) (by simp)
  refine AC.pure Try.func87 rfl (by kernel_rfl) rfl [0, 1, 7, 8] rfl ?_
  refine E.seq ?_
  refine E.reg hr (by simp; rfl) ?_
  refine E.seq ?_
  refine E.seq ?_
  refine E.reg hr (by simp; rfl) ?_
  refine E.block ?_
  refine E.loop ?_
  refine EL.ind (fun _ : Nat => { fr := [(7, iv 0), (8, iv 0)], sz := 19, H := [], n := n, marks := [], vs := [0, 1, 7, 8] }) (fun i => 0 - i) (fun _ => True) 0 (.keep rfl rfl rfl (by simp) (Sub.refl _)) trivial (fun _ => rfl) ?_
  rintro i -
  refine E.seq ?_
  refine E.reg hr (by simp; rfl) ?_
  refine E.seq ?_
  refine E.cond (t := false) (by simp) (fun h => by cases h) (fun _ => ?_)
  refine E.exit ?_
  refine E.seq ?_
  refine E.reg hr (by simp; rfl) ?_
  refine E.ret ?_
  exact pureK.ret rfl rfl (by simp) (Sub.refl _)
def g87n (args : List Value) (H : Heap) (n : Nat) : R := match args with
  | [.slice none 0 0, .string _] => some (iv (-1), H, n)
  | _ => none
theorem ok87n : EntOk Try.prog (87, g87n) := by
  intro args H n v H' n' h
  simp only [g87n] at h
  split at h
  · injection h with h; injection h with e1 e2; injection e2 with e2 e3; subst e1 e2 e3
    exact AC.frame0 (w87n _) (by simp)
  · cases h
theorem w71n {n : Nat} (s : ByteArray) : AC Try.prog 71 [.slice none 0 0, sv s] [] n (.bool false) [] n := by
  have hr := recT_ok (P := Try.prog) (l := [(87, g87n)]) (by simp [ok87n])
  refine AC.pure Try.func71 rfl (by kernel_rfl) rfl [4] rfl ?_
  refine E.seq ?_
  refine E.reg hr (by simp; rfl) ?_
  refine E.seq ?_
  refine E.reg hr (by simp [g87n]; rfl) ?_
  refine E.ret ?_
  exact pureK.ret rfl rfl (by simp) (Sub.refl _)
def g71e (args : List Value) (H : Heap) (n : Nat) : R := match args with
  | [.slice none 0 0, .string _] => some (.bool false, H, n)
  | _ => g71 args H n
theorem ok71e : EntOk Try.prog (71, g71e) := by
  intro args H n v H' n' h
  simp only [g71e] at h
  split at h
  · injection h with h; injection h with e1 e2; injection e2 with e2 e3; subst e1 e2 e3
    exact AC.frame0 (w71n _) (by simp)
  · exact ok71 _ _ _ _ _ _ h
structure OW (n bt : Nat) (H : Heap) (v : Value) (l : List ByteArray) (Hx : Heap) (N o : Nat) : Prop where
  box : hget Hx n = some (.cells [v] bt)
  out : l ≠ [] → hget Hx o = some (.ext (svL l) 9 1) ∧ n < o ∧ o < N
  sub : Sub (tidy n H) Hx
  nm : namesOk N Hx = true
  big : n < N
  low : n ≤ o
  pl : plainH Hx = true
section
variable {n bt N o : Nat} {H Hx : Heap} {v : Value} {l : List ByteArray}
theorem OW.skip (h : OW n bt H v l Hx N o) (b : Blk) (hp : plainB2 b = true) : OW n bt H v l ((N, b) :: Hx) (N + 1) o := by
  have hb := h.big
  refine ⟨?_, fun hne => ?_, fun k b' hk => ?_, namesOk_put (by omega) (namesOk_mono (by omega) _ h.nm), by omega, h.low, by rw [plainH, hp, h.pl]; rfl⟩
  · rw [hget_cons, if_neg (by omega)]; exact h.box
  · obtain ⟨h1, h2, h3⟩ := h.out hne
    rw [hget_cons, if_neg (by omega)]
    exact ⟨h1, h2, by omega⟩
  · have := tidy_lt k b' hk
    rw [hget_cons, if_neg (by omega)]
    exact h.sub k b' hk
theorem OW.str (h : OW n bt H v l Hx N o) (hl : l.length < 2147483648) : Ab.strV Hx (outC o (svL l)) = some l := by
  by_cases hne : l = []
  · subst hne; rfl
  · rw [outC_ne (by simpa [svL_ne] using hne), svL_len]
    exact listV_mk (cs := svL l) rfl (by rw [cellsA_eq, (h.out hne).1]; simp [cellsB]; exact List.take_of_length_le (by simp)) (by simp) hl dec_sv
theorem OW.has (h : OW n bt H v l Hx N o) (hl : l.length < 2147483648) (s : ByteArray) (m : Nat) : g71e [outC o (svL l), sv s] Hx m = some (.bool (hasW s l), Hx, m) ∧ g67 [outC o (svL l), sv s] Hx m = some (.bool (hasW s l), Hx, m) := by
  by_cases hne : l = []
  · subst hne; exact ⟨rfl, rfl⟩
  · have h0 : l.length ≠ 0 := fun e => hne (List.length_eq_zero_iff.1 e)
    have hs := h.str hl
    rw [outC_ne (by simpa [svL_ne] using hne), svL_len] at hs ⊢
    simp [g71e, g71, g67, strsAt_of hs h0]
theorem app102L {k : List ByteArray} {r : Value} {m : Nat} (hr : Ab.strV Hx r = some k) (hk : k ≠ []) (ho : l ≠ [] → hget Hx o = some (.ext (svL l) 9 1)) (hl : l.length + k.length < 2147483648) :
    builtinA Try.prog .append #[70, 70] Hx m [outC o (svL l), r] = some (outC m (svL (l ++ k)), (m, .ext (svL (l ++ k)) 9 1) :: (if l = [] then Hx else hdel Hx o), m + 1) := by
  have hk0 : k.length ≠ 0 := fun e => hk (List.length_eq_zero_iff.1 e)
  obtain ⟨a, c, rfl, hf, hc⟩ := strV_src hr hk0
  have hc : cellsA Hx a.block a.off k.length = some (svL k) := hc
  have hne : svL (l ++ k) ≠ [] := by simp [svL_ne, hk]
  have hsm : (l.length + k.length) * 16 ≤ 1099511627776 ∧ l.length + k.length ≤ 1099511627776 := by omega
  have hsm2 : k.length * 16 ≤ 1099511627776 ∧ k.length ≤ 1099511627776 := by omega
  rw [outC_ne hne]
  by_cases h : l = []
  · subst h
    simp [-cellsA, -flat, svL_nil, hf, hc, hk0, hsm2, svL_one]
  · have h0 : ¬ (l.length + k.length ≤ l.length) := by omega
    rw [outC_ne (by simpa [svL_ne] using h), if_neg h]
    simp [-cellsA, -flat, hf, hc, hk0, h0, hsm, svL_one, ho h, svL_app, List.take_of_length_le]
theorem OW.grow (h : OW n bt H v l Hx N o) {l' : List ByteArray} : OW n bt H v l' ((N, .ext (svL l') 9 1) :: (if l = [] then Hx else hdel Hx o)) (N + 1) N := by
  have hb := h.big
  have hg : ∀ k, k ≤ n → hget (if l = [] then Hx else hdel Hx o) k = hget Hx k := fun k hk => by
    split
    · rfl
    · rename_i hne
      have := (h.out hne).2.1
      rw [hget_hdel, if_neg (by omega)]
  have hn2 : namesOk N (if l = [] then Hx else hdel Hx o) = true := by
    split
    · exact h.nm
    · exact namesOk_hdel h.nm
  have hp2 : plainH (if l = [] then Hx else hdel Hx o) = true := by
    split
    · exact h.pl
    · exact plainH_hdel h.pl
  refine ⟨?_, fun _ => ⟨by rw [hget_cons, if_pos rfl], by omega, by omega⟩, fun k b hk => ?_, namesOk_put (by omega) (namesOk_mono (by omega) _ hn2), by omega, by omega, by simp [plainH, hp2]⟩
  · rw [hget_cons, if_neg (by omega), hg n (Nat.le_refl _)]; exact h.box
  · have := tidy_lt k b hk
    rw [hget_cons, if_neg (by omega), hg k (by omega)]
    exact h.sub k b hk
/-- a word more -/
theorem OW.more (h : OW n bt H v l Hx N o) (hl : l.length < 2147483647) (s : ByteArray) :
    ∃ Hz, builtinA Try.prog .append #[70, 70] ((N, .cells [sv s] 9) :: Hx) (N + 1) [outC o (svL l), .slice (some ⟨N, 0, none⟩) 1 1] = some (outC (N + 1) (svL (l ++ [s])), Hz, N + 1 + 1) ∧ OW n bt H v (l ++ [s]) Hz (N + 1 + 1) (N + 1) := by
  have h1 := h.skip (.cells [sv s] 9) rfl
  refine ⟨_, app102L (k := [s]) (listV_mk (a := ⟨N, 0, none⟩) (l := [s]) (cs := [s].map sv) rfl (by rw [cellsA_eq, hget_cons, if_pos rfl]; rfl) rfl (by simp) dec_sv) (by simp) (fun hne => (h1.out hne).1) (by simp; omega), h1.grow⟩
end
end Go.Proofs.Ytljglocehbccnaa.Gn
namespace Go.Proofs.Ytljglocehbccnaa.Gn
open Go Go.Ab Go.Proofs Go.Soft
def nameP (l : List Gun) (seen : List ByteArray) (s : ByteArray) : Int := if atV l s l.length < 0 then 10 else if hasW s seen = true then 9 else 0
def rowP (l : List Gun) : List ByteArray → List ByteArray → Int
  | _, [] => 0
  | seen, s :: ss => if nameP l seen s = 0 then rowP l (seen ++ [s]) ss else nameP l seen s
def stpP (l : List Gun) : List ByteArray → List (List ByteArray) → Int
  | seen, [] => if seen.length < l.length then 32 else 0
  | seen, r :: rs => if r = [] then 12 else if rowP l seen r = 0 then stpP l (seen ++ r) rs else rowP l seen r
theorem nameP_first {l : List Gun} {seen : List ByteArray} {s : ByteArray} : firstV [whenV (decide (atV l s l.length < 0)) 10, whenV (hasW s seen) 9] = nameP l seen s := by
  unfold nameP
  by_cases h : atV l s l.length < 0
  · simp [h, firstV, whenV]
  · cases hw : hasW s seen <;> simp [h, firstV, whenV]
theorem rowP_drop {l : List Gun} {seen r : List ByteArray} {j : Nat} (hj : j < r.length) : rowP l seen (r.drop j) = if nameP l seen r[j] = 0 then rowP l (seen ++ [r[j]]) (r.drop (j + 1)) else nameP l seen r[j] := by
  rw [List.drop_eq_getElem_cons hj, rowP]
theorem stpP_drop {l : List Gun} {seen : List ByteArray} {ls : List (List ByteArray)} {i : Nat} (hi : i < ls.length) : stpP l seen (ls.drop i) = if ls[i] = [] then 12 else if rowP l seen ls[i] = 0 then stpP l (seen ++ ls[i]) (ls.drop (i + 1)) else rowP l seen ls[i] := by
  rw [List.drop_eq_getElem_cons hi, stpP]
theorem flat_succ {ls : List (List ByteArray)} {i : Nat} (hi : i < ls.length) : (ls.take (i + 1)).flatten = (ls.take i).flatten ++ ls[i] := by
  rw [List.take_succ_eq_append_getElem hi, List.flatten_append]
  simp
theorem flat_le (ls : List (List ByteArray)) (i : Nat) : (ls.take i).flatten.length ≤ ls.flatten.length := by
  conv => rhs; rw [← List.take_append_drop i ls, List.flatten_append, List.length_append]
  omega
theorem flat_row {ls : List (List ByteArray)} {i : Nat} (hi : i < ls.length) {j : Nat} : ((ls.take i).flatten ++ ls[i].take j).length ≤ ls.flatten.length := by
  have h1 := flat_le ls (i + 1)
  rw [flat_succ hi, List.length_append] at h1
  rw [List.length_append, List.length_take]
  omega
theorem GunsAt.at {H : Heap} {a : Addr} {c : Nat} {l : List Gun} (h : GunsAt H (.slice (some a) l.length c) l) : gunsAt H a l.length = some l := by
  obtain ⟨a', c', e, hf, hc, h0, hlt⟩ := h
  injection e with e1 e2 e3
  injection e1 with e1
  subst e1
  have hb : Nat.blt l.length 9223372036854775808 = true := (blt_iff _ _).2 (by omega)
  unfold gunsAt
  rw [hf, hb]
  simp only [Bool.and_self, if_true]
  rw [hc]
  exact gunsOf_gcs l
set_option maxRecDepth 20000 in
theorem w48 {H : Heap} {n : Nat} {v u : Value} {l : List Gun} {ls : List (List ByteArray)} (hG : GunsAt H v l) (hN : nestS H u = some ls) (hsz : ls.flatten.length < 2147483647) : AC Try.prog 48 [.agg ⟨[v]⟩, u] H n (iv (stpP l [] ls)) H n := by
  refine AC.given fun hold _ _ => AC.tidied (B := []) (by simp) ?_
  replace hG := GunsAt.tidy (fun k b h => (hold k b h).1) hG
  replace hN : nestS (tidy n H) u = some ls := listV_tidy (decL_tidy decS_tidy) (fun k b h => (hold k b h).1) hN
  have hr := recT_ok (P := Try.prog) (l := [(50, g50), (66, g66), (71, g71e), (55, g55)]) (by simp only [List.forall_mem_cons]; exact ⟨ok50, ok66, ok71e, ok55, by simp⟩)
  obtain ⟨oa, c, rfl, hlt, _, hrow⟩ := nestS_form hN
  obtain ⟨ga, gcp, rfl, _⟩ := id hG
  refine AC.pure Try.func48 rfl (by kernel_rfl) rfl [2, 5, 11, 12, 13, 20, 21, 22] rfl ?_
  refine E.seq ?_
  refine E.reg hr (by simp; rfl) ?_
  refine E.seq ?_
  refine E.reg hr (by simp; rfl) ?_
  refine E.seq ?_
  refine E.seq ?_
  refine E.reg hr (by simp; rfl) ?_
  refine E.block ?_
  refine E.loop ?_
  refine EL.ind (fun x : Nat × Heap × Nat × Nat => { fr := [(2, .pointer (some ⟨n, 0, none⟩)), (5, outC x.2.2.2 (svL (ls.take x.1).flatten)), (11, .slice oa ls.length c), (12, iv ls.length), (13, iv x.1)], sz := 54, H := x.2.1, n := x.2.2.1, marks := [], vs := [2, 5, 11, 12, 13, 20, 21, 22] }) (fun x => ls.length - x.1) (fun x => x.1 ≤ ls.length ∧ stpP l [] ls = stpP l (ls.take x.1).flatten (ls.drop x.1) ∧ OW n 66 H (.slice (some ga) l.length gcp) (ls.take x.1).flatten x.2.1 x.2.2.1 x.2.2.2) (0, (n, .cells [.slice (some ga) l.length gcp] 66) :: tidy n H, n + 1, n) (.keep rfl rfl rfl (by simp [svL_nil]) (Sub.refl _)) ⟨Nat.zero_le _, by simp, ⟨by rw [hget_cons, if_pos rfl], fun h => absurd rfl h, Sub.cons (by simp) (Sub.refl _), namesOk_put (Nat.lt_succ_self n) (by simp), Nat.lt_succ_self n, Nat.le_refl n, by simp [plainH]⟩⟩ (fun _ => rfl) ?_
  rintro ⟨i, Hx, N, o⟩ ⟨hi, hres, hO⟩
  dsimp only at hi hres hO ⊢
  have hw : IntKind.i64.wrap ((i : Int) + 1) = (i : Int) + 1 := W_in (by omega) (by omega)
  refine E.seq ?_
  refine E.reg hr (by simp; rfl) ?_
  refine E.seq ?_
  by_cases hil : i < ls.length
  · obtain ⟨a, r, rfl, hf, hc, hR⟩ := hrow i hil
    have hsd := stpP_drop (l := l) (seen := (ls.take i).flatten) hil
    have hfs := flat_succ hil
    have hfl : ∀ j, ((ls.take i).flatten ++ ls[i].take j).length ≤ ls.flatten.length := fun j => flat_row hil
    obtain ⟨S, hS⟩ : ∃ S, (ls.take i).flatten = S := ⟨_, rfl⟩
    rw [hS] at hsd hfs hfl hres hO ⊢
    have hc2 := hO.sub.cell hc
    obtain ⟨ob, d, rfl, hlt2, _, hrow2⟩ := strV_form hR
    refine E.cond (t := true) (by simp [hil]) (fun _ => ?_) (fun h => by cases h)
    refine E.skip ?_
    refine E.seq ?_
    refine E.block ?_
    refine E.seq ?_
    refine E.reg hr (by simp [-cellA, -flat, hil, hf, hc2]; rfl) ?_
    refine E.seq ?_
    refine E.seq ?_
    refine E.reg hr (by simp; rfl) ?_
    by_cases hr0 : ls[i] = []
    · rw [if_pos hr0] at hsd
      have hr0' : ls[i].length = 0 := by rw [hr0]; rfl
      refine E.cond (t := true) (by simp [hr0]) (fun _ => ?_) (fun h => by cases h)
      refine E.seq ?_
      refine E.reg hr (by simp; rfl) ?_
      refine E.ret ?_
      exact pureK.ret rfl rfl (by simp [hres, hsd]) hO.sub
    · rw [if_neg hr0] at hsd
      refine E.cond (t := false) (by simp [hr0]) (fun h => by cases h) (fun _ => ?_)
      refine E.skip ?_
      refine E.seq ?_
      refine E.reg hr (by simp; rfl) ?_
      refine E.block ?_
      refine E.loop ?_
      obtain ⟨R, hRR⟩ : ∃ R, ls[i] = R := ⟨_, rfl⟩
      rw [hRR] at hsd hfl hfs
      have hrow2' : ∀ j (hj : j < R.length), ∃ a, ob = some a ∧ flat a = true ∧ cellA (tidy n H) a.block (a.off + j) = some (.string R[j]) := by subst hRR; exact hrow2
      rw [hRR] at hlt2 hr0 ⊢
      refine EL.ind (fun x : Nat × Heap × Nat × Nat => { fr := [(2, .pointer (some ⟨n, 0, none⟩)), (5, outC x.2.2.2 (svL (S ++ R.take x.1))), (11, .slice (some a) ls.length c), (12, iv ls.length), (13, iv i), (20, .slice ob R.length d), (21, iv R.length), (22, iv x.1)], sz := 54, H := x.2.1, n := x.2.2.1, marks := [], vs := [2, 5, 11, 12, 13, 20, 21, 22] }) (fun x => R.length - x.1) (fun x => x.1 ≤ R.length ∧ rowP l S R = rowP l (S ++ R.take x.1) (R.drop x.1) ∧ OW n 66 H (.slice (some ga) l.length gcp) (S ++ R.take x.1) x.2.1 x.2.2.1 x.2.2.2) (0, Hx, N, o) (.keep rfl rfl rfl (by simp) (Sub.refl _)) ⟨Nat.zero_le _, by simp, by simpa using hO⟩ (fun _ => rfl) ?_
      clear hO hc2
      rintro ⟨j, Hx, N, o⟩ ⟨hj, hres2, hO⟩
      dsimp only at hj hres2 hO ⊢
      have hw2 : IntKind.i64.wrap ((j : Int) + 1) = (j : Int) + 1 := W_in (by omega) (by omega)
      refine E.seq ?_
      refine E.reg hr (by simp; rfl) ?_
      refine E.seq ?_
      by_cases hjl : j < R.length
      · obtain ⟨b, rfl, hf2, hc2⟩ := hrow2' j hjl
        have hc3 := hO.sub.cell hc2
        have hbx : cellA Hx n 0 = some (.slice (some ga) l.length gcp) := by rw [cellA_eq, hO.box]; rfl
        have hrd := rowP_drop (l := l) (seen := S ++ R.take j) hjl
        have hsn : S ++ R.take (j + 1) = S ++ R.take j ++ [R[j]] := by rw [List.take_succ_eq_append_getElem hjl, List.append_assoc]
        have hfj := hfl j
        obtain ⟨Q, hQ⟩ : ∃ Q, S ++ R.take j = Q := ⟨_, rfl⟩
        rw [hQ] at hrd hsn hres2 hO hfj ⊢
        have hQl : Q.length < 2147483647 := by omega
        obtain ⟨s, hs⟩ : ∃ s, R[j] = s := ⟨_, rfl⟩
        rw [hs] at hc3 hrd hsn
        have hfind : ∀ m, g50 [.slice (some ga) l.length gcp, sv s] Hx m = some (iv (atV l s l.length), Hx, m) := fun m => by
          simp only [g50, (hG.mono hO.sub).at, Option.map_some]
        have hhas := fun m => (hO.has (by omega) s m).1
        have hfirst : ∀ x y t m, g55 [.slice (some ⟨N, 0, none⟩) 2 2] ((N, .cells [iv x, iv y] t) :: Hx) m = some (iv (firstV [x, y]), (N, .cells [iv x, iv y] t) :: Hx, m) := fun x y t m => by
          simp [g55, intsAt, intsOf]
        have hnf := nameP_first (l := l) (seen := Q) (s := s)
        refine E.cond (t := true) (by simp [hjl]) (fun _ => ?_) (fun h => by cases h)
        refine E.skip ?_
        refine E.seq ?_
        refine E.block ?_
        refine E.seq ?_
        refine E.reg hr (by simp [-cellA, -flat, hjl, hf2, hc3]; rfl) ?_
        refine E.seq ?_
        refine E.seq ?_
        refine E.reg hr (by simp [-cellA, hbx, hfind, hhas, g66, hfirst, hnf]; rfl) ?_
        refine E.seq ?_
        refine E.reg hr (by simp; rfl) ?_
        by_cases hz : nameP l Q s = 0
        · rw [if_pos hz] at hrd
          have hO1 := hO.skip (.cells [iv (whenV (decide (atV l s l.length < 0)) 10), iv (whenV (hasW s Q) 9)] 36) rfl
          obtain ⟨Hz, happ, hOz⟩ := hO1.more (by omega) s
          refine E.cond (t := false) (by simp [hz]) (fun h => by cases h) (fun _ => ?_)
          refine E.skip ?_
          refine E.reg hr (by simp [-builtinA, happ]; rfl) ?_
          refine E.reg hr (by simp [hw2]; rfl) ?_
          exact ⟨(j + 1, Hz, N + 1 + 1 + 1, N + 1 + 1), .keep rfl rfl rfl (by simp [hsn]) (Sub.refl _), ⟨hjl, by dsimp only; rw [hsn, hres2, hrd], by dsimp only; rw [hsn]; exact hOz⟩, by dsimp only; omega⟩
        · rw [if_neg hz] at hrd
          refine E.cond (t := true) (by simp [hz]) (fun _ => ?_) (fun h => by cases h)
          refine E.seq ?_
          refine E.reg hr (by simp; rfl) ?_
          refine E.ret ?_
          have hne : rowP l S R ≠ 0 := by rw [hres2, hrd]; exact hz
          rw [if_neg hne] at hsd
          exact pureK.ret rfl rfl (by simp [hres, hsd, hres2, hrd]) (hO.sub.trans (Sub.cons (namesOk_none hO.nm N (Nat.le_refl _)) (Sub.refl _)))
      · have hjR : j = R.length := by omega
        refine E.cond (t := false) (by simp [hjl]) (fun h => by cases h) (fun _ => ?_)
        have hz : rowP l S R = 0 := by rw [hres2, List.drop_eq_nil_of_le (by omega), rowP]
        rw [if_pos hz] at hsd
        have hRt : R.take j = R := List.take_of_length_le (by omega)
        rw [hRt] at hO ⊢
        refine E.exit ?_
        refine E.reg hr (by simp [hw]; rfl) ?_
        exact ⟨(i + 1, Hx, N, o), .keep rfl rfl rfl (by simp [hfs]) (Sub.refl _), ⟨hil, by dsimp only; rw [hfs, hres, hsd], by dsimp only; rw [hfs]; exact hO⟩, by dsimp only; omega⟩
  · have hbx : cellA Hx n 0 = some (.slice (some ga) l.length gcp) := by rw [cellA_eq, hO.box]; rfl
    have hiL : i = ls.length := by omega
    rw [List.drop_eq_nil_of_le (by omega), stpP] at hres
    have hfo : ∃ oa' c', outC o (svL (ls.take i).flatten) = .slice oa' (ls.take i).flatten.length c' := by
      unfold outC
      split
      · rename_i h; rw [svL_ne.1 h]; exact ⟨_, _, rfl⟩
      · rw [svL_len]; exact ⟨_, _, rfl⟩
    obtain ⟨oa', c', hfo⟩ := hfo
    rw [hfo]
    refine E.cond (t := false) (by simp [hil]) (fun h => by cases h) (fun _ => ?_)
    refine E.exit ?_
    refine E.seq ?_
    obtain ⟨S, hS⟩ : ∃ S, (ls.take i).flatten = S := ⟨_, rfl⟩
    rw [hS] at hres hO ⊢
    refine E.reg hr (by simp [-cellA, hbx, g66]; rfl) ?_
    refine E.ret ?_
    exact pureK.ret rfl rfl (by simp [hres, whenV]) hO.sub
open Classical in
noncomputable def g48 (args : List Value) (H : Heap) (n : Nat) : R := match args with
  | [.agg ⟨[v]⟩, u] => match gunsOfB H v, nestS H u with
    | some l, some ls => if ls.flatten.length < 2147483647 then some (iv (stpP l [] ls), H, n) else none
    | _, _ => none
  | _ => none
theorem ok48 : EntOk Try.prog (48, g48) := by
  intro args H n v H' n' h
  simp only [g48] at h
  split at h
  · split at h
    · rename_i l ls h1 h2
      split at h
      · rename_i h3
        injection h with h; injection h with e1 e2; injection e2 with e2 e3; subst e1 e2 e3
        exact w48 (gunsOf_specB h1) h2 h3
      · cases h
    · cases h
  · cases h
end Go.Proofs.Ytljglocehbccnaa.Gn
