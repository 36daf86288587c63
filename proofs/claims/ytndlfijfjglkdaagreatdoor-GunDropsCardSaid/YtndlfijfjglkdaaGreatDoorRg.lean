/-
Contracts and plain reckonings behind the law GunDrops, part 7 of 8 (each under the conditions in its statement).
-/
import Derived.Test.YtndlfijfjglkdaaGreatDoorRf
import Derived.Test.YtndlfijfjglkdaaGreatDoorRd
namespace Go.Proofs.YtndlfijfjglkdaaGreatDoor
open Go Go.Ab Go.Proofs
def freeW (l : List Gun) (rs : List Rul) (W : Nat) (ws : List ByteArray) : Bool := decide ((refIdx (staysB l ws) l rs W rs.length).length = 0)
def lgW (l : List Gun) (rs : List Rul) (W : Nat) : Nat → Nat → List ByteArray → Option (List ByteArray)
 | 0, _, ws => if freeW l rs W ws = true then some ws else none
 | m + 1, k, ws => firstS (fun i => lgW l rs W m (i.toNat + 1) (ws ++ [gnmAt l i.toNat])) (k : Int) (l.length - k)
def lgT (n : Nat) : Option (List ByteArray) → Value
 | none => .tuple #[.slice none 0 0, .bool false]
 | some ys => .tuple #[outS n ys.length, .bool true]
def lgH (n : Nat) : Option (List ByteArray) → Heap
 | none => []
 | some ys => outSB n 9 1 ys.length (ys.map sv)
theorem lgFresh {ys : List ByteArray} {m n : Nat} {H H1 : Heap} (hm : n ≤ m) (hg : ys.length ≠ 0 → hget H1 m = some (.ext (ys.map sv) 9 1)) (hs : Sub H H1) : Fresh n (n + 1) H (lgT n (some ys)) (lgH n (some ys)) (.tuple #[outS m ys.length, .bool true]) H1 := by
 refine ⟨fun j => if j = n then m else j, fun j hj => if_neg (by omega), ?_, fun k b hk => ?_, fun j b k c hj hk _ => ?_, hs⟩
 · simp [lgT, Ab.ren, Ab.renL, ren_outS (ρ := fun j => if j = n then m else j) (o := n) (m := m) (k := ys.length) (by simp)]
 · simp only [lgH, outSB] at hk
   split at hk
   · cases hk
   · rename_i hne
     rw [hget_cons] at hk
     split at hk
     · rename_i e; subst e; injection hk with hk; subst hk
       exact ⟨Nat.le_refl _, Nat.lt_succ_self _, by simpa using hm, by simp only [if_true, renB, renL_af _ _ (afL_sv _)]; exact hg hne, scL_af _ _ (afL_sv _), trivial, rfl⟩
     · simp at hk
 · simp only [lgH, outSB] at hj hk
   split at hj
   · cases hj
   · rename_i hne
     rw [if_neg hne, hget_cons] at hk
     rw [hget_cons] at hj
     split at hj
     · split at hk
       · omega
       · simp at hk
     · simp at hj
theorem lgFreshN {n : Nat} {H H1 : Heap} (hs : Sub H H1) : Fresh n (n + 1) H (lgT n none) (lgH n none) (.tuple #[.slice none 0 0, .bool false]) H1 :=
 ⟨id, fun _ _ => rfl, rfl, fun k b hk => by simp [lgH] at hk, fun j b k c hj => by simp [lgH] at hj, hs⟩
theorem AC.lgw {P : Program} {f : FuncId} {fn : Func} {c : Code} {args : List Value} {H : Heap} {n : Nat} {o : Option (List ByteArray)} (hf : P.funcs[f]? = some fn) (hb : fn.body = some c) (he : enterable P f = true) (hlen : Nat.ble args.length fn.ntmps = true) (vs : List Nat)
   (h : E P n none c { fr := argsFr args 0, sz := fn.ntmps, H, n, marks := [], vs } (outK P fn (Fresh n (n + 1) H (lgT n o) (lgH n o)))) : AC P f args H n (lgT n o) (lgH n o ++ H) (n + 1) := by
 have flatly : ∀ v : Value, af v = true → lgT n o = v → lgH n o = [] → AC P f args H n (lgT n o) (lgH n o ++ H) (n + 1) := fun v hv e1 e2 => by
   rw [e2, List.nil_append, e1]
   have h2 : AC P f args H n v H n := AC.pure hf hb he hlen vs hv (E.mono h fun e st hh => by
     obtain ⟨h1, h2, us, h3, ρ, _, h4, _, _, h5⟩ := hh
     refine ⟨h1, h2, ⟨us, h3, ?_⟩, h5⟩
     rw [h4, e1, ren_af _ _ hv])
   exact h2.wider (ren_af _ _ hv).symm (sc_af _ _ hv)
 cases o with
 | none => exact flatly _ rfl rfl rfl
 | some ys =>
   cases ys with
   | nil => exact flatly (.tuple #[.slice none 0 0, .bool true]) rfl rfl rfl
   | cons s ys =>
     have e2 : lgT n (some (s :: ys)) = .tuple #[.slice (some ⟨n, 0, some 0⟩) (ys.length + 1) 0, .bool true] := by rw [lgT, List.length_cons, outS_ne (by omega)]
     exact AC.fresh hf hb he hlen vs (by omega) (by rw [e2]; exact ⟨Nat.lt_succ_self _, trivial, trivial⟩) (fun ρ => by rw [e2]; rfl) h
def BegW (H : Heap) (u : Value) (ws : List ByteArray) : Prop := (∃ b, u = .slice (some ⟨b, 0, some 0⟩) ws.length 0 ∧ RowW H b ws ∧ 0 < ws.length ∧ ws.length < 2147483648) ∨ (ws = [] ∧ u = .slice none 0 0)
theorem BegW.mono {H H' : Heap} (hs : Sub H H') {u : Value} {ws : List ByteArray} (h : BegW H u ws) : BegW H' u ws := by
 rcases h with ⟨b, e, h1, h2⟩ | h
 · exact .inl ⟨b, e, h1.mono hs, h2⟩
 · exact .inr h
theorem BegW.tidy {H : Heap} {n : Nat} (hl : ∀ k b, hget H k = some b → k < n) {u : Value} {ws : List ByteArray} (h : BegW H u ws) : BegW (Ab.tidy n H) u ws := by
 rcases h with ⟨b, e, h1, h2⟩ | h
 · refine .inl ⟨b, e, ?_, h2⟩
   rcases h1 with h1 | h1
   · exact .inl (hget_tidy.2 ⟨h1, hl _ _ h1, rfl⟩)
   · exact .inr (hget_tidy.2 ⟨h1, hl _ _ h1, rfl⟩)
 · exact .inr h
theorem BegW.seen {H : Heap} {u : Value} {ws : List ByteArray} (h : BegW H u ws) : SeenW H u ws := by
 rcases h with ⟨b, e, h1, _, h3⟩ | h
 · refine .inl ⟨_, _, e, ?_⟩
   rw [h1.strs (Nat.le_refl _) h3, List.take_length]
 · exact .inr h
theorem BegW.one {H : Heap} {u : Value} {ws vs : List ByteArray} (h : BegW H u ws) (h' : BegW H u vs) : ws = vs := h.seen.one h'.seen
open Classical in
noncomputable def g175 (l : List Gun) (rs : List Rul) (W m : Nat) (args : List Value) (H : Heap) (n : Nat) : R := match args with
 | [v, rv, .int .i64 w, u, .int .i64 k, .int .i64 j] => if h : ∃ ws, BegW H u ws then (if strAt H v = some l ∧ RulsV H rv rs ∧ w = W ∧ j = m ∧ 0 ≤ k ∧ k ≤ l.length ∧ (Classical.choose h).length + m ≤ 8 then (match m with
   | 0 => some (.tuple #[u, .bool (freeW l rs W (Classical.choose h))], H, n)
   | m + 1 => some (lgT n (lgW l rs W (m + 1) k.toNat (Classical.choose h)), lgH n (lgW l rs W (m + 1) k.toNat (Classical.choose h)) ++ H, n + 1)) else none) else none
 | _ => none
section
variable {H : Heap} {n W k : Nat} {v rv u : Value} {l : List Gun} {rs : List Rul} {ws : List ByteArray}
theorem g175_z (hs : strAt H v = some l) (hR : RulsV H rv rs) (hu : BegW H u ws) (hk : k ≤ l.length) (h8 : ws.length ≤ 8) : g175 l rs W 0 [v, rv, iv W, u, iv k, iv 0] H n = some (.tuple #[u, .bool (freeW l rs W ws)], H, n) := by
 have he : ∃ ws, BegW H u ws := ⟨ws, hu⟩
 have hw := (Classical.choose_spec he).one hu
 simp only [g175]
 rw [dif_pos he, if_pos ⟨hs, hR, rfl, rfl, by omega, by omega, by rw [hw]; omega⟩, hw]
theorem g175_s {m : Nat} (hs : strAt H v = some l) (hR : RulsV H rv rs) (hu : BegW H u ws) (hk : k ≤ l.length) (h8 : ws.length + (m + 1) ≤ 8) : g175 l rs W (m + 1) [v, rv, iv W, u, iv k, iv ((m + 1 : Nat) : Int)] H n = some (lgT n (lgW l rs W (m + 1) k ws), lgH n (lgW l rs W (m + 1) k ws) ++ H, n + 1) := by
 have he : ∃ ws, BegW H u ws := ⟨ws, hu⟩
 have hw := (Classical.choose_spec he).one hu
 simp only [g175]
 rw [dif_pos he, if_pos ⟨hs, hR, rfl, rfl, by omega, by omega, by rw [hw]; omega⟩, hw, Int.toNat_natCast]
theorem g175_any {m q : Nat} (hs : strAt H v = some l) (hR : RulsV H rv rs) (hk : k ≤ l.length) (h8 : ws.length + m ≤ 8) (hw : 0 < ws.length) (hq : hget H q = some (.ext (ws.map sv) 9 1)) (hn : namesOk n H = true) :
   ∃ rv' Hq Nq, g175 l rs W m [v, rv, iv W, .slice (some ⟨q, 0, some 0⟩) ws.length 0, iv k, iv m] H n = some (.tuple #[rv', .bool (lgW l rs W m k ws).isSome], Hq, Nq) ∧ Sub H Hq ∧ n ≤ Nq ∧ namesOk Nq Hq = true ∧ (plainH H = true → plainH Hq = true) ∧ ∀ ys, lgW l rs W m k ws = some ys → ∃ p, (p = q ∨ n ≤ p) ∧ rv' = outS p ys.length ∧ (ys.length ≠ 0 → hget Hq p = some (.ext (ys.map sv) 9 1)) := by
 have hu : BegW H (.slice (some ⟨q, 0, some 0⟩) ws.length 0) ws := .inl ⟨q, rfl, .inl hq, hw, by omega⟩
 cases m with
 | zero =>
   refine ⟨.slice (some ⟨q, 0, some 0⟩) ws.length 0, H, n, ?_, Sub.refl _, Nat.le_refl _, hn, fun h => h, fun ys hy => ?_⟩
   · have := g175_z (n := n) (W := W) hs hR hu hk (by omega)
     rw [show ((0 : Nat) : Int) = 0 from rfl, this, lgW]
     cases freeW l rs W ws <;> rfl
   · rw [lgW] at hy
     split at hy
     · injection hy with hy
       subst hy
       exact ⟨q, .inl rfl, (outS_ne (by omega)).symm, fun _ => hq⟩
     · cases hy
 | succ m =>
   rw [g175_s hs hR hu hk h8]
   obtain ⟨o, hoo⟩ : ∃ o, lgW l rs W (m + 1) k ws = o := ⟨_, rfl⟩
   rw [hoo]
   cases o with
   | none => exact ⟨_, _, _, rfl, Sub.refl _, Nat.le_succ _, namesOk_mono (by omega) _ hn, fun h => h, fun ys hy => by cases hy⟩
   | some ys =>
     refine ⟨outS n ys.length, _, _, rfl, Sub.app (fun x hx => namesOk_none hn _ (outSB_ge x hx)) (Sub.refl _), Nat.le_succ _, ?_, fun hp => ?_, fun zs hz => ?_⟩
     · refine namesOk_app (fun x hx => ?_) (namesOk_mono (by omega) _ hn)
       unfold lgH outSB at hx
       simp only at hx
       split at hx
       · cases hx
       · rw [List.mem_singleton] at hx; subst hx; exact Nat.lt_succ_self _
     · unfold lgH outSB
       simp only
       split
       · exact hp
       · rw [List.cons_append, List.nil_append, plainH, hp]; rfl
     · injection hz with hz
       subst hz
       refine ⟨n, .inr (Nat.le_refl _), rfl, fun h0 => ?_⟩
       simp only [lgH, outSB]
       rw [if_neg h0, List.cons_append, hget_cons, if_pos rfl]
end
set_option maxRecDepth 20000 in
set_option maxHeartbeats 1000000 in
theorem w175z {H : Heap} {n W : Nat} {v rv u : Value} {k : Int} {l : List Gun} {rs : List Rul} {ws : List ByteArray} (hst : strE l = 0) (hrs : rulsE rs = 0) (hW : 1 ≤ W ∧ W ≤ 64) (hs : strAt H v = some l) (hR : RulsV H rv rs) (hu : BegW H u ws) : AC Tryz.prog 175 [v, rv, iv W, u, iv k, iv 0] H n (.tuple #[u, .bool (freeW l rs W ws)]) H n := by
 refine AC.given fun hold hsc hgn => AC.tidied (B := []) (by simp) ?_
 have hscu : sc (· < n) u := hsc.2.2.2.1
 have hlt0 := fun k b h => (hold k b h).1
 replace hs := strAt_tidy hlt0 hs
 replace hu := hu.tidy hlt0
 replace hR := hR.tidy hlt0
 have hr := recT_ok (P := Tryz.prog) (l := [(100, g100)]) (by simp only [List.forall_mem_cons]; exact ⟨ok100, by simp⟩)
 obtain ⟨s0, rfl⟩ := strAt_box hs
 have hM : MemOk n (tidy n H) := ⟨namesOk_tidy, by simp⟩
 obtain ⟨hM0, hS0⟩ := hM.put (b := Blk.cells [s0] 24) rfl
 obtain ⟨X0, hX0⟩ : ∃ X0, (n, Blk.cells [s0] 24) :: tidy n H = X0 := ⟨_, rfl⟩
 rw [hX0] at hM0 hS0
 have hb0 : cellsA X0 n 0 1 = some [s0] := by rw [← hX0, cellsA_eq, hget_cons, if_pos rfl]; rfl
 have h100 := g100_at (n := n + 1) (strAt_mono hS0 hs) (hR.mono hS0) (hu.mono hS0).seen hst hrs hW
 obtain ⟨R, hRR⟩ : ∃ R, refIdx (staysB l ws) l rs W rs.length = R := ⟨_, rfl⟩
 rw [freeW, hRR]
 rw [hRR] at h100
 obtain ⟨k', hk'⟩ : ∃ k, R.length = k := ⟨_, rfl⟩
 rw [hk'] at h100 ⊢
 obtain ⟨Y, hY⟩ : ∃ Y, outSB (n + 1) 3 1 k' (R.map iv) ++ X0 = Y := ⟨_, rfl⟩
 have hSY : Sub X0 Y := by
   rw [← hY]
   exact (hM0.sb rfl).2
 rw [hY] at h100
 obtain ⟨oa, oc, hov⟩ : ∃ oa oc, outS (n + 1) k' = .slice oa k' oc := by
   by_cases h : k' = 0
   · rw [h]; exact ⟨none, 0, rfl⟩
   · rw [outS_ne h]; exact ⟨_, _, rfl⟩
 rw [hov] at h100
 obtain ⟨orr, cr, hrv⟩ : ∃ orr cr, rv = .slice orr rs.length cr := by
   obtain ⟨a, b, e, _⟩ := hR
   exact ⟨a, b, e⟩
 subst hrv
 refine AC.same Tryz.func175 rfl (by kernel_rfl) rfl [1, 2, 3, 4, 5, 6, 12, 13] ⟨hscu, trivial, trivial⟩ tidy_lt ?_
 refine E.seq (E.reg hr (by simp; rfl) ?_)
 rw [hX0]
 refine E.seq (E.seq (E.reg hr (by simp; rfl) ?_))
 refine E.cond (t := true) (by simp) (fun _ => ?_) (fun h => by cases h)
 refine E.seq (E.reg hr (by simp [-cellsA, hb0, h100]; rfl) ?_)
 refine E.ret ?_
 exact pureK.ret rfl rfl (by simp) (hS0.trans hSY)
theorem hget_handA {see put : List Nat} : ∀ {H : Heap}, plainH H = true → ∀ k, hget (handA see put H) k = if memN put k = true then hget H k else if memN see k = true then (hget H k).map frz else none
 | [], _, k => by simp [handA, hget]
 | (j, b) :: H, hp, k => by
   simp only [plainH, Bool.and_eq_true] at hp
   have ih := hget_handA (see := see) (put := put) hp.2 k
   have key : handA see put ((j, b) :: H) = match memN put j with
     | true => (j, b) :: handA see put H
     | false => match memN see j with
       | false => handA see put H
       | true => (j, frz b) :: handA see put H := by
     have hp1 := hp.1
     cases b <;> first | rfl | cases hp1
   rw [key]
   by_cases e : j = k
   · subst e
     cases h1 : memN put j with
     | true => simp [hget_cons]
     | false =>
       cases h2 : memN see j with
       | false =>
         simp only [Bool.false_eq_true, if_false]
         rw [ih, h1, h2]; simp
       | true => simp [hget_cons]
   · cases h1 : memN put j with
     | true => simp only [hget_cons, if_neg e]; exact ih
     | false =>
       cases h2 : memN see j with
       | false => simp only [hget_cons, if_neg e]; exact ih
       | true => simp only [hget_cons, if_neg e]; exact ih
theorem backA_low {put : List Nat} {H' : Heap} {N : Nat} (hp : ∀ k ∈ put, N ≤ k) : ∀ {H : Heap}, namesOk N H = true → backA put H' H = H
 | [], _ => rfl
 | (j, b) :: H, h => by
   have hj := namesOk_mem _ _ h (j, b) (List.mem_cons_self ..)
   have hm : memN put j = false := by
     cases hm : memN put j with
     | false => rfl
     | true => have := hp j ((memN_iff _ _).1 hm); omega
   rw [backA, hm]
   simp only
   rw [backA_low hp (namesOk_iff.2 fun x hx => namesOk_mem _ _ h x (List.mem_cons_of_mem _ hx))]
theorem memN_false {a c : Nat} (h : ¬ c = a) : memN [a] c = false := by
 cases hm : memN [a] c with
 | false => rfl
 | true => have := (memN_iff _ _).1 hm; rw [List.mem_singleton] at this; exact absurd this h
theorem memN_true2 {a c : Nat} : memN [a, c] c = true := (memN_iff _ _).2 (by simp)
set_option maxRecDepth 20000 in
set_option maxHeartbeats 4000000 in
theorem w175s {H : Heap} {n W k m : Nat} {v rv u : Value} {l : List Gun} {rs : List Rul} {ws : List ByteArray} (hst : strE l = 0) (ih : EntOk Tryz.prog (175, g175 l rs W m)) (hs : strAt H v = some l) (hR : RulsV H rv rs) (hu : BegW H u ws) (hk : k ≤ l.length) (hl8 : ws.length + (m + 1) ≤ 8) :
   AC Tryz.prog 175 [v, rv, iv W, u, iv k, iv ((m + 1 : Nat) : Int)] H n (lgT n (lgW l rs W (m + 1) k ws)) (lgH n (lgW l rs W (m + 1) k ws) ++ H) (n + 1) := by
 refine AC.given fun hold hsc hgn => AC.tidied (fun x hx => ?_) ?_
 · unfold lgH at hx
   split at hx
   · cases hx
   · exact outSB_ge x hx
 have hlt0 := fun k b h => (hold k b h).1
 replace hs := strAt_tidy hlt0 hs
 replace hu := hu.tidy hlt0
 replace hR := hR.tidy hlt0
 have hr := recT_ok (P := Tryz.prog) (l := [(175, g175 l rs W m)]) (by simp only [List.forall_mem_cons]; exact ⟨ih, by simp⟩)
 obtain ⟨h1, h8⟩ := strE_len hst
 obtain ⟨s0, rfl⟩ := strAt_box hs
 have hne : l ≠ [] := fun e => by rw [e] at h1; simp at h1
 obtain ⟨ga, gc, rfl, hgf, hgc, _, _⟩ := strAt_guns hs hne (by omega)
 have hgl : ga.block < n := by
   rw [cellsA_eq] at hgc
   obtain ⟨b, hb, _⟩ := Option.bind_eq_some_iff.1 hgc
   exact tidy_lt _ _ hb
 have hM : MemOk n (tidy n H) := ⟨namesOk_tidy, by simp⟩
 obtain ⟨hM0, hS0⟩ := hM.put (b := Blk.cells [.slice (some ga) l.length gc] 24) rfl
 obtain ⟨X0, hX0⟩ : ∃ X0, (n, Blk.cells [.slice (some ga) l.length gc] 24) :: tidy n H = X0 := ⟨_, rfl⟩
 rw [hX0] at hM0 hS0
 have hb0 : hget X0 n = some (.cells [.slice (some ga) l.length gc] 24) := by rw [← hX0, hget_cons, if_pos rfl]
 obtain ⟨orr, cr, hrv⟩ : ∃ orr cr, rv = .slice orr rs.length cr := by
   obtain ⟨a, b, e, _⟩ := hR
   exact ⟨a, b, e⟩
 obtain ⟨mm, hmm⟩ : ∃ mm, m + 1 = mm := ⟨_, rfl⟩
 have hm0 : ¬ mm = 0 := by omega
 have hwm : IntKind.i64.wrap ((mm : Int) - 1) = (m : Int) := by rw [W_in (by omega) (by omega)]; omega
 obtain ⟨cnt, hcnt⟩ : ∃ c, l.length - k = c := ⟨_, rfl⟩
 obtain ⟨f, hf⟩ : ∃ f : Int → Option (List ByteArray), (fun i : Int => lgW l rs W m (i.toNat + 1) (ws ++ [gnmAt l i.toNat])) = f := ⟨_, rfl⟩
 have hex : lgW l rs W (m + 1) k ws = firstS f (k : Int) cnt := by rw [lgW, hf, hcnt]
 rw [hex, hmm]
 obtain ⟨oa, uc, hue⟩ : ∃ oa c, u = .slice oa ws.length c := by
   rcases hu with ⟨b, e, _⟩ | ⟨e1, e2⟩
   · exact ⟨_, _, e⟩
   · exact ⟨none, 0, by rw [e2, e1]; rfl⟩
 subst hrv
 refine AC.lgw Tryz.func175 rfl (by kernel_rfl) rfl [1, 2, 3, 4, 5, 6, 12, 13, 14, 15, 16, 17] ?_
 refine E.seq (E.reg hr (by simp; rfl) ?_)
 rw [hX0, hue]
 refine E.seq (E.seq (E.reg hr (by simp; rfl) ?_))
 refine E.cond (t := false) (by simp [hm0]) (fun h => by cases h) (fun _ => ?_)
 refine E.skip (E.seq ?_)
 refine E.seq (E.reg hr (by simp; rfl) ?_)
 refine E.block (E.loop ?_)
 refine EL.ind (fun x : Nat × Heap × Nat => { fr := [(1, .slice orr rs.length cr), (2, iv W), (3, .slice oa ws.length uc), (4, iv k), (5, iv mm), (6, .pointer (some ⟨n, 0, none⟩)), (12, .slice none 0 0), (13, .bool false), (14, iv ((k : Int) + x.1))], sz := 61, H := x.2.1, n := x.2.2, marks := [], vs := [1, 2, 3, 4, 5, 6, 12, 13, 14, 15, 16, 17] }) (fun x => cnt - x.1) (fun x => x.1 ≤ cnt ∧ firstS f (k : Int) cnt = firstS f ((k : Int) + x.1) (cnt - x.1) ∧ Sub X0 x.2.1 ∧ MemOk x.2.2 x.2.1 ∧ n < x.2.2) (0, X0, n + 1) (.keep rfl rfl rfl (by simp) (Sub.refl _)) ⟨Nat.zero_le _, by simp, Sub.refl _, hM0, Nat.lt_succ_self _⟩ (fun _ => rfl) ?_
 rintro ⟨j, Hx, N⟩ ⟨hj, hfs, hSx, hMx, hnN⟩
 dsimp only at hj hfs hSx hMx hnN ⊢
 have hSH := hS0.trans hSx
 have hcb : cellA Hx n 0 = some (.slice (some ga) l.length gc) := by rw [cellA_eq, hSx _ _ hb0]; rfl
 have hcs : ∀ {Z}, Sub Hx Z → cellsA Z n 0 1 = some [.slice (some ga) l.length gc] := fun h => by rw [cellsA_eq, h _ _ (hSx _ _ hb0)]; rfl
 obtain ⟨i, hi⟩ : ∃ i : Nat, k + j = i := ⟨_, rfl⟩
 have hiI : (k : Int) + j = (i : Int) := by omega
 rw [hiI] at hfs ⊢
 have hwi : IntKind.i64.wrap ((i : Int) + 1) = (i : Int) + 1 := W_in (by omega) (by omega)
 refine E.seq (E.seq (E.reg hr (by simp [-cellA, hcb]; rfl) ?_))
 by_cases hjl : j < cnt
 case neg =>
   have hj' : j = cnt := by omega
   subst hj'
   have hil : ¬ i < l.length := by omega
   rw [Nat.sub_self, firstS_none] at hfs
   refine E.cond (t := false) (by simp [hil]) (fun h => by cases h) (fun _ => ?_)
   refine E.exit ?_
   refine E.seq (E.reg hr (by simp; rfl) ?_)
   refine E.ret ?_
   rw [hfs]
   exact outK.ret rfl rfl (lgFreshN hSH)
 have hil : i < l.length := by omega
 have hilI : (i : Int) < l.length := by omega
 have hstep := firstS_step (f := f) (s := (k : Int)) hjl
 rw [hiI] at hstep
 rw [hstep] at hfs
 have hgk := cells_part hgc hil
 rw [gcs_atB hil] at hgk
 have hgn : cellA Hx ga.block (ga.off + i * 7) = some (sv l[i].name) := hSH.cell (cellsA_cell hgk (i := 0) (by omega)).1
 have hgnm := gnmAt_at hil
 obtain ⟨s, hss⟩ : ∃ s, l[i].name = s := ⟨_, rfl⟩
 rw [hss] at hgn hgnm
 have hfi : f (i : Int) = lgW l rs W m (i + 1) (ws ++ [s]) := by rw [← hf]; simp only [Int.toNat_natCast, hgnm]
 refine E.cond (t := true) (by simp [hil]) (fun _ => ?_) (fun h => by cases h)
 refine E.skip (E.seq ?_)
 refine E.block ?_
 have hzn : ∀ k, N ≤ k → hget Hx k = none := fun k hk => hMx.none hk
 have hn1 := hMx.1
 have hn2 := namesOk_mono (Nat.le_succ N) _ hMx.1
 have htk := takeNew_frz hMx.1
 have x1 : n < N := hnN
 have x2 : ga.block < N := by omega
 have hsE : Sub Hx ((N, Blk.cells [] 9) :: Hx) := Sub.cons (hzn _ (Nat.le_refl _)) (Sub.refl _)
 have hcb1 := hsE.cell hcb
 have hgn1 := hsE.cell hgn
 refine E.seqP (fun st' => ∃ q Yq Nq, Leads Tryz.prog n st' { fr := [(1, .slice orr rs.length cr), (2, iv W), (3, .slice oa ws.length uc), (4, iv k), (5, iv mm), (6, .pointer (some ⟨n, 0, none⟩)), (12, .slice none 0 0), (13, .bool false), (14, iv i), (15, .slice (some ⟨q, 0, some 0⟩) (ws.length + 1) 0)], sz := 61, H := Yq, n := Nq, marks := [], vs := [1, 2, 3, 4, 5, 6, 12, 13, 14, 15, 16, 17] } ∧ hget Yq q = some (.ext ((ws ++ [s]).map sv) 9 1) ∧ N ≤ q ∧ Sub Hx Yq ∧ MemOk Nq Yq ∧ N ≤ Nq) ?_ ?_
 · rcases hu with ⟨b, e, hrow, hw0, hwl⟩ | ⟨e1, e2⟩
   · rw [hue] at e
     injection e with e1 _ e3
     subst e1 e3
     have hbN : b < N := by
       rcases hrow with h | h
       · have := tidy_lt _ _ h; omega
       · have := tidy_lt _ _ h; omega
     have hrx := hrow.mono hSH
     have e1 : ¬ N = b := by omega
     have e2 : ¬ b = N := by omega
     have hbN2 : b < N + 1 := by omega
     have hw1 : ¬ ws.length = 0 := by omega
     have hwml : (ws.map sv).length = ws.length := List.length_map ..
     have hm1 : memN [N] b = false := memN_false e2
     have hm2 : memN [N, b] b = true := memN_true2
     have hcF : cellsA (handA [N, b] [N] Hx) b 0 ws.length = some (ws.map sv) := by
       rw [cellsA_eq, hget_handA hMx.2, hm1, hm2]
       rcases hrx with h | h
       · rw [h]
         simp only [Bool.false_eq_true, if_false, if_true, Option.map_some, frz, Option.bind_some, cellsB]
         rw [if_pos (by omega), List.drop_zero, List.take_of_length_le (by omega)]
       · rw [h]
         simp only [Bool.false_eq_true, if_false, if_true, Option.map_some, frz, Option.bind_some, cellsB]
         rw [if_pos (by omega), List.drop_zero, List.take_of_length_le (by omega)]
     have hone : oneL (ws.map sv) = true := oneL_svs ws
     have hsmA : ws.length * 16 ≤ 1099511627776 ∧ ws.length ≤ 1099511627776 := by omega
     have hsmB : (ws.length + 1) * 16 ≤ 1099511627776 ∧ ws.length + 1 ≤ 1099511627776 := by omega
     have htkF : (ws.map sv).take ws.length = ws.map sv := List.take_of_length_le (by omega)
     have hbk : ∀ H', backA [N] H' Hx = Hx := fun H' => backA_low (fun k hk => by rw [List.mem_singleton] at hk; omega) hMx.1
     have hzm : namesOk (N + 1 + 1 + 1 + 1) Hx = true := namesOk_mono (by omega) _ hMx.1
     have hzm2 : namesOk (N + 1 + 1) Hx = true := namesOk_mono (by omega) _ hMx.1
     have hsF : Sub Hx ((N + 1, Blk.ext (ws.map sv) 9 1) :: (N, Blk.cells [] 9) :: Hx) := Sub.cons (hzn _ (by omega)) hsE
     have hdx : hdel Hx (N + 1) = Hx := hdel_none (hzn _ (by omega))
     have hcb2 := hsF.cell hcb
     have hgn2 := hsF.cell hgn
     refine E.drawX mixed hr [10] [0, 2, 9, 10] [0, 2, 10] [2] (by kernel_rfl) (by simp [-cellA, -cellsA, -flat, -readA, cellA_read, cellsA_cons, cellsB, flat_n, flat_z, handX, backA, handA_nil, hn1, x1, x2, hcb2, hgf, hilI, hgn2, hbk, hzm, e1, hbN, hbN2, hw1, hcF, hwml, hone, hsmA, hsmB, htkF, hdx]; rfl) ?_
     exact ⟨rfl, N + 1 + 1 + 1, _, N + 1 + 1 + 1 + 1, .keep rfl rfl rfl (by simp) (Sub.refl _), by rw [hget_cons, if_pos rfl, List.map_append]; rfl, by omega, Sub.cons (hzn _ (by omega)) (Sub.cons (hzn _ (by omega)) hsE), ⟨namesOk_put (by omega) (namesOk_put (by omega) (namesOk_put (by omega) (namesOk_mono (by omega) _ hMx.1))), by simp [plainH, plainB2, hMx.2]⟩, by omega⟩
   · subst e1
     rw [hue] at e2
     injection e2 with e2 _ e3
     subst e2 e3
     have hbk : ∀ H', backA [N] H' Hx = Hx := fun H' => backA_low (fun k hk => by rw [List.mem_singleton] at hk; omega) hMx.1
     have hzm : namesOk (N + 1 + 1 + 1) Hx = true := namesOk_mono (by omega) _ hMx.1
     refine E.drawX mixed hr [10] [0, 2, 9, 10] [0, 2, 10] [2] (by kernel_rfl) (by simp [-cellA, -cellsA, -flat, -readA, cellA_read, cellsA_cons, cellsB, flat_n, handX, backA, handA_nil, hn1, x1, x2, hcb1, hgf, hilI, hgn1, hbk, hzm]; rfl) ?_
     exact ⟨rfl, N + 1 + 1, _, N + 1 + 1 + 1, .keep rfl rfl rfl (by simp) (Sub.refl _), by rw [hget_cons, if_pos rfl]; rfl, by omega, Sub.cons (hzn _ (by omega)) (Sub.cons (hzn _ (by omega)) hsE), ⟨namesOk_put (by omega) (namesOk_put (by omega) (namesOk_put (by omega) (namesOk_mono (by omega) _ hMx.1))), by simp [plainH, plainB2, hMx.2]⟩, by omega⟩
 rintro st' ⟨q, Yq, Nq, hLd, hq1, hq2, hq3, hq4, hq5⟩
 refine E.lead _ hLd ?_
 have hSq := hSH.trans hq3
 obtain ⟨i1, hi1⟩ : ∃ i1, i + 1 = i1 := ⟨_, rfl⟩
 have hwi1 : IntKind.i64.wrap ((i : Int) + 1) = (i1 : Int) := by rw [hwi]; omega
 obtain ⟨rv', Hr, Nr, h175, hsub, hler, hnmr, hplr, hys⟩ := g175_any (W := W) (m := m) (q := q) (n := Nq) (k := i1) (ws := ws ++ [s]) (strAt_mono hSq hs) (hR.mono hSq) (by omega) (by rw [List.length_append, List.length_singleton]; omega) (by rw [List.length_append, List.length_singleton]; omega) hq1 hq4.1
 rw [List.length_append, List.length_singleton] at h175
 obtain ⟨oo, hoo⟩ : ∃ oo, lgW l rs W m i1 (ws ++ [s]) = oo := ⟨_, rfl⟩
 rw [hi1, hoo] at hfi
 rw [hoo] at h175 hys
 have hbq := hcs hq3
 have hMr : MemOk Nr Hr := ⟨hnmr, hplr hq4.2⟩
 refine E.seq ?_
 cases oo with
 | none =>
   rw [hfi] at hfs
   rw [Option.isSome_none] at h175
   refine E.reg hr (by simp [-cellsA, hbq, hwi1, hwm, h175]; rfl) ?_
   refine E.seq (E.reg hr (by simp; rfl) ?_)
   refine E.cond (t := false) (by simp) (fun h => by cases h) (fun _ => ?_)
   refine E.skip (E.reg hr (by simp [hwi]; rfl) ?_)
   exact ⟨(j + 1, Hr, Nr), .keep rfl rfl rfl (by simp; omega) (Sub.refl _), ⟨hjl, hfs, hSx.trans (hq3.trans hsub), hMr, by dsimp only; omega⟩, by dsimp only; omega⟩
 | some ys =>
   rw [hfi] at hfs
   rw [Option.isSome_some] at h175
   obtain ⟨p, hp, rfl, hgp⟩ := hys ys rfl
   obtain ⟨ra, rc, hrv⟩ : ∃ oa oc, outS p ys.length = .slice oa ys.length oc := by
     by_cases h : ys.length = 0
     · rw [h]; exact ⟨none, 0, rfl⟩
     · rw [outS_ne h]; exact ⟨_, _, rfl⟩
   rw [hrv] at h175
   refine E.reg hr (by simp [-cellsA, hbq, hwi1, hwm, h175]; rfl) ?_
   refine E.seq (E.reg hr (by simp; rfl) ?_)
   refine E.cond (t := true) (by simp) (fun _ => ?_) (fun h => by cases h)
   refine E.seq (E.reg hr (by simp; rfl) ?_)
   refine E.ret ?_
   rw [hfs]
   exact outK.ret rfl rfl (by rw [← hrv]; exact lgFresh (by omega) hgp (hSq.trans hsub))
theorem ok175 {l : List Gun} {rs : List Rul} {W : Nat} (hst : strE l = 0) (hrs : rulsE rs = 0) (hW : 1 ≤ W ∧ W ≤ 64) : ∀ m, EntOk Tryz.prog (175, g175 l rs W m) := by
 intro m
 induction m with
 | zero =>
   intro args H n v H' n' h
   simp only [g175] at h
   split at h
   · split at h
     · rename_i he
       split at h
       · rename_i hc
         obtain ⟨c1, c2, rfl, rfl, c5, c6, c7⟩ := hc
         injection h with h; injection h with e1 e2; injection e2 with e2 e3; subst e1 e2 e3
         exact w175z hst hrs hW c1 c2 (Classical.choose_spec he)
       · cases h
     · cases h
   · cases h
 | succ m ih =>
   intro args H n v H' n' h
   simp only [g175] at h
   split at h
   · rename_i k _
     split at h
     · rename_i he
       split at h
       · rename_i hc
         obtain ⟨c1, c2, rfl, rfl, c5, c6, c7⟩ := hc
         injection h with h; injection h with e1 e2; injection e2 with e2 e3; subst e1 e2 e3
         obtain ⟨k', rfl⟩ := Int.eq_ofNat_of_zero_le c5
         rw [Int.toNat_natCast]
         exact w175s hst ih c1 c2 (Classical.choose_spec he) (by omega) c7
       · cases h
     · cases h
   · cases h
noncomputable def g175A (l : List Gun) (rs : List Rul) (W : Nat) (args : List Value) (H : Heap) (n : Nat) : R := match args with
 | [v, rv, w, u, k, .int .i64 j] => g175 l rs W j.toNat [v, rv, w, u, k, .int .i64 j] H n
 | _ => none
theorem ok175A {l : List Gun} {rs : List Rul} {W : Nat} (hst : strE l = 0) (hrs : rulsE rs = 0) (hW : 1 ≤ W ∧ W ≤ 64) : EntOk Tryz.prog (175, g175A l rs W) := by
 intro args H n v H' n' h
 simp only [g175A] at h
 split at h
 · exact ok175 hst hrs hW _ _ _ _ _ _ _ h
 · cases h
def lgD (l : List Gun) (rs : List Rul) (W : Nat) : Nat → List ByteArray
 | 0 => []
 | m + 1 => match lgW l rs W (m + 1) 0 [] with
   | some ys => ys
   | none => lgD l rs W m
theorem outFresh {ys : List ByteArray} {m n : Nat} {H H1 : Heap} (hm : n ≤ m) (hg : ys.length ≠ 0 → hget H1 m = some (.ext (ys.map sv) 9 1)) (hs : Sub H H1) : Fresh n (n + 1) H (outS n ys.length) (outSB n 9 1 ys.length (ys.map sv)) (outS m ys.length) H1 := by
 refine ⟨fun j => if j = n then m else j, fun j hj => if_neg (by omega), ?_, fun k b hk => ?_, fun j b k c hj hk _ => ?_, hs⟩
 · rw [ren_outS (ρ := fun j => if j = n then m else j) (m := m) (by simp)]
 · simp only [outSB] at hk
   split at hk
   · cases hk
   · rename_i hne
     rw [hget_cons] at hk
     split at hk
     · rename_i e; subst e; injection hk with hk; subst hk
       exact ⟨Nat.le_refl _, Nat.lt_succ_self _, by simpa using hm, by simp only [if_true, renB, renL_af _ _ (afL_sv _)]; exact hg hne, scL_af _ _ (afL_sv _), trivial, rfl⟩
     · simp at hk
 · simp only [outSB] at hj hk
   split at hj
   · cases hj
   · rename_i hne
     rw [if_neg hne, hget_cons] at hk
     rw [hget_cons] at hj
     split at hj
     · split at hk
       · omega
       · simp at hk
     · simp at hj
set_option maxRecDepth 20000 in
set_option maxHeartbeats 2000000 in
theorem w101 {H : Heap} {n W : Nat} {v rv : Value} {l : List Gun} {rs : List Rul} (hst : strE l = 0) (hrs : rulsE rs = 0) (hW : 1 ≤ W ∧ W ≤ 64) (hs : strAt H v = some l) (hR : RulsV H rv rs) :
   AC Tryz.prog 101 [v, rv, iv W] H n (outS n (lgD l rs W l.length).length) (outSB n 9 1 (lgD l rs W l.length).length ((lgD l rs W l.length).map sv) ++ H) (n + 1) := by
 refine AC.given fun hold hsc hgn => AC.tidied (fun x hx => outSB_ge x hx) ?_
 have hlt0 := fun k b h => (hold k b h).1
 replace hs := strAt_tidy hlt0 hs
 replace hR := hR.tidy hlt0
 have hr := recT_ok (P := Tryz.prog) (l := [(175, g175A l rs W)]) (by simp only [List.forall_mem_cons]; exact ⟨ok175A hst hrs hW, by simp⟩)
 obtain ⟨h1, h8⟩ := strE_len hst
 obtain ⟨oa, c, rfl⟩ := strAt_form hs
 have hM : MemOk n (tidy n H) := ⟨namesOk_tidy, by simp⟩
 obtain ⟨hM0, hS0⟩ := hM.put (b := Blk.cells [.slice oa l.length c] 24) rfl
 obtain ⟨X0, hX0⟩ : ∃ X0, (n, Blk.cells [.slice oa l.length c] 24) :: tidy n H = X0 := ⟨_, rfl⟩
 rw [hX0] at hM0 hS0
 have hb0 : hget X0 n = some (.cells [.slice oa l.length c] 24) := by rw [← hX0, hget_cons, if_pos rfl]
 have hcb : cellA X0 n 0 = some (.slice oa l.length c) := by rw [cellA_eq, hb0]; rfl
 obtain ⟨orr, cr, hrv⟩ : ∃ orr cr, rv = .slice orr rs.length cr := by
   obtain ⟨a, b, e, _⟩ := hR
   exact ⟨a, b, e⟩
 subst hrv
 refine AC.grown Tryz.func101 rfl (by kernel_rfl) rfl [1, 2, 3, 6, 7, 8, 9] ?_
 refine E.seq (E.reg hr (by simp; rfl) ?_)
 rw [hX0]
 refine E.seq (E.seq (E.reg hr (by simp [-cellA, hcb]; rfl) ?_))
 refine E.block (E.loop ?_)
 refine EL.ind (fun x : Nat × Heap × Nat => { fr := [(1, .slice orr rs.length cr), (2, iv W), (3, .pointer (some ⟨n, 0, none⟩)), (6, .slice none 0 0), (7, iv x.1)], sz := 27, H := x.2.1, n := x.2.2, marks := [], vs := [1, 2, 3, 6, 7, 8, 9] }) (fun x => x.1) (fun x => x.1 ≤ l.length ∧ lgD l rs W l.length = lgD l rs W x.1 ∧ Sub X0 x.2.1 ∧ MemOk x.2.2 x.2.1 ∧ n < x.2.2) (l.length, X0, n + 1) (.keep rfl rfl rfl (by simp) (Sub.refl _)) ⟨Nat.le_refl _, rfl, Sub.refl _, hM0, Nat.lt_succ_self _⟩ (fun _ => rfl) ?_
 rintro ⟨m, Hx, N⟩ ⟨hm, hD, hSx, hMx, hnN⟩
 dsimp only at hm hD hSx hMx hnN ⊢
 refine E.seq (E.seq (E.reg hr (by simp; rfl) ?_))
 cases m with
 | zero =>
   have hD0 : lgD l rs W l.length = [] := hD
   refine E.cond (t := false) (by simp) (fun h => by cases h) (fun _ => ?_)
   refine E.exit ?_
   refine E.seq (E.reg hr (by simp; rfl) ?_)
   refine E.ret ?_
   rw [hD0]
   exact outK.ret rfl rfl (fresh_none (hS0.trans hSx))
 | succ m =>
   have hcs : cellsA Hx n 0 1 = some [.slice oa l.length c] := by rw [cellsA_eq, hSx _ _ hb0]; rfl
   have hSH := hS0.trans hSx
   have hwm : IntKind.i64.wrap (((m + 1 : Nat) : Int) - 1) = (m : Int) := by rw [W_in (by omega) (by omega)]; omega
   have h175 := g175_s (n := N) (W := W) (m := m) (k := 0) (ws := []) (strAt_mono hSH hs) (hR.mono hSH) (.inr ⟨rfl, rfl⟩) (Nat.zero_le _) (by simp; omega)
   obtain ⟨mm, hmm⟩ : ∃ mm, m + 1 = mm := ⟨_, rfl⟩
   have hm0 : 0 < mm := by omega
   have hm0I : (0 : Int) < mm := by omega
   have hDs : lgD l rs W (m + 1) = match lgW l rs W (m + 1) 0 [] with
     | some ys => ys
     | none => lgD l rs W m := rfl
   rw [hmm] at hDs h175 hD hwm ⊢
   have h175A : g175A l rs W [.agg ⟨[.slice oa l.length c]⟩, .slice orr rs.length cr, iv W, .slice none 0 0, iv 0, iv mm] Hx N = some (lgT N (lgW l rs W mm 0 []), lgH N (lgW l rs W mm 0 []) ++ Hx, N + 1) := by
     have e : g175A l rs W [.agg ⟨[.slice oa l.length c]⟩, .slice orr rs.length cr, iv W, .slice none 0 0, iv 0, iv mm] Hx N = g175 l rs W (mm : Int).toNat [.agg ⟨[.slice oa l.length c]⟩, .slice orr rs.length cr, iv W, .slice none 0 0, iv 0, iv mm] Hx N := rfl
     rw [e, Int.toNat_natCast]
     exact h175
   obtain ⟨oo, hoo⟩ : ∃ oo, lgW l rs W mm 0 [] = oo := ⟨_, rfl⟩
   rw [hoo] at hDs h175A
   refine E.cond (t := true) (by simp [hm0]) (fun _ => ?_) (fun h => by cases h)
   refine E.skip (E.seq ?_)
   refine E.block (E.seq ?_)
   cases oo with
   | none =>
     have hDn : lgD l rs W mm = lgD l rs W m := hDs
     refine E.reg hr (by simp [-cellsA, hcs, h175A, lgT, lgH]; rfl) ?_
     refine E.seq (E.reg hr (by simp; rfl) ?_)
     refine E.cond (t := false) (by simp) (fun h => by cases h) (fun _ => ?_)
     refine E.skip (E.reg hr (by simp [hwm]; rfl) ?_)
     exact ⟨(m, Hx, N + 1), .keep rfl rfl rfl (by simp) (Sub.refl _), ⟨by dsimp only; omega, hD.trans hDn, hSx, ⟨namesOk_mono (Nat.le_succ _) _ hMx.1, hMx.2⟩, by dsimp only; omega⟩, by dsimp only; omega⟩
   | some ys =>
     have hDn : lgD l rs W mm = ys := hDs
     obtain ⟨hMs, hSs⟩ := hMx.sb (t := 9) (sz := 1) (k := ys.length) (cs := ys.map sv) rfl
     obtain ⟨Y, hY⟩ : ∃ Y, lgH N (some ys) ++ Hx = Y := ⟨_, rfl⟩
     have hY' : outSB N 9 1 ys.length (ys.map sv) ++ Hx = Y := hY
     rw [hY'] at hSs hMs
     rw [hY] at h175A
     have hgp : ys.length ≠ 0 → hget Y N = some (.ext (ys.map sv) 9 1) := fun h0 => by
       rw [← hY', outSB, if_neg h0, List.cons_append, hget_cons, if_pos rfl]
     obtain ⟨ra, rc, hrv⟩ : ∃ oa oc, outS N ys.length = .slice oa ys.length oc := by
       by_cases h : ys.length = 0
       · rw [h]; exact ⟨none, 0, rfl⟩
       · rw [outS_ne h]; exact ⟨_, _, rfl⟩
     rw [show lgT N (some ys) = .tuple #[.slice ra ys.length rc, .bool true] by rw [lgT, hrv]] at h175A
     refine E.reg hr (by simp [-cellsA, hcs, h175A]; rfl) ?_
     refine E.seq (E.reg hr (by simp; rfl) ?_)
     refine E.cond (t := true) (by simp) (fun _ => ?_) (fun h => by cases h)
     refine E.seq (E.reg hr (by simp; rfl) ?_)
     refine E.ret ?_
     rw [hD, hDn]
     exact outK.ret rfl rfl (by rw [← hrv]; exact outFresh (by omega) hgp (hSH.trans hSs))
open Classical in
noncomputable def g101 (args : List Value) (H : Heap) (n : Nat) : R := match args with
 | [v, rv, .int .i64 w] => match strAt H v with
   | some l => if h : ∃ rs, RulsV H rv rs then (if strE l = 0 ∧ rulsE (Classical.choose h) = 0 ∧ 1 ≤ w ∧ w ≤ 64 then some (outS n (lgD l (Classical.choose h) w.toNat l.length).length, outSB n 9 1 (lgD l (Classical.choose h) w.toNat l.length).length ((lgD l (Classical.choose h) w.toNat l.length).map sv) ++ H, n + 1) else none) else none
   | none => none
 | _ => none
theorem g101_at {H : Heap} {n W : Nat} {v rv : Value} {l : List Gun} {rs : List Rul} (hst : strE l = 0) (hrs : rulsE rs = 0) (hW : 1 ≤ W ∧ W ≤ 64) (hs : strAt H v = some l) (hR : RulsV H rv rs) :
   g101 [v, rv, iv W] H n = some (outS n (lgD l rs W l.length).length, outSB n 9 1 (lgD l rs W l.length).length ((lgD l rs W l.length).map sv) ++ H, n + 1) := by
 have he : ∃ rs, RulsV H rv rs := ⟨rs, hR⟩
 have hw := (Classical.choose_spec he).one hR
 simp only [g101, hs]
 rw [dif_pos he, hw, if_pos ⟨hst, hrs, by omega, by omega⟩, Int.toNat_natCast]
theorem ok101 : EntOk Tryz.prog (101, g101) := by
 intro args H n v H' n' h
 simp only [g101] at h
 split at h
 · rename_i v rv w
   split at h
   · rename_i l h1
     split at h
     · rename_i he
       split at h
       · rename_i hc
         obtain ⟨c1, c2, c3, c4⟩ := hc
         injection h with h; injection h with e1 e2; injection e2 with e2 e3; subst e1 e2 e3
         obtain ⟨W, rfl⟩ := Int.eq_ofNat_of_zero_le (show 0 ≤ w by omega)
         rw [Int.toNat_natCast]
         exact w101 c1 c2 (by omega) h1 (Classical.choose_spec he)
       · cases h
     · cases h
   · cases h
 · cases h
theorem firstS_range {β : Type} {f : Int → Option β} : ∀ (c k : Nat), firstS f (k : Int) c = (List.range' k c).findSome? fun i : Nat => f (i : Int)
 | 0, k => rfl
 | c + 1, k => by
   have ih := firstS_range (f := f) c (k + 1)
   rw [List.range'_succ, List.findSome?_cons, ← ih, show ((k + 1 : Nat) : Int) = (k : Int) + 1 from rfl]
   rfl
def cmb (L : Nat) : Nat → Nat → List Int → List (List Int)
 | 0, _, zs => [zs]
 | m + 1, k, zs => (List.range' k (L - k)).flatMap fun i => cmb L m (i + 1) (zs ++ [(i : Int)])
def allC (L : Nat) : Nat → List (List Int)
 | 0 => []
 | m + 1 => cmb L (m + 1) 0 [] ++ allC L m
theorem findSome_map {α β γ : Type} (g : β → γ) (x : α → Option β) : ∀ l : List α, (l.findSome? fun a => (x a).map g) = (l.findSome? x).map g
 | [] => rfl
 | a :: l => by
   rw [List.findSome?_cons, List.findSome?_cons]
   cases x a with
   | some b => rfl
   | none => exact findSome_map g x l
theorem nmsL_app (l : List Gun) (zs : List Int) (i : Nat) : nmsL l (zs ++ [(i : Int)]) = nmsL l zs ++ [gnmAt l i] := by simp [nmsL]
section
variable {l : List Gun} {rs : List Rul} {W : Nat}
theorem lgW_find : ∀ (m k : Nat) (zs : List Int), lgW l rs W m k (nmsL l zs) = ((cmb l.length m k zs).find? fun z => freeW l rs W (nmsL l z)).map (nmsL l)
 | 0, k, zs => by
   rw [lgW, cmb, List.find?_cons]
   cases freeW l rs W (nmsL l zs) <;> rfl
 | m + 1, k, zs => by
   rw [lgW, cmb, firstS_range, List.find?_flatMap, ← findSome_map]
   congr 1
   funext i
   rw [Int.toNat_natCast, ← nmsL_app, lgW_find m (i + 1) (zs ++ [(i : Int)])]
theorem lgD_find : ∀ m, lgD l rs W m = nmsL l (((allC l.length m).find? fun z => freeW l rs W (nmsL l z)).getD [])
 | 0 => rfl
 | m + 1 => by
   have h := lgW_find (l := l) (rs := rs) (W := W) (m + 1) 0 []
   have hn : nmsL l [] = [] := rfl
   rw [hn] at h
   rw [lgD, h, allC, List.find?_append, lgD_find m]
   cases (cmb l.length (m + 1) 0 []).find? fun z => freeW l rs W (nmsL l z) with
   | none => rfl
   | some z => rfl
theorem sets_all {k : Nat} (h : 1 ≤ k) (h6 : k ≤ 6) : setsOf k = allC k k ++ [[]] := by
 match k, h, h6 with
 | 1, _, _ => decide
 | 2, _, _ => decide
 | 3, _, _ => decide
 | 4, _, _ => decide
 | 5, _, _ => decide +kernel
 | 6, _, _ => decide +kernel
theorem freeW_out {zs : List Int} (hst : strE l = 0) (hz : ∀ z ∈ zs, 0 ≤ z ∧ z.toNat < l.length) : freeW l rs W (nmsL l zs) = !anyB (outB zs) l rs W := by
 unfold freeW
 rw [refIdx_congr (stays_nms hst hz), Bool.eq_iff_iff, decide_eq_true_iff, Bool.not_eq_true', List.length_eq_zero_iff]
 exact anyB_false.symm
theorem lrg_same (hst : strE l = 0) (h6 : l.length ≤ 6) (hrs : rulsE rs = 0) (hW : W ≤ 64) : lgD l rs W l.length = nmsL l (lrgS l rs W) := by
 have hln := strE_len hst
 obtain ⟨i, hi, hI, hS⟩ := lrg_at hst h6 hrs hW
 have hlt := (setsOf_lt (k := l.length) (by omega) h6).1
 have hfree : ∀ j (hj : j < (setsOf l.length).length), freeW l rs W (nmsL l (setsOf l.length)[j]) = freeAt l rs W (setsOf l.length) j := fun j hj => by
   rw [freeAt_at hj, freeW_out hst (hlt _ (List.getElem_mem hj))]
 have hfind : (setsOf l.length).find? (fun z => freeW l rs W (nmsL l z)) = some (lrgS l rs W) := by
   rcases fstT_cases (freeAt l rs W (setsOf l.length)) (setsOf l.length).length with ⟨j, h2, h3, h5, h6'⟩ | ⟨_, h2⟩
   · have hij : i = j := by
       have : lrgI l rs W = (j : Int) := h6'
       omega
     subst hij
     rw [List.find?_eq_some_iff_getElem]
     refine ⟨by rw [hS, hfree i hi]; exact h3, i, hi, hS.symm, fun j hj => ?_⟩
     rw [hfree j (by omega), h5 j hj]
     rfl
   · have : lrgI l rs W = -1 := h2
     omega
 rw [lgD_find]
 rw [sets_all (by omega) h6, List.find?_append] at hfind
 cases hc : (allC l.length l.length).find? fun z => freeW l rs W (nmsL l z) with
 | some z =>
   rw [hc] at hfind
   injection hfind with hfind
   rw [← hfind]
   rfl
 | none =>
   rw [hc] at hfind
   rw [Option.none_or, List.find?_cons] at hfind
   split at hfind
   · injection hfind with hfind
     rw [← hfind]
     rfl
   · cases hfind
end
open Classical in
noncomputable def g174 (bw : Nat) (ws : List ByteArray) (args : List Value) (H : Heap) (n : Nat) : R := if h : ∃ g : Gun, args = [.agg ⟨g.cells⟩, .pointer (some ⟨bw, 0, none⟩)] ∧ KDel bw ws H then some (.bool (hasW (Classical.choose h).name ws), H, n) else none
theorem g174_at {bw : Nat} {ws : List ByteArray} {H : Heap} {n : Nat} (g : Gun) (hK : KDel bw ws H) : g174 bw ws [.agg ⟨g.cells⟩, .pointer (some ⟨bw, 0, none⟩)] H n = some (.bool (hasW g.name ws), H, n) := by
 have he : ∃ g' : Gun, [Value.agg ⟨g.cells⟩, .pointer (some ⟨bw, 0, none⟩)] = [.agg ⟨g'.cells⟩, .pointer (some ⟨bw, 0, none⟩)] ∧ KDel bw ws H := ⟨g, rfl, hK⟩
 unfold g174
 rw [dif_pos he]
 obtain ⟨e, _⟩ := Classical.choose_spec he
 have e2 : (Classical.choose he).name = g.name := by
   generalize Classical.choose he = g' at e
   injection e with e _
   injection e with e
   injection e with e
   unfold Gun.cells at e
   injection e with e _
   injection e with e
   exact e.symm
 rw [e2]
theorem ok174 {bw : Nat} {ws : List ByteArray} : EntOk Tryz.prog (174, g174 bw ws) := by
 intro args H n v H' n' h
 simp only [g174] at h
 split at h
 · rename_i he
   obtain ⟨e, hK⟩ := Classical.choose_spec he
   generalize Classical.choose he = g at e h
   injection h with h; injection h with e1 e2; injection e2 with e2 e3; subst e1 e2 e3
   rw [e]
   exact w174 g hK
 · cases h
abbrev cl174 (bw : Nat) : Value := .func (.func 174) #[] #[.pointer (some ⟨bw, 0, none⟩)]
def dropAt (l : List Gun) (ws : List ByteArray) (i : Nat) : Bool := match l[i]? with
 | some g => hasW g.name ws
 | none => false
theorem dropAt_at {l : List Gun} {ws : List ByteArray} {i : Nat} (h : i < l.length) : dropAt l ws i = hasW l[i].name ws := by
 unfold dropAt
 rw [List.getElem?_eq_getElem h]
set_option maxRecDepth 20000 in
set_option maxHeartbeats 1000000 in
theorem w191D {H : Heap} {n bw : Nat} {v : Value} {l : List Gun} {ws : List ByteArray} (hG : GunsAt H v l) (hK : KDel bw ws H) : AC Tryz.prog 191 [v, cl174 bw] H n (iv (fstT (dropAt l ws) l.length)) H n := by
 refine AC.given fun hold hsc hgn => AC.tidied (B := []) (by simp) ?_
 have hlt0 := fun k b h => (hold k b h).1
 replace hK := hK.tidy hlt0
 replace hG := hG.tidy hlt0
 have hr := recT_ok (P := Tryz.prog) (l := [(174, g174 bw ws)]) (by simp only [List.forall_mem_cons]; exact ⟨ok174, by simp⟩)
 obtain ⟨ga, gc, rfl, hgf, hgc, hg0, hg31⟩ := hG
 refine AC.pure Tryz.func191 rfl (by kernel_rfl) rfl [0, 1, 7, 8] rfl ?_
 refine E.seq (E.reg hr (by simp; rfl) ?_)
 refine E.seq (E.seq (E.reg hr (by simp; rfl) ?_))
 refine E.block (E.loop ?_)
 refine EL.ind (fun i : Nat => { fr := [(0, .slice (some ga) l.length gc), (1, cl174 bw), (7, iv l.length), (8, iv i)], sz := 19, H := tidy n H, n := n, marks := [], vs := [0, 1, 7, 8] }) (fun i => l.length - i) (fun i => i ≤ l.length ∧ ∀ j, j < i → dropAt l ws j = false) 0 (.keep rfl rfl rfl (by simp) (Sub.refl _)) ⟨Nat.zero_le _, fun j hj => by omega⟩ (fun _ => rfl) ?_
 rintro i ⟨hi, hb⟩
 have hw : IntKind.i64.wrap ((i : Int) + 1) = (i : Int) + 1 := W_in (by omega) (by omega)
 refine E.seq (E.reg hr (by simp; rfl) ?_)
 refine E.seq ?_
 by_cases hil : i < l.length
 · have hilI : (i : Int) < l.length := by omega
   have he := dropAt_at (ws := ws) hil
   have hgk := cells_part hgc hil
   rw [gcs_atB hil] at hgk
   obtain ⟨g, hg⟩ : ∃ g, l[i] = g := ⟨_, rfl⟩
   rw [hg] at hgk he
   have h174 := fun m => g174_at (n := m) g hK
   obtain ⟨z, hz⟩ : ∃ z, hasW g.name ws = z := ⟨_, rfl⟩
   rw [hz] at he h174
   refine E.cond (t := true) (by simp [hil]) (fun _ => ?_) (fun h => by cases h)
   refine E.skip (E.seq ?_)
   refine E.block (E.seq (E.reg hr (by simp; rfl) ?_))
   refine E.seq (E.reg hr (by simp [-cellsA, -cellA, -flat, hilI, hgf, hgk, h174]; rfl) ?_)
   cases z
   · refine E.cond (t := false) (by simp) (fun h => by cases h) (fun _ => ?_)
     refine E.skip (E.reg hr (by simp [hw]; rfl) ?_)
     refine ⟨i + 1, .keep rfl rfl rfl (by simp) (Sub.refl _), ⟨hil, fun j hj => ?_⟩, by dsimp only; omega⟩
     by_cases hji : j = i
     · subst hji; exact he
     · exact hb j (by omega)
   · refine E.cond (t := true) (by simp) (fun _ => ?_) (fun h => by cases h)
     refine E.seq (E.reg hr (by simp; rfl) ?_)
     refine E.ret ?_
     have := fstT_hit hil he hb
     exact pureK.ret rfl rfl (by simp [this]) (Sub.refl _)
 · have hil' : i = l.length := by omega
   subst hil'
   refine E.cond (t := false) (by simp) (fun h => by cases h) (fun _ => ?_)
   refine E.exit ?_
   refine E.seq (E.reg hr (by simp; rfl) ?_)
   refine E.ret ?_
   have := fstT_miss hb
   exact pureK.ret rfl rfl (by simp [this]) (Sub.refl _)
open Classical in
noncomputable def g191D (bw : Nat) (ws : List ByteArray) (args : List Value) (H : Heap) (n : Nat) : R := match args with
 | [v, f] => if h : ∃ l, GunsAt H v l then (if f = cl174 bw ∧ KDel bw ws H then some (iv (fstT (dropAt (Classical.choose h) ws) (Classical.choose h).length), H, n) else none) else none
 | _ => none
theorem g191D_at {H : Heap} {n bw : Nat} {v : Value} {l : List Gun} {ws : List ByteArray} (hG : GunsAt H v l) (hK : KDel bw ws H) : g191D bw ws [v, cl174 bw] H n = some (iv (fstT (dropAt l ws) l.length), H, n) := by
 have he : ∃ l, GunsAt H v l := ⟨l, hG⟩
 simp only [g191D]
 rw [dif_pos he, if_pos ⟨rfl, hK⟩, (Classical.choose_spec he).one hG]
theorem ok191D {bw : Nat} {ws : List ByteArray} : EntOk Tryz.prog (191, g191D bw ws) := by
 intro args H n v H' n' h
 simp only [g191D] at h
 split at h
 · split at h
   · rename_i he
     split at h
     · rename_i hc
       obtain ⟨rfl, hK⟩ := hc
       injection h with h; injection h with e1 e2; injection e2 with e2 e3; subst e1 e2 e3
       exact w191D (Classical.choose_spec he) hK
     · cases h
   · cases h
 · cases h
theorem slice_loE {fr : Fr} {H : Heap} {n m L : Nat} {x y : Operand} {Z : List Gun} {i : Nat} (hg : RowG H m Z) (hi : i < Z.length) (hL : L = Z.length) (hx : evO Tryz.prog fr x = some (.slice (some ⟨m, 0, some 0⟩) L 0)) (hy : evO Tryz.prog fr y = some (iv i)) :
   opSlice Tryz.prog 30 x (some y) none none fr H n = some (.slice (some ⟨m, i * 7, some 0⟩) (L - i) i, H, n) := by
 have h1 : i ≤ L := by omega
 have h2 : L ≤ Z.length := by omega
 simp only [opSlice, hx, evI, hy, Tryz.underlying30, show szA Tryz.prog 95 = some 7 from by simp, used_row hg]
 simp [sliceA, boundA, hi, h1, h2]
theorem zc0 : (Builtin.zeroCells (Value.agg ⟨zeroG.cells⟩).cells 0).toList = gcs (List.replicate 0 zeroG) := by kernel_rfl
theorem zc1 : (Builtin.zeroCells (Value.agg ⟨zeroG.cells⟩).cells 1).toList = gcs (List.replicate 1 zeroG) := by kernel_rfl
theorem zc2 : (Builtin.zeroCells (Value.agg ⟨zeroG.cells⟩).cells 2).toList = gcs (List.replicate 2 zeroG) := by kernel_rfl
theorem zc3 : (Builtin.zeroCells (Value.agg ⟨zeroG.cells⟩).cells 3).toList = gcs (List.replicate 3 zeroG) := by kernel_rfl
theorem zc4 : (Builtin.zeroCells (Value.agg ⟨zeroG.cells⟩).cells 4).toList = gcs (List.replicate 4 zeroG) := by kernel_rfl
theorem zc5 : (Builtin.zeroCells (Value.agg ⟨zeroG.cells⟩).cells 5).toList = gcs (List.replicate 5 zeroG) := by kernel_rfl
theorem zc6 : (Builtin.zeroCells (Value.agg ⟨zeroG.cells⟩).cells 6).toList = gcs (List.replicate 6 zeroG) := by kernel_rfl
theorem zc7 : (Builtin.zeroCells (Value.agg ⟨zeroG.cells⟩).cells 7).toList = gcs (List.replicate 7 zeroG) := by kernel_rfl
theorem zc8 : (Builtin.zeroCells (Value.agg ⟨zeroG.cells⟩).cells 8).toList = gcs (List.replicate 8 zeroG) := by kernel_rfl
theorem zeroCells_gcs : ∀ k, k ≤ 8 → (Builtin.zeroCells (Value.agg ⟨zeroG.cells⟩).cells k).toList = gcs (List.replicate k zeroG)
 | 0, _ => zc0
 | 1, _ => zc1
 | 2, _ => zc2
 | 3, _ => zc3
 | 4, _ => zc4
 | 5, _ => zc5
 | 6, _ => zc6
 | 7, _ => zc7
 | 8, _ => zc8
 | _ + 9, h => by omega
theorem row_tail {H : Heap} {m i d : Nat} {Z : List Gun} (h : hget H m = some (.ext (gcs Z) 95 7)) (hd : i + d = Z.length) (X : List Gun) (hX : X.length = d) : storeA H m (i * 7) (gcs X) = some (hset H m (.ext (gcs (Z.take i ++ X)) 95 7)) := by
 have h1 := gcs_length Z
 have h2 := gcs_length X
 unfold storeA
 rw [h]
 simp only
 rw [if_pos (by omega)]
 have h5 : putL (gcs Z) (i * 7) (gcs X) = gcs (Z.take i ++ X) := by
   unfold putL
   rw [gcs_takeN, List.drop_eq_nil_of_le (by omega), List.append_nil, gcs_appendB]
 rw [h5]
theorem clear_tail {H : Heap} {n m i d : Nat} {Z : List Gun} (h : hget H m = some (.ext (gcs Z) 95 7)) (hd : i + d = Z.length) (h0 : 0 < d) (h8 : d ≤ 8) : builtinA Tryz.prog .clear #[30] H n [.slice (some ⟨m, i * 7, some 0⟩) d i] = some (undefV, hset H m (.ext (gcs (Z.take i ++ List.replicate d zeroG)) 95 7), n) := by
 have hu : Tryz.prog.underlying 30 = some (.slice 95) := Tryz.underlying30
 have hz : zeroA Tryz.prog 95 = some (.agg ⟨zeroG.cells⟩) := by kernel_rfl
 have hzc := zeroCells_gcs d h8
 have hst := row_tail h hd (List.replicate d zeroG) (List.length_replicate ..)
 have haf : afL (gcs (List.replicate d zeroG)) = true := gcs_afB _
 have hon : oneL (gcs (List.replicate d zeroG)) = true := oneL_gcs _
 obtain ⟨d', rfl⟩ : ∃ d', d = d' + 1 := ⟨d - 1, by omega⟩
 unfold builtinA
 simp only [List.getElem?_toArray, List.getElem?_cons_zero, hu, hz, hzc, haf, hon, flat, Nat.beq_refl, Bool.and_self, if_true, hst]
theorem KDel.set {H H' : Heap} {bw b : Nat} {ws : List ByteArray} {cs : List Value} (h : KDel bw ws H) (hb : hget H b = some (.ext cs 95 7)) (hk : ∀ k c, k ≠ b → hget H k = some c → hget H' k = some c) : KDel bw ws H' := by
 obtain ⟨u, h1, h2⟩ := h
 refine ⟨u, hk _ _ (fun e => by rw [e, hb] at h1; cases h1) h1, ?_⟩
 rcases h2 with ⟨c, e, h3, h4⟩ | h2
 · refine .inl ⟨c, e, ?_, h4⟩
   rcases h3 with h3 | h3
   · exact .inl (hk _ _ (fun e => by rw [e, hb] at h3; injection h3 with h3; injection h3 with _ h3; cases h3) h3)
   · exact .inr (hk _ _ (fun e => by rw [e, hb] at h3; cases h3) h3)
 · exact .inr h2
def strucK (l : List Gun) (ws : List ByteArray) : List Gun := keptL l ws l.length ++ List.replicate (l.length - (keptL l ws l.length).length) zeroG
theorem keptL_all {l : List Gun} {ws : List ByteArray} (h : ∀ j, j < l.length → dropAt l ws j = false) : ∀ i, i ≤ l.length → keptL l ws i = l.take i
 | 0, _ => rfl
 | i + 1, hi => by
   rw [keptL_succ hi, keptL_all h i (by omega), List.take_succ_eq_append_getElem hi]
   have := h i hi
   rw [dropAt_at hi] at this
   rw [this]
   rfl
theorem strucK_none {l : List Gun} {ws : List ByteArray} (h : ∀ j, j < l.length → dropAt l ws j = false) : strucK l ws = l ∧ (keptL l ws l.length).length = l.length := by
 have e := keptL_all h l.length (Nat.le_refl _)
 rw [List.take_length] at e
 refine ⟨?_, by rw [e]⟩
 rw [strucK, e, Nat.sub_self]
 simp
theorem set_take_succ {Z : List Gun} {i : Nat} {g : Gun} (hi : i < Z.length) : (Z.set i g).take (i + 1) = Z.take i ++ [g] := by
 rw [List.take_succ_eq_append_getElem (by simpa using hi), List.getElem_set_self, List.take_set_of_le (Nat.le_refl _)]
set_option maxRecDepth 20000 in
set_option maxHeartbeats 2000000 in
theorem w173 {H : Heap} {n b bw : Nat} {l : List Gun} {ws : List ByteArray} (hb : hget H b = some (.ext (gcs l) 95 7)) (h0 : 0 < l.length) (h8 : l.length ≤ 8) (hK : KDel bw ws H) :
   AC Tryz.prog 173 [.slice (some ⟨b, 0, some 0⟩) l.length 0, cl174 bw] H n (.slice (some ⟨b, 0, some 0⟩) (keptL l ws l.length).length 0) (hset H b (.ext (gcs (strucK l ws)) 95 7)) n := by
 refine AC.given fun hold hsc hgn => ?_
 have hbn : b < n := (hold _ _ hb).1
 have hlt0 := fun k b h => (hold k b h).1
 have hr := recT_ok (P := Tryz.prog) (l := [(174, g174 bw ws), (191, g191D bw ws)]) (by simp only [List.forall_mem_cons]; exact ⟨ok174, ok191D, by simp⟩)
 have hG : GunsAt H (.slice (some ⟨b, 0, some 0⟩) l.length 0) l := ⟨_, _, rfl, rfl, by
   rw [cellsA_eq, hb]
   simp only [Option.bind_some, cellsB]
   rw [if_pos (by rw [gcs_length]; omega), List.drop_zero, List.take_of_length_le (by rw [gcs_length]; exact Nat.le_refl _)], h0, by omega⟩
 have h191 := fun m => g191D_at (n := m) hG hK
 refine AC.wroteV Tryz.func173 rfl (by kernel_rfl) rfl [0, 1, 5, 6, 7] rfl hbn (fun k c hk => ?_) ?_
 · rw [hget_set] at hk
   split at hk
   · rename_i e
     subst e
     rw [hb] at hk
     injection hk with hk
     subst hk
     exact ⟨hbn, .inr ⟨⟨_, hb⟩, scL_af _ _ (gcs_afB _)⟩⟩
   · exact ⟨hlt0 _ _ hk, .inl hk⟩
 refine E.seq (E.reg hr (by simp; rfl) ?_)
 refine E.seq ?_
 rcases fstT_cases (dropAt l ws) l.length with ⟨i0, hi0, hd0, hbef, hf⟩ | ⟨hall, hf⟩
 case inr =>
   obtain ⟨e1, e2⟩ := strucK_none hall
   rw [hf] at h191
   rw [e1, e2]
   refine E.reg hr (by simp [h191]; rfl) ?_
   refine E.seq (E.seq (E.reg hr (by simp; rfl) ?_))
   refine E.cond (t := true) (by simp) (fun _ => ?_) (fun h => by cases h)
   refine E.seq (E.reg hr (by simp; rfl) ?_)
   refine E.ret ?_
   refine ⟨.inr rfl, rfl, ⟨_, rfl, rfl⟩, fun k c hk => ?_⟩
   rw [hget_set] at hk
   split at hk
   · rename_i e
     subst e
     rw [hb] at hk ⊢
     exact hk
   · exact hk
 rw [hf] at h191
 have hi0n : ¬ (i0 : Int) = -1 := by omega
 have hkep0 : keptL l ws i0 = l.take i0 := by
   have : ∀ i, i ≤ i0 → keptL l ws i = l.take i := fun i => by
     induction i with
     | zero => intro _; rfl
     | succ i ih =>
       intro hi
       rw [keptL_succ (by omega), ih (by omega), List.take_succ_eq_append_getElem (by omega)]
       have := hbef i (by omega)
       rw [dropAt_at (by omega)] at this
       rw [this]
       rfl
   exact this i0 (Nat.le_refl _)
 have hkep1 : keptL l ws (i0 + 1) = l.take i0 := by
   rw [keptL_succ hi0, hkep0]
   rw [dropAt_at hi0] at hd0
   rw [hd0]
   simp
 have hwi0 : IntKind.i64.wrap ((i0 : Int) + 1) = (i0 : Int) + 1 := W_in (by omega) (by omega)
 refine E.reg hr (by simp [h191]; rfl) ?_
 refine E.seq (E.seq (E.reg hr (by simp; rfl) ?_))
 refine E.cond (t := false) (by simp) (fun h => by cases h) (fun _ => ?_)
 refine E.skip (E.seq ?_)
 refine E.seq (E.reg hr (by simp [hwi0]; rfl) ?_)
 refine E.block (E.loop ?_)
 refine EL.ind (fun x : Nat × Heap × Nat => { fr := [(0, .slice (some ⟨b, 0, some 0⟩) l.length 0), (1, cl174 bw), (5, iv (keptL l ws x.1).length), (6, iv x.1)], sz := 42, H := x.2.1, n := x.2.2, marks := [], vs := [0, 1, 5, 6, 7] }) (fun x => l.length - x.1) (fun x => x.1 ≤ l.length ∧ (keptL l ws x.1).length < x.1 ∧ (∀ k c, k ≠ b → hget H k = some c → hget x.2.1 k = some c) ∧ (∀ k c, hget x.2.1 k = some c → k < x.2.2) ∧ n ≤ x.2.2 ∧ ∃ Z : List Gun, hget x.2.1 b = some (.ext (gcs Z) 95 7) ∧ Z.length = l.length ∧ Z.take (keptL l ws x.1).length = keptL l ws x.1 ∧ Z.drop x.1 = l.drop x.1) (i0 + 1, H, n) (.keep rfl rfl rfl (by simp [hkep1]; omega) (Sub.refl _)) ⟨hi0, by rw [hkep1, List.length_take]; omega, fun _ _ _ h => h, hlt0, Nat.le_refl _, l, hb, rfl, by rw [hkep1, List.length_take, Nat.min_eq_left (by omega)], rfl⟩ (fun _ => rfl) ?_
 rintro ⟨j, Hx, N⟩ ⟨hj, hij, hkeep, hltx, hnN, Z, hZb, hZl, hZt, hZd⟩
 dsimp only at hj hij hkeep hltx hnN hZb hZl hZt hZd ⊢
 obtain ⟨K, hKL⟩ : ∃ K, keptL l ws j = K := ⟨_, rfl⟩
 rw [hKL] at hij hZt ⊢
 obtain ⟨i, hi⟩ : ∃ i, K.length = i := ⟨_, rfl⟩
 rw [hi] at hij hZt ⊢
 have hwj : IntKind.i64.wrap ((j : Int) + 1) = (j : Int) + 1 := W_in (by omega) (by omega)
 have hwi : IntKind.i64.wrap ((i : Int) + 1) = (i : Int) + 1 := W_in (by omega) (by omega)
 refine E.seq (E.seq (E.reg hr (by simp; rfl) ?_))
 by_cases hjl : j < l.length
 · have hjI : (j : Int) < l.length := by omega
   have hiL : i < l.length := by omega
   have hiI : (i : Int) < l.length := by omega
   have hnx := keptL_succ (ws := ws) hjl
   have hZj : Z[j]'(by omega) = l[j] := by
     have h1 : (Z.drop j)[0]? = (l.drop j)[0]? := by rw [hZd]
     rw [List.getElem?_drop, List.getElem?_drop, Nat.add_zero, List.getElem?_eq_getElem (by omega), List.getElem?_eq_getElem hjl] at h1
     exact Option.some.inj h1
   have hcj : cellsA Hx b (j * 7) 7 = some l[j].cells := by
     have h1 : cellsA Hx b 0 (Z.length * 7) = some (gcs Z) := by
       rw [cellsA_eq, hZb]
       simp only [Option.bind_some, cellsB]
       rw [if_pos (by rw [gcs_length]; omega), List.drop_zero, List.take_of_length_le (by rw [gcs_length]; exact Nat.le_refl _)]
     have h2 := cells_part h1 (i := j) (by omega)
     rw [gcs_atB (by omega), hZj, Nat.zero_add] at h2
     exact h2
   have hKx : KDel bw ws Hx := hK.set hb hkeep
   obtain ⟨g, hg⟩ : ∃ g, l[j] = g := ⟨_, rfl⟩
   rw [hg] at hcj hnx
   obtain ⟨Y, hY⟩ : ∃ Y, (N, Blk.cells g.cells 95) :: Hx = Y := ⟨_, rfl⟩
   have hbN : b < N := hltx _ _ hZb
   have hYk : ∀ k c, hget Hx k = some c → hget Y k = some c := fun k c hk => by
     have := hltx k c hk
     rw [← hY, hget_cons, if_neg (by omega)]
     exact hk
   have hYb := hYk _ _ hZb
   have hcY : cellsA Y N 0 7 = some g.cells := by rw [← hY, cellsA_cons, if_pos rfl]; rfl
   have h174 := fun m => g174_at (n := m) g (hKx.mono (H' := Y) hYk)
   obtain ⟨z, hz⟩ : ∃ z, hasW g.name ws = z := ⟨_, rfl⟩
   rw [hz] at h174 hnx
   have hltY : ∀ k c, hget Y k = some c → k < N + 1 := fun k c hk => by
     rw [← hY, hget_cons] at hk
     split at hk
     · omega
     · have := hltx k c hk; omega
   refine E.cond (t := true) (by simp [hjl]) (fun _ => ?_) (fun h => by cases h)
   refine E.skip (E.seq ?_)
   refine E.block (E.seq (E.reg hr (by simp [-cellsA, hjl, hjI, hcj, hY]; rfl) ?_))
   refine E.seq (E.reg hr (by simp [-cellsA, hcY, h174]; rfl) ?_)
   cases z with
   | true =>
     rw [if_pos rfl, List.append_nil, hKL] at hnx
     refine E.cond (t := false) (by simp) (fun h => by cases h) (fun _ => ?_)
     refine E.skip (E.reg hr (by simp [hwj]; rfl) ?_)
     refine ⟨(j + 1, Y, N + 1), .keep rfl rfl rfl (by simp [hnx, hi]) (Sub.refl _), ⟨hjl, by dsimp only; rw [hnx, hi]; omega, fun k c hk h => hYk _ _ (hkeep k c hk h), hltY, by dsimp only; omega, Z, hYb, hZl, by dsimp only; rw [hnx, hi]; exact hZt, ?_⟩, by dsimp only; omega⟩
     dsimp only
     rw [← List.drop_drop, hZd, List.drop_drop]
   | false =>
     rw [if_neg (by decide), hKL] at hnx
     have hput := row_put hYb (j := i) (by omega) g
     obtain ⟨Y2, hY2⟩ : ∃ Y2, hset Y b (.ext (gcs (Z.set i g)) 95 7) = Y2 := ⟨_, rfl⟩
     rw [hY2] at hput
     have hnl : (keptL l ws (j + 1)).length = i + 1 := by rw [hnx, List.length_append, hi]; rfl
     refine E.cond (t := true) (by simp) (fun _ => ?_) (fun h => by cases h)
     refine E.seq (E.reg hr (by simp [-cellsA, -storeA, hiI, hcY, hput]; rfl) ?_)
     refine E.reg hr (by simp [hwi]; rfl) ?_
     refine E.reg hr (by simp [hwj]; rfl) ?_
     refine ⟨(j + 1, Y2, N + 1), .keep rfl rfl rfl (by simp [hnl]) (Sub.refl _), ⟨hjl, by dsimp only; rw [hnl]; omega, fun k c hk h => ?_, fun k c hk => ?_, by dsimp only; omega, Z.set i g, ?_, by rw [List.length_set]; exact hZl, ?_, ?_⟩, by dsimp only; omega⟩
     · dsimp only
       rw [← hY2, hget_set, if_neg (fun e => hk e.symm)]
       exact hYk _ _ (hkeep k c hk h)
     · dsimp only at hk
       rw [← hY2, hget_set] at hk
       split at hk
       · rename_i e; subst e; dsimp only; omega
       · exact hltY k c hk
     · dsimp only
       rw [← hY2, hget_set, if_pos rfl, hYb]
       rfl
     · dsimp only
       rw [hnl, set_take_succ (by omega), hZt, hnx]
     · dsimp only
       rw [List.drop_set_of_lt (by omega), ← List.drop_drop, hZd, List.drop_drop]
 · have hj' : j = l.length := by omega
   subst hj'
   refine E.cond (t := false) (by simp) (fun h => by cases h) (fun _ => ?_)
   refine E.exit ?_
   have hcl := clear_tail (n := N) hZb (i := i) (d := l.length - i) (by omega) (by omega) (by omega)
   have hres : Z.take i ++ List.replicate (l.length - i) zeroG = strucK l ws := by
     rw [strucK, hKL, hi, hZt]
   rw [hres] at hcl
   obtain ⟨Y2, hY2⟩ : ∃ Y2, hset Hx b (.ext (gcs (strucK l ws)) 95 7) = Y2 := ⟨_, rfl⟩
   rw [hY2] at hcl
   have hYb : hget Y2 b = some (.ext (gcs (strucK l ws)) 95 7) := by rw [← hY2, hget_set, if_pos rfl, hZb]; rfl
   have hsl : (strucK l ws).length = l.length := by rw [← hres, List.length_append, List.length_take, List.length_replicate]; omega
   refine E.seq (E.reg hr (by simp [-builtinA, slice_loE (L := l.length) (.inl hZb) (by omega : i < Z.length) hZl.symm, hcl]; rfl) ?_)
   refine E.seq (E.reg hr (by simp [slice_hi (L := l.length) (.inl hYb) (by omega : i ≤ (strucK l ws).length) (by omega)]; rfl) ?_)
   refine E.ret ?_
   refine ⟨.inr rfl, rfl, ⟨_, rfl, by rw [hKL, hi]; rfl⟩, fun k c hk => ?_⟩
   rw [hget_set] at hk
   show hget Y2 k = some c
   rw [← hY2, hget_set]
   split at hk
   · rename_i e
     subst e
     rw [if_pos rfl, hZb]
     rw [hb] at hk
     exact hk
   · rename_i e
     rw [if_neg e]
     exact hkeep k c (fun h => e h.symm) hk
theorem hasW_cons (s w : ByteArray) (ws : List ByteArray) : hasW s (w :: ws) = (decide (s = w) || hasW s ws) := by
 rw [Bool.eq_iff_iff, hasW_iff, Bool.or_eq_true, decide_eq_true_iff, hasW_iff, List.mem_cons]
theorem hasW_nil (s : ByteArray) : hasW s [] = false := by
 rw [Bool.eq_false_iff]
 intro h
 rw [hasW_iff] at h
 cases h
theorem one_out {w : ByteArray} : ∀ {l : List Gun}, (l.map Gun.name).Nodup → w ∈ l.map Gun.name → (l.filter fun g => !decide (g.name = w)).length + 1 = l.length
 | [], _, h => by cases h
 | g :: l, hn, h => by
   rw [List.map_cons, List.nodup_cons] at hn
   rw [List.filter_cons]
   by_cases e : g.name = w
   · rw [if_neg (by simp [e]), List.length_cons]
     have : l.filter (fun g => !decide (g.name = w)) = l := List.filter_eq_self.2 fun x hx => by
       have : x.name ≠ w := fun e' => hn.1 (List.mem_map.2 ⟨x, hx, e'.trans e.symm⟩)
       simp [this]
     rw [this]
   · rw [if_pos (by simp [e]), List.length_cons, List.length_cons]
     rw [List.map_cons, List.mem_cons] at h
     rcases h with h | h
     · exact absurd h.symm e
     · rw [one_out hn.2 h]
theorem stay_len : ∀ {ws : List ByteArray} {l : List Gun}, (l.map Gun.name).Nodup → ws.Nodup → (∀ s ∈ ws, s ∈ l.map Gun.name) → (l.filter fun g => !hasW g.name ws).length + ws.length = l.length
 | [], l, _, _, _ => by
   have : l.filter (fun g => !hasW g.name []) = l := List.filter_eq_self.2 fun x _ => by rw [hasW_nil]; rfl
   rw [this]
   rfl
 | w :: ws, l, hn, hw, hin => by
   have e : l.filter (fun g => !hasW g.name (w :: ws)) = (l.filter fun g => !decide (g.name = w)).filter fun g => !hasW g.name ws := by
     rw [List.filter_filter]
     refine List.filter_congr fun g _ => ?_
     rw [hasW_cons, Bool.not_or, Bool.and_comm]
   rw [List.nodup_cons] at hw
   have h1 := one_out hn (hin w (List.mem_cons_self ..))
   have hn' : ((l.filter fun g => !decide (g.name = w)).map Gun.name).Nodup := hn.sublist (List.Sublist.map _ List.filter_sublist)
   have h2 := stay_len hn' hw.2 fun s hs => by
     obtain ⟨g, hg, rfl⟩ := List.mem_map.1 (hin s (List.mem_cons_of_mem _ hs))
     refine List.mem_map.2 ⟨g, List.mem_filter.2 ⟨hg, ?_⟩, rfl⟩
     have : g.name ≠ w := fun e => hw.1 (e ▸ hs)
     simp [this]
   rw [e, List.length_cons]
   omega
theorem dis_nodup {l : List Gun} (h : Dis l) : (l.map Gun.name).Nodup := by
 rw [List.nodup_iff_pairwise_ne, List.pairwise_iff_getElem]
 intro i j hi hj hij e
 rw [List.getElem_map, List.getElem_map] at e
 have := h i j (by simpa using hi) (by simpa using hj) e
 omega
theorem atV_nameK {l : List Gun} {s : ByteArray} {k : Nat} (h : atV l s l.length = k) (hk : k < l.length) : l[k].name = s := by
 unfold atV at h
 rw [List.take_length] at h
 split at h
 · rename_i i hi
   rw [List.findIdx?_eq_some_iff_getElem] at hi
   obtain ⟨h1, h2, _⟩ := hi
   have : i = k := by omega
   subst this
   simpa using h2
 · omega
theorem dropE_zero {l : List Gun} {ws : List ByteArray} (h : dropE l ws = 0) : ws.Nodup ∧ ∀ s ∈ ws, s ∈ l.map Gun.name := by
 have hat : ∀ i (hi : i < ws.length), 0 ≤ atV l ws[i] l.length ∧ hasW ws[i] (ws.take i) = false := fun i hi => by
   have h1 := (firstV_zero _).1 h (dropC l ws i) (List.mem_map.2 ⟨i, List.mem_range.2 hi, rfl⟩)
   rw [dropC_at hi] at h1
   have h2 := (firstV_zero _).1 h1
   refine ⟨?_, ?_⟩
   · have := h2 (whenV (decide (atV l ws[i] l.length < 0)) 10) (by simp)
     unfold whenV at this
     split at this
     · cases this
     · rename_i h3
       rw [decide_eq_true_iff] at h3
       omega
   · have := h2 (whenV (hasW ws[i] (ws.take i)) 9) (by simp)
     unfold whenV at this
     split at this
     · cases this
     · rename_i h3
       exact Bool.eq_false_iff.2 h3
 refine ⟨?_, fun s hs => ?_⟩
 · rw [List.nodup_iff_pairwise_ne, List.pairwise_iff_getElem]
   intro i j hi hj hij e
   have := (hat j hj).2
   rw [Bool.eq_false_iff] at this
   refine this (hasW_iff.2 ?_)
   rw [← e, List.mem_take_iff_getElem]
   exact ⟨i, by omega, rfl⟩
 · obtain ⟨i, hi, rfl⟩ := List.getElem_of_mem hs
   obtain ⟨k, hk, hl⟩ := atV_lt (hat i hi).1
   exact List.mem_map.2 ⟨l[k], List.getElem_mem _, atV_nameK hk hl⟩
theorem kept_count {l : List Gun} {ws : List ByteArray} (hst : strE l = 0) (h : dropE l ws = 0) : (keptL l ws l.length).length + ws.length = l.length := by
 obtain ⟨h1, h2⟩ := dropE_zero h
 unfold keptL
 rw [List.take_length]
 exact stay_len (dis_nodup (strE_zero hst).2.2.1) h1 h2
def wioE (l : List Gun) (ws : List ByteArray) : Int := if strE l = 0 then firstV [dropE l ws, whenV (decide (ws.length = l.length)) 12] else strE l
theorem wioE_zero {l : List Gun} {ws : List ByteArray} (h : wioE l ws = 0) : strE l = 0 ∧ dropE l ws = 0 ∧ 0 < (keptL l ws l.length).length := by
 unfold wioE at h
 split at h
 · rename_i h0
   have h1 := (firstV_zero _).1 h
   have h2 := h1 (dropE l ws) (by simp)
   have h3 := h1 (whenV (decide (ws.length = l.length)) 12) (by simp)
   refine ⟨h0, h2, ?_⟩
   have := kept_count h0 h2
   unfold whenV at h3
   split at h3
   · cases h3
   · rename_i h4
     rw [decide_eq_true_iff] at h4
     omega
 · rename_i h0
   exact absurd h h0
open Classical in
noncomputable def g173 (b bw : Nat) (l : List Gun) (ws : List ByteArray) (args : List Value) (H : Heap) (n : Nat) : R := if args = [.slice (some ⟨b, 0, some 0⟩) l.length 0, cl174 bw] ∧ hget H b = some (.ext (gcs l) 95 7) ∧ 0 < l.length ∧ l.length ≤ 8 ∧ KDel bw ws H then some (.slice (some ⟨b, 0, some 0⟩) (keptL l ws l.length).length 0, hset H b (.ext (gcs (strucK l ws)) 95 7), n) else none
theorem g173_at {b bw : Nat} {l : List Gun} {ws : List ByteArray} {H : Heap} {n : Nat} (hb : hget H b = some (.ext (gcs l) 95 7)) (h0 : 0 < l.length) (h8 : l.length ≤ 8) (hK : KDel bw ws H) : g173 b bw l ws [.slice (some ⟨b, 0, some 0⟩) l.length 0, cl174 bw] H n = some (.slice (some ⟨b, 0, some 0⟩) (keptL l ws l.length).length 0, hset H b (.ext (gcs (strucK l ws)) 95 7), n) := by
 unfold g173
 rw [if_pos ⟨rfl, hb, h0, h8, hK⟩]
theorem ok173 {b bw : Nat} {l : List Gun} {ws : List ByteArray} : EntOk Tryz.prog (173, g173 b bw l ws) := by
 intro args H n v H' n' h
 simp only [g173] at h
 split at h
 · rename_i hc
   obtain ⟨rfl, h1, h2, h3, h4⟩ := hc
   injection h with h; injection h with e1 e2; injection e2 with e2 e3; subst e1 e2 e3
   exact w173 h1 h2 h3 h4
 · cases h
noncomputable def wioK (l : List Gun) (ws : List ByteArray) : Nat := if wioE l ws = 0 then (keptL l ws l.length).length else 0
set_option maxRecDepth 20000 in
set_option maxHeartbeats 2000000 in
theorem w97 {H : Heap} {n : Nat} {x u : Value} {l : List Gun} {ws : List ByteArray} (hx : OwnS H x l) (hW : OwnW H u ws) :
   AC Tryz.prog 97 [x, u] H n (.tuple #[.agg ⟨[outS n (wioK l ws)]⟩, iv (wioE l ws)]) (outSB n 95 7 (wioK l ws) (gcs (strucK l ws)) ++ H) (n + 1) := by
 refine AC.given fun hold hsc hgn => AC.tidied (fun x hx => outSB_ge x hx) ?_
 have hlt0 := fun k b h => (hold k b h).1
 replace hx := hx.tidy hlt0
 replace hW := hW.tidy hlt0
 obtain ⟨v, rfl⟩ := hx.box
 obtain ⟨ua, uL, uc, rfl, huL⟩ : ∃ ua L c, u = .slice ua L c ∧ L = ws.length := by
   rcases hW with ⟨b, e, _⟩ | ⟨e0, oa, c, e⟩
   · exact ⟨_, _, _, e, rfl⟩
   · exact ⟨_, _, _, e, by rw [e0]; rfl⟩
 obtain ⟨u, hu⟩ : ∃ u, Value.slice ua uL uc = u := ⟨_, rfl⟩
 rw [hu] at hW
 have hr := recT_ok (P := Tryz.prog) (l := [(31, g31), (159, g159), (114, g114), (113, g113), (142, g142), (173, g173 (n + 1 + 1 + 1 + 1) (n + 1) l ws)]) (by simp only [List.forall_mem_cons]; exact ⟨ok31, ok159, ok114, ok113, ok142, ok173, by simp⟩)
 have hM : MemOk n (tidy n H) := ⟨namesOk_tidy, by simp⟩
 obtain ⟨hM1, hS1⟩ := hM.put (b := Blk.cells [v] 32) rfl
 obtain ⟨hM2, hS2⟩ := hM1.put (b := Blk.cells [u] 102) (by rw [← hu]; rfl)
 obtain ⟨hM3, hS3⟩ := hM2.put (b := Blk.cells [.slice none 0 0] 32) rfl
 obtain ⟨X0, hX0⟩ : ∃ X0, (n + 1 + 1, Blk.cells [.slice none 0 0] 32) :: (n + 1, Blk.cells [u] 102) :: (n, Blk.cells [v] 32) :: tidy n H = X0 := ⟨_, rfl⟩
 have hS0 : Sub (tidy n H) X0 := by rw [← hX0]; exact hS1.trans (hS2.trans hS3)
 rw [hX0] at hM3
 have hb0 : hget X0 n = some (.cells [v] 32) := by rw [← hX0, hget_cons, if_neg (by omega), hget_cons, if_neg (by omega), hget_cons, if_pos rfl]
 have hb1 : hget X0 (n + 1) = some (.cells [u] 102) := by rw [← hX0, hget_cons, if_neg (by omega), hget_cons, if_pos rfl]
 have hb2 : hget X0 (n + 1 + 1) = some (.cells [.slice none 0 0] 32) := by rw [← hX0, hget_cons, if_pos rfl]
 have hc0 : ∀ {X}, Sub X0 X → cellsA X n 0 1 = some [v] := fun h => by rw [cellsA_eq, h _ _ hb0]; rfl
 have hd0 : ∀ {X}, Sub X0 X → cellA X n 0 = some v := fun h => by rw [cellA_eq, h _ _ hb0]; rfl
 have hc1 : ∀ {X}, Sub X0 X → cellA X (n + 1) 0 = some u := fun h => by rw [cellA_eq, h _ _ hb1]; rfl
 have hres : Tryz.f97.results.toList = [.cell 4 32, .tmp 5] := by kernel_rfl
 have build0 : ∀ fr X m, opBuild Tryz.prog 32 #[] fr X m = some (.agg ⟨[.slice none 0 0]⟩, X, m) := fun _ _ _ => by kernel_rfl
 have hT2 : hget (tidy n H) (n + 1 + 1) = none := namesOk_none namesOk_tidy _ (by omega)
 have hend : ∀ {X : Heap} {e : Int}, Sub X0 X → Fresh n (n + 1) (tidy n H) (.tuple #[.agg ⟨[outS n 0]⟩, iv e]) (outSB n 95 7 0 (gcs (strucK l ws))) (.tuple #[.agg ⟨[.slice none 0 0]⟩, iv e]) (hset X (n + 1 + 1) (.cells [.slice none 0 0] 32)) := fun {X e} h => by
   refine Fresh.pairA (fresh_none ?_) e
   intro k c hk
   rw [hget_set]
   split
   · rename_i e; subst e; rw [hT2] at hk; cases hk
   · exact h _ _ (hS0 _ _ hk)
 obtain ⟨z1, hz1⟩ : ∃ z, strE l = z := ⟨_, rfl⟩
 have h31 : ∀ m, g31 [.agg ⟨[v]⟩] X0 m = some (iv z1, X0, m) := fun m => by rw [← hz1]; exact (hx.mono hS0).check m
 refine AC.grownA Tryz.func97 rfl (by kernel_rfl) rfl [0, 1, 2, 3, 4, 5, 6, 7] ?_
 refine E.seq (E.reg hr (by simp; rfl) ?_)
 rw [hu, hX0]
 refine E.seq (E.seq (E.reg hr (by simp [-cellsA, hc0 (Sub.refl X0), h31]; rfl) ?_))
 refine E.seq (E.reg hr (by simp; rfl) ?_)
 by_cases hz0 : z1 = 0
 case neg =>
   have hE : wioE l ws = z1 := by rw [wioE, hz1, if_neg hz0]
   have hk : wioK l ws = 0 := by rw [wioK, hE, if_neg hz0]
   rw [hE, hk]
   have hsto : storeA X0 (n + 1 + 1) 0 [.slice none 0 0] = some (hset X0 (n + 1 + 1) (.cells [.slice none 0 0] 32)) := store_at hb2 (by simp)
   obtain ⟨Hw, hHw⟩ : ∃ Hw, hset X0 (n + 1 + 1) (.cells [.slice none 0 0] 32) = Hw := ⟨_, rfl⟩
   have hbw : cellsA Hw (n + 1 + 1) 0 1 = some [.slice none 0 0] := by rw [cellsA_eq, ← hHw, hget_set, if_pos rfl, hb2]; rfl
   rw [hHw] at hsto
   refine E.cond (t := true) (by simp [hz0]) (fun _ => ?_) (fun h => by cases h)
   refine E.seq (E.reg hr (by simp [-storeA, build0, hsto]; rfl) ?_)
   refine E.ret ?_
   refine outK.ret (vs := [.agg ⟨[.slice none 0 0]⟩, iv z1]) rfl (by show resultsA _ _ _ Tryz.f97.results.toList = _; rw [hres]; simp [-cellsA, resultsA, resultA, hbw]) ?_
   rw [← hHw]
   exact hend (Sub.refl _)
 refine E.cond (t := false) (by simp [hz0]) (fun h => by cases h) (fun _ => ?_)
 refine E.skip ?_
 have hst : strE l = 0 := hz1.trans hz0
 obtain ⟨h1, h8⟩ := strE_len hst
 obtain ⟨v', e, hG⟩ := hx.own hst
 injection e with e
 injection e with e
 injection e with e e'
 subst e
 clear e'
 obtain ⟨bg, ev, _⟩ := id hG
 obtain ⟨y1, hy1⟩ : ∃ z, dropE l ws = z := ⟨_, rfl⟩
 have h159 : ∀ m, g159 [.agg ⟨[v]⟩, u] X0 m = some (iv y1, X0, m) := fun m => by rw [← hy1]; exact g159_at (hG.guns.mono hS0) (hW.mono hS0)
 obtain ⟨y2, hy2⟩ : ∃ z, whenV (decide (ws.length = l.length)) 12 = z := ⟨_, rfl⟩
 obtain ⟨y, hy⟩ : ∃ z, firstV [y1, y2] = z := ⟨_, rfl⟩
 have hE : wioE l ws = y := by rw [wioE, if_pos hst, hy1, hy2, hy]
 obtain ⟨X1, hX1⟩ : ∃ X1, (n + 1 + 1 + 1, Blk.cells [iv y1, iv y2] 27) :: X0 = X1 := ⟨_, rfl⟩
 obtain ⟨hM4, hS4⟩ := hM3.put (b := Blk.cells [iv y1, iv y2] 27) rfl
 rw [hX1] at hM4 hS4
 have h113 : ∀ m, g113 [.slice (some ⟨n + 1 + 1 + 1, 0, none⟩) 2 2] X1 m = some (iv y, X1, m) := fun m => by
   have : intsAt X1 ⟨n + 1 + 1 + 1, 0, none⟩ 2 = some [y1, y2] := intsAt_iv rfl (by rw [← hX1, cellsA_cons, if_pos rfl]; rfl) (by omega)
   simp only [g113, this, Option.map_some, hy]
 have hdec : decide ((ws.length : Int) = l.length) = decide (ws.length = l.length) := by
   rw [decide_eq_decide]; omega
 have h114 : ∀ X m, g114 [.bool (decide ((ws.length : Int) = l.length)), .int .i64 12] X m = some (iv y2, X, m) := fun X m => by rw [hdec, ← hy2]; rfl
 have hm0 := hM3.1
 have hm0' : namesOk (n + 1 + 1 + 1 + 1) X0 = true := namesOk_mono (by omega) _ hm0
 have htk := takeNew_frz hm0
 have x1 : n < n + 1 + 1 + 1 := by omega
 have x2 : n + 1 < n + 1 + 1 + 1 := by omega
 have x3 : n + 1 + 1 < n + 1 + 1 + 1 := by omega
 subst hu huL
 subst ev
 have c0 := hc0 (Sub.refl X0)
 have c1 := hc1 (Sub.refl X0)
 have d0 := hd0 (Sub.refl X0)
 have c0f : cellsA (frzH X0) n 0 1 = some [.slice (some ⟨bg, 0, some 0⟩) l.length 0] := by rw [cellsA_frz, c0]
 have d0f : cellA (frzH X0) n 0 = some (.slice (some ⟨bg, 0, some 0⟩) l.length 0) := by rw [cellA_frz, d0]
 have c1f : cellA (frzH X0) (n + 1) 0 = some (.slice ua ws.length uc) := by rw [cellA_frz, c1]
 have h159f : ∀ m, g159 [.agg ⟨[.slice (some ⟨bg, 0, some 0⟩) l.length 0]⟩, .slice ua ws.length uc] (frzH X0) m = some (iv y1, frzH X0, m) := fun m => by rw [← hy1]; exact g159_at (hG.guns.mono hS0).frzA (hW.mono hS0).frz
 refine E.seq (E.seq ?_)
 refine E.drawU mixed hr [9, 10, 11] [2, 9, 10, 11] [0, 1, 2, 9, 10, 11] (by kernel_rfl) (by simp [-cellsA, -cellA, -readA, cellA_read, cellsA_read, hm0, hM3.2, htk, x1, x2, c0, c1, d0, h159f, h114, hX1, h113, hM4.1]; rfl) ?_
 refine E.seq (E.reg hr (by simp; rfl) ?_)
 have hS01 : Sub X0 X1 := hS4
 by_cases hy0 : y = 0
 case neg =>
   have hk : wioK l ws = 0 := by rw [wioK, hE, if_neg hy0]
   rw [hE, hk]
   have hb2x := hS01 _ _ hb2
   have hsto : storeA X1 (n + 1 + 1) 0 [.slice none 0 0] = some (hset X1 (n + 1 + 1) (.cells [.slice none 0 0] 32)) := store_at hb2x (by simp)
   obtain ⟨Hw, hHw⟩ : ∃ Hw, hset X1 (n + 1 + 1) (.cells [.slice none 0 0] 32) = Hw := ⟨_, rfl⟩
   have hbw : cellsA Hw (n + 1 + 1) 0 1 = some [.slice none 0 0] := by rw [cellsA_eq, ← hHw, hget_set, if_pos rfl, hb2x]; rfl
   rw [hHw] at hsto
   refine E.cond (t := true) (by simp [hy0]) (fun _ => ?_) (fun h => by cases h)
   refine E.seq (E.reg hr (by simp [-storeA, build0, hsto]; rfl) ?_)
   refine E.ret ?_
   refine outK.ret (vs := [.agg ⟨[.slice none 0 0]⟩, iv y]) rfl (by show resultsA _ _ _ Tryz.f97.results.toList = _; rw [hres]; simp [-cellsA, resultsA, resultA, hbw]) ?_
   rw [← hHw]
   exact hend hS01
 have hE0 : wioE l ws = 0 := hE.trans hy0
 obtain ⟨_, hdz, hkp⟩ := wioE_zero hE0
 have hk : wioK l ws = (keptL l ws l.length).length := by rw [wioK, hE0, if_pos rfl]
 rw [hE0, hk]
 obtain ⟨kl, hkl⟩ : ∃ kl, (keptL l ws l.length).length = kl := ⟨_, rfl⟩
 rw [hkl] at hkp ⊢
 have hk0 : kl ≠ 0 := by omega
 obtain ⟨X2, hX2⟩ : ∃ X2, (n + 1 + 1 + 1 + 1, Blk.ext (gcs l) 95 7) :: X1 = X2 := ⟨_, rfl⟩
 have hS5 : Sub X1 X2 := by rw [← hX2]; exact Sub.cons (hM4.none (Nat.le_refl _)) (Sub.refl _)
 have d1 : cellA X1 n 0 = some (.slice (some ⟨bg, 0, some 0⟩) l.length 0) := hd0 hS01
 have h142 : ∀ m, m = n + 1 + 1 + 1 + 1 → g142 [.slice (some ⟨bg, 0, some 0⟩) l.length 0] X1 m = some (.slice (some ⟨n + 1 + 1 + 1 + 1, 0, some 0⟩) l.length 0, X2, n + 1 + 1 + 1 + 1 + 1) := fun m hm => by
   subst hm
   simp only [g142, gunsOf_atB (hG.guns.mono (hS0.trans hS01)), Option.map_some, hX2]
 have hbN : hget X2 (n + 1 + 1 + 1 + 1) = some (.ext (gcs l) 95 7) := by rw [← hX2, hget_cons, if_pos rfl]
 have hK : KDel (n + 1) ws X2 := ⟨_, hS5 _ _ (hS01 _ _ hb1), hW.mono (hS0.trans (hS01.trans hS5))⟩
 obtain ⟨X3, hX3⟩ : ∃ X3, hset X2 (n + 1 + 1 + 1 + 1) (.ext (gcs (strucK l ws)) 95 7) = X3 := ⟨_, rfl⟩
 have h173 : ∀ m, g173 (n + 1 + 1 + 1 + 1) (n + 1) l ws [.slice (some ⟨n + 1 + 1 + 1 + 1, 0, some 0⟩) l.length 0, cl174 (n + 1)] X2 m = some (.slice (some ⟨n + 1 + 1 + 1 + 1, 0, some 0⟩) kl 0, X3, m) := fun m => by
   rw [g173_at hbN h1 h8 hK, hkl, hX3]
 have hb3 : hget X3 (n + 1 + 1) = some (.cells [.slice none 0 0] 32) := by
   rw [← hX3, hget_set, if_neg (by omega)]
   exact hS5 _ _ (hS01 _ _ hb2)
 have hbK : hget X3 (n + 1 + 1 + 1 + 1) = some (.ext (gcs (strucK l ws)) 95 7) := by rw [← hX3, hget_set, if_pos rfl, hbN]; rfl
 have hsto : storeA X3 (n + 1 + 1) 0 [.slice (some ⟨n + 1 + 1 + 1 + 1, 0, some 0⟩) kl 0] = some (hset X3 (n + 1 + 1) (.cells [.slice (some ⟨n + 1 + 1 + 1 + 1, 0, some 0⟩) kl 0] 32)) := store_at hb3 (by simp)
 obtain ⟨Hw, hHw⟩ : ∃ Hw, hset X3 (n + 1 + 1) (.cells [.slice (some ⟨n + 1 + 1 + 1 + 1, 0, some 0⟩) kl 0] 32) = Hw := ⟨_, rfl⟩
 have hbw : cellsA Hw (n + 1 + 1) 0 1 = some [.slice (some ⟨n + 1 + 1 + 1 + 1, 0, some 0⟩) kl 0] := by rw [cellsA_eq, ← hHw, hget_set, if_pos rfl, hb3]; rfl
 have hbKw : hget Hw (n + 1 + 1 + 1 + 1) = some (.ext (gcs (strucK l ws)) 95 7) := by rw [← hHw, hget_set, if_neg (by omega)]; exact hbK
 have hold' : ∀ k c, hget (tidy n H) k = some c → hget Hw k = some c := fun k c hk => by
   have hkn : k < n := hM.lt hk
   rw [← hHw, hget_set, if_neg (by omega), ← hX3, hget_set, if_neg (by omega)]
   exact hS5 _ _ (hS01 _ _ (hS0 _ _ hk))
 rw [hHw] at hsto
 refine E.cond (t := false) (by simp [hy0]) (fun h => by cases h) (fun _ => ?_)
 refine E.skip (E.seq (E.reg hr (by simp [-cellsA, -cellA, -storeA, opMakefunc, d1, h142, h173, hsto, build32 (a := some ⟨n + 1 + 1 + 1 + 1, 0, some 0⟩) (k := kl) (c := 0)]; rfl) ?_))
 refine E.ret ?_
 refine outK.ret (vs := [.agg ⟨[.slice (some ⟨n + 1 + 1 + 1 + 1, 0, some 0⟩) kl 0]⟩, iv 0]) rfl (by show resultsA _ _ _ Tryz.f97.results.toList = _; rw [hres]; simp [-cellsA, resultsA, resultA, hbw]) ?_
 rw [outS_ne hk0, outSB, if_neg hk0]
 refine Fresh.pairA (v := .slice (some ⟨n, 0, some 0⟩) kl 0) (u := .slice (some ⟨n + 1 + 1 + 1 + 1, 0, some 0⟩) kl 0) ⟨fun k => if k = n then n + 1 + 1 + 1 + 1 else k, fun k hk => if_neg (by omega), by simp [ren], fun k c hk => ?_, fun j c k c' hj hk _ => ?_, hold'⟩ 0
 · rw [hget_cons] at hk
   split at hk
   · rename_i e; subst e; injection hk with hk; subst hk
     exact ⟨Nat.le_refl _, Nat.lt_succ_self _, by simp, by simp [renB, renL_gcs, hbKw], scL_af _ _ (gcs_afB _), trivial, rfl⟩
   · cases hk
 · rw [hget_cons] at hj hk
   split at hj
   · split at hk
     · omega
     · cases hk
   · cases hj
open Classical in
noncomputable def g97 (args : List Value) (H : Heap) (n : Nat) : R := match args with
 | [x, u] => if h : ∃ p : List Gun × List ByteArray, OwnS H x p.1 ∧ OwnW H u p.2 then some (.tuple #[.agg ⟨[outS n (wioK (Classical.choose h).1 (Classical.choose h).2)]⟩, iv (wioE (Classical.choose h).1 (Classical.choose h).2)], outSB n 95 7 (wioK (Classical.choose h).1 (Classical.choose h).2) (gcs (strucK (Classical.choose h).1 (Classical.choose h).2)) ++ H, n + 1) else none
 | _ => none
theorem g97_at {H : Heap} {n : Nat} {x u : Value} {l : List Gun} {ws : List ByteArray} (hx : OwnS H x l) (hW : OwnW H u ws) : g97 [x, u] H n = some (.tuple #[.agg ⟨[outS n (wioK l ws)]⟩, iv (wioE l ws)], outSB n 95 7 (wioK l ws) (gcs (strucK l ws)) ++ H, n + 1) := by
 have he : ∃ p : List Gun × List ByteArray, OwnS H x p.1 ∧ OwnW H u p.2 := ⟨(l, ws), hx, hW⟩
 simp only [g97]
 rw [dif_pos he, (Classical.choose_spec he).1.one hx, (Classical.choose_spec he).2.one hW]
theorem ok97 : EntOk Tryz.prog (97, g97) := by
 intro args H n v H' n' h
 simp only [g97] at h
 split at h
 · split at h
   · rename_i he
     injection h with h; injection h with e1 e2; injection e2 with e2 e3; subst e1 e2 e3
     exact w97 (Classical.choose_spec he).1 (Classical.choose_spec he).2
   · cases h
 · cases h
theorem w109n : AC Tryz.prog 109 [.slice none 0 0, .slice none 0 0] [] 10 (.bool true) [] 10 := by
 have hr := recT_ok (P := Tryz.prog) (l := []) (by simp)
 refine AC.pure Tryz.func109 rfl (by kernel_rfl) rfl [0, 1, 5] rfl ?_
 refine E.seq (E.reg hr (by simp; rfl) ?_)
 refine E.seq (E.seq (E.reg hr (by simp; rfl) ?_))
 refine E.cond (by rfl) (fun h => ?_) (fun h => ?_)
 · simp at h
 refine E.skip (E.seq ?_)
 refine E.seq (E.reg hr (by simp; rfl) ?_)
 refine E.block (E.loop ?_)
 refine EL.step ?_
 refine E.seq (E.seq (E.reg hr (by simp; rfl) ?_))
 refine E.cond (by rfl) (fun h2 => ?_) (fun h2 => ?_)
 · simp at h2
 refine E.exit ?_
 refine E.seq (E.reg hr (by simp; rfl) ?_)
 refine E.ret ?_
 exact pureK.ret rfl rfl (by simp) (by repeat first | exact sub_refl _ | refine sub_cons rfl ?_)
def g109X (args : List Value) (H : Heap) (n : Nat) : R := match args with
 | [.slice none 0 0, .slice none 0 0] => some (.bool true, H, n)
 | _ => none
theorem ok109X : EntOk Tryz.prog (109, g109X) := by
 intro args H n v H' n' h
 simp only [g109X] at h
 split at h
 · injection h with h; injection h with e1 e2; injection e2 with e2 e3; subst e1 e2 e3
   exact AC.liftP rfl (Part.plain (by simp) [] (by simp [Seen]) gsz ⟨_, _, w109n⟩)
 · cases h
theorem w51n : AC Tryz.prog 51 [.slice none 0 0, iv 0, iv 0, .slice none 0 0] [] 10 (.bool true) [] 10 := by
 have hr := recT_ok (P := Tryz.prog) (l := [(109, g109X)]) (by simp only [List.forall_mem_cons]; exact ⟨ok109X, by simp⟩)
 refine AC.pure Tryz.func51 rfl (by kernel_rfl) rfl [8] rfl ?_
 refine E.seq (E.reg hr (by simp; rfl) ?_)
 refine E.seq (E.reg hr (by simp [g109X, undefV]; rfl) ?_)
 refine E.ret ?_
 exact pureK.ret rfl rfl (by simp) (by repeat first | exact sub_refl _ | refine sub_cons rfl ?_)
open Classical in
noncomputable def g51X (args : List Value) (H : Heap) (n : Nat) : R := if args = [.slice none 0 0, .int .i64 0, .int .i64 0, .slice none 0 0] then some (.bool true, H, n) else g51 args H n
theorem ok51X : EntOk Tryz.prog (51, g51X) := by
 intro args H n v H' n' h
 simp only [g51X] at h
 split at h
 · rename_i e
   subst e
   injection h with h; injection h with e1 e2; injection e2 with e2 e3; subst e1 e2 e3
   exact AC.liftP rfl (Part.plain (by simp) [] (by simp [Seen]) gsz ⟨_, _, w51n⟩)
 · exact ok51 _ _ _ _ _ _ h
def OutI (H : Heap) (u : Value) (l : List Int) : Prop := l.length < 2147483648 ∧ ∃ N, u = outS N l.length ∧ (l.length ≠ 0 → cellsA H N 0 l.length = some (l.map iv))
theorem OutI.mono {H H' : Heap} (hs : Sub H H') {u : Value} {l : List Int} (h : OutI H u l) : OutI H' u l := by
 obtain ⟨h1, N, e, h2⟩ := h
 exact ⟨h1, N, e, fun h0 => hs.cells (h2 h0)⟩
theorem OutI.sb {H : Heap} {l : List Int} {N : Nat} (hl : l.length < 2147483648) : OutI (outSB N 3 1 l.length (l.map iv) ++ H) (outS N l.length) l := by
 refine ⟨hl, N, rfl, fun h0 => ?_⟩
 rw [outSB, if_neg h0]
 show cellsA ((N, _) :: H) N 0 _ = _
 rw [cellsA_eq, hget_cons, if_pos rfl, Option.bind_some]
 simp only [cellsB]
 rw [if_pos (by simp), List.drop_zero, List.take_of_length_le (by simp)]
theorem OutI.nil {H : Heap} : OutI H (.slice none 0 0) [] := ⟨by decide, 0, rfl, fun h => absurd rfl h⟩
def OutW (H : Heap) (u : Value) (l : List ByteArray) : Prop := l.length < 2147483648 ∧ ∃ N, u = outS N l.length ∧ (l.length ≠ 0 → cellsA H N 0 l.length = some (l.map sv))
theorem OutW.mono {H H' : Heap} (hs : Sub H H') {u : Value} {l : List ByteArray} (h : OutW H u l) : OutW H' u l := by
 obtain ⟨h1, N, e, h2⟩ := h
 exact ⟨h1, N, e, fun h0 => hs.cells (h2 h0)⟩
theorem OutW.sb {H : Heap} {l : List ByteArray} {N : Nat} (hl : l.length < 2147483648) : OutW (outSB N 9 1 l.length (l.map sv) ++ H) (outS N l.length) l := by
 refine ⟨hl, N, rfl, fun h0 => ?_⟩
 rw [outSB, if_neg h0]
 show cellsA ((N, _) :: H) N 0 _ = _
 rw [cellsA_eq, hget_cons, if_pos rfl, Option.bind_some]
 simp only [cellsB]
 rw [if_pos (by simp), List.drop_zero, List.take_of_length_le (by simp)]
theorem OutW.nil {H : Heap} : OutW H (.slice none 0 0) [] := ⟨by decide, 0, rfl, fun h => absurd rfl h⟩
theorem g51X_at {H : Heap} {n : Nat} {u t : Value} {l : List Int} {e : Int} (h1 : OutI H u l) (h2 : OutI H t l) (he : e ≠ 0 → l = []) : g51X [u, iv e, iv e, t] H n = some (.bool true, H, n) := by
 obtain ⟨hl, N, rfl, h1⟩ := h1
 obtain ⟨_, M, rfl, h2⟩ := h2
 by_cases h0 : l.length = 0
 · rw [h0]
   by_cases e0 : e = 0
   · subst e0
     show g51X [.slice none 0 0, iv 0, iv 0, .slice none 0 0] H n = _
     rw [g51X, if_pos rfl]
   · show g51X [.slice none 0 0, iv e, iv e, .slice none 0 0] H n = _
     rw [g51X, if_neg (fun h => e0 (by simpa using h))]
     simp only [g51]
     rw [if_pos ⟨trivial, e0⟩]
 · have e0 : e = 0 := Classical.byContradiction fun h => h0 (by rw [he h]; rfl)
   subst e0
   have a1 := intsAt_iv (a := ⟨N, 0, some 0⟩) rfl (h1 h0) hl
   have a2 := intsAt_iv (a := ⟨M, 0, some 0⟩) rfl (h2 h0) hl
   rw [outS_ne h0, outS_ne h0, g51X, if_neg (fun h => by cases h)]
   simp [g51, a1, a2]
theorem g65_at {H : Heap} {n : Nat} {u t : Value} {l : List ByteArray} {e : Int} (h1 : OutW H u l) (h2 : OutW H t l) (he : e ≠ 0 → l = []) : g65 [u, iv e, iv e, t] H n = some (.bool true, H, n) := by
 obtain ⟨hl, N, rfl, h1⟩ := h1
 obtain ⟨_, M, rfl, h2⟩ := h2
 by_cases h0 : l.length = 0
 · rw [h0]
   show g65 [.slice none 0 0, iv e, iv e, .slice none 0 0] H n = _
   simp [g65]
 · have e0 : e = 0 := Classical.byContradiction fun h => h0 (by rw [he h]; rfl)
   subst e0
   have key : ∀ {N}, cellsA H N 0 l.length = some (l.map sv) → strsAt H ⟨N, 0, some 0⟩ l.length = some l := fun h => by
     unfold strsAt
     rw [h, if_pos (by simp [flat]; omega), Option.bind_some, strsOf_map]
   have a1 := key (h1 h0)
   have a2 := key (h2 h0)
   rw [outS_ne h0, outS_ne h0]
   simp [g65, a1, a2]
theorem strAt_outS {H : Heap} {l : List Gun} {N : Nat} (h : strAt H (.agg ⟨[outS N l.length]⟩) = some l) (h0 : l.length ≠ 0) : gunsAt H ⟨N, 0, some 0⟩ l.length = some l := by
 rw [outS_ne h0] at h
 exact h
theorem g66_at {H : Heap} {n N M : Nat} {l : List Gun} (h1 : strAt H (.agg ⟨[outS N l.length]⟩) = some l) (h2 : strAt H (.agg ⟨[outS M l.length]⟩) = some l) : g66 [.agg ⟨[outS N l.length]⟩, .agg ⟨[outS M l.length]⟩] H n = some (.bool true, H, n) := by
 by_cases h0 : l.length = 0
 · rw [h0]; rfl
 · have a1 := strAt_outS h1 h0
   have a2 := strAt_outS h2 h0
   rw [outS_ne h0, outS_ne h0]
   simp only [g66, a1, a2]
   simp
theorem strAt_pre {H : Heap} {N : Nat} {l Z : List Gun} {t : Nat} (h0 : l.length ≠ 0) (hlt : l.length < 2147483648) (h : hget H N = some (.ext (gcs (l ++ Z)) t 7)) : strAt H (.agg ⟨[outS N l.length]⟩) = some l := by
 rw [outS_ne h0]
 show gunsAt H ⟨N, 0, some 0⟩ l.length = some l
 unfold gunsAt
 have h1 := gcs_length l
 have h2 := gcs_length Z
 have hc : cellsA H N 0 (l.length * 7) = some (gcs l) := by
   rw [cellsA_eq, h, Option.bind_some]
   simp only [cellsB]
   rw [if_pos (by rw [gcs_app, List.length_append]; omega), gcs_app, List.drop_zero, ← h1, List.take_left]
 rw [hc, if_pos (by simp [flat]; omega), Option.bind_some, gunsOf_gcs]
theorem strAt_sb {H : Heap} {N : Nat} {l Z : List Gun} {t : Nat} (hlt : l.length < 2147483648) : strAt (outSB N t 7 l.length (gcs (l ++ Z)) ++ H) (.agg ⟨[outS N l.length]⟩) = some l := by
 by_cases h0 : l.length = 0
 · rw [h0, List.length_eq_zero_iff.1 h0]; rfl
 · refine strAt_pre h0 hlt ?_ (Z := Z) (t := t)
   rw [outSB, if_neg h0]
   show hget ((N, _) :: H) N = _
   rw [hget_cons, if_pos rfl]
set_option maxRecDepth 20000 in
set_option maxHeartbeats 2000000 in
theorem w93n {H : Heap} {n : Nat} {rv : Value} {rs : List Rul} {w : Int} (g0 : hget H 0 = some (.inp 0 names0)) (hR : rulV H rv = some rs) :
   AC Tryz.prog 93 [nilV, rv, iv w] H n (.tuple #[.slice none 0 0, iv (lrgE [] rs w)]) H n := by
 refine AC.given fun hold hsc hgn => AC.tidied (B := []) (by simp) ?_
 have hlt0 := fun k b h => (hold k b h).1
 replace g0 : hget (tidy n H) 0 = some (.inp 0 names0) := hget_tidy.2 ⟨g0, (hold 0 _ g0).1, rfl⟩
 replace hR : rulV (tidy n H) rv = some rs := listV_tidy decR_tidy hlt0 hR
 obtain ⟨oa, c, rfl, hlt, hrow⟩ := rulV_form hR
 obtain ⟨rv, hrv⟩ : ∃ rv, Value.slice oa rs.length c = rv := ⟨_, rfl⟩
 rw [hrv] at hR
 have hr := recT_ok (P := Tryz.prog) (l := [(31, g31), (102, g102), (113, g113), (127, g1 fun a => withinV a 1 64)]) (by simp only [List.forall_mem_cons]; exact ⟨ok31, ok102, ok113, ok127, by simp⟩)
 have hM : MemOk n (tidy n H) := ⟨namesOk_tidy, by simp⟩
 obtain ⟨hM1, hS1⟩ := hM.put (b := Blk.cells [.slice none 0 0] 32) rfl
 obtain ⟨hM2, hS2⟩ := hM1.put (b := Blk.cells [rv] 154) rfl
 obtain ⟨hM3, hS3⟩ := hM2.put (b := Blk.cells [iv w] 3) rfl
 obtain ⟨X0, hX0⟩ : ∃ X0, (n + 1 + 1, Blk.cells [iv w] 3) :: (n + 1, Blk.cells [rv] 154) :: (n, .cells [.slice none 0 0] 32) :: tidy n H = X0 := ⟨_, rfl⟩
 rw [hX0] at hM3 hS3
 have hS0 := hS1.trans (hS2.trans hS3)
 have hb0 : hget X0 n = some (.cells [.slice none 0 0] 32) := hS3 _ _ (hS2 _ _ (by rw [hget_cons, if_pos rfl]))
 have hb1 : hget X0 (n + 1) = some (.cells [rv] 154) := hS3 _ _ (by rw [hget_cons, if_pos rfl])
 have hb2 : hget X0 (n + 1 + 1) = some (.cells [iv w] 3) := by rw [← hX0, hget_cons, if_pos rfl]
 have c0 : cellsA X0 n 0 1 = some [.slice none 0 0] := by rw [cellsA_eq, hb0]; rfl
 have c1 : cellA X0 (n + 1) 0 = some rv := by rw [cellA_eq, hb1]; rfl
 have c2 : cellA X0 (n + 1 + 1) 0 = some (iv w) := by rw [cellA_eq, hb2]; rfl
 have c0f : cellsA (frzH X0) n 0 1 = some [.slice none 0 0] := by rw [cellsA_frz, c0]
 have c1f : cellA (frzH X0) (n + 1) 0 = some rv := by rw [cellA_frz, c1]
 have c2f : cellA (frzH X0) (n + 1 + 1) 0 = some (iv w) := by rw [cellA_frz, c2]
 obtain ⟨z1, hz1⟩ : ∃ z, strE [] = z := ⟨_, rfl⟩
 obtain ⟨z2, hz2⟩ : ∃ z, rulsE rs = z := ⟨_, rfl⟩
 obtain ⟨z3, hz3⟩ : ∃ z, withinV w 1 64 = z := ⟨_, rfl⟩
 have hRx : rulV X0 rv = some rs := listV_mono decR_mono hS0 hR
 have h31 : ∀ Y m, g31 [.agg ⟨[.slice none 0 0]⟩] Y m = some (iv z1, Y, m) := fun Y m => by rw [← hz1]; rfl
 have h102 : ∀ m, g102 [rv] X0 m = some (iv z2, X0, m) := fun m => by
   simp only [g102, hRx, Option.map_some, hz2]
   rw [if_pos (hS0 _ _ g0)]
 have h102f : ∀ m, g102 [rv] (frzH X0) m = some (iv z2, frzH X0, m) := fun m => by
   have e : rulV (frzH X0) rv = some rs := by rw [← hRx]; exact listV_frz decR_frz X0 rv
   simp only [g102, e, Option.map_some, hz2]
   rw [if_pos (by rw [hget_frz, hS0 _ _ g0]; rfl)]
 obtain ⟨z, hz⟩ : ∃ z, firstV [z1, z2, z3] = z := ⟨_, rfl⟩
 have hE : lrgE [] rs w = z := by rw [lrgE, hz1, hz2, hz3, hz]
 have hz12 : z1 = 12 := by rw [← hz1]; rfl
 have hzne : z ≠ 0 := fun e => by
   rw [e] at hz
   have := (firstV_zero _).1 hz z1 (by simp)
   omega
 have hm0 := hM3.1
 have htk := takeNew_frz hm0
 obtain ⟨hM4, hS4⟩ := hM3.put (b := Blk.cells [iv z1, iv z2, iv z3] 27) rfl
 obtain ⟨X1, hX1⟩ : ∃ X1, (n + 1 + 1 + 1, Blk.cells [iv z1, iv z2, iv z3] 27) :: X0 = X1 := ⟨_, rfl⟩
 rw [hX1] at hM4 hS4
 have h113 : ∀ m, g113 [.slice (some ⟨n + 1 + 1 + 1, 0, none⟩) 3 3] X1 m = some (iv z, X1, m) := fun m => by
   have : intsAt X1 ⟨n + 1 + 1 + 1, 0, none⟩ 3 = some [z1, z2, z3] := intsAt_iv rfl (by rw [← hX1, cellsA_cons, if_pos rfl]; rfl) (by omega)
   simp only [g113, this, Option.map_some, hz]
 have hm0' : namesOk (n + 1 + 1 + 1 + 1) X0 = true := namesOk_mono (by omega) _ hm0
 have x1 : n < n + 1 + 1 + 1 := by omega
 have x2 : n + 1 < n + 1 + 1 + 1 := by omega
 have x3 : n + 1 + 1 < n + 1 + 1 + 1 := by omega
 rw [hE]
 refine AC.pure Tryz.func93 rfl (by kernel_rfl) rfl [3, 4, 5, 6, 7, 8] rfl ?_
 refine E.seq (E.reg hr (by simp; rfl) ?_)
 rw [hrv, hX0]
 refine E.seq (E.seq ?_)
 refine E.drawU mixed hr [5, 6, 7] [1, 3, 5, 6, 7] [0, 1, 3, 5, 6, 7] (by kernel_rfl) (by simp [-cellsA, -cellA, -readA, cellA_read, cellsA_read, hm0, hM3.2, htk, x1, x2, x3, c0, c1, c2, h31, h102f, g1, hz3, hX1, h113, hM4.1]; rfl) ?_
 refine E.seq (E.reg hr (by simp; rfl) ?_)
 refine E.cond (t := true) (by simp [hzne]) (fun _ => ?_) (fun h => by cases h)
 refine E.seq (E.reg hr (by simp; rfl) ?_)
 refine E.ret ?_
 exact pureK.ret rfl rfl (by simp) (hS0.trans hS4)
theorem lrgZ_of {l : List Gun} {rs : List Rul} {w : Int} (h : strE l ≠ 0) : lrgZ l rs w = [] := by
 unfold lrgZ
 have : lrgE l rs w ≠ 0 := fun e => h ((firstV_zero [strE l, rulsE rs, withinV w 1 64]).1 e _ (by simp))
 rw [if_neg this]
theorem w93D {H : Heap} {n : Nat} {x rv : Value} {l : List Gun} {rs : List Rul} {w : Int} (g0 : hget H 0 = some (.inp 0 names0)) (hx : OwnS H x l) (hR : RulA H rv rs) (h6 : strE l = 0 → l.length ≤ 6) :
   AC Tryz.prog 93 [x, rv, iv w] H n (.tuple #[outS n (lrgZ l rs w).length, iv (lrgE l rs w)]) (outSB n 9 1 (lrgZ l rs w).length (nmsC l (lrgZ l rs w)) ++ H) (n + 1) := by
 rcases hx with ⟨v, rfl, hG⟩ | ⟨rfl, rfl⟩
 case inr =>
   have h0 := w93n (n := n) (w := w) g0 hR.rul
   rw [lrgZ_of (by decide)]
   exact h0.wider rfl ⟨trivial, trivial, trivial⟩
 obtain ⟨b, rfl, hrow, hl0, hlt⟩ := hG
 have hb : rowOf H b = some (gcs l, 7) := by
   unfold rowOf
   rcases hrow with h | h <;> rw [h]
 obtain ⟨Zl, hZl⟩ : ∃ Z, lrgZ l rs w = Z := ⟨_, rfl⟩
 obtain ⟨e, he⟩ : ∃ e, lrgE l rs w = e := ⟨_, rfl⟩
 have key : ∀ (H0 : Heap) (rv0 : Value), hget H0 0 = some (.inp 0 names0) → hget H0 10 = some (.row (gcs l) 7) → rulV H0 rv0 = some rs → AC Tryz.prog 93 [.agg ⟨[.slice (some ⟨10, 0, some 0⟩) l.length 0]⟩, rv0, iv w] H0 12 (.tuple #[outS 12 Zl.length, iv e]) (outSB 12 9 1 Zl.length (nmsC l Zl) ++ H0) (12 + 1) := fun H0 rv0 h1 h2 h3 => by
   rw [← hZl, ← he]
   exact w93c h1 ⟨10, rfl, .inr h2, hl0, hlt⟩ h3 h6
 have part : ∀ R : List Value → Heap → Nat → Prop, (∀ H0 rv0, hget H0 0 = some (.inp 0 names0) → hget H0 10 = some (.row (gcs l) 7) → rulV H0 rv0 = some rs → R [.agg ⟨[.slice (some ⟨10, 0, some 0⟩) l.length 0]⟩, rv0, iv w] H0 12) → Part Tryz.prog [.agg ⟨[.slice (some ⟨b, 0, some 0⟩) l.length 0]⟩, rv, iv w] H n R := fun R hR' => by
   rcases hR with ⟨rfl, rfl⟩ | ⟨a, c, rfl, hf, hc, hlt2⟩
   · refine Part.rowOneG (P := Tryz.prog) (H := H) (n := n) (R := R) (fun x _ => [.agg ⟨[x]⟩, .slice none 0 0, iv w]) (by intro φ φ0 s s0 u u0 h h2; simp [denL, den, h]) (by intro p s u h h2; exact ⟨⟨h, trivial⟩, trivial, trivial, trivial⟩) hb (afL_gcs l) (len := l.length) (skip := 0) (a2 := ⟨0, 0, none⟩) (len2 := 0) (cap2 := 0) (m2 := 0) (cs2 := []) rfl (by rw [cellsA_eq, g0]; rfl) rfl [(0, .inp 0 names0)] (seen0 g0) gsz fun c2 => ?_
     exact hR' _ _ (by simp) (by simp) rfl
   · refine Part.rowOneG (P := Tryz.prog) (H := H) (n := n) (R := R) (fun x y => [.agg ⟨[x]⟩, y, iv w]) (by intro φ φ0 s s0 u u0 h h2; simp [denL, den, h, h2]) (by intro p s u h h2; exact ⟨⟨h, trivial⟩, h2, trivial, trivial⟩) hb (afL_gcs l) (len := l.length) (skip := 0) (len2 := rs.length) (cap2 := c) hf hc (afL_rls rs) [(0, .inp 0 names0)] (seen0 g0) gsz fun c2 => ?_
     refine hR' _ _ (by simp) (by simp) (listV_flat (dec := decR) (fun r => Rul.cells_length r) (fun r => decR_cells _ r) rfl ?_ hlt2)
     have hl : (rlsL rs).length = rs.length * 3 := flat_len (fun r => Rul.cells_length r) rs
     rw [cellsA_eq]
     simp only [hget_cons, if_true, Option.bind_some, cellsB]
     rw [if_pos ⟨Nat.le_refl _, by omega⟩, Nat.sub_self, List.drop_zero, List.take_of_length_le (by omega)]
     rfl
 rw [hZl, he]
 by_cases hk : Zl.length = 0
 · have h0 : AC Tryz.prog 93 [.agg ⟨[.slice (some ⟨b, 0, some 0⟩) l.length 0]⟩, rv, iv w] H n (.tuple #[.slice none 0 0, iv e]) H n := AC.liftP rfl (part _ fun H0 rv0 h1 h2 h3 => by
     have := key H0 rv0 h1 h2 h3
     rw [hk] at this
     exact ⟨_, _, this⟩)
   rw [hk]
   exact h0.wider rfl ⟨trivial, trivial, trivial⟩
 · rw [outS_ne hk, outSB, if_neg hk]
   refine AC.liftF (vf := fun m => .tuple #[.slice (some ⟨m, 0, some 0⟩) Zl.length 0, iv e]) (names_tx _ _ _) (.inr ⟨_, _, _, rfl, afL_sv _⟩) (part _ fun H0 rv0 h1 h2 h3 => ?_)
   have := key H0 rv0 h1 h2 h3
   rw [outS_ne hk, outSB, if_neg hk] at this
   exact ⟨12, _, _, Nat.le_refl _, by simp, this⟩
open Classical in
noncomputable def g93D (args : List Value) (H : Heap) (n : Nat) : R := match args with
 | [x, rv, .int .i64 w] => if h : ∃ p : List Gun × List Rul, OwnS H x p.1 ∧ RulA H rv p.2 then (if hget H 0 = some (.inp 0 names0) ∧ (strE (Classical.choose h).1 = 0 → (Classical.choose h).1.length ≤ 6) then some (.tuple #[outS n (lrgZ (Classical.choose h).1 (Classical.choose h).2 w).length, iv (lrgE (Classical.choose h).1 (Classical.choose h).2 w)], outSB n 9 1 (lrgZ (Classical.choose h).1 (Classical.choose h).2 w).length (nmsC (Classical.choose h).1 (lrgZ (Classical.choose h).1 (Classical.choose h).2 w)) ++ H, n + 1) else none) else none
 | _ => none
theorem g93D_at {H : Heap} {n : Nat} {x rv : Value} {l : List Gun} {rs : List Rul} {w : Int} (g0 : hget H 0 = some (.inp 0 names0)) (hx : OwnS H x l) (hR : RulA H rv rs) (h6 : strE l = 0 → l.length ≤ 6) :
   g93D [x, rv, iv w] H n = some (.tuple #[outS n (lrgZ l rs w).length, iv (lrgE l rs w)], outSB n 9 1 (lrgZ l rs w).length (nmsC l (lrgZ l rs w)) ++ H, n + 1) := by
 have he : ∃ p : List Gun × List Rul, OwnS H x p.1 ∧ RulA H rv p.2 := ⟨(l, rs), hx, hR⟩
 simp only [g93D]
 rw [dif_pos he]
 obtain ⟨e1, e2⟩ := Classical.choose_spec he
 have e1 := e1.one hx
 have e2 := Option.some.inj (e2.rul.symm.trans hR.rul)
 rw [e1, e2, if_pos ⟨g0, h6⟩]
theorem ok93D : EntOk Tryz.prog (93, g93D) := by
 intro args H n v H' n' h
 simp only [g93D] at h
 split at h
 · split at h
   · rename_i he
     split at h
     · rename_i hc
       obtain ⟨s1, s2⟩ := Classical.choose_spec he
       generalize Classical.choose he = p at s1 s2 h hc
       injection h with h; injection h with e1 e2; injection e2 with e2 e3; subst e1 e2 e3
       exact w93D hc.1 s1 s2 hc.2
     · cases h
   · cases h
 · cases h
theorem OwnS.frz {H : Heap} {x : Value} {l : List Gun} (h : OwnS H x l) : OwnS (frzH H) x l := by
 rcases h with ⟨v, e, h⟩ | h
 · exact .inl ⟨v, e, h.frz⟩
 · exact .inr h
theorem RulsV.frz {H : Heap} {v : Value} {l : List Rul} (h : RulsV H v l) : RulsV (frzH H) v l := by
 obtain ⟨oa, c, e, h1, h2, h3⟩ := h
 refine ⟨oa, c, e, h1, h2, fun i hi => ?_⟩
 obtain ⟨a, e1, e2, e3⟩ := h3 i hi
 exact ⟨a, e1, e2, by rw [cellsA_frz]; exact e3⟩
theorem HandW.wds {H : Heap} {u : Value} {ws : List ByteArray} (h : HandW H u ws) : WdsV H u ws := by
 rcases h with ⟨b, o, c, rfl, _, h⟩ | ⟨rfl, rfl⟩
 · obtain ⟨hf, hc, _, hl⟩ := strsAt_ok h
   refine ⟨some ⟨b, o, none⟩, c, rfl, by omega, (fun e => nomatch e), fun i hi => ⟨_, rfl, hf, ?_⟩⟩
   rw [(cellsA_cell hc hi).1]
   simp [hi]
 · exact ⟨none, 0, rfl, by decide, fun _ => rfl, fun i hi => absurd hi (Nat.not_lt_zero i)⟩
theorem HandW.len {H : Heap} {u : Value} {ws : List ByteArray} (h : HandW H u ws) : ws.length < 2147483648 := by
 rcases h with ⟨b, o, c, rfl, _, h⟩ | ⟨rfl, rfl⟩
 · obtain ⟨_, _, _, hl⟩ := strsAt_ok h
   omega
 · decide
theorem HandW.str {H : Heap} {u : Value} {ws : List ByteArray} (h : HandW H u ws) : Ab.strV H u = some ws := h.wds.small h.len
structure M15 (T X : Heap) (n N : Nat) (v rv uw : Value) (w : Int) (l : List Gun) (rs : List Rul) (ws : List ByteArray) : Prop where
 sub : Sub T X
 mem : MemOk N X
 g0 : hget X 0 = some (.inp 0 names0)
 box0 : hget X n = some (.cells [v] 24)
 box1 : hget X (n + 1) = some (.cells [uw, iv w] 163)
 str : strAt X (.agg ⟨[v]⟩) = some l
 rul : RulsV X rv rs
 wds : HandW X uw ws
theorem M15.more {T X Y : Heap} {n N M : Nat} {v rv uw : Value} {w : Int} {l : List Gun} {rs : List Rul} {ws : List ByteArray} (h : M15 T X n N v rv uw w l rs ws) (hs : Sub X Y) (hm : MemOk M Y) : M15 T Y n M v rv uw w l rs ws :=
 ⟨h.sub.trans hs, hm, hs _ _ h.g0, hs _ _ h.box0, hs _ _ h.box1, strAt_mono hs h.str, h.rul.mono hs, h.wds.mono hs⟩
theorem take_app {X : Heap} {N N' : Nat} (hm : MemOk N X) : ∀ {B : Heap}, (∀ x ∈ B, N ≤ x.1 ∧ x.1 < N') → takeNew N (B ++ frzH X) = B ∧ namesOk N' B = true
 | [], _ => ⟨takeNew_frz hm.1, rfl⟩
 | (k, b) :: B, h => by
   obtain ⟨h1, h2⟩ := take_app hm (B := B) fun x hx => h x (List.mem_cons_of_mem _ hx)
   obtain ⟨h3, h4⟩ := h (k, b) (List.mem_cons_self ..)
   constructor
   · show takeNew N ((k, b) :: (B ++ frzH X)) = _
     rw [takeNew, Nat.ble_eq_true_of_le h3, h1]
   · rw [namesOk, show Nat.blt k N' = true from by rw [Nat.blt_eq]; exact h4]
     exact h2
section
variable {X : Heap} {N : Nat}
theorem fzSB {o : R} {v : Value} {t sz k : Nat} {cs : List Value} (hm : MemOk N X) (hp : plainB2 (.ext cs t sz) = true) (h : o = some (v, outSB N t sz k cs ++ frzH X, N + 1)) :
   ∃ Z B Y, o = some (v, Z, N + 1) ∧ takeNew N Z = B ∧ namesOk (N + 1) B = true ∧ B ++ X = Y ∧ Y = outSB N t sz k cs ++ X ∧ Sub X Y ∧ MemOk (N + 1) Y := by
 obtain ⟨h1, h2⟩ := take_app (N' := N + 1) hm (B := outSB N t sz k cs) fun x hx => by
   unfold outSB at hx
   split at hx
   · cases hx
   · rw [List.mem_singleton] at hx
     subst hx
     exact ⟨Nat.le_refl _, Nat.lt_succ_self _⟩
 obtain ⟨h3, h4⟩ := hm.sb (t := t) (sz := sz) (k := k) (cs := cs) hp
 exact ⟨_, _, _, h, h1, h2, rfl, rfl, h4, h3⟩
theorem MemOk.ownF (hm : MemOk N X) {v : Value} {l : List Gun} (hs : strAt X (.agg ⟨[v]⟩) = some l) (hl : l.length ≤ 4096) :
   ∃ x Z B Y N', g21 [.agg ⟨[v]⟩] (frzH X) N = some (.agg ⟨[x]⟩, Z, N') ∧ takeNew N Z = B ∧ namesOk N' B = true ∧ B ++ X = Y ∧ OwnS Y (.agg ⟨[x]⟩) l ∧ Sub X Y ∧ MemOk N' Y ∧ N ≤ N' := by
 have hf := strAt_frz hs
 by_cases h0 : l = []
 · subst h0
   exact ⟨_, _, _, _, _, strAt_nil hf, takeNew_frz hm.1, rfl, rfl, .inr ⟨rfl, rfl⟩, Sub.refl _, hm, Nat.le_refl _⟩
 · obtain ⟨h3, h4⟩ := hm.put (b := .ext (gcs l) 95 7) rfl
   obtain ⟨h1, h2⟩ := take_app (N' := N + 1) hm (B := [(N, .ext (gcs l) 95 7)]) fun x hx => by
     rw [List.mem_singleton] at hx
     subst hx
     exact ⟨Nat.le_refl _, Nat.lt_succ_self _⟩
   exact ⟨_, _, _, _, _, strAt_own hf h0 hl, h1, h2, rfl, .inl ⟨_, rfl, own_row h0 hl⟩, h4, h3, Nat.le_succ _⟩
theorem MemOk.wordsF (hm : MemOk N X) {u : Value} {ws : List ByteArray} (h : Ab.strV X u = some ws) :
   ∃ y Z B Y, g94 [u] (frzH X) N = some (y, Z, N + 1) ∧ takeNew N Z = B ∧ namesOk (N + 1) B = true ∧ B ++ X = Y ∧ OwnW Y y ws ∧ Sub X Y ∧ MemOk (N + 1) Y := by
 obtain ⟨y, Y, h1, h2, h3, h4⟩ := hm.words h
 have hf : Ab.strV (frzH X) u = some ws := (listV_frz decS_frz X u).trans h
 have e : g94 [u] X N = some (kS.val N ws, (N, kS.blk ws) :: X, N + 1) := by simp only [g94, h]; rfl
 have ef : g94 [u] (frzH X) N = some (kS.val N ws, (N, kS.blk ws) :: frzH X, N + 1) := by simp only [g94, hf]; rfl
 rw [e] at h1
 injection h1 with h1
 injection h1 with e1 e2
 injection e2 with e2 _
 subst e1 e2
 obtain ⟨a1, a2⟩ := take_app (N' := N + 1) hm (B := [(N, kS.blk ws)]) fun x hx => by
   rw [List.mem_singleton] at hx
   subst hx
   exact ⟨Nat.le_refl _, Nat.lt_succ_self _⟩
 exact ⟨_, _, _, _, ef, a1, a2, rfl, h2, h3, h4⟩
theorem MemOk.rulesF (hm : MemOk N X) {rv : Value} {rs : List Rul} (hR : RulsV X rv rs) (hl : rs.length < 2147483648) :
   ∃ r Z B Y, g92 [rv] (frzH X) N = some (r, Z, N + 1) ∧ takeNew N Z = B ∧ namesOk (N + 1) B = true ∧ B ++ X = Y ∧ RulA Y r rs ∧ Sub X Y ∧ MemOk (N + 1) Y := by
 obtain ⟨Z, B, Y, h1, h2, h3, h4, h5, h6, h7⟩ := fzSB hm rfl (g92_at hR.frz hl)
 refine ⟨_, Z, B, Y, h1, h2, h3, h4, ?_, h6, h7⟩
 rw [h5]
 exact RulA.out hl
def wantG (l : List Gun) (ws : List ByteArray) : List Gun := if wioE l ws = 0 then keptL l ws l.length else []
theorem wantG_small (l : List Gun) (ws : List ByteArray) : (wantG l ws).length ≤ l.length := by
 unfold wantG
 split
 · exact keptL_len _ _ _
 · exact Nat.zero_le _
theorem wantG_at {l : List Gun} {ws : List ByteArray} (hl : l.length ≤ 4096) : strAt (outSB N 95 7 (wioK l ws) (gcs (strucK l ws)) ++ X) (.agg ⟨[outS N (wioK l ws)]⟩) = some (wantG l ws) := by
 by_cases h : wioE l ws = 0
 · have e1 : wioK l ws = (keptL l ws l.length).length := by rw [wioK, if_pos h]
   have e2 : wantG l ws = keptL l ws l.length := by rw [wantG, if_pos h]
   rw [e1, e2]
   exact strAt_sb (by have := keptL_len l ws l.length; omega)
 · have e1 : wioK l ws = 0 := by rw [wioK, if_neg h]
   have e2 : wantG l ws = [] := by rw [wantG, if_neg h]
   rw [e1, e2]
   rfl
theorem MemOk.withoutF (hm : MemOk N X) {x u : Value} {l : List Gun} {ws : List ByteArray} (hx : OwnS X x l) (hW : OwnW X u ws) (hl : l.length ≤ 4096) :
   ∃ Z B Y, g97 [x, u] (frzH X) N = some (.tuple #[.agg ⟨[outS N (wioK l ws)]⟩, iv (wioE l ws)], Z, N + 1) ∧ takeNew N Z = B ∧ namesOk (N + 1) B = true ∧ B ++ X = Y ∧ strAt Y (.agg ⟨[outS N (wioK l ws)]⟩) = some (wantG l ws) ∧ Sub X Y ∧ MemOk (N + 1) Y := by
 obtain ⟨Z, B, Y, h1, h2, h3, h4, h5, h6, h7⟩ := fzSB hm rfl (g97_at hx.frz hW.frz)
 refine ⟨Z, B, Y, h1, h2, h3, h4, ?_, h6, h7⟩
 rw [h5]
 exact wantG_at hl
theorem setsOf_small : ∀ {k : Nat}, 1 ≤ k → k ≤ 6 → ∀ zs ∈ setsOf k, zs.length ≤ 6
 | 1, _, _ => by decide
 | 2, _, _ => by decide
 | 3, _, _ => by decide
 | 4, _, _ => by decide
 | 5, _, _ => by decide
 | 6, _, _ => by decide
 | 0, h, _ => by omega
 | _ + 7, _, h => by omega
theorem lrgZ_facts {l : List Gun} {rs : List Rul} {w : Int} (h6 : strE l = 0 → l.length ≤ 6) : (lrgZ l rs w).length ≤ 6 := by
 unfold lrgZ
 split
 · rename_i h
   have hst : strE l = 0 := (firstV_zero _).1 h _ (by simp)
   have hrs : rulsE rs = 0 := (firstV_zero _).1 h _ (by simp)
   have hw : 1 ≤ w ∧ w ≤ 64 := (withinV_zero _ _ _).1 ((firstV_zero _).1 h _ (by simp))
   obtain ⟨i, hi, _, hS⟩ := lrg_at hst (h6 hst) hrs (W := w.toNat) (by omega)
   rw [hS]
   exact setsOf_small (by have := strE_len hst; omega) (h6 hst) _ (List.getElem_mem hi)
 · simp
end
abbrev vs15 : List Nat := [1, 3, 5, 6, 7, 8, 9, 10, 11, 12, 13, 14, 15, 16, 17, 18, 19, 20]
abbrev F15 (rv : Value) (n p q : Nat) (e8 : Int) (u9 : Value) (e10 : Int) (u11 : Value) (e12 z13 z14 e15 e16 e17 : Int) (u19 u20 : Value) : Fr := [(1, rv), (3, .pointer (some ⟨n, 0, none⟩)), (5, .pointer (some ⟨n + 1, 0, none⟩)), (6, .bool false), (7, .pointer (some ⟨p, 0, none⟩)), (8, iv e8), (9, u9), (10, iv e10), (11, u11), (12, iv e12), (13, iv z13), (14, iv z14), (15, iv e15), (16, iv e16), (17, iv e17), (18, .pointer (some ⟨q, 0, none⟩)), (19, u19), (20, u20)]
structure B15 (T W : Heap) (n N p : Nat) (v rv uw : Value) (w : Int) (l : List Gun) (rs : List Rul) (ws : List ByteArray) (u7 u9 u11 : Value) : Prop where
 mem : M15 T W n N v rv uw w l rs ws
 box7 : hget W p = some (.cells [u7] 32)
 str7 : strAt W (.agg ⟨[u7]⟩) = some (wantG l ws)
 out9 : OutI W u9 (refdL l rs ws w)
 out11 : OutW W u11 (nmsL l (lrgZ l rs w))
def OutG (X : Heap) (u : Value) (l : List Gun) : Prop := ∃ M, u = outS M l.length ∧ strAt X (.agg ⟨[u]⟩) = some l
section
variable {X : Heap} {N : Nat}
theorem MemOk.toldF (hm : MemOk N X) {u : Value} {l : List Gun} (hs : strAt X (.agg ⟨[u]⟩) = some l) (hl : l.length ≤ 4096) :
   ∃ x Z B Y N', g55 [.agg ⟨[u]⟩] (frzH X) N = some (.agg ⟨[x]⟩, Z, N') ∧ takeNew N Z = B ∧ namesOk N' B = true ∧ B ++ X = Y ∧ OutG Y x l ∧ Sub X Y ∧ MemOk N' Y ∧ N ≤ N' := by
 have hf := strAt_frz hs
 by_cases h0 : l = []
 · subst h0
   have e : g55 [.agg ⟨[u]⟩] (frzH X) N = some (nilV, frzH X, N) := by simp only [g55, hf, if_true]
   exact ⟨_, _, _, _, _, e, takeNew_frz hm.1, rfl, rfl, ⟨N, rfl, rfl⟩, Sub.refl _, hm, Nat.le_refl _⟩
 · obtain ⟨h3, h4⟩ := hm.put (b := .ext (gcs l) 94 7) rfl
   obtain ⟨h1, h2⟩ := take_app (N' := N + 1) hm (B := [(N, .ext (gcs l) 94 7)]) fun x hx => by
     rw [List.mem_singleton] at hx
     subst hx
     exact ⟨Nat.le_refl _, Nat.lt_succ_self _⟩
   have e : g55 [.agg ⟨[u]⟩] (frzH X) N = some (.agg ⟨[.slice (some ⟨N, 0, some 0⟩) l.length 0]⟩, [(N, .ext (gcs l) 94 7)] ++ frzH X, N + 1) := by
     simp only [g55, hf]
     rw [if_neg h0, if_pos hl]
     rfl
   have hn : l.length ≠ 0 := fun h => h0 (List.length_eq_zero_iff.1 h)
   refine ⟨_, _, _, _, _, e, h1, h2, rfl, ⟨N, by rw [outS_ne hn], ?_⟩, h4, h3, Nat.le_succ _⟩
   have := strAt_sb (H := X) (N := N) (l := l) (Z := []) (t := 94) (by omega)
   rw [outSB, if_neg hn, outS_ne hn, List.append_nil] at this
   exact this
end
theorem lrgE_nil {l : List Gun} {rs : List Rul} {w : Int} (h : lrgE l rs w ≠ 0) : nmsL l (lrgZ l rs w) = [] := by rw [lrgZ, if_neg h]; rfl
theorem refdE_nil {l : List Gun} {rs : List Rul} {ws : List ByteArray} {w : Int} (h : refdE l rs ws w ≠ 0) : refdL l rs ws w = [] := by rw [refdL, if_neg h]
set_option maxRecDepth 20000 in
set_option maxHeartbeats 4000000 in
theorem w15z {T W X : Heap} {n N N0 p q : Nat} {v rv uw u7 u9 u11 u18 u19 u20 : Value} {w z13 : Int} {l : List Gun} {rs : List Rul} {ws : List ByteArray} (hB : B15 T W n N0 p v rv uw w l rs ws u7 u9 u11) (hS : Sub W X) (hm : MemOk N X) (hq : hget X q = some (.cells [u18] 24)) (hG : OutG X u18 (wantG l ws)) (o19 : OutI X u19 (refdL l rs ws w)) (o20 : OutW X u20 (nmsL l (lrgZ l rs w))) (h9 : l.length ≤ 9) (hr13 : rs.length ≤ 13) :
   E Tryz.prog n none (cFrom (bodyOf Tryz.f15) 15) { fr := F15 rv n p q (wioE l ws) u9 (refdE l rs ws w) u11 (lrgE l rs w) z13 (rulsE rs) (wioE l ws) (refdE l rs ws w) (lrgE l rs w) u19 u20, sz := 160, H := X, n := N, marks := [], vs := vs15 } (pureK Tryz.prog Tryz.f15 T (.bool true)) := by
 have hr := recT_ok (P := Tryz.prog) (l := [(92, g92), (102, g102), (55, g55), (66, g66), (51, g51X), (65, g65)]) (by simp only [List.forall_mem_cons]; exact ⟨ok92, ok102, ok55, ok66, ok51X, ok65, by simp⟩)
 have hM := hB.mem.more hS hm
 obtain ⟨orr, cr, hrv⟩ : ∃ orr cr, rv = .slice orr rs.length cr := by
   obtain ⟨a, b, e, _⟩ := hM.rul
   exact ⟨a, b, e⟩
 -- rules of one's own
 obtain ⟨r, Y1, a1, a2, s1, m1⟩ := hm.rules hM.rul (by omega)
 obtain ⟨z, hz⟩ : ∃ z, rulsE rs = z := ⟨_, rfl⟩
 have h102 : ∀ m, g102 [r] Y1 m = some (iv z, Y1, m) := fun m => by
   simp only [g102, a2.rul, Option.map_some, hz]
   rw [if_pos (s1 _ _ hM.g0)]
 -- what is told
 have hb7 := s1 _ _ (hS _ _ hB.box7)
 have hwl := wantG_small l ws
 obtain ⟨x, Z, B, Y2, N2, b1, b2, b3, b4, ⟨M7, b5, b6⟩, s2, m2, b9⟩ := m1.toldF (strAt_mono (hS.trans s1) hB.str7) (by omega)
 have hq2 := s2 _ _ (s1 _ _ hq)
 obtain ⟨M8, c1, c2⟩ := hG
 have c2' := strAt_mono (s1.trans s2) c2
 rw [c1] at c2'
 rw [b5] at b6
 have h66 : ∀ m, g66 [.agg ⟨[x]⟩, .agg ⟨[u18]⟩] Y2 m = some (.bool true, Y2, m) := fun m => by
   rw [b5, c1]
   exact g66_at b6 c2'
 have hWY := hS.trans (s1.trans s2)
 have h51 : ∀ m, g51X [u9, iv (refdE l rs ws w), iv (refdE l rs ws w), u19] Y2 m = some (.bool true, Y2, m) := fun m => g51X_at (hB.out9.mono hWY) (o19.mono (s1.trans s2)) refdE_nil
 have h65 : ∀ m, g65 [u11, iv (lrgE l rs w), iv (lrgE l rs w), u20] Y2 m = some (.bool true, Y2, m) := fun m => g65_at (hB.out11.mono hWY) (o20.mono (s1.trans s2)) lrgE_nil
 have hpN : p < N + 1 := m1.lt hb7
 have hqN : q < N := hm.lt hq
 have c7 : cellsA Y1 p 0 1 = some [u7] := by rw [cellsA_eq, hb7]; rfl
 have c8 : cellsA Y2 q 0 1 = some [u18] := by rw [cellsA_eq, hq2]; rfl
 obtain ⟨e8, he8⟩ : ∃ z, wioE l ws = z := ⟨_, rfl⟩
 obtain ⟨e10, he10⟩ : ∃ z, refdE l rs ws w = z := ⟨_, rfl⟩
 obtain ⟨e12, he12⟩ : ∃ z, lrgE l rs w = z := ⟨_, rfl⟩
 rw [he10] at h51
 rw [he12] at h65
 rw [he8, he10, he12, hz]
 subst hrv
 have htk := takeNew_frz m1.1
 refine E.seq (E.drawU mixed hr [1, 2, 9, 21, 28] [1, 2, 7, 9, 21, 28] [1, 2, 6, 7, 9, 21, 28] (by kernel_rfl) (by simp [-cellsA, -cellA, -readA, cellsA_read, hm.1, m1.1, m1.2, m2.1, a1, h102, hpN, hqN, c7, c8, b1, b2, b3, b4, b9, h66, h51, h65]; rfl) ?_)
 refine E.ret ?_
 exact pureK.ret rfl rfl (by simp) (hB.mem.sub.trans hWY)
theorem M15.reads {T X : Heap} {n N : Nat} {v rv uw : Value} {w : Int} {l : List Gun} {rs : List Rul} {ws : List ByteArray} (h : M15 T X n N v rv uw w l rs ws) : cellsA X n 0 1 = some [v] ∧ cellA X (n + 1) 0 = some uw ∧ cellA X (n + 1) 1 = some (iv w) := ⟨by rw [cellsA_eq, h.box0]; rfl, by rw [cellA_eq, h.box1]; rfl, by rw [cellA_eq, h.box1]; rfl⟩
theorem lrgE_zeroN {l : List Gun} {rs : List Rul} {w : Int} (h : lrgE l rs w = 0) : strE l = 0 ∧ rulsE rs = 0 ∧ 1 ≤ w ∧ w ≤ 64 :=
 ⟨(firstV_zero _).1 h _ (by simp), (firstV_zero _).1 h _ (by simp), (withinV_zero _ _ _).1 ((firstV_zero _).1 h _ (by simp))⟩
theorem refdE_zero {l : List Gun} {rs : List Rul} {ws : List ByteArray} {w : Int} (h : refdE l rs ws w = 0) : strE l = 0 ∧ rulsE rs = 0 ∧ dropE l ws = 0 ∧ 1 ≤ w ∧ w ≤ 64 := by
 unfold refdE at h
 split at h
 · rename_i h0
   exact ⟨(firstV_zero _).1 h0 _ (by simp), (firstV_zero _).1 h0 _ (by simp), (firstV_zero _).1 h _ (by simp), (withinV_zero _ _ _).1 ((firstV_zero _).1 h _ (by simp))⟩
 · rename_i h0
   exact absurd h h0
set_option maxRecDepth 20000 in
set_option maxHeartbeats 4000000 in
theorem w15y {T W X : Heap} {n N N0 p q : Nat} {v rv uw u7 u9 u11 u18 u19 : Value} {w z13 : Int} {l : List Gun} {rs : List Rul} {ws : List ByteArray} (hB : B15 T W n N0 p v rv uw w l rs ws u7 u9 u11) (hS : Sub W X) (hm : MemOk N X) (hq : hget X q = some (.cells [u18] 24)) (hG : OutG X u18 (wantG l ws)) (o19 : OutI X u19 (refdL l rs ws w)) (h6 : strE l = 0 → l.length ≤ 6) (h9 : l.length ≤ 9) (hr13 : rs.length ≤ 13) :
   E Tryz.prog n none (cFrom (bodyOf Tryz.f15) 14) { fr := F15 rv n p q (wioE l ws) u9 (refdE l rs ws w) u11 (lrgE l rs w) z13 (rulsE rs) (wioE l ws) (refdE l rs ws w) (lrgE l rs w) u19 (.slice none 0 0), sz := 160, H := X, n := N, marks := [], vs := vs15 } (pureK Tryz.prog Tryz.f15 T (.bool true)) := by
 have hr := recT_ok (P := Tryz.prog) (l := [(101, g101)]) (by simp only [List.forall_mem_cons]; exact ⟨ok101, by simp⟩)
 have hM := hB.mem.more hS hm
 obtain ⟨r1, r2, r3⟩ := hM.reads
 by_cases h0 : lrgE l rs w = 0
 · obtain ⟨hst, hrs, hw⟩ := lrgE_zeroN h0
   obtain ⟨Wn, rfl⟩ := Int.eq_ofNat_of_zero_le (show 0 ≤ w by omega)
   have hW : 1 ≤ Wn ∧ Wn ≤ 64 := by omega
   have hD : lgD l rs Wn l.length = nmsL l (lrgZ l rs (Wn : Int)) := by rw [lrg_same hst (h6 hst) hrs hW.2, lrgZ, if_pos h0, Int.toNat_natCast]
   have h101 := g101_at (n := N) hst hrs hW hM.str hM.rul
   rw [hD] at h101
   obtain ⟨L, hL⟩ : ∃ L, nmsL l (lrgZ l rs (Wn : Int)) = L := ⟨_, rfl⟩
   have hLl : L.length ≤ 6 := by
     rw [← hL]
     have := lrgZ_facts (rs := rs) (w := (Wn : Int)) h6
     simpa [nmsL] using this
   obtain ⟨m1, s1⟩ := hm.sb (t := 9) (sz := 1) (k := L.length) (cs := L.map sv) rfl
   have o20 : OutW (outSB N 9 1 L.length (L.map sv) ++ X) (outS N L.length) L := OutW.sb (by omega)
   rw [hL] at h101
   obtain ⟨Y, hY⟩ : ∃ Y, outSB N 9 1 L.length (L.map sv) ++ X = Y := ⟨_, rfl⟩
   rw [hY] at m1 s1 o20 h101
   obtain ⟨u20, hu⟩ : ∃ u, outS N L.length = u := ⟨_, rfl⟩
   rw [hu] at o20 h101
   obtain ⟨oa, c, e20⟩ : ∃ oa c, u20 = .slice oa L.length c := by
     rw [← hu]
     by_cases h : L.length = 0
     · rw [h]; exact ⟨none, 0, rfl⟩
     · rw [outS_ne h]; exact ⟨_, _, rfl⟩
   obtain ⟨orr, cr, hrv⟩ : ∃ orr cr, rv = .slice orr rs.length cr := by
     obtain ⟨a, b, e, _⟩ := hM.rul
     exact ⟨a, b, e⟩
   have key := w15z (u20 := u20) (z13 := z13) hB (hS.trans s1) m1 (s1 _ _ hq) (by obtain ⟨M, e1, e2⟩ := hG; exact ⟨M, e1, strAt_mono s1 e2⟩) (o19.mono s1) (by rw [hL]; exact o20) h9 hr13
   rw [h0] at key ⊢
   subst hrv e20
   refine E.seq (E.seq (E.reg hr (by simp; rfl) ?_))
   refine E.cond (t := true) (by simp) (fun _ => ?_) (fun h => by cases h)
   refine E.reg hr (by simp [-cellsA, -cellA, r1, r3, h101]; rfl) ?_
   refine E.lead _ ?_ key
   exact .keep rfl rfl rfl (by simp) (Sub.refl _)
 · have key := w15z (u20 := .slice none 0 0) (z13 := z13) hB hS hm hq hG o19 (by rw [lrgE_nil h0]; exact OutW.nil) h9 hr13
   obtain ⟨e, he⟩ : ∃ z, lrgE l rs w = z := ⟨_, rfl⟩
   rw [he] at key h0 ⊢
   refine E.seq (E.seq (E.reg hr (by simp; rfl) ?_))
   refine E.cond (t := false) (by simp [h0]) (fun h => by cases h) (fun _ => ?_)
   refine E.skip ?_
   refine E.lead _ ?_ key
   exact .keep rfl rfl rfl (by simp) (Sub.refl _)
theorem plainH_hsetK {k : Nat} {b : Blk} (hb : plainB2 b = true) : ∀ {H : Heap}, plainH H = true → plainH (hset H k b) = true
 | [], _ => rfl
 | (j, c) :: H, h => by
   simp only [plainH, Bool.and_eq_true] at h
   unfold hset
   split
   · simp only [plainH, Bool.and_eq_true]
     exact ⟨hb, h.2⟩
   · simp only [plainH, Bool.and_eq_true]
     exact ⟨h.1, plainH_hsetK hb h.2⟩
set_option maxRecDepth 20000 in
set_option maxHeartbeats 4000000 in
theorem w15x {T W X : Heap} {n N N0 p q : Nat} {v rv uw u7 u9 u11 u18 : Value} {w z13 : Int} {l : List Gun} {rs : List Rul} {ws : List ByteArray} (hB : B15 T W n N0 p v rv uw w l rs ws u7 u9 u11) (hS : Sub W X) (hm : MemOk N X) (hq : hget X q = some (.cells [u18] 24)) (hG : OutG X u18 (wantG l ws)) (h6 : strE l = 0 → l.length ≤ 6) (h9 : l.length ≤ 9) (hr13 : rs.length ≤ 13) :
   E Tryz.prog n none (cFrom (bodyOf Tryz.f15) 13) { fr := F15 rv n p q (wioE l ws) u9 (refdE l rs ws w) u11 (lrgE l rs w) z13 (rulsE rs) (wioE l ws) (refdE l rs ws w) (lrgE l rs w) (.slice none 0 0) (.slice none 0 0), sz := 160, H := X, n := N, marks := [], vs := vs15 } (pureK Tryz.prog Tryz.f15 T (.bool true)) := by
 have hr := recT_ok (P := Tryz.prog) (l := [(100, g100)]) (by simp only [List.forall_mem_cons]; exact ⟨ok100, by simp⟩)
 have hM := hB.mem.more hS hm
 obtain ⟨r1, r2, r3⟩ := hM.reads
 by_cases h0 : refdE l rs ws w = 0
 · obtain ⟨hst, hrs, _, hw⟩ := refdE_zero h0
   obtain ⟨Wn, rfl⟩ := Int.eq_ofNat_of_zero_le (show 0 ≤ w by omega)
   have hW : 1 ≤ Wn ∧ Wn ≤ 64 := by omega
   have hD : refIdx (staysB l ws) l rs Wn rs.length = refdL l rs ws (Wn : Int) := by rw [refdL, if_pos h0, Int.toNat_natCast]
   have h100 := g100_at (n := N) hM.str hM.rul hM.wds.seen hst hrs hW
   rw [hD] at h100
   obtain ⟨L, hL⟩ : ∃ L, refdL l rs ws (Wn : Int) = L := ⟨_, rfl⟩
   have hLl : L.length ≤ 13 := by
     rw [← hL]
     have := refdL_len l rs ws (Wn : Int)
     omega
   obtain ⟨m1, s1⟩ := hm.sb (t := 3) (sz := 1) (k := L.length) (cs := L.map iv) rfl
   have o19 : OutI (outSB N 3 1 L.length (L.map iv) ++ X) (outS N L.length) L := OutI.sb (by omega)
   rw [hL] at h100
   obtain ⟨Y, hY⟩ : ∃ Y, outSB N 3 1 L.length (L.map iv) ++ X = Y := ⟨_, rfl⟩
   rw [hY] at m1 s1 o19 h100
   obtain ⟨u19, hu⟩ : ∃ u, outS N L.length = u := ⟨_, rfl⟩
   rw [hu] at o19 h100
   obtain ⟨oa, c, e19⟩ : ∃ oa c, u19 = .slice oa L.length c := by
     rw [← hu]
     by_cases h : L.length = 0
     · rw [h]; exact ⟨none, 0, rfl⟩
     · rw [outS_ne h]; exact ⟨_, _, rfl⟩
   obtain ⟨orr, cr, hrv⟩ : ∃ orr cr, rv = .slice orr rs.length cr := by
     obtain ⟨a, b, e, _⟩ := hM.rul
     exact ⟨a, b, e⟩
   have key := w15y (u19 := u19) (z13 := z13) hB (hS.trans s1) m1 (s1 _ _ hq) (by obtain ⟨M, e1, e2⟩ := hG; exact ⟨M, e1, strAt_mono s1 e2⟩) (by rw [hL]; exact o19) h6 h9 hr13
   rw [h0] at key ⊢
   subst hrv e19
   refine E.seq (E.seq (E.reg hr (by simp; rfl) ?_))
   refine E.cond (t := true) (by simp) (fun _ => ?_) (fun h => by cases h)
   refine E.reg hr (by simp [-cellsA, -cellA, r1, r2, r3, h100]; rfl) ?_
   refine E.lead _ ?_ key
   exact .keep rfl rfl rfl (by simp) (Sub.refl _)
 · have key := w15y (u19 := .slice none 0 0) (z13 := z13) hB hS hm hq hG (by rw [refdE_nil h0]; exact OutI.nil) h6 h9 hr13
   obtain ⟨e, he⟩ : ∃ z, refdE l rs ws w = z := ⟨_, rfl⟩
   rw [he] at key h0 ⊢
   refine E.seq (E.seq (E.reg hr (by simp; rfl) ?_))
   refine E.cond (t := false) (by simp [h0]) (fun h => by cases h) (fun _ => ?_)
   refine E.skip ?_
   refine E.lead _ ?_ key
   exact .keep rfl rfl rfl (by simp) (Sub.refl _)
def wioA (l : List Gun) (ws : List ByteArray) : Int := if strE l = 0 then dropE l ws else strE l
theorem wioA_zero {l : List Gun} {ws : List ByteArray} (h : wioA l ws = 0) : strE l = 0 ∧ dropE l ws = 0 := by
 unfold wioA at h
 split at h
 · rename_i h0; exact ⟨h0, h⟩
 · rename_i h0; exact absurd h h0
theorem wioA_ne {l : List Gun} {ws : List ByteArray} (h : wioA l ws ≠ 0) : wioE l ws = wioA l ws := by
 unfold wioA at h ⊢
 unfold wioE
 split
 · rename_i h0
   rw [if_pos h0] at h
   simp [firstV, h]
 · rfl
theorem wio_kept {l : List Gun} {ws : List ByteArray} (hst : strE l = 0) (hd : dropE l ws = 0) : wioE l ws = whenV (decide ((keptL l ws l.length).length = 0)) 12 ∧ wantG l ws = keptL l ws l.length := by
 have hc := kept_count hst hd
 have e : wioE l ws = whenV (decide ((keptL l ws l.length).length = 0)) 12 := by
   unfold wioE
   rw [if_pos hst, hd]
   have : decide (ws.length = l.length) = decide ((keptL l ws l.length).length = 0) := by rw [decide_eq_decide]; omega
   rw [this]
   unfold whenV
   split <;> rfl
 refine ⟨e, ?_⟩
 unfold wantG
 split
 · rfl
 · rename_i h
   rw [e] at h
   unfold whenV at h
   split at h
   · rename_i h1
     rw [List.length_eq_zero_iff.1 (of_decide_eq_true h1)]
   · exact absurd rfl h
set_option maxRecDepth 20000 in
set_option maxHeartbeats 4000000 in
theorem w15w {T W X : Heap} {n N N0 p q : Nat} {v rv uw u7 u9 u11 : Value} {w z13 : Int} {l : List Gun} {rs : List Rul} {ws : List ByteArray} (hB : B15 T W n N0 p v rv uw w l rs ws u7 u9 u11) (hS : Sub W X) (hm : MemOk N X) (hq : hget X q = some (.cells [.slice none 0 0] 24)) (hW0 : hget W q = none) (h6 : strE l = 0 → l.length ≤ 6) (h9 : l.length ≤ 9) (hr13 : rs.length ≤ 13) :
   E Tryz.prog n none (cFrom (bodyOf Tryz.f15) 12) { fr := F15 rv n p q (wioE l ws) u9 (refdE l rs ws w) u11 (lrgE l rs w) z13 (rulsE rs) (wioA l ws) (refdE l rs ws w) (lrgE l rs w) (.slice none 0 0) (.slice none 0 0), sz := 160, H := X, n := N, marks := [], vs := vs15 } (pureK Tryz.prog Tryz.f15 T (.bool true)) := by
 have hr := recT_ok (P := Tryz.prog) (l := [(99, g99)]) (by simp only [List.forall_mem_cons]; exact ⟨ok99, by simp⟩)
 have hM := hB.mem.more hS hm
 obtain ⟨r1, r2, r3⟩ := hM.reads
 obtain ⟨orr, cr, hrv⟩ : ∃ orr cr, rv = .slice orr rs.length cr := by
   obtain ⟨a, b, e, _⟩ := hM.rul
   exact ⟨a, b, e⟩
 by_cases h0 : wioA l ws = 0
 · obtain ⟨hst, hd⟩ := wioA_zero h0
   obtain ⟨e1, e2⟩ := wio_kept hst hd
   have h99 := g99_at (n := N) hM.str hM.wds.seen hst
   have hkl := keptL_len l ws l.length
   obtain ⟨k, hk⟩ : ∃ k, keptL l ws l.length = k := ⟨_, rfl⟩
   rw [hk] at e1 e2 h99 hkl
   rw [← e1] at h99
   obtain ⟨m1, s1⟩ := hm.sb (t := 94) (sz := 7) (k := k.length) (cs := gcs k) rfl
   have hs := strAt_sb (H := X) (N := N) (l := k) (Z := []) (t := 94) (by omega)
   rw [List.append_nil] at hs
   obtain ⟨Y, hY⟩ : ∃ Y, outSB N 94 7 k.length (gcs k) ++ X = Y := ⟨_, rfl⟩
   rw [hY] at m1 s1 h99 hs
   obtain ⟨u18, hu⟩ : ∃ u, outS N k.length = u := ⟨_, rfl⟩
   rw [hu] at h99 hs
   obtain ⟨oa, c, e18⟩ : ∃ oa c, u18 = .slice oa k.length c := by
     rw [← hu]
     by_cases h : k.length = 0
     · rw [h]; exact ⟨none, 0, rfl⟩
     · rw [outS_ne h]; exact ⟨_, _, rfl⟩
   have hqY := s1 _ _ hq
   have hqN : q < N := hm.lt hq
   have hsto : storeA Y q 0 [u18] = some (hset Y q (.cells [u18] 24)) := store_at hqY (by simp)
   have hS1 : Sub W (hset Y q (.cells [u18] 24)) := fun j b hb => by
     rw [hget_set, if_neg (fun e => by subst e; rw [hW0] at hb; cases hb)]
     exact s1 _ _ (hS _ _ hb)
   have hm1 : MemOk (N + 1) (hset Y q (.cells [u18] 24)) := ⟨namesOk_hset m1.1, plainH_hsetK (by rw [e18]; rfl) m1.2⟩
   have hq1 : hget (hset Y q (.cells [u18] 24)) q = some (.cells [u18] 24) := by rw [hget_set, if_pos rfl, hqY]; rfl
   have hs1 : strAt (hset Y q (.cells [u18] 24)) (.agg ⟨[u18]⟩) = some k := by
     by_cases hk0 : k.length = 0
     · rw [← hu, hk0, List.length_eq_zero_iff.1 hk0]; rfl
     · have hb : hget Y N = some (.ext (gcs k) 94 7) := by
         rw [← hY, outSB, if_neg hk0]
         show hget ((N, _) :: X) N = _
         rw [hget_cons, if_pos rfl]
       rw [← hu]
       refine strAt_pre hk0 (by omega) (Z := []) (t := 94) ?_
       rw [hget_set, if_neg (by omega), List.append_nil]
       exact hb
   obtain ⟨Y2, hY2⟩ : ∃ Y2, hset Y q (.cells [u18] 24) = Y2 := ⟨_, rfl⟩
   rw [hY2] at hsto hS1 hm1 hq1 hs1
   have key := w15x (u18 := u18) (z13 := z13) hB hS1 hm1 hq1 (by rw [e2]; exact ⟨N, hu.symm, hs1⟩) h6 h9 hr13
   obtain ⟨ee, hee⟩ : ∃ z, wioE l ws = z := ⟨_, rfl⟩
   rw [hee] at key h99 ⊢
   rw [h0]
   subst hrv e18
   refine E.seq (E.seq (E.reg hr (by simp; rfl) ?_))
   refine E.cond (t := true) (by simp) (fun _ => ?_) (fun h => by cases h)
   refine E.reg hr (by simp [-cellsA, -cellA, -storeA, r1, r2, h99, hsto]; rfl) ?_
   refine E.lead _ ?_ key
   exact .keep rfl rfl rfl (by simp) (Sub.refl _)
 · have e1 := wioA_ne h0
   have e2 : wantG l ws = [] := by rw [wantG, if_neg (by rw [e1]; exact h0)]
   have key := w15x (u18 := .slice none 0 0) (z13 := z13) hB hS hm hq (by rw [e2]; exact ⟨0, rfl, rfl⟩) h6 h9 hr13
   rw [e1] at key ⊢
   obtain ⟨e, he⟩ : ∃ z, wioA l ws = z := ⟨_, rfl⟩
   rw [he] at key h0 ⊢
   refine E.seq (E.seq (E.reg hr (by simp; rfl) ?_))
   refine E.cond (t := false) (by simp [h0]) (fun h => by cases h) (fun _ => ?_)
   refine E.skip ?_
   refine E.lead _ ?_ key
   exact .keep rfl rfl rfl (by simp) (Sub.refl _)
end Go.Proofs.YtndlfijfjglkdaaGreatDoor
