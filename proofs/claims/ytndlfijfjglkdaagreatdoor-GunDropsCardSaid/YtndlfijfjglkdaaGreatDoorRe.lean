/-
Contracts and plain reckonings behind the law GunDrops, part 5 of 8 (each under the conditions in its statement).
-/
import Derived.Test.YtndlfijfjglkdaaGreatDoorRd
import Derived.Test.YtndlfijfjglkdaaGreatDoorRc
import Derived.Test.YtndlfijfjglkdaaGreatDoorRa
namespace Go.Proofs.YtndlfijfjglkdaaGreatDoor
open Go Go.Ab Go.Proofs Ieee
noncomputable abbrev H156P (ls : LoopState) (pe : Option Code) (ns : List Int) (p : Int × Int × Int) : Heap := [(16, .loop ls pe fr156 80 vs156 #[12] asg156 bdy156 15), (15, .defd), (14, .cells [iv 4] 3), (13, .cells [.slice (some ⟨10, 0, none⟩) ns.length ns.length] 45), (12, .cells [iv p.1, iv p.2.1, iv p.2.2] 50), (11, .cells [iv 0, iv 0, iv 0] 50), (10, .inp 0 (ns.map iv))]
set_option maxRecDepth 100000 in
theorem yield156xP (ns : List Int) (p : Int × Int × Int) (i j : Nat) (hj : j < 4) :
   ∃ q, RecOk Tryz.prog q 0 ∧ yieldF q 16 [.slice (some ⟨10, i, none⟩) j j] (H156P .ready none ns p) 17 = some (.bool false, H156P .done (some (.exit 0)) ns p, 17) := by
 have hr := recT_ok (P := Tryz.prog) (l := []) (by simp)
 have hjI : (j : Int) < 4 := by omega
 let s1 : St := { fr := [(4, .slice (some ⟨10, i, none⟩) j j), (11, fn247), (2, .pointer (some ⟨11, 0, none⟩)), (3, .pointer (some ⟨12, 0, none⟩))], sz := 80, H := H156P .ready none ns p, n := 17, marks := [], vs := vs156 }
 let s2 : St := { fr := [], sz := 80, H := H156P .busy none ns p, n := 17, marks := [], vs := [] }
 refine ⟨r156 s1 (.exit 0) s2, recV_ok, ?_⟩
 have hA : AT Tryz.prog (some 16) asg156 { fr := (12, .slice (some ⟨10, i, none⟩) j j) :: fr156, sz := 80, H := H156P .ready none ns p, n := 17, marks := [], vs := vs156 } .normal s1 := by
   refine E.toATc ?_
   refine E.reg hr (by simp; rfl) ?_
   exact ⟨rfl, rfl, rfl, rfl, by simp [s1], by simp [s1]⟩
 have hB : AT Tryz.prog (some 16) bdy156 { s1 with H := H156P .busy none ns p } (.exit 0) s2 := by
   refine E.toATc ?_
   refine E.block (E.seq ?_)
   refine E.seq (E.reg hr (by simp [s1]; rfl) ?_)
   refine E.cond (t := true) (by simp [hjI]) (fun _ => ?_) (fun h => by cases h)
   refine E.exit ?_
   exact ⟨rfl, rfl, rfl, rfl, by simp [s2], by simp [s2]⟩
 have hh : hset s2.H 16 (.loop .done (some (.exit 0)) fr156 80 vs156 #[12] asg156 bdy156 15) = H156P .done (some (.exit 0)) ns p := by simp [s2]
 rw [← hh]
 refine yieldF_exit (s1 := s1) (s2 := s2) (fr := fr156) (sz := 80) (vs := vs156) (ps := #[12]) (a := asg156) (b := bdy156) (d := 15) (e := .exit 0) (by simp) rfl ?_ (by simp [s1]) ?_ rfl (by simp [s2])
 · exact recV_code (by intro b h; cases h) rfl hA
 · show (r156 s1 (.exit 0) s2).code (some 16) bdy156 { s1 with H := hset s1.H 16 _ } = _
   rw [show hset s1.H 16 (.loop .busy none fr156 80 vs156 #[12] asg156 bdy156 15) = H156P .busy none ns p by simp [s1]]
   exact recV_code (by intro b h; cases h) rfl hB
set_option maxRecDepth 100000 in
set_option maxHeartbeats 1000000 in
theorem yield156P (ns : List Int) (k : Nat) (hk : 4 * k + 4 ≤ ns.length) (hl : ns.length ≤ 1024) (hb : inS ns) :
   ∃ q, RecOk Tryz.prog q 0 ∧ yieldF q 16 [.slice (some ⟨10, 4 * k, none⟩) 4 4] (H156P .ready none ns (bacc ns k)) 17 = some (.bool true, H156P .ready none ns (bacc ns (k + 1)), 18) := by
 have hr := recT_ok (P := Tryz.prog) (l := []) (by simp)
 have hAb := bacc_bd hb k
 obtain ⟨A0, hA0⟩ : ∃ A, (bacc ns k).1 = A := ⟨_, rfl⟩
 obtain ⟨A1, hA1⟩ : ∃ A, (bacc ns k).2.1 = A := ⟨_, rfl⟩
 obtain ⟨A2, hA2⟩ : ∃ A, (bacc ns k).2.2 = A := ⟨_, rfl⟩
 have hbs : bacc ns (k + 1) = (A0 + (four ns k).1, A1 + (four ns k).2.1, A2 + (four ns k).2.2) := by rw [bacc, hA0, hA1, hA2]
 have hbk : bacc ns k = (A0, A1, A2) := by rw [← hA0, ← hA1, ← hA2]
 rw [hA0, hA1, hA2] at hAb
 rw [hbk]
 obtain ⟨j, hj⟩ : ∃ j, 4 * k = j := ⟨_, rfl⟩
 unfold four at hbs
 dsimp only at hbs
 rw [hj] at hbs hk ⊢
 have ja := inS_at hb j
 have jb := inS_at hb (j + 1)
 have jc := inS_at hb (j + 2)
 have jd := inS_at hb (j + 3)
 have gd : ∀ i (h : i < ns.length), ns[i] = ns.getD i 0 := fun i h => by rw [List.getD_eq_getElem?_getD, List.getElem?_eq_getElem h]; rfl
 have hrow : ((ns.map iv).drop j).take 4 = [iv (ns.getD j 0), iv (ns.getD (j + 1) 0), iv (ns.getD (j + 2) 0), iv (ns.getD (j + 3) 0)] := by
   rw [← List.map_drop, ← List.map_take, List.drop_eq_getElem_cons (by omega), List.drop_eq_getElem_cons (by omega), List.drop_eq_getElem_cons (by omega), List.drop_eq_getElem_cons (by omega), gd, gd, gd, gd]
   rfl
 obtain ⟨a, ha⟩ : ∃ a, ns.getD j 0 = a := ⟨_, rfl⟩
 obtain ⟨b, hb'⟩ : ∃ a, ns.getD (j + 1) 0 = a := ⟨_, rfl⟩
 obtain ⟨c', hc'⟩ : ∃ a, ns.getD (j + 2) 0 = a := ⟨_, rfl⟩
 obtain ⟨d, hd'⟩ : ∃ a, ns.getD (j + 3) 0 = a := ⟨_, rfl⟩
 rw [ha, hb', hc', hd'] at hrow
 rw [ha] at ja hbs
 rw [hb'] at jb hbs
 rw [hc'] at jc hbs
 rw [hd'] at jd hbs
 have hjl : j + 4 ≤ ns.length := hk
 let s1 : St := { fr := [(4, .slice (some ⟨10, j, none⟩) 4 4), (11, fn247), (2, .pointer (some ⟨11, 0, none⟩)), (3, .pointer (some ⟨12, 0, none⟩))], sz := 80, H := H156P .ready none ns (A0, A1, A2), n := 17, marks := [], vs := vs156 }
 let s2 : St := { fr := [], sz := 80, H := H156P .busy none ns (bacc ns (k + 1)), n := 18, marks := [], vs := [] }
 refine ⟨r156 s1 .normal s2, recV_ok, ?_⟩
 have hA : AT Tryz.prog (some 16) asg156 { fr := (12, .slice (some ⟨10, j, none⟩) 4 4) :: fr156, sz := 80, H := H156P .ready none ns (A0, A1, A2), n := 17, marks := [], vs := vs156 } .normal s1 := by
   refine E.toATc ?_
   refine E.reg hr (by simp; rfl) ?_
   exact ⟨rfl, rfl, rfl, rfl, by simp [s1], by simp [s1]⟩
 have hB : AT Tryz.prog (some 16) bdy156 { s1 with H := H156P .busy none ns (A0, A1, A2) } .normal s2 := by
   refine E.toATc ?_
   refine E.block (E.seq ?_)
   refine E.seq (E.reg hr (by simp [s1]; rfl) ?_)
   refine E.cond (t := false) (by simp) (fun h => by cases h) (fun _ => ?_)
   refine E.skip (E.seq (E.reg hr (by simp [run_s2ap, opSlicetoarraypointer, hjl, hrow]; rfl) ?_))
   refine E.seq (E.seq ?_)
   by_cases hz : ((a == 0) && ((b == 0) && ((c' == 0) && ((d == 0) && true)))) = true
   · have hz2 := hz
     simp only [Bool.and_eq_true, beq_iff_eq] at hz2
     obtain ⟨rfl, rfl, rfl, rfl, _⟩ := hz2
     have hb0 : bacc ns (k + 1) = (A0, A1, A2) := by rw [hbs]; simp
     refine E.reg hr (by simp [build281, eq281]; rfl) ?_
     refine E.cond (t := true) (by simp) (fun _ => ?_) (fun h => by cases h)
     refine E.exit ?_
     exact ⟨rfl, rfl, rfl, rfl, by simp [s2], by simp [s2, hb0]⟩
   obtain ⟨zb, hzb⟩ : ∃ z, ((a == 0) && ((b == 0) && ((c' == 0) && ((d == 0) && true)))) = z := ⟨_, rfl⟩
   have hzf : zb = false := by
     cases zb with
     | false => rfl
     | true => exact absurd hzb hz
   subst hzf
   have h281 := fun (x y : Operand) (H : Heap) (n : Nat) => eq281 (x := x) (y := y) (H := H) (n := n) a b c' d 0 0 0 0
   rw [hzb] at h281
   have x1 : IntKind.i64.wrap (a + b) = a + b := W_in (by omega) (by omega)
   have x2 : IntKind.i64.wrap (a + b + c') = a + b + c' := W_in (by omega) (by omega)
   have x3 : IntKind.i64.wrap (a + b + c' + d) = a + b + c' + d := W_in (by omega) (by omega)
   have x4 : IntKind.i64.wrap (a - c') = a - c' := W_in (by omega) (by omega)
   have x5 : IntKind.i64.wrap (b - d) = b - d := W_in (by omega) (by omega)
   have x6 : IntKind.i64.wrap (a - b) = a - b := W_in (by omega) (by omega)
   have x7 : IntKind.i64.wrap (a - b + c') = a - b + c' := W_in (by omega) (by omega)
   have x8 : IntKind.i64.wrap (a - b + c' - d) = a - b + c' - d := W_in (by omega) (by omega)
   have s1' := sq_bd (x := a + b + c' + d) (B := 65536) (by omega) (by omega)
   have s2' := sq_bd (x := a - c') (B := 32768) (by omega) (by omega)
   have s3' := sq_bd (x := b - d) (B := 32768) (by omega) (by omega)
   have s4' := sq_bd (x := a - b + c' - d) (B := 65536) (by omega) (by omega)
   obtain ⟨P, hP⟩ : ∃ P, a + b + c' + d = P := ⟨_, rfl⟩
   obtain ⟨Q, hQ⟩ : ∃ Q, a - c' = Q := ⟨_, rfl⟩
   obtain ⟨R', hR'⟩ : ∃ R, b - d = R := ⟨_, rfl⟩
   obtain ⟨T, hT⟩ : ∃ T, a - b + c' - d = T := ⟨_, rfl⟩
   rw [hP] at x3 s1' hbs
   rw [hQ] at x4 s2' hbs
   rw [hR'] at x5 s3' hbs
   rw [hT] at x8 s4' hbs
   have y1 : IntKind.i64.wrap (P * P) = P * P := W_in (by omega) (by omega)
   have y2 : IntKind.i64.wrap (A0 + P * P) = A0 + P * P := W_in (by omega) (by omega)
   have y3 : IntKind.i64.wrap (Q * Q) = Q * Q := W_in (by omega) (by omega)
   have y5 : IntKind.i64.wrap (R' * R') = R' * R' := W_in (by omega) (by omega)
   have y4 : IntKind.i64.wrap (Q * Q + R' * R') = Q * Q + R' * R' := W_in (by omega) (by omega)
   have y6 : IntKind.i64.wrap (A1 + (Q * Q + R' * R')) = A1 + (Q * Q + R' * R') := W_in (by omega) (by omega)
   have y7 : IntKind.i64.wrap (T * T) = T * T := W_in (by omega) (by omega)
   have y8 : IntKind.i64.wrap (A2 + T * T) = A2 + T * T := W_in (by omega) (by omega)
   refine E.reg hr (by simp [build281, h281]; rfl) ?_
   refine E.cond (t := false) (by simp) (fun h => by cases h) (fun _ => ?_)
   refine E.skip (E.seq ?_)
   refine E.drawC mixed hr [] [] [1, 3, 6, 9, 12, 14, 17, 19, 22, 24, 27, 30] (by kernel_rfl) (by simp [x1, x2, hP, x3, hQ, x4, hR', x5, x6, x7, hT, x8]; rfl) ?_
   refine E.seq (E.reg hr (by simp [y1, y2]; rfl) ?_)
   refine E.seq (E.reg hr (by simp [y3, y4, y5, y6]; rfl) ?_)
   refine E.reg hr (by simp [y7, y8]; rfl) ?_
   exact ⟨rfl, rfl, rfl, rfl, by simp [s2], by simp [s2, hbs]⟩
 have hh : hset s2.H 16 (.loop .ready none fr156 80 vs156 #[12] asg156 bdy156 15) = H156P .ready none ns (bacc ns (k + 1)) := by simp [s2]
 rw [← hh]
 refine yieldF_of (s1 := s1) (s2 := s2) (fr := fr156) (sz := 80) (vs := vs156) (ps := #[12]) (a := asg156) (b := bdy156) (d := 15) (by simp) rfl ?_ (by simp [s1]) ?_ (by simp [s2])
 · exact recV_code (by intro b h; cases h) rfl hA
 · show (r156 s1 .normal s2).code (some 16) bdy156 { s1 with H := hset s1.H 16 _ } = _
   rw [show hset s1.H 16 (.loop .busy none fr156 80 vs156 #[12] asg156 bdy156 15) = H156P .busy none ns (A0, A1, A2) by simp [s1]]
   exact recV_code (by intro b h; cases h) rfl hB
section
variable {fr : Fr} {H : Heap} {n m L : Nat} {x y z u : Operand} {cs : List Value}
theorem used45P (h : hget H m = some (.inp 0 cs)) (o s : Nat) : usedA H 1 (some ⟨m, o, none⟩) s = 0 := by
 simp [usedA, h]
theorem lo45P {i : Nat} (hg : hget H m = some (.inp 0 cs)) (_h0 : 0 < i) (hi : i < cs.length) (hx : evO Tryz.prog fr x = some (.slice (some ⟨m, 0, none⟩) cs.length cs.length)) (hy : evO Tryz.prog fr y = some (iv i)) :
   opSlice Tryz.prog 45 x (some y) none none fr H n = some (.slice (some ⟨m, i, none⟩) (cs.length - i) (cs.length - i), H, n) := by
 simp only [opSlice, hx, evI, hy, Tryz.underlying45, show szA Tryz.prog 3 = some 1 from by simp, used45P hg]
 have h1 : i ≤ cs.length := by omega
 have h7 : ¬ cs.length = i := by omega
 simp [sliceA, boundA, h1, h7]
theorem lo45zP (hg : hget H m = some (.inp 0 cs)) (_hi : 0 < cs.length) (hx : evO Tryz.prog fr x = some (.slice (some ⟨m, 0, none⟩) cs.length cs.length)) (hy : evO Tryz.prog fr y = some (iv 0)) :
   opSlice Tryz.prog 45 x (some y) none none fr H n = some (.slice (some ⟨m, 0, none⟩) cs.length cs.length, H, n) := by
 simp only [opSlice, hx, evI, hy, Tryz.underlying45, show szA Tryz.prog 3 = some 1 from by simp, used45P hg]
 simp [sliceA, boundA]
theorem max45P {i j : Nat} (hg : hget H m = some (.inp 0 cs)) (hij : i < j) (hj : j ≤ cs.length) (hx : evO Tryz.prog fr x = some (.slice (some ⟨m, 0, none⟩) cs.length cs.length)) (hy : evO Tryz.prog fr y = some (iv i)) (hz : evO Tryz.prog fr z = some (iv j)) (hu : evO Tryz.prog fr u = some (iv j)) :
   opSlice Tryz.prog 45 x (some y) (some z) (some u) fr H n = some (.slice (some ⟨m, i, none⟩) (j - i) (j - i), H, n) := by
 have h1 : i ≤ j := by omega
 have h2 : i < cs.length := by omega
 have h4 : (j : Int) ≤ cs.length := by omega
 have h5 : (i : Int) < j := by omega
 simp only [opSlice, hx, evI, hy, hz, hu, Tryz.underlying45, show szA Tryz.prog 3 = some 1 from by simp, used45P hg]
 have h7 : ¬ j = i := by omega
 simp [sliceA, boundA, h1, hj, h7]
end
theorem H156_oldP {ls : LoopState} {pe : Option Code} {ns : List Int} {p : Int × Int × Int} {k : Nat} {b : Blk} (h : hget (H156P ls pe ns p) k = some b) : k < 17 ∧ scB (· < 17) b := by
 have hm := hget_mem _ _ _ h
 simp only [H156P, List.mem_cons, Prod.mk.injEq, List.not_mem_nil, or_false] at hm
 rcases hm with ⟨rfl, rfl⟩ | ⟨rfl, rfl⟩ | ⟨rfl, rfl⟩ | ⟨rfl, rfl⟩ | ⟨rfl, rfl⟩ | ⟨rfl, rfl⟩ | ⟨rfl, rfl⟩
 · refine ⟨by omega, ?_⟩
   rw [scB_loop (by omega) (by
     intro x hx
     simp only [fr156, List.mem_cons, List.not_mem_nil, or_false] at hx
     rcases hx with rfl | rfl | rfl <;> simp [sc, scL])]
   trivial
 · exact ⟨by omega, trivial⟩
 all_goals exact ⟨by omega, by simp [sc, scL]⟩
noncomputable def S247P (ns : List Int) (k : Nat) : St := { fr := [(0, .func (.yield 16) #[] #[]), (1, .pointer (some ⟨13, 0, none⟩)), (2, .pointer (some ⟨14, 0, none⟩)), (4, iv ((4 * k : Nat) : Int))], sz := 31, H := H156P .ready none ns (bacc ns k), n := 17, marks := [], vs := [0, 1, 2, 4, 5, 9, 30] }
noncomputable def F247P (ns : List Int) : Heap := if ns.length % 4 = 0 then H156P .ready none ns (bacc ns (ns.length / 4)) else H156P .done (some (.exit 0)) ns (bacc ns (ns.length / 4))
set_option maxRecDepth 100000 in
set_option maxHeartbeats 1000000 in
theorem w247P (ns : List Int) (hl : ns.length ≤ 1024) (hb : inS ns) : AC Tryz.prog 247 [.func (.yield 16) #[] #[], .pointer (some ⟨13, 0, none⟩), .pointer (some ⟨14, 0, none⟩)] (H156P .ready none ns (0, 0, 0)) 17 (.tuple #[]) (F247P ns) 17 := by
 have hr := recT_ok (P := Tryz.prog) (l := []) (by simp)
 refine AC.body Tryz.func247 rfl (by kernel_rfl) rfl [0, 1, 2, 4, 5, 9, 30] ?_
 refine E.seq (E.reg hr (by simp; rfl) ?_)
 refine E.block (E.loop ?_)
 refine EL.ind (S247P ns) (fun k => ns.length / 4 + 1 - k) (fun k => 4 * k ≤ ns.length) 0 (.less rfl rfl rfl (by simp [S247P]) (by simp [S247P, bacc])) (Nat.zero_le _) (fun _ => rfl) ?_
 intro k hk
 obtain ⟨j, hj⟩ : ∃ j, 4 * k = j := ⟨_, rfl⟩
 have hjk : k = j / 4 := by omega
 refine E.seq (E.seq ?_)
 by_cases hjl : j < ns.length
 case neg =>
   have hge : ¬ (j : Int) < ns.length := by omega
   have hke : k = ns.length / 4 := by omega
   refine E.reg hr (by simp [S247P, hj]; rfl) ?_
   refine E.cond (t := false) (by simp; omega) (fun h => by cases h) (fun _ => ?_)
   refine E.exit ?_
   refine ⟨.inl rfl, ?_⟩
   rw [F247P, if_pos (by omega), ← hke]
   simp [leaveF, shutA, resultsA, Tryz.results247, dropOk]
 have hjI : (j : Int) < ns.length := by omega
 have hlm : (ns.map iv).length = ns.length := List.length_map ..
 refine E.reg hr (by simp [S247P, hj]; rfl) ?_
 refine E.cond (t := true) (by simp; omega) (fun _ => ?_) (fun h => by cases h)
 refine E.skip (E.seq ?_)
 refine E.block ?_
 obtain ⟨w, hw⟩ : ∃ w : Nat, min 4 (ns.length - j) = w := ⟨_, rfl⟩
 have hw1 : 0 < w ∧ w ≤ 4 ∧ j + w ≤ ns.length := by omega
 refine E.cut { fr := [(0, .func (.yield 16) #[] #[]), (1, .pointer (some ⟨13, 0, none⟩)), (2, .pointer (some ⟨14, 0, none⟩)), (4, iv j), (5, iv w)], sz := 31, H := H156P .ready none ns (bacc ns k), n := 17, marks := [], vs := [0, 1, 2, 4, 5, 9, 30] } ?_ ?_
 · by_cases hj0 : j = 0
   · subst hj0
     have hlo : ∀ {fr : Fr} {H : Heap} {x y : Operand}, hget H 10 = some (.inp 0 (ns.map iv)) → evO Tryz.prog fr x = some (.slice (some ⟨10, 0, none⟩) ns.length ns.length) → evO Tryz.prog fr y = some (iv 0) → opSlice Tryz.prog 45 x (some y) none none fr H 17 = some (.slice (some ⟨10, 0, none⟩) ns.length ns.length, H, 17) := fun h1 h2 h3 => by
       rw [← hlm] at h2 ⊢
       exact lo45zP h1 (by omega) h2 h3
     refine E.drawC mixed hr [] [] [0, 1, 3] (by kernel_rfl) (by simp [hlo]; rfl) ?_
     exact Leads.less rfl rfl rfl (by simp; omega) (by simp)
   · have hlo : ∀ {fr : Fr} {H : Heap} {x y : Operand}, hget H 10 = some (.inp 0 (ns.map iv)) → evO Tryz.prog fr x = some (.slice (some ⟨10, 0, none⟩) ns.length ns.length) → evO Tryz.prog fr y = some (iv j) → opSlice Tryz.prog 45 x (some y) none none fr H 17 = some (.slice (some ⟨10, j, none⟩) (ns.length - j) (ns.length - j), H, 17) := fun h1 h2 h3 => by
       rw [← hlm] at h2 ⊢
       exact lo45P h1 (by omega) (by omega) h2 h3
     refine E.drawC mixed hr [] [] [0, 1, 3] (by kernel_rfl) (by simp [hlo]; rfl) ?_
     exact Leads.less rfl rfl rfl (by simp; omega) (by simp)
 have hwi : IntKind.i64.wrap ((j : Int) + (w : Int)) = (j : Int) + (w : Int) := W_in (by omega) (by omega)
 have hmx : ∀ {fr : Fr} {H : Heap} {x y z u : Operand}, hget H 10 = some (.inp 0 (ns.map iv)) → evO Tryz.prog fr x = some (.slice (some ⟨10, 0, none⟩) ns.length ns.length) → evO Tryz.prog fr y = some (iv j) → evO Tryz.prog fr z = some (iv ((j : Int) + (w : Int))) → evO Tryz.prog fr u = some (iv ((j : Int) + (w : Int))) → opSlice Tryz.prog 45 x (some y) (some z) (some u) fr H 17 = some (.slice (some ⟨10, j, none⟩) w w, H, 17) := fun h1 h2 h3 h4 h5 => by
   rw [← hlm] at h2
   have := max45P (i := j) (j := j + w) (n := 17) h1 (by omega) (by omega) h2 h3 h4 h5
   rw [show j + w - j = w by omega] at this
   exact this
 refine E.seq ?_
 by_cases hfull : w = 4
 · subst hfull
   obtain ⟨q, hq, hy⟩ := yield156P ns k (by omega) hl hb
   rw [hj] at hy
   have hwi4 : IntKind.i64.wrap ((j : Int) + 4) = (j : Int) + 4 := W_in (by omega) (by omega)
   refine E.reg hq (by simp [hwi4, hmx, hy]; rfl) ?_
   refine E.cond (t := false) (by simp) (fun h => by cases h) (fun _ => ?_)
   refine E.skip (E.reg hr (by simp [hwi4]; rfl) ?_)
   refine ⟨k + 1, ?_, by dsimp only; omega, by dsimp only; omega⟩
   have e4 : ((4 * (k + 1) : Nat) : Int) = (j : Int) + 4 := by omega
   refine Leads.renM id (fun _ _ => rfl) (Nat.le_refl 17) rfl ⟨rfl, rfl⟩ (fun t v hv => ?_) (fun b c hc => ?_) fun j b k c _ _ e => e
   · have := lk_mem _ _ _ hv
     simp only [S247P, List.mem_cons, Prod.mk.injEq, List.not_mem_nil, or_false] at this
     rcases this with ⟨rfl, rfl⟩ | ⟨rfl, rfl⟩ | ⟨rfl, rfl⟩ | ⟨rfl, rfl⟩
     · exact .inl ⟨by simp, by simp [sc, scL]⟩
     · exact .inl ⟨by simp, by simp [sc]⟩
     · exact .inl ⟨by simp, by simp [sc]⟩
     · exact .inl ⟨by rw [e4]; simp, trivial⟩
   · obtain ⟨h1, h2⟩ := H156_oldP (show hget (H156P .ready none ns (bacc ns (k + 1))) b = some c from hc)
     exact .inl ⟨h1, h2, hc⟩
 · have hke : k = ns.length / 4 := by omega
   obtain ⟨q, hq, hy⟩ := yield156xP ns (bacc ns k) j w (by omega)
   refine E.reg hq (by simp [hwi, hmx, hy]; rfl) ?_
   refine E.cond (t := true) (by simp) (fun _ => ?_) (fun h => by cases h)
   refine E.ret ?_
   refine ⟨.inr rfl, ?_⟩
   rw [F247P, if_neg (by omega), ← hke]
   simp [leaveF, shutA, resultsA, Tryz.results247, dropOk]
set_option maxRecDepth 100000 in
theorem w156P (ns : List Int) (hl : ns.length ≤ 1024) (hb : inS ns) : ∃ H1 n1, AC Tryz.prog 156 [.slice (some ⟨10, 0, none⟩) ns.length ns.length] [(10, .inp 0 (ns.map iv))] 11 (bandV (bacc ns (ns.length / 4))) H1 n1 := by
 have hr := recT_ok (P := Tryz.prog) (l := [(207, g207)]) (by simp only [List.forall_mem_cons]; exact ⟨ok207, by simp⟩)
 have hAC := w247P ns hl hb
 obtain ⟨A, hA⟩ : ∃ A, bacc ns (ns.length / 4) = A := ⟨_, rfl⟩
 obtain ⟨A0, A1, A2⟩ := A
 rw [hA]
 have key : ∃ v H' n', AC Tryz.prog 156 [.slice (some ⟨10, 0, none⟩) ns.length ns.length] [(10, .inp 0 (ns.map iv))] 11 v H' n' ∧ v = bandV (A0, A1, A2) := by
   refine AC.bodyX (Q := fun v _ _ => v = bandV (A0, A1, A2)) Tryz.func156 rfl (by kernel_rfl) rfl vs156 ?_
   refine E.seq (E.reg hr (by simp; rfl) ?_)
   refine E.seq (E.reg hr (by simp; rfl) ?_)
   refine E.seq (E.seq (E.reg hr (by simp [g207]; rfl) ?_))
   refine E.block ?_
   refine E.lead { fr := fr156, sz := 80, H := (H156P .ready none ns (0, 0, 0)).drop 2, n := 15, marks := [], vs := vs156 } (.less rfl rfl rfl (by simp) (by simp)) ?_
   by_cases h4 : ns.length % 4 = 0
   · have hF : F247P ns = H156P .ready none ns (A0, A1, A2) := by rw [F247P, if_pos h4, hA]
     rw [hF] at hAC
     refine E.range (r := recV Tryz.prog (fun _ _ _ => none) (fun _ _ _ _ => some (.tuple #[], H156P .ready none ns (A0, A1, A2), 17))) recV_ok (rangeF_of rfl ent247 (recV_call rfl hAC) rfl) ?_
     refine E.seq (E.reg hr (by simp; rfl) ?_)
     refine E.ret ?_
     exact ⟨.inr rfl, _, _, _, by simp [leaveF, shutA, resultsA, resultA, Tryz.results156, dropOk]; exact ⟨rfl, rfl, rfl⟩, rfl⟩
   · have hF : F247P ns = H156P .done (some (.exit 0)) ns (A0, A1, A2) := by rw [F247P, if_neg h4, hA]
     rw [hF] at hAC
     let sx : St := { fr := fr156, sz := 80, H := hset (H156P .done (some (.exit 0)) ns (A0, A1, A2)) 16 (.loop .exhausted (some (.exit 0)) fr156 80 vs156 #[12] asg156 bdy156 15), n := 17, marks := [15], vs := vs156 }
     refine E.range (r := recV Tryz.prog (fun _ c _ => match c with
       | .exit i => some (.exit i, sx)
       | _ => none) (fun _ _ _ _ => some (.tuple #[], H156P .done (some (.exit 0)) ns (A0, A1, A2), 17))) (e := .exit 0) (st' := sx) recV_ok (rangeF_exit rfl ent247 (recV_call rfl hAC) rfl (recV_code (by intro b h; cases h) rfl AT.exit)) ?_
     refine E.seq (E.reg hr (by simp [sx]; rfl) ?_)
     refine E.ret ?_
     exact ⟨.inr rfl, _, _, _, by simp [leaveF, shutA, resultsA, resultA, Tryz.results156, dropOk]; exact ⟨rfl, rfl, rfl⟩, rfl⟩
 obtain ⟨v, H1, n1, h1, rfl⟩ := key
 exact ⟨H1, n1, h1⟩
end Go.Proofs.YtndlfijfjglkdaaGreatDoor
namespace Go.Ab
open Go
theorem Part.oneN {P : Program} {H : Heap} {n : Nat} {R : List Value → Heap → Nat → Prop} (mk : Value → List Value) (hmk : ∀ φ φ0 s s0, den φ0 s0 = den φ s → denL φ0 (mk s0) = denL φ (mk s)) (hms : ∀ (p : Nat → Prop) s, sc p s → scL p (mk s)) {b o len cap m : Nat} {cs : List Value}
   (hc : cellsA H b o m = some cs) (haf : afL cs = true) (G : Heap) (hG : Seen P H G) {N : Nat} (hN : P.globals.size = N) (h : R (mk (.slice (some ⟨N, o, none⟩) len cap)) ((N, .inp o cs) :: G) (N + 1)) : Part P (mk (.slice (some ⟨b, o, none⟩) len cap)) H n R :=
 Part.views [⟨b, o, cs⟩] G hG hN (fun v hv => by rw [List.mem_singleton] at hv; subst hv; exact ⟨⟨m, hc⟩, haf⟩) fun φ => by
   refine ⟨_, fun φ0 hl => hmk φ φ0 _ _ ?_, hms _ _ (Nat.lt_succ_self _), h⟩
   have := hl 0 _ rfl
   simp only [Nat.add_zero] at this
   simp [den, this]
end Go.Ab
namespace Go.Proofs.YtndlfijfjglkdaaGreatDoor
section
open Go Go.Ab Go.Proofs
def g156P (args : List Value) (H : Heap) (n : Nat) : R := match args with
 | [.slice (some ⟨b, 0, none⟩) len cap] => if len = cap then (match (cellsA H b 0 len).bind intsOf with
   | some ns => if ns.length = len ∧ ns.length ≤ 1024 ∧ inS ns then some (bandV (bacc ns (ns.length / 4)), H, n) else none
   | none => none) else none
 | _ => none
theorem ok156P : EntOk Tryz.prog (156, g156P) := by
 intro args H n v H' n' h'
 simp only [g156P] at h'
 split at h'
 · split at h'
   · rename_i hcap
     subst hcap
     split at h'
     · rename_i ns hn
       split at h'
       · rename_i hc
         obtain ⟨rfl, h2, h3⟩ := hc
         injection h' with h'; injection h' with e1 e2; injection e2 with e2 e3; subst e1 e2 e3
         rw [Option.bind_eq_some_iff] at hn
         obtain ⟨cs, hcs, hn⟩ := hn
         have := intsOf_ok _ _ hn
         subst this
         exact AC.liftP rfl (Part.oneN (fun x => [x]) (by intro φ φ0 s s0 h; simp [denL, h]) (by intro p s h; exact ⟨h, trivial⟩) hcs (afL_iv ns) [] (by simp [Seen]) gsz (w156P ns h2 h3))
       · cases h'
     · cases h'
   · cases h'
 · cases h'
theorem g156P_at {H : Heap} {n b : Nat} {ns : List Int} (h : hget H b = some (.cells (ns.map iv) 3)) (hl : ns.length ≤ 1024) (hb : inS ns) : g156P [.slice (some ⟨b, 0, none⟩) ns.length ns.length] H n = some (bandV (bacc ns (ns.length / 4)), H, n) := by
 have hc : cellsA H b 0 ns.length = some (ns.map iv) := by
   rw [cellsA_eq, h]
   simp only [Option.bind_some, cellsB]
   rw [if_pos (by rw [List.length_map]; omega), List.drop_zero, List.take_of_length_le (by rw [List.length_map]; exact Nat.le_refl _)]
 simp only [g156P, hc, Option.bind_some, intsOf_iv]
 rw [if_pos trivial, if_pos ⟨trivial, hl, hb⟩]
end
section
open Go Go.Ab Go.Proofs Ieee
end
section
open Go Go.Ab Go.Proofs Go.Soft
end
section
open Go Go.Ab Go.Proofs Go.Soft Ieee
end
section
open Go Go.Ab Go.Proofs
end
section
open Go Go.Ab Go.Proofs Ieee
section
variable {l : List Gun} {d : ByteArray} {sh : List Int}
theorem gun_lo (hst : strE l = 0) {k : Nat} (hk : k < l.length) : (gAt l k).lo ≤ (gAt l k).hi := by
 rw [gAt_at l hk]
 exact gun_order hst _ (List.getElem_mem hk)
theorem shE_of (hl : sh.length = l.length) (h : ∀ k, k < l.length → (gAt l k).lo ≤ sh.getD k 0 ∧ sh.getD k 0 ≤ (gAt l k).hi) : shE l sh = 0 := okSh_all (fun j hj => by
 have := h j (by omega)
 rw [getD_at hj] at this
 exact this) hl
end
end
section
open Go Go.Ab Go.Proofs
def sumFb (b : Nat → Bool) (l : List Gun) (sh : List Int) (d : ByteArray) (j : Int) : Nat → Int
 | 0 => 0
 | i + 1 => sumFb b l sh d j i + if b i then pulseV (vAt l i) (sh.getD i 0) (j - (arrL d l).getD i 0) else 0
theorem sumFb_bound {b : Nat → Bool} {l : List Gun} {sh : List Int} (hst : strE l = 0) (d : ByteArray) (j : Int) : ∀ i, i ≤ l.length → -(256 * (i : Int)) ≤ sumFb b l sh d j i ∧ sumFb b l sh d j i ≤ 256 * (i : Int)
 | 0, _ => by simp [sumFb]
 | i + 1, h => by
   have ih := sumFb_bound (b := b) (sh := sh) hst d j i (by omega)
   obtain ⟨hv, _⟩ := gun_nums hst l[i] (List.getElem_mem (by omega))
   have hp := pulse256 (s := sh.getD i 0) (i := j - (arrL d l).getD i 0) hv
   rw [sumFb, vAt_at (by omega)]
   split <;> omega
theorem sigF_get {b : Nat → Bool} {l : List Gun} {sh : List Int} (hst : strE l = 0) (hsh : shE l sh = 0) (d : ByteArray) {W j : Nat} (hj : j < W) : ∀ i, i ≤ l.length → (sigF b l sh d W i)[j]? = some (sumFb b l sh d j i)
 | 0, _ => by simp [sigF, sumFb, zeros, hj]
 | i + 1, h => by
   have ih := sigF_get (b := b) hst hsh d hj i (by omega)
   obtain ⟨hse, hsb⟩ := shE_zero hsh
   obtain ⟨hv, _, _, _, hlo, hhi⟩ := gun_nums hst l[i] (List.getElem_mem (by omega))
   have hb := sumFb_bound (b := b) (sh := sh) hst d j i (by omega)
   have h8 := (strE_len hst).2
   have hia : i < (arrL d l).length := by rw [arrL_length]; omega
   have ha := arrL_bounds hst d _ (List.getElem_mem hia)
   have hsi := hsb i (by omega) (by omega)
   rw [sigF, sumFb]
   cases b i with
   | false => simpa using ih
   | true =>
     simp only [if_true]
     rw [vAt_at (by omega), getD_at hia, getD_at (l := sh) (by omega)]
     exact addAll_get hv (by omega) (by omega) (by simpa using hj) ih (by omega)
theorem sigF_in {b : Nat → Bool} {l : List Gun} {sh : List Int} {d : ByteArray} {W : Nat} (hst : strE l = 0) (hsh : shE l sh = 0) : inS (sigF b l sh d W l.length) := fun x hx => by
 obtain ⟨i, hi, rfl⟩ := List.getElem_of_mem hx
 have hi' : i < W := by simpa using hi
 have h1 := sigF_get (b := b) hst hsh d hi' l.length (Nat.le_refl _)
 rw [List.getElem?_eq_getElem hi] at h1
 injection h1 with h1
 rw [h1]
 have := sumFb_bound (b := b) (sh := sh) hst d i l.length (Nat.le_refl _)
 have := strE_len hst
 omega
def lows (l : List Gun) : List Int := l.map Gun.lo
theorem lows_ok {l : List Gun} (hst : strE l = 0) : shE l (lows l) = 0 := shE_of (by simp [lows]) fun k hk => by
 rw [getD_at (by simpa [lows] using hk)]
 simp only [lows, List.getElem_map]
 have := gun_lo hst hk
 rw [gAt_at l hk] at this ⊢
 omega
def bandF (b : Nat → Bool) (l : List Gun) (d : ByteArray) (W : Nat) : Int × Int × Int := bacc (sigF b l (lows l) d W l.length) (W / 4)
def bandAt (p : Int × Int × Int) (k : Int) : Int := if k = 0 then p.1 else if k = 1 then p.2.1 else p.2.2
def refB (b : Nat → Bool) (l : List Gun) (r : Rul) (W : Nat) : Bool := decide (64 * bandAt (bandF b l r.dir W) r.band < r.least * bandAt (bandF (fun _ => true) l r.dir W) r.band)
theorem bandF_bd {b : Nat → Bool} {l : List Gun} {d : ByteArray} {W : Nat} (hst : strE l = 0) (hW : W ≤ 64) : (0 ≤ (bandF b l d W).1 ∧ (bandF b l d W).1 ≤ 68719476736) ∧ (0 ≤ (bandF b l d W).2.1 ∧ (bandF b l d W).2.1 ≤ 68719476736) ∧ 0 ≤ (bandF b l d W).2.2 ∧ (bandF b l d W).2.2 ≤ 68719476736 := by
 obtain ⟨h1, h2, h3⟩ := bacc_bd (sigF_in (b := b) (d := d) (W := W) hst (lows_ok hst)) (W / 4)
 have : W / 4 ≤ 16 := by omega
 unfold bandF
 omega
theorem fire_all (L : Nat) : FireOk 134 [] (fun _ => True) (fun _ => true) L := ⟨fun H n i _ _ => ok134 [iv i] H n _ _ _ rfl, fun _ _ _ _ => trivial, fun _ _ _ _ => trivial⟩
def P133 (H : Heap) (v : Value) (bsh c len : Nat) (d : ByteArray) (w : Int) (L : Nat) (p : List Gun × List Int) : Prop := OwnG H v p.1 ∧ intV H (.slice (some ⟨bsh, 0, some 0⟩) p.2.length c) = some p.2 ∧ p.1.length = L ∧ len = p.2.length ∧ strE p.1 = 0 ∧ hasW d dirs = true ∧ shE p.1 p.2 = 0 ∧ 1 ≤ w ∧ w ≤ 64
open Classical in
noncomputable def g133F (f : Nat) (cap : Array Value) (K : Heap → Prop) (b : Nat → Bool) (L : Nat) (args : List Value) (H : Heap) (n : Nat) : R := match args with
 | [.agg ⟨[v]⟩, .slice (some ⟨bsh, 0, some 0⟩) len c, .string d, .int .i64 w, fv] => if h : ∃ p, P133 H v bsh c len d w L p then (if fv = .func (.func f) #[] cap ∧ K H then some (.slice (some ⟨n, 0, none⟩) w.toNat w.toNat, (n, .cells ((sigF b (Classical.choose h).1 (Classical.choose h).2 d w.toNat L).map iv) 3) :: H, n + 1) else none) else none
 | _ => none
theorem OwnG.one {H : Heap} {v : Value} {l k : List Gun} (h : OwnG H v l) (h' : OwnG H v k) : l = k := h.guns.one h'.guns
theorem g133F_at {f : Nat} {cap : Array Value} {K : Heap → Prop} {b : Nat → Bool} {H : Heap} {n bsh W c : Nat} {v : Value} {l : List Gun} {sh : List Int} {d : ByteArray} (hG : OwnG H v l) (hsv : intV H (.slice (some ⟨bsh, 0, some 0⟩) sh.length c) = some sh) (hK : K H) (hst : strE l = 0) (hd : hasW d dirs = true) (hsh : shE l sh = 0) (hW : 1 ≤ W ∧ W ≤ 64) :
   g133F f cap K b l.length [.agg ⟨[v]⟩, .slice (some ⟨bsh, 0, some 0⟩) sh.length c, sv d, iv W, .func (.func f) #[] cap] H n = some (.slice (some ⟨n, 0, none⟩) W W, (n, .cells ((sigF b l sh d W l.length).map iv) 3) :: H, n + 1) := by
 have he : ∃ p, P133 H v bsh c sh.length d W l.length p := ⟨(l, sh), hG, hsv, rfl, rfl, hst, hd, hsh, by omega, by omega⟩
 simp only [g133F]
 rw [dif_pos he, if_pos ⟨rfl, hK⟩]
 have hs := Classical.choose_spec he
 generalize Classical.choose he = p at hs ⊢
 obtain ⟨l', sh'⟩ := p
 obtain ⟨h1, h2, _, h6, _⟩ := hs
 dsimp only at h1 h2 h6 ⊢
 have e1 := h1.one hG
 have e2 : sh' = sh := by
   rw [← h6, hsv] at h2
   injection h2 with h2
   exact h2.symm
 rw [e2, e1, Int.toNat_natCast]
theorem ok133F {f : Nat} {cap : Array Value} {K : Heap → Prop} {b : Nat → Bool} {L : Nat} (hF : FireOk f cap.toList K b L) (hf1 : f ≠ 116) (hf2 : f ≠ 128) : EntOk Tryz.prog (133, g133F f cap K b L) := by
 intro args H n v H' n' h
 simp only [g133F] at h
 split at h
 · rename_i v bsh len c d w fv
   split at h
   · rename_i he
     split at h
     · rename_i hfk
       obtain ⟨rfl, h4⟩ := hfk
       have hs := Classical.choose_spec he
       generalize Classical.choose he = p at hs h
       obtain ⟨l, sh⟩ := p
       injection h with h; injection h with e1 e2; injection e2 with e2 e3; subst e1 e2 e3
       obtain ⟨h1, h2, h5, h6, h7, h8, h9, h10, h11⟩ := hs
       dsimp only at h1 h2 h5 h6 h7 h8 h9 ⊢
       subst h5 h6
       obtain ⟨k, rfl⟩ := Int.eq_ofNat_of_zero_le (show 0 ≤ w by omega)
       exact w133F h1 h2 hF h4 hf1 hf2 h7 h8 h9 (by omega)
     · cases h
   · cases h
 · cases h
def orE (g g' : List Value → Heap → Nat → R) (args : List Value) (H : Heap) (n : Nat) : R := match g args H n with
 | some r => some r
 | none => g' args H n
theorem ok_orE {f : FuncId} {g g' : List Value → Heap → Nat → R} (h : EntOk Tryz.prog (f, g)) (h' : EntOk Tryz.prog (f, g')) : EntOk Tryz.prog (f, orE g g') := by
 intro args H n v H' n' hh
 simp only [orE] at hh
 split at hh
 · rename_i r hr
   injection hh with hh
   subst hh
   exact h _ _ _ _ _ _ hr
 · exact h' _ _ _ _ _ _ hh
theorem orE_l {g g' : List Value → Heap → Nat → R} {args : List Value} {H : Heap} {n : Nat} {r : Value × Heap × Nat} (h : g args H n = some r) : orE g g' args H n = some r := by simp only [orE, h]
theorem orE_r {g g' : List Value → Heap → Nat → R} {args : List Value} {H : Heap} {n : Nat} (h : g args H n = none) : orE g g' args H n = g' args H n := by simp only [orE, h]
theorem g133F_no {f f' : Nat} {cap cap' : Array Value} {K : Heap → Prop} {b : Nat → Bool} {L : Nat} {v : Value} {a : Nat} {len c : Nat} {d : ByteArray} {w : Int} {H : Heap} {n : Nat} (h : f' ≠ f) : g133F f cap K b L [.agg ⟨[v]⟩, .slice (some ⟨a, 0, some 0⟩) len c, sv d, iv w, .func (.func f') #[] cap'] H n = none := by
 simp only [g133F]
 split
 · rw [if_neg]
   rintro ⟨e, _⟩
   injection e with e
   injection e with e
   exact h e
 · rfl
theorem rulE_zero {r : Rul} (h : rulE r = 0) : hasW r.dir dirs = true ∧ (0 ≤ r.band ∧ r.band ≤ 2) ∧ 0 ≤ r.least ∧ r.least ≤ 64 := by
 have hz := (firstV_zero _).1 h
 exact ⟨dirE_zero (hz (dirE r.dir) (by simp)), (withinV_zero _ _ _).1 (hz (withinV r.band 0 2) (by simp)), (withinV_zero _ _ _).1 (hz (withinV r.least 0 64) (by simp))⟩
set_option maxRecDepth 20000 in
set_option maxHeartbeats 2000000 in
theorem w162 {H : Heap} {n f W : Nat} {cap : Array Value} {K : Heap → Prop} {b : Nat → Bool} {v : Value} {l : List Gun} {r : Rul} (hG : OwnG H v l) (hF : FireOk f cap.toList K b l.length) (hK : K H) (hf1 : f ≠ 116) (hf2 : f ≠ 128) (hf3 : f ≠ 134) (hst : strE l = 0) (hrz : rulE r = 0) (hW : 1 ≤ W ∧ W ≤ 64) :
   AC Tryz.prog 162 [.agg ⟨[v]⟩, .agg ⟨[sv r.dir, iv r.band, iv r.least]⟩, iv W, .func (.func f) #[] cap] H n (.bool (refB b l r W)) H n := by
 refine AC.given fun hold hsc hgn => AC.tidied (B := []) (by simp) ?_
 have hlt0 := fun k b h => (hold k b h).1
 replace hG := hG.tidy hlt0
 replace hK := hF.tidy H n hlt0 hK
 have hr := recT_ok (P := Tryz.prog) (l := [(186, g186L), (133, orE (g133F 134 #[] (fun _ => True) (fun _ => true) l.length) (g133F f cap K b l.length)), (156, g156P)]) (by simp only [List.forall_mem_cons]; exact ⟨ok186L, ok_orE (ok133F (fire_all _) (by decide) (by decide)) (ok133F hF hf1 hf2), ok156P, by simp⟩)
 obtain ⟨hd, hbd, hls⟩ := rulE_zero hrz
 have hln := strE_len hst
 have hGG := hG.guns
 have hn0 : namesOk n (tidy n H) = true := namesOk_tidy
 obtain ⟨X0, hX0⟩ : ∃ X0, (n + 1, Blk.cells [sv r.dir, iv r.band, iv r.least] 182) :: (n, .cells [v] 32) :: tidy n H = X0 := ⟨_, rfl⟩
 have hS0 : Sub (tidy n H) X0 := by rw [← hX0]; exact Sub.cons (by simp) (Sub.cons (by simp) (Sub.refl _))
 have hm0 : namesOk (n + 1 + 1) X0 = true := by rw [← hX0]; exact namesOk_put (by omega) (namesOk_put (by omega) (namesOk_mono (by omega) _ hn0))
 have hp0 : plainH X0 = true := by rw [← hX0]; simp [plainH, plainB2]
 have hb0 : hget X0 n = some (.cells [v] 32) := by rw [← hX0, hget_cons, if_neg (by omega), hget_cons, if_pos rfl]
 have hb1 : hget X0 (n + 1) = some (.cells [sv r.dir, iv r.band, iv r.least] 182) := by rw [← hX0, hget_cons, if_pos rfl]
 have hc0 : ∀ {X}, Sub X0 X → cellsA X n 0 1 = some [v] ∧ cellA X n 0 = some v := fun h => ⟨by rw [cellsA_eq, h _ _ hb0]; rfl, by rw [cellA_eq, h _ _ hb0]; rfl⟩
 have hcr : ∀ {X}, Sub X0 X → cellA X (n + 1) 0 = some (sv r.dir) ∧ cellA X (n + 1) 1 = some (iv r.band) ∧ cellA X (n + 1) 2 = some (iv r.least) := fun h => ⟨by rw [cellA_eq, h _ _ hb1]; rfl, by rw [cellA_eq, h _ _ hb1]; rfl, by rw [cellA_eq, h _ _ hb1]; rfl⟩
 -- the least shifts
 have hl0 : l.length ≠ 0 := by omega
 have h186 := g186L_at (n := n + 1 + 1) (hGG.mono hS0)
 obtain ⟨X1, hX1⟩ : ∃ X1, (n + 1 + 1, Blk.ext ((lows l).map iv) 3 1) :: X0 = X1 := ⟨_, rfl⟩
 rw [outS_ne hl0, outSB, if_neg hl0, lowL_eq, List.singleton_append, show l.map Gun.lo = lows l from rfl, hX1] at h186
 have hS1 : Sub X0 X1 := by rw [← hX1]; exact Sub.cons (namesOk_none hm0 _ (Nat.le_refl _)) (Sub.refl _)
 have hm1 : namesOk (n + 1 + 1 + 1) X1 = true := by rw [← hX1]; exact namesOk_put (by omega) (namesOk_mono (by omega) _ hm0)
 have hlw : (lows l).length = l.length := by simp [lows]
 have hsv : ∀ {X}, Sub X1 X → intV X (.slice (some ⟨n + 1 + 1, 0, some 0⟩) (lows l).length 0) = some (lows l) := fun h => intV_ext (h _ _ (by rw [← hX1, hget_cons, if_pos rfl])) (by omega)
 -- all
 have hK1 : ∀ {X}, Sub (tidy n H) X → K X := fun h => hF.mono _ _ h hK
 have hgA := g133F_at (f := 134) (cap := #[]) (K := fun _ => True) (b := fun _ => true) (n := n + 1 + 1 + 1) (W := W) (d := r.dir) (hG.mono (hS0.trans hS1)) (hsv (Sub.refl _)) trivial hst hd (lows_ok hst) hW
 have hA := orE_l (g' := g133F f cap K b l.length) hgA
 obtain ⟨S0, hS0'⟩ : ∃ S, sigF (fun _ => true) l (lows l) r.dir W l.length = S := ⟨_, rfl⟩
 have hi0 : inS S0 := by rw [← hS0']; exact sigF_in hst (lows_ok hst)
 have hl0' : S0.length = W := by rw [← hS0']; simp
 obtain ⟨X2, hX2⟩ : ∃ X2, (n + 1 + 1 + 1, Blk.cells (S0.map iv) 3) :: X1 = X2 := ⟨_, rfl⟩
 rw [hS0', hX2, hlw] at hA
 have hS2 : Sub X1 X2 := by rw [← hX2]; exact Sub.cons (namesOk_none hm1 _ (Nat.le_refl _)) (Sub.refl _)
 have hm2 : namesOk (n + 1 + 1 + 1 + 1) X2 = true := by rw [← hX2]; exact namesOk_put (by omega) (namesOk_mono (by omega) _ hm1)
 have hB0 := g156P_at (H := X2) (n := n + 1 + 1 + 1 + 1) (b := n + 1 + 1 + 1) (ns := S0) (by rw [← hX2, hget_cons, if_pos rfl]) (by omega) hi0
 obtain ⟨⟨p0, p1, p2⟩, hpp⟩ : ∃ p, bacc S0 (W / 4) = p := ⟨_, rfl⟩
 have hbF0 : bandF (fun _ => true) l r.dir W = (p0, p1, p2) := by rw [bandF, hS0', hpp]
 rw [hl0', hpp] at hB0
 refine AC.pure Tryz.func162 rfl (by kernel_rfl) rfl [2, 3, 4, 5, 8, 9, 10, 11] rfl ?_
 refine E.seq (E.reg hr (by simp; rfl) ?_)
 rw [hX0]
 refine E.seq (E.reg hr (by simp [-cellA, -cellsA, (hc0 (Sub.refl X0)).2, h186]; rfl) ?_)
 refine E.seq (E.reg hr (by simp [-cellA, -cellsA, (hc0 hS1).1, (hcr hS1).1, hA, hB0, bandV]; rfl) ?_)
 obtain ⟨X3, hX3⟩ : ∃ X3, (n + 1 + 1 + 1 + 1, Blk.cells [iv p0, iv p1, iv p2] 50) :: X2 = X3 := ⟨_, rfl⟩
 have hS3 : Sub X2 X3 := by rw [← hX3]; exact Sub.cons (namesOk_none hm2 _ (Nat.le_refl _)) (Sub.refl _)
 have hm3 : namesOk (n + 1 + 1 + 1 + 1 + 1) X3 = true := by rw [← hX3]; exact namesOk_put (by omega) (namesOk_mono (by omega) _ hm2)
 rw [hX3]
 obtain ⟨m3, hm3e⟩ : ∃ m, n + 1 + 1 + 1 + 1 + 1 = m := ⟨_, rfl⟩
 rw [hm3e] at hm3 ⊢
 have hS03 := hS1.trans (hS2.trans hS3)
 have hgB := g133F_at (f := f) (cap := cap) (K := K) (b := b) (n := m3) (W := W) (d := r.dir) (hG.mono (hS0.trans hS03)) (hsv (hS2.trans hS3)) (hK1 (hS0.trans hS03)) hst hd (lows_ok hst) hW
 rw [hlw] at hgB
 have hB := (orE_r (g' := g133F f cap K b l.length) (g133F_no (f := 134) (cap := #[]) (K := fun _ => True) (b := fun _ => true) (L := l.length) (v := v) (a := n + 1 + 1) (len := l.length) (c := 0) (d := r.dir) (w := W) (H := X3) (n := m3) (cap' := cap) hf3)).trans hgB
 obtain ⟨S1, hS1'⟩ : ∃ S, sigF b l (lows l) r.dir W l.length = S := ⟨_, rfl⟩
 have hi1 : inS S1 := by rw [← hS1']; exact sigF_in hst (lows_ok hst)
 have hl1' : S1.length = W := by rw [← hS1']; simp
 obtain ⟨X4, hX4⟩ : ∃ X4, (m3, Blk.cells (S1.map iv) 3) :: X3 = X4 := ⟨_, rfl⟩
 rw [hS1', hX4] at hB
 have hS4 : Sub X3 X4 := by rw [← hX4]; exact Sub.cons (namesOk_none hm3 _ (Nat.le_refl _)) (Sub.refl _)
 have hm4 : namesOk (m3 + 1) X4 = true := by rw [← hX4]; exact namesOk_put (by omega) (namesOk_mono (by omega) _ hm3)
 have hB1 := g156P_at (H := X4) (n := m3 + 1) (b := m3) (ns := S1) (by rw [← hX4, hget_cons, if_pos rfl]) (by omega) hi1
 obtain ⟨⟨q0, q1, q2⟩, hqq⟩ : ∃ p, bacc S1 (W / 4) = p := ⟨_, rfl⟩
 have hbF1 : bandF b l r.dir W = (q0, q1, q2) := by rw [bandF, hS1', hqq]
 rw [hl1', hqq] at hB1
 refine E.seq (E.reg hr (by simp [-cellA, -cellsA, (hc0 hS03).1, (hcr hS03).1, hB, hB1, bandV]; rfl) ?_)
 obtain ⟨X5, hX5⟩ : ∃ X5, (m3 + 1, Blk.cells [iv q0, iv q1, iv q2] 50) :: X4 = X5 := ⟨_, rfl⟩
 have hS5 : Sub X4 X5 := by rw [← hX5]; exact Sub.cons (namesOk_none hm4 _ (Nat.le_refl _)) (Sub.refl _)
 have hm5 : namesOk (m3 + 1 + 1) X5 = true := by rw [← hX5]; exact namesOk_put (by omega) (namesOk_mono (by omega) _ hm4)
 have hp5 : plainH X5 = true := by rw [← hX5, ← hX4, ← hX3, ← hX2, ← hX1]; simp [plainH, plainB2, hp0]
 rw [hX5]
 have hS05 := hS03.trans (hS4.trans hS5)
 have hbp : hget X5 (n + 1 + 1 + 1 + 1) = some (.cells [iv p0, iv p1, iv p2] 50) := hS5 _ _ (hS4 _ _ (by rw [← hX3, hget_cons, if_pos rfl]))
 have hbq : hget X5 (m3 + 1) = some (.cells [iv q0, iv q1, iv q2] 50) := by rw [← hX5, hget_cons, if_pos rfl]
 obtain ⟨e0, e1, e2⟩ := hcr hS05
 have hcp : cellA X5 (n + 1 + 1 + 1 + 1) 0 = some (iv p0) ∧ cellA X5 (n + 1 + 1 + 1 + 1) 1 = some (iv p1) ∧ cellA X5 (n + 1 + 1 + 1 + 1) 2 = some (iv p2) := ⟨by rw [cellA_eq, hbp]; rfl, by rw [cellA_eq, hbp]; rfl, by rw [cellA_eq, hbp]; rfl⟩
 have hcq : cellA X5 (m3 + 1) 0 = some (iv q0) ∧ cellA X5 (m3 + 1) 1 = some (iv q1) ∧ cellA X5 (m3 + 1) 2 = some (iv q2) := ⟨by rw [cellA_eq, hbq]; rfl, by rw [cellA_eq, hbq]; rfl, by rw [cellA_eq, hbq]; rfl⟩
 obtain ⟨cp0, cp1, cp2⟩ := hcp
 obtain ⟨cq0, cq1, cq2⟩ := hcq
 have bp := bandF_bd (b := fun _ => true) (d := r.dir) hst hW.2
 have bq := bandF_bd (b := b) (d := r.dir) hst hW.2
 rw [hbF0] at bp
 rw [hbF1] at bq
 dsimp only at bp bq
 have hx1 : n + 1 < m3 + 1 + 1 := by omega
 have hx2 : n + 1 + 1 + 1 + 1 < m3 + 1 + 1 := by omega
 have hx3 : m3 + 1 < m3 + 1 + 1 := by omega
 have hT5 := hS0.trans hS05
 have hmul : ∀ x : Int, 0 ≤ x → x ≤ 68719476736 → r.least * x ≤ 64 * x ∧ 0 ≤ r.least * x := fun x h1 h2 => ⟨Int.mul_le_mul_of_nonneg_right hls.2 h1, Int.mul_nonneg hls.1 h1⟩
 rw [refB, hbF0, hbF1]
 refine E.seq ?_
 rcases (show r.band = 0 ∨ r.band = 1 ∨ r.band = 2 by omega) with hb | hb | hb
 · rw [hb] at e1 ⊢
   have m1 := hmul p0 bp.1.1 bp.1.2
   have w1 : IntKind.i64.wrap (64 * q0) = 64 * q0 := W_in (by omega) (by omega)
   have w2 : IntKind.i64.wrap (r.least * p0) = r.least * p0 := W_in (by omega) (by omega)
   refine E.drawU mixed hr [] [] [1, 3, 6, 8, 10] (by kernel_rfl) (by simp [-cellA, -readA, cellA_read, hm5, hx1, hx2, hx3, e1, e2, cp0, cq0, w1, w2]; rfl) ?_
   refine E.ret ?_
   exact pureK.ret rfl rfl (by simp [bandAt]) hT5
 · rw [hb] at e1 ⊢
   have m1 := hmul p1 bp.2.1.1 bp.2.1.2
   have w1 : IntKind.i64.wrap (64 * q1) = 64 * q1 := W_in (by omega) (by omega)
   have w2 : IntKind.i64.wrap (r.least * p1) = r.least * p1 := W_in (by omega) (by omega)
   refine E.drawU mixed hr [] [] [1, 3, 6, 8, 10] (by kernel_rfl) (by simp [-cellA, -readA, cellA_read, hm5, hx1, hx2, hx3, e1, e2, cp1, cq1, w1, w2]; rfl) ?_
   refine E.ret ?_
   exact pureK.ret rfl rfl (by simp [bandAt]) hT5
 · rw [hb] at e1 ⊢
   have m1 := hmul p2 bp.2.2.1 bp.2.2.2
   have w1 : IntKind.i64.wrap (64 * q2) = 64 * q2 := W_in (by omega) (by omega)
   have w2 : IntKind.i64.wrap (r.least * p2) = r.least * p2 := W_in (by omega) (by omega)
   refine E.drawU mixed hr [] [] [1, 3, 6, 8, 10] (by kernel_rfl) (by simp [-cellA, -readA, cellA_read, hm5, hx1, hx2, hx3, e1, e2, cp2, cq2, w1, w2]; rfl) ?_
   refine E.ret ?_
   exact pureK.ret rfl rfl (by simp [bandAt]) hT5
theorem w209z {H : Heap} {n c : Nat} {oa : Option Addr} (s : ByteArray) : AC Tryz.prog 209 [.slice oa 0 c, sv s] H n (iv (-1)) H n := by
 refine AC.given fun hold hsc hgn => AC.tidied (B := []) (by simp) ?_
 have hr := recT_ok (P := Tryz.prog) (l := []) (by simp)
 refine AC.pure Tryz.func209 rfl (by kernel_rfl) rfl [7, 8] rfl ?_
 refine E.seq (E.reg hr (by simp; rfl) ?_)
 refine E.seq (E.seq (E.reg hr (by simp; rfl) ?_))
 refine E.block (E.loop ?_)
 refine EL.ind (fun _ : Nat => { fr := [(7, iv 0), (8, iv 0)], sz := 19, H := tidy n H, n := n, marks := [], vs := [7, 8] }) (fun i => i) (fun i => i = 0) 0 (.keep rfl rfl rfl (by simp) (Sub.refl _)) rfl (fun _ => rfl) ?_
 rintro i rfl
 refine E.seq (E.reg hr (by simp; rfl) ?_)
 refine E.seq ?_
 refine E.cond (t := false) (by simp) (fun h => by cases h) (fun _ => ?_)
 refine E.exit ?_
 refine E.seq (E.reg hr (by simp; rfl) ?_)
 refine E.ret ?_
 exact pureK.ret rfl rfl rfl (Sub.refl _)
def g209z (args : List Value) (H : Heap) (n : Nat) : R := match args with
 | [.slice _ 0 _, .string _] => some (iv (-1), H, n)
 | _ => none
theorem ok209z : EntOk Tryz.prog (209, g209z) := by
 intro args H n v H' n' h
 simp only [g209z] at h
 split at h
 · injection h with h; injection h with e1 e2; injection e2 with e2 e3; subst e1 e2 e3
   exact w209z _
 · cases h
theorem w161z {H : Heap} {n c : Nat} {oa : Option Addr} (s : ByteArray) : AC Tryz.prog 161 [.slice oa 0 c, sv s] H n (.bool false) H n := by
 refine AC.given fun hold hsc hgn => AC.tidied (B := []) (by simp) ?_
 have hr := recT_ok (P := Tryz.prog) (l := [(209, g209z)]) (by simp [ok209z])
 refine AC.pure Tryz.func161 rfl (by kernel_rfl) rfl [4] rfl ?_
 refine E.seq (E.reg hr (by simp; rfl) ?_)
 refine E.seq (E.reg hr (by simp [g209z]; rfl) ?_)
 refine E.ret ?_
 exact pureK.ret rfl rfl rfl (Sub.refl _)
theorem OwnW.has {H : Heap} {n : Nat} {v : Value} {ws : List ByteArray} (h : OwnW H v ws) (s : ByteArray) : AC Tryz.prog 161 [v, sv s] H n (.bool (hasW s ws)) H n := by
 rcases h with ⟨b, rfl, h1, h2, h3⟩ | ⟨rfl, oa, c, rfl⟩
 · refine ok161 [.slice (some ⟨b, 0, some 0⟩) ws.length 0, sv s] H n _ _ _ ?_
   simp only [g161, h1.strs (Nat.le_refl _) h3, List.take_length, Option.map_some]
 · exact w161z s
open Classical in
noncomputable def g161W (args : List Value) (H : Heap) (n : Nat) : R := match args with
 | [v, .string s] => if h : ∃ ws, OwnW H v ws then some (.bool (hasW s (Classical.choose h)), H, n) else none
 | _ => none
theorem g161W_at {H : Heap} {n : Nat} {v : Value} {ws : List ByteArray} (h : OwnW H v ws) (s : ByteArray) : g161W [v, sv s] H n = some (.bool (hasW s ws), H, n) := by
 have he : ∃ ws, OwnW H v ws := ⟨ws, h⟩
 simp only [g161W]
 rw [dif_pos he, (Classical.choose_spec he).one h]
theorem ok161W : EntOk Tryz.prog (161, g161W) := by
 intro args H n v H' n' h
 simp only [g161W] at h
 split at h
 · split at h
   · rename_i he
     injection h with h; injection h with e1 e2; injection e2 with e2 e3; subst e1 e2 e3
     exact (Classical.choose_spec he).has _
   · cases h
 · cases h
theorem OwnW.frz {H : Heap} {v : Value} {ws : List ByteArray} (h : OwnW H v ws) : OwnW (frzH H) v ws := by
 rcases h with ⟨b, e, h1, h2⟩ | h
 · exact .inl ⟨b, e, h1.frz, h2⟩
 · exact .inr h
theorem OwnW.tidy {H : Heap} {n : Nat} (hl : ∀ k b, hget H k = some b → k < n) {v : Value} {ws : List ByteArray} (h : OwnW H v ws) : OwnW (Ab.tidy n H) v ws := by
 rcases h with ⟨b, e, h1, h2⟩ | h
 · exact .inl ⟨b, e, h1.imp (fun h => hget_tidy.2 ⟨h, hl _ _ h, rfl⟩) (fun h => hget_tidy.2 ⟨h, hl _ _ h, rfl⟩), h2⟩
 · exact .inr h
def KDrop (bw bs : Nat) (l : List Gun) (ws : List ByteArray) (H : Heap) : Prop := ∃ (u : Value) (ga : Addr) (c : Nat), hget H bw = some (.cells [u] 102) ∧ hget H bs = some (.cells [.slice (some ga) l.length c] 32) ∧ GunsAt H (.slice (some ga) l.length c) l ∧ OwnW H u ws
def staysB (l : List Gun) (ws : List ByteArray) (i : Nat) : Bool := match l[i]? with
 | some g => !hasW g.name ws
 | none => false
set_option maxRecDepth 20000 in
theorem w160 {H : Heap} {n bw bs i : Nat} {l : List Gun} {ws : List ByteArray} (hK : KDrop bw bs l ws H) (hi : i < l.length) : AC Tryz.prog 160 [iv i, .pointer (some ⟨bw, 0, none⟩), .pointer (some ⟨bs, 0, none⟩)] H n (.bool (staysB l ws i)) H n := by
 refine AC.given fun hold hsc hgn => AC.tidied (B := []) (by simp) ?_
 have hlt0 := fun k b h => (hold k b h).1
 obtain ⟨u, ga, c, hw, hs, hG, hW⟩ := hK
 have hbw := hlt0 _ _ hw
 have hbs := hlt0 _ _ hs
 replace hw : hget (tidy n H) bw = some (.cells [u] 102) := hget_tidy.2 ⟨hw, hbw, rfl⟩
 replace hs : hget (tidy n H) bs = some (.cells [.slice (some ga) l.length c] 32) := hget_tidy.2 ⟨hs, hbs, rfl⟩
 replace hG := GunsAt.tidy hlt0 hG
 replace hW := hW.tidy hlt0
 have hr := recT_ok (P := Tryz.prog) (l := [(161, g161W)]) (by simp [ok161W])
 obtain ⟨ga', c', e, hgf, hgc, h0, hl31⟩ := hG
 injection e with e1 e2 e3
 injection e1 with e1
 subst e1
 have hg := cells_part (sz := 7) (i := i) hgc hi
 rw [gcs_atB hi] at hg
 have hgn : cellA (tidy n H) ga.block (ga.off + i * 7) = some (sv l[i].name) := (cellsA_cell hg (i := 0) (by omega)).1
 have hgb : ga.block < n := cellA_lt (fun k b h => tidy_lt k b h) hgn
 have hcw : cellA (tidy n H) bw 0 = some u := by rw [cellA_eq, hw]; rfl
 have hcs : cellA (tidy n H) bs 0 = some (.slice (some ga) l.length c) := by rw [cellA_eq, hs]; rfl
 have hiI : (i : Int) < l.length := by omega
 have hst : staysB l ws i = !hasW l[i].name ws := by unfold staysB; rw [List.getElem?_eq_getElem hi]
 have h161 : ∀ m, g161W [u, sv l[i].name] (frzH (tidy n H)) m = some (.bool (hasW l[i].name ws), frzH (tidy n H), m) := fun m => g161W_at hW.frz _
 have h161' : ∀ m, g161W [u, sv l[i].name] (tidy n H) m = some (.bool (hasW l[i].name ws), tidy n H, m) := fun m => g161W_at hW _
 obtain ⟨s, hs'⟩ : ∃ s, l[i].name = s := ⟨_, rfl⟩
 rw [hs'] at hgn h161 h161' hst
 obtain ⟨z, hz⟩ : ∃ z, hasW s ws = z := ⟨_, rfl⟩
 rw [hz] at h161 h161' hst
 rw [hst]
 refine AC.pure Tryz.func160 rfl (by kernel_rfl) rfl [0, 1, 2, 4] rfl ?_
 refine E.seq (E.reg hr (by simp; rfl) ?_)
 refine E.seq (E.drawU mixed hr [7] [7] [0, 2, 6, 7] (by kernel_rfl) (by simp [-cellA, -readA, -flat, cellA_read, hbw, hbs, hgb, hcw, hcs, hgn, hgf, hiI, h161']; rfl) ?_)
 refine E.ret ?_
 exact pureK.ret rfl rfl (by simp) (Sub.refl _)
theorem fire_drop (bw bs : Nat) (l : List Gun) (ws : List ByteArray) : FireOk 160 [.pointer (some ⟨bw, 0, none⟩), .pointer (some ⟨bs, 0, none⟩)] (KDrop bw bs l ws) (staysB l ws) l.length := by
 refine ⟨fun H n i hK hi => w160 hK hi, fun H H' hs hK => ?_, fun H n hl hK => ?_⟩
 · obtain ⟨u, ga, c, h1, h2, h3, h4⟩ := hK
   exact ⟨u, ga, c, hs _ _ h1, hs _ _ h2, h3.mono hs, h4.mono hs⟩
 · obtain ⟨u, ga, c, h1, h2, h3, h4⟩ := hK
   exact ⟨u, ga, c, hget_tidy.2 ⟨h1, hl _ _ h1, rfl⟩, hget_tidy.2 ⟨h2, hl _ _ h2, rfl⟩, h3.tidy hl, h4.tidy hl⟩
open Classical in
noncomputable def g162F (f : Nat) (cap : Array Value) (K : Heap → Prop) (b : Nat → Bool) (L : Nat) (args : List Value) (H : Heap) (n : Nat) : R := match args with
 | [.agg ⟨[v]⟩, .agg ⟨[.string d, .int .i64 bd, .int .i64 le]⟩, .int .i64 w, fv] => if h : ∃ l, OwnG H v l then (if fv = .func (.func f) #[] cap ∧ K H ∧ (Classical.choose h).length = L ∧ strE (Classical.choose h) = 0 ∧ rulE ⟨d, bd, le⟩ = 0 ∧ 1 ≤ w ∧ w ≤ 64 then some (.bool (refB b (Classical.choose h) ⟨d, bd, le⟩ w.toNat), H, n) else none) else none
 | _ => none
theorem g162F_at {f : Nat} {cap : Array Value} {K : Heap → Prop} {b : Nat → Bool} {H : Heap} {n W : Nat} {v : Value} {l : List Gun} {r : Rul} (hG : OwnG H v l) (hK : K H) (hst : strE l = 0) (hr : rulE r = 0) (hW : 1 ≤ W ∧ W ≤ 64) :
   g162F f cap K b l.length [.agg ⟨[v]⟩, .agg ⟨[sv r.dir, iv r.band, iv r.least]⟩, iv W, .func (.func f) #[] cap] H n = some (.bool (refB b l r W), H, n) := by
 have he : ∃ l, OwnG H v l := ⟨l, hG⟩
 simp only [g162F]
 rw [dif_pos he]
 have e := (Classical.choose_spec he).one hG
 rw [e, if_pos ⟨rfl, hK, rfl, hst, hr, by omega, by omega⟩, Int.toNat_natCast]
theorem ok162F {f : Nat} {cap : Array Value} {K : Heap → Prop} {b : Nat → Bool} {L : Nat} (hF : FireOk f cap.toList K b L) (hf1 : f ≠ 116) (hf2 : f ≠ 128) (hf3 : f ≠ 134) : EntOk Tryz.prog (162, g162F f cap K b L) := by
 intro args H n v H' n' h
 simp only [g162F] at h
 split at h
 · rename_i v d bd le w fv
   split at h
   · rename_i he
     split at h
     · rename_i hc
       have hs := Classical.choose_spec he
       generalize Classical.choose he = l at hs hc h
       obtain ⟨rfl, h2, rfl, h4, h5, h6, h7⟩ := hc
       injection h with h; injection h with e1 e2; injection e2 with e2 e3; subst e1 e2 e3
       obtain ⟨k, rfl⟩ := Int.eq_ofNat_of_zero_le (show 0 ≤ w by omega)
       exact w162 (r := ⟨_, _, _⟩) hs hF h2 hf1 hf2 hf3 h4 h5 (by omega)
     · cases h
   · cases h
 · cases h
def refIdx (b : Nat → Bool) (l : List Gun) (rs : List Rul) (W : Nat) : Nat → List Int
 | 0 => []
 | i + 1 => refIdx b l rs W i ++ (match rs[i]? with
   | some r => if refB b l r W then [(i : Int)] else []
   | none => [])
def refdE (l : List Gun) (rs : List Rul) (ws : List ByteArray) (w : Int) : Int := if firstV [strE l, rulsE rs] = 0 then firstV [dropE l ws, withinV w 1 64] else firstV [strE l, rulsE rs]
def refdL (l : List Gun) (rs : List Rul) (ws : List ByteArray) (w : Int) : List Int := if refdE l rs ws w = 0 then refIdx (staysB l ws) l rs w.toNat rs.length else []
theorem refIdx_len (b : Nat → Bool) (l : List Gun) (rs : List Rul) (W : Nat) : ∀ i, (refIdx b l rs W i).length ≤ i
 | 0 => Nat.le_refl _
 | i + 1 => by
   have := refIdx_len b l rs W i
   rw [refIdx, List.length_append]
   split
   · split <;> simp <;> omega
   · simp; omega
theorem rulsE_zero {rs : List Rul} (h : rulsE rs = 0) : rs.length ≤ 12 ∧ ∀ i (hi : i < rs.length), rulE rs[i] = 0 := by
 unfold rulsE at h
 split at h
 · cases h
 · exact ⟨by omega, fun i hi => (firstV_zero _).1 h _ (List.mem_map.2 ⟨_, List.getElem_mem hi, rfl⟩)⟩
theorem refIdx_step (b : Nat → Bool) (l : List Gun) (rs : List Rul) (W : Nat) {i : Nat} (h : i < rs.length) : refIdx b l rs W (i + 1) = refIdx b l rs W i ++ (if refB b l rs[i] W = true then [(i : Int)] else []) := by
 rw [refIdx, List.getElem?_eq_getElem h]
set_option maxRecDepth 20000 in
set_option maxHeartbeats 2000000 in
theorem w91 {H : Heap} {n : Nat} {x u rv : Value} {l : List Gun} {rs : List Rul} {ws : List ByteArray} {w : Int} (g0 : hget H 0 = some (.inp 0 names0)) (hx : OwnS H x l) (hR : rulV H rv = some rs) (hW : OwnW H u ws) :
   AC Tryz.prog 91 [x, rv, u, iv w] H n (.tuple #[outS n (refdL l rs ws w).length, iv (refdE l rs ws w)]) (outSB n 3 1 (refdL l rs ws w).length ((refdL l rs ws w).map iv) ++ H) (n + 1) := by
 refine AC.given fun hold hsc hgn => AC.tidied (fun x hx => outSB_ge x hx) ?_
 have hlt0 := fun k b h => (hold k b h).1
 have hn0 : 0 < n := (hold 0 _ g0).1
 replace g0 : hget (tidy n H) 0 = some (.inp 0 names0) := hget_tidy.2 ⟨g0, (hold 0 _ g0).1, rfl⟩
 replace hx := hx.tidy hlt0
 replace hR : rulV (tidy n H) rv = some rs := listV_tidy decR_tidy hlt0 hR
 replace hW := hW.tidy hlt0
 obtain ⟨v, rfl⟩ := hx.box
 obtain ⟨ua, uL, uc, rfl⟩ : ∃ ua L c, u = .slice ua L c := by
   rcases hW with ⟨b, e, _⟩ | ⟨_, oa, c, e⟩
   · exact ⟨_, _, _, e⟩
   · exact ⟨_, _, _, e⟩
 obtain ⟨u, hu⟩ : ∃ u, Value.slice ua uL uc = u := ⟨_, rfl⟩
 obtain ⟨oa, c, rfl, hlt, hrow⟩ := rulV_form hR
 rw [hu] at hW
 have hcap : FireOk 160 (#[.pointer (some ⟨n + 1, 0, none⟩), .pointer (some ⟨n, 0, none⟩)] : Array Value).toList (KDrop (n + 1) n l ws) (staysB l ws) l.length := fire_drop (n + 1) n l ws
 have hr := recT_ok (P := Tryz.prog) (l := [(31, g31), (102, g102), (113, g113), (159, g159), (127, g1 fun a => withinV a 1 64), (162, g162F 160 #[.pointer (some ⟨n + 1, 0, none⟩), .pointer (some ⟨n, 0, none⟩)] (KDrop (n + 1) n l ws) (staysB l ws) l.length)]) (by simp only [List.forall_mem_cons]; exact ⟨ok31, ok102, ok113, ok159, ok127, ok162F hcap (by decide) (by decide) (by decide), by simp⟩)
 obtain ⟨X0, hX0⟩ : ∃ X0, (n + 1, Blk.cells [u] 102) :: (n, .cells [v] 32) :: tidy n H = X0 := ⟨_, rfl⟩
 have hS0 : Sub (tidy n H) X0 := by rw [← hX0]; exact Sub.cons (by simp) (Sub.cons (by simp) (Sub.refl _))
 have hm0 : namesOk (n + 1 + 1) X0 = true := by rw [← hX0]; exact namesOk_put (by omega) (namesOk_put (by omega) (namesOk_mono (by omega) _ namesOk_tidy))
 have hp0 : plainH X0 = true := by rw [← hX0]; simp [plainH, plainB2]
 have hb0 : hget X0 n = some (.cells [v] 32) := by rw [← hX0, hget_cons, if_neg (by omega), hget_cons, if_pos rfl]
 have hb1 : hget X0 (n + 1) = some (.cells [u] 102) := by rw [← hX0, hget_cons, if_pos rfl]
 have hc0 : ∀ {X}, Sub X0 X → cellsA X n 0 1 = some [v] := fun h => by rw [cellsA_eq, h _ _ hb0]; rfl
 have hc1 : ∀ {X}, Sub X0 X → cellA X (n + 1) 0 = some u := fun h => by rw [cellA_eq, h _ _ hb1]; rfl
 obtain ⟨z1, hz1⟩ : ∃ z, strE l = z := ⟨_, rfl⟩
 obtain ⟨z2, hz2⟩ : ∃ z, rulsE rs = z := ⟨_, rfl⟩
 have h31 : ∀ m, g31 [.agg ⟨[v]⟩] X0 m = some (iv z1, X0, m) := fun m => by rw [← hz1]; exact (hx.mono hS0).check m
 have h102 : ∀ m, g102 [.slice oa rs.length c] X0 m = some (iv z2, X0, m) := fun m => by
   have e : rulV X0 (.slice oa rs.length c) = some rs := listV_mono decR_mono hS0 hR
   simp only [g102, e, Option.map_some, hz2]
   rw [if_pos (hS0 _ _ g0)]
 obtain ⟨z, hz⟩ : ∃ z, firstV [z1, z2] = z := ⟨_, rfl⟩
 have hE : refdE l rs ws w = if z = 0 then firstV [dropE l ws, withinV w 1 64] else z := by rw [refdE, hz1, hz2, hz]
 obtain ⟨X1, hX1⟩ : ∃ X1, (n + 1 + 1, Blk.cells [iv z1, iv z2] 27) :: X0 = X1 := ⟨_, rfl⟩
 have hS1 : Sub X0 X1 := by rw [← hX1]; exact Sub.cons (namesOk_none hm0 _ (Nat.le_refl _)) (Sub.refl _)
 have hm1 : namesOk (n + 1 + 1 + 1) X1 = true := by rw [← hX1]; exact namesOk_put (by omega) (namesOk_mono (by omega) _ hm0)
 have hp1 : plainH X1 = true := by rw [← hX1]; simp [plainH, plainB2, hp0]
 have h113 : ∀ m, g113 [.slice (some ⟨n + 1 + 1, 0, none⟩) 2 2] X1 m = some (iv z, X1, m) := fun m => by
   have : intsAt X1 ⟨n + 1 + 1, 0, none⟩ 2 = some [z1, z2] := intsAt_iv rfl (by rw [← hX1, cellsA_cons, if_pos rfl]; rfl) (by omega)
   simp only [g113, this, Option.map_some, hz]
 refine AC.grownE Tryz.func91 rfl (by kernel_rfl) rfl [1, 3, 4, 6, 8, 9, 10, 11, 12, 13, 14, 15, 36, 37, 38] ?_
 refine E.seq (E.reg hr (by simp; rfl) ?_)
 rw [hu, hX0]
 refine E.seq (E.seq (E.reg hr (by simp [-cellsA, -cellA, hc0 (Sub.refl X0), h31, h102, hX1, h113]; rfl) ?_))
 refine E.seq (E.reg hr (by simp; rfl) ?_)
 by_cases hz0 : z = 0
 case neg =>
   rw [if_neg hz0] at hE
   have hL : refdL l rs ws w = [] := by rw [refdL, if_neg (by rw [hE]; exact hz0)]
   rw [hL, hE]
   refine E.cond (t := true) (by simp [hz0]) (fun _ => ?_) (fun h => by cases h)
   refine E.seq (E.reg hr (by simp; rfl) ?_)
   refine E.ret ?_
   exact outK.ret rfl rfl ((fresh_none (hS0.trans hS1)).pair z)
 rw [if_pos hz0] at hE
 refine E.cond (t := false) (by simp [hz0]) (fun h => by cases h) (fun _ => ?_)
 refine E.skip ?_
 
 have hst : strE l = 0 := by rw [hz1]; exact (firstV_zero _).1 (hz.trans hz0) z1 (by simp)
 have hrs : rulsE rs = 0 := by rw [hz2]; exact (firstV_zero _).1 (hz.trans hz0) z2 (by simp)
 obtain ⟨v', e, hG⟩ := hx.own hst
 injection e with e
 injection e with e
 injection e with e e'
 subst e
 clear e'
 obtain ⟨hr12, hrz⟩ := rulsE_zero hrs
 obtain ⟨y1, hy1⟩ : ∃ z, dropE l ws = z := ⟨_, rfl⟩
 obtain ⟨y2, hy2⟩ : ∃ z, withinV w 1 64 = z := ⟨_, rfl⟩
 have h159 : ∀ m, g159 [.agg ⟨[v]⟩, u] X1 m = some (iv y1, X1, m) := fun m => by rw [← hy1]; exact g159_at (hG.guns.mono (hS0.trans hS1)) (hW.mono (hS0.trans hS1))
 obtain ⟨y, hy⟩ : ∃ z, firstV [y1, y2] = z := ⟨_, rfl⟩
 rw [hy1, hy2, hy] at hE
 obtain ⟨X2, hX2⟩ : ∃ X2, (n + 1 + 1 + 1, Blk.cells [iv y1, iv y2] 27) :: X1 = X2 := ⟨_, rfl⟩
 have hS2 : Sub X1 X2 := by rw [← hX2]; exact Sub.cons (namesOk_none hm1 _ (Nat.le_refl _)) (Sub.refl _)
 have hm2 : namesOk (n + 1 + 1 + 1 + 1) X2 = true := by rw [← hX2]; exact namesOk_put (by omega) (namesOk_mono (by omega) _ hm1)
 have hp2 : plainH X2 = true := by rw [← hX2]; simp [plainH, plainB2, hp1]
 have h113' : ∀ m, g113 [.slice (some ⟨n + 1 + 1 + 1, 0, none⟩) 2 2] X2 m = some (iv y, X2, m) := fun m => by
   have : intsAt X2 ⟨n + 1 + 1 + 1, 0, none⟩ 2 = some [y1, y2] := intsAt_iv rfl (by rw [← hX2, cellsA_cons, if_pos rfl]; rfl) (by omega)
   simp only [g113, this, Option.map_some, hy]
 have hL1 := (hc0 hS1)
 have hL1' := (hc1 hS1)
 refine E.seq (E.seq (E.reg hr (by simp [-cellsA, -cellA, hL1, hL1', h159, g1, hy2, hX2, h113']; rfl) ?_))
 refine E.seq (E.reg hr (by simp; rfl) ?_)
 have hSS : Sub (tidy n H) X2 := hS0.trans (hS1.trans hS2)
 by_cases hy0 : y = 0
 case neg =>
   have hL : refdL l rs ws w = [] := by rw [refdL, if_neg (by rw [hE]; exact hy0)]
   rw [hL, hE]
   refine E.cond (t := true) (by simp [hy0]) (fun _ => ?_) (fun h => by cases h)
   refine E.seq (E.reg hr (by simp; rfl) ?_)
   refine E.ret ?_
   exact outK.ret rfl rfl ((fresh_none hSS).pair y)
 rw [hy0] at hE hy
 have hww : 1 ≤ w ∧ w ≤ 64 := (withinV_zero _ _ _).1 (by rw [hy2]; exact (firstV_zero _).1 hy y2 (by simp))
 obtain ⟨W, rfl⟩ := Int.eq_ofNat_of_zero_le (show 0 ≤ w by omega)
 have hWW : 1 ≤ W ∧ W ≤ 64 := by omega
 rw [refdL, if_pos hE, hE, Int.toNat_natCast]
 refine E.cond (t := false) (by simp [hy0]) (fun h => by cases h) (fun _ => ?_)
 refine E.skip (E.seq (E.reg hr (by simp; rfl) ?_))
 refine E.seq (E.reg hr (by simp; rfl) ?_)
 refine E.seq (E.seq (E.reg hr (by simp; rfl) ?_))
 have hltX : ∀ k b, hget X2 k = some b → k < n + 1 + 1 + 1 + 1 := fun k b hb => by
   rcases Nat.lt_or_ge k (n + 1 + 1 + 1 + 1) with h | h
   · exact h
   · rw [namesOk_none hm2 k h] at hb
     cases hb
 refine E.block (E.loop ?_)
 refine EL.ind (fun x : Nat × Heap × Nat × Nat => { fr := [(1, .slice oa rs.length c), (3, iv W), (4, .pointer (some ⟨n, 0, none⟩)), (6, .pointer (some ⟨n + 1, 0, none⟩)), (8, .slice none 0 0), (9, iv 0), (10, iv 0), (11, iv 0), (12, .func (.func 160) #[] #[.pointer (some ⟨n + 1, 0, none⟩), .pointer (some ⟨n, 0, none⟩)]), (13, outS x.2.2.2 (refIdx (staysB l ws) l rs W x.1).length), (36, .slice oa rs.length c), (37, iv rs.length), (38, iv x.1)], sz := 54, H := x.2.1, n := x.2.2.1, marks := [], vs := [1, 3, 4, 6, 8, 9, 10, 11, 12, 13, 14, 15, 36, 37, 38] }) (fun x => rs.length - x.1) (fun x => x.1 ≤ rs.length ∧ GL X2 (n + 1 + 1 + 1 + 1) 3 1 ((refIdx (staysB l ws) l rs W x.1).map iv) (refIdx (staysB l ws) l rs W x.1).length x.2.1 x.2.2.1 x.2.2.2) (0, X2, n + 1 + 1 + 1 + 1, n + 1 + 1 + 1 + 1) (.keep rfl rfl rfl (by simp [hz0, hy0, refIdx]) (Sub.refl _)) ⟨Nat.zero_le _, by simpa [refIdx] using GL.start (t := 3) (sz := 1) (Sub.refl X2) hm2 (Nat.le_refl _) hp2⟩ (fun _ => rfl) ?_
 rintro ⟨i, Hx, N, o⟩ ⟨hi, hL⟩
 dsimp only at hi hL ⊢
 have hw : IntKind.i64.wrap ((i : Int) + 1) = (i : Int) + 1 := W_in (by omega) (by omega)
 refine E.seq (E.reg hr (by simp; rfl) ?_)
 refine E.seq ?_
 by_cases hil : i < rs.length
 · obtain ⟨a, rfl, hf, hc⟩ := hrow i hil
   have hilI : (i : Int) < rs.length := by omega
   have hnx := refIdx_step (staysB l ws) l rs W hil
   have hrzi := hrz i hil
   obtain ⟨q, hq⟩ : ∃ q, rs[i] = q := ⟨_, rfl⟩
   rw [hq] at hc hnx hrzi
   have hcx : cellsA Hx a.block (a.off + i * 3) 3 = some [sv q.dir, iv q.band, iv q.least] := hL.sub.cells (hSS.cells hc)
   have hG1 := hL.skip hltX (.cells [sv q.dir, iv q.band, iv q.least] 182) rfl
   obtain ⟨Hy, hHy⟩ : ∃ Hy, (N, Blk.cells [sv q.dir, iv q.band, iv q.least] 182) :: Hx = Hy := ⟨_, rfl⟩
   rw [hHy] at hG1
   have hSy : Sub X0 Hy := hS1.trans (hS2.trans hG1.sub)
   have hcy : cellsA Hy N 0 3 = some [sv q.dir, iv q.band, iv q.least] := by rw [← hHy, cellsA_cons, if_pos rfl]; rfl
   have hKy : KDrop (n + 1) n l ws Hy := by
     have hGk := hG
     obtain ⟨b, e, _, h0, _⟩ := hGk
     exact ⟨u, ⟨b, 0, some 0⟩, 0, hSy _ _ hb1, by rw [hSy _ _ hb0, e], e ▸ (OwnG.mono (hS0.trans hSy) hG).guns, hW.mono (hS0.trans hSy)⟩
   obtain ⟨z, hzz⟩ : ∃ z, refB (staysB l ws) l q W = z := ⟨_, rfl⟩
   have h162 : ∀ m, g162F 160 #[.pointer (some ⟨n + 1, 0, none⟩), .pointer (some ⟨n, 0, none⟩)] (KDrop (n + 1) n l ws) (staysB l ws) l.length [.agg ⟨[v]⟩, .agg ⟨[sv q.dir, iv q.band, iv q.least]⟩, iv W, .func (.func 160) #[] #[.pointer (some ⟨n + 1, 0, none⟩), .pointer (some ⟨n, 0, none⟩)]] Hy m = some (.bool z, Hy, m) := fun m => by
     rw [g162F_at (hG.mono (hS0.trans hSy)) hKy hst hrzi hWW, hzz]
   rw [hzz] at hnx
   have hc0y := hc0 hSy
   refine E.cond (t := true) (by simp [hil]) (fun _ => ?_) (fun h => by cases h)
   refine E.skip (E.seq ?_)
   refine E.block (E.seq (E.reg hr (by simp [-cellsA, -flat, hil, hilI, hf, hcx, hHy]; rfl) ?_))
   refine E.seq (E.reg hr (by simp [-cellsA, -cellA, hc0y, hcy, h162]; rfl) ?_)
   cases z
   · refine E.cond (t := false) (by simp) (fun h => by cases h) (fun _ => ?_)
     refine E.skip (E.reg hr (by simp [hw]; rfl) ?_)
     rw [if_neg (by decide), List.append_nil] at hnx
     exact ⟨(i + 1, Hy, N + 1, o), .keep rfl rfl rfl (by simp [hnx]) (Sub.refl _), ⟨hil, by dsimp only; rw [hnx]; exact hG1⟩, by dsimp only; omega⟩
   · refine E.cond (t := true) (by simp) (fun _ => ?_) (fun h => by cases h)
     have hk := refIdx_len (staysB l ws) l rs W i
     obtain ⟨Hz, happ, hGz⟩ := hG1.app (P := Tryz.prog) (st := 45) (i := Tryz.t3) (new := [iv i]) hltX Tryz.underlying45 inf3 sz3i zo3 by3 (by omega) rfl (by omega) rfl rfl
     refine E.reg hr (by simp [-builtinA, happ]; rfl) ?_
     refine E.reg hr (by simp [hw]; rfl) ?_
     rw [if_pos rfl] at hnx
     have hnl : (refIdx (staysB l ws) l rs W (i + 1)).length = (refIdx (staysB l ws) l rs W i).length + 1 := by rw [hnx]; simp
     have hnm : (refIdx (staysB l ws) l rs W (i + 1)).map iv = (refIdx (staysB l ws) l rs W i).map iv ++ [iv i] := by rw [hnx]; simp
     exact ⟨(i + 1, Hz, N + 1 + 1 + 1, N + 1 + 1), .keep rfl rfl rfl (by simp [hnl]) (Sub.refl _), ⟨hil, by dsimp only; rw [hnl, hnm]; exact hGz⟩, by dsimp only; omega⟩
 · have hil' : i = rs.length := by omega
   subst hil'
   refine E.cond (t := false) (by simp) (fun h => by cases h) (fun _ => ?_)
   refine E.exit ?_
   refine E.seq (E.reg hr (by simp; rfl) ?_)
   refine E.ret ?_
   exact outK.ret rfl rfl (((hL.fresh (n0 := n) (by omega) (afL_iv _) fun ρ => renL_af ρ _ (afL_iv _)).lower hSS).pair 0)
open Classical in
noncomputable def g91 (args : List Value) (H : Heap) (n : Nat) : R := match args with
 | [x, rv, u, .int .i64 w] => if h : ∃ p : List Gun × List ByteArray, OwnS H x p.1 ∧ OwnW H u p.2 then (if hget H 0 = some (.inp 0 names0) then (rulV H rv).map fun rs => (.tuple #[outS n (refdL (Classical.choose h).1 rs (Classical.choose h).2 w).length, iv (refdE (Classical.choose h).1 rs (Classical.choose h).2 w)], outSB n 3 1 (refdL (Classical.choose h).1 rs (Classical.choose h).2 w).length ((refdL (Classical.choose h).1 rs (Classical.choose h).2 w).map iv) ++ H, n + 1) else none) else none
 | _ => none
theorem g91_at {H : Heap} {n : Nat} {x u rv : Value} {l : List Gun} {rs : List Rul} {ws : List ByteArray} {w : Int} (g0 : hget H 0 = some (.inp 0 names0)) (hx : OwnS H x l) (hR : rulV H rv = some rs) (hW : OwnW H u ws) :
   g91 [x, rv, u, iv w] H n = some (.tuple #[outS n (refdL l rs ws w).length, iv (refdE l rs ws w)], outSB n 3 1 (refdL l rs ws w).length ((refdL l rs ws w).map iv) ++ H, n + 1) := by
 have he : ∃ p : List Gun × List ByteArray, OwnS H x p.1 ∧ OwnW H u p.2 := ⟨(l, ws), hx, hW⟩
 simp only [g91]
 rw [dif_pos he, if_pos g0, hR, (Classical.choose_spec he).1.one hx, (Classical.choose_spec he).2.one hW]
 rfl
theorem ok91 : EntOk Tryz.prog (91, g91) := by
 intro args H n v H' n' h
 simp only [g91] at h
 split at h
 · split at h
   · rename_i he
     split at h
     · rename_i h0
       obtain ⟨rs, h1, h2⟩ := Option.map_eq_some_iff.1 h
       injection h2 with e1 e2; injection e2 with e2 e3; subst e1 e2 e3
       exact w91 h0 (Classical.choose_spec he).1 h1 (Classical.choose_spec he).2
     · cases h
   · cases h
 · cases h
def KDel (bw : Nat) (ws : List ByteArray) (H : Heap) : Prop := ∃ u, hget H bw = some (.cells [u] 102) ∧ OwnW H u ws
theorem KDel.tidy {H : Heap} {n bw : Nat} {ws : List ByteArray} (hl : ∀ k b, hget H k = some b → k < n) (h : KDel bw ws H) : KDel bw ws (Ab.tidy n H) := by
 obtain ⟨u, h1, h2⟩ := h
 exact ⟨u, hget_tidy.2 ⟨h1, hl _ _ h1, rfl⟩, h2.tidy hl⟩
theorem KDel.mono {H H' : Heap} {bw : Nat} {ws : List ByteArray} (hs : Sub H H') (h : KDel bw ws H) : KDel bw ws H' := by
 obtain ⟨u, h1, h2⟩ := h
 exact ⟨u, hs _ _ h1, h2.mono hs⟩
set_option maxRecDepth 20000 in
theorem w174 {H : Heap} {n bw : Nat} {ws : List ByteArray} (g : Gun) (hK : KDel bw ws H) : AC Tryz.prog 174 [.agg ⟨g.cells⟩, .pointer (some ⟨bw, 0, none⟩)] H n (.bool (hasW g.name ws)) H n := by
 refine AC.given fun hold hsc hgn => AC.tidied (B := []) (by simp) ?_
 have hlt0 := fun k b h => (hold k b h).1
 obtain ⟨u, hw, hW⟩ := hK
 have hbw := hlt0 _ _ hw
 replace hw : hget (tidy n H) bw = some (.cells [u] 102) := hget_tidy.2 ⟨hw, hbw, rfl⟩
 replace hW := hW.tidy hlt0
 have hr := recT_ok (P := Tryz.prog) (l := [(161, g161W)]) (by simp [ok161W])
 obtain ⟨X, hX⟩ : ∃ X, (n, Blk.cells g.cells 95) :: tidy n H = X := ⟨_, rfl⟩
 have hS : Sub (tidy n H) X := by rw [← hX]; exact Sub.cons (by simp) (Sub.refl _)
 have hcw : cellA X bw 0 = some u := by rw [cellA_eq, hS _ _ hw]; rfl
 have hcn : cellA X n 0 = some (sv g.name) := by rw [← hX, cellA_cons, if_pos rfl]; rfl
 have h161 : ∀ m, g161W [u, sv g.name] X m = some (.bool (hasW g.name ws), X, m) := fun m => g161W_at (hW.mono hS) _
 obtain ⟨z, hz⟩ : ∃ z, hasW g.name ws = z := ⟨_, rfl⟩
 rw [hz] at h161 ⊢
 refine AC.pure Tryz.func174 rfl (by kernel_rfl) rfl [1, 2, 3] rfl ?_
 refine E.seq (E.reg hr (by simp; rfl) ?_)
 rw [hX]
 refine E.seq (E.reg hr (by simp [-cellA, hcw, hcn, h161]; rfl) ?_)
 refine E.ret ?_
 exact pureK.ret rfl rfl (by simp) hS
def fstT (p : Nat → Bool) (L : Nat) : Int := match (List.range L).find? p with
 | some i => (i : Int)
 | none => -1
theorem fstT_hit {p : Nat → Bool} {L i : Nat} (hi : i < L) (hp : p i = true) (hb : ∀ j, j < i → p j = false) : fstT p L = i := by
 have : (List.range L).find? p = some i := by
   rw [List.find?_range_eq_some]
   exact ⟨hp, by simpa using hi, fun j hj => by simp [hb j hj]⟩
 rw [fstT, this]
theorem fstT_miss {p : Nat → Bool} {L : Nat} (hb : ∀ j, j < L → p j = false) : fstT p L = -1 := by
 have : (List.range L).find? p = none := by
   rw [List.find?_eq_none]
   intro x hx
   rw [List.mem_range] at hx
   simp [hb x hx]
 rw [fstT, this]
theorem fstT_cases (p : Nat → Bool) (L : Nat) : (∃ i, i < L ∧ p i = true ∧ (∀ j, j < i → p j = false) ∧ fstT p L = i) ∨ ((∀ j, j < L → p j = false) ∧ fstT p L = -1) := by
 cases h : (List.range L).find? p with
 | some i =>
   obtain ⟨h1, h2, h3⟩ := List.find?_range_eq_some.1 h
   have h2 : i < L := by simpa using h2
   have h4 : ∀ j, j < i → p j = false := fun j hj => by simpa using h3 j hj
   exact .inl ⟨i, h2, h1, h4, fstT_hit h2 h1 h4⟩
 | none =>
   have h4 : ∀ j, j < L → p j = false := fun j hj => by simpa using List.find?_eq_none.1 h j (List.mem_range.2 hj)
   exact .inr ⟨h4, fstT_miss h4⟩
def eqAt (zs : List Int) (z : Int) (i : Nat) : Bool := match zs[i]? with
 | some x => decide (z = x)
 | none => false
theorem eqAt_at {zs : List Int} {z : Int} {i : Nat} (h : i < zs.length) : eqAt zs z i = decide (z = zs[i]) := by
 unfold eqAt
 rw [List.getElem?_eq_getElem h]
theorem fst_mem (zs : List Int) (z : Int) : decide (fstT (eqAt zs z) zs.length ≥ 0) = decide (z ∈ zs) := by
 rcases fstT_cases (eqAt zs z) zs.length with ⟨i, h1, h2, h3, h4⟩ | ⟨h1, h2⟩
 · rw [h4]
   rw [eqAt_at h1] at h2
   have h2 := of_decide_eq_true h2
   have : z ∈ zs := h2 ▸ List.getElem_mem h1
   simp [this]
 · rw [h2]
   have : ¬ z ∈ zs := fun hm => by
     obtain ⟨i, hi, e⟩ := List.getElem_of_mem hm
     have := h1 i hi
     rw [eqAt_at hi] at this
     exact of_decide_eq_false this e.symm
   simp [this]
set_option maxRecDepth 20000 in
theorem w215 {H : Heap} {n : Nat} {v : Value} {zs : List Int} (z : Int) (hV : intV H v = some zs) : AC Tryz.prog 215 [v, iv z] H n (iv (fstT (eqAt zs z) zs.length)) H n := by
 refine AC.given fun hold hsc hgn => AC.tidied (B := []) (by simp) ?_
 replace hV := int_tidy hold hV
 have hr := recT_ok (P := Tryz.prog) (l := []) (by simp)
 obtain ⟨oa, c, rfl, hlt, _, hrow⟩ := intV_form hV
 refine AC.pure Tryz.func215 rfl (by kernel_rfl) rfl [0, 1, 7, 8] rfl ?_
 refine E.seq (E.reg hr (by simp; rfl) ?_)
 refine E.seq (E.seq (E.reg hr (by simp; rfl) ?_))
 refine E.block (E.loop ?_)
 refine EL.ind (fun i : Nat => { fr := [(0, .slice oa zs.length c), (1, iv z), (7, iv zs.length), (8, iv i)], sz := 19, H := tidy n H, n := n, marks := [], vs := [0, 1, 7, 8] }) (fun i => zs.length - i) (fun i => i ≤ zs.length ∧ ∀ j, j < i → eqAt zs z j = false) 0 (.keep rfl rfl rfl (by simp) (Sub.refl _)) ⟨Nat.zero_le _, fun j hj => by omega⟩ (fun _ => rfl) ?_
 rintro i ⟨hi, hb⟩
 have hw : IntKind.i64.wrap ((i : Int) + 1) = (i : Int) + 1 := W_in (by omega) (by omega)
 refine E.seq (E.reg hr (by simp; rfl) ?_)
 refine E.seq ?_
 by_cases hil : i < zs.length
 · obtain ⟨a, rfl, hf, hc⟩ := hrow i hil
   have hilI : (i : Int) < zs.length := by omega
   have he := eqAt_at (z := z) hil
   obtain ⟨x, hx⟩ : ∃ x, zs[i] = x := ⟨_, rfl⟩
   rw [hx] at hc he
   refine E.cond (t := true) (by simp [hil]) (fun _ => ?_) (fun h => by cases h)
   refine E.skip (E.seq ?_)
   refine E.block (E.seq (E.reg hr (by simp; rfl) ?_))
   refine E.seq (E.reg hr (by simp [-cellA, -flat, hil, hilI, hf, hc]; rfl) ?_)
   by_cases hzx : z = x
   · refine E.cond (t := true) (by simp [hzx]) (fun _ => ?_) (fun h => by cases h)
     refine E.seq (E.reg hr (by simp; rfl) ?_)
     refine E.ret ?_
     have := fstT_hit hil (he.trans (by simp [hzx])) hb
     exact pureK.ret rfl rfl (by simp [this]) (Sub.refl _)
   · refine E.cond (t := false) (by simp [hzx]) (fun h => by cases h) (fun _ => ?_)
     refine E.skip (E.reg hr (by simp [hw]; rfl) ?_)
     refine ⟨i + 1, .keep rfl rfl rfl (by simp) (Sub.refl _), ⟨hil, fun j hj => ?_⟩, by dsimp only; omega⟩
     by_cases hji : j = i
     · subst hji; exact he.trans (by simp [hzx])
     · exact hb j (by omega)
 · have hil' : i = zs.length := by omega
   subst hil'
   refine E.cond (t := false) (by simp) (fun h => by cases h) (fun _ => ?_)
   refine E.exit ?_
   refine E.seq (E.reg hr (by simp; rfl) ?_)
   refine E.ret ?_
   have := fstT_miss hb
   exact pureK.ret rfl rfl (by simp [this]) (Sub.refl _)
def g215 (args : List Value) (H : Heap) (n : Nat) : R := match args with
 | [v, .int .i64 z] => (intV H v).map fun zs => (iv (fstT (eqAt zs z) zs.length), H, n)
 | _ => none
theorem ok215 : EntOk Tryz.prog (215, g215) := by
 intro args H n v H' n' h
 simp only [g215] at h
 split at h
 · obtain ⟨zs, h1, h2⟩ := Option.map_eq_some_iff.1 h
   injection h2 with e1 e2; injection e2 with e2 e3; subst e1 e2 e3
   exact w215 _ h1
 · cases h
set_option maxRecDepth 20000 in
theorem w168 {H : Heap} {n : Nat} {v : Value} {zs : List Int} (z : Int) (hV : intV H v = some zs) : AC Tryz.prog 168 [v, iv z] H n (.bool (decide (z ∈ zs))) H n := by
 refine AC.given fun hold hsc hgn => AC.tidied (B := []) (by simp) ?_
 replace hV := int_tidy hold hV
 have hr := recT_ok (P := Tryz.prog) (l := [(215, g215)]) (by simp [ok215])
 obtain ⟨oa, c, rfl, hlt, _, hrow⟩ := intV_form hV
 have h215 : ∀ m, g215 [.slice oa zs.length c, iv z] (tidy n H) m = some (iv (fstT (eqAt zs z) zs.length), tidy n H, m) := fun m => by simp only [g215, hV, Option.map_some]
 rw [← fst_mem]
 obtain ⟨q, hq⟩ : ∃ q, fstT (eqAt zs z) zs.length = q := ⟨_, rfl⟩
 rw [hq] at h215 ⊢
 refine AC.pure Tryz.func168 rfl (by kernel_rfl) rfl [0, 1, 4] rfl ?_
 refine E.seq (E.reg hr (by simp; rfl) ?_)
 refine E.seq (E.reg hr (by simp [h215]; rfl) ?_)
 refine E.ret ?_
 exact pureK.ret rfl rfl (by simp) (Sub.refl _)
def g168 (args : List Value) (H : Heap) (n : Nat) : R := match args with
 | [v, .int .i64 z] => (intV H v).map fun zs => (.bool (decide (z ∈ zs)), H, n)
 | _ => none
theorem ok168 : EntOk Tryz.prog (168, g168) := by
 intro args H n v H' n' h
 simp only [g168] at h
 split at h
 · obtain ⟨zs, h1, h2⟩ := Option.map_eq_some_iff.1 h
   injection h2 with e1 e2; injection e2 with e2 e3; subst e1 e2 e3
   exact w168 _ h1
 · cases h
def outB (zs : List Int) (i : Nat) : Bool := !decide ((i : Int) ∈ zs)
def KSet (bs : Nat) (zs : List Int) (H : Heap) : Prop := ∃ v, hget H bs = some (.cells [v] 229) ∧ intV H v = some zs
theorem KSet.mono {H H' : Heap} {bs : Nat} {zs : List Int} (hs : Sub H H') (h : KSet bs zs H) : KSet bs zs H' := by
 obtain ⟨v, h1, h2⟩ := h
 exact ⟨v, hs _ _ h1, listV_mono decI_mono hs h2⟩
theorem KSet.tidy {H : Heap} {n bs : Nat} {zs : List Int} (hl : ∀ k b, hget H k = some b → k < n) (h : KSet bs zs H) : KSet bs zs (Ab.tidy n H) := by
 obtain ⟨v, h1, h2⟩ := h
 exact ⟨v, hget_tidy.2 ⟨h1, hl _ _ h1, rfl⟩, listV_tidy decI_tidy hl h2⟩
set_option maxRecDepth 20000 in
theorem w167 {H : Heap} {n bs i : Nat} {zs : List Int} (hK : KSet bs zs H) : AC Tryz.prog 167 [iv i, .pointer (some ⟨bs, 0, none⟩)] H n (.bool (outB zs i)) H n := by
 refine AC.given fun hold hsc hgn => AC.tidied (B := []) (by simp) ?_
 obtain ⟨v, h1, h2⟩ := hK.tidy fun k b h => (hold k b h).1
 have hr := recT_ok (P := Tryz.prog) (l := [(168, g168)]) (by simp [ok168])
 have hc : cellA (tidy n H) bs 0 = some v := by rw [cellA_eq, h1]; rfl
 have h168 : ∀ m, g168 [v, iv i] (tidy n H) m = some (.bool (decide ((i : Int) ∈ zs)), tidy n H, m) := fun m => by simp only [g168, h2, Option.map_some]
 unfold outB
 obtain ⟨q, hq⟩ : ∃ q, decide ((i : Int) ∈ zs) = q := ⟨_, rfl⟩
 rw [hq] at h168 ⊢
 refine AC.pure Tryz.func167 rfl (by kernel_rfl) rfl [0, 1, 3] rfl ?_
 refine E.seq (E.reg hr (by simp; rfl) ?_)
 refine E.seq (E.reg hr (by simp [-cellA, hc, h168]; rfl) ?_)
 refine E.ret ?_
 exact pureK.ret rfl rfl (by simp) (Sub.refl _)
theorem fire_set (bs : Nat) (zs : List Int) (L : Nat) : FireOk 167 [.pointer (some ⟨bs, 0, none⟩)] (KSet bs zs) (outB zs) L :=
 ⟨fun _ _ _ hK _ => w167 hK, fun _ _ hs hK => hK.mono hs, fun _ _ hl hK => hK.tidy hl⟩
def K170 (ps pw pf bs : Nat) (l : List Gun) (zs : List Int) (W : Nat) (H : Heap) : Prop := (∃ v, hget H ps = some (.cells [v] 32) ∧ OwnG H v l) ∧ hget H pw = some (.cells [iv W] 3) ∧ hget H pf = some (.cells [.func (.func 167) #[] #[.pointer (some ⟨bs, 0, none⟩)]] 200) ∧ KSet bs zs H
theorem K170.mono {H H' : Heap} {ps pw pf bs : Nat} {l : List Gun} {zs : List Int} {W : Nat} (hs : Sub H H') (h : K170 ps pw pf bs l zs W H) : K170 ps pw pf bs l zs W H' := by
 obtain ⟨⟨v, h1, h2⟩, h3, h4, h5⟩ := h
 exact ⟨⟨v, hs _ _ h1, h2.mono hs⟩, hs _ _ h3, hs _ _ h4, h5.mono hs⟩
theorem K170.tidy {H : Heap} {n ps pw pf bs : Nat} {l : List Gun} {zs : List Int} {W : Nat} (hl : ∀ k b, hget H k = some b → k < n) (h : K170 ps pw pf bs l zs W H) : K170 ps pw pf bs l zs W (Ab.tidy n H) := by
 obtain ⟨⟨v, h1, h2⟩, h3, h4, h5⟩ := h
 exact ⟨⟨v, hget_tidy.2 ⟨h1, hl _ _ h1, rfl⟩, h2.tidy hl⟩, hget_tidy.2 ⟨h3, hl _ _ h3, rfl⟩, hget_tidy.2 ⟨h4, hl _ _ h4, rfl⟩, h5.tidy hl⟩
set_option maxRecDepth 20000 in
theorem w170 {H : Heap} {n ps pw pf bs W : Nat} {l : List Gun} {zs : List Int} {q : Rul} (hK : K170 ps pw pf bs l zs W H) (hst : strE l = 0) (hrz : rulE q = 0) (hW : 1 ≤ W ∧ W ≤ 64) :
   AC Tryz.prog 170 [.agg ⟨[sv q.dir, iv q.band, iv q.least]⟩, .pointer (some ⟨ps, 0, none⟩), .pointer (some ⟨pw, 0, none⟩), .pointer (some ⟨pf, 0, none⟩)] H n (.bool (refB (outB zs) l q W)) H n := by
 refine AC.given fun hold hsc hgn => AC.tidied (B := []) (by simp) ?_
 replace hK := hK.tidy fun k b h => (hold k b h).1
 have hr := recT_ok (P := Tryz.prog) (l := [(162, g162F 167 #[.pointer (some ⟨bs, 0, none⟩)] (KSet bs zs) (outB zs) l.length)]) (by simp only [List.forall_mem_cons]; exact ⟨ok162F (fire_set bs zs l.length) (by decide) (by decide) (by decide), by simp⟩)
 obtain ⟨X, hX⟩ : ∃ X, (n, Blk.cells [sv q.dir, iv q.band, iv q.least] 182) :: tidy n H = X := ⟨_, rfl⟩
 have hS : Sub (tidy n H) X := by rw [← hX]; exact Sub.cons (by simp) (Sub.refl _)
 obtain ⟨⟨v, h1, hG⟩, h3, h4, h5⟩ := hK.mono hS
 have c1 : cellsA X ps 0 1 = some [v] := by rw [cellsA_eq, h1]; rfl
 have c2 : cellA X pw 0 = some (iv W) := by rw [cellA_eq, h3]; rfl
 have c3 : cellA X pf 0 = some (.func (.func 167) #[] #[.pointer (some ⟨bs, 0, none⟩)]) := by rw [cellA_eq, h4]; rfl
 have c4 : cellsA X n 0 3 = some [sv q.dir, iv q.band, iv q.least] := by rw [← hX, cellsA_cons, if_pos rfl]; rfl
 obtain ⟨z, hz⟩ : ∃ z, refB (outB zs) l q W = z := ⟨_, rfl⟩
 have h162 : ∀ m, g162F 167 #[.pointer (some ⟨bs, 0, none⟩)] (KSet bs zs) (outB zs) l.length [.agg ⟨[v]⟩, .agg ⟨[sv q.dir, iv q.band, iv q.least]⟩, iv W, .func (.func 167) #[] #[.pointer (some ⟨bs, 0, none⟩)]] X m = some (.bool z, X, m) := fun m => by
   rw [g162F_at hG h5 hst hrz hW, hz]
 rw [hz]
 refine AC.pure Tryz.func170 rfl (by kernel_rfl) rfl [1, 2, 3, 4, 5] rfl ?_
 refine E.seq (E.reg hr (by simp; rfl) ?_)
 rw [hX]
 refine E.seq (E.reg hr (by simp [-cellsA, -cellA, c1, c2, c3, c4, h162]; rfl) ?_)
 refine E.ret ?_
 exact pureK.ret rfl rfl (by simp) hS
open Classical in
noncomputable def g170 (ps pw pf bs : Nat) (l : List Gun) (zs : List Int) (W : Nat) (args : List Value) (H : Heap) (n : Nat) : R := match args with
 | [.agg ⟨[.string d, .int .i64 bd, .int .i64 le]⟩, a, b, c] => if a = .pointer (some ⟨ps, 0, none⟩) ∧ b = .pointer (some ⟨pw, 0, none⟩) ∧ c = .pointer (some ⟨pf, 0, none⟩) ∧ K170 ps pw pf bs l zs W H ∧ strE l = 0 ∧ rulE ⟨d, bd, le⟩ = 0 ∧ 1 ≤ W ∧ W ≤ 64 then some (.bool (refB (outB zs) l ⟨d, bd, le⟩ W), H, n) else none
 | _ => none
theorem g170_at {H : Heap} {n ps pw pf bs W : Nat} {l : List Gun} {zs : List Int} {q : Rul} (hK : K170 ps pw pf bs l zs W H) (hst : strE l = 0) (hrz : rulE q = 0) (hW : 1 ≤ W ∧ W ≤ 64) :
   g170 ps pw pf bs l zs W [.agg ⟨[sv q.dir, iv q.band, iv q.least]⟩, .pointer (some ⟨ps, 0, none⟩), .pointer (some ⟨pw, 0, none⟩), .pointer (some ⟨pf, 0, none⟩)] H n = some (.bool (refB (outB zs) l q W), H, n) := by
 simp only [g170]
 rw [if_pos ⟨rfl, rfl, rfl, hK, hst, hrz, hW⟩]
theorem ok170 {ps pw pf bs W : Nat} {l : List Gun} {zs : List Int} : EntOk Tryz.prog (170, g170 ps pw pf bs l zs W) := by
 intro args H n v H' n' h
 simp only [g170] at h
 split at h
 · split at h
   · rename_i hc
     obtain ⟨rfl, rfl, rfl, h1, h2, h3, h4⟩ := hc
     injection h with h; injection h with e1 e2; injection e2 with e2 e3; subst e1 e2 e3
     exact w170 (q := ⟨_, _, _⟩) h1 h2 h3 h4
   · cases h
 · cases h
def refAt (b : Nat → Bool) (l : List Gun) (rs : List Rul) (W : Nat) (i : Nat) : Bool := match rs[i]? with
 | some q => refB b l q W
 | none => false
theorem refAt_at {b : Nat → Bool} {l : List Gun} {rs : List Rul} {W i : Nat} (h : i < rs.length) : refAt b l rs W i = refB b l rs[i] W := by
 unfold refAt
 rw [List.getElem?_eq_getElem h]
set_option maxRecDepth 20000 in
theorem w216 {H : Heap} {n ps pw pf bs W : Nat} {l : List Gun} {zs : List Int} {rs : List Rul} {rv : Value} (hK : K170 ps pw pf bs l zs W H) (hst : strE l = 0) (hrz : rulsE rs = 0) (hW : 1 ≤ W ∧ W ≤ 64) (hR : rulV H rv = some rs) :
   AC Tryz.prog 216 [rv, .func (.func 170) #[] #[.pointer (some ⟨ps, 0, none⟩), .pointer (some ⟨pw, 0, none⟩), .pointer (some ⟨pf, 0, none⟩)]] H n (iv (fstT (refAt (outB zs) l rs W) rs.length)) H n := by
 refine AC.given fun hold hsc hgn => AC.tidied (B := []) (by simp) ?_
 have hlt0 := fun k b h => (hold k b h).1
 replace hK := hK.tidy hlt0
 replace hR : rulV (tidy n H) rv = some rs := listV_tidy decR_tidy hlt0 hR
 obtain ⟨oa, c, rfl, hlt, hrow⟩ := rulV_form hR
 obtain ⟨hr12, hrz⟩ := rulsE_zero hrz
 have hr := recT_ok (P := Tryz.prog) (l := [(170, g170 ps pw pf bs l zs W)]) (by simp only [List.forall_mem_cons]; exact ⟨ok170, by simp⟩)
 refine AC.pure Tryz.func216 rfl (by kernel_rfl) rfl [0, 1, 7, 8] rfl ?_
 refine E.seq (E.reg hr (by simp; rfl) ?_)
 refine E.seq (E.seq (E.reg hr (by simp; rfl) ?_))
 refine E.block (E.loop ?_)
 refine EL.ind (fun i : Nat => { fr := [(0, .slice oa rs.length c), (1, .func (.func 170) #[] #[.pointer (some ⟨ps, 0, none⟩), .pointer (some ⟨pw, 0, none⟩), .pointer (some ⟨pf, 0, none⟩)]), (7, iv rs.length), (8, iv i)], sz := 19, H := tidy n H, n := n, marks := [], vs := [0, 1, 7, 8] }) (fun i => rs.length - i) (fun i => i ≤ rs.length ∧ ∀ j, j < i → refAt (outB zs) l rs W j = false) 0 (.keep rfl rfl rfl (by simp) (Sub.refl _)) ⟨Nat.zero_le _, fun j hj => by omega⟩ (fun _ => rfl) ?_
 rintro i ⟨hi, hb⟩
 have hw : IntKind.i64.wrap ((i : Int) + 1) = (i : Int) + 1 := W_in (by omega) (by omega)
 refine E.seq (E.reg hr (by simp; rfl) ?_)
 refine E.seq ?_
 by_cases hil : i < rs.length
 · obtain ⟨a, rfl, hf, hc⟩ := hrow i hil
   have hilI : (i : Int) < rs.length := by omega
   have he := refAt_at (b := outB zs) (l := l) (W := W) hil
   have hrzi := hrz i hil
   obtain ⟨q, hq⟩ : ∃ q, rs[i] = q := ⟨_, rfl⟩
   rw [hq] at hc he hrzi
   replace hc : cellsA (tidy n H) a.block (a.off + i * 3) 3 = some [sv q.dir, iv q.band, iv q.least] := hc
   obtain ⟨z, hz⟩ : ∃ z, refB (outB zs) l q W = z := ⟨_, rfl⟩
   have h170 : ∀ m, g170 ps pw pf bs l zs W [.agg ⟨[sv q.dir, iv q.band, iv q.least]⟩, .pointer (some ⟨ps, 0, none⟩), .pointer (some ⟨pw, 0, none⟩), .pointer (some ⟨pf, 0, none⟩)] (tidy n H) m = some (.bool z, tidy n H, m) := fun m => by
     rw [g170_at hK hst hrzi hW, hz]
   rw [hz] at he
   refine E.cond (t := true) (by simp [hil]) (fun _ => ?_) (fun h => by cases h)
   refine E.skip (E.seq ?_)
   refine E.block (E.seq (E.reg hr (by simp; rfl) ?_))
   refine E.seq (E.reg hr (by simp [-cellsA, -cellA, -flat, hil, hilI, hf, hc, h170]; rfl) ?_)
   cases z
   · refine E.cond (t := false) (by simp) (fun h => by cases h) (fun _ => ?_)
     refine E.skip (E.reg hr (by simp [hw]; rfl) ?_)
     refine ⟨i + 1, .keep rfl rfl rfl (by simp) (Sub.refl _), ⟨hil, fun j hj => ?_⟩, by dsimp only; omega⟩
     by_cases hji : j = i
     · subst hji; exact he
     · exact hb j (by omega)
   · refine E.cond (t := true) (by simp) (fun _ => ?_) (fun h => by cases h)
     refine E.seq (E.reg hr (by simp; rfl) ?_)
     refine E.ret ?_
     have := fstT_hit hil he hb
     exact pureK.ret rfl rfl (by simp [this]) (Sub.refl _)
 · have hil' : i = rs.length := by omega
   subst hil'
   refine E.cond (t := false) (by simp) (fun h => by cases h) (fun _ => ?_)
   refine E.exit ?_
   refine E.seq (E.reg hr (by simp; rfl) ?_)
   refine E.ret ?_
   have := fstT_miss hb
   exact pureK.ret rfl rfl (by simp [this]) (Sub.refl _)
abbrev cl170 (ps pw pf : Nat) : Value := .func (.func 170) #[] #[.pointer (some ⟨ps, 0, none⟩), .pointer (some ⟨pw, 0, none⟩), .pointer (some ⟨pf, 0, none⟩)]
open Classical in
noncomputable def g216 (ps pw pf bs : Nat) (l : List Gun) (zs : List Int) (W : Nat) (args : List Value) (H : Heap) (n : Nat) : R := match args with
 | [rv, fv] => if fv = cl170 ps pw pf ∧ K170 ps pw pf bs l zs W H ∧ strE l = 0 ∧ 1 ≤ W ∧ W ≤ 64 then (rulV H rv).bind fun rs => if rulsE rs = 0 then some (iv (fstT (refAt (outB zs) l rs W) rs.length), H, n) else none else none
 | _ => none
theorem g216_at {H : Heap} {n ps pw pf bs W : Nat} {l : List Gun} {zs : List Int} {rs : List Rul} {rv : Value} (hK : K170 ps pw pf bs l zs W H) (hst : strE l = 0) (hrz : rulsE rs = 0) (hW : 1 ≤ W ∧ W ≤ 64) (hR : rulV H rv = some rs) :
   g216 ps pw pf bs l zs W [rv, cl170 ps pw pf] H n = some (iv (fstT (refAt (outB zs) l rs W) rs.length), H, n) := by
 simp only [g216]
 rw [if_pos ⟨rfl, hK, hst, hW⟩, hR, Option.bind_some, if_pos hrz]
theorem ok216 {ps pw pf bs W : Nat} {l : List Gun} {zs : List Int} : EntOk Tryz.prog (216, g216 ps pw pf bs l zs W) := by
 intro args H n v H' n' h
 simp only [g216] at h
 split at h
 · split at h
   · rename_i hc
     obtain ⟨rfl, h1, h2, h3⟩ := hc
     obtain ⟨rs, h4, h5⟩ := Option.bind_eq_some_iff.1 h
     split at h5
     · rename_i h6
       injection h5 with h; injection h with e1 e2; injection e2 with e2 e3; subst e1 e2 e3
       exact w216 h1 h2 h6 h3 h4
     · cases h5
   · cases h
 · cases h
def anyB (b : Nat → Bool) (l : List Gun) (rs : List Rul) (W : Nat) : Bool := decide (fstT (refAt b l rs W) rs.length ≥ 0)
set_option maxRecDepth 20000 in
theorem w169 {H : Heap} {n ps pw pf bs W : Nat} {l : List Gun} {zs : List Int} {rs : List Rul} {rv : Value} (hK : K170 ps pw pf bs l zs W H) (hst : strE l = 0) (hrz : rulsE rs = 0) (hW : 1 ≤ W ∧ W ≤ 64) (hR : rulV H rv = some rs) :
   AC Tryz.prog 169 [rv, cl170 ps pw pf] H n (.bool (anyB (outB zs) l rs W)) H n := by
 refine AC.given fun hold hsc hgn => AC.tidied (B := []) (by simp) ?_
 have hlt0 := fun k b h => (hold k b h).1
 replace hK := hK.tidy hlt0
 replace hR : rulV (tidy n H) rv = some rs := listV_tidy decR_tidy hlt0 hR
 have hr := recT_ok (P := Tryz.prog) (l := [(216, g216 ps pw pf bs l zs W)]) (by simp only [List.forall_mem_cons]; exact ⟨ok216, by simp⟩)
 have h216 := fun m => g216_at (n := m) hK hst hrz hW hR
 unfold anyB
 obtain ⟨q, hq⟩ : ∃ q, fstT (refAt (outB zs) l rs W) rs.length = q := ⟨_, rfl⟩
 rw [hq] at h216 ⊢
 obtain ⟨oa, c, rfl, hlt, hrow⟩ := rulV_form hR
 refine AC.pure Tryz.func169 rfl (by kernel_rfl) rfl [0, 1, 4] rfl ?_
 refine E.seq (E.reg hr (by simp; rfl) ?_)
 refine E.seq (E.reg hr (by simp [h216]; rfl) ?_)
 refine E.ret ?_
 exact pureK.ret rfl rfl (by simp) (Sub.refl _)
open Classical in
noncomputable def g169 (ps pw pf bs : Nat) (l : List Gun) (zs : List Int) (W : Nat) (args : List Value) (H : Heap) (n : Nat) : R := match args with
 | [rv, fv] => if fv = cl170 ps pw pf ∧ K170 ps pw pf bs l zs W H ∧ strE l = 0 ∧ 1 ≤ W ∧ W ≤ 64 then (rulV H rv).bind fun rs => if rulsE rs = 0 then some (.bool (anyB (outB zs) l rs W), H, n) else none else none
 | _ => none
theorem g169_at {H : Heap} {n ps pw pf bs W : Nat} {l : List Gun} {zs : List Int} {rs : List Rul} {rv : Value} (hK : K170 ps pw pf bs l zs W H) (hst : strE l = 0) (hrz : rulsE rs = 0) (hW : 1 ≤ W ∧ W ≤ 64) (hR : rulV H rv = some rs) :
   g169 ps pw pf bs l zs W [rv, cl170 ps pw pf] H n = some (.bool (anyB (outB zs) l rs W), H, n) := by
 simp only [g169]
 rw [if_pos ⟨rfl, hK, hst, hW⟩, hR, Option.bind_some, if_pos hrz]
theorem ok169 {ps pw pf bs W : Nat} {l : List Gun} {zs : List Int} : EntOk Tryz.prog (169, g169 ps pw pf bs l zs W) := by
 intro args H n v H' n' h
 simp only [g169] at h
 split at h
 · split at h
   · rename_i hc
     obtain ⟨rfl, h1, h2, h3⟩ := hc
     obtain ⟨rs, h4, h5⟩ := Option.bind_eq_some_iff.1 h
     split at h5
     · rename_i h6
       injection h5 with h; injection h with e1 e2; injection e2 with e2 e3; subst e1 e2 e3
       exact w169 h1 h2 h6 h3 h4
     · cases h5
   · cases h
 · cases h
def K166 (pr ps pw : Nat) (l : List Gun) (rs : List Rul) (W : Nat) (H : Heap) : Prop := (∃ v, hget H ps = some (.cells [v] 32) ∧ OwnG H v l) ∧ hget H pw = some (.cells [iv W] 3) ∧ ∃ rv, hget H pr = some (.cells [rv] 154) ∧ rulV H rv = some rs
theorem K166.mono {H H' : Heap} {pr ps pw : Nat} {l : List Gun} {rs : List Rul} {W : Nat} (hs : Sub H H') (h : K166 pr ps pw l rs W H) : K166 pr ps pw l rs W H' := by
 obtain ⟨⟨v, h1, h2⟩, h3, rv, h4, h5⟩ := h
 exact ⟨⟨v, hs _ _ h1, h2.mono hs⟩, hs _ _ h3, rv, hs _ _ h4, listV_mono decR_mono hs h5⟩
theorem K166.tidy {H : Heap} {n pr ps pw : Nat} {l : List Gun} {rs : List Rul} {W : Nat} (hl : ∀ k b, hget H k = some b → k < n) (h : K166 pr ps pw l rs W H) : K166 pr ps pw l rs W (Ab.tidy n H) := by
 obtain ⟨⟨v, h1, h2⟩, h3, rv, h4, h5⟩ := h
 exact ⟨⟨v, hget_tidy.2 ⟨h1, hl _ _ h1, rfl⟩, h2.tidy hl⟩, hget_tidy.2 ⟨h3, hl _ _ h3, rfl⟩, rv, hget_tidy.2 ⟨h4, hl _ _ h4, rfl⟩, listV_tidy decR_tidy hl h5⟩
set_option maxRecDepth 20000 in
theorem w166 {H : Heap} {n pr ps pw W : Nat} {l : List Gun} {zs : List Int} {rs : List Rul} {u : Value} (hK : K166 pr ps pw l rs W H) (hst : strE l = 0) (hrz : rulsE rs = 0) (hW : 1 ≤ W ∧ W ≤ 64) (hV : intV H u = some zs) :
   AC Tryz.prog 166 [u, .pointer (some ⟨pr, 0, none⟩), .pointer (some ⟨ps, 0, none⟩), .pointer (some ⟨pw, 0, none⟩)] H n (.bool (!anyB (outB zs) l rs W)) H n := by
 refine AC.given fun hold hsc hgn => AC.tidied (B := []) (by simp) ?_
 have hlt0 := fun k b h => (hold k b h).1
 replace hK := hK.tidy hlt0
 replace hV := int_tidy hold hV
 obtain ⟨oa, c, rfl, hlt, _, _⟩ := intV_form hV
 obtain ⟨u, hu⟩ : ∃ u, Value.slice oa zs.length c = u := ⟨_, rfl⟩
 have hr := recT_ok (P := Tryz.prog) (l := [(169, g169 ps pw (n + 1) n l zs W)]) (by simp only [List.forall_mem_cons]; exact ⟨ok169, by simp⟩)
 obtain ⟨X, hX⟩ : ∃ X, (n + 1, Blk.cells [.func (.func 167) #[] #[.pointer (some ⟨n, 0, none⟩)]] 200) :: (n, .cells [u] 229) :: tidy n H = X := ⟨_, rfl⟩
 have hS : Sub (tidy n H) X := by rw [← hX]; exact Sub.cons (by simp) (Sub.cons (by simp) (Sub.refl _))
 obtain ⟨⟨v, h1, hG⟩, h3, rv, h4, hR⟩ := hK.mono hS
 have hKx : K170 ps pw (n + 1) n l zs W X := ⟨⟨v, h1, hG⟩, h3, by rw [← hX, hget_cons, if_pos rfl], u, by rw [← hX, hget_cons, if_neg (by omega), hget_cons, if_pos rfl], by rw [← hu]; exact listV_mono decI_mono hS hV⟩
 have h169 := fun m => g169_at (n := m) hKx hst hrz hW hR
 have c1 : cellA X pr 0 = some rv := by rw [cellA_eq, h4]; rfl
 obtain ⟨z, hz⟩ : ∃ z, anyB (outB zs) l rs W = z := ⟨_, rfl⟩
 rw [hz] at h169 ⊢
 refine AC.pure Tryz.func166 rfl (by kernel_rfl) rfl [1, 2, 3, 4, 5, 6] rfl ?_
 refine E.seq (E.reg hr (by simp; rfl) ?_)
 rw [hu]
 refine E.seq (E.reg hr (by simp [opMakefunc]; rfl) ?_)
 rw [hX]
 refine E.seq (E.reg hr (by simp [-cellA, opMakefunc, c1, h169]; rfl) ?_)
 refine E.ret ?_
 exact pureK.ret rfl rfl (by simp) hS
abbrev cl166 (pr ps pw : Nat) : Value := .func (.func 166) #[] #[.pointer (some ⟨pr, 0, none⟩), .pointer (some ⟨ps, 0, none⟩), .pointer (some ⟨pw, 0, none⟩)]
open Classical in
noncomputable def g166 (pr ps pw : Nat) (l : List Gun) (rs : List Rul) (W : Nat) (args : List Value) (H : Heap) (n : Nat) : R := match args with
 | [u, a, b, c] => if a = .pointer (some ⟨pr, 0, none⟩) ∧ b = .pointer (some ⟨ps, 0, none⟩) ∧ c = .pointer (some ⟨pw, 0, none⟩) ∧ K166 pr ps pw l rs W H ∧ strE l = 0 ∧ rulsE rs = 0 ∧ 1 ≤ W ∧ W ≤ 64 then (intV H u).map fun zs => (.bool (!anyB (outB zs) l rs W), H, n) else none
 | _ => none
theorem g166_at {H : Heap} {n pr ps pw W : Nat} {l : List Gun} {zs : List Int} {rs : List Rul} {u : Value} (hK : K166 pr ps pw l rs W H) (hst : strE l = 0) (hrz : rulsE rs = 0) (hW : 1 ≤ W ∧ W ≤ 64) (hV : intV H u = some zs) :
   g166 pr ps pw l rs W [u, .pointer (some ⟨pr, 0, none⟩), .pointer (some ⟨ps, 0, none⟩), .pointer (some ⟨pw, 0, none⟩)] H n = some (.bool (!anyB (outB zs) l rs W), H, n) := by
 simp only [g166]
 rw [if_pos ⟨rfl, rfl, rfl, hK, hst, hrz, hW⟩, hV]
 rfl
theorem ok166 {pr ps pw W : Nat} {l : List Gun} {rs : List Rul} : EntOk Tryz.prog (166, g166 pr ps pw l rs W) := by
 intro args H n v H' n' h
 simp only [g166] at h
 split at h
 · split at h
   · rename_i hc
     obtain ⟨rfl, rfl, rfl, h1, h2, h3, h4⟩ := hc
     obtain ⟨zs, h5, h⟩ := Option.map_eq_some_iff.1 h
     injection h with e1 e2; injection e2 with e2 e3; subst e1 e2 e3
     exact w166 h1 h2 h3 h4 h5
   · cases h
 · cases h
def freeAt (l : List Gun) (rs : List Rul) (W : Nat) (zss : List (List Int)) (i : Nat) : Bool := match zss[i]? with
 | some zs => !anyB (outB zs) l rs W
 | none => false
theorem freeAt_at {l : List Gun} {rs : List Rul} {W i : Nat} {zss : List (List Int)} (h : i < zss.length) : freeAt l rs W zss i = !anyB (outB zss[i]) l rs W := by
 unfold freeAt
 rw [List.getElem?_eq_getElem h]
set_option maxRecDepth 20000 in
theorem w165 {H : Heap} {n pr ps pw W : Nat} {l : List Gun} {rs : List Rul} {zss : List (List Int)} {sv' : Value} (hK : K166 pr ps pw l rs W H) (hst : strE l = 0) (hrz : rulsE rs = 0) (hW : 1 ≤ W ∧ W ≤ 64) (hV : nestV H sv' = some zss) :
   AC Tryz.prog 165 [sv', cl166 pr ps pw] H n (iv (fstT (freeAt l rs W zss) zss.length)) H n := by
 refine AC.given fun hold hsc hgn => AC.tidied (B := []) (by simp) ?_
 have hlt0 := fun k b h => (hold k b h).1
 replace hK := hK.tidy hlt0
 replace hV := nest_tidy hold hV
 obtain ⟨oa, c, rfl, hlt, _, hrow⟩ := nestV_form hV
 have hr := recT_ok (P := Tryz.prog) (l := [(166, g166 pr ps pw l rs W)]) (by simp only [List.forall_mem_cons]; exact ⟨ok166, by simp⟩)
 refine AC.pure Tryz.func165 rfl (by kernel_rfl) rfl [0, 1, 7, 8] rfl ?_
 refine E.seq (E.reg hr (by simp; rfl) ?_)
 refine E.seq (E.seq (E.reg hr (by simp; rfl) ?_))
 refine E.block (E.loop ?_)
 refine EL.ind (fun i : Nat => { fr := [(0, .slice oa zss.length c), (1, cl166 pr ps pw), (7, iv zss.length), (8, iv i)], sz := 19, H := tidy n H, n := n, marks := [], vs := [0, 1, 7, 8] }) (fun i => zss.length - i) (fun i => i ≤ zss.length ∧ ∀ j, j < i → freeAt l rs W zss j = false) 0 (.keep rfl rfl rfl (by simp) (Sub.refl _)) ⟨Nat.zero_le _, fun j hj => by omega⟩ (fun _ => rfl) ?_
 rintro i ⟨hi, hb⟩
 have hw : IntKind.i64.wrap ((i : Int) + 1) = (i : Int) + 1 := W_in (by omega) (by omega)
 refine E.seq (E.reg hr (by simp; rfl) ?_)
 refine E.seq ?_
 by_cases hil : i < zss.length
 · obtain ⟨a, u, rfl, hf, hc, hu⟩ := hrow i hil
   have hilI : (i : Int) < zss.length := by omega
   have he := freeAt_at (l := l) (rs := rs) (W := W) hil
   obtain ⟨zs, hq⟩ : ∃ q, zss[i] = q := ⟨_, rfl⟩
   rw [hq] at hu he
   have h166 := fun m => g166_at (n := m) hK hst hrz hW hu
   obtain ⟨z, hz⟩ : ∃ z, (!anyB (outB zs) l rs W) = z := ⟨_, rfl⟩
   rw [hz] at he h166
   refine E.cond (t := true) (by simp [hil]) (fun _ => ?_) (fun h => by cases h)
   refine E.skip (E.seq ?_)
   refine E.block (E.seq (E.reg hr (by simp; rfl) ?_))
   refine E.seq (E.reg hr (by simp [-cellsA, -cellA, -flat, hil, hilI, hf, hc, h166]; rfl) ?_)
   cases z
   · refine E.cond (t := false) (by simp) (fun h => by cases h) (fun _ => ?_)
     refine E.skip (E.reg hr (by simp [hw]; rfl) ?_)
     refine ⟨i + 1, .keep rfl rfl rfl (by simp) (Sub.refl _), ⟨hil, fun j hj => ?_⟩, by dsimp only; omega⟩
     by_cases hji : j = i
     · subst hji; exact he
     · exact hb j (by omega)
   · refine E.cond (t := true) (by simp) (fun _ => ?_) (fun h => by cases h)
     refine E.seq (E.reg hr (by simp; rfl) ?_)
     refine E.ret ?_
     have := fstT_hit hil he hb
     exact pureK.ret rfl rfl (by simp [this]) (Sub.refl _)
 · have hil' : i = zss.length := by omega
   subst hil'
   refine E.cond (t := false) (by simp) (fun h => by cases h) (fun _ => ?_)
   refine E.exit ?_
   refine E.seq (E.reg hr (by simp; rfl) ?_)
   refine E.ret ?_
   have := fstT_miss hb
   exact pureK.ret rfl rfl (by simp [this]) (Sub.refl _)
open Classical in
noncomputable def g165 (pr ps pw : Nat) (l : List Gun) (rs : List Rul) (W : Nat) (args : List Value) (H : Heap) (n : Nat) : R := match args with
 | [sv', fv] => if fv = cl166 pr ps pw ∧ K166 pr ps pw l rs W H ∧ strE l = 0 ∧ rulsE rs = 0 ∧ 1 ≤ W ∧ W ≤ 64 then (nestV H sv').map fun zss => (iv (fstT (freeAt l rs W zss) zss.length), H, n) else none
 | _ => none
theorem g165_at {H : Heap} {n pr ps pw W : Nat} {l : List Gun} {rs : List Rul} {zss : List (List Int)} {sv' : Value} (hK : K166 pr ps pw l rs W H) (hst : strE l = 0) (hrz : rulsE rs = 0) (hW : 1 ≤ W ∧ W ≤ 64) (hV : nestV H sv' = some zss) :
   g165 pr ps pw l rs W [sv', cl166 pr ps pw] H n = some (iv (fstT (freeAt l rs W zss) zss.length), H, n) := by
 simp only [g165]
 rw [if_pos ⟨rfl, hK, hst, hrz, hW⟩, hV]
 rfl
theorem ok165 {pr ps pw W : Nat} {l : List Gun} {rs : List Rul} : EntOk Tryz.prog (165, g165 pr ps pw l rs W) := by
 intro args H n v H' n' h
 simp only [g165] at h
 split at h
 · split at h
   · rename_i hc
     obtain ⟨rfl, h1, h2, h3, h4⟩ := hc
     obtain ⟨zss, h5, h⟩ := Option.map_eq_some_iff.1 h
     injection h with e1 e2; injection e2 with e2 e3; subst e1 e2 e3
     exact w165 h1 h2 h3 h4 h5
   · cases h
 · cases h
def KStr (ps : Nat) (l : List Gun) (H : Heap) : Prop := ∃ v, hget H ps = some (.cells [v] 32) ∧ OwnG H v l
theorem KStr.mono {H H' : Heap} {ps : Nat} {l : List Gun} (hs : Sub H H') (h : KStr ps l H) : KStr ps l H' := by
 obtain ⟨v, h1, h2⟩ := h
 exact ⟨v, hs _ _ h1, h2.mono hs⟩
theorem KStr.tidy {H : Heap} {n ps : Nat} {l : List Gun} (hl : ∀ k b, hget H k = some b → k < n) (h : KStr ps l H) : KStr ps l (Ab.tidy n H) := by
 obtain ⟨v, h1, h2⟩ := h
 exact ⟨v, hget_tidy.2 ⟨h1, hl _ _ h1, rfl⟩, h2.tidy hl⟩
def gnmAt (l : List Gun) (i : Nat) : ByteArray := match l[i]? with
 | some g => g.name
 | none => .empty
theorem gnmAt_at {l : List Gun} {i : Nat} (h : i < l.length) : gnmAt l i = l[i].name := by
 unfold gnmAt
 rw [List.getElem?_eq_getElem h]
set_option maxRecDepth 20000 in
theorem w172 {H : Heap} {n ps i : Nat} {l : List Gun} (hK : KStr ps l H) (hi : i < l.length) : AC Tryz.prog 172 [iv i, .pointer (some ⟨ps, 0, none⟩)] H n (sv (gnmAt l i)) H n := by
 refine AC.given fun hold hsc hgn => AC.tidied (B := []) (by simp) ?_
 have hlt0 := fun k b h => (hold k b h).1
 obtain ⟨v, h1, hG⟩ := hK.tidy hlt0
 have hr := recT_ok (P := Tryz.prog) (l := []) (by simp)
 obtain ⟨b, rfl, _⟩ := hG
 obtain ⟨v, h1, hG⟩ := hK.tidy hlt0
 obtain ⟨ga, c, rfl, hgf, hgc, h0, hl31⟩ := hG.guns
 have hg := cells_part (sz := 7) (i := i) hgc hi
 rw [gcs_atB hi] at hg
 have hgn : cellA (tidy n H) ga.block (ga.off + i * 7) = some (sv l[i].name) := (cellsA_cell hg (i := 0) (by omega)).1
 have hcs : cellA (tidy n H) ps 0 = some (.slice (some ga) l.length c) := by rw [cellA_eq, h1]; rfl
 have hiI : (i : Int) < l.length := by omega
 rw [gnmAt_at hi]
 obtain ⟨s, hs'⟩ : ∃ s, l[i].name = s := ⟨_, rfl⟩
 rw [hs'] at hgn ⊢
 refine AC.pure Tryz.func172 rfl (by kernel_rfl) rfl [0, 1, 3] rfl ?_
 refine E.seq (E.reg hr (by simp; rfl) ?_)
 refine E.seq (E.reg hr (by simp [-cellA, -flat, hcs, hgn, hgf, hiI]; rfl) ?_)
 refine E.ret ?_
 exact pureK.ret rfl rfl (by simp) (Sub.refl _)
open Classical in
noncomputable def g172 (ps : Nat) (l : List Gun) (args : List Value) (H : Heap) (n : Nat) : R := match args with
 | [.int .i64 i, a] => if a = .pointer (some ⟨ps, 0, none⟩) ∧ KStr ps l H ∧ 0 ≤ i ∧ i.toNat < l.length then some (sv (gnmAt l i.toNat), H, n) else none
 | _ => none
theorem g172_at {H : Heap} {n ps : Nat} {i : Int} {l : List Gun} (hK : KStr ps l H) (h0 : 0 ≤ i) (hi : i.toNat < l.length) : g172 ps l [iv i, .pointer (some ⟨ps, 0, none⟩)] H n = some (sv (gnmAt l i.toNat), H, n) := by
 simp only [g172]
 rw [if_pos ⟨rfl, hK, h0, hi⟩]
theorem ok172 {ps : Nat} {l : List Gun} : EntOk Tryz.prog (172, g172 ps l) := by
 intro args H n v H' n' h
 simp only [g172] at h
 split at h
 · split at h
   · rename_i hc
     obtain ⟨rfl, h1, h2, h3⟩ := hc
     injection h with h; injection h with e1 e2; injection e2 with e2 e3; subst e1 e2 e3
     rename_i i
     obtain ⟨k, rfl⟩ := Int.eq_ofNat_of_zero_le h2
     exact w172 h1 h3
   · cases h
 · cases h
abbrev cl172 (ps : Nat) : Value := .func (.func 172) #[] #[.pointer (some ⟨ps, 0, none⟩)]
def nmsL (l : List Gun) (zs : List Int) : List ByteArray := zs.map fun z => gnmAt l z.toNat
def nmsC (l : List Gun) (zs : List Int) : List Value := (nmsL l zs).map sv
theorem sz9i : Tryz.t9.size = 1 := by kernel_rfl
theorem zo9 : zeroOk Tryz.t9 = true := by kernel_rfl
theorem by9 : Tryz.t9.bytes ≤ 128 := by decide +kernel
set_option maxRecDepth 20000 in
theorem w171 {H : Heap} {n ps : Nat} {l : List Gun} {zs : List Int} {v : Value} (hK : KStr ps l H) (hV : intV H v = some zs) (hz : ∀ z ∈ zs, 0 ≤ z ∧ z.toNat < l.length) :
   AC Tryz.prog 171 [v, cl172 ps] H n (outS n zs.length) (outSB n 9 1 zs.length (nmsC l zs) ++ H) (n + 1) := by
 refine AC.given fun hold hsc hgn => AC.tidied (fun x hx => outSB_ge x hx) ?_
 have hlt0 := fun k b h => (hold k b h).1
 replace hK := hK.tidy hlt0
 replace hV := int_tidy hold hV
 obtain ⟨oa, c, rfl, hlt, _, hrow⟩ := intV_form hV
 have hr := recT_ok (P := Tryz.prog) (l := [(172, g172 ps l)]) (by simp only [List.forall_mem_cons]; exact ⟨ok172, by simp⟩)
 refine AC.grown Tryz.func171 rfl (by kernel_rfl) rfl [1, 5, 8, 9, 10] ?_
 refine E.seq (E.reg hr (by simp; rfl) ?_)
 refine E.seq (E.reg hr (by simp; rfl) ?_)
 refine E.seq (E.seq (E.reg hr (by simp; rfl) ?_))
 refine E.block (E.loop ?_)
 refine EL.ind (fun x : Nat × Heap × Nat × Nat => { fr := [(1, cl172 ps), (5, outS x.2.2.2 x.1), (8, .slice oa zs.length c), (9, iv zs.length), (10, iv x.1)], sz := 22, H := x.2.1, n := x.2.2.1, marks := [], vs := [1, 5, 8, 9, 10] }) (fun x => zs.length - x.1) (fun x => x.1 ≤ zs.length ∧ GL (tidy n H) n 9 1 (nmsC l (zs.take x.1)) x.1 x.2.1 x.2.2.1 x.2.2.2) (0, tidy n H, n, n) (.keep rfl rfl rfl (by simp) (Sub.refl _)) ⟨Nat.zero_le _, by simpa [nmsC, nmsL] using GL.start (t := 9) (sz := 1) (Sub.refl (tidy n H)) namesOk_tidy (Nat.le_refl n) (by simp)⟩ (fun _ => rfl) ?_
 rintro ⟨i, Hx, N, o⟩ ⟨hi, hG⟩
 dsimp only at hi hG ⊢
 have hw : IntKind.i64.wrap ((i : Int) + 1) = (i : Int) + 1 := W_in (by omega) (by omega)
 refine E.seq (E.reg hr (by simp; rfl) ?_)
 refine E.seq ?_
 by_cases hil : i < zs.length
 · obtain ⟨a, rfl, hf, hc⟩ := hrow i hil
   have htk : zs.take (i + 1) = zs.take i ++ [zs[i]] := List.take_succ_eq_append_getElem hil
   have hsn : nmsC l (zs.take i) ++ [sv (gnmAt l zs[i].toNat)] = nmsC l (zs.take (i + 1)) := by rw [htk]; simp only [nmsC, nmsL, List.map_append, List.map_cons, List.map_nil]
   have hzi := hz zs[i] (List.getElem_mem hil)
   obtain ⟨q, hq⟩ : ∃ q, zs[i] = q := ⟨_, rfl⟩
   rw [hq] at hc hsn hzi
   have hcx : cellA Hx a.block (a.off + i) = some (iv q) := hG.sub.cell hc
   have h172 := fun m => g172_at (n := m) (hK.mono hG.sub) hzi.1 hzi.2
   obtain ⟨s, hs⟩ : ∃ s, gnmAt l q.toNat = s := ⟨_, rfl⟩
   rw [hs] at h172 hsn
   obtain ⟨Hz, happ, hGz⟩ := hG.app (P := Tryz.prog) (st := 102) (i := Tryz.t9) (new := [sv s]) tidy_lt Tryz.underlying102 inf9 sz9i zo9 by9 (by omega) rfl (by omega) rfl rfl
   rw [hsn] at hGz
   refine E.cond (t := true) (by simp [hil]) (fun _ => ?_) (fun h => by cases h)
   refine E.skip (E.seq ?_)
   refine E.block (E.seq (E.reg hr (by simp [-cellA, -flat, hil, hf, hcx]; rfl) ?_))
   refine E.reg hr (by simp [-builtinA, h172, happ]; rfl) ?_
   refine E.reg hr (by simp [hw]; rfl) ?_
   exact ⟨(i + 1, Hz, N + 1 + 1, N + 1), .keep rfl rfl rfl (by simp) (Sub.refl _), ⟨hil, hGz⟩, by dsimp only; omega⟩
 · have hil' : i = zs.length := by omega
   subst hil'
   rw [List.take_length] at hG
   refine E.cond (t := false) (by simp) (fun h => by cases h) (fun _ => ?_)
   refine E.exit ?_
   refine E.seq (E.reg hr (by simp; rfl) ?_)
   refine E.ret ?_
   exact outK.ret rfl rfl (hG.fresh (Nat.le_refl _) (afL_sv _) fun ρ => renL_af ρ _ (afL_sv _))
def cmpL : List Int → List Int → Int
 | [], [] => 0
 | [], _ :: _ => -1
 | _ :: _, [] => 1
 | x :: xs, y :: ys => if cmpI x y = 0 then cmpL xs ys else cmpI x y
theorem cmpL_drop {xs ys : List Int} {i : Nat} (h : i < xs.length) : cmpL (xs.drop i) (ys.drop i) = if h2 : i < ys.length then (if cmpI xs[i] ys[i] = 0 then cmpL (xs.drop (i + 1)) (ys.drop (i + 1)) else cmpI xs[i] ys[i]) else 1 := by
 rw [List.drop_eq_getElem_cons h]
 by_cases h2 : i < ys.length
 · rw [dif_pos h2, List.drop_eq_getElem_cons h2]
   rfl
 · rw [dif_neg h2, show ys.drop i = [] from List.drop_eq_nil_of_le (by omega)]
   rfl
set_option maxRecDepth 20000 in
theorem w214 {H : Heap} {n : Nat} {u v : Value} {xs ys : List Int} (hX : intV H u = some xs) (hY : intV H v = some ys) : AC Tryz.prog 214 [u, v] H n (iv (cmpL xs ys)) H n := by
 refine AC.given fun hold hsc hgn => AC.tidied (B := []) (by simp) ?_
 replace hX := int_tidy hold hX
 replace hY := int_tidy hold hY
 have hr := recT_ok (P := Tryz.prog) (l := [(201, g201)]) (by simp only [List.forall_mem_cons]; exact ⟨ok201, by simp⟩)
 obtain ⟨oa, c, rfl, hlt, _, hrow⟩ := intV_form hX
 obtain ⟨ob, d, rfl, hlt2, _, hrow2⟩ := intV_form hY
 refine AC.pure Tryz.func214 rfl (by kernel_rfl) rfl [0, 1, 5, 6, 7, 8, 9, 10, 11] rfl ?_
 refine E.seq (E.reg hr (by simp; rfl) ?_)
 refine E.seq (E.seq (E.reg hr (by simp; rfl) ?_))
 refine E.block (E.loop ?_)
 refine EL.ind (fun i : Nat => { fr := [(0, .slice oa xs.length c), (1, .slice ob ys.length d), (9, .slice oa xs.length c), (10, iv xs.length), (11, iv i)], sz := 36, H := tidy n H, n := n, marks := [], vs := [0, 1, 5, 6, 7, 8, 9, 10, 11] }) (fun i => xs.length - i) (fun i => i ≤ xs.length ∧ i ≤ ys.length ∧ cmpL xs ys = cmpL (xs.drop i) (ys.drop i)) 0 (.keep rfl rfl rfl (by simp) (Sub.refl _)) ⟨Nat.zero_le _, Nat.zero_le _, rfl⟩ (fun _ => rfl) ?_
 rintro i ⟨hi, hi2, hL⟩
 have hw : IntKind.i64.wrap ((i : Int) + 1) = (i : Int) + 1 := W_in (by omega) (by omega)
 refine E.seq (E.reg hr (by simp; rfl) ?_)
 refine E.seq ?_
 by_cases hil : i < xs.length
 · obtain ⟨a, rfl, hf, hc⟩ := hrow i hil
   have hilI : (i : Int) < xs.length := by omega
   have hD := cmpL_drop (ys := ys) hil
   obtain ⟨x, hx⟩ : ∃ x, xs[i] = x := ⟨_, rfl⟩
   rw [hx] at hc hD
   refine E.cond (t := true) (by simp [hil]) (fun _ => ?_) (fun h => by cases h)
   refine E.skip (E.seq ?_)
   refine E.block (E.seq (E.reg hr (by simp [-cellA, -flat, hil, hilI, hf, hc]; rfl) ?_))
   refine E.seq (E.seq (E.reg hr (by simp; rfl) ?_))
   by_cases hiy : i < ys.length
   · obtain ⟨b, rfl, hf2, hc2⟩ := hrow2 i hiy
     have hiyI : (i : Int) < ys.length := by omega
     have hiyN : ¬ ys.length ≤ i := by omega
     rw [dif_pos hiy] at hD
     obtain ⟨y, hy⟩ : ∃ y, ys[i] = y := ⟨_, rfl⟩
     rw [hy] at hc2 hD
     obtain ⟨q, hq⟩ : ∃ q, cmpI x y = q := ⟨_, rfl⟩
     rw [hq] at hD
     refine E.cond (t := false) (by simp [hiy]) (fun h => by cases h) (fun _ => ?_)
     refine E.skip (E.seq (E.reg hr (by simp [-cellA, -flat, hiyI, hf2, hc2]; rfl) ?_))
     refine E.seq (E.reg hr (by simp [g201, hq]; rfl) ?_)
     refine E.seq (E.reg hr (by simp; rfl) ?_)
     by_cases hq0 : q = 0
     · rw [if_pos hq0] at hD
       refine E.cond (t := false) (by simp [hq0]) (fun h => by cases h) (fun _ => ?_)
       refine E.skip (E.reg hr (by simp [hw]; rfl) ?_)
       exact ⟨i + 1, .keep rfl rfl rfl (by simp) (Sub.refl _), ⟨hil, hiy, hL.trans hD⟩, by dsimp only; omega⟩
     · rw [if_neg hq0] at hD
       refine E.cond (t := true) (by simp [hq0]) (fun _ => ?_) (fun h => by cases h)
       refine E.seq (E.reg hr (by simp; rfl) ?_)
       refine E.ret ?_
       exact pureK.ret rfl rfl (by simp [hL.trans hD]) (Sub.refl _)
   · rw [dif_neg hiy] at hD
     have hiyN : ys.length ≤ i := by omega
     refine E.cond (t := true) (by simp [hiyN]) (fun _ => ?_) (fun h => by cases h)
     refine E.seq (E.reg hr (by simp; rfl) ?_)
     refine E.ret ?_
     exact pureK.ret rfl rfl (by simp [hL.trans hD]) (Sub.refl _)
 · have hil' : i = xs.length := by omega
   subst hil'
   rw [List.drop_length] at hL
   refine E.cond (t := false) (by simp) (fun h => by cases h) (fun _ => ?_)
   refine E.exit ?_
   refine E.seq (E.seq (E.reg hr (by simp; rfl) ?_))
   by_cases hy : xs.length < ys.length
   · have hyI : (xs.length : Int) < ys.length := by omega
     rw [List.drop_eq_getElem_cons hy] at hL
     have hL' : cmpL xs ys = -1 := hL
     refine E.cond (t := true) (by simp [hy]) (fun _ => ?_) (fun h => by cases h)
     refine E.seq (E.reg hr (by simp; rfl) ?_)
     refine E.ret ?_
     exact pureK.ret rfl rfl (by simp [hL']) (Sub.refl _)
   · rw [List.drop_eq_nil_of_le (by omega)] at hL
     have hL' : cmpL xs ys = 0 := hL
     refine E.cond (t := false) (by simp [hy]) (fun h => by cases h) (fun _ => ?_)
     refine E.skip (E.seq (E.reg hr (by simp; rfl) ?_))
     refine E.ret ?_
     exact pureK.ret rfl rfl (by simp [hL']) (Sub.refl _)
def g214 (args : List Value) (H : Heap) (n : Nat) : R := match args with
 | [u, v] => (intV H u).bind fun xs => (intV H v).map fun ys => (iv (cmpL xs ys), H, n)
 | _ => none
theorem ok214 : EntOk Tryz.prog (214, g214) := by
 intro args H n v H' n' h
 simp only [g214] at h
 split at h
 · obtain ⟨xs, h1, h⟩ := Option.bind_eq_some_iff.1 h
   obtain ⟨ys, h2, h⟩ := Option.map_eq_some_iff.1 h
   injection h with e1 e2; injection e2 with e2 e3; subst e1 e2 e3
   exact w214 h1 h2
 · cases h
end
section
open Go Go.Ab Go.Proofs Go.Soft Ieee
theorem E.seqP {P : Program} {n0 : Nat} {ro : Option Nat} {a b : Code} {st : St} {K : Ex → St → Prop} (Q : St → Prop) (h1 : E P n0 ro a st fun e st' => e = .normal ∧ Q st') (h2 : ∀ st', Q st' → E P n0 ro b st' K) : E P n0 ro (.seq a b) st K :=
 E.seq (h1.mono fun e st' hh => by
   obtain ⟨he, hq⟩ := hh
   subst he
   exact h2 st' hq)
end
section
open Go Go.Ab Go.Proofs
def orV : List Int → Int
 | [] => 0
 | x :: xs => if x = 0 then orV xs else x
theorem orV_drop {xs : List Int} {i : Nat} (h : i < xs.length) : orV (xs.drop i) = if xs[i] = 0 then orV (xs.drop (i + 1)) else xs[i] := by
 rw [List.drop_eq_getElem_cons h]
 rfl
set_option maxRecDepth 20000 in
theorem w213 {H : Heap} {n : Nat} {u : Value} {xs : List Int} (hX : intV H u = some xs) : AC Tryz.prog 213 [u] H n (iv (orV xs)) H n := by
 refine AC.given fun hold hsc hgn => AC.tidied (B := []) (by simp) ?_
 replace hX := int_tidy hold hX
 have hr := recT_ok (P := Tryz.prog) (l := []) (by simp)
 obtain ⟨oa, c, rfl, hlt, _, hrow⟩ := intV_form hX
 refine AC.pure Tryz.func213 rfl (by kernel_rfl) rfl [3, 5, 6, 7, 8] rfl ?_
 refine E.seq (E.reg hr (by simp; rfl) ?_)
 refine E.seq (E.reg hr (by simp; rfl) ?_)
 refine E.seq (E.seq (E.reg hr (by simp; rfl) ?_))
 refine E.block (E.loop ?_)
 refine EL.ind (fun i : Nat => { fr := [(3, iv 0), (6, .slice oa xs.length c), (7, iv xs.length), (8, iv i)], sz := 18, H := tidy n H, n := n, marks := [], vs := [3, 5, 6, 7, 8] }) (fun i => xs.length - i) (fun i => i ≤ xs.length ∧ orV xs = orV (xs.drop i)) 0 (.keep rfl rfl rfl (by simp) (Sub.refl _)) ⟨Nat.zero_le _, rfl⟩ (fun _ => rfl) ?_
 rintro i ⟨hi, hL⟩
 have hw : IntKind.i64.wrap ((i : Int) + 1) = (i : Int) + 1 := W_in (by omega) (by omega)
 refine E.seq (E.reg hr (by simp; rfl) ?_)
 refine E.seq ?_
 by_cases hil : i < xs.length
 · obtain ⟨a, rfl, hf, hc⟩ := hrow i hil
   have hilI : (i : Int) < xs.length := by omega
   have hD := orV_drop hil
   obtain ⟨x, hx⟩ : ∃ x, xs[i] = x := ⟨_, rfl⟩
   rw [hx] at hc hD
   refine E.cond (t := true) (by simp [hil]) (fun _ => ?_) (fun h => by cases h)
   refine E.skip (E.seq ?_)
   refine E.block (E.seq (E.reg hr (by simp [-cellA, -flat, hilI, hf, hc]; rfl) ?_))
   refine E.seq (E.reg hr (by simp; rfl) ?_)
   by_cases hx0 : x = 0
   · rw [if_pos hx0] at hD
     refine E.cond (t := false) (by simp [hx0]) (fun h => by cases h) (fun _ => ?_)
     refine E.skip (E.reg hr (by simp [hw]; rfl) ?_)
     exact ⟨i + 1, .keep rfl rfl rfl (by simp) (Sub.refl _), ⟨hil, hL.trans hD⟩, by dsimp only; omega⟩
   · rw [if_neg hx0] at hD
     refine E.cond (t := true) (by simp [hx0]) (fun _ => ?_) (fun h => by cases h)
     refine E.seq (E.reg hr (by simp; rfl) ?_)
     refine E.ret ?_
     exact pureK.ret rfl rfl (by simp [hL.trans hD]) (Sub.refl _)
 · have hil' : i = xs.length := by omega
   subst hil'
   rw [List.drop_length] at hL
   have hL' : orV xs = 0 := hL
   refine E.cond (t := false) (by simp) (fun h => by cases h) (fun _ => ?_)
   refine E.exit ?_
   refine E.seq (E.reg hr (by simp; rfl) ?_)
   refine E.ret ?_
   exact pureK.ret rfl rfl (by simp [hL']) (Sub.refl _)
def g213 (args : List Value) (H : Heap) (n : Nat) : R := match args with
 | [u] => (intV H u).map fun xs => (iv (orV xs), H, n)
 | _ => none
theorem ok213 : EntOk Tryz.prog (213, g213) := by
 intro args H n v H' n' h
 simp only [g213] at h
 split at h
 · obtain ⟨xs, h1, h⟩ := Option.map_eq_some_iff.1 h
   injection h with e1 e2; injection e2 with e2 e3; subst e1 e2 e3
   exact w213 h1
 · cases h
def cmpS (xs ys : List Int) : Int := orV [cmpI ys.length xs.length, cmpL xs ys]
set_option maxRecDepth 20000 in
theorem w164 {H : Heap} {n : Nat} {u v : Value} {xs ys : List Int} (hX : intV H u = some xs) (hY : intV H v = some ys) : AC Tryz.prog 164 [u, v] H n (iv (cmpS xs ys)) H n := by
 refine AC.given fun hold hsc hgn => AC.tidied (B := []) (by simp) ?_
 replace hX := int_tidy hold hX
 replace hY := int_tidy hold hY
 have hr := recT_ok (P := Tryz.prog) (l := [(201, g201), (214, g214), (213, g213)]) (by simp only [List.forall_mem_cons]; exact ⟨ok201, ok214, ok213, by simp⟩)
 obtain ⟨oa, c, hu, _⟩ := intV_form hX
 obtain ⟨ob, d, hv, _⟩ := intV_form hY
 have h214 : ∀ m, g214 [u, v] (tidy n H) m = some (iv (cmpL xs ys), tidy n H, m) := fun m => by simp only [g214, hX, hY]; rfl
 obtain ⟨q, hq⟩ : ∃ q, cmpL xs ys = q := ⟨_, rfl⟩
 obtain ⟨r, hrr⟩ : ∃ r, cmpI ys.length xs.length = r := ⟨_, rfl⟩
 rw [hq, hu, hv] at h214
 have h213 : ∀ m, g213 [.slice (some ⟨n, 0, none⟩) 2 2] ((n, .cells [iv r, iv q] 3) :: tidy n H) m = some (iv (orV [r, q]), (n, .cells [iv r, iv q] 3) :: tidy n H, m) := fun m => by
   have hV : intV ((n, .cells ([r, q].map iv) 3) :: tidy n H) (.slice (some ⟨n, 0, none⟩) [r, q].length 2) = some [r, q] := intV_cells (t := 3) (by rw [hget_cons, if_pos rfl]) (by simp)
   have hV' : intV ((n, .cells [iv r, iv q] 3) :: tidy n H) (.slice (some ⟨n, 0, none⟩) 2 2) = some [r, q] := hV
   simp only [g213, hV', Option.map_some]
 have hS : Sub (tidy n H) ((n, .cells [iv r, iv q] 3) :: tidy n H) := Sub.cons (by simp) (Sub.refl _)
 obtain ⟨X, hXX⟩ : ∃ X, (n, Blk.cells [iv r, iv q] 3) :: tidy n H = X := ⟨_, rfl⟩
 rw [hXX] at h213 hS
 rw [cmpS, hrr, hq, hu, hv]
 refine AC.pure Tryz.func164 rfl (by kernel_rfl) rfl [0, 1] rfl ?_
 refine E.seq (E.reg hr (by simp; rfl) ?_)
 refine E.seq (E.reg hr (by simp [g201, hrr, h214, hXX, h213]; rfl) ?_)
 refine E.ret ?_
 exact pureK.ret rfl rfl (by simp) hS
def g164 (args : List Value) (H : Heap) (n : Nat) : R := match args with
 | [u, v] => (intV H u).bind fun xs => (intV H v).map fun ys => (iv (cmpS xs ys), H, n)
 | _ => none
theorem ok164 : EntOk Tryz.prog (164, g164) := by
 intro args H n v H' n' h
 simp only [g164] at h
 split at h
 · obtain ⟨xs, h1, h⟩ := Option.bind_eq_some_iff.1 h
   obtain ⟨ys, h2, h⟩ := Option.map_eq_some_iff.1 h
   injection h with e1 e2; injection e2 with e2 e3; subst e1 e2 e3
   exact w164 h1 h2
 · cases h
end
end Go.Proofs.YtndlfijfjglkdaaGreatDoor
