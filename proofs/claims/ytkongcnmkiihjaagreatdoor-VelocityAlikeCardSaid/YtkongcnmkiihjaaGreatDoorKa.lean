/-
The contract of strings.Join as an oracle; the printed states between which awake is run in pieces.
-/
import Derived.Shelf.Strings.Builder1
import Derived.Shelf.Strings.Builder2
import Derived.Shelf.LaysM
import Derived.Ground.Names2Prog
import Derived.Shelf.Strings.OnBuilder
import Derived.Test.YtkongcnmkiihjaaGreatDoorProg
import Derived.KernelRfl
import Derived.Test.YtkongcnmkiihjaaGreatDoorTa
import Derived.Test.YtkongcnmkiihjaaGreatDoorAg
import Derived.Test.YtkongcnmkiihjaaGreatDoorAf
import Derived.Test.YtkongcnmkiihjaaGreatDoorYa
namespace Go.Proofs
open Go.Shelf
def Tryz.lays156_ren:Go.Shelf.Ren:=⟨fun | 156=>152 | 165=>177 | 166=>178 | 169=>179 | 240=>195 | 241=>196 | 276=>218 | 277=>219 | n=>n,fun | 31=>155 | 9=>9 | 3=>3 | 4=>4 | 0=>0 | 20=>20 | 72=>244 | 76=>248 | 70=>241 | 37=>242 | 75=>247 | 127=>271 | 164=>282 | 5=>5 | 80=>219 | n=>n,fun | n=>n⟩
theorem Tryz.lays156:Go.Proofs.Lays.n156 Tryz.prog Tryz.lays156_ren:={
 mixed:=by kernel_rfl
 f156:=Tryz.func152.trans (congrArg some (by kernel_rfl))
 f165:=Tryz.func177.trans (congrArg some (by kernel_rfl))
 f166:=Tryz.func178.trans (congrArg some (by kernel_rfl))
 f169:=Tryz.func179.trans (congrArg some (by kernel_rfl))
 f240:=Tryz.func195.trans (congrArg some (by kernel_rfl))
 f241:=Tryz.func196.trans (congrArg some (by kernel_rfl))
 f276:=Tryz.func218.trans (congrArg some (by kernel_rfl))
 f277:=Tryz.func219.trans (congrArg some (by kernel_rfl))
 t0:=Tryz.underlying0
 a0:=Tryz.isAgg0
 z0:=Tryz.sizeOf0
 v0:=Tryz.zeroValue0
 t3:=Tryz.underlying3
 a3:=Tryz.isAgg3
 z3:=Tryz.sizeOf3
 v3:=Tryz.zeroValue3
 t4:=Tryz.underlying4
 a4:=Tryz.isAgg4
 z4:=Tryz.sizeOf4
 v4:=Tryz.zeroValue4
 t9:=Tryz.underlying9
 a9:=Tryz.isAgg9
 z9:=Tryz.sizeOf9
 v9:=Tryz.zeroValue9
 t20:=Tryz.underlying20
 a20:=Tryz.isAgg20
 z20:=Tryz.sizeOf20
 v20:=Tryz.zeroValue20
 t31:=Tryz.underlying155
 a31:=Tryz.isAgg155
 z31:=Tryz.sizeOf155
 v31:=Tryz.zeroValue155
 t37:=Tryz.underlying242
 a37:=Tryz.isAgg242
 z37:=Tryz.sizeOf242
 v37:=Tryz.zeroValue242
 t70:=Tryz.underlying241
 a70:=Tryz.isAgg241
 z70:=Tryz.sizeOf241
 v70:=Tryz.zeroValue241
 t72:=Tryz.underlying244
 a72:=Tryz.isAgg244
 z72:=Tryz.sizeOf244
 v72:=Tryz.zeroValue244
 t75:=Tryz.underlying247
 a75:=Tryz.isAgg247
 z75:=Tryz.sizeOf247
 v75:=Tryz.zeroValue247
 t76:=Tryz.underlying248
 a76:=Tryz.isAgg248
 z76:=Tryz.sizeOf248
 v76:=Tryz.zeroValue248
 t127:=Tryz.underlying271
 a127:=Tryz.isAgg271
 z127:=Tryz.sizeOf271
 v127:=Tryz.zeroValue271
 t164:=Tryz.underlying282
 a164:=Tryz.isAgg282
 z164:=Tryz.sizeOf282
 v164:=Tryz.zeroValue282 }
theorem Tryz.Builder_Extra_156:Builder.Extra Tryz.prog Tryz.lays156_ren:={
 sizeBuilder:=by kernel_rfl
 liesBuilder:=by kernel_rfl
 t5:=Tryz.underlying5
 a5:=Tryz.isAgg5
 z5:=Tryz.sizeOf5
 v5:=Tryz.zeroValue5
 infoByte:=by kernel_rfl
 cellsByte:=by kernel_rfl
 sizeByte:=by kernel_rfl
 neB5:=by decide }
open Go.RowKit in
theorem Tryz.strings_Join_none (a : Option Addr) (c : Nat) (sep : ByteArray) (w : World) :
   Calls Tryz.prog 152 #[.slice a 0 c,.string sep] w fun e w'=>e = .returned (.string ⟨#[]⟩) ∧ w'=w:=Any.strings_Join_none Tryz.lays156 Tryz.Builder_Extra_156 a c sep w
open Go.RowKit in
theorem Tryz.strings_Join (bk o c : Nat) (xs : List ByteArray) (sep : ByteArray) (w : World) (hcells : ∀ (j : Nat) x, xs[j]? = some x → w.cell? ⟨bk, o + j, none⟩ = some (.string x)) (hbk : bk < w.heap.size) (hN : xs.length ≤ 140737488355328) (hcap : xs.length ≤ c) (hlen : (Lib.join (xs.map (·.data.toList)) sep.data.toList).length ≤ 140737488355328) :
   Calls Tryz.prog 152 #[.slice (some ⟨bk,o,none⟩) xs.length c,.string sep] w fun e w'=>e = .returned (.string ⟨(Lib.join (xs.map (·.data.toList)) sep.data.toList).toArray⟩) ∧ Below w.heap.size w w':=Any.strings_Join Tryz.lays156 Tryz.Builder_Extra_156 bk o c xs sep w hcells hbk hN hcap hlen
end Go.Proofs
namespace Go.Proofs.YtkongcnmkiihjaaGreatDoor
section
open Go Go.Ab Go.Proofs
def cAt:Code → Nat → Code
 | .seq a _,0=>a
 | .seq _ b,i + 1=>cAt b i
 | c,_=>c
def cFrom:Code → Nat → Code
 | c,0=>c
 | .seq _ b,i + 1=>cFrom b i
 | c,_=>c
def bodyOf (f:Func):Code:=match f.body with
 | some c=>c
 | none=>.skip
def orc0:Oracle:=fun _ _ _ _=>none
theorem orc0Ok:OracleOk Tryz.prog orc0:=fun _ _ _ _ _ _ _ h=>by cases h
def rvA0:List Value:=[.slice (some ⟨1281,0,none⟩) 2 2,.agg #[.int .i64 (0),.int .i64 (0)],.int .i64 (1)]
def rvH0:Heap:=[(1283,.cells [.int .i64 (0),.int .i64 (0)] 45),(1282,.cells [.int .i64 (1),.int .i64 (0)] 45),(1281,.cells [.slice (some ⟨1279,0,none⟩) 2 2,.slice (some ⟨1280,0,none⟩) 2 2] 24),(1280,.cells [.int .i64 (921),.int .i64 (921)] 3),(1279,.cells [.int .i64 (512),.int .i64 (0)] 3),(1,.inp 0 [.int .i64 (-100000),.int .i64 (100000),.int .i64 (-100000),.int .i64 (100000),.int .i64 (-100000),.int .i64 (100000),.int .i64 (-100000),.int .i64 (100000),.int .i64 (0),.int .i64 (100000),.int .i64 (-999999999),.int .i64 (999999999),.int .i64 (-999999999),.int .i64 (999999999),.int .i64 (-999999999),.int .i64 (999999999)]),(0,.inp 0 [.int .i64 (16),.int .i64 (16)])]
def rvN0:Nat:=1299
def rvT0:St:={ fr:=[(6,.slice (some ⟨1299,0,some 0⟩) 1 0)],sz:=117,H:=[(1299,.ext [.slice (some ⟨1300,0,some 0⟩) 2 0,.int .i64 (1433),.slice (some ⟨1301,0,some 0⟩) 2 0,.int .i64 (921)] 179 2),(1300,.ext [.int .i64 (0),.int .i64 (0)] 3 1),(1301,.ext [.int .i64 (1),.int .i64 (1)] 3 1),(1283,.cells [.int .i64 (0),.int .i64 (0)] 45),(1282,.cells [.int .i64 (1),.int .i64 (0)] 45),(1281,.cells [.slice (some ⟨1279,0,none⟩) 2 2,.slice (some ⟨1280,0,none⟩) 2 2] 24),(1280,.cells [.int .i64 (921),.int .i64 (921)] 3),(1279,.cells [.int .i64 (512),.int .i64 (0)] 3),(1,.inp 0 [.int .i64 (-100000),.int .i64 (100000),.int .i64 (-100000),.int .i64 (100000),.int .i64 (-100000),.int .i64 (100000),.int .i64 (-100000),.int .i64 (100000),.int .i64 (0),.int .i64 (100000),.int .i64 (-999999999),.int .i64 (999999999),.int .i64 (-999999999),.int .i64 (999999999),.int .i64 (-999999999),.int .i64 (999999999)]),(0,.inp 0 [.int .i64 (16),.int .i64 (16)])],n:=1302,marks:=[],vs:=[6,20,18,108,106,2,13,17,11,72,75,73,74,15,71,14,12,4,63,61,53,56,54,55,46,10,9,8,7,27,30,28,29,0,1] }
def rvV0:Value:=.slice (some ⟨1299,0,some 0⟩) 1 0
def rvHp0:Heap:=[(1299,.ext [.slice (some ⟨1300,0,some 0⟩) 2 0,.int .i64 (1433),.slice (some ⟨1301,0,some 0⟩) 2 0,.int .i64 (921)] 179 2),(1300,.ext [.int .i64 (0),.int .i64 (0)] 3 1),(1301,.ext [.int .i64 (1),.int .i64 (1)] 3 1),(1283,.cells [.int .i64 (0),.int .i64 (0)] 45),(1282,.cells [.int .i64 (1),.int .i64 (0)] 45),(1281,.cells [.slice (some ⟨1279,0,none⟩) 2 2,.slice (some ⟨1280,0,none⟩) 2 2] 24),(1280,.cells [.int .i64 (921),.int .i64 (921)] 3),(1279,.cells [.int .i64 (512),.int .i64 (0)] 3),(1,.inp 0 [.int .i64 (-100000),.int .i64 (100000),.int .i64 (-100000),.int .i64 (100000),.int .i64 (-100000),.int .i64 (100000),.int .i64 (-100000),.int .i64 (100000),.int .i64 (0),.int .i64 (100000),.int .i64 (-999999999),.int .i64 (999999999),.int .i64 (-999999999),.int .i64 (999999999),.int .i64 (-999999999),.int .i64 (999999999)]),(0,.inp 0 [.int .i64 (16),.int .i64 (16)])]
def rvNp0:Nat:=1302
def rvS0:St:={ fr:=argsFr rvA0 0,sz:=117,H:=rvH0,n:=rvN0,marks:=[],vs:=rvT0.vs }
theorem rvB0:(match evN Tryz.prog (ev Tryz.prog orc0 100000) none 300 (bodyOf Tryz.f113) rvS0 with | some L=>joinB rvN0 rvT0 L | none=>false)=true:=by kernel_rfl
theorem rvL0:leaveF Tryz.prog Tryz.f113 rvA0 rvN0 rvT0=some (rvV0,rvHp0,rvNp0):=by kernel_rfl
theorem rvAC0:AC Tryz.prog 113 rvA0 rvH0 rvN0 rvV0 rvHp0 rvNp0:=by
 have h:=rvB0
 split at h
 · rename_i L hL
   have hN:=(evN_ok (ev_sound mixed orc0Ok 100000) none 300).1 _ _ _ hL
   exact bodyAT_ok (fn:=Tryz.f113) (c:=bodyOf Tryz.f113) (by kernel_rfl) (by kernel_rfl) (by kernel_rfl) (by decide) (.inr rfl) (vs:=rvT0.vs) (hN.join (joinB_ok h)) rvL0
 · cases h
def rvA1:List Value:=[.slice (some ⟨1281,0,none⟩) 2 2,.agg #[.int .i64 (1),.int .i64 (0)],.int .i64 (3)]
def rvH1:Heap:=[(1319,.cells [.int .i64 (0),.int .i64 (0)] 29),(1303,.cells [.int .i64 (1),.int .i64 (0)] 45),(1300,.ext [.int .i64 (0),.int .i64 (0)] 3 1),(1282,.cells [.int .i64 (1),.int .i64 (0)] 45),(1281,.cells [.slice (some ⟨1279,0,none⟩) 2 2,.slice (some ⟨1280,0,none⟩) 2 2] 24),(1280,.cells [.int .i64 (921),.int .i64 (921)] 3),(1279,.cells [.int .i64 (512),.int .i64 (0)] 3),(1,.inp 0 [.int .i64 (-100000),.int .i64 (100000),.int .i64 (-100000),.int .i64 (100000),.int .i64 (-100000),.int .i64 (100000),.int .i64 (-100000),.int .i64 (100000),.int .i64 (0),.int .i64 (100000),.int .i64 (-999999999),.int .i64 (999999999),.int .i64 (-999999999),.int .i64 (999999999),.int .i64 (-999999999),.int .i64 (999999999)]),(0,.inp 0 [.int .i64 (16),.int .i64 (16)])]
def rvN1:Nat:=1320
def rvT1:St:={ fr:=[(6,.slice (some ⟨1320,0,some 0⟩) 3 0)],sz:=117,H:=[(1320,.ext [.slice (some ⟨1321,0,some 0⟩) 2 0,.int .i64 (1433),.slice (some ⟨1322,0,some 0⟩) 2 0,.int .i64 (1433),.slice (some ⟨1323,0,some 0⟩) 2 0,.int .i64 (921)] 179 2),(1321,.ext [.int .i64 (0),.int .i64 (0)] 3 1),(1322,.ext [.int .i64 (0),.int .i64 (1)] 3 1),(1323,.ext [.int .i64 (1),.int .i64 (1)] 3 1),(1319,.cells [.int .i64 (0),.int .i64 (0)] 29),(1303,.cells [.int .i64 (1),.int .i64 (0)] 45),(1300,.ext [.int .i64 (0),.int .i64 (0)] 3 1),(1282,.cells [.int .i64 (1),.int .i64 (0)] 45),(1281,.cells [.slice (some ⟨1279,0,none⟩) 2 2,.slice (some ⟨1280,0,none⟩) 2 2] 24),(1280,.cells [.int .i64 (921),.int .i64 (921)] 3),(1279,.cells [.int .i64 (512),.int .i64 (0)] 3),(1,.inp 0 [.int .i64 (-100000),.int .i64 (100000),.int .i64 (-100000),.int .i64 (100000),.int .i64 (-100000),.int .i64 (100000),.int .i64 (-100000),.int .i64 (100000),.int .i64 (0),.int .i64 (100000),.int .i64 (-999999999),.int .i64 (999999999),.int .i64 (-999999999),.int .i64 (999999999),.int .i64 (-999999999),.int .i64 (999999999)]),(0,.inp 0 [.int .i64 (16),.int .i64 (16)])],n:=1324,marks:=[],vs:=[6,20,18,108,106,2,13,17,11,72,75,73,74,15,71,14,12,4,63,61,53,56,54,55,46,10,9,8,7,27,30,28,29,0,1] }
def rvV1:Value:=.slice (some ⟨1320,0,some 0⟩) 3 0
def rvHp1:Heap:=[(1320,.ext [.slice (some ⟨1321,0,some 0⟩) 2 0,.int .i64 (1433),.slice (some ⟨1322,0,some 0⟩) 2 0,.int .i64 (1433),.slice (some ⟨1323,0,some 0⟩) 2 0,.int .i64 (921)] 179 2),(1321,.ext [.int .i64 (0),.int .i64 (0)] 3 1),(1322,.ext [.int .i64 (0),.int .i64 (1)] 3 1),(1323,.ext [.int .i64 (1),.int .i64 (1)] 3 1),(1319,.cells [.int .i64 (0),.int .i64 (0)] 29),(1303,.cells [.int .i64 (1),.int .i64 (0)] 45),(1300,.ext [.int .i64 (0),.int .i64 (0)] 3 1),(1282,.cells [.int .i64 (1),.int .i64 (0)] 45),(1281,.cells [.slice (some ⟨1279,0,none⟩) 2 2,.slice (some ⟨1280,0,none⟩) 2 2] 24),(1280,.cells [.int .i64 (921),.int .i64 (921)] 3),(1279,.cells [.int .i64 (512),.int .i64 (0)] 3),(1,.inp 0 [.int .i64 (-100000),.int .i64 (100000),.int .i64 (-100000),.int .i64 (100000),.int .i64 (-100000),.int .i64 (100000),.int .i64 (-100000),.int .i64 (100000),.int .i64 (0),.int .i64 (100000),.int .i64 (-999999999),.int .i64 (999999999),.int .i64 (-999999999),.int .i64 (999999999),.int .i64 (-999999999),.int .i64 (999999999)]),(0,.inp 0 [.int .i64 (16),.int .i64 (16)])]
def rvNp1:Nat:=1324
def rvS1:St:={ fr:=argsFr rvA1 0,sz:=117,H:=rvH1,n:=rvN1,marks:=[],vs:=rvT1.vs }
theorem rvB1:(match evN Tryz.prog (ev Tryz.prog orc0 100000) none 300 (bodyOf Tryz.f113) rvS1 with | some L=>joinB rvN1 rvT1 L | none=>false)=true:=by kernel_rfl
theorem rvL1:leaveF Tryz.prog Tryz.f113 rvA1 rvN1 rvT1=some (rvV1,rvHp1,rvNp1):=by kernel_rfl
theorem rvAC1:AC Tryz.prog 113 rvA1 rvH1 rvN1 rvV1 rvHp1 rvNp1:=by
 have h:=rvB1
 split at h
 · rename_i L hL
   have hN:=(evN_ok (ev_sound mixed orc0Ok 100000) none 300).1 _ _ _ hL
   exact bodyAT_ok (fn:=Tryz.f113) (c:=bodyOf Tryz.f113) (by kernel_rfl) (by kernel_rfl) (by kernel_rfl) (by decide) (.inr rfl) (vs:=rvT1.vs) (hN.join (joinB_ok h)) rvL1
 · cases h
end
section
open Go Go.Ab Go.Proofs Go.RowKit
def strsA:List Value → Option (List ByteArray)
 | []=>some []
 | .string s :: t=>(strsA t).map (s :: ·)
 | _=>none
theorem strsA_ok:∀ (cs:List Value) (xs:List ByteArray),strsA cs=some xs → cs=xs.map .string
 | [],xs,h=>by simp [strsA] at h; subst h; rfl
 | c :: cs,xs,h=>by
   cases c <;> simp [strsA] at h
   obtain ⟨ys,hy,h⟩:=h
   subst h
   rw [strsA_ok cs ys hy]
   rfl
def joinV (xs:List ByteArray) (sep:ByteArray):List UInt8:=Lib.join (xs.map (·.data.toList)) sep.data.toList
def roomy (H:Heap) (a:Addr) (n c:Nat):Bool:=match a.spot with
 | none=>Nat.ble n c
 | some j=>Nat.beq j 0 && Nat.beq c 0 && (match hget H a.block with
   | some (.ext _ _ z)=>Nat.beq z 1
   | some (.row _ z)=>Nat.beq z 1
   | _=>false)
def orcJ (H:Heap) (a:Addr) (n c:Nat) (sep:ByteArray):Option Value:=
 match roomy H a n c with
 | false=>none
 | true=>match (cellsA H a.block a.off n).bind strsA with
   | none=>none
   | some xs=>match Nat.ble (joinV xs sep).length 140737488355328 && Nat.ble n 140737488355328 with
     | true=>some (.string ⟨(joinV xs sep).toArray⟩)
     | false=>none
def orcV (f:FuncId) (args:List Value) (H:Heap):Option Value:=match Nat.beq f 152 with
 | true=>(match args with
   | [.slice none 0 _,.string _]=>some (.string ⟨#[]⟩)
   | [.slice (some a) n c,.string sep]=>orcJ H a n c sep
   | _=>none)
 | false=>none
def orcJn:Oracle:=fun f args H k=>match orcV f args H with
 | some v=>some (v,H,k)
 | none=>none
theorem roomy_ok {P : Program} {φ : Vl} {H : Heap} {w : World} (hr : HRel P φ (hget H) w) {a : Addr} {n c : Nat} {cs : List Value} (h : roomy H a n c = true) (hc : cellsA H a.block a.off n = some cs) :
   ∃ c',den φ (.slice (some a) n c) = .slice (some ⟨φ.loc a.block,a.off,none⟩) n c' ∧ n ≤ c':=by
 obtain ⟨b,o,s⟩:=a
 unfold roomy at h
 cases s with
 | none=>exact ⟨c,by simp [den],Nat.le_of_ble_eq_true h⟩
 | some j=>
   simp only [Bool.and_eq_true] at h
   have hj:=Nat.eq_of_beq_eq_true h.1.1
   have hc0:=Nat.eq_of_beq_eq_true h.1.2
   subst hj hc0
   refine ⟨φ.cap b,by simp [den],?_⟩
   have h2:=h.2
   have hc:cellsA H b o n=some cs:=hc
   unfold cellsA at hc
   split at h2
   · rename_i xs t z hb
     have hz:=Nat.eq_of_beq_eq_true h2
     subst hz
     obtain ⟨d,_,e2,e3,_⟩:=hr.blk b _ hb
     have hb:hget H b=some (.ext xs t 1):=hb
     rw [hb] at hc
     simp only at hc
     split at hc
     · have:=congrArg List.length e2
       simp at this e3
       omega
     · cases hc
   · rename_i xs z hb
     have hz:=Nat.eq_of_beq_eq_true h2
     subst hz
     obtain ⟨d,_,_,_,e2,e3,_⟩:=hr.blk b _ hb
     have hb:hget H b=some (.row xs 1):=hb
     rw [hb] at hc
     simp only at hc
     split at hc
     · have:=congrArg List.length e2
       simp at this e3
       omega
     · cases hc
   · cases h2
theorem orcJOk:OracleOk Tryz.prog orcJn:=by
 intro f args H n v H' n' h0
 unfold orcJn at h0
 split at h0
 case h_2=>cases h0
 rename_i v0 h
 injection h0 with h0; injection h0 with e1 e2; injection e2 with e2 e3; subst e1 e2 e3
 unfold orcV at h
 split at h
 · rename_i hf
   have hf:=Nat.eq_of_beq_eq_true hf
   subst hf
   split at h
   · rename_i c sep
     injection h with h
     subst h
     refine AC.of_calls (by kernel_rfl) rfl fun p φ w hB hsc=>?_
     rw [show (denL φ [.slice none 0 c,.string sep]).toArray=#[.slice none 0 c,.string sep] by simp [denL,den]]
     exact (Tryz.strings_Join_none none c sep w).mono fun e w' hh=>⟨hh.1,hh.2 ▸ Below.refl _ _⟩
   · rename_i a k c sep
     unfold orcJ at h
     split at h
     · cases h
     · rename_i hroom
       split at h
       · cases h
       · rename_i xs hxs
         split at h
         · rename_i hlen
           rw [Bool.and_eq_true] at hlen
           injection h with h
           subst h
           rw [Option.bind_eq_some_iff] at hxs
           obtain ⟨cs,hcs,hxs⟩:=hxs
           have hmap:=strsA_ok _ _ hxs
           obtain ⟨hl,hat⟩:=cellsA_at hcs
           have hk:xs.length=k:=by rw [← hl,hmap]; simp
           refine AC.of_calls (by kernel_rfl) rfl fun p φ w hB hsc=>?_
           obtain ⟨c',hden,hle⟩:=roomy_ok hB.rel hroom hcs
           rw [show (denL φ [.slice (some a) k c,.string sep]).toArray=#[.slice (some ⟨φ.loc a.block,a.off,none⟩) xs.length c',.string sep] by rw [denL,hden,hk]; simp [denL,den]]
           have hcells:∀ (j:Nat) x,xs[j]? = some x → w.cell? ⟨φ.loc a.block,a.off + j,none⟩=some (.string x):=fun j x hx=>by
             have hjl:j < k:=by rw [← hk]; exact (List.getElem?_eq_some_iff.1 hx).1
             have h1:cellA H a.block (a.off + j)=some (.string x):=by rw [hat j hjl,hmap]; simp [hx]
             have:=(cellA_ok hB.rel hB.sm h1).1
             simpa [den] using this
           have hblk:∃ b,hget H a.block=some b:=by
             cases hg:hget H a.block with
             | some b=>exact ⟨b,rfl⟩
             | none=>unfold cellsA at hcs; rw [hg] at hcs; cases hcs
           obtain ⟨b,hb⟩:=hblk
           exact Tryz.strings_Join (φ.loc a.block) a.off c' xs sep w hcells (hB.rel.lt hb) (by rw [hk]; exact Nat.le_of_ble_eq_true hlen.2) (by rw [hk]; exact hle) (Nat.le_of_ble_eq_true hlen.1)
         · cases h
   · cases h
 · cases h
def atB (args:List Value) (H:Heap) (n:Nat) (A:List Value) (G:Heap) (m:Nat):Bool:=Nat.beq n m && beqL args A && beqH H G
def orcR (args:List Value) (H:Heap) (n:Nat):R:=
 match atB args H n rvA0 rvH0 rvN0 with
 | true=>some (rvV0,rvHp0,rvNp0)
 | false => 
   match atB args H n rvA1 rvH1 rvN1 with
   | true=>some (rvV1,rvHp1,rvNp1)
   | false=>none
theorem atB_eq {args A:List Value} {H G:Heap} {n m:Nat} (h:atB args H n A G m=true):args=A ∧ H=G ∧ n=m:=by
 simp only [atB,Bool.and_eq_true] at h
 exact ⟨beqL_eq _ _ h.1.2,beqH_eq _ _ h.2,Nat.eq_of_beq_eq_true h.1.1⟩
theorem orcR_ok {args:List Value} {H:Heap} {n:Nat} {v:Value} {H':Heap} {n':Nat} (h:orcR args H n=some (v,H',n')):AC Tryz.prog 113 args H n v H' n':=by
 unfold orcR at h
 split at h
 · rename_i hc
   obtain ⟨rfl,rfl,rfl⟩:=atB_eq hc
   injection h with h; injection h with e1 e2; injection e2 with e2 e3; subst e1 e2 e3
   exact rvAC0
 · skip
   split at h
   · rename_i hc
     obtain ⟨rfl,rfl,rfl⟩:=atB_eq hc
     injection h with h; injection h with e1 e2; injection e2 with e2 e3; subst e1 e2 e3
     exact rvAC1
   · cases h
def orc:Oracle:=fun f args H k=>match Nat.beq f 160 with
 | true=>g160 args H k
 | false=>match Nat.beq f 113 with
   | true=>orcR args H k
   | false=>orcJn f args H k
theorem orcOk:OracleOk Tryz.prog orc:=by
 intro f args H n v H' n' h
 unfold orc at h
 split at h
 · rename_i hf
   rw [Nat.eq_of_beq_eq_true hf]
   exact ok160 args H n v H' n' h
 · split at h
   · rename_i hf
     rw [Nat.eq_of_beq_eq_true hf]
     exact orcR_ok h
   · exact orcJOk f args H n v H' n' h
end
section
open Go Go.Ab Go.Proofs
def st0:St:={ fr:=[],sz:=362,H:=[(1,.inp 0 [.int .i64 (-100000),.int .i64 (100000),.int .i64 (-100000),.int .i64 (100000),.int .i64 (-100000),.int .i64 (100000),.int .i64 (-100000),.int .i64 (100000),.int .i64 (0),.int .i64 (100000),.int .i64 (-999999999),.int .i64 (999999999),.int .i64 (-999999999),.int .i64 (999999999),.int .i64 (-999999999),.int .i64 (999999999)]),(0,.inp 0 [.int .i64 (16),.int .i64 (16)])],n:=9,marks:=[],vs:=[] }
def st1:St:={ fr:=[(0,.bool false)],sz:=362,H:=[(1,.inp 0 [.int .i64 (-100000),.int .i64 (100000),.int .i64 (-100000),.int .i64 (100000),.int .i64 (-100000),.int .i64 (100000),.int .i64 (-100000),.int .i64 (100000),.int .i64 (0),.int .i64 (100000),.int .i64 (-999999999),.int .i64 (999999999),.int .i64 (-999999999),.int .i64 (999999999),.int .i64 (-999999999),.int .i64 (999999999)]),(0,.inp 0 [.int .i64 (16),.int .i64 (16)])],n:=9,marks:=[],vs:=[] }
def st2:St:={ fr:=[(1,.int .i64 (5)),(2,.int .i64 (0)),(0,.bool false)],sz:=362,H:=[(1,.inp 0 [.int .i64 (-100000),.int .i64 (100000),.int .i64 (-100000),.int .i64 (100000),.int .i64 (-100000),.int .i64 (100000),.int .i64 (-100000),.int .i64 (100000),.int .i64 (0),.int .i64 (100000),.int .i64 (-999999999),.int .i64 (999999999),.int .i64 (-999999999),.int .i64 (999999999),.int .i64 (-999999999),.int .i64 (999999999)]),(0,.inp 0 [.int .i64 (16),.int .i64 (16)])],n:=10,marks:=[],vs:=[] }
def st3:St:={ fr:=[(3,.int .i64 (4)),(1,.int .i64 (5)),(4,.int .i64 (0)),(2,.int .i64 (0)),(0,.bool false)],sz:=362,H:=[(1,.inp 0 [.int .i64 (-100000),.int .i64 (100000),.int .i64 (-100000),.int .i64 (100000),.int .i64 (-100000),.int .i64 (100000),.int .i64 (-100000),.int .i64 (100000),.int .i64 (0),.int .i64 (100000),.int .i64 (-999999999),.int .i64 (999999999),.int .i64 (-999999999),.int .i64 (999999999),.int .i64 (-999999999),.int .i64 (999999999)]),(0,.inp 0 [.int .i64 (16),.int .i64 (16)])],n:=11,marks:=[],vs:=[] }
def st4:St:={ fr:=[(5,.int .i64 (1)),(3,.int .i64 (4)),(1,.int .i64 (5)),(6,.int .i64 (0)),(4,.int .i64 (0)),(2,.int .i64 (0)),(0,.bool false)],sz:=362,H:=[(1,.inp 0 [.int .i64 (-100000),.int .i64 (100000),.int .i64 (-100000),.int .i64 (100000),.int .i64 (-100000),.int .i64 (100000),.int .i64 (-100000),.int .i64 (100000),.int .i64 (0),.int .i64 (100000),.int .i64 (-999999999),.int .i64 (999999999),.int .i64 (-999999999),.int .i64 (999999999),.int .i64 (-999999999),.int .i64 (999999999)]),(0,.inp 0 [.int .i64 (16),.int .i64 (16)])],n:=12,marks:=[],vs:=[] }
def st5:St:={ fr:=[(7,.pointer (some ⟨263,0,none⟩)),(5,.int .i64 (1)),(3,.int .i64 (4)),(1,.int .i64 (5)),(8,.int .i64 (0)),(6,.int .i64 (0)),(4,.int .i64 (0)),(2,.int .i64 (0)),(0,.bool false)],sz:=362,H:=[(263,.cells [.string ⟨#[103]⟩,.slice (some ⟨91,0,none⟩) 3 3] 110),(94,.cells [.float .f32 1090519040,.float .f32 1090519040,.float .f32 1090519040,.float .f32 0] 145),(93,.cells [.float .f32 0,.float .f32 0,.float .f32 1082130432,.float .f32 0] 145),(91,.cells [.int .i64 (0),.int .i64 (0),.int .i64 (0),.int .i64 (0),.int .i64 (0),.int .i64 (0),.int .i64 (0),.int .i64 (0),.bool false,.slice (some ⟨93,0,none⟩) 4 4,.int .i64 (0),.int .i64 (0),.int .i64 (2),.int .i64 (0),.int .i64 (0),.int .i64 (0),.int .i64 (0),.int .i64 (0),.bool false,.slice (some ⟨94,0,none⟩) 4 4,.int .i64 (0),.int .i64 (0),.int .i64 (0),.int .i64 (0),.int .i64 (0),.int .i64 (0),.int .i64 (0),.int .i64 (0),.bool true,.slice none 0 0] 159),(1,.inp 0 [.int .i64 (-100000),.int .i64 (100000),.int .i64 (-100000),.int .i64 (100000),.int .i64 (-100000),.int .i64 (100000),.int .i64 (-100000),.int .i64 (100000),.int .i64 (0),.int .i64 (100000),.int .i64 (-999999999),.int .i64 (999999999),.int .i64 (-999999999),.int .i64 (999999999),.int .i64 (-999999999),.int .i64 (999999999)]),(0,.inp 0 [.int .i64 (16),.int .i64 (16)])],n:=264,marks:=[],vs:=[] }
def st6:St:={ fr:=[(9,.pointer (some ⟨515,0,none⟩)),(7,.pointer (some ⟨263,0,none⟩)),(5,.int .i64 (1)),(3,.int .i64 (4)),(1,.int .i64 (5)),(10,.int .i64 (0)),(8,.int .i64 (0)),(6,.int .i64 (0)),(4,.int .i64 (0)),(2,.int .i64 (0)),(0,.bool false)],sz:=362,H:=[(515,.cells [.string ⟨#[103]⟩,.slice (some ⟨343,0,none⟩) 3 3] 110),(346,.cells [.float .f32 0,.float .f32 0,.float .f32 1090519040,.float .f32 0] 145),(345,.cells [.float .f32 0,.float .f32 0,.float .f32 1082130432,.float .f32 0] 145),(343,.cells [.int .i64 (0),.int .i64 (0),.int .i64 (0),.int .i64 (0),.int .i64 (0),.int .i64 (0),.int .i64 (0),.int .i64 (0),.bool false,.slice (some ⟨345,0,none⟩) 4 4,.int .i64 (0),.int .i64 (0),.int .i64 (2),.int .i64 (0),.int .i64 (0),.int .i64 (0),.int .i64 (0),.int .i64 (0),.bool false,.slice (some ⟨346,0,none⟩) 4 4,.int .i64 (0),.int .i64 (0),.int .i64 (0),.int .i64 (0),.int .i64 (0),.int .i64 (0),.int .i64 (0),.int .i64 (0),.bool true,.slice none 0 0] 159),(263,.cells [.string ⟨#[103]⟩,.slice (some ⟨91,0,none⟩) 3 3] 110),(94,.cells [.float .f32 1090519040,.float .f32 1090519040,.float .f32 1090519040,.float .f32 0] 145),(93,.cells [.float .f32 0,.float .f32 0,.float .f32 1082130432,.float .f32 0] 145),(91,.cells [.int .i64 (0),.int .i64 (0),.int .i64 (0),.int .i64 (0),.int .i64 (0),.int .i64 (0),.int .i64 (0),.int .i64 (0),.bool false,.slice (some ⟨93,0,none⟩) 4 4,.int .i64 (0),.int .i64 (0),.int .i64 (2),.int .i64 (0),.int .i64 (0),.int .i64 (0),.int .i64 (0),.int .i64 (0),.bool false,.slice (some ⟨94,0,none⟩) 4 4,.int .i64 (0),.int .i64 (0),.int .i64 (0),.int .i64 (0),.int .i64 (0),.int .i64 (0),.int .i64 (0),.int .i64 (0),.bool true,.slice none 0 0] 159),(1,.inp 0 [.int .i64 (-100000),.int .i64 (100000),.int .i64 (-100000),.int .i64 (100000),.int .i64 (-100000),.int .i64 (100000),.int .i64 (-100000),.int .i64 (100000),.int .i64 (0),.int .i64 (100000),.int .i64 (-999999999),.int .i64 (999999999),.int .i64 (-999999999),.int .i64 (999999999),.int .i64 (-999999999),.int .i64 (999999999)]),(0,.inp 0 [.int .i64 (16),.int .i64 (16)])],n:=516,marks:=[],vs:=[] }
def st7:St:={ fr:=[(11,.slice (some ⟨620,0,some 0⟩) 1 0),(9,.pointer (some ⟨515,0,none⟩)),(7,.pointer (some ⟨263,0,none⟩)),(5,.int .i64 (1)),(3,.int .i64 (4)),(1,.int .i64 (5)),(12,.int .i64 (0)),(10,.int .i64 (0)),(8,.int .i64 (0)),(6,.int .i64 (0)),(4,.int .i64 (0)),(2,.int .i64 (0)),(0,.bool false)],sz:=362,H:=[(620,.ext [.int .i64 (0)] 3 1),(515,.cells [.string ⟨#[103]⟩,.slice (some ⟨343,0,none⟩) 3 3] 110),(346,.cells [.float .f32 0,.float .f32 0,.float .f32 1090519040,.float .f32 0] 145),(345,.cells [.float .f32 0,.float .f32 0,.float .f32 1082130432,.float .f32 0] 145),(343,.cells [.int .i64 (0),.int .i64 (0),.int .i64 (0),.int .i64 (0),.int .i64 (0),.int .i64 (0),.int .i64 (0),.int .i64 (0),.bool false,.slice (some ⟨345,0,none⟩) 4 4,.int .i64 (0),.int .i64 (0),.int .i64 (2),.int .i64 (0),.int .i64 (0),.int .i64 (0),.int .i64 (0),.int .i64 (0),.bool false,.slice (some ⟨346,0,none⟩) 4 4,.int .i64 (0),.int .i64 (0),.int .i64 (0),.int .i64 (0),.int .i64 (0),.int .i64 (0),.int .i64 (0),.int .i64 (0),.bool true,.slice none 0 0] 159),(263,.cells [.string ⟨#[103]⟩,.slice (some ⟨91,0,none⟩) 3 3] 110),(94,.cells [.float .f32 1090519040,.float .f32 1090519040,.float .f32 1090519040,.float .f32 0] 145),(93,.cells [.float .f32 0,.float .f32 0,.float .f32 1082130432,.float .f32 0] 145),(91,.cells [.int .i64 (0),.int .i64 (0),.int .i64 (0),.int .i64 (0),.int .i64 (0),.int .i64 (0),.int .i64 (0),.int .i64 (0),.bool false,.slice (some ⟨93,0,none⟩) 4 4,.int .i64 (0),.int .i64 (0),.int .i64 (2),.int .i64 (0),.int .i64 (0),.int .i64 (0),.int .i64 (0),.int .i64 (0),.bool false,.slice (some ⟨94,0,none⟩) 4 4,.int .i64 (0),.int .i64 (0),.int .i64 (0),.int .i64 (0),.int .i64 (0),.int .i64 (0),.int .i64 (0),.int .i64 (0),.bool true,.slice none 0 0] 159),(1,.inp 0 [.int .i64 (-100000),.int .i64 (100000),.int .i64 (-100000),.int .i64 (100000),.int .i64 (-100000),.int .i64 (100000),.int .i64 (-100000),.int .i64 (100000),.int .i64 (0),.int .i64 (100000),.int .i64 (-999999999),.int .i64 (999999999),.int .i64 (-999999999),.int .i64 (999999999),.int .i64 (-999999999),.int .i64 (999999999)]),(0,.inp 0 [.int .i64 (16),.int .i64 (16)])],n:=639,marks:=[],vs:=[] }
def st8:St:={ fr:=[(13,.pointer (some ⟨766,0,none⟩)),(11,.slice (some ⟨620,0,some 0⟩) 1 0),(9,.pointer (some ⟨515,0,none⟩)),(7,.pointer (some ⟨263,0,none⟩)),(5,.int .i64 (1)),(3,.int .i64 (4)),(1,.int .i64 (5)),(14,.int .i64 (0)),(12,.int .i64 (0)),(10,.int .i64 (0)),(8,.int .i64 (0)),(6,.int .i64 (0)),(4,.int .i64 (0)),(2,.int .i64 (0)),(0,.bool false)],sz:=362,H:=[(766,.cells [.int .i64 (9),.int .i64 (10)] 96),(620,.ext [.int .i64 (0)] 3 1),(515,.cells [.string ⟨#[103]⟩,.slice (some ⟨343,0,none⟩) 3 3] 110),(346,.cells [.float .f32 0,.float .f32 0,.float .f32 1090519040,.float .f32 0] 145),(345,.cells [.float .f32 0,.float .f32 0,.float .f32 1082130432,.float .f32 0] 145),(343,.cells [.int .i64 (0),.int .i64 (0),.int .i64 (0),.int .i64 (0),.int .i64 (0),.int .i64 (0),.int .i64 (0),.int .i64 (0),.bool false,.slice (some ⟨345,0,none⟩) 4 4,.int .i64 (0),.int .i64 (0),.int .i64 (2),.int .i64 (0),.int .i64 (0),.int .i64 (0),.int .i64 (0),.int .i64 (0),.bool false,.slice (some ⟨346,0,none⟩) 4 4,.int .i64 (0),.int .i64 (0),.int .i64 (0),.int .i64 (0),.int .i64 (0),.int .i64 (0),.int .i64 (0),.int .i64 (0),.bool true,.slice none 0 0] 159),(263,.cells [.string ⟨#[103]⟩,.slice (some ⟨91,0,none⟩) 3 3] 110),(94,.cells [.float .f32 1090519040,.float .f32 1090519040,.float .f32 1090519040,.float .f32 0] 145),(93,.cells [.float .f32 0,.float .f32 0,.float .f32 1082130432,.float .f32 0] 145),(91,.cells [.int .i64 (0),.int .i64 (0),.int .i64 (0),.int .i64 (0),.int .i64 (0),.int .i64 (0),.int .i64 (0),.int .i64 (0),.bool false,.slice (some ⟨93,0,none⟩) 4 4,.int .i64 (0),.int .i64 (0),.int .i64 (2),.int .i64 (0),.int .i64 (0),.int .i64 (0),.int .i64 (0),.int .i64 (0),.bool false,.slice (some ⟨94,0,none⟩) 4 4,.int .i64 (0),.int .i64 (0),.int .i64 (0),.int .i64 (0),.int .i64 (0),.int .i64 (0),.int .i64 (0),.int .i64 (0),.bool true,.slice none 0 0] 159),(1,.inp 0 [.int .i64 (-100000),.int .i64 (100000),.int .i64 (-100000),.int .i64 (100000),.int .i64 (-100000),.int .i64 (100000),.int .i64 (-100000),.int .i64 (100000),.int .i64 (0),.int .i64 (100000),.int .i64 (-999999999),.int .i64 (999999999),.int .i64 (-999999999),.int .i64 (999999999),.int .i64 (-999999999),.int .i64 (999999999)]),(0,.inp 0 [.int .i64 (16),.int .i64 (16)])],n:=767,marks:=[],vs:=[] }
def st9:St:={ fr:=[(15,.pointer (some ⟨982,0,none⟩)),(13,.pointer (some ⟨766,0,none⟩)),(11,.slice (some ⟨620,0,some 0⟩) 1 0),(9,.pointer (some ⟨515,0,none⟩)),(7,.pointer (some ⟨263,0,none⟩)),(5,.int .i64 (1)),(3,.int .i64 (4)),(1,.int .i64 (5)),(16,.int .i64 (0)),(14,.int .i64 (0)),(12,.int .i64 (0)),(10,.int .i64 (0)),(8,.int .i64 (0)),(6,.int .i64 (0)),(4,.int .i64 (0)),(2,.int .i64 (0)),(0,.bool false)],sz:=362,H:=[(982,.cells [.int .i64 (13),.int .i64 (18)] 96),(766,.cells [.int .i64 (9),.int .i64 (10)] 96),(620,.ext [.int .i64 (0)] 3 1),(515,.cells [.string ⟨#[103]⟩,.slice (some ⟨343,0,none⟩) 3 3] 110),(346,.cells [.float .f32 0,.float .f32 0,.float .f32 1090519040,.float .f32 0] 145),(345,.cells [.float .f32 0,.float .f32 0,.float .f32 1082130432,.float .f32 0] 145),(343,.cells [.int .i64 (0),.int .i64 (0),.int .i64 (0),.int .i64 (0),.int .i64 (0),.int .i64 (0),.int .i64 (0),.int .i64 (0),.bool false,.slice (some ⟨345,0,none⟩) 4 4,.int .i64 (0),.int .i64 (0),.int .i64 (2),.int .i64 (0),.int .i64 (0),.int .i64 (0),.int .i64 (0),.int .i64 (0),.bool false,.slice (some ⟨346,0,none⟩) 4 4,.int .i64 (0),.int .i64 (0),.int .i64 (0),.int .i64 (0),.int .i64 (0),.int .i64 (0),.int .i64 (0),.int .i64 (0),.bool true,.slice none 0 0] 159),(263,.cells [.string ⟨#[103]⟩,.slice (some ⟨91,0,none⟩) 3 3] 110),(94,.cells [.float .f32 1090519040,.float .f32 1090519040,.float .f32 1090519040,.float .f32 0] 145),(93,.cells [.float .f32 0,.float .f32 0,.float .f32 1082130432,.float .f32 0] 145),(91,.cells [.int .i64 (0),.int .i64 (0),.int .i64 (0),.int .i64 (0),.int .i64 (0),.int .i64 (0),.int .i64 (0),.int .i64 (0),.bool false,.slice (some ⟨93,0,none⟩) 4 4,.int .i64 (0),.int .i64 (0),.int .i64 (2),.int .i64 (0),.int .i64 (0),.int .i64 (0),.int .i64 (0),.int .i64 (0),.bool false,.slice (some ⟨94,0,none⟩) 4 4,.int .i64 (0),.int .i64 (0),.int .i64 (0),.int .i64 (0),.int .i64 (0),.int .i64 (0),.int .i64 (0),.int .i64 (0),.bool true,.slice none 0 0] 159),(1,.inp 0 [.int .i64 (-100000),.int .i64 (100000),.int .i64 (-100000),.int .i64 (100000),.int .i64 (-100000),.int .i64 (100000),.int .i64 (-100000),.int .i64 (100000),.int .i64 (0),.int .i64 (100000),.int .i64 (-999999999),.int .i64 (999999999),.int .i64 (-999999999),.int .i64 (999999999),.int .i64 (-999999999),.int .i64 (999999999)]),(0,.inp 0 [.int .i64 (16),.int .i64 (16)])],n:=983,marks:=[],vs:=[] }
def st10:St:={ fr:=[(17,.slice (some ⟨1071,0,none⟩) 2 2),(15,.pointer (some ⟨982,0,none⟩)),(13,.pointer (some ⟨766,0,none⟩)),(11,.slice (some ⟨620,0,some 0⟩) 1 0),(9,.pointer (some ⟨515,0,none⟩)),(7,.pointer (some ⟨263,0,none⟩)),(5,.int .i64 (1)),(3,.int .i64 (4)),(1,.int .i64 (5)),(18,.int .i64 (0)),(16,.int .i64 (0)),(14,.int .i64 (0)),(12,.int .i64 (0)),(10,.int .i64 (0)),(8,.int .i64 (0)),(6,.int .i64 (0)),(4,.int .i64 (0)),(2,.int .i64 (0)),(0,.bool false)],sz:=362,H:=[(1272,.ext [.int .i64 (921),.int .i64 (921)] 3 1),(1171,.ext [.int .i64 (512),.int .i64 (0)] 3 1),(1071,.cells [.slice (some ⟨1171,0,some 0⟩) 2 0,.slice (some ⟨1272,0,some 0⟩) 2 0] 24),(982,.cells [.int .i64 (13),.int .i64 (18)] 96),(766,.cells [.int .i64 (9),.int .i64 (10)] 96),(620,.ext [.int .i64 (0)] 3 1),(515,.cells [.string ⟨#[103]⟩,.slice (some ⟨343,0,none⟩) 3 3] 110),(346,.cells [.float .f32 0,.float .f32 0,.float .f32 1090519040,.float .f32 0] 145),(345,.cells [.float .f32 0,.float .f32 0,.float .f32 1082130432,.float .f32 0] 145),(343,.cells [.int .i64 (0),.int .i64 (0),.int .i64 (0),.int .i64 (0),.int .i64 (0),.int .i64 (0),.int .i64 (0),.int .i64 (0),.bool false,.slice (some ⟨345,0,none⟩) 4 4,.int .i64 (0),.int .i64 (0),.int .i64 (2),.int .i64 (0),.int .i64 (0),.int .i64 (0),.int .i64 (0),.int .i64 (0),.bool false,.slice (some ⟨346,0,none⟩) 4 4,.int .i64 (0),.int .i64 (0),.int .i64 (0),.int .i64 (0),.int .i64 (0),.int .i64 (0),.int .i64 (0),.int .i64 (0),.bool true,.slice none 0 0] 159),(263,.cells [.string ⟨#[103]⟩,.slice (some ⟨91,0,none⟩) 3 3] 110),(94,.cells [.float .f32 1090519040,.float .f32 1090519040,.float .f32 1090519040,.float .f32 0] 145),(93,.cells [.float .f32 0,.float .f32 0,.float .f32 1082130432,.float .f32 0] 145),(91,.cells [.int .i64 (0),.int .i64 (0),.int .i64 (0),.int .i64 (0),.int .i64 (0),.int .i64 (0),.int .i64 (0),.int .i64 (0),.bool false,.slice (some ⟨93,0,none⟩) 4 4,.int .i64 (0),.int .i64 (0),.int .i64 (2),.int .i64 (0),.int .i64 (0),.int .i64 (0),.int .i64 (0),.int .i64 (0),.bool false,.slice (some ⟨94,0,none⟩) 4 4,.int .i64 (0),.int .i64 (0),.int .i64 (0),.int .i64 (0),.int .i64 (0),.int .i64 (0),.int .i64 (0),.int .i64 (0),.bool true,.slice none 0 0] 159),(1,.inp 0 [.int .i64 (-100000),.int .i64 (100000),.int .i64 (-100000),.int .i64 (100000),.int .i64 (-100000),.int .i64 (100000),.int .i64 (-100000),.int .i64 (100000),.int .i64 (0),.int .i64 (100000),.int .i64 (-999999999),.int .i64 (999999999),.int .i64 (-999999999),.int .i64 (999999999),.int .i64 (-999999999),.int .i64 (999999999)]),(0,.inp 0 [.int .i64 (16),.int .i64 (16)])],n:=1273,marks:=[],vs:=[] }
def st11:St:={ fr:=[(0,.bool false)],sz:=362,H:=[(1,.inp 0 [.int .i64 (-100000),.int .i64 (100000),.int .i64 (-100000),.int .i64 (100000),.int .i64 (-100000),.int .i64 (100000),.int .i64 (-100000),.int .i64 (100000),.int .i64 (0),.int .i64 (100000),.int .i64 (-999999999),.int .i64 (999999999),.int .i64 (-999999999),.int .i64 (999999999),.int .i64 (-999999999),.int .i64 (999999999)]),(0,.inp 0 [.int .i64 (16),.int .i64 (16)])],n:=1279,marks:=[],vs:=[] }
def st12:St:={ fr:=[(20,.pointer (some ⟨1282,0,none⟩)),(19,.slice (some ⟨1281,0,none⟩) 2 2),(0,.bool false)],sz:=362,H:=[(1282,.cells [.int .i64 (1),.int .i64 (0)] 45),(1281,.cells [.slice (some ⟨1279,0,none⟩) 2 2,.slice (some ⟨1280,0,none⟩) 2 2] 24),(1280,.cells [.int .i64 (921),.int .i64 (921)] 3),(1279,.cells [.int .i64 (512),.int .i64 (0)] 3),(1,.inp 0 [.int .i64 (-100000),.int .i64 (100000),.int .i64 (-100000),.int .i64 (100000),.int .i64 (-100000),.int .i64 (100000),.int .i64 (-100000),.int .i64 (100000),.int .i64 (0),.int .i64 (100000),.int .i64 (-999999999),.int .i64 (999999999),.int .i64 (-999999999),.int .i64 (999999999),.int .i64 (-999999999),.int .i64 (999999999)]),(0,.inp 0 [.int .i64 (16),.int .i64 (16)])],n:=1283,marks:=[],vs:=[] }
def st13:St:={ fr:=[(22,.int .i64 (1433)),(21,.slice (some ⟨1300,0,some 0⟩) 2 0),(23,.int .i64 (0)),(20,.pointer (some ⟨1282,0,none⟩)),(19,.slice (some ⟨1281,0,none⟩) 2 2),(0,.bool false)],sz:=362,H:=[(1300,.ext [.int .i64 (0),.int .i64 (0)] 3 1),(1282,.cells [.int .i64 (1),.int .i64 (0)] 45),(1281,.cells [.slice (some ⟨1279,0,none⟩) 2 2,.slice (some ⟨1280,0,none⟩) 2 2] 24),(1280,.cells [.int .i64 (921),.int .i64 (921)] 3),(1279,.cells [.int .i64 (512),.int .i64 (0)] 3),(1,.inp 0 [.int .i64 (-100000),.int .i64 (100000),.int .i64 (-100000),.int .i64 (100000),.int .i64 (-100000),.int .i64 (100000),.int .i64 (-100000),.int .i64 (100000),.int .i64 (0),.int .i64 (100000),.int .i64 (-999999999),.int .i64 (999999999),.int .i64 (-999999999),.int .i64 (999999999),.int .i64 (-999999999),.int .i64 (999999999)]),(0,.inp 0 [.int .i64 (16),.int .i64 (16)])],n:=1303,marks:=[],vs:=[] }
def st14:St:={ fr:=[(24,.slice (some ⟨1335,0,some 0⟩) 3 0),(22,.int .i64 (1433)),(21,.slice (some ⟨1300,0,some 0⟩) 2 0),(25,.int .i64 (0)),(23,.int .i64 (0)),(20,.pointer (some ⟨1282,0,none⟩)),(19,.slice (some ⟨1281,0,none⟩) 2 2),(0,.bool false)],sz:=362,H:=[(1335,.ext [.slice (some ⟨1321,0,some 0⟩) 2 0,.slice (some ⟨1322,0,some 0⟩) 2 0,.slice (some ⟨1323,0,some 0⟩) 2 0] 24 1),(1321,.ext [.int .i64 (0),.int .i64 (0)] 3 1),(1322,.ext [.int .i64 (0),.int .i64 (1)] 3 1),(1323,.ext [.int .i64 (1),.int .i64 (1)] 3 1),(1300,.ext [.int .i64 (0),.int .i64 (0)] 3 1),(1282,.cells [.int .i64 (1),.int .i64 (0)] 45),(1281,.cells [.slice (some ⟨1279,0,none⟩) 2 2,.slice (some ⟨1280,0,none⟩) 2 2] 24),(1280,.cells [.int .i64 (921),.int .i64 (921)] 3),(1279,.cells [.int .i64 (512),.int .i64 (0)] 3),(1,.inp 0 [.int .i64 (-100000),.int .i64 (100000),.int .i64 (-100000),.int .i64 (100000),.int .i64 (-100000),.int .i64 (100000),.int .i64 (-100000),.int .i64 (100000),.int .i64 (0),.int .i64 (100000),.int .i64 (-999999999),.int .i64 (999999999),.int .i64 (-999999999),.int .i64 (999999999),.int .i64 (-999999999),.int .i64 (999999999)]),(0,.inp 0 [.int .i64 (16),.int .i64 (16)])],n:=1336,marks:=[],vs:=[] }
def st15:St:={ fr:=[(26,.slice (some ⟨1353,0,none⟩) 2 2),(24,.slice (some ⟨1335,0,some 0⟩) 3 0),(22,.int .i64 (1433)),(21,.slice (some ⟨1300,0,some 0⟩) 2 0),(27,.int .i64 (0)),(25,.int .i64 (0)),(23,.int .i64 (0)),(20,.pointer (some ⟨1282,0,none⟩)),(19,.slice (some ⟨1281,0,none⟩) 2 2),(0,.bool false)],sz:=362,H:=[(1355,.cells [.int .i64 (921),.int .i64 (921)] 3),(1354,.cells [.int .i64 (1433),.int .i64 (921)] 3),(1353,.cells [.slice (some ⟨1354,0,none⟩) 2 2,.slice (some ⟨1355,0,none⟩) 2 2] 24),(1335,.ext [.slice (some ⟨1321,0,some 0⟩) 2 0,.slice (some ⟨1322,0,some 0⟩) 2 0,.slice (some ⟨1323,0,some 0⟩) 2 0] 24 1),(1321,.ext [.int .i64 (0),.int .i64 (0)] 3 1),(1322,.ext [.int .i64 (0),.int .i64 (1)] 3 1),(1323,.ext [.int .i64 (1),.int .i64 (1)] 3 1),(1300,.ext [.int .i64 (0),.int .i64 (0)] 3 1),(1282,.cells [.int .i64 (1),.int .i64 (0)] 45),(1281,.cells [.slice (some ⟨1279,0,none⟩) 2 2,.slice (some ⟨1280,0,none⟩) 2 2] 24),(1280,.cells [.int .i64 (921),.int .i64 (921)] 3),(1279,.cells [.int .i64 (512),.int .i64 (0)] 3),(1,.inp 0 [.int .i64 (-100000),.int .i64 (100000),.int .i64 (-100000),.int .i64 (100000),.int .i64 (-100000),.int .i64 (100000),.int .i64 (-100000),.int .i64 (100000),.int .i64 (0),.int .i64 (100000),.int .i64 (-999999999),.int .i64 (999999999),.int .i64 (-999999999),.int .i64 (999999999),.int .i64 (-999999999),.int .i64 (999999999)]),(0,.inp 0 [.int .i64 (16),.int .i64 (16)])],n:=1360,marks:=[],vs:=[] }
def st16:St:={ fr:=[(28,.int .i64 (1433)),(26,.slice (some ⟨1353,0,none⟩) 2 2),(24,.slice (some ⟨1335,0,some 0⟩) 3 0),(22,.int .i64 (1433)),(21,.slice (some ⟨1300,0,some 0⟩) 2 0),(29,.int .i64 (0)),(27,.int .i64 (0)),(25,.int .i64 (0)),(23,.int .i64 (0)),(0,.bool false)],sz:=362,H:=[(1355,.cells [.int .i64 (921),.int .i64 (921)] 3),(1354,.cells [.int .i64 (1433),.int .i64 (921)] 3),(1353,.cells [.slice (some ⟨1354,0,none⟩) 2 2,.slice (some ⟨1355,0,none⟩) 2 2] 24),(1335,.ext [.slice (some ⟨1321,0,some 0⟩) 2 0,.slice (some ⟨1322,0,some 0⟩) 2 0,.slice (some ⟨1323,0,some 0⟩) 2 0] 24 1),(1321,.ext [.int .i64 (0),.int .i64 (0)] 3 1),(1322,.ext [.int .i64 (0),.int .i64 (1)] 3 1),(1323,.ext [.int .i64 (1),.int .i64 (1)] 3 1),(1300,.ext [.int .i64 (0),.int .i64 (0)] 3 1),(1,.inp 0 [.int .i64 (-100000),.int .i64 (100000),.int .i64 (-100000),.int .i64 (100000),.int .i64 (-100000),.int .i64 (100000),.int .i64 (-100000),.int .i64 (100000),.int .i64 (0),.int .i64 (100000),.int .i64 (-999999999),.int .i64 (999999999),.int .i64 (-999999999),.int .i64 (999999999),.int .i64 (-999999999),.int .i64 (999999999)]),(0,.inp 0 [.int .i64 (16),.int .i64 (16)])],n:=1406,marks:=[],vs:=[] }
def st17:St:={ fr:=[(0,.bool false)],sz:=362,H:=[(1,.inp 0 [.int .i64 (-100000),.int .i64 (100000),.int .i64 (-100000),.int .i64 (100000),.int .i64 (-100000),.int .i64 (100000),.int .i64 (-100000),.int .i64 (100000),.int .i64 (0),.int .i64 (100000),.int .i64 (-999999999),.int .i64 (999999999),.int .i64 (-999999999),.int .i64 (999999999),.int .i64 (-999999999),.int .i64 (999999999)]),(0,.inp 0 [.int .i64 (16),.int .i64 (16)])],n:=1414,marks:=[],vs:=[] }
def st18:St:={ fr:=[(30,.slice (some ⟨1414,0,none⟩) 2 2),(0,.bool false)],sz:=362,H:=[(1414,.cells [.int .i64 (10),.int .i64 (4),.int .i64 (1),.int .i64 (20),.int .i64 (6),.int .i64 (0)] 160),(1,.inp 0 [.int .i64 (-100000),.int .i64 (100000),.int .i64 (-100000),.int .i64 (100000),.int .i64 (-100000),.int .i64 (100000),.int .i64 (-100000),.int .i64 (100000),.int .i64 (0),.int .i64 (100000),.int .i64 (-999999999),.int .i64 (999999999),.int .i64 (-999999999),.int .i64 (999999999),.int .i64 (-999999999),.int .i64 (999999999)]),(0,.inp 0 [.int .i64 (16),.int .i64 (16)])],n:=1415,marks:=[],vs:=[] }
def st19:St:={ fr:=[(31,.slice (some ⟨1454,0,none⟩) 2 2),(32,.int .i64 (0)),(30,.slice (some ⟨1414,0,none⟩) 2 2),(0,.bool false)],sz:=362,H:=[(1454,.cells [.int .i64 (40),.int .i64 (120)] 3),(1414,.cells [.int .i64 (10),.int .i64 (4),.int .i64 (1),.int .i64 (20),.int .i64 (6),.int .i64 (0)] 160),(1,.inp 0 [.int .i64 (-100000),.int .i64 (100000),.int .i64 (-100000),.int .i64 (100000),.int .i64 (-100000),.int .i64 (100000),.int .i64 (-100000),.int .i64 (100000),.int .i64 (0),.int .i64 (100000),.int .i64 (-999999999),.int .i64 (999999999),.int .i64 (-999999999),.int .i64 (999999999),.int .i64 (-999999999),.int .i64 (999999999)]),(0,.inp 0 [.int .i64 (16),.int .i64 (16)])],n:=1483,marks:=[],vs:=[] }
def st20:St:={ fr:=[(33,.slice (some ⟨1522,0,none⟩) 2 2),(31,.slice (some ⟨1454,0,none⟩) 2 2),(34,.int .i64 (0)),(32,.int .i64 (0)),(30,.slice (some ⟨1414,0,none⟩) 2 2),(0,.bool false)],sz:=362,H:=[(1522,.cells [.int .i64 (50),.int .i64 (120)] 3),(1454,.cells [.int .i64 (40),.int .i64 (120)] 3),(1414,.cells [.int .i64 (10),.int .i64 (4),.int .i64 (1),.int .i64 (20),.int .i64 (6),.int .i64 (0)] 160),(1,.inp 0 [.int .i64 (-100000),.int .i64 (100000),.int .i64 (-100000),.int .i64 (100000),.int .i64 (-100000),.int .i64 (100000),.int .i64 (-100000),.int .i64 (100000),.int .i64 (0),.int .i64 (100000),.int .i64 (-999999999),.int .i64 (999999999),.int .i64 (-999999999),.int .i64 (999999999),.int .i64 (-999999999),.int .i64 (999999999)]),(0,.inp 0 [.int .i64 (16),.int .i64 (16)])],n:=1551,marks:=[],vs:=[] }
def st21:St:={ fr:=[(35,.slice (some ⟨1572,0,some 0⟩) 2 0),(33,.slice (some ⟨1522,0,none⟩) 2 2),(31,.slice (some ⟨1454,0,none⟩) 2 2),(36,.int .i64 (0)),(34,.int .i64 (0)),(32,.int .i64 (0)),(30,.slice (some ⟨1414,0,none⟩) 2 2),(0,.bool false)],sz:=362,H:=[(1572,.ext [.int .i64 (4),.int .i64 (1),.int .i64 (8),.int .i64 (1)] 96 2),(1522,.cells [.int .i64 (50),.int .i64 (120)] 3),(1454,.cells [.int .i64 (40),.int .i64 (120)] 3),(1414,.cells [.int .i64 (10),.int .i64 (4),.int .i64 (1),.int .i64 (20),.int .i64 (6),.int .i64 (0)] 160),(1,.inp 0 [.int .i64 (-100000),.int .i64 (100000),.int .i64 (-100000),.int .i64 (100000),.int .i64 (-100000),.int .i64 (100000),.int .i64 (-100000),.int .i64 (100000),.int .i64 (0),.int .i64 (100000),.int .i64 (-999999999),.int .i64 (999999999),.int .i64 (-999999999),.int .i64 (999999999),.int .i64 (-999999999),.int .i64 (999999999)]),(0,.inp 0 [.int .i64 (16),.int .i64 (16)])],n:=1573,marks:=[],vs:=[] }
def st22:St:={ fr:=[(37,.pointer (some ⟨1611,0,none⟩)),(38,.bool true),(35,.slice (some ⟨1572,0,some 0⟩) 2 0),(33,.slice (some ⟨1522,0,none⟩) 2 2),(31,.slice (some ⟨1454,0,none⟩) 2 2),(39,.int .i64 (0)),(36,.int .i64 (0)),(34,.int .i64 (0)),(32,.int .i64 (0)),(30,.slice (some ⟨1414,0,none⟩) 2 2),(0,.bool false)],sz:=362,H:=[(1611,.cells [.int .i64 (0),.int .i64 (1)] 76),(1572,.ext [.int .i64 (4),.int .i64 (1),.int .i64 (8),.int .i64 (1)] 96 2),(1522,.cells [.int .i64 (50),.int .i64 (120)] 3),(1454,.cells [.int .i64 (40),.int .i64 (120)] 3),(1414,.cells [.int .i64 (10),.int .i64 (4),.int .i64 (1),.int .i64 (20),.int .i64 (6),.int .i64 (0)] 160),(1,.inp 0 [.int .i64 (-100000),.int .i64 (100000),.int .i64 (-100000),.int .i64 (100000),.int .i64 (-100000),.int .i64 (100000),.int .i64 (-100000),.int .i64 (100000),.int .i64 (0),.int .i64 (100000),.int .i64 (-999999999),.int .i64 (999999999),.int .i64 (-999999999),.int .i64 (999999999),.int .i64 (-999999999),.int .i64 (999999999)]),(0,.inp 0 [.int .i64 (16),.int .i64 (16)])],n:=1612,marks:=[],vs:=[] }
def st23:St:={ fr:=[(40,.slice (some ⟨1625,0,some 0⟩) 1 0),(37,.pointer (some ⟨1611,0,none⟩)),(38,.bool true),(35,.slice (some ⟨1572,0,some 0⟩) 2 0),(33,.slice (some ⟨1522,0,none⟩) 2 2),(31,.slice (some ⟨1454,0,none⟩) 2 2),(41,.int .i64 (0)),(39,.int .i64 (0)),(36,.int .i64 (0)),(34,.int .i64 (0)),(32,.int .i64 (0)),(30,.slice (some ⟨1414,0,none⟩) 2 2),(0,.bool false)],sz:=362,H:=[(1625,.ext [.int .i64 (2),.int .i64 (4),.int .i64 (1)] 160 3),(1611,.cells [.int .i64 (0),.int .i64 (1)] 76),(1572,.ext [.int .i64 (4),.int .i64 (1),.int .i64 (8),.int .i64 (1)] 96 2),(1522,.cells [.int .i64 (50),.int .i64 (120)] 3),(1454,.cells [.int .i64 (40),.int .i64 (120)] 3),(1414,.cells [.int .i64 (10),.int .i64 (4),.int .i64 (1),.int .i64 (20),.int .i64 (6),.int .i64 (0)] 160),(1,.inp 0 [.int .i64 (-100000),.int .i64 (100000),.int .i64 (-100000),.int .i64 (100000),.int .i64 (-100000),.int .i64 (100000),.int .i64 (-100000),.int .i64 (100000),.int .i64 (0),.int .i64 (100000),.int .i64 (-999999999),.int .i64 (999999999),.int .i64 (-999999999),.int .i64 (999999999),.int .i64 (-999999999),.int .i64 (999999999)]),(0,.inp 0 [.int .i64 (16),.int .i64 (16)])],n:=1626,marks:=[],vs:=[] }
def st24:St:={ fr:=[(42,.slice (some ⟨1895,0,some 0⟩) 4 0),(40,.slice (some ⟨1625,0,some 0⟩) 1 0),(37,.pointer (some ⟨1611,0,none⟩)),(38,.bool true),(35,.slice (some ⟨1572,0,some 0⟩) 2 0),(33,.slice (some ⟨1522,0,none⟩) 2 2),(31,.slice (some ⟨1454,0,none⟩) 2 2),(43,.int .i64 (0)),(41,.int .i64 (0)),(39,.int .i64 (0)),(36,.int .i64 (0)),(34,.int .i64 (0)),(32,.int .i64 (0)),(30,.slice (some ⟨1414,0,none⟩) 2 2),(0,.bool false)],sz:=362,H:=[(1895,.ext [.float .f32 1082130432,.float .f32 1082130432,.float .f32 1086324736,.float .f32 0] 145 1),(1625,.ext [.int .i64 (2),.int .i64 (4),.int .i64 (1)] 160 3),(1611,.cells [.int .i64 (0),.int .i64 (1)] 76),(1572,.ext [.int .i64 (4),.int .i64 (1),.int .i64 (8),.int .i64 (1)] 96 2),(1522,.cells [.int .i64 (50),.int .i64 (120)] 3),(1454,.cells [.int .i64 (40),.int .i64 (120)] 3),(1414,.cells [.int .i64 (10),.int .i64 (4),.int .i64 (1),.int .i64 (20),.int .i64 (6),.int .i64 (0)] 160),(1,.inp 0 [.int .i64 (-100000),.int .i64 (100000),.int .i64 (-100000),.int .i64 (100000),.int .i64 (-100000),.int .i64 (100000),.int .i64 (-100000),.int .i64 (100000),.int .i64 (0),.int .i64 (100000),.int .i64 (-999999999),.int .i64 (999999999),.int .i64 (-999999999),.int .i64 (999999999),.int .i64 (-999999999),.int .i64 (999999999)]),(0,.inp 0 [.int .i64 (16),.int .i64 (16)])],n:=1896,marks:=[],vs:=[] }
def st25:St:={ fr:=[(44,.string ⟨#[112,105,99,107,32,49,48,32,52,32,49,10]⟩),(42,.slice (some ⟨1895,0,some 0⟩) 4 0),(40,.slice (some ⟨1625,0,some 0⟩) 1 0),(37,.pointer (some ⟨1611,0,none⟩)),(38,.bool true),(35,.slice (some ⟨1572,0,some 0⟩) 2 0),(33,.slice (some ⟨1522,0,none⟩) 2 2),(31,.slice (some ⟨1454,0,none⟩) 2 2),(45,.int .i64 (0)),(43,.int .i64 (0)),(41,.int .i64 (0)),(39,.int .i64 (0)),(36,.int .i64 (0)),(34,.int .i64 (0)),(32,.int .i64 (0)),(0,.bool false)],sz:=362,H:=[(1895,.ext [.float .f32 1082130432,.float .f32 1082130432,.float .f32 1086324736,.float .f32 0] 145 1),(1625,.ext [.int .i64 (2),.int .i64 (4),.int .i64 (1)] 160 3),(1611,.cells [.int .i64 (0),.int .i64 (1)] 76),(1572,.ext [.int .i64 (4),.int .i64 (1),.int .i64 (8),.int .i64 (1)] 96 2),(1522,.cells [.int .i64 (50),.int .i64 (120)] 3),(1454,.cells [.int .i64 (40),.int .i64 (120)] 3),(1,.inp 0 [.int .i64 (-100000),.int .i64 (100000),.int .i64 (-100000),.int .i64 (100000),.int .i64 (-100000),.int .i64 (100000),.int .i64 (-100000),.int .i64 (100000),.int .i64 (0),.int .i64 (100000),.int .i64 (-999999999),.int .i64 (999999999),.int .i64 (-999999999),.int .i64 (999999999),.int .i64 (-999999999),.int .i64 (999999999)]),(0,.inp 0 [.int .i64 (16),.int .i64 (16)])],n:=1904,marks:=[],vs:=[] }
def st26:St:={ fr:=[(0,.bool true)],sz:=362,H:=[(1,.inp 0 [.int .i64 (-100000),.int .i64 (100000),.int .i64 (-100000),.int .i64 (100000),.int .i64 (-100000),.int .i64 (100000),.int .i64 (-100000),.int .i64 (100000),.int .i64 (0),.int .i64 (100000),.int .i64 (-999999999),.int .i64 (999999999),.int .i64 (-999999999),.int .i64 (999999999),.int .i64 (-999999999),.int .i64 (999999999)]),(0,.inp 0 [.int .i64 (16),.int .i64 (16)])],n:=1911,marks:=[],vs:=[] }
def st27:St:={ fr:=[(0,.bool true)],sz:=362,H:=[(1,.inp 0 [.int .i64 (-100000),.int .i64 (100000),.int .i64 (-100000),.int .i64 (100000),.int .i64 (-100000),.int .i64 (100000),.int .i64 (-100000),.int .i64 (100000),.int .i64 (0),.int .i64 (100000),.int .i64 (-999999999),.int .i64 (999999999),.int .i64 (-999999999),.int .i64 (999999999),.int .i64 (-999999999),.int .i64 (999999999)]),(0,.inp 0 [.int .i64 (16),.int .i64 (16)])],n:=1911,marks:=[],vs:=[] }
end
end Go.Proofs.YtkongcnmkiihjaaGreatDoor
