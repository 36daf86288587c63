/-
The function awake returns true and leaves memory below as it was, where the two laid tables that it reads lie as their text says.
-/
import Derived.Test.YtdmepnhmcppkkaaGreatDoorWa
import Derived.Test.YtdmepnhmcppkkaaGreatDoorWb
import Derived.Test.YtdmepnhmcppkkaaGreatDoorWc
import Derived.Test.YtdmepnhmcppkkaaGreatDoorWd
import Derived.Test.YtdmepnhmcppkkaaGreatDoorWe
import Derived.Test.YtdmepnhmcppkkaaGreatDoorWf
import Derived.Test.YtdmepnhmcppkkaaGreatDoorWg
import Derived.Test.YtdmepnhmcppkkaaGreatDoorWh
/-
The examples hold: the run as a whole.
-/
namespace Go.Proofs.YtdmepnhmcppkkaaGreatDoor
open Go Go.Ab Go.Proofs
theorem sq0 : cFrom (bodyOf Tryz.f18) 0 = .seq (cAt (bodyOf Tryz.f18) 0) (cFrom (bodyOf Tryz.f18) 1) := by kernel_rfl
theorem sq1 : cFrom (bodyOf Tryz.f18) 1 = .seq (cAt (bodyOf Tryz.f18) 1) (cFrom (bodyOf Tryz.f18) 2) := by kernel_rfl
theorem sq2 : cFrom (bodyOf Tryz.f18) 2 = .seq (cAt (bodyOf Tryz.f18) 2) (cFrom (bodyOf Tryz.f18) 3) := by kernel_rfl
theorem sq3 : cFrom (bodyOf Tryz.f18) 3 = .seq (cAt (bodyOf Tryz.f18) 3) (cFrom (bodyOf Tryz.f18) 4) := by kernel_rfl
theorem sq4 : cFrom (bodyOf Tryz.f18) 4 = .seq (cAt (bodyOf Tryz.f18) 4) (cFrom (bodyOf Tryz.f18) 5) := by kernel_rfl
theorem sq5 : cFrom (bodyOf Tryz.f18) 5 = .seq (cAt (bodyOf Tryz.f18) 5) (cFrom (bodyOf Tryz.f18) 6) := by kernel_rfl
theorem sq6 : cFrom (bodyOf Tryz.f18) 6 = .seq (cAt (bodyOf Tryz.f18) 6) (cFrom (bodyOf Tryz.f18) 7) := by kernel_rfl
theorem sq7 : cFrom (bodyOf Tryz.f18) 7 = .seq (cAt (bodyOf Tryz.f18) 7) (cFrom (bodyOf Tryz.f18) 8) := by kernel_rfl
theorem sq8 : cFrom (bodyOf Tryz.f18) 8 = .seq (cAt (bodyOf Tryz.f18) 8) (cFrom (bodyOf Tryz.f18) 9) := by kernel_rfl
theorem sq9 : cFrom (bodyOf Tryz.f18) 9 = .seq (cAt (bodyOf Tryz.f18) 9) (cFrom (bodyOf Tryz.f18) 10) := by kernel_rfl
theorem sq10 : cFrom (bodyOf Tryz.f18) 10 = .seq (cAt (bodyOf Tryz.f18) 10) (cFrom (bodyOf Tryz.f18) 11) := by kernel_rfl
theorem sq11 : cFrom (bodyOf Tryz.f18) 11 = .seq (cAt (bodyOf Tryz.f18) 11) (cFrom (bodyOf Tryz.f18) 12) := by kernel_rfl
theorem sq12 : cFrom (bodyOf Tryz.f18) 12 = .seq (cAt (bodyOf Tryz.f18) 12) (cFrom (bodyOf Tryz.f18) 13) := by kernel_rfl
theorem sq13 : cFrom (bodyOf Tryz.f18) 13 = .seq (cAt (bodyOf Tryz.f18) 13) (cFrom (bodyOf Tryz.f18) 14) := by kernel_rfl
theorem sq14 : cFrom (bodyOf Tryz.f18) 14 = .seq (cAt (bodyOf Tryz.f18) 14) (cFrom (bodyOf Tryz.f18) 15) := by kernel_rfl
theorem sq15 : cFrom (bodyOf Tryz.f18) 15 = .seq (cAt (bodyOf Tryz.f18) 15) (cFrom (bodyOf Tryz.f18) 16) := by kernel_rfl
theorem sq16 : cFrom (bodyOf Tryz.f18) 16 = .seq (cAt (bodyOf Tryz.f18) 16) (cFrom (bodyOf Tryz.f18) 17) := by kernel_rfl
theorem sq17 : cFrom (bodyOf Tryz.f18) 17 = .seq (cAt (bodyOf Tryz.f18) 17) (cFrom (bodyOf Tryz.f18) 18) := by kernel_rfl
theorem sq18 : cFrom (bodyOf Tryz.f18) 18 = .seq (cAt (bodyOf Tryz.f18) 18) (cFrom (bodyOf Tryz.f18) 19) := by kernel_rfl
theorem sq19 : cFrom (bodyOf Tryz.f18) 19 = .seq (cAt (bodyOf Tryz.f18) 19) (cFrom (bodyOf Tryz.f18) 20) := by kernel_rfl
theorem sq20 : cFrom (bodyOf Tryz.f18) 20 = .seq (cAt (bodyOf Tryz.f18) 20) (cFrom (bodyOf Tryz.f18) 21) := by kernel_rfl
theorem sq21 : cFrom (bodyOf Tryz.f18) 21 = .seq (cAt (bodyOf Tryz.f18) 21) (cFrom (bodyOf Tryz.f18) 22) := by kernel_rfl
theorem sq22 : cFrom (bodyOf Tryz.f18) 22 = .seq (cAt (bodyOf Tryz.f18) 22) (cFrom (bodyOf Tryz.f18) 23) := by kernel_rfl
theorem sq23 : cFrom (bodyOf Tryz.f18) 23 = cAt (bodyOf Tryz.f18) 23 := by kernel_rfl
theorem awakeAT : AT Tryz.prog none (bodyOf Tryz.f18) st0 .ret st24 := by
 have hr := ev_sound mixed orcOk 100000
 have h23 : AT Tryz.prog none (cFrom (bodyOf Tryz.f18) 23) st23 .ret st24 := by rw [sq23]; exact AT.piece hr pc23
 have h22 : AT Tryz.prog none (cFrom (bodyOf Tryz.f18) 22) st22 .ret st24 := by rw [sq22]; exact (AT.piece hr pc22).seq h23
 have h21 : AT Tryz.prog none (cFrom (bodyOf Tryz.f18) 21) st21 .ret st24 := by rw [sq21]; exact (AT.piece hr pc21).seq h22
 have h20 : AT Tryz.prog none (cFrom (bodyOf Tryz.f18) 20) st20 .ret st24 := by rw [sq20]; exact (AT.piece hr pc20).seq h21
 have h19 : AT Tryz.prog none (cFrom (bodyOf Tryz.f18) 19) st19 .ret st24 := by rw [sq19]; exact (AT.piece hr pc19).seq h20
 have h18 : AT Tryz.prog none (cFrom (bodyOf Tryz.f18) 18) st18 .ret st24 := by rw [sq18]; exact (AT.piece hr pc18).seq h19
 have h17 : AT Tryz.prog none (cFrom (bodyOf Tryz.f18) 17) st17 .ret st24 := by rw [sq17]; exact (AT.piece hr pc17).seq h18
 have h16 : AT Tryz.prog none (cFrom (bodyOf Tryz.f18) 16) st16 .ret st24 := by rw [sq16]; exact (AT.piece hr pc16).seq h17
 have h15 : AT Tryz.prog none (cFrom (bodyOf Tryz.f18) 15) st15 .ret st24 := by rw [sq15]; exact (AT.piece hr pc15).seq h16
 have h14 : AT Tryz.prog none (cFrom (bodyOf Tryz.f18) 14) st14 .ret st24 := by rw [sq14]; exact (AT.piece hr pc14).seq h15
 have h13 : AT Tryz.prog none (cFrom (bodyOf Tryz.f18) 13) st13 .ret st24 := by rw [sq13]; exact (AT.piece hr pc13).seq h14
 have h12 : AT Tryz.prog none (cFrom (bodyOf Tryz.f18) 12) st12 .ret st24 := by rw [sq12]; exact (AT.piece hr pc12).seq h13
 have h11 : AT Tryz.prog none (cFrom (bodyOf Tryz.f18) 11) st11 .ret st24 := by rw [sq11]; exact (AT.piece hr pc11).seq h12
 have h10 : AT Tryz.prog none (cFrom (bodyOf Tryz.f18) 10) st10 .ret st24 := by rw [sq10]; exact (AT.piece hr pc10).seq h11
 have h9 : AT Tryz.prog none (cFrom (bodyOf Tryz.f18) 9) st9 .ret st24 := by rw [sq9]; exact (AT.piece hr pc9).seq h10
 have h8 : AT Tryz.prog none (cFrom (bodyOf Tryz.f18) 8) st8 .ret st24 := by rw [sq8]; exact (AT.piece hr pc8).seq h9
 have h7 : AT Tryz.prog none (cFrom (bodyOf Tryz.f18) 7) st7 .ret st24 := by rw [sq7]; exact (AT.piece hr pc7).seq h8
 have h6 : AT Tryz.prog none (cFrom (bodyOf Tryz.f18) 6) st6 .ret st24 := by rw [sq6]; exact (AT.piece hr pc6).seq h7
 have h5 : AT Tryz.prog none (cFrom (bodyOf Tryz.f18) 5) st5 .ret st24 := by rw [sq5]; exact (AT.piece hr pc5).seq h6
 have h4 : AT Tryz.prog none (cFrom (bodyOf Tryz.f18) 4) st4 .ret st24 := by rw [sq4]; exact (AT.piece hr pc4).seq h5
 have h3 : AT Tryz.prog none (cFrom (bodyOf Tryz.f18) 3) st3 .ret st24 := by rw [sq3]; exact (AT.piece hr pc3).seq h4
 have h2 : AT Tryz.prog none (cFrom (bodyOf Tryz.f18) 2) st2 .ret st24 := by rw [sq2]; exact (AT.piece hr pc2).seq h3
 have h1 : AT Tryz.prog none (cFrom (bodyOf Tryz.f18) 1) st1 .ret st24 := by rw [sq1]; exact (AT.piece hr pc1).seq h2
 have h0 : AT Tryz.prog none (cFrom (bodyOf Tryz.f18) 0) st0 .ret st24 := by rw [sq0]; exact (AT.piece hr pc0).seq h1
 exact h0
theorem awakeAC : AC Tryz.prog 18 [] st0.H 9 (.bool true) (dropNew 9 st24.H) st24.n :=
 bodyAT_ok (fn := Tryz.f18) (c := bodyOf Tryz.f18) (by kernel_rfl) (by kernel_rfl) (by kernel_rfl) (by simp) (.inr rfl) (vs := []) awakeAT (by kernel_rfl)
end Go.Proofs.YtdmepnhmcppkkaaGreatDoor

namespace Go.Proofs.YtdmepnhmcppkkaaGreatDoor
open Go Go.Ab Go.Proofs Go.RowKit
def stillV : List Value := [.int .i64 0, .int .i64 0]
def powV : List Value := (List.range 20).map fun (i : Nat) => .int .u64 (10 ^ i)
theorem st0H : st0.H = [(2, .inp 0 powV), (0, .inp 0 stillV)] := by kernel_rfl
def Lies (w : World) (g : Nat) (cs : List Value) : Prop := ∃ c t fz, w.heap[g]? = some (.cells c t fz) ∧ ∀ i, i < cs.length → c[i]? = cs[i]?
end Go.Proofs.YtdmepnhmcppkkaaGreatDoor
