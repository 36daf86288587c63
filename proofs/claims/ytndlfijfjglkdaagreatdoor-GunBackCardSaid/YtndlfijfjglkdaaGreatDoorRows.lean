/-
  NARROWER THAN 'FOR EVERY INPUT', by the rows' own cells (each row's printed sentence says how): GunStrings: laid · GunBubbles: laid · GunSignatures: laid · GunLines: laid · GunMoves: laid · GunTimes: laid · GunReaches: laid · GunStarts: laid · GunSoft: laid · GunExplains: laid · GunEncloses: laid · GunAccepts: laid · GunDrops: laid · GunTexts: laid · GunBack: laid.
  DERIVED. THE GIVEN ROWS OF THIS SEAT. 15 by the template 'for every input the law returns true; each argument reads behind the call as it read before'; 0 by the template 'total and deterministic' (their statements: YtndlfijfjglkdaaGreatDoorTotals.lean).
  GIVEN WITH THE SEED: the statements are not yours to turn. If you find one false, say at which input.
  Laid BY PROGRAM, IN A SANDBOX (cutbox-rows.mjs): the forced cells as the released guide's own fill.sh prints them over the translation 0ac3895a285d643c… (all of the seat's roots in one cut). By AI agents, Wed Nov 11 2026. No macro, syntax, notation, axiom, sorry.
-/
import Derived.Test.YtndlfijfjglkdaaGreatDoorChecked
import GoSem.PinnedTables
import GoSem.Claim
import GoSem.ClaimJoined
import GoSem.ClaimMapViews
import Derived.JoinedTies
import Derived.KernelRfl
namespace Go.Proofs.YtndlfijfjglkdaaGreatDoor
/- THE CELL 'sum', in the pinned program and in every row, IS THE sha256 OF THE DUMP (.gsa) THAT YtndlfijfjglkdaaGreatDoorProg.lean LOADS. Nothing in Lean hashes anything: it is a label: what it is worth is what the hold of that sum in a sandbox is worth. -/
noncomputable def Tryz.pinned : Pinned := { name := "ytndlfijfjglkdaagreatdoor", sum := "0ac3895a285d643c2402f5042a9ea37c1dfe55c3327f71aca846382a1da0c7e6", checked := Tryz.checked }
namespace Rows
def none {H : Type} : Left H := { results := [], args := [] }

/- WHAT THE LISTED PACKAGE-LEVEL VARIABLES READ AS WHEN THE CALL BEGINS. Each datum BY PROGRAM (the guide's laid-datum.mjs) off the statement by which the dump's own 'gosem.cut.vars' lays the variable. In a bare row this is a premise. The card (YtndlfijfjglkdaaGreatDoorCards.lean) ties it to the program's text. -/
def laid_math_bits_deBruijn32tab {H : Type} : DataW H := .agg [.lit (.int .u8 0), .lit (.int .u8 1), .lit (.int .u8 28), .lit (.int .u8 2), .lit (.int .u8 29), .lit (.int .u8 14), .lit (.int .u8 24), .lit (.int .u8 3), .lit (.int .u8 30), .lit (.int .u8 22), .lit (.int .u8 20), .lit (.int .u8 15), .lit (.int .u8 25), .lit (.int .u8 17), .lit (.int .u8 4), .lit (.int .u8 8), .lit (.int .u8 31), .lit (.int .u8 27), .lit (.int .u8 13), .lit (.int .u8 23), .lit (.int .u8 21), .lit (.int .u8 19), .lit (.int .u8 16), .lit (.int .u8 7), .lit (.int .u8 26), .lit (.int .u8 12), .lit (.int .u8 18), .lit (.int .u8 6), .lit (.int .u8 11), .lit (.int .u8 5), .lit (.int .u8 10), .lit (.int .u8 9)]
def laid_math_bits_deBruijn64tab {H : Type} : DataW H := .agg [.lit (.int .u8 0), .lit (.int .u8 1), .lit (.int .u8 56), .lit (.int .u8 2), .lit (.int .u8 57), .lit (.int .u8 49), .lit (.int .u8 28), .lit (.int .u8 3), .lit (.int .u8 61), .lit (.int .u8 58), .lit (.int .u8 42), .lit (.int .u8 50), .lit (.int .u8 38), .lit (.int .u8 29), .lit (.int .u8 17), .lit (.int .u8 4), .lit (.int .u8 62), .lit (.int .u8 47), .lit (.int .u8 59), .lit (.int .u8 36), .lit (.int .u8 45), .lit (.int .u8 43), .lit (.int .u8 51), .lit (.int .u8 22), .lit (.int .u8 53), .lit (.int .u8 39), .lit (.int .u8 33), .lit (.int .u8 30), .lit (.int .u8 24), .lit (.int .u8 18), .lit (.int .u8 12), .lit (.int .u8 5), .lit (.int .u8 63), .lit (.int .u8 55), .lit (.int .u8 48), .lit (.int .u8 27), .lit (.int .u8 60), .lit (.int .u8 41), .lit (.int .u8 37), .lit (.int .u8 16), .lit (.int .u8 46), .lit (.int .u8 35), .lit (.int .u8 44), .lit (.int .u8 21), .lit (.int .u8 52), .lit (.int .u8 32), .lit (.int .u8 23), .lit (.int .u8 11), .lit (.int .u8 54), .lit (.int .u8 26), .lit (.int .u8 40), .lit (.int .u8 15), .lit (.int .u8 34), .lit (.int .u8 20), .lit (.int .u8 31), .lit (.int .u8 10), .lit (.int .u8 25), .lit (.int .u8 14), .lit (.int .u8 19), .lit (.int .u8 9), .lit (.int .u8 13), .lit (.int .u8 8), .lit (.int .u8 7), .lit (.int .u8 6)]
def laid_internal_strconv_uint64pow10 {H : Type} : DataW H := .agg [.lit (.int .u64 1), .lit (.int .u64 10), .lit (.int .u64 100), .lit (.int .u64 1000), .lit (.int .u64 10000), .lit (.int .u64 100000), .lit (.int .u64 1000000), .lit (.int .u64 10000000), .lit (.int .u64 100000000), .lit (.int .u64 1000000000), .lit (.int .u64 10000000000), .lit (.int .u64 100000000000), .lit (.int .u64 1000000000000), .lit (.int .u64 10000000000000), .lit (.int .u64 100000000000000), .lit (.int .u64 1000000000000000), .lit (.int .u64 10000000000000000), .lit (.int .u64 100000000000000000), .lit (.int .u64 1000000000000000000), .lit (.int .u64 10000000000000000000)]
def laid_moveout_gun_names {H : Type} : DataW H := .agg [.lit (.string [100, 111, 119, 110]), .lit (.string [102, 111, 114, 101]), .lit (.string [97, 102, 116]), .lit (.string [112, 111, 114, 116]), .lit (.string [115, 116, 97, 114, 98, 111, 97, 114, 100])]
def laid_unicode_utf8_acceptRanges {H : Type} : DataW H := .agg [.agg [.lit (.int .u8 128), .lit (.int .u8 191)], .agg [.lit (.int .u8 160), .lit (.int .u8 191)], .agg [.lit (.int .u8 128), .lit (.int .u8 159)], .agg [.lit (.int .u8 144), .lit (.int .u8 191)], .agg [.lit (.int .u8 128), .lit (.int .u8 143)], .agg [.lit (.int .u8 0), .lit (.int .u8 0)], .agg [.lit (.int .u8 0), .lit (.int .u8 0)], .agg [.lit (.int .u8 0), .lit (.int .u8 0)], .agg [.lit (.int .u8 0), .lit (.int .u8 0)], .agg [.lit (.int .u8 0), .lit (.int .u8 0)], .agg [.lit (.int .u8 0), .lit (.int .u8 0)], .agg [.lit (.int .u8 0), .lit (.int .u8 0)], .agg [.lit (.int .u8 0), .lit (.int .u8 0)], .agg [.lit (.int .u8 0), .lit (.int .u8 0)], .agg [.lit (.int .u8 0), .lit (.int .u8 0)], .agg [.lit (.int .u8 0), .lit (.int .u8 0)]]
def laid_strconv_ErrRange {H : Type} : DataW H := .iface "*errors.errorString" (.ptr (.agg [.lit (.string [118, 97, 108, 117, 101, 32, 111, 117, 116, 32, 111, 102, 32, 114, 97, 110, 103, 101])]))
def laid_strconv_ErrSyntax {H : Type} : DataW H := .iface "*errors.errorString" (.ptr (.agg [.lit (.string [105, 110, 118, 97, 108, 105, 100, 32, 115, 121, 110, 116, 97, 120])]))
/-- One of Go's own tables, pinned by name: the form's constant. -/
def laid_unicode_utf8_first : DataW Unit := Go.Pinned.utf8First

/-- 'moveoutlaw03.GunStrings': WHATEVER THE INPUT: true; the input reads as it did. -/
def gunStringsSpec : ChangeSpec := { name := "gunStrings", fn := fun _ => fun
  | [d1, d2, d3] => { results := [.lit (.bool true)], args := [d1, d2, d3] }
  | _ => none }
def gunStringsRow : OpenClaim := { program := "ytndlfijfjglkdaagreatdoor", sum := "0ac3895a285d643c2402f5042a9ea37c1dfe55c3327f71aca846382a1da0c7e6", func := "moveout/moveoutlaw03.GunStrings", spec := "gunStrings", inPlace := ["internal/abi.NoEscape", "internal/bytealg.MakeNoZero"], unfollowed := true, recurses := true, named := ["moveout/gun.names", "internal/strconv.uint64pow10", "math/bits.deBruijn32tab", "math/bits.deBruijn64tab"], apart := false, laid := [("math/bits.deBruijn32tab", laid_math_bits_deBruijn32tab), ("math/bits.deBruijn64tab", laid_math_bits_deBruijn64tab), ("internal/strconv.uint64pow10", laid_internal_strconv_uint64pow10), ("moveout/gun.names", laid_moveout_gun_names)] }
def GunStringsSaid : Prop := gunStringsRow.holds Tryz.pinned (OpenSpec.ofChange gunStringsSpec)

/-- ITS FALSE NEIGHBOUR: 'it returns false'. Refute it at one input. -/
def gunStringsWrong : ChangeSpec := { name := "gunStrings", fn := fun _ => fun
  | [d1, d2, d3] => { results := [.lit (.bool false)], args := [d1, d2, d3] }
  | _ => none }
def GunStringsWrongFalsely : Prop := gunStringsRow.holds Tryz.pinned (OpenSpec.ofChange gunStringsWrong)

/-- 'moveoutlaw03.GunBubbles': WHATEVER THE INPUT: true; the input reads as it did. -/
def gunBubblesSpec : ChangeSpec := { name := "gunBubbles", fn := fun _ => fun
  | [d] => { results := [.lit (.bool true)], args := [d] }
  | _ => none }
def gunBubblesRow : OpenClaim := { program := "ytndlfijfjglkdaagreatdoor", sum := "0ac3895a285d643c2402f5042a9ea37c1dfe55c3327f71aca846382a1da0c7e6", func := "moveout/moveoutlaw03.GunBubbles", spec := "gunBubbles", inPlace := ["internal/abi.NoEscape", "internal/bytealg.MakeNoZero"], unfollowed := true, recurses := true, named := ["moveout/gun.names", "internal/strconv.uint64pow10", "math/bits.deBruijn32tab", "math/bits.deBruijn64tab"], apart := false, laid := [("math/bits.deBruijn32tab", laid_math_bits_deBruijn32tab), ("math/bits.deBruijn64tab", laid_math_bits_deBruijn64tab), ("internal/strconv.uint64pow10", laid_internal_strconv_uint64pow10), ("moveout/gun.names", laid_moveout_gun_names)] }
def GunBubblesSaid : Prop := gunBubblesRow.holds Tryz.pinned (OpenSpec.ofChange gunBubblesSpec)

/-- ITS FALSE NEIGHBOUR: 'it returns false'. Refute it at one input. -/
def gunBubblesWrong : ChangeSpec := { name := "gunBubbles", fn := fun _ => fun
  | [d] => { results := [.lit (.bool false)], args := [d] }
  | _ => none }
def GunBubblesWrongFalsely : Prop := gunBubblesRow.holds Tryz.pinned (OpenSpec.ofChange gunBubblesWrong)

/-- 'moveoutlaw03.GunSignatures': WHATEVER THE INPUT: true; the input reads as it did. -/
def gunSignaturesSpec : ChangeSpec := { name := "gunSignatures", fn := fun _ => fun
  | [d1, d2] => { results := [.lit (.bool true)], args := [d1, d2] }
  | _ => none }
def gunSignaturesRow : OpenClaim := { program := "ytndlfijfjglkdaagreatdoor", sum := "0ac3895a285d643c2402f5042a9ea37c1dfe55c3327f71aca846382a1da0c7e6", func := "moveout/moveoutlaw03.GunSignatures", spec := "gunSignatures", inPlace := ["internal/abi.NoEscape", "internal/bytealg.MakeNoZero"], unfollowed := true, recurses := true, named := ["moveout/gun.names", "internal/strconv.uint64pow10", "math/bits.deBruijn32tab", "math/bits.deBruijn64tab"], apart := false, laid := [("math/bits.deBruijn32tab", laid_math_bits_deBruijn32tab), ("math/bits.deBruijn64tab", laid_math_bits_deBruijn64tab), ("internal/strconv.uint64pow10", laid_internal_strconv_uint64pow10), ("moveout/gun.names", laid_moveout_gun_names)] }
def GunSignaturesSaid : Prop := gunSignaturesRow.holds Tryz.pinned (OpenSpec.ofChange gunSignaturesSpec)

/-- ITS FALSE NEIGHBOUR: 'it returns false'. Refute it at one input. -/
def gunSignaturesWrong : ChangeSpec := { name := "gunSignatures", fn := fun _ => fun
  | [d1, d2] => { results := [.lit (.bool false)], args := [d1, d2] }
  | _ => none }
def GunSignaturesWrongFalsely : Prop := gunSignaturesRow.holds Tryz.pinned (OpenSpec.ofChange gunSignaturesWrong)

/-- 'moveoutlaw03.GunLines': WHATEVER THE INPUT: true; the input reads as it did. -/
def gunLinesSpec : ChangeSpec := { name := "gunLines", fn := fun _ => fun
  | [d] => { results := [.lit (.bool true)], args := [d] }
  | _ => none }
def gunLinesRow : OpenClaim := { program := "ytndlfijfjglkdaagreatdoor", sum := "0ac3895a285d643c2402f5042a9ea37c1dfe55c3327f71aca846382a1da0c7e6", func := "moveout/moveoutlaw03.GunLines", spec := "gunLines", inPlace := ["internal/abi.NoEscape", "internal/bytealg.MakeNoZero"], unfollowed := true, recurses := true, named := ["moveout/gun.names", "internal/strconv.uint64pow10", "math/bits.deBruijn32tab", "math/bits.deBruijn64tab"], apart := false, laid := [("math/bits.deBruijn32tab", laid_math_bits_deBruijn32tab), ("math/bits.deBruijn64tab", laid_math_bits_deBruijn64tab), ("internal/strconv.uint64pow10", laid_internal_strconv_uint64pow10), ("moveout/gun.names", laid_moveout_gun_names)] }
def GunLinesSaid : Prop := gunLinesRow.holds Tryz.pinned (OpenSpec.ofChange gunLinesSpec)

/-- ITS FALSE NEIGHBOUR: 'it returns false'. Refute it at one input. -/
def gunLinesWrong : ChangeSpec := { name := "gunLines", fn := fun _ => fun
  | [d] => { results := [.lit (.bool false)], args := [d] }
  | _ => none }
def GunLinesWrongFalsely : Prop := gunLinesRow.holds Tryz.pinned (OpenSpec.ofChange gunLinesWrong)

/-- 'moveoutlaw03.GunMoves': WHATEVER THE INPUT: true; the input reads as it did. -/
def gunMovesSpec : ChangeSpec := { name := "gunMoves", fn := fun _ => fun
  | [d1, d2, d3] => { results := [.lit (.bool true)], args := [d1, d2, d3] }
  | _ => none }
def gunMovesRow : OpenClaim := { program := "ytndlfijfjglkdaagreatdoor", sum := "0ac3895a285d643c2402f5042a9ea37c1dfe55c3327f71aca846382a1da0c7e6", func := "moveout/moveoutlaw03.GunMoves", spec := "gunMoves", inPlace := ["internal/abi.NoEscape", "internal/bytealg.MakeNoZero"], unfollowed := true, recurses := true, named := ["moveout/gun.names", "internal/strconv.uint64pow10", "math/bits.deBruijn32tab", "math/bits.deBruijn64tab"], apart := false, laid := [("math/bits.deBruijn32tab", laid_math_bits_deBruijn32tab), ("math/bits.deBruijn64tab", laid_math_bits_deBruijn64tab), ("internal/strconv.uint64pow10", laid_internal_strconv_uint64pow10), ("moveout/gun.names", laid_moveout_gun_names)] }
def GunMovesSaid : Prop := gunMovesRow.holds Tryz.pinned (OpenSpec.ofChange gunMovesSpec)

/-- ITS FALSE NEIGHBOUR: 'it returns false'. Refute it at one input. -/
def gunMovesWrong : ChangeSpec := { name := "gunMoves", fn := fun _ => fun
  | [d1, d2, d3] => { results := [.lit (.bool false)], args := [d1, d2, d3] }
  | _ => none }
def GunMovesWrongFalsely : Prop := gunMovesRow.holds Tryz.pinned (OpenSpec.ofChange gunMovesWrong)

/-- 'moveoutlaw03.GunTimes': WHATEVER THE INPUT: true; the input reads as it did. -/
def gunTimesSpec : ChangeSpec := { name := "gunTimes", fn := fun _ => fun
  | [d1, d2, d3] => { results := [.lit (.bool true)], args := [d1, d2, d3] }
  | _ => none }
def gunTimesRow : OpenClaim := { program := "ytndlfijfjglkdaagreatdoor", sum := "0ac3895a285d643c2402f5042a9ea37c1dfe55c3327f71aca846382a1da0c7e6", func := "moveout/moveoutlaw03.GunTimes", spec := "gunTimes", inPlace := ["internal/abi.NoEscape", "internal/bytealg.MakeNoZero"], unfollowed := true, recurses := true, named := ["moveout/gun.names", "internal/strconv.uint64pow10", "math/bits.deBruijn32tab", "math/bits.deBruijn64tab"], apart := false, laid := [("math/bits.deBruijn32tab", laid_math_bits_deBruijn32tab), ("math/bits.deBruijn64tab", laid_math_bits_deBruijn64tab), ("internal/strconv.uint64pow10", laid_internal_strconv_uint64pow10), ("moveout/gun.names", laid_moveout_gun_names)] }
def GunTimesSaid : Prop := gunTimesRow.holds Tryz.pinned (OpenSpec.ofChange gunTimesSpec)

/-- ITS FALSE NEIGHBOUR: 'it returns false'. Refute it at one input. -/
def gunTimesWrong : ChangeSpec := { name := "gunTimes", fn := fun _ => fun
  | [d1, d2, d3] => { results := [.lit (.bool false)], args := [d1, d2, d3] }
  | _ => none }
def GunTimesWrongFalsely : Prop := gunTimesRow.holds Tryz.pinned (OpenSpec.ofChange gunTimesWrong)

/-- 'moveoutlaw03.GunReaches': WHATEVER THE INPUT: true; the input reads as it did. -/
def gunReachesSpec : ChangeSpec := { name := "gunReaches", fn := fun _ => fun
  | [d1, d2, d3] => { results := [.lit (.bool true)], args := [d1, d2, d3] }
  | _ => none }
def gunReachesRow : OpenClaim := { program := "ytndlfijfjglkdaagreatdoor", sum := "0ac3895a285d643c2402f5042a9ea37c1dfe55c3327f71aca846382a1da0c7e6", func := "moveout/moveoutlaw03.GunReaches", spec := "gunReaches", inPlace := ["internal/abi.NoEscape", "internal/bytealg.MakeNoZero"], unfollowed := true, recurses := true, named := ["moveout/gun.names", "internal/strconv.uint64pow10", "math/bits.deBruijn32tab", "math/bits.deBruijn64tab"], apart := false, laid := [("math/bits.deBruijn32tab", laid_math_bits_deBruijn32tab), ("math/bits.deBruijn64tab", laid_math_bits_deBruijn64tab), ("internal/strconv.uint64pow10", laid_internal_strconv_uint64pow10), ("moveout/gun.names", laid_moveout_gun_names)] }
def GunReachesSaid : Prop := gunReachesRow.holds Tryz.pinned (OpenSpec.ofChange gunReachesSpec)

/-- ITS FALSE NEIGHBOUR: 'it returns false'. Refute it at one input. -/
def gunReachesWrong : ChangeSpec := { name := "gunReaches", fn := fun _ => fun
  | [d1, d2, d3] => { results := [.lit (.bool false)], args := [d1, d2, d3] }
  | _ => none }
def GunReachesWrongFalsely : Prop := gunReachesRow.holds Tryz.pinned (OpenSpec.ofChange gunReachesWrong)

/-- 'moveoutlaw03.GunStarts': WHATEVER THE INPUT: true; the input reads as it did. -/
def gunStartsSpec : ChangeSpec := { name := "gunStarts", fn := fun _ => fun
  | [d1, d2] => { results := [.lit (.bool true)], args := [d1, d2] }
  | _ => none }
def gunStartsRow : OpenClaim := { program := "ytndlfijfjglkdaagreatdoor", sum := "0ac3895a285d643c2402f5042a9ea37c1dfe55c3327f71aca846382a1da0c7e6", func := "moveout/moveoutlaw03.GunStarts", spec := "gunStarts", inPlace := ["internal/abi.NoEscape", "internal/bytealg.MakeNoZero"], unfollowed := true, recurses := true, named := ["moveout/gun.names", "internal/strconv.uint64pow10", "math/bits.deBruijn32tab", "math/bits.deBruijn64tab"], apart := false, laid := [("math/bits.deBruijn32tab", laid_math_bits_deBruijn32tab), ("math/bits.deBruijn64tab", laid_math_bits_deBruijn64tab), ("internal/strconv.uint64pow10", laid_internal_strconv_uint64pow10), ("moveout/gun.names", laid_moveout_gun_names)] }
def GunStartsSaid : Prop := gunStartsRow.holds Tryz.pinned (OpenSpec.ofChange gunStartsSpec)

/-- ITS FALSE NEIGHBOUR: 'it returns false'. Refute it at one input. -/
def gunStartsWrong : ChangeSpec := { name := "gunStarts", fn := fun _ => fun
  | [d1, d2] => { results := [.lit (.bool false)], args := [d1, d2] }
  | _ => none }
def GunStartsWrongFalsely : Prop := gunStartsRow.holds Tryz.pinned (OpenSpec.ofChange gunStartsWrong)

/-- 'moveoutlaw03.GunSoft': WHATEVER THE INPUT: true; the input reads as it did. -/
def gunSoftSpec : ChangeSpec := { name := "gunSoft", fn := fun _ => fun
  | [d1, d2] => { results := [.lit (.bool true)], args := [d1, d2] }
  | _ => none }
def gunSoftRow : OpenClaim := { program := "ytndlfijfjglkdaagreatdoor", sum := "0ac3895a285d643c2402f5042a9ea37c1dfe55c3327f71aca846382a1da0c7e6", func := "moveout/moveoutlaw03.GunSoft", spec := "gunSoft", inPlace := ["internal/abi.NoEscape", "internal/bytealg.MakeNoZero"], unfollowed := true, recurses := true, named := ["moveout/gun.names", "internal/strconv.uint64pow10", "math/bits.deBruijn32tab", "math/bits.deBruijn64tab"], apart := false, laid := [("math/bits.deBruijn32tab", laid_math_bits_deBruijn32tab), ("math/bits.deBruijn64tab", laid_math_bits_deBruijn64tab), ("internal/strconv.uint64pow10", laid_internal_strconv_uint64pow10), ("moveout/gun.names", laid_moveout_gun_names)] }
def GunSoftSaid : Prop := gunSoftRow.holds Tryz.pinned (OpenSpec.ofChange gunSoftSpec)

/-- ITS FALSE NEIGHBOUR: 'it returns false'. Refute it at one input. -/
def gunSoftWrong : ChangeSpec := { name := "gunSoft", fn := fun _ => fun
  | [d1, d2] => { results := [.lit (.bool false)], args := [d1, d2] }
  | _ => none }
def GunSoftWrongFalsely : Prop := gunSoftRow.holds Tryz.pinned (OpenSpec.ofChange gunSoftWrong)

/-- 'moveoutlaw03.GunExplains': WHATEVER THE INPUT: true; the input reads as it did. -/
def gunExplainsSpec : ChangeSpec := { name := "gunExplains", fn := fun _ => fun
  | [d1, d2, d3] => { results := [.lit (.bool true)], args := [d1, d2, d3] }
  | _ => none }
def gunExplainsRow : OpenClaim := { program := "ytndlfijfjglkdaagreatdoor", sum := "0ac3895a285d643c2402f5042a9ea37c1dfe55c3327f71aca846382a1da0c7e6", func := "moveout/moveoutlaw03.GunExplains", spec := "gunExplains", inPlace := ["internal/abi.NoEscape", "internal/bytealg.MakeNoZero", "math.Float64bits", "math.Float64frombits", "math.archFloor", "math.archTrunc"], unfollowed := true, recurses := true, named := ["moveout/gun.names", "internal/strconv.uint64pow10", "math/bits.deBruijn32tab", "math/bits.deBruijn64tab"], apart := false, laid := [("math/bits.deBruijn32tab", laid_math_bits_deBruijn32tab), ("math/bits.deBruijn64tab", laid_math_bits_deBruijn64tab), ("internal/strconv.uint64pow10", laid_internal_strconv_uint64pow10), ("moveout/gun.names", laid_moveout_gun_names)] }
def GunExplainsSaid : Prop := gunExplainsRow.holds Tryz.pinned (OpenSpec.ofChange gunExplainsSpec)

/-- ITS FALSE NEIGHBOUR: 'it returns false'. Refute it at one input. -/
def gunExplainsWrong : ChangeSpec := { name := "gunExplains", fn := fun _ => fun
  | [d1, d2, d3] => { results := [.lit (.bool false)], args := [d1, d2, d3] }
  | _ => none }
def GunExplainsWrongFalsely : Prop := gunExplainsRow.holds Tryz.pinned (OpenSpec.ofChange gunExplainsWrong)

/-- 'moveoutlaw03.GunEncloses': WHATEVER THE INPUT: true; the input reads as it did. -/
def gunEnclosesSpec : ChangeSpec := { name := "gunEncloses", fn := fun _ => fun
  | [d1, d2] => { results := [.lit (.bool true)], args := [d1, d2] }
  | _ => none }
def gunEnclosesRow : OpenClaim := { program := "ytndlfijfjglkdaagreatdoor", sum := "0ac3895a285d643c2402f5042a9ea37c1dfe55c3327f71aca846382a1da0c7e6", func := "moveout/moveoutlaw03.GunEncloses", spec := "gunEncloses", inPlace := ["internal/abi.NoEscape", "internal/bytealg.MakeNoZero", "math.Float64bits", "math.Float64frombits", "math.archFloor", "math.archTrunc"], unfollowed := true, recurses := true, named := ["moveout/gun.names", "internal/strconv.uint64pow10", "math/bits.deBruijn32tab", "math/bits.deBruijn64tab"], apart := false, laid := [("math/bits.deBruijn32tab", laid_math_bits_deBruijn32tab), ("math/bits.deBruijn64tab", laid_math_bits_deBruijn64tab), ("internal/strconv.uint64pow10", laid_internal_strconv_uint64pow10), ("moveout/gun.names", laid_moveout_gun_names)] }
def GunEnclosesSaid : Prop := gunEnclosesRow.holds Tryz.pinned (OpenSpec.ofChange gunEnclosesSpec)

/-- ITS FALSE NEIGHBOUR: 'it returns false'. Refute it at one input. -/
def gunEnclosesWrong : ChangeSpec := { name := "gunEncloses", fn := fun _ => fun
  | [d1, d2] => { results := [.lit (.bool false)], args := [d1, d2] }
  | _ => none }
def GunEnclosesWrongFalsely : Prop := gunEnclosesRow.holds Tryz.pinned (OpenSpec.ofChange gunEnclosesWrong)

/-- 'moveoutlaw03.GunAccepts': WHATEVER THE INPUT: true; the input reads as it did. -/
def gunAcceptsSpec : ChangeSpec := { name := "gunAccepts", fn := fun _ => fun
  | [d1, d2, d3] => { results := [.lit (.bool true)], args := [d1, d2, d3] }
  | _ => none }
def gunAcceptsRow : OpenClaim := { program := "ytndlfijfjglkdaagreatdoor", sum := "0ac3895a285d643c2402f5042a9ea37c1dfe55c3327f71aca846382a1da0c7e6", func := "moveout/moveoutlaw03.GunAccepts", spec := "gunAccepts", inPlace := ["internal/abi.NoEscape", "internal/bytealg.MakeNoZero"], unfollowed := true, recurses := true, named := ["moveout/gun.names", "internal/strconv.uint64pow10", "math/bits.deBruijn32tab", "math/bits.deBruijn64tab"], apart := false, laid := [("math/bits.deBruijn32tab", laid_math_bits_deBruijn32tab), ("math/bits.deBruijn64tab", laid_math_bits_deBruijn64tab), ("internal/strconv.uint64pow10", laid_internal_strconv_uint64pow10), ("moveout/gun.names", laid_moveout_gun_names)] }
def GunAcceptsSaid : Prop := gunAcceptsRow.holds Tryz.pinned (OpenSpec.ofChange gunAcceptsSpec)

/-- ITS FALSE NEIGHBOUR: 'it returns false'. Refute it at one input. -/
def gunAcceptsWrong : ChangeSpec := { name := "gunAccepts", fn := fun _ => fun
  | [d1, d2, d3] => { results := [.lit (.bool false)], args := [d1, d2, d3] }
  | _ => none }
def GunAcceptsWrongFalsely : Prop := gunAcceptsRow.holds Tryz.pinned (OpenSpec.ofChange gunAcceptsWrong)

/-- 'moveoutlaw03.GunDrops': WHATEVER THE INPUT: true; the input reads as it did. -/
def gunDropsSpec : ChangeSpec := { name := "gunDrops", fn := fun _ => fun
  | [d1, d2, d3] => { results := [.lit (.bool true)], args := [d1, d2, d3] }
  | _ => none }
def gunDropsRow : OpenClaim := { program := "ytndlfijfjglkdaagreatdoor", sum := "0ac3895a285d643c2402f5042a9ea37c1dfe55c3327f71aca846382a1da0c7e6", func := "moveout/moveoutlaw03.GunDrops", spec := "gunDrops", inPlace := ["internal/abi.NoEscape", "internal/bytealg.MakeNoZero"], unfollowed := true, recurses := true, named := ["moveout/gun.names", "internal/strconv.uint64pow10", "math/bits.deBruijn32tab", "math/bits.deBruijn64tab"], apart := false, laid := [("math/bits.deBruijn32tab", laid_math_bits_deBruijn32tab), ("math/bits.deBruijn64tab", laid_math_bits_deBruijn64tab), ("internal/strconv.uint64pow10", laid_internal_strconv_uint64pow10), ("moveout/gun.names", laid_moveout_gun_names)] }
def GunDropsSaid : Prop := gunDropsRow.holds Tryz.pinned (OpenSpec.ofChange gunDropsSpec)

/-- ITS FALSE NEIGHBOUR: 'it returns false'. Refute it at one input. -/
def gunDropsWrong : ChangeSpec := { name := "gunDrops", fn := fun _ => fun
  | [d1, d2, d3] => { results := [.lit (.bool false)], args := [d1, d2, d3] }
  | _ => none }
def GunDropsWrongFalsely : Prop := gunDropsRow.holds Tryz.pinned (OpenSpec.ofChange gunDropsWrong)

/-- 'moveoutlaw03.GunTexts': WHATEVER THE INPUT: true; the input reads as it did. -/
def gunTextsSpec : ChangeSpec := { name := "gunTexts", fn := fun _ => fun
  | [d1, d2] => { results := [.lit (.bool true)], args := [d1, d2] }
  | _ => none }
def gunTextsRow : OpenClaim := { program := "ytndlfijfjglkdaagreatdoor", sum := "0ac3895a285d643c2402f5042a9ea37c1dfe55c3327f71aca846382a1da0c7e6", func := "moveout/moveoutlaw03.GunTexts", spec := "gunTexts", inPlace := ["internal/abi.NoEscape", "internal/bytealg.MakeNoZero", "internal/bytealg.IndexByteString", "internal/bytealg.CountString", "internal/bytealg.IndexString"], unfollowed := true, recurses := true, named := ["moveout/gun.names", "internal/strconv.uint64pow10", "math/bits.deBruijn32tab", "math/bits.deBruijn64tab", "unicode/utf8.first", "unicode/utf8.acceptRanges", "internal/bytealg.MaxLen", "strconv.ErrSyntax", "strconv.ErrRange"], apart := false, laid := [("math/bits.deBruijn32tab", laid_math_bits_deBruijn32tab), ("math/bits.deBruijn64tab", laid_math_bits_deBruijn64tab), ("internal/strconv.uint64pow10", laid_internal_strconv_uint64pow10), ("unicode/utf8.acceptRanges", laid_unicode_utf8_acceptRanges), ("strconv.ErrRange", laid_strconv_ErrRange), ("strconv.ErrSyntax", laid_strconv_ErrSyntax), ("moveout/gun.names", laid_moveout_gun_names), ("unicode/utf8.first", laid_unicode_utf8_first)] }
def GunTextsSaid : Prop := gunTextsRow.holds Tryz.pinned (OpenSpec.ofChange gunTextsSpec)

/-- ITS FALSE NEIGHBOUR: 'it returns false'. Refute it at one input. -/
def gunTextsWrong : ChangeSpec := { name := "gunTexts", fn := fun _ => fun
  | [d1, d2] => { results := [.lit (.bool false)], args := [d1, d2] }
  | _ => none }
def GunTextsWrongFalsely : Prop := gunTextsRow.holds Tryz.pinned (OpenSpec.ofChange gunTextsWrong)

/-- 'moveoutlaw03.GunBack': WHATEVER THE INPUT: true; the input reads as it did. -/
def gunBackSpec : ChangeSpec := { name := "gunBack", fn := fun _ => fun
  | [d1, d2] => { results := [.lit (.bool true)], args := [d1, d2] }
  | _ => none }
def gunBackRow : OpenClaim := { program := "ytndlfijfjglkdaagreatdoor", sum := "0ac3895a285d643c2402f5042a9ea37c1dfe55c3327f71aca846382a1da0c7e6", func := "moveout/moveoutlaw03.GunBack", spec := "gunBack", inPlace := ["internal/abi.NoEscape", "internal/bytealg.MakeNoZero", "internal/bytealg.IndexByteString", "internal/bytealg.CountString", "internal/bytealg.IndexString"], unfollowed := true, recurses := true, named := ["moveout/gun.names", "internal/strconv.uint64pow10", "math/bits.deBruijn32tab", "math/bits.deBruijn64tab", "unicode/utf8.first", "unicode/utf8.acceptRanges", "internal/bytealg.MaxLen", "strconv.ErrSyntax", "strconv.ErrRange"], apart := false, laid := [("math/bits.deBruijn32tab", laid_math_bits_deBruijn32tab), ("math/bits.deBruijn64tab", laid_math_bits_deBruijn64tab), ("internal/strconv.uint64pow10", laid_internal_strconv_uint64pow10), ("unicode/utf8.acceptRanges", laid_unicode_utf8_acceptRanges), ("strconv.ErrRange", laid_strconv_ErrRange), ("strconv.ErrSyntax", laid_strconv_ErrSyntax), ("moveout/gun.names", laid_moveout_gun_names), ("unicode/utf8.first", laid_unicode_utf8_first)] }
def GunBackSaid : Prop := gunBackRow.holds Tryz.pinned (OpenSpec.ofChange gunBackSpec)

/-- ITS FALSE NEIGHBOUR: 'it returns false'. Refute it at one input. -/
def gunBackWrong : ChangeSpec := { name := "gunBack", fn := fun _ => fun
  | [d1, d2] => { results := [.lit (.bool false)], args := [d1, d2] }
  | _ => none }
def GunBackWrongFalsely : Prop := gunBackRow.holds Tryz.pinned (OpenSpec.ofChange gunBackWrong)

/- THE SECOND FORM. 'bulk': how many values and letters a reading holds, each counted each time it is reached (what is shared counts as often as it is met; a slice's spare places count too). A statement '..UptoSaid' is the law's where the arguments, and the package variables that the reading takes, are together of bulk at most 1048576: NARROWER than '..Said'. Prove '..Said' where nothing that the law and all that it calls make is longer than what came in: it says more and counts as full. Else prove '..UptoSaid'. A law counts once. -/
mutual
def uptoBulk {H : Type} : DataW H → Nat
  | .lit (.string bytes) => bytes.length + 1
  | .lit _ => 1
  | .nil => 1
  | .ptr d => uptoBulk d + 1
  | .slice elems spare => uptoBulkAll elems + uptoBulkAll spare + 1
  | .agg parts => uptoBulkAll parts + 1
  | .iface _ d => uptoBulk d + 1
  | .map entries => uptoBulkEntries entries + 1
  | .held _ => 1
def uptoBulkAll {H : Type} : List (DataW H) → Nat
  | [] => 0
  | d :: r => uptoBulk d + uptoBulkAll r
def uptoBulkEntries {H : Type} : List (Lit × DataW H) → Nat
  | [] => 0
  | x :: r => uptoBulkEntry x + uptoBulkEntries r
def uptoBulkEntry {H : Type} : Lit × DataW H → Nat
  | (.string bytes, d) => bytes.length + uptoBulk d + 1
  | (_, d) => uptoBulk d + 1
 end
def uptoSmall : (H : Type) → List (DataW H) → Bool := fun _ ds => decide (uptoBulkAll ds ≤ 1048576)
def OpenSpec.upto (s : _root_.Go.ChangeSpec) : _root_.Go.OpenSpec := { _root_.Go.OpenSpec.ofChange s with cond := some uptoSmall }

/-- 'moveoutlaw03.GunStrings', WHERE WHAT IT READS IS OF BULK AT MOST 1048576: true; the input reads as it did. -/
def gunStringsUptoRow : OpenClaim := { program := "ytndlfijfjglkdaagreatdoor", sum := "0ac3895a285d643c2402f5042a9ea37c1dfe55c3327f71aca846382a1da0c7e6", func := "moveout/moveoutlaw03.GunStrings", spec := "gunStrings", inPlace := ["internal/abi.NoEscape", "internal/bytealg.MakeNoZero"], unfollowed := true, recurses := true, named := ["moveout/gun.names", "internal/strconv.uint64pow10", "math/bits.deBruijn32tab", "math/bits.deBruijn64tab"], apart := false, laid := [("math/bits.deBruijn32tab", laid_math_bits_deBruijn32tab), ("math/bits.deBruijn64tab", laid_math_bits_deBruijn64tab), ("internal/strconv.uint64pow10", laid_internal_strconv_uint64pow10), ("moveout/gun.names", laid_moveout_gun_names)], narrowed := true }
def GunStringsUptoSaid : Prop := gunStringsUptoRow.holds Tryz.pinned (OpenSpec.upto gunStringsSpec)

/-- 'moveoutlaw03.GunBubbles', WHERE WHAT IT READS IS OF BULK AT MOST 1048576: true; the input reads as it did. -/
def gunBubblesUptoRow : OpenClaim := { program := "ytndlfijfjglkdaagreatdoor", sum := "0ac3895a285d643c2402f5042a9ea37c1dfe55c3327f71aca846382a1da0c7e6", func := "moveout/moveoutlaw03.GunBubbles", spec := "gunBubbles", inPlace := ["internal/abi.NoEscape", "internal/bytealg.MakeNoZero"], unfollowed := true, recurses := true, named := ["moveout/gun.names", "internal/strconv.uint64pow10", "math/bits.deBruijn32tab", "math/bits.deBruijn64tab"], apart := false, laid := [("math/bits.deBruijn32tab", laid_math_bits_deBruijn32tab), ("math/bits.deBruijn64tab", laid_math_bits_deBruijn64tab), ("internal/strconv.uint64pow10", laid_internal_strconv_uint64pow10), ("moveout/gun.names", laid_moveout_gun_names)], narrowed := true }
def GunBubblesUptoSaid : Prop := gunBubblesUptoRow.holds Tryz.pinned (OpenSpec.upto gunBubblesSpec)

/-- 'moveoutlaw03.GunSignatures', WHERE WHAT IT READS IS OF BULK AT MOST 1048576: true; the input reads as it did. -/
def gunSignaturesUptoRow : OpenClaim := { program := "ytndlfijfjglkdaagreatdoor", sum := "0ac3895a285d643c2402f5042a9ea37c1dfe55c3327f71aca846382a1da0c7e6", func := "moveout/moveoutlaw03.GunSignatures", spec := "gunSignatures", inPlace := ["internal/abi.NoEscape", "internal/bytealg.MakeNoZero"], unfollowed := true, recurses := true, named := ["moveout/gun.names", "internal/strconv.uint64pow10", "math/bits.deBruijn32tab", "math/bits.deBruijn64tab"], apart := false, laid := [("math/bits.deBruijn32tab", laid_math_bits_deBruijn32tab), ("math/bits.deBruijn64tab", laid_math_bits_deBruijn64tab), ("internal/strconv.uint64pow10", laid_internal_strconv_uint64pow10), ("moveout/gun.names", laid_moveout_gun_names)], narrowed := true }
def GunSignaturesUptoSaid : Prop := gunSignaturesUptoRow.holds Tryz.pinned (OpenSpec.upto gunSignaturesSpec)

/-- 'moveoutlaw03.GunLines', WHERE WHAT IT READS IS OF BULK AT MOST 1048576: true; the input reads as it did. -/
def gunLinesUptoRow : OpenClaim := { program := "ytndlfijfjglkdaagreatdoor", sum := "0ac3895a285d643c2402f5042a9ea37c1dfe55c3327f71aca846382a1da0c7e6", func := "moveout/moveoutlaw03.GunLines", spec := "gunLines", inPlace := ["internal/abi.NoEscape", "internal/bytealg.MakeNoZero"], unfollowed := true, recurses := true, named := ["moveout/gun.names", "internal/strconv.uint64pow10", "math/bits.deBruijn32tab", "math/bits.deBruijn64tab"], apart := false, laid := [("math/bits.deBruijn32tab", laid_math_bits_deBruijn32tab), ("math/bits.deBruijn64tab", laid_math_bits_deBruijn64tab), ("internal/strconv.uint64pow10", laid_internal_strconv_uint64pow10), ("moveout/gun.names", laid_moveout_gun_names)], narrowed := true }
def GunLinesUptoSaid : Prop := gunLinesUptoRow.holds Tryz.pinned (OpenSpec.upto gunLinesSpec)

/-- 'moveoutlaw03.GunMoves', WHERE WHAT IT READS IS OF BULK AT MOST 1048576: true; the input reads as it did. -/
def gunMovesUptoRow : OpenClaim := { program := "ytndlfijfjglkdaagreatdoor", sum := "0ac3895a285d643c2402f5042a9ea37c1dfe55c3327f71aca846382a1da0c7e6", func := "moveout/moveoutlaw03.GunMoves", spec := "gunMoves", inPlace := ["internal/abi.NoEscape", "internal/bytealg.MakeNoZero"], unfollowed := true, recurses := true, named := ["moveout/gun.names", "internal/strconv.uint64pow10", "math/bits.deBruijn32tab", "math/bits.deBruijn64tab"], apart := false, laid := [("math/bits.deBruijn32tab", laid_math_bits_deBruijn32tab), ("math/bits.deBruijn64tab", laid_math_bits_deBruijn64tab), ("internal/strconv.uint64pow10", laid_internal_strconv_uint64pow10), ("moveout/gun.names", laid_moveout_gun_names)], narrowed := true }
def GunMovesUptoSaid : Prop := gunMovesUptoRow.holds Tryz.pinned (OpenSpec.upto gunMovesSpec)

/-- 'moveoutlaw03.GunTimes', WHERE WHAT IT READS IS OF BULK AT MOST 1048576: true; the input reads as it did. -/
def gunTimesUptoRow : OpenClaim := { program := "ytndlfijfjglkdaagreatdoor", sum := "0ac3895a285d643c2402f5042a9ea37c1dfe55c3327f71aca846382a1da0c7e6", func := "moveout/moveoutlaw03.GunTimes", spec := "gunTimes", inPlace := ["internal/abi.NoEscape", "internal/bytealg.MakeNoZero"], unfollowed := true, recurses := true, named := ["moveout/gun.names", "internal/strconv.uint64pow10", "math/bits.deBruijn32tab", "math/bits.deBruijn64tab"], apart := false, laid := [("math/bits.deBruijn32tab", laid_math_bits_deBruijn32tab), ("math/bits.deBruijn64tab", laid_math_bits_deBruijn64tab), ("internal/strconv.uint64pow10", laid_internal_strconv_uint64pow10), ("moveout/gun.names", laid_moveout_gun_names)], narrowed := true }
def GunTimesUptoSaid : Prop := gunTimesUptoRow.holds Tryz.pinned (OpenSpec.upto gunTimesSpec)

/-- 'moveoutlaw03.GunReaches', WHERE WHAT IT READS IS OF BULK AT MOST 1048576: true; the input reads as it did. -/
def gunReachesUptoRow : OpenClaim := { program := "ytndlfijfjglkdaagreatdoor", sum := "0ac3895a285d643c2402f5042a9ea37c1dfe55c3327f71aca846382a1da0c7e6", func := "moveout/moveoutlaw03.GunReaches", spec := "gunReaches", inPlace := ["internal/abi.NoEscape", "internal/bytealg.MakeNoZero"], unfollowed := true, recurses := true, named := ["moveout/gun.names", "internal/strconv.uint64pow10", "math/bits.deBruijn32tab", "math/bits.deBruijn64tab"], apart := false, laid := [("math/bits.deBruijn32tab", laid_math_bits_deBruijn32tab), ("math/bits.deBruijn64tab", laid_math_bits_deBruijn64tab), ("internal/strconv.uint64pow10", laid_internal_strconv_uint64pow10), ("moveout/gun.names", laid_moveout_gun_names)], narrowed := true }
def GunReachesUptoSaid : Prop := gunReachesUptoRow.holds Tryz.pinned (OpenSpec.upto gunReachesSpec)

/-- 'moveoutlaw03.GunStarts', WHERE WHAT IT READS IS OF BULK AT MOST 1048576: true; the input reads as it did. -/
def gunStartsUptoRow : OpenClaim := { program := "ytndlfijfjglkdaagreatdoor", sum := "0ac3895a285d643c2402f5042a9ea37c1dfe55c3327f71aca846382a1da0c7e6", func := "moveout/moveoutlaw03.GunStarts", spec := "gunStarts", inPlace := ["internal/abi.NoEscape", "internal/bytealg.MakeNoZero"], unfollowed := true, recurses := true, named := ["moveout/gun.names", "internal/strconv.uint64pow10", "math/bits.deBruijn32tab", "math/bits.deBruijn64tab"], apart := false, laid := [("math/bits.deBruijn32tab", laid_math_bits_deBruijn32tab), ("math/bits.deBruijn64tab", laid_math_bits_deBruijn64tab), ("internal/strconv.uint64pow10", laid_internal_strconv_uint64pow10), ("moveout/gun.names", laid_moveout_gun_names)], narrowed := true }
def GunStartsUptoSaid : Prop := gunStartsUptoRow.holds Tryz.pinned (OpenSpec.upto gunStartsSpec)

/-- 'moveoutlaw03.GunSoft', WHERE WHAT IT READS IS OF BULK AT MOST 1048576: true; the input reads as it did. -/
def gunSoftUptoRow : OpenClaim := { program := "ytndlfijfjglkdaagreatdoor", sum := "0ac3895a285d643c2402f5042a9ea37c1dfe55c3327f71aca846382a1da0c7e6", func := "moveout/moveoutlaw03.GunSoft", spec := "gunSoft", inPlace := ["internal/abi.NoEscape", "internal/bytealg.MakeNoZero"], unfollowed := true, recurses := true, named := ["moveout/gun.names", "internal/strconv.uint64pow10", "math/bits.deBruijn32tab", "math/bits.deBruijn64tab"], apart := false, laid := [("math/bits.deBruijn32tab", laid_math_bits_deBruijn32tab), ("math/bits.deBruijn64tab", laid_math_bits_deBruijn64tab), ("internal/strconv.uint64pow10", laid_internal_strconv_uint64pow10), ("moveout/gun.names", laid_moveout_gun_names)], narrowed := true }
def GunSoftUptoSaid : Prop := gunSoftUptoRow.holds Tryz.pinned (OpenSpec.upto gunSoftSpec)

/-- 'moveoutlaw03.GunExplains', WHERE WHAT IT READS IS OF BULK AT MOST 1048576: true; the input reads as it did. -/
def gunExplainsUptoRow : OpenClaim := { program := "ytndlfijfjglkdaagreatdoor", sum := "0ac3895a285d643c2402f5042a9ea37c1dfe55c3327f71aca846382a1da0c7e6", func := "moveout/moveoutlaw03.GunExplains", spec := "gunExplains", inPlace := ["internal/abi.NoEscape", "internal/bytealg.MakeNoZero", "math.Float64bits", "math.Float64frombits", "math.archFloor", "math.archTrunc"], unfollowed := true, recurses := true, named := ["moveout/gun.names", "internal/strconv.uint64pow10", "math/bits.deBruijn32tab", "math/bits.deBruijn64tab"], apart := false, laid := [("math/bits.deBruijn32tab", laid_math_bits_deBruijn32tab), ("math/bits.deBruijn64tab", laid_math_bits_deBruijn64tab), ("internal/strconv.uint64pow10", laid_internal_strconv_uint64pow10), ("moveout/gun.names", laid_moveout_gun_names)], narrowed := true }
def GunExplainsUptoSaid : Prop := gunExplainsUptoRow.holds Tryz.pinned (OpenSpec.upto gunExplainsSpec)

/-- 'moveoutlaw03.GunEncloses', WHERE WHAT IT READS IS OF BULK AT MOST 1048576: true; the input reads as it did. -/
def gunEnclosesUptoRow : OpenClaim := { program := "ytndlfijfjglkdaagreatdoor", sum := "0ac3895a285d643c2402f5042a9ea37c1dfe55c3327f71aca846382a1da0c7e6", func := "moveout/moveoutlaw03.GunEncloses", spec := "gunEncloses", inPlace := ["internal/abi.NoEscape", "internal/bytealg.MakeNoZero", "math.Float64bits", "math.Float64frombits", "math.archFloor", "math.archTrunc"], unfollowed := true, recurses := true, named := ["moveout/gun.names", "internal/strconv.uint64pow10", "math/bits.deBruijn32tab", "math/bits.deBruijn64tab"], apart := false, laid := [("math/bits.deBruijn32tab", laid_math_bits_deBruijn32tab), ("math/bits.deBruijn64tab", laid_math_bits_deBruijn64tab), ("internal/strconv.uint64pow10", laid_internal_strconv_uint64pow10), ("moveout/gun.names", laid_moveout_gun_names)], narrowed := true }
def GunEnclosesUptoSaid : Prop := gunEnclosesUptoRow.holds Tryz.pinned (OpenSpec.upto gunEnclosesSpec)

/-- 'moveoutlaw03.GunAccepts', WHERE WHAT IT READS IS OF BULK AT MOST 1048576: true; the input reads as it did. -/
def gunAcceptsUptoRow : OpenClaim := { program := "ytndlfijfjglkdaagreatdoor", sum := "0ac3895a285d643c2402f5042a9ea37c1dfe55c3327f71aca846382a1da0c7e6", func := "moveout/moveoutlaw03.GunAccepts", spec := "gunAccepts", inPlace := ["internal/abi.NoEscape", "internal/bytealg.MakeNoZero"], unfollowed := true, recurses := true, named := ["moveout/gun.names", "internal/strconv.uint64pow10", "math/bits.deBruijn32tab", "math/bits.deBruijn64tab"], apart := false, laid := [("math/bits.deBruijn32tab", laid_math_bits_deBruijn32tab), ("math/bits.deBruijn64tab", laid_math_bits_deBruijn64tab), ("internal/strconv.uint64pow10", laid_internal_strconv_uint64pow10), ("moveout/gun.names", laid_moveout_gun_names)], narrowed := true }
def GunAcceptsUptoSaid : Prop := gunAcceptsUptoRow.holds Tryz.pinned (OpenSpec.upto gunAcceptsSpec)

/-- 'moveoutlaw03.GunDrops', WHERE WHAT IT READS IS OF BULK AT MOST 1048576: true; the input reads as it did. -/
def gunDropsUptoRow : OpenClaim := { program := "ytndlfijfjglkdaagreatdoor", sum := "0ac3895a285d643c2402f5042a9ea37c1dfe55c3327f71aca846382a1da0c7e6", func := "moveout/moveoutlaw03.GunDrops", spec := "gunDrops", inPlace := ["internal/abi.NoEscape", "internal/bytealg.MakeNoZero"], unfollowed := true, recurses := true, named := ["moveout/gun.names", "internal/strconv.uint64pow10", "math/bits.deBruijn32tab", "math/bits.deBruijn64tab"], apart := false, laid := [("math/bits.deBruijn32tab", laid_math_bits_deBruijn32tab), ("math/bits.deBruijn64tab", laid_math_bits_deBruijn64tab), ("internal/strconv.uint64pow10", laid_internal_strconv_uint64pow10), ("moveout/gun.names", laid_moveout_gun_names)], narrowed := true }
def GunDropsUptoSaid : Prop := gunDropsUptoRow.holds Tryz.pinned (OpenSpec.upto gunDropsSpec)

/-- 'moveoutlaw03.GunTexts', WHERE WHAT IT READS IS OF BULK AT MOST 1048576: true; the input reads as it did. -/
def gunTextsUptoRow : OpenClaim := { program := "ytndlfijfjglkdaagreatdoor", sum := "0ac3895a285d643c2402f5042a9ea37c1dfe55c3327f71aca846382a1da0c7e6", func := "moveout/moveoutlaw03.GunTexts", spec := "gunTexts", inPlace := ["internal/abi.NoEscape", "internal/bytealg.MakeNoZero", "internal/bytealg.IndexByteString", "internal/bytealg.CountString", "internal/bytealg.IndexString"], unfollowed := true, recurses := true, named := ["moveout/gun.names", "internal/strconv.uint64pow10", "math/bits.deBruijn32tab", "math/bits.deBruijn64tab", "unicode/utf8.first", "unicode/utf8.acceptRanges", "internal/bytealg.MaxLen", "strconv.ErrSyntax", "strconv.ErrRange"], apart := false, laid := [("math/bits.deBruijn32tab", laid_math_bits_deBruijn32tab), ("math/bits.deBruijn64tab", laid_math_bits_deBruijn64tab), ("internal/strconv.uint64pow10", laid_internal_strconv_uint64pow10), ("unicode/utf8.acceptRanges", laid_unicode_utf8_acceptRanges), ("strconv.ErrRange", laid_strconv_ErrRange), ("strconv.ErrSyntax", laid_strconv_ErrSyntax), ("moveout/gun.names", laid_moveout_gun_names), ("unicode/utf8.first", laid_unicode_utf8_first)], narrowed := true }
def GunTextsUptoSaid : Prop := gunTextsUptoRow.holds Tryz.pinned (OpenSpec.upto gunTextsSpec)

/-- 'moveoutlaw03.GunBack', WHERE WHAT IT READS IS OF BULK AT MOST 1048576: true; the input reads as it did. -/
def gunBackUptoRow : OpenClaim := { program := "ytndlfijfjglkdaagreatdoor", sum := "0ac3895a285d643c2402f5042a9ea37c1dfe55c3327f71aca846382a1da0c7e6", func := "moveout/moveoutlaw03.GunBack", spec := "gunBack", inPlace := ["internal/abi.NoEscape", "internal/bytealg.MakeNoZero", "internal/bytealg.IndexByteString", "internal/bytealg.CountString", "internal/bytealg.IndexString"], unfollowed := true, recurses := true, named := ["moveout/gun.names", "internal/strconv.uint64pow10", "math/bits.deBruijn32tab", "math/bits.deBruijn64tab", "unicode/utf8.first", "unicode/utf8.acceptRanges", "internal/bytealg.MaxLen", "strconv.ErrSyntax", "strconv.ErrRange"], apart := false, laid := [("math/bits.deBruijn32tab", laid_math_bits_deBruijn32tab), ("math/bits.deBruijn64tab", laid_math_bits_deBruijn64tab), ("internal/strconv.uint64pow10", laid_internal_strconv_uint64pow10), ("unicode/utf8.acceptRanges", laid_unicode_utf8_acceptRanges), ("strconv.ErrRange", laid_strconv_ErrRange), ("strconv.ErrSyntax", laid_strconv_ErrSyntax), ("moveout/gun.names", laid_moveout_gun_names), ("unicode/utf8.first", laid_unicode_utf8_first)], narrowed := true }
def GunBackUptoSaid : Prop := gunBackUptoRow.holds Tryz.pinned (OpenSpec.upto gunBackSpec)

end Rows
end Go.Proofs.YtndlfijfjglkdaaGreatDoor
