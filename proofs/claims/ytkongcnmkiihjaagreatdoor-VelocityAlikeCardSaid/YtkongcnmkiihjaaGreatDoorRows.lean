/-
  NARROWER THAN 'FOR EVERY INPUT', by the rows' own cells (each row's printed sentence says how): VelocityMoved: laid · VelocityPotentials: laid · VelocityHyperbolas: laid · VelocityPaths: laid · VelocityProved: laid · VelocityMoments: laid · VelocityExplained: laid · VelocityGathers: laid · VelocityPanels: laid · VelocityAlike: laid · VelocityTexts: laid · VelocityBack: laid.
  DERIVED. THE GIVEN ROWS OF THIS SEAT. 12 by the template 'for every input the law returns true; each argument reads behind the call as it read before'; 0 by the template 'total and deterministic' (their statements: YtkongcnmkiihjaaGreatDoorTotals.lean).
  GIVEN WITH THE SEED: the statements are not yours to turn. If you find one false, say at which input.
  Laid BY PROGRAM, IN A SANDBOX (cutbox-rows.mjs): the forced cells as the released guide's own fill.sh prints them over the translation 83f3746aad745e9e… (all of the seat's roots in one cut). By AI agents, Wed Nov 11 2026. No macro, syntax, notation, axiom, sorry.
-/
import Derived.Test.YtkongcnmkiihjaaGreatDoorChecked
import GoSem.PinnedTables
import GoSem.Claim
import GoSem.ClaimJoined
import GoSem.ClaimMapViews
import Derived.JoinedTies
import Derived.KernelRfl
namespace Go.Proofs.YtkongcnmkiihjaaGreatDoor
/- THE CELL 'sum', in the pinned program and in every row, IS THE sha256 OF THE DUMP (.gsa) THAT YtkongcnmkiihjaaGreatDoorProg.lean LOADS. Nothing in Lean hashes anything: it is a label: what it is worth is what the hold of that sum in a sandbox is worth. -/
noncomputable def Tryz.pinned : Pinned := { name := "ytkongcnmkiihjaagreatdoor", sum := "83f3746aad745e9e9ef2da92e3684efad78c2e8981d9b0f98eae96a73b1d3c5e", checked := Tryz.checked }
namespace Rows
def none {H : Type} : Left H := { results := [], args := [] }

/- WHAT THE LISTED PACKAGE-LEVEL VARIABLES READ AS WHEN THE CALL BEGINS. Each datum BY PROGRAM (the guide's laid-datum.mjs) off the statement by which the dump's own 'gosem.cut.vars' lays the variable. In a bare row this is a premise. The card (YtkongcnmkiihjaaGreatDoorCards.lean) ties it to the program's text. -/
def laid_math_bits_deBruijn32tab {H : Type} : DataW H := .agg [.lit (.int .u8 0), .lit (.int .u8 1), .lit (.int .u8 28), .lit (.int .u8 2), .lit (.int .u8 29), .lit (.int .u8 14), .lit (.int .u8 24), .lit (.int .u8 3), .lit (.int .u8 30), .lit (.int .u8 22), .lit (.int .u8 20), .lit (.int .u8 15), .lit (.int .u8 25), .lit (.int .u8 17), .lit (.int .u8 4), .lit (.int .u8 8), .lit (.int .u8 31), .lit (.int .u8 27), .lit (.int .u8 13), .lit (.int .u8 23), .lit (.int .u8 21), .lit (.int .u8 19), .lit (.int .u8 16), .lit (.int .u8 7), .lit (.int .u8 26), .lit (.int .u8 12), .lit (.int .u8 18), .lit (.int .u8 6), .lit (.int .u8 11), .lit (.int .u8 5), .lit (.int .u8 10), .lit (.int .u8 9)]
def laid_math_bits_deBruijn64tab {H : Type} : DataW H := .agg [.lit (.int .u8 0), .lit (.int .u8 1), .lit (.int .u8 56), .lit (.int .u8 2), .lit (.int .u8 57), .lit (.int .u8 49), .lit (.int .u8 28), .lit (.int .u8 3), .lit (.int .u8 61), .lit (.int .u8 58), .lit (.int .u8 42), .lit (.int .u8 50), .lit (.int .u8 38), .lit (.int .u8 29), .lit (.int .u8 17), .lit (.int .u8 4), .lit (.int .u8 62), .lit (.int .u8 47), .lit (.int .u8 59), .lit (.int .u8 36), .lit (.int .u8 45), .lit (.int .u8 43), .lit (.int .u8 51), .lit (.int .u8 22), .lit (.int .u8 53), .lit (.int .u8 39), .lit (.int .u8 33), .lit (.int .u8 30), .lit (.int .u8 24), .lit (.int .u8 18), .lit (.int .u8 12), .lit (.int .u8 5), .lit (.int .u8 63), .lit (.int .u8 55), .lit (.int .u8 48), .lit (.int .u8 27), .lit (.int .u8 60), .lit (.int .u8 41), .lit (.int .u8 37), .lit (.int .u8 16), .lit (.int .u8 46), .lit (.int .u8 35), .lit (.int .u8 44), .lit (.int .u8 21), .lit (.int .u8 52), .lit (.int .u8 32), .lit (.int .u8 23), .lit (.int .u8 11), .lit (.int .u8 54), .lit (.int .u8 26), .lit (.int .u8 40), .lit (.int .u8 15), .lit (.int .u8 34), .lit (.int .u8 20), .lit (.int .u8 31), .lit (.int .u8 10), .lit (.int .u8 25), .lit (.int .u8 14), .lit (.int .u8 19), .lit (.int .u8 9), .lit (.int .u8 13), .lit (.int .u8 8), .lit (.int .u8 7), .lit (.int .u8 6)]
def laid_internal_strconv_uint64pow10 {H : Type} : DataW H := .agg [.lit (.int .u64 1), .lit (.int .u64 10), .lit (.int .u64 100), .lit (.int .u64 1000), .lit (.int .u64 10000), .lit (.int .u64 100000), .lit (.int .u64 1000000), .lit (.int .u64 10000000), .lit (.int .u64 100000000), .lit (.int .u64 1000000000), .lit (.int .u64 10000000000), .lit (.int .u64 100000000000), .lit (.int .u64 1000000000000), .lit (.int .u64 10000000000000), .lit (.int .u64 100000000000000), .lit (.int .u64 1000000000000000), .lit (.int .u64 10000000000000000), .lit (.int .u64 100000000000000000), .lit (.int .u64 1000000000000000000), .lit (.int .u64 10000000000000000000)]
def laid_moveout_trace_ranges {H : Type} : DataW H := .agg [.agg [.lit (.int .i64 (-100000)), .lit (.int .i64 100000)], .agg [.lit (.int .i64 (-100000)), .lit (.int .i64 100000)], .agg [.lit (.int .i64 (-100000)), .lit (.int .i64 100000)], .agg [.lit (.int .i64 (-100000)), .lit (.int .i64 100000)], .agg [.lit (.int .i64 0), .lit (.int .i64 100000)], .agg [.lit (.int .i64 (-999999999)), .lit (.int .i64 999999999)], .agg [.lit (.int .i64 (-999999999)), .lit (.int .i64 999999999)], .agg [.lit (.int .i64 (-999999999)), .lit (.int .i64 999999999)]]
def laid_moveout_velocity_free {H : Type} : DataW H := .agg [.lit (.int .i64 16), .lit (.int .i64 16)]
def laid_unicode_utf8_acceptRanges {H : Type} : DataW H := .agg [.agg [.lit (.int .u8 128), .lit (.int .u8 191)], .agg [.lit (.int .u8 160), .lit (.int .u8 191)], .agg [.lit (.int .u8 128), .lit (.int .u8 159)], .agg [.lit (.int .u8 144), .lit (.int .u8 191)], .agg [.lit (.int .u8 128), .lit (.int .u8 143)], .agg [.lit (.int .u8 0), .lit (.int .u8 0)], .agg [.lit (.int .u8 0), .lit (.int .u8 0)], .agg [.lit (.int .u8 0), .lit (.int .u8 0)], .agg [.lit (.int .u8 0), .lit (.int .u8 0)], .agg [.lit (.int .u8 0), .lit (.int .u8 0)], .agg [.lit (.int .u8 0), .lit (.int .u8 0)], .agg [.lit (.int .u8 0), .lit (.int .u8 0)], .agg [.lit (.int .u8 0), .lit (.int .u8 0)], .agg [.lit (.int .u8 0), .lit (.int .u8 0)], .agg [.lit (.int .u8 0), .lit (.int .u8 0)], .agg [.lit (.int .u8 0), .lit (.int .u8 0)]]
/-- One of Go's own tables, pinned by name: the form's constant. -/
def laid_unicode_utf8_first : DataW Unit := Go.Pinned.utf8First

/-- 'moveoutlaw06.VelocityMoved': WHATEVER THE INPUT: true; the input reads as it did. -/
def velocityMovedSpec : ChangeSpec := { name := "velocityMoved", fn := fun _ => fun
  | [d1, d2] => { results := [.lit (.bool true)], args := [d1, d2] }
  | _ => none }
def velocityMovedRow : OpenClaim := { program := "ytkongcnmkiihjaagreatdoor", sum := "83f3746aad745e9e9ef2da92e3684efad78c2e8981d9b0f98eae96a73b1d3c5e", func := "moveout/moveoutlaw06.VelocityMoved", spec := "velocityMoved", inPlace := ["internal/abi.NoEscape", "internal/bytealg.MakeNoZero"], unfollowed := true, recurses := true, named := ["moveout/trace.ranges", "moveout/velocity.free", "internal/strconv.uint64pow10", "math/bits.deBruijn32tab", "math/bits.deBruijn64tab"], apart := false, laid := [("math/bits.deBruijn32tab", laid_math_bits_deBruijn32tab), ("math/bits.deBruijn64tab", laid_math_bits_deBruijn64tab), ("internal/strconv.uint64pow10", laid_internal_strconv_uint64pow10), ("moveout/trace.ranges", laid_moveout_trace_ranges), ("moveout/velocity.free", laid_moveout_velocity_free)] }
def VelocityMovedSaid : Prop := velocityMovedRow.holds Tryz.pinned (OpenSpec.ofChange velocityMovedSpec)

/-- ITS FALSE NEIGHBOUR: 'it returns false'. Refute it at one input. -/
def velocityMovedWrong : ChangeSpec := { name := "velocityMoved", fn := fun _ => fun
  | [d1, d2] => { results := [.lit (.bool false)], args := [d1, d2] }
  | _ => none }
def VelocityMovedWrongFalsely : Prop := velocityMovedRow.holds Tryz.pinned (OpenSpec.ofChange velocityMovedWrong)

/-- 'moveoutlaw06.VelocityPotentials': WHATEVER THE INPUT: true; the input reads as it did. -/
def velocityPotentialsSpec : ChangeSpec := { name := "velocityPotentials", fn := fun _ => fun
  | [d1, d2, d3] => { results := [.lit (.bool true)], args := [d1, d2, d3] }
  | _ => none }
def velocityPotentialsRow : OpenClaim := { program := "ytkongcnmkiihjaagreatdoor", sum := "83f3746aad745e9e9ef2da92e3684efad78c2e8981d9b0f98eae96a73b1d3c5e", func := "moveout/moveoutlaw06.VelocityPotentials", spec := "velocityPotentials", inPlace := ["internal/abi.NoEscape", "internal/bytealg.MakeNoZero"], unfollowed := true, recurses := true, named := ["moveout/trace.ranges", "moveout/velocity.free", "internal/strconv.uint64pow10", "math/bits.deBruijn32tab", "math/bits.deBruijn64tab"], apart := false, laid := [("math/bits.deBruijn32tab", laid_math_bits_deBruijn32tab), ("math/bits.deBruijn64tab", laid_math_bits_deBruijn64tab), ("internal/strconv.uint64pow10", laid_internal_strconv_uint64pow10), ("moveout/trace.ranges", laid_moveout_trace_ranges), ("moveout/velocity.free", laid_moveout_velocity_free)] }
def VelocityPotentialsSaid : Prop := velocityPotentialsRow.holds Tryz.pinned (OpenSpec.ofChange velocityPotentialsSpec)

/-- ITS FALSE NEIGHBOUR: 'it returns false'. Refute it at one input. -/
def velocityPotentialsWrong : ChangeSpec := { name := "velocityPotentials", fn := fun _ => fun
  | [d1, d2, d3] => { results := [.lit (.bool false)], args := [d1, d2, d3] }
  | _ => none }
def VelocityPotentialsWrongFalsely : Prop := velocityPotentialsRow.holds Tryz.pinned (OpenSpec.ofChange velocityPotentialsWrong)

/-- 'moveoutlaw06.VelocityHyperbolas': WHATEVER THE INPUT: true; the input reads as it did. -/
def velocityHyperbolasSpec : ChangeSpec := { name := "velocityHyperbolas", fn := fun _ => fun
  | [d1, d2, d3] => { results := [.lit (.bool true)], args := [d1, d2, d3] }
  | _ => none }
def velocityHyperbolasRow : OpenClaim := { program := "ytkongcnmkiihjaagreatdoor", sum := "83f3746aad745e9e9ef2da92e3684efad78c2e8981d9b0f98eae96a73b1d3c5e", func := "moveout/moveoutlaw06.VelocityHyperbolas", spec := "velocityHyperbolas", inPlace := ["internal/abi.NoEscape", "internal/bytealg.MakeNoZero"], unfollowed := true, recurses := true, named := ["moveout/trace.ranges", "moveout/velocity.free", "internal/strconv.uint64pow10", "math/bits.deBruijn32tab", "math/bits.deBruijn64tab"], apart := false, laid := [("math/bits.deBruijn32tab", laid_math_bits_deBruijn32tab), ("math/bits.deBruijn64tab", laid_math_bits_deBruijn64tab), ("internal/strconv.uint64pow10", laid_internal_strconv_uint64pow10), ("moveout/trace.ranges", laid_moveout_trace_ranges), ("moveout/velocity.free", laid_moveout_velocity_free)] }
def VelocityHyperbolasSaid : Prop := velocityHyperbolasRow.holds Tryz.pinned (OpenSpec.ofChange velocityHyperbolasSpec)

/-- ITS FALSE NEIGHBOUR: 'it returns false'. Refute it at one input. -/
def velocityHyperbolasWrong : ChangeSpec := { name := "velocityHyperbolas", fn := fun _ => fun
  | [d1, d2, d3] => { results := [.lit (.bool false)], args := [d1, d2, d3] }
  | _ => none }
def VelocityHyperbolasWrongFalsely : Prop := velocityHyperbolasRow.holds Tryz.pinned (OpenSpec.ofChange velocityHyperbolasWrong)

/-- 'moveoutlaw06.VelocityPaths': WHATEVER THE INPUT: true; the input reads as it did. -/
def velocityPathsSpec : ChangeSpec := { name := "velocityPaths", fn := fun _ => fun
  | [d1, d2, d3] => { results := [.lit (.bool true)], args := [d1, d2, d3] }
  | _ => none }
def velocityPathsRow : OpenClaim := { program := "ytkongcnmkiihjaagreatdoor", sum := "83f3746aad745e9e9ef2da92e3684efad78c2e8981d9b0f98eae96a73b1d3c5e", func := "moveout/moveoutlaw06.VelocityPaths", spec := "velocityPaths", inPlace := ["internal/abi.NoEscape", "internal/bytealg.MakeNoZero"], unfollowed := true, recurses := true, named := ["moveout/trace.ranges", "moveout/velocity.free", "internal/strconv.uint64pow10", "math/bits.deBruijn32tab", "math/bits.deBruijn64tab"], apart := false, laid := [("math/bits.deBruijn32tab", laid_math_bits_deBruijn32tab), ("math/bits.deBruijn64tab", laid_math_bits_deBruijn64tab), ("internal/strconv.uint64pow10", laid_internal_strconv_uint64pow10), ("moveout/trace.ranges", laid_moveout_trace_ranges), ("moveout/velocity.free", laid_moveout_velocity_free)] }
def VelocityPathsSaid : Prop := velocityPathsRow.holds Tryz.pinned (OpenSpec.ofChange velocityPathsSpec)

/-- ITS FALSE NEIGHBOUR: 'it returns false'. Refute it at one input. -/
def velocityPathsWrong : ChangeSpec := { name := "velocityPaths", fn := fun _ => fun
  | [d1, d2, d3] => { results := [.lit (.bool false)], args := [d1, d2, d3] }
  | _ => none }
def VelocityPathsWrongFalsely : Prop := velocityPathsRow.holds Tryz.pinned (OpenSpec.ofChange velocityPathsWrong)

/-- 'moveoutlaw06.VelocityProved': WHATEVER THE INPUT: true; the input reads as it did. -/
def velocityProvedSpec : ChangeSpec := { name := "velocityProved", fn := fun _ => fun
  | [d1, d2, d3] => { results := [.lit (.bool true)], args := [d1, d2, d3] }
  | _ => none }
def velocityProvedRow : OpenClaim := { program := "ytkongcnmkiihjaagreatdoor", sum := "83f3746aad745e9e9ef2da92e3684efad78c2e8981d9b0f98eae96a73b1d3c5e", func := "moveout/moveoutlaw06.VelocityProved", spec := "velocityProved", inPlace := ["internal/abi.NoEscape", "internal/bytealg.MakeNoZero"], unfollowed := true, recurses := true, named := ["moveout/trace.ranges", "moveout/velocity.free", "internal/strconv.uint64pow10", "math/bits.deBruijn32tab", "math/bits.deBruijn64tab"], apart := false, laid := [("math/bits.deBruijn32tab", laid_math_bits_deBruijn32tab), ("math/bits.deBruijn64tab", laid_math_bits_deBruijn64tab), ("internal/strconv.uint64pow10", laid_internal_strconv_uint64pow10), ("moveout/trace.ranges", laid_moveout_trace_ranges), ("moveout/velocity.free", laid_moveout_velocity_free)] }
def VelocityProvedSaid : Prop := velocityProvedRow.holds Tryz.pinned (OpenSpec.ofChange velocityProvedSpec)

/-- ITS FALSE NEIGHBOUR: 'it returns false'. Refute it at one input. -/
def velocityProvedWrong : ChangeSpec := { name := "velocityProved", fn := fun _ => fun
  | [d1, d2, d3] => { results := [.lit (.bool false)], args := [d1, d2, d3] }
  | _ => none }
def VelocityProvedWrongFalsely : Prop := velocityProvedRow.holds Tryz.pinned (OpenSpec.ofChange velocityProvedWrong)

/-- 'moveoutlaw06.VelocityMoments': WHATEVER THE INPUT: true; the input reads as it did. -/
def velocityMomentsSpec : ChangeSpec := { name := "velocityMoments", fn := fun _ => fun
  | [d1, d2, d3] => { results := [.lit (.bool true)], args := [d1, d2, d3] }
  | _ => none }
def velocityMomentsRow : OpenClaim := { program := "ytkongcnmkiihjaagreatdoor", sum := "83f3746aad745e9e9ef2da92e3684efad78c2e8981d9b0f98eae96a73b1d3c5e", func := "moveout/moveoutlaw06.VelocityMoments", spec := "velocityMoments", inPlace := ["internal/abi.NoEscape", "internal/bytealg.MakeNoZero"], unfollowed := true, recurses := true, named := ["moveout/trace.ranges", "moveout/velocity.free", "internal/strconv.uint64pow10", "math/bits.deBruijn32tab", "math/bits.deBruijn64tab"], apart := false, laid := [("math/bits.deBruijn32tab", laid_math_bits_deBruijn32tab), ("math/bits.deBruijn64tab", laid_math_bits_deBruijn64tab), ("internal/strconv.uint64pow10", laid_internal_strconv_uint64pow10), ("moveout/trace.ranges", laid_moveout_trace_ranges), ("moveout/velocity.free", laid_moveout_velocity_free)] }
def VelocityMomentsSaid : Prop := velocityMomentsRow.holds Tryz.pinned (OpenSpec.ofChange velocityMomentsSpec)

/-- ITS FALSE NEIGHBOUR: 'it returns false'. Refute it at one input. -/
def velocityMomentsWrong : ChangeSpec := { name := "velocityMoments", fn := fun _ => fun
  | [d1, d2, d3] => { results := [.lit (.bool false)], args := [d1, d2, d3] }
  | _ => none }
def VelocityMomentsWrongFalsely : Prop := velocityMomentsRow.holds Tryz.pinned (OpenSpec.ofChange velocityMomentsWrong)

/-- 'moveoutlaw06.VelocityExplained': WHATEVER THE INPUT: true; the input reads as it did. -/
def velocityExplainedSpec : ChangeSpec := { name := "velocityExplained", fn := fun _ => fun
  | [d1, d2, d3] => { results := [.lit (.bool true)], args := [d1, d2, d3] }
  | _ => none }
def velocityExplainedRow : OpenClaim := { program := "ytkongcnmkiihjaagreatdoor", sum := "83f3746aad745e9e9ef2da92e3684efad78c2e8981d9b0f98eae96a73b1d3c5e", func := "moveout/moveoutlaw06.VelocityExplained", spec := "velocityExplained", inPlace := ["internal/abi.NoEscape", "internal/bytealg.MakeNoZero"], unfollowed := true, recurses := true, named := ["moveout/trace.ranges", "moveout/velocity.free", "internal/strconv.uint64pow10", "math/bits.deBruijn32tab", "math/bits.deBruijn64tab"], apart := false, laid := [("math/bits.deBruijn32tab", laid_math_bits_deBruijn32tab), ("math/bits.deBruijn64tab", laid_math_bits_deBruijn64tab), ("internal/strconv.uint64pow10", laid_internal_strconv_uint64pow10), ("moveout/trace.ranges", laid_moveout_trace_ranges), ("moveout/velocity.free", laid_moveout_velocity_free)] }
def VelocityExplainedSaid : Prop := velocityExplainedRow.holds Tryz.pinned (OpenSpec.ofChange velocityExplainedSpec)

/-- ITS FALSE NEIGHBOUR: 'it returns false'. Refute it at one input. -/
def velocityExplainedWrong : ChangeSpec := { name := "velocityExplained", fn := fun _ => fun
  | [d1, d2, d3] => { results := [.lit (.bool false)], args := [d1, d2, d3] }
  | _ => none }
def VelocityExplainedWrongFalsely : Prop := velocityExplainedRow.holds Tryz.pinned (OpenSpec.ofChange velocityExplainedWrong)

/-- 'moveoutlaw06.VelocityGathers': WHATEVER THE INPUT: true; the input reads as it did. -/
def velocityGathersSpec : ChangeSpec := { name := "velocityGathers", fn := fun _ => fun
  | [d1, d2] => { results := [.lit (.bool true)], args := [d1, d2] }
  | _ => none }
def velocityGathersRow : OpenClaim := { program := "ytkongcnmkiihjaagreatdoor", sum := "83f3746aad745e9e9ef2da92e3684efad78c2e8981d9b0f98eae96a73b1d3c5e", func := "moveout/moveoutlaw06.VelocityGathers", spec := "velocityGathers", inPlace := ["internal/abi.NoEscape", "internal/bytealg.MakeNoZero", "math.Float64bits", "math.Float64frombits", "math.archFloor", "math.archTrunc"], unfollowed := true, recurses := true, named := ["moveout/trace.ranges", "moveout/velocity.free", "internal/strconv.uint64pow10", "math/bits.deBruijn32tab", "math/bits.deBruijn64tab"], apart := false, laid := [("math/bits.deBruijn32tab", laid_math_bits_deBruijn32tab), ("math/bits.deBruijn64tab", laid_math_bits_deBruijn64tab), ("internal/strconv.uint64pow10", laid_internal_strconv_uint64pow10), ("moveout/trace.ranges", laid_moveout_trace_ranges), ("moveout/velocity.free", laid_moveout_velocity_free)] }
def VelocityGathersSaid : Prop := velocityGathersRow.holds Tryz.pinned (OpenSpec.ofChange velocityGathersSpec)

/-- ITS FALSE NEIGHBOUR: 'it returns false'. Refute it at one input. -/
def velocityGathersWrong : ChangeSpec := { name := "velocityGathers", fn := fun _ => fun
  | [d1, d2] => { results := [.lit (.bool false)], args := [d1, d2] }
  | _ => none }
def VelocityGathersWrongFalsely : Prop := velocityGathersRow.holds Tryz.pinned (OpenSpec.ofChange velocityGathersWrong)

/-- 'moveoutlaw06.VelocityPanels': WHATEVER THE INPUT: true; the input reads as it did. -/
def velocityPanelsSpec : ChangeSpec := { name := "velocityPanels", fn := fun _ => fun
  | [d1, d2, d3] => { results := [.lit (.bool true)], args := [d1, d2, d3] }
  | _ => none }
def velocityPanelsRow : OpenClaim := { program := "ytkongcnmkiihjaagreatdoor", sum := "83f3746aad745e9e9ef2da92e3684efad78c2e8981d9b0f98eae96a73b1d3c5e", func := "moveout/moveoutlaw06.VelocityPanels", spec := "velocityPanels", inPlace := ["internal/abi.NoEscape", "internal/bytealg.MakeNoZero", "math.Float64bits", "math.Float64frombits", "math.archFloor", "math.archTrunc"], unfollowed := true, recurses := true, named := ["moveout/trace.ranges", "moveout/velocity.free", "internal/strconv.uint64pow10", "math/bits.deBruijn32tab", "math/bits.deBruijn64tab"], apart := false, laid := [("math/bits.deBruijn32tab", laid_math_bits_deBruijn32tab), ("math/bits.deBruijn64tab", laid_math_bits_deBruijn64tab), ("internal/strconv.uint64pow10", laid_internal_strconv_uint64pow10), ("moveout/trace.ranges", laid_moveout_trace_ranges), ("moveout/velocity.free", laid_moveout_velocity_free)] }
def VelocityPanelsSaid : Prop := velocityPanelsRow.holds Tryz.pinned (OpenSpec.ofChange velocityPanelsSpec)

/-- ITS FALSE NEIGHBOUR: 'it returns false'. Refute it at one input. -/
def velocityPanelsWrong : ChangeSpec := { name := "velocityPanels", fn := fun _ => fun
  | [d1, d2, d3] => { results := [.lit (.bool false)], args := [d1, d2, d3] }
  | _ => none }
def VelocityPanelsWrongFalsely : Prop := velocityPanelsRow.holds Tryz.pinned (OpenSpec.ofChange velocityPanelsWrong)

/-- 'moveoutlaw06.VelocityAlike': WHATEVER THE INPUT: true; the input reads as it did. -/
def velocityAlikeSpec : ChangeSpec := { name := "velocityAlike", fn := fun _ => fun
  | [d1, d2, d3] => { results := [.lit (.bool true)], args := [d1, d2, d3] }
  | _ => none }
def velocityAlikeRow : OpenClaim := { program := "ytkongcnmkiihjaagreatdoor", sum := "83f3746aad745e9e9ef2da92e3684efad78c2e8981d9b0f98eae96a73b1d3c5e", func := "moveout/moveoutlaw06.VelocityAlike", spec := "velocityAlike", inPlace := ["internal/abi.NoEscape", "internal/bytealg.MakeNoZero", "math.Float64bits", "math.Float64frombits", "math.archFloor", "math.archTrunc"], unfollowed := true, recurses := true, named := ["moveout/trace.ranges", "moveout/velocity.free", "internal/strconv.uint64pow10", "math/bits.deBruijn32tab", "math/bits.deBruijn64tab"], apart := false, laid := [("math/bits.deBruijn32tab", laid_math_bits_deBruijn32tab), ("math/bits.deBruijn64tab", laid_math_bits_deBruijn64tab), ("internal/strconv.uint64pow10", laid_internal_strconv_uint64pow10), ("moveout/trace.ranges", laid_moveout_trace_ranges), ("moveout/velocity.free", laid_moveout_velocity_free)] }
def VelocityAlikeSaid : Prop := velocityAlikeRow.holds Tryz.pinned (OpenSpec.ofChange velocityAlikeSpec)

/-- ITS FALSE NEIGHBOUR: 'it returns false'. Refute it at one input. -/
def velocityAlikeWrong : ChangeSpec := { name := "velocityAlike", fn := fun _ => fun
  | [d1, d2, d3] => { results := [.lit (.bool false)], args := [d1, d2, d3] }
  | _ => none }
def VelocityAlikeWrongFalsely : Prop := velocityAlikeRow.holds Tryz.pinned (OpenSpec.ofChange velocityAlikeWrong)

/-- 'moveoutlaw06.VelocityTexts': WHATEVER THE INPUT: true; the input reads as it did. -/
def velocityTextsSpec : ChangeSpec := { name := "velocityTexts", fn := fun _ => fun
  | [d1, d2] => { results := [.lit (.bool true)], args := [d1, d2] }
  | _ => none }
def velocityTextsRow : OpenClaim := { program := "ytkongcnmkiihjaagreatdoor", sum := "83f3746aad745e9e9ef2da92e3684efad78c2e8981d9b0f98eae96a73b1d3c5e", func := "moveout/moveoutlaw06.VelocityTexts", spec := "velocityTexts", inPlace := ["internal/abi.NoEscape", "internal/bytealg.MakeNoZero", "internal/bytealg.IndexByteString", "internal/bytealg.IndexString", "internal/bytealg.CountString"], unfollowed := true, recurses := true, named := ["moveout/trace.ranges", "moveout/velocity.free", "internal/strconv.uint64pow10", "math/bits.deBruijn32tab", "math/bits.deBruijn64tab", "internal/bytealg.MaxLen", "unicode/utf8.first", "unicode/utf8.acceptRanges"], apart := false, laid := [("math/bits.deBruijn32tab", laid_math_bits_deBruijn32tab), ("math/bits.deBruijn64tab", laid_math_bits_deBruijn64tab), ("internal/strconv.uint64pow10", laid_internal_strconv_uint64pow10), ("unicode/utf8.acceptRanges", laid_unicode_utf8_acceptRanges), ("moveout/trace.ranges", laid_moveout_trace_ranges), ("moveout/velocity.free", laid_moveout_velocity_free), ("unicode/utf8.first", laid_unicode_utf8_first)] }
def VelocityTextsSaid : Prop := velocityTextsRow.holds Tryz.pinned (OpenSpec.ofChange velocityTextsSpec)

/-- ITS FALSE NEIGHBOUR: 'it returns false'. Refute it at one input. -/
def velocityTextsWrong : ChangeSpec := { name := "velocityTexts", fn := fun _ => fun
  | [d1, d2] => { results := [.lit (.bool false)], args := [d1, d2] }
  | _ => none }
def VelocityTextsWrongFalsely : Prop := velocityTextsRow.holds Tryz.pinned (OpenSpec.ofChange velocityTextsWrong)

/-- 'moveoutlaw06.VelocityBack': WHATEVER THE INPUT: true; the input reads as it did. -/
def velocityBackSpec : ChangeSpec := { name := "velocityBack", fn := fun _ => fun
  | [d1, d2] => { results := [.lit (.bool true)], args := [d1, d2] }
  | _ => none }
def velocityBackRow : OpenClaim := { program := "ytkongcnmkiihjaagreatdoor", sum := "83f3746aad745e9e9ef2da92e3684efad78c2e8981d9b0f98eae96a73b1d3c5e", func := "moveout/moveoutlaw06.VelocityBack", spec := "velocityBack", inPlace := ["internal/abi.NoEscape", "internal/bytealg.MakeNoZero", "internal/bytealg.IndexByteString", "internal/bytealg.IndexString", "internal/bytealg.CountString"], unfollowed := true, recurses := true, named := ["moveout/trace.ranges", "moveout/velocity.free", "internal/strconv.uint64pow10", "math/bits.deBruijn32tab", "math/bits.deBruijn64tab", "internal/bytealg.MaxLen", "unicode/utf8.first", "unicode/utf8.acceptRanges"], apart := false, laid := [("math/bits.deBruijn32tab", laid_math_bits_deBruijn32tab), ("math/bits.deBruijn64tab", laid_math_bits_deBruijn64tab), ("internal/strconv.uint64pow10", laid_internal_strconv_uint64pow10), ("unicode/utf8.acceptRanges", laid_unicode_utf8_acceptRanges), ("moveout/trace.ranges", laid_moveout_trace_ranges), ("moveout/velocity.free", laid_moveout_velocity_free), ("unicode/utf8.first", laid_unicode_utf8_first)] }
def VelocityBackSaid : Prop := velocityBackRow.holds Tryz.pinned (OpenSpec.ofChange velocityBackSpec)

/-- ITS FALSE NEIGHBOUR: 'it returns false'. Refute it at one input. -/
def velocityBackWrong : ChangeSpec := { name := "velocityBack", fn := fun _ => fun
  | [d1, d2] => { results := [.lit (.bool false)], args := [d1, d2] }
  | _ => none }
def VelocityBackWrongFalsely : Prop := velocityBackRow.holds Tryz.pinned (OpenSpec.ofChange velocityBackWrong)

/- THE SECOND FORM. 'bulk': how many values and letters a reading holds, each counted each time it is reached (what is shared counts as often as it is met; a slice's spare places count too). A statement '..UptoSaid' is the law's where the arguments, and the package variables that the reading takes, are together of bulk at most 1048576: NARROWER than '..Said'. Prove '..Said' where nothing that the law and all that it calls make is longer than what came in: it says more and counts as full. Else prove '..UptoSaid'. A law counts once. -/
mutual
def uptoBulk {H : Type} : DataW H → Nat
  | .lit (.string bytes) => bytes.length + 1
  | .lit _ => 1
  | .nil => 1
  | .ptr d => uptoBulk d + 1
  | .slice elems spare => uptoBulkAll elems + uptoBulkAll spare + 1
  | .agg parts => uptoBulkAll parts + 1
  | .iface _ d => uptoBulk d + 1
  | .map entries => uptoBulkEntries entries + 1
  | .held _ => 1
def uptoBulkAll {H : Type} : List (DataW H) → Nat
  | [] => 0
  | d :: r => uptoBulk d + uptoBulkAll r
def uptoBulkEntries {H : Type} : List (Lit × DataW H) → Nat
  | [] => 0
  | x :: r => uptoBulkEntry x + uptoBulkEntries r
def uptoBulkEntry {H : Type} : Lit × DataW H → Nat
  | (.string bytes, d) => bytes.length + uptoBulk d + 1
  | (_, d) => uptoBulk d + 1
 end
def uptoSmall : (H : Type) → List (DataW H) → Bool := fun _ ds => decide (uptoBulkAll ds ≤ 1048576)
def OpenSpec.upto (s : _root_.Go.ChangeSpec) : _root_.Go.OpenSpec := { _root_.Go.OpenSpec.ofChange s with cond := some uptoSmall }

/-- 'moveoutlaw06.VelocityMoved', WHERE WHAT IT READS IS OF BULK AT MOST 1048576: true; the input reads as it did. -/
def velocityMovedUptoRow : OpenClaim := { program := "ytkongcnmkiihjaagreatdoor", sum := "83f3746aad745e9e9ef2da92e3684efad78c2e8981d9b0f98eae96a73b1d3c5e", func := "moveout/moveoutlaw06.VelocityMoved", spec := "velocityMoved", inPlace := ["internal/abi.NoEscape", "internal/bytealg.MakeNoZero"], unfollowed := true, recurses := true, named := ["moveout/trace.ranges", "moveout/velocity.free", "internal/strconv.uint64pow10", "math/bits.deBruijn32tab", "math/bits.deBruijn64tab"], apart := false, laid := [("math/bits.deBruijn32tab", laid_math_bits_deBruijn32tab), ("math/bits.deBruijn64tab", laid_math_bits_deBruijn64tab), ("internal/strconv.uint64pow10", laid_internal_strconv_uint64pow10), ("moveout/trace.ranges", laid_moveout_trace_ranges), ("moveout/velocity.free", laid_moveout_velocity_free)], narrowed := true }
def VelocityMovedUptoSaid : Prop := velocityMovedUptoRow.holds Tryz.pinned (OpenSpec.upto velocityMovedSpec)

/-- 'moveoutlaw06.VelocityPotentials', WHERE WHAT IT READS IS OF BULK AT MOST 1048576: true; the input reads as it did. -/
def velocityPotentialsUptoRow : OpenClaim := { program := "ytkongcnmkiihjaagreatdoor", sum := "83f3746aad745e9e9ef2da92e3684efad78c2e8981d9b0f98eae96a73b1d3c5e", func := "moveout/moveoutlaw06.VelocityPotentials", spec := "velocityPotentials", inPlace := ["internal/abi.NoEscape", "internal/bytealg.MakeNoZero"], unfollowed := true, recurses := true, named := ["moveout/trace.ranges", "moveout/velocity.free", "internal/strconv.uint64pow10", "math/bits.deBruijn32tab", "math/bits.deBruijn64tab"], apart := false, laid := [("math/bits.deBruijn32tab", laid_math_bits_deBruijn32tab), ("math/bits.deBruijn64tab", laid_math_bits_deBruijn64tab), ("internal/strconv.uint64pow10", laid_internal_strconv_uint64pow10), ("moveout/trace.ranges", laid_moveout_trace_ranges), ("moveout/velocity.free", laid_moveout_velocity_free)], narrowed := true }
def VelocityPotentialsUptoSaid : Prop := velocityPotentialsUptoRow.holds Tryz.pinned (OpenSpec.upto velocityPotentialsSpec)

/-- 'moveoutlaw06.VelocityHyperbolas', WHERE WHAT IT READS IS OF BULK AT MOST 1048576: true; the input reads as it did. -/
def velocityHyperbolasUptoRow : OpenClaim := { program := "ytkongcnmkiihjaagreatdoor", sum := "83f3746aad745e9e9ef2da92e3684efad78c2e8981d9b0f98eae96a73b1d3c5e", func := "moveout/moveoutlaw06.VelocityHyperbolas", spec := "velocityHyperbolas", inPlace := ["internal/abi.NoEscape", "internal/bytealg.MakeNoZero"], unfollowed := true, recurses := true, named := ["moveout/trace.ranges", "moveout/velocity.free", "internal/strconv.uint64pow10", "math/bits.deBruijn32tab", "math/bits.deBruijn64tab"], apart := false, laid := [("math/bits.deBruijn32tab", laid_math_bits_deBruijn32tab), ("math/bits.deBruijn64tab", laid_math_bits_deBruijn64tab), ("internal/strconv.uint64pow10", laid_internal_strconv_uint64pow10), ("moveout/trace.ranges", laid_moveout_trace_ranges), ("moveout/velocity.free", laid_moveout_velocity_free)], narrowed := true }
def VelocityHyperbolasUptoSaid : Prop := velocityHyperbolasUptoRow.holds Tryz.pinned (OpenSpec.upto velocityHyperbolasSpec)

/-- 'moveoutlaw06.VelocityPaths', WHERE WHAT IT READS IS OF BULK AT MOST 1048576: true; the input reads as it did. -/
def velocityPathsUptoRow : OpenClaim := { program := "ytkongcnmkiihjaagreatdoor", sum := "83f3746aad745e9e9ef2da92e3684efad78c2e8981d9b0f98eae96a73b1d3c5e", func := "moveout/moveoutlaw06.VelocityPaths", spec := "velocityPaths", inPlace := ["internal/abi.NoEscape", "internal/bytealg.MakeNoZero"], unfollowed := true, recurses := true, named := ["moveout/trace.ranges", "moveout/velocity.free", "internal/strconv.uint64pow10", "math/bits.deBruijn32tab", "math/bits.deBruijn64tab"], apart := false, laid := [("math/bits.deBruijn32tab", laid_math_bits_deBruijn32tab), ("math/bits.deBruijn64tab", laid_math_bits_deBruijn64tab), ("internal/strconv.uint64pow10", laid_internal_strconv_uint64pow10), ("moveout/trace.ranges", laid_moveout_trace_ranges), ("moveout/velocity.free", laid_moveout_velocity_free)], narrowed := true }
def VelocityPathsUptoSaid : Prop := velocityPathsUptoRow.holds Tryz.pinned (OpenSpec.upto velocityPathsSpec)

/-- 'moveoutlaw06.VelocityProved', WHERE WHAT IT READS IS OF BULK AT MOST 1048576: true; the input reads as it did. -/
def velocityProvedUptoRow : OpenClaim := { program := "ytkongcnmkiihjaagreatdoor", sum := "83f3746aad745e9e9ef2da92e3684efad78c2e8981d9b0f98eae96a73b1d3c5e", func := "moveout/moveoutlaw06.VelocityProved", spec := "velocityProved", inPlace := ["internal/abi.NoEscape", "internal/bytealg.MakeNoZero"], unfollowed := true, recurses := true, named := ["moveout/trace.ranges", "moveout/velocity.free", "internal/strconv.uint64pow10", "math/bits.deBruijn32tab", "math/bits.deBruijn64tab"], apart := false, laid := [("math/bits.deBruijn32tab", laid_math_bits_deBruijn32tab), ("math/bits.deBruijn64tab", laid_math_bits_deBruijn64tab), ("internal/strconv.uint64pow10", laid_internal_strconv_uint64pow10), ("moveout/trace.ranges", laid_moveout_trace_ranges), ("moveout/velocity.free", laid_moveout_velocity_free)], narrowed := true }
def VelocityProvedUptoSaid : Prop := velocityProvedUptoRow.holds Tryz.pinned (OpenSpec.upto velocityProvedSpec)

/-- 'moveoutlaw06.VelocityMoments', WHERE WHAT IT READS IS OF BULK AT MOST 1048576: true; the input reads as it did. -/
def velocityMomentsUptoRow : OpenClaim := { program := "ytkongcnmkiihjaagreatdoor", sum := "83f3746aad745e9e9ef2da92e3684efad78c2e8981d9b0f98eae96a73b1d3c5e", func := "moveout/moveoutlaw06.VelocityMoments", spec := "velocityMoments", inPlace := ["internal/abi.NoEscape", "internal/bytealg.MakeNoZero"], unfollowed := true, recurses := true, named := ["moveout/trace.ranges", "moveout/velocity.free", "internal/strconv.uint64pow10", "math/bits.deBruijn32tab", "math/bits.deBruijn64tab"], apart := false, laid := [("math/bits.deBruijn32tab", laid_math_bits_deBruijn32tab), ("math/bits.deBruijn64tab", laid_math_bits_deBruijn64tab), ("internal/strconv.uint64pow10", laid_internal_strconv_uint64pow10), ("moveout/trace.ranges", laid_moveout_trace_ranges), ("moveout/velocity.free", laid_moveout_velocity_free)], narrowed := true }
def VelocityMomentsUptoSaid : Prop := velocityMomentsUptoRow.holds Tryz.pinned (OpenSpec.upto velocityMomentsSpec)

/-- 'moveoutlaw06.VelocityExplained', WHERE WHAT IT READS IS OF BULK AT MOST 1048576: true; the input reads as it did. -/
def velocityExplainedUptoRow : OpenClaim := { program := "ytkongcnmkiihjaagreatdoor", sum := "83f3746aad745e9e9ef2da92e3684efad78c2e8981d9b0f98eae96a73b1d3c5e", func := "moveout/moveoutlaw06.VelocityExplained", spec := "velocityExplained", inPlace := ["internal/abi.NoEscape", "internal/bytealg.MakeNoZero"], unfollowed := true, recurses := true, named := ["moveout/trace.ranges", "moveout/velocity.free", "internal/strconv.uint64pow10", "math/bits.deBruijn32tab", "math/bits.deBruijn64tab"], apart := false, laid := [("math/bits.deBruijn32tab", laid_math_bits_deBruijn32tab), ("math/bits.deBruijn64tab", laid_math_bits_deBruijn64tab), ("internal/strconv.uint64pow10", laid_internal_strconv_uint64pow10), ("moveout/trace.ranges", laid_moveout_trace_ranges), ("moveout/velocity.free", laid_moveout_velocity_free)], narrowed := true }
def VelocityExplainedUptoSaid : Prop := velocityExplainedUptoRow.holds Tryz.pinned (OpenSpec.upto velocityExplainedSpec)

/-- 'moveoutlaw06.VelocityGathers', WHERE WHAT IT READS IS OF BULK AT MOST 1048576: true; the input reads as it did. -/
def velocityGathersUptoRow : OpenClaim := { program := "ytkongcnmkiihjaagreatdoor", sum := "83f3746aad745e9e9ef2da92e3684efad78c2e8981d9b0f98eae96a73b1d3c5e", func := "moveout/moveoutlaw06.VelocityGathers", spec := "velocityGathers", inPlace := ["internal/abi.NoEscape", "internal/bytealg.MakeNoZero", "math.Float64bits", "math.Float64frombits", "math.archFloor", "math.archTrunc"], unfollowed := true, recurses := true, named := ["moveout/trace.ranges", "moveout/velocity.free", "internal/strconv.uint64pow10", "math/bits.deBruijn32tab", "math/bits.deBruijn64tab"], apart := false, laid := [("math/bits.deBruijn32tab", laid_math_bits_deBruijn32tab), ("math/bits.deBruijn64tab", laid_math_bits_deBruijn64tab), ("internal/strconv.uint64pow10", laid_internal_strconv_uint64pow10), ("moveout/trace.ranges", laid_moveout_trace_ranges), ("moveout/velocity.free", laid_moveout_velocity_free)], narrowed := true }
def VelocityGathersUptoSaid : Prop := velocityGathersUptoRow.holds Tryz.pinned (OpenSpec.upto velocityGathersSpec)

/-- 'moveoutlaw06.VelocityPanels', WHERE WHAT IT READS IS OF BULK AT MOST 1048576: true; the input reads as it did. -/
def velocityPanelsUptoRow : OpenClaim := { program := "ytkongcnmkiihjaagreatdoor", sum := "83f3746aad745e9e9ef2da92e3684efad78c2e8981d9b0f98eae96a73b1d3c5e", func := "moveout/moveoutlaw06.VelocityPanels", spec := "velocityPanels", inPlace := ["internal/abi.NoEscape", "internal/bytealg.MakeNoZero", "math.Float64bits", "math.Float64frombits", "math.archFloor", "math.archTrunc"], unfollowed := true, recurses := true, named := ["moveout/trace.ranges", "moveout/velocity.free", "internal/strconv.uint64pow10", "math/bits.deBruijn32tab", "math/bits.deBruijn64tab"], apart := false, laid := [("math/bits.deBruijn32tab", laid_math_bits_deBruijn32tab), ("math/bits.deBruijn64tab", laid_math_bits_deBruijn64tab), ("internal/strconv.uint64pow10", laid_internal_strconv_uint64pow10), ("moveout/trace.ranges", laid_moveout_trace_ranges), ("moveout/velocity.free", laid_moveout_velocity_free)], narrowed := true }
def VelocityPanelsUptoSaid : Prop := velocityPanelsUptoRow.holds Tryz.pinned (OpenSpec.upto velocityPanelsSpec)

/-- 'moveoutlaw06.VelocityAlike', WHERE WHAT IT READS IS OF BULK AT MOST 1048576: true; the input reads as it did. -/
def velocityAlikeUptoRow : OpenClaim := { program := "ytkongcnmkiihjaagreatdoor", sum := "83f3746aad745e9e9ef2da92e3684efad78c2e8981d9b0f98eae96a73b1d3c5e", func := "moveout/moveoutlaw06.VelocityAlike", spec := "velocityAlike", inPlace := ["internal/abi.NoEscape", "internal/bytealg.MakeNoZero", "math.Float64bits", "math.Float64frombits", "math.archFloor", "math.archTrunc"], unfollowed := true, recurses := true, named := ["moveout/trace.ranges", "moveout/velocity.free", "internal/strconv.uint64pow10", "math/bits.deBruijn32tab", "math/bits.deBruijn64tab"], apart := false, laid := [("math/bits.deBruijn32tab", laid_math_bits_deBruijn32tab), ("math/bits.deBruijn64tab", laid_math_bits_deBruijn64tab), ("internal/strconv.uint64pow10", laid_internal_strconv_uint64pow10), ("moveout/trace.ranges", laid_moveout_trace_ranges), ("moveout/velocity.free", laid_moveout_velocity_free)], narrowed := true }
def VelocityAlikeUptoSaid : Prop := velocityAlikeUptoRow.holds Tryz.pinned (OpenSpec.upto velocityAlikeSpec)

/-- 'moveoutlaw06.VelocityTexts', WHERE WHAT IT READS IS OF BULK AT MOST 1048576: true; the input reads as it did. -/
def velocityTextsUptoRow : OpenClaim := { program := "ytkongcnmkiihjaagreatdoor", sum := "83f3746aad745e9e9ef2da92e3684efad78c2e8981d9b0f98eae96a73b1d3c5e", func := "moveout/moveoutlaw06.VelocityTexts", spec := "velocityTexts", inPlace := ["internal/abi.NoEscape", "internal/bytealg.MakeNoZero", "internal/bytealg.IndexByteString", "internal/bytealg.IndexString", "internal/bytealg.CountString"], unfollowed := true, recurses := true, named := ["moveout/trace.ranges", "moveout/velocity.free", "internal/strconv.uint64pow10", "math/bits.deBruijn32tab", "math/bits.deBruijn64tab", "internal/bytealg.MaxLen", "unicode/utf8.first", "unicode/utf8.acceptRanges"], apart := false, laid := [("math/bits.deBruijn32tab", laid_math_bits_deBruijn32tab), ("math/bits.deBruijn64tab", laid_math_bits_deBruijn64tab), ("internal/strconv.uint64pow10", laid_internal_strconv_uint64pow10), ("unicode/utf8.acceptRanges", laid_unicode_utf8_acceptRanges), ("moveout/trace.ranges", laid_moveout_trace_ranges), ("moveout/velocity.free", laid_moveout_velocity_free), ("unicode/utf8.first", laid_unicode_utf8_first)], narrowed := true }
def VelocityTextsUptoSaid : Prop := velocityTextsUptoRow.holds Tryz.pinned (OpenSpec.upto velocityTextsSpec)

/-- 'moveoutlaw06.VelocityBack', WHERE WHAT IT READS IS OF BULK AT MOST 1048576: true; the input reads as it did. -/
def velocityBackUptoRow : OpenClaim := { program := "ytkongcnmkiihjaagreatdoor", sum := "83f3746aad745e9e9ef2da92e3684efad78c2e8981d9b0f98eae96a73b1d3c5e", func := "moveout/moveoutlaw06.VelocityBack", spec := "velocityBack", inPlace := ["internal/abi.NoEscape", "internal/bytealg.MakeNoZero", "internal/bytealg.IndexByteString", "internal/bytealg.IndexString", "internal/bytealg.CountString"], unfollowed := true, recurses := true, named := ["moveout/trace.ranges", "moveout/velocity.free", "internal/strconv.uint64pow10", "math/bits.deBruijn32tab", "math/bits.deBruijn64tab", "internal/bytealg.MaxLen", "unicode/utf8.first", "unicode/utf8.acceptRanges"], apart := false, laid := [("math/bits.deBruijn32tab", laid_math_bits_deBruijn32tab), ("math/bits.deBruijn64tab", laid_math_bits_deBruijn64tab), ("internal/strconv.uint64pow10", laid_internal_strconv_uint64pow10), ("unicode/utf8.acceptRanges", laid_unicode_utf8_acceptRanges), ("moveout/trace.ranges", laid_moveout_trace_ranges), ("moveout/velocity.free", laid_moveout_velocity_free), ("unicode/utf8.first", laid_unicode_utf8_first)], narrowed := true }
def VelocityBackUptoSaid : Prop := velocityBackUptoRow.holds Tryz.pinned (OpenSpec.upto velocityBackSpec)

end Rows
end Go.Proofs.YtkongcnmkiihjaaGreatDoor
