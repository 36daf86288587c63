/-
  NARROWER THAN 'FOR EVERY INPUT', by the rows' own cells (each row's printed sentence says how): CoverLines: laid · CoverFolds: laid · CoverPrices: laid · CoverBins: laid · CoverCounted: laid · CoverInfills: laid · CoverBounds: laid · CoverChanges: laid · CoverMoved: laid · CoverOrders: laid · CoverTours: laid · CoverTexts: laid · CoverBack: laid.
  DERIVED. THE GIVEN ROWS OF THIS SEAT. 13 by the template 'for every input the law returns true; each argument reads behind the call as it read before'; 0 by the template 'total and deterministic' (their statements: YtdmepnhmcppkkaaGreatDoorTotals.lean).
  GIVEN WITH THE SEED: the statements are not yours to turn. If you find one false, say at which input.
  Laid BY PROGRAM, IN A SANDBOX (cutbox-rows.mjs): the forced cells as the released guide's own fill.sh prints them over the translation 7b729ecc4ba36e33… (all of the seat's roots in one cut). By AI agents, Wed Nov 11 2026. No macro, syntax, notation, axiom, sorry.
-/
import Derived.Test.YtdmepnhmcppkkaaGreatDoorChecked
import GoSem.PinnedTables
import GoSem.Claim
import GoSem.ClaimJoined
import GoSem.ClaimMapViews
import Derived.JoinedTies
import Derived.KernelRfl
namespace Go.Proofs.YtdmepnhmcppkkaaGreatDoor
/- THE CELL 'sum', in the pinned program and in every row, IS THE sha256 OF THE DUMP (.gsa) THAT YtdmepnhmcppkkaaGreatDoorProg.lean LOADS. Nothing in Lean hashes anything: it is a label: what it is worth is what the hold of that sum in a sandbox is worth. -/
noncomputable def Tryz.pinned : Pinned := { name := "ytdmepnhmcppkkaagreatdoor", sum := "7b729ecc4ba36e33897190c5f3b51c4f52d925023aabe0b65a4496742d97120c", checked := Tryz.checked }
namespace Rows
def none {H : Type} : Left H := { results := [], args := [] }

/- WHAT THE LISTED PACKAGE-LEVEL VARIABLES READ AS WHEN THE CALL BEGINS. Each datum BY PROGRAM (the guide's laid-datum.mjs) off the statement by which the dump's own 'gosem.cut.vars' lays the variable. In a bare row this is a premise. The card (YtdmepnhmcppkkaaGreatDoorCards.lean) ties it to the program's text. -/
def laid_math_bits_deBruijn32tab {H : Type} : DataW H := .agg [.lit (.int .u8 0), .lit (.int .u8 1), .lit (.int .u8 28), .lit (.int .u8 2), .lit (.int .u8 29), .lit (.int .u8 14), .lit (.int .u8 24), .lit (.int .u8 3), .lit (.int .u8 30), .lit (.int .u8 22), .lit (.int .u8 20), .lit (.int .u8 15), .lit (.int .u8 25), .lit (.int .u8 17), .lit (.int .u8 4), .lit (.int .u8 8), .lit (.int .u8 31), .lit (.int .u8 27), .lit (.int .u8 13), .lit (.int .u8 23), .lit (.int .u8 21), .lit (.int .u8 19), .lit (.int .u8 16), .lit (.int .u8 7), .lit (.int .u8 26), .lit (.int .u8 12), .lit (.int .u8 18), .lit (.int .u8 6), .lit (.int .u8 11), .lit (.int .u8 5), .lit (.int .u8 10), .lit (.int .u8 9)]
def laid_math_bits_deBruijn64tab {H : Type} : DataW H := .agg [.lit (.int .u8 0), .lit (.int .u8 1), .lit (.int .u8 56), .lit (.int .u8 2), .lit (.int .u8 57), .lit (.int .u8 49), .lit (.int .u8 28), .lit (.int .u8 3), .lit (.int .u8 61), .lit (.int .u8 58), .lit (.int .u8 42), .lit (.int .u8 50), .lit (.int .u8 38), .lit (.int .u8 29), .lit (.int .u8 17), .lit (.int .u8 4), .lit (.int .u8 62), .lit (.int .u8 47), .lit (.int .u8 59), .lit (.int .u8 36), .lit (.int .u8 45), .lit (.int .u8 43), .lit (.int .u8 51), .lit (.int .u8 22), .lit (.int .u8 53), .lit (.int .u8 39), .lit (.int .u8 33), .lit (.int .u8 30), .lit (.int .u8 24), .lit (.int .u8 18), .lit (.int .u8 12), .lit (.int .u8 5), .lit (.int .u8 63), .lit (.int .u8 55), .lit (.int .u8 48), .lit (.int .u8 27), .lit (.int .u8 60), .lit (.int .u8 41), .lit (.int .u8 37), .lit (.int .u8 16), .lit (.int .u8 46), .lit (.int .u8 35), .lit (.int .u8 44), .lit (.int .u8 21), .lit (.int .u8 52), .lit (.int .u8 32), .lit (.int .u8 23), .lit (.int .u8 11), .lit (.int .u8 54), .lit (.int .u8 26), .lit (.int .u8 40), .lit (.int .u8 15), .lit (.int .u8 34), .lit (.int .u8 20), .lit (.int .u8 31), .lit (.int .u8 10), .lit (.int .u8 25), .lit (.int .u8 14), .lit (.int .u8 19), .lit (.int .u8 9), .lit (.int .u8 13), .lit (.int .u8 8), .lit (.int .u8 7), .lit (.int .u8 6)]
def laid_internal_strconv_uint64pow10 {H : Type} : DataW H := .agg [.lit (.int .u64 1), .lit (.int .u64 10), .lit (.int .u64 100), .lit (.int .u64 1000), .lit (.int .u64 10000), .lit (.int .u64 100000), .lit (.int .u64 1000000), .lit (.int .u64 10000000), .lit (.int .u64 100000000), .lit (.int .u64 1000000000), .lit (.int .u64 10000000000), .lit (.int .u64 100000000000), .lit (.int .u64 1000000000000), .lit (.int .u64 10000000000000), .lit (.int .u64 100000000000000), .lit (.int .u64 1000000000000000), .lit (.int .u64 10000000000000000), .lit (.int .u64 100000000000000000), .lit (.int .u64 1000000000000000000), .lit (.int .u64 10000000000000000000)]
def laid_strconv_ErrRange {H : Type} : DataW H := .iface "*errors.errorString" (.ptr (.agg [.lit (.string [118, 97, 108, 117, 101, 32, 111, 117, 116, 32, 111, 102, 32, 114, 97, 110, 103, 101])]))
def laid_strconv_ErrSyntax {H : Type} : DataW H := .iface "*errors.errorString" (.ptr (.agg [.lit (.string [105, 110, 118, 97, 108, 105, 100, 32, 115, 121, 110, 116, 97, 120])]))
def laid_moveout_cover_still {H : Type} : DataW H := .agg [.lit (.int .i64 0), .lit (.int .i64 0)]
def laid_unicode_utf8_acceptRanges {H : Type} : DataW H := .agg [.agg [.lit (.int .u8 128), .lit (.int .u8 191)], .agg [.lit (.int .u8 160), .lit (.int .u8 191)], .agg [.lit (.int .u8 128), .lit (.int .u8 159)], .agg [.lit (.int .u8 144), .lit (.int .u8 191)], .agg [.lit (.int .u8 128), .lit (.int .u8 143)], .agg [.lit (.int .u8 0), .lit (.int .u8 0)], .agg [.lit (.int .u8 0), .lit (.int .u8 0)], .agg [.lit (.int .u8 0), .lit (.int .u8 0)], .agg [.lit (.int .u8 0), .lit (.int .u8 0)], .agg [.lit (.int .u8 0), .lit (.int .u8 0)], .agg [.lit (.int .u8 0), .lit (.int .u8 0)], .agg [.lit (.int .u8 0), .lit (.int .u8 0)], .agg [.lit (.int .u8 0), .lit (.int .u8 0)], .agg [.lit (.int .u8 0), .lit (.int .u8 0)], .agg [.lit (.int .u8 0), .lit (.int .u8 0)], .agg [.lit (.int .u8 0), .lit (.int .u8 0)]]
/-- One of Go's own tables, pinned by name: the form's constant. -/
def laid_unicode_utf8_first : DataW Unit := Go.Pinned.utf8First

/-- 'moveoutlaw04.CoverLines': WHATEVER THE INPUT: true; the input reads as it did. -/
def coverLinesSpec : ChangeSpec := { name := "coverLines", fn := fun _ => fun
  | [d1, d2] => { results := [.lit (.bool true)], args := [d1, d2] }
  | _ => none }
def coverLinesRow : OpenClaim := { program := "ytdmepnhmcppkkaagreatdoor", sum := "7b729ecc4ba36e33897190c5f3b51c4f52d925023aabe0b65a4496742d97120c", func := "moveout/moveoutlaw04.CoverLines", spec := "coverLines", inPlace := ["internal/abi.NoEscape", "internal/bytealg.MakeNoZero"], unfollowed := true, recurses := true, named := ["moveout/cover.still", "strconv.ErrSyntax", "strconv.ErrRange", "internal/strconv.uint64pow10", "math/bits.deBruijn32tab", "math/bits.deBruijn64tab"], apart := false, laid := [("math/bits.deBruijn32tab", laid_math_bits_deBruijn32tab), ("math/bits.deBruijn64tab", laid_math_bits_deBruijn64tab), ("internal/strconv.uint64pow10", laid_internal_strconv_uint64pow10), ("strconv.ErrRange", laid_strconv_ErrRange), ("strconv.ErrSyntax", laid_strconv_ErrSyntax), ("moveout/cover.still", laid_moveout_cover_still)] }
def CoverLinesSaid : Prop := coverLinesRow.holds Tryz.pinned (OpenSpec.ofChange coverLinesSpec)

/-- ITS FALSE NEIGHBOUR: 'it returns false'. Refute it at one input. -/
def coverLinesWrong : ChangeSpec := { name := "coverLines", fn := fun _ => fun
  | [d1, d2] => { results := [.lit (.bool false)], args := [d1, d2] }
  | _ => none }
def CoverLinesWrongFalsely : Prop := coverLinesRow.holds Tryz.pinned (OpenSpec.ofChange coverLinesWrong)

/-- 'moveoutlaw04.CoverFolds': WHATEVER THE INPUT: true; the input reads as it did. -/
def coverFoldsSpec : ChangeSpec := { name := "coverFolds", fn := fun _ => fun
  | [d] => { results := [.lit (.bool true)], args := [d] }
  | _ => none }
def coverFoldsRow : OpenClaim := { program := "ytdmepnhmcppkkaagreatdoor", sum := "7b729ecc4ba36e33897190c5f3b51c4f52d925023aabe0b65a4496742d97120c", func := "moveout/moveoutlaw04.CoverFolds", spec := "coverFolds", inPlace := ["internal/abi.NoEscape", "internal/bytealg.MakeNoZero"], unfollowed := true, recurses := true, named := ["moveout/cover.still", "strconv.ErrSyntax", "strconv.ErrRange", "internal/strconv.uint64pow10", "math/bits.deBruijn32tab", "math/bits.deBruijn64tab"], apart := false, laid := [("math/bits.deBruijn32tab", laid_math_bits_deBruijn32tab), ("math/bits.deBruijn64tab", laid_math_bits_deBruijn64tab), ("internal/strconv.uint64pow10", laid_internal_strconv_uint64pow10), ("strconv.ErrRange", laid_strconv_ErrRange), ("strconv.ErrSyntax", laid_strconv_ErrSyntax), ("moveout/cover.still", laid_moveout_cover_still)] }
def CoverFoldsSaid : Prop := coverFoldsRow.holds Tryz.pinned (OpenSpec.ofChange coverFoldsSpec)

/-- ITS FALSE NEIGHBOUR: 'it returns false'. Refute it at one input. -/
def coverFoldsWrong : ChangeSpec := { name := "coverFolds", fn := fun _ => fun
  | [d] => { results := [.lit (.bool false)], args := [d] }
  | _ => none }
def CoverFoldsWrongFalsely : Prop := coverFoldsRow.holds Tryz.pinned (OpenSpec.ofChange coverFoldsWrong)

/-- 'moveoutlaw04.CoverPrices': WHATEVER THE INPUT: true; the input reads as it did. -/
def coverPricesSpec : ChangeSpec := { name := "coverPrices", fn := fun _ => fun
  | [d1, d2] => { results := [.lit (.bool true)], args := [d1, d2] }
  | _ => none }
def coverPricesRow : OpenClaim := { program := "ytdmepnhmcppkkaagreatdoor", sum := "7b729ecc4ba36e33897190c5f3b51c4f52d925023aabe0b65a4496742d97120c", func := "moveout/moveoutlaw04.CoverPrices", spec := "coverPrices", inPlace := ["internal/abi.NoEscape", "internal/bytealg.MakeNoZero"], unfollowed := true, recurses := true, named := ["moveout/cover.still", "strconv.ErrSyntax", "strconv.ErrRange", "internal/strconv.uint64pow10", "math/bits.deBruijn32tab", "math/bits.deBruijn64tab"], apart := false, laid := [("math/bits.deBruijn32tab", laid_math_bits_deBruijn32tab), ("math/bits.deBruijn64tab", laid_math_bits_deBruijn64tab), ("internal/strconv.uint64pow10", laid_internal_strconv_uint64pow10), ("strconv.ErrRange", laid_strconv_ErrRange), ("strconv.ErrSyntax", laid_strconv_ErrSyntax), ("moveout/cover.still", laid_moveout_cover_still)] }
def CoverPricesSaid : Prop := coverPricesRow.holds Tryz.pinned (OpenSpec.ofChange coverPricesSpec)

/-- ITS FALSE NEIGHBOUR: 'it returns false'. Refute it at one input. -/
def coverPricesWrong : ChangeSpec := { name := "coverPrices", fn := fun _ => fun
  | [d1, d2] => { results := [.lit (.bool false)], args := [d1, d2] }
  | _ => none }
def CoverPricesWrongFalsely : Prop := coverPricesRow.holds Tryz.pinned (OpenSpec.ofChange coverPricesWrong)

/-- 'moveoutlaw04.CoverBins': WHATEVER THE INPUT: true; the input reads as it did. -/
def coverBinsSpec : ChangeSpec := { name := "coverBins", fn := fun _ => fun
  | [d1, d2, d3] => { results := [.lit (.bool true)], args := [d1, d2, d3] }
  | _ => none }
def coverBinsRow : OpenClaim := { program := "ytdmepnhmcppkkaagreatdoor", sum := "7b729ecc4ba36e33897190c5f3b51c4f52d925023aabe0b65a4496742d97120c", func := "moveout/moveoutlaw04.CoverBins", spec := "coverBins", inPlace := ["internal/abi.NoEscape", "internal/bytealg.MakeNoZero"], unfollowed := true, recurses := true, named := ["moveout/cover.still", "strconv.ErrSyntax", "strconv.ErrRange", "internal/strconv.uint64pow10", "math/bits.deBruijn32tab", "math/bits.deBruijn64tab"], apart := false, laid := [("math/bits.deBruijn32tab", laid_math_bits_deBruijn32tab), ("math/bits.deBruijn64tab", laid_math_bits_deBruijn64tab), ("internal/strconv.uint64pow10", laid_internal_strconv_uint64pow10), ("strconv.ErrRange", laid_strconv_ErrRange), ("strconv.ErrSyntax", laid_strconv_ErrSyntax), ("moveout/cover.still", laid_moveout_cover_still)] }
def CoverBinsSaid : Prop := coverBinsRow.holds Tryz.pinned (OpenSpec.ofChange coverBinsSpec)

/-- ITS FALSE NEIGHBOUR: 'it returns false'. Refute it at one input. -/
def coverBinsWrong : ChangeSpec := { name := "coverBins", fn := fun _ => fun
  | [d1, d2, d3] => { results := [.lit (.bool false)], args := [d1, d2, d3] }
  | _ => none }
def CoverBinsWrongFalsely : Prop := coverBinsRow.holds Tryz.pinned (OpenSpec.ofChange coverBinsWrong)

/-- 'moveoutlaw04.CoverCounted': WHATEVER THE INPUT: true; the input reads as it did. -/
def coverCountedSpec : ChangeSpec := { name := "coverCounted", fn := fun _ => fun
  | [d] => { results := [.lit (.bool true)], args := [d] }
  | _ => none }
def coverCountedRow : OpenClaim := { program := "ytdmepnhmcppkkaagreatdoor", sum := "7b729ecc4ba36e33897190c5f3b51c4f52d925023aabe0b65a4496742d97120c", func := "moveout/moveoutlaw04.CoverCounted", spec := "coverCounted", inPlace := ["internal/abi.NoEscape", "internal/bytealg.MakeNoZero"], unfollowed := true, recurses := true, named := ["moveout/cover.still", "strconv.ErrSyntax", "strconv.ErrRange", "internal/strconv.uint64pow10", "math/bits.deBruijn32tab", "math/bits.deBruijn64tab"], apart := false, laid := [("math/bits.deBruijn32tab", laid_math_bits_deBruijn32tab), ("math/bits.deBruijn64tab", laid_math_bits_deBruijn64tab), ("internal/strconv.uint64pow10", laid_internal_strconv_uint64pow10), ("strconv.ErrRange", laid_strconv_ErrRange), ("strconv.ErrSyntax", laid_strconv_ErrSyntax), ("moveout/cover.still", laid_moveout_cover_still)] }
def CoverCountedSaid : Prop := coverCountedRow.holds Tryz.pinned (OpenSpec.ofChange coverCountedSpec)

/-- ITS FALSE NEIGHBOUR: 'it returns false'. Refute it at one input. -/
def coverCountedWrong : ChangeSpec := { name := "coverCounted", fn := fun _ => fun
  | [d] => { results := [.lit (.bool false)], args := [d] }
  | _ => none }
def CoverCountedWrongFalsely : Prop := coverCountedRow.holds Tryz.pinned (OpenSpec.ofChange coverCountedWrong)

/-- 'moveoutlaw04.CoverInfills': WHATEVER THE INPUT: true; the input reads as it did. -/
def coverInfillsSpec : ChangeSpec := { name := "coverInfills", fn := fun _ => fun
  | [d1, d2] => { results := [.lit (.bool true)], args := [d1, d2] }
  | _ => none }
def coverInfillsRow : OpenClaim := { program := "ytdmepnhmcppkkaagreatdoor", sum := "7b729ecc4ba36e33897190c5f3b51c4f52d925023aabe0b65a4496742d97120c", func := "moveout/moveoutlaw04.CoverInfills", spec := "coverInfills", inPlace := ["internal/abi.NoEscape", "internal/bytealg.MakeNoZero"], unfollowed := true, recurses := true, named := ["moveout/cover.still", "strconv.ErrSyntax", "strconv.ErrRange", "internal/strconv.uint64pow10", "math/bits.deBruijn32tab", "math/bits.deBruijn64tab"], apart := false, laid := [("math/bits.deBruijn32tab", laid_math_bits_deBruijn32tab), ("math/bits.deBruijn64tab", laid_math_bits_deBruijn64tab), ("internal/strconv.uint64pow10", laid_internal_strconv_uint64pow10), ("strconv.ErrRange", laid_strconv_ErrRange), ("strconv.ErrSyntax", laid_strconv_ErrSyntax), ("moveout/cover.still", laid_moveout_cover_still)] }
def CoverInfillsSaid : Prop := coverInfillsRow.holds Tryz.pinned (OpenSpec.ofChange coverInfillsSpec)

/-- ITS FALSE NEIGHBOUR: 'it returns false'. Refute it at one input. -/
def coverInfillsWrong : ChangeSpec := { name := "coverInfills", fn := fun _ => fun
  | [d1, d2] => { results := [.lit (.bool false)], args := [d1, d2] }
  | _ => none }
def CoverInfillsWrongFalsely : Prop := coverInfillsRow.holds Tryz.pinned (OpenSpec.ofChange coverInfillsWrong)

/-- 'moveoutlaw04.CoverBounds': WHATEVER THE INPUT: true; the input reads as it did. -/
def coverBoundsSpec : ChangeSpec := { name := "coverBounds", fn := fun _ => fun
  | [d1, d2] => { results := [.lit (.bool true)], args := [d1, d2] }
  | _ => none }
def coverBoundsRow : OpenClaim := { program := "ytdmepnhmcppkkaagreatdoor", sum := "7b729ecc4ba36e33897190c5f3b51c4f52d925023aabe0b65a4496742d97120c", func := "moveout/moveoutlaw04.CoverBounds", spec := "coverBounds", inPlace := ["internal/abi.NoEscape", "internal/bytealg.MakeNoZero"], unfollowed := true, recurses := true, named := ["moveout/cover.still", "strconv.ErrSyntax", "strconv.ErrRange", "internal/strconv.uint64pow10", "math/bits.deBruijn32tab", "math/bits.deBruijn64tab"], apart := false, laid := [("math/bits.deBruijn32tab", laid_math_bits_deBruijn32tab), ("math/bits.deBruijn64tab", laid_math_bits_deBruijn64tab), ("internal/strconv.uint64pow10", laid_internal_strconv_uint64pow10), ("strconv.ErrRange", laid_strconv_ErrRange), ("strconv.ErrSyntax", laid_strconv_ErrSyntax), ("moveout/cover.still", laid_moveout_cover_still)] }
def CoverBoundsSaid : Prop := coverBoundsRow.holds Tryz.pinned (OpenSpec.ofChange coverBoundsSpec)

/-- ITS FALSE NEIGHBOUR: 'it returns false'. Refute it at one input. -/
def coverBoundsWrong : ChangeSpec := { name := "coverBounds", fn := fun _ => fun
  | [d1, d2] => { results := [.lit (.bool false)], args := [d1, d2] }
  | _ => none }
def CoverBoundsWrongFalsely : Prop := coverBoundsRow.holds Tryz.pinned (OpenSpec.ofChange coverBoundsWrong)

/-- 'moveoutlaw04.CoverChanges': WHATEVER THE INPUT: true; the input reads as it did. -/
def coverChangesSpec : ChangeSpec := { name := "coverChanges", fn := fun _ => fun
  | [d1, d2, d3] => { results := [.lit (.bool true)], args := [d1, d2, d3] }
  | _ => none }
def coverChangesRow : OpenClaim := { program := "ytdmepnhmcppkkaagreatdoor", sum := "7b729ecc4ba36e33897190c5f3b51c4f52d925023aabe0b65a4496742d97120c", func := "moveout/moveoutlaw04.CoverChanges", spec := "coverChanges", inPlace := ["internal/abi.NoEscape", "internal/bytealg.MakeNoZero"], unfollowed := true, recurses := true, named := ["moveout/cover.still", "strconv.ErrSyntax", "strconv.ErrRange", "internal/strconv.uint64pow10", "math/bits.deBruijn32tab", "math/bits.deBruijn64tab"], apart := false, laid := [("math/bits.deBruijn32tab", laid_math_bits_deBruijn32tab), ("math/bits.deBruijn64tab", laid_math_bits_deBruijn64tab), ("internal/strconv.uint64pow10", laid_internal_strconv_uint64pow10), ("strconv.ErrRange", laid_strconv_ErrRange), ("strconv.ErrSyntax", laid_strconv_ErrSyntax), ("moveout/cover.still", laid_moveout_cover_still)] }
def CoverChangesSaid : Prop := coverChangesRow.holds Tryz.pinned (OpenSpec.ofChange coverChangesSpec)

/-- ITS FALSE NEIGHBOUR: 'it returns false'. Refute it at one input. -/
def coverChangesWrong : ChangeSpec := { name := "coverChanges", fn := fun _ => fun
  | [d1, d2, d3] => { results := [.lit (.bool false)], args := [d1, d2, d3] }
  | _ => none }
def CoverChangesWrongFalsely : Prop := coverChangesRow.holds Tryz.pinned (OpenSpec.ofChange coverChangesWrong)

/-- 'moveoutlaw04.CoverMoved': WHATEVER THE INPUT: true; the input reads as it did. -/
def coverMovedSpec : ChangeSpec := { name := "coverMoved", fn := fun _ => fun
  | [d1, d2, d3] => { results := [.lit (.bool true)], args := [d1, d2, d3] }
  | _ => none }
def coverMovedRow : OpenClaim := { program := "ytdmepnhmcppkkaagreatdoor", sum := "7b729ecc4ba36e33897190c5f3b51c4f52d925023aabe0b65a4496742d97120c", func := "moveout/moveoutlaw04.CoverMoved", spec := "coverMoved", inPlace := ["internal/abi.NoEscape", "internal/bytealg.MakeNoZero"], unfollowed := true, recurses := true, named := ["moveout/cover.still", "strconv.ErrSyntax", "strconv.ErrRange", "internal/strconv.uint64pow10", "math/bits.deBruijn32tab", "math/bits.deBruijn64tab"], apart := false, laid := [("math/bits.deBruijn32tab", laid_math_bits_deBruijn32tab), ("math/bits.deBruijn64tab", laid_math_bits_deBruijn64tab), ("internal/strconv.uint64pow10", laid_internal_strconv_uint64pow10), ("strconv.ErrRange", laid_strconv_ErrRange), ("strconv.ErrSyntax", laid_strconv_ErrSyntax), ("moveout/cover.still", laid_moveout_cover_still)] }
def CoverMovedSaid : Prop := coverMovedRow.holds Tryz.pinned (OpenSpec.ofChange coverMovedSpec)

/-- ITS FALSE NEIGHBOUR: 'it returns false'. Refute it at one input. -/
def coverMovedWrong : ChangeSpec := { name := "coverMoved", fn := fun _ => fun
  | [d1, d2, d3] => { results := [.lit (.bool false)], args := [d1, d2, d3] }
  | _ => none }
def CoverMovedWrongFalsely : Prop := coverMovedRow.holds Tryz.pinned (OpenSpec.ofChange coverMovedWrong)

/-- 'moveoutlaw04.CoverOrders': WHATEVER THE INPUT: true; the input reads as it did. -/
def coverOrdersSpec : ChangeSpec := { name := "coverOrders", fn := fun _ => fun
  | [d1, d2] => { results := [.lit (.bool true)], args := [d1, d2] }
  | _ => none }
def coverOrdersRow : OpenClaim := { program := "ytdmepnhmcppkkaagreatdoor", sum := "7b729ecc4ba36e33897190c5f3b51c4f52d925023aabe0b65a4496742d97120c", func := "moveout/moveoutlaw04.CoverOrders", spec := "coverOrders", inPlace := ["internal/abi.NoEscape", "internal/bytealg.MakeNoZero"], unfollowed := true, recurses := true, named := ["moveout/cover.still", "strconv.ErrSyntax", "strconv.ErrRange", "internal/strconv.uint64pow10", "math/bits.deBruijn32tab", "math/bits.deBruijn64tab"], apart := false, laid := [("math/bits.deBruijn32tab", laid_math_bits_deBruijn32tab), ("math/bits.deBruijn64tab", laid_math_bits_deBruijn64tab), ("internal/strconv.uint64pow10", laid_internal_strconv_uint64pow10), ("strconv.ErrRange", laid_strconv_ErrRange), ("strconv.ErrSyntax", laid_strconv_ErrSyntax), ("moveout/cover.still", laid_moveout_cover_still)] }
def CoverOrdersSaid : Prop := coverOrdersRow.holds Tryz.pinned (OpenSpec.ofChange coverOrdersSpec)

/-- ITS FALSE NEIGHBOUR: 'it returns false'. Refute it at one input. -/
def coverOrdersWrong : ChangeSpec := { name := "coverOrders", fn := fun _ => fun
  | [d1, d2] => { results := [.lit (.bool false)], args := [d1, d2] }
  | _ => none }
def CoverOrdersWrongFalsely : Prop := coverOrdersRow.holds Tryz.pinned (OpenSpec.ofChange coverOrdersWrong)

/-- 'moveoutlaw04.CoverTours': WHATEVER THE INPUT: true; the input reads as it did. -/
def coverToursSpec : ChangeSpec := { name := "coverTours", fn := fun _ => fun
  | [d1, d2] => { results := [.lit (.bool true)], args := [d1, d2] }
  | _ => none }
def coverToursRow : OpenClaim := { program := "ytdmepnhmcppkkaagreatdoor", sum := "7b729ecc4ba36e33897190c5f3b51c4f52d925023aabe0b65a4496742d97120c", func := "moveout/moveoutlaw04.CoverTours", spec := "coverTours", inPlace := ["internal/abi.NoEscape", "internal/bytealg.MakeNoZero"], unfollowed := true, recurses := true, named := ["moveout/cover.still", "strconv.ErrSyntax", "strconv.ErrRange", "internal/strconv.uint64pow10", "math/bits.deBruijn32tab", "math/bits.deBruijn64tab"], apart := false, laid := [("math/bits.deBruijn32tab", laid_math_bits_deBruijn32tab), ("math/bits.deBruijn64tab", laid_math_bits_deBruijn64tab), ("internal/strconv.uint64pow10", laid_internal_strconv_uint64pow10), ("strconv.ErrRange", laid_strconv_ErrRange), ("strconv.ErrSyntax", laid_strconv_ErrSyntax), ("moveout/cover.still", laid_moveout_cover_still)] }
def CoverToursSaid : Prop := coverToursRow.holds Tryz.pinned (OpenSpec.ofChange coverToursSpec)

/-- ITS FALSE NEIGHBOUR: 'it returns false'. Refute it at one input. -/
def coverToursWrong : ChangeSpec := { name := "coverTours", fn := fun _ => fun
  | [d1, d2] => { results := [.lit (.bool false)], args := [d1, d2] }
  | _ => none }
def CoverToursWrongFalsely : Prop := coverToursRow.holds Tryz.pinned (OpenSpec.ofChange coverToursWrong)

/-- 'moveoutlaw04.CoverTexts': WHATEVER THE INPUT: true; the input reads as it did. -/
def coverTextsSpec : ChangeSpec := { name := "coverTexts", fn := fun _ => fun
  | [d1, d2] => { results := [.lit (.bool true)], args := [d1, d2] }
  | _ => none }
def coverTextsRow : OpenClaim := { program := "ytdmepnhmcppkkaagreatdoor", sum := "7b729ecc4ba36e33897190c5f3b51c4f52d925023aabe0b65a4496742d97120c", func := "moveout/moveoutlaw04.CoverTexts", spec := "coverTexts", inPlace := ["internal/abi.NoEscape", "internal/bytealg.MakeNoZero", "internal/bytealg.IndexByteString", "internal/bytealg.CountString", "internal/bytealg.IndexString"], unfollowed := true, recurses := true, named := ["moveout/cover.still", "strconv.ErrSyntax", "strconv.ErrRange", "internal/strconv.uint64pow10", "math/bits.deBruijn32tab", "math/bits.deBruijn64tab", "unicode/utf8.first", "unicode/utf8.acceptRanges", "internal/bytealg.MaxLen"], apart := false, laid := [("math/bits.deBruijn32tab", laid_math_bits_deBruijn32tab), ("math/bits.deBruijn64tab", laid_math_bits_deBruijn64tab), ("internal/strconv.uint64pow10", laid_internal_strconv_uint64pow10), ("unicode/utf8.acceptRanges", laid_unicode_utf8_acceptRanges), ("strconv.ErrRange", laid_strconv_ErrRange), ("strconv.ErrSyntax", laid_strconv_ErrSyntax), ("moveout/cover.still", laid_moveout_cover_still), ("unicode/utf8.first", laid_unicode_utf8_first)] }
def CoverTextsSaid : Prop := coverTextsRow.holds Tryz.pinned (OpenSpec.ofChange coverTextsSpec)

/-- ITS FALSE NEIGHBOUR: 'it returns false'. Refute it at one input. -/
def coverTextsWrong : ChangeSpec := { name := "coverTexts", fn := fun _ => fun
  | [d1, d2] => { results := [.lit (.bool false)], args := [d1, d2] }
  | _ => none }
def CoverTextsWrongFalsely : Prop := coverTextsRow.holds Tryz.pinned (OpenSpec.ofChange coverTextsWrong)

/-- 'moveoutlaw04.CoverBack': WHATEVER THE INPUT: true; the input reads as it did. -/
def coverBackSpec : ChangeSpec := { name := "coverBack", fn := fun _ => fun
  | [d1, d2] => { results := [.lit (.bool true)], args := [d1, d2] }
  | _ => none }
def coverBackRow : OpenClaim := { program := "ytdmepnhmcppkkaagreatdoor", sum := "7b729ecc4ba36e33897190c5f3b51c4f52d925023aabe0b65a4496742d97120c", func := "moveout/moveoutlaw04.CoverBack", spec := "coverBack", inPlace := ["internal/abi.NoEscape", "internal/bytealg.MakeNoZero", "internal/bytealg.IndexByteString", "internal/bytealg.CountString", "internal/bytealg.IndexString"], unfollowed := true, recurses := true, named := ["moveout/cover.still", "strconv.ErrSyntax", "strconv.ErrRange", "internal/strconv.uint64pow10", "math/bits.deBruijn32tab", "math/bits.deBruijn64tab", "unicode/utf8.first", "unicode/utf8.acceptRanges", "internal/bytealg.MaxLen"], apart := false, laid := [("math/bits.deBruijn32tab", laid_math_bits_deBruijn32tab), ("math/bits.deBruijn64tab", laid_math_bits_deBruijn64tab), ("internal/strconv.uint64pow10", laid_internal_strconv_uint64pow10), ("unicode/utf8.acceptRanges", laid_unicode_utf8_acceptRanges), ("strconv.ErrRange", laid_strconv_ErrRange), ("strconv.ErrSyntax", laid_strconv_ErrSyntax), ("moveout/cover.still", laid_moveout_cover_still), ("unicode/utf8.first", laid_unicode_utf8_first)] }
def CoverBackSaid : Prop := coverBackRow.holds Tryz.pinned (OpenSpec.ofChange coverBackSpec)

/-- ITS FALSE NEIGHBOUR: 'it returns false'. Refute it at one input. -/
def coverBackWrong : ChangeSpec := { name := "coverBack", fn := fun _ => fun
  | [d1, d2] => { results := [.lit (.bool false)], args := [d1, d2] }
  | _ => none }
def CoverBackWrongFalsely : Prop := coverBackRow.holds Tryz.pinned (OpenSpec.ofChange coverBackWrong)

/- THE SECOND FORM. 'bulk': how many values and letters a reading holds, each counted each time it is reached (what is shared counts as often as it is met; a slice's spare places count too). A statement '..UptoSaid' is the law's where the arguments, and the package variables that the reading takes, are together of bulk at most 1048576: NARROWER than '..Said'. Prove '..Said' where nothing that the law and all that it calls make is longer than what came in: it says more and counts as full. Else prove '..UptoSaid'. A law counts once. -/
mutual
def uptoBulk {H : Type} : DataW H → Nat
  | .lit (.string bytes) => bytes.length + 1
  | .lit _ => 1
  | .nil => 1
  | .ptr d => uptoBulk d + 1
  | .slice elems spare => uptoBulkAll elems + uptoBulkAll spare + 1
  | .agg parts => uptoBulkAll parts + 1
  | .iface _ d => uptoBulk d + 1
  | .map entries => uptoBulkEntries entries + 1
  | .held _ => 1
def uptoBulkAll {H : Type} : List (DataW H) → Nat
  | [] => 0
  | d :: r => uptoBulk d + uptoBulkAll r
def uptoBulkEntries {H : Type} : List (Lit × DataW H) → Nat
  | [] => 0
  | x :: r => uptoBulkEntry x + uptoBulkEntries r
def uptoBulkEntry {H : Type} : Lit × DataW H → Nat
  | (.string bytes, d) => bytes.length + uptoBulk d + 1
  | (_, d) => uptoBulk d + 1
 end
def uptoSmall : (H : Type) → List (DataW H) → Bool := fun _ ds => decide (uptoBulkAll ds ≤ 1048576)
def OpenSpec.upto (s : _root_.Go.ChangeSpec) : _root_.Go.OpenSpec := { _root_.Go.OpenSpec.ofChange s with cond := some uptoSmall }

/-- 'moveoutlaw04.CoverLines', WHERE WHAT IT READS IS OF BULK AT MOST 1048576: true; the input reads as it did. -/
def coverLinesUptoRow : OpenClaim := { program := "ytdmepnhmcppkkaagreatdoor", sum := "7b729ecc4ba36e33897190c5f3b51c4f52d925023aabe0b65a4496742d97120c", func := "moveout/moveoutlaw04.CoverLines", spec := "coverLines", inPlace := ["internal/abi.NoEscape", "internal/bytealg.MakeNoZero"], unfollowed := true, recurses := true, named := ["moveout/cover.still", "strconv.ErrSyntax", "strconv.ErrRange", "internal/strconv.uint64pow10", "math/bits.deBruijn32tab", "math/bits.deBruijn64tab"], apart := false, laid := [("math/bits.deBruijn32tab", laid_math_bits_deBruijn32tab), ("math/bits.deBruijn64tab", laid_math_bits_deBruijn64tab), ("internal/strconv.uint64pow10", laid_internal_strconv_uint64pow10), ("strconv.ErrRange", laid_strconv_ErrRange), ("strconv.ErrSyntax", laid_strconv_ErrSyntax), ("moveout/cover.still", laid_moveout_cover_still)], narrowed := true }
def CoverLinesUptoSaid : Prop := coverLinesUptoRow.holds Tryz.pinned (OpenSpec.upto coverLinesSpec)

/-- 'moveoutlaw04.CoverFolds', WHERE WHAT IT READS IS OF BULK AT MOST 1048576: true; the input reads as it did. -/
def coverFoldsUptoRow : OpenClaim := { program := "ytdmepnhmcppkkaagreatdoor", sum := "7b729ecc4ba36e33897190c5f3b51c4f52d925023aabe0b65a4496742d97120c", func := "moveout/moveoutlaw04.CoverFolds", spec := "coverFolds", inPlace := ["internal/abi.NoEscape", "internal/bytealg.MakeNoZero"], unfollowed := true, recurses := true, named := ["moveout/cover.still", "strconv.ErrSyntax", "strconv.ErrRange", "internal/strconv.uint64pow10", "math/bits.deBruijn32tab", "math/bits.deBruijn64tab"], apart := false, laid := [("math/bits.deBruijn32tab", laid_math_bits_deBruijn32tab), ("math/bits.deBruijn64tab", laid_math_bits_deBruijn64tab), ("internal/strconv.uint64pow10", laid_internal_strconv_uint64pow10), ("strconv.ErrRange", laid_strconv_ErrRange), ("strconv.ErrSyntax", laid_strconv_ErrSyntax), ("moveout/cover.still", laid_moveout_cover_still)], narrowed := true }
def CoverFoldsUptoSaid : Prop := coverFoldsUptoRow.holds Tryz.pinned (OpenSpec.upto coverFoldsSpec)

/-- 'moveoutlaw04.CoverPrices', WHERE WHAT IT READS IS OF BULK AT MOST 1048576: true; the input reads as it did. -/
def coverPricesUptoRow : OpenClaim := { program := "ytdmepnhmcppkkaagreatdoor", sum := "7b729ecc4ba36e33897190c5f3b51c4f52d925023aabe0b65a4496742d97120c", func := "moveout/moveoutlaw04.CoverPrices", spec := "coverPrices", inPlace := ["internal/abi.NoEscape", "internal/bytealg.MakeNoZero"], unfollowed := true, recurses := true, named := ["moveout/cover.still", "strconv.ErrSyntax", "strconv.ErrRange", "internal/strconv.uint64pow10", "math/bits.deBruijn32tab", "math/bits.deBruijn64tab"], apart := false, laid := [("math/bits.deBruijn32tab", laid_math_bits_deBruijn32tab), ("math/bits.deBruijn64tab", laid_math_bits_deBruijn64tab), ("internal/strconv.uint64pow10", laid_internal_strconv_uint64pow10), ("strconv.ErrRange", laid_strconv_ErrRange), ("strconv.ErrSyntax", laid_strconv_ErrSyntax), ("moveout/cover.still", laid_moveout_cover_still)], narrowed := true }
def CoverPricesUptoSaid : Prop := coverPricesUptoRow.holds Tryz.pinned (OpenSpec.upto coverPricesSpec)

/-- 'moveoutlaw04.CoverBins', WHERE WHAT IT READS IS OF BULK AT MOST 1048576: true; the input reads as it did. -/
def coverBinsUptoRow : OpenClaim := { program := "ytdmepnhmcppkkaagreatdoor", sum := "7b729ecc4ba36e33897190c5f3b51c4f52d925023aabe0b65a4496742d97120c", func := "moveout/moveoutlaw04.CoverBins", spec := "coverBins", inPlace := ["internal/abi.NoEscape", "internal/bytealg.MakeNoZero"], unfollowed := true, recurses := true, named := ["moveout/cover.still", "strconv.ErrSyntax", "strconv.ErrRange", "internal/strconv.uint64pow10", "math/bits.deBruijn32tab", "math/bits.deBruijn64tab"], apart := false, laid := [("math/bits.deBruijn32tab", laid_math_bits_deBruijn32tab), ("math/bits.deBruijn64tab", laid_math_bits_deBruijn64tab), ("internal/strconv.uint64pow10", laid_internal_strconv_uint64pow10), ("strconv.ErrRange", laid_strconv_ErrRange), ("strconv.ErrSyntax", laid_strconv_ErrSyntax), ("moveout/cover.still", laid_moveout_cover_still)], narrowed := true }
def CoverBinsUptoSaid : Prop := coverBinsUptoRow.holds Tryz.pinned (OpenSpec.upto coverBinsSpec)

/-- 'moveoutlaw04.CoverCounted', WHERE WHAT IT READS IS OF BULK AT MOST 1048576: true; the input reads as it did. -/
def coverCountedUptoRow : OpenClaim := { program := "ytdmepnhmcppkkaagreatdoor", sum := "7b729ecc4ba36e33897190c5f3b51c4f52d925023aabe0b65a4496742d97120c", func := "moveout/moveoutlaw04.CoverCounted", spec := "coverCounted", inPlace := ["internal/abi.NoEscape", "internal/bytealg.MakeNoZero"], unfollowed := true, recurses := true, named := ["moveout/cover.still", "strconv.ErrSyntax", "strconv.ErrRange", "internal/strconv.uint64pow10", "math/bits.deBruijn32tab", "math/bits.deBruijn64tab"], apart := false, laid := [("math/bits.deBruijn32tab", laid_math_bits_deBruijn32tab), ("math/bits.deBruijn64tab", laid_math_bits_deBruijn64tab), ("internal/strconv.uint64pow10", laid_internal_strconv_uint64pow10), ("strconv.ErrRange", laid_strconv_ErrRange), ("strconv.ErrSyntax", laid_strconv_ErrSyntax), ("moveout/cover.still", laid_moveout_cover_still)], narrowed := true }
def CoverCountedUptoSaid : Prop := coverCountedUptoRow.holds Tryz.pinned (OpenSpec.upto coverCountedSpec)

/-- 'moveoutlaw04.CoverInfills', WHERE WHAT IT READS IS OF BULK AT MOST 1048576: true; the input reads as it did. -/
def coverInfillsUptoRow : OpenClaim := { program := "ytdmepnhmcppkkaagreatdoor", sum := "7b729ecc4ba36e33897190c5f3b51c4f52d925023aabe0b65a4496742d97120c", func := "moveout/moveoutlaw04.CoverInfills", spec := "coverInfills", inPlace := ["internal/abi.NoEscape", "internal/bytealg.MakeNoZero"], unfollowed := true, recurses := true, named := ["moveout/cover.still", "strconv.ErrSyntax", "strconv.ErrRange", "internal/strconv.uint64pow10", "math/bits.deBruijn32tab", "math/bits.deBruijn64tab"], apart := false, laid := [("math/bits.deBruijn32tab", laid_math_bits_deBruijn32tab), ("math/bits.deBruijn64tab", laid_math_bits_deBruijn64tab), ("internal/strconv.uint64pow10", laid_internal_strconv_uint64pow10), ("strconv.ErrRange", laid_strconv_ErrRange), ("strconv.ErrSyntax", laid_strconv_ErrSyntax), ("moveout/cover.still", laid_moveout_cover_still)], narrowed := true }
def CoverInfillsUptoSaid : Prop := coverInfillsUptoRow.holds Tryz.pinned (OpenSpec.upto coverInfillsSpec)

/-- 'moveoutlaw04.CoverBounds', WHERE WHAT IT READS IS OF BULK AT MOST 1048576: true; the input reads as it did. -/
def coverBoundsUptoRow : OpenClaim := { program := "ytdmepnhmcppkkaagreatdoor", sum := "7b729ecc4ba36e33897190c5f3b51c4f52d925023aabe0b65a4496742d97120c", func := "moveout/moveoutlaw04.CoverBounds", spec := "coverBounds", inPlace := ["internal/abi.NoEscape", "internal/bytealg.MakeNoZero"], unfollowed := true, recurses := true, named := ["moveout/cover.still", "strconv.ErrSyntax", "strconv.ErrRange", "internal/strconv.uint64pow10", "math/bits.deBruijn32tab", "math/bits.deBruijn64tab"], apart := false, laid := [("math/bits.deBruijn32tab", laid_math_bits_deBruijn32tab), ("math/bits.deBruijn64tab", laid_math_bits_deBruijn64tab), ("internal/strconv.uint64pow10", laid_internal_strconv_uint64pow10), ("strconv.ErrRange", laid_strconv_ErrRange), ("strconv.ErrSyntax", laid_strconv_ErrSyntax), ("moveout/cover.still", laid_moveout_cover_still)], narrowed := true }
def CoverBoundsUptoSaid : Prop := coverBoundsUptoRow.holds Tryz.pinned (OpenSpec.upto coverBoundsSpec)

/-- 'moveoutlaw04.CoverChanges', WHERE WHAT IT READS IS OF BULK AT MOST 1048576: true; the input reads as it did. -/
def coverChangesUptoRow : OpenClaim := { program := "ytdmepnhmcppkkaagreatdoor", sum := "7b729ecc4ba36e33897190c5f3b51c4f52d925023aabe0b65a4496742d97120c", func := "moveout/moveoutlaw04.CoverChanges", spec := "coverChanges", inPlace := ["internal/abi.NoEscape", "internal/bytealg.MakeNoZero"], unfollowed := true, recurses := true, named := ["moveout/cover.still", "strconv.ErrSyntax", "strconv.ErrRange", "internal/strconv.uint64pow10", "math/bits.deBruijn32tab", "math/bits.deBruijn64tab"], apart := false, laid := [("math/bits.deBruijn32tab", laid_math_bits_deBruijn32tab), ("math/bits.deBruijn64tab", laid_math_bits_deBruijn64tab), ("internal/strconv.uint64pow10", laid_internal_strconv_uint64pow10), ("strconv.ErrRange", laid_strconv_ErrRange), ("strconv.ErrSyntax", laid_strconv_ErrSyntax), ("moveout/cover.still", laid_moveout_cover_still)], narrowed := true }
def CoverChangesUptoSaid : Prop := coverChangesUptoRow.holds Tryz.pinned (OpenSpec.upto coverChangesSpec)

/-- 'moveoutlaw04.CoverMoved', WHERE WHAT IT READS IS OF BULK AT MOST 1048576: true; the input reads as it did. -/
def coverMovedUptoRow : OpenClaim := { program := "ytdmepnhmcppkkaagreatdoor", sum := "7b729ecc4ba36e33897190c5f3b51c4f52d925023aabe0b65a4496742d97120c", func := "moveout/moveoutlaw04.CoverMoved", spec := "coverMoved", inPlace := ["internal/abi.NoEscape", "internal/bytealg.MakeNoZero"], unfollowed := true, recurses := true, named := ["moveout/cover.still", "strconv.ErrSyntax", "strconv.ErrRange", "internal/strconv.uint64pow10", "math/bits.deBruijn32tab", "math/bits.deBruijn64tab"], apart := false, laid := [("math/bits.deBruijn32tab", laid_math_bits_deBruijn32tab), ("math/bits.deBruijn64tab", laid_math_bits_deBruijn64tab), ("internal/strconv.uint64pow10", laid_internal_strconv_uint64pow10), ("strconv.ErrRange", laid_strconv_ErrRange), ("strconv.ErrSyntax", laid_strconv_ErrSyntax), ("moveout/cover.still", laid_moveout_cover_still)], narrowed := true }
def CoverMovedUptoSaid : Prop := coverMovedUptoRow.holds Tryz.pinned (OpenSpec.upto coverMovedSpec)

/-- 'moveoutlaw04.CoverOrders', WHERE WHAT IT READS IS OF BULK AT MOST 1048576: true; the input reads as it did. -/
def coverOrdersUptoRow : OpenClaim := { program := "ytdmepnhmcppkkaagreatdoor", sum := "7b729ecc4ba36e33897190c5f3b51c4f52d925023aabe0b65a4496742d97120c", func := "moveout/moveoutlaw04.CoverOrders", spec := "coverOrders", inPlace := ["internal/abi.NoEscape", "internal/bytealg.MakeNoZero"], unfollowed := true, recurses := true, named := ["moveout/cover.still", "strconv.ErrSyntax", "strconv.ErrRange", "internal/strconv.uint64pow10", "math/bits.deBruijn32tab", "math/bits.deBruijn64tab"], apart := false, laid := [("math/bits.deBruijn32tab", laid_math_bits_deBruijn32tab), ("math/bits.deBruijn64tab", laid_math_bits_deBruijn64tab), ("internal/strconv.uint64pow10", laid_internal_strconv_uint64pow10), ("strconv.ErrRange", laid_strconv_ErrRange), ("strconv.ErrSyntax", laid_strconv_ErrSyntax), ("moveout/cover.still", laid_moveout_cover_still)], narrowed := true }
def CoverOrdersUptoSaid : Prop := coverOrdersUptoRow.holds Tryz.pinned (OpenSpec.upto coverOrdersSpec)

/-- 'moveoutlaw04.CoverTours', WHERE WHAT IT READS IS OF BULK AT MOST 1048576: true; the input reads as it did. -/
def coverToursUptoRow : OpenClaim := { program := "ytdmepnhmcppkkaagreatdoor", sum := "7b729ecc4ba36e33897190c5f3b51c4f52d925023aabe0b65a4496742d97120c", func := "moveout/moveoutlaw04.CoverTours", spec := "coverTours", inPlace := ["internal/abi.NoEscape", "internal/bytealg.MakeNoZero"], unfollowed := true, recurses := true, named := ["moveout/cover.still", "strconv.ErrSyntax", "strconv.ErrRange", "internal/strconv.uint64pow10", "math/bits.deBruijn32tab", "math/bits.deBruijn64tab"], apart := false, laid := [("math/bits.deBruijn32tab", laid_math_bits_deBruijn32tab), ("math/bits.deBruijn64tab", laid_math_bits_deBruijn64tab), ("internal/strconv.uint64pow10", laid_internal_strconv_uint64pow10), ("strconv.ErrRange", laid_strconv_ErrRange), ("strconv.ErrSyntax", laid_strconv_ErrSyntax), ("moveout/cover.still", laid_moveout_cover_still)], narrowed := true }
def CoverToursUptoSaid : Prop := coverToursUptoRow.holds Tryz.pinned (OpenSpec.upto coverToursSpec)

/-- 'moveoutlaw04.CoverTexts', WHERE WHAT IT READS IS OF BULK AT MOST 1048576: true; the input reads as it did. -/
def coverTextsUptoRow : OpenClaim := { program := "ytdmepnhmcppkkaagreatdoor", sum := "7b729ecc4ba36e33897190c5f3b51c4f52d925023aabe0b65a4496742d97120c", func := "moveout/moveoutlaw04.CoverTexts", spec := "coverTexts", inPlace := ["internal/abi.NoEscape", "internal/bytealg.MakeNoZero", "internal/bytealg.IndexByteString", "internal/bytealg.CountString", "internal/bytealg.IndexString"], unfollowed := true, recurses := true, named := ["moveout/cover.still", "strconv.ErrSyntax", "strconv.ErrRange", "internal/strconv.uint64pow10", "math/bits.deBruijn32tab", "math/bits.deBruijn64tab", "unicode/utf8.first", "unicode/utf8.acceptRanges", "internal/bytealg.MaxLen"], apart := false, laid := [("math/bits.deBruijn32tab", laid_math_bits_deBruijn32tab), ("math/bits.deBruijn64tab", laid_math_bits_deBruijn64tab), ("internal/strconv.uint64pow10", laid_internal_strconv_uint64pow10), ("unicode/utf8.acceptRanges", laid_unicode_utf8_acceptRanges), ("strconv.ErrRange", laid_strconv_ErrRange), ("strconv.ErrSyntax", laid_strconv_ErrSyntax), ("moveout/cover.still", laid_moveout_cover_still), ("unicode/utf8.first", laid_unicode_utf8_first)], narrowed := true }
def CoverTextsUptoSaid : Prop := coverTextsUptoRow.holds Tryz.pinned (OpenSpec.upto coverTextsSpec)

/-- 'moveoutlaw04.CoverBack', WHERE WHAT IT READS IS OF BULK AT MOST 1048576: true; the input reads as it did. -/
def coverBackUptoRow : OpenClaim := { program := "ytdmepnhmcppkkaagreatdoor", sum := "7b729ecc4ba36e33897190c5f3b51c4f52d925023aabe0b65a4496742d97120c", func := "moveout/moveoutlaw04.CoverBack", spec := "coverBack", inPlace := ["internal/abi.NoEscape", "internal/bytealg.MakeNoZero", "internal/bytealg.IndexByteString", "internal/bytealg.CountString", "internal/bytealg.IndexString"], unfollowed := true, recurses := true, named := ["moveout/cover.still", "strconv.ErrSyntax", "strconv.ErrRange", "internal/strconv.uint64pow10", "math/bits.deBruijn32tab", "math/bits.deBruijn64tab", "unicode/utf8.first", "unicode/utf8.acceptRanges", "internal/bytealg.MaxLen"], apart := false, laid := [("math/bits.deBruijn32tab", laid_math_bits_deBruijn32tab), ("math/bits.deBruijn64tab", laid_math_bits_deBruijn64tab), ("internal/strconv.uint64pow10", laid_internal_strconv_uint64pow10), ("unicode/utf8.acceptRanges", laid_unicode_utf8_acceptRanges), ("strconv.ErrRange", laid_strconv_ErrRange), ("strconv.ErrSyntax", laid_strconv_ErrSyntax), ("moveout/cover.still", laid_moveout_cover_still), ("unicode/utf8.first", laid_unicode_utf8_first)], narrowed := true }
def CoverBackUptoSaid : Prop := coverBackUptoRow.holds Tryz.pinned (OpenSpec.upto coverBackSpec)

end Rows
end Go.Proofs.YtdmepnhmcppkkaaGreatDoor
