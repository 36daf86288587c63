/-
The walk through what TopSpraySoft reaches, and the plain law behind it (no condition).
-/
import Derived.KernelRfl
import Derived.Test.YtljglocehbccnaaProg
import Derived.Test.YtljglocehbccnaaAa
import Derived.Test.YtljglocehbccnaaAf
/-
The types of the seat's program, as the evaluator asks for them.
-/
namespace Go.Proofs.Ytljglocehbccnaa
open Go Go.Ab Go.Proofs
@[simp] theorem sz0 : szA Try.prog 0 = some 1 := by kernel_rfl
@[simp] theorem ag0 : isAggA Try.prog 0 = some false := by kernel_rfl
@[simp] theorem ze0 : zeroA Try.prog 0 = some (.tuple #[]) := by kernel_rfl
@[simp] theorem sz1 : szA Try.prog 1 = some 1 := by kernel_rfl
@[simp] theorem ag1 : isAggA Try.prog 1 = some false := by kernel_rfl
@[simp] theorem ze1 : zeroA Try.prog 1 = some (.nilFunc) := by kernel_rfl
@[simp] theorem sz2 : szA Try.prog 2 = some 1 := by kernel_rfl
@[simp] theorem ag2 : isAggA Try.prog 2 = some false := by kernel_rfl
@[simp] theorem ze2 : zeroA Try.prog 2 = some (.int .i64 (0)) := by kernel_rfl
@[simp] theorem sz3 : szA Try.prog 3 = some 1 := by kernel_rfl
@[simp] theorem ag3 : isAggA Try.prog 3 = some false := by kernel_rfl
@[simp] theorem ze3 : zeroA Try.prog 3 = some (.int .i64 (0)) := by kernel_rfl
@[simp] theorem sz4 : szA Try.prog 4 = some 1 := by kernel_rfl
@[simp] theorem ag4 : isAggA Try.prog 4 = some false := by kernel_rfl
@[simp] theorem ze4 : zeroA Try.prog 4 = some (.bool false) := by kernel_rfl
@[simp] theorem sz5 : szA Try.prog 5 = some 1 := by kernel_rfl
@[simp] theorem ag5 : isAggA Try.prog 5 = some false := by kernel_rfl
@[simp] theorem ze5 : zeroA Try.prog 5 = some (.int .u8 (0)) := by kernel_rfl
@[simp] theorem sz6 : szA Try.prog 6 = some 1 := by kernel_rfl
@[simp] theorem ag6 : isAggA Try.prog 6 = some false := by kernel_rfl
@[simp] theorem ze6 : zeroA Try.prog 6 = some (.int .u8 (0)) := by kernel_rfl
@[simp] theorem sz7 : szA Try.prog 7 = some 4 := by kernel_rfl
@[simp] theorem ag7 : isAggA Try.prog 7 = some true := by kernel_rfl
@[simp] theorem ze7 : zeroA Try.prog 7 = some (.agg #[.int .i64 (0), .int .i64 (0), .bool false, .int .u8 (0)]) := by kernel_rfl
@[simp] theorem sz8 : szA Try.prog 8 = some 4 := by kernel_rfl
@[simp] theorem ag8 : isAggA Try.prog 8 = some true := by kernel_rfl
@[simp] theorem ze8 : zeroA Try.prog 8 = some (.agg #[.int .i64 (0), .int .i64 (0), .bool false, .int .u8 (0)]) := by kernel_rfl
@[simp] theorem sz9 : szA Try.prog 9 = some 1 := by kernel_rfl
@[simp] theorem ag9 : isAggA Try.prog 9 = some false := by kernel_rfl
@[simp] theorem ze9 : zeroA Try.prog 9 = some (.string ⟨#[]⟩) := by kernel_rfl
@[simp] theorem sz10 : szA Try.prog 10 = some 1 := by kernel_rfl
@[simp] theorem ag10 : isAggA Try.prog 10 = some false := by kernel_rfl
@[simp] theorem ze10 : zeroA Try.prog 10 = some (.string ⟨#[]⟩) := by kernel_rfl
@[simp] theorem sz11 : szA Try.prog 11 = some 1 := by kernel_rfl
@[simp] theorem ag11 : isAggA Try.prog 11 = some false := by kernel_rfl
@[simp] theorem ze11 : zeroA Try.prog 11 = some (.string ⟨#[]⟩) := by kernel_rfl
@[simp] theorem sz12 : szA Try.prog 12 = some 1 := by kernel_rfl
@[simp] theorem ag12 : isAggA Try.prog 12 = some false := by kernel_rfl
@[simp] theorem ze12 : zeroA Try.prog 12 = some (.int .u64 (0)) := by kernel_rfl
@[simp] theorem sz13 : szA Try.prog 13 = some 2 := by kernel_rfl
@[simp] theorem ag13 : isAggA Try.prog 13 = some true := by kernel_rfl
@[simp] theorem ze13 : zeroA Try.prog 13 = some (.agg #[.string ⟨#[]⟩, .int .u64 (0)]) := by kernel_rfl
@[simp] theorem sz14 : szA Try.prog 14 = some 2 := by kernel_rfl
@[simp] theorem ag14 : isAggA Try.prog 14 = some true := by kernel_rfl
@[simp] theorem ze14 : zeroA Try.prog 14 = some (.agg #[.string ⟨#[]⟩, .int .u64 (0)]) := by kernel_rfl
@[simp] theorem sz15 : szA Try.prog 15 = some 1 := by kernel_rfl
@[simp] theorem ag15 : isAggA Try.prog 15 = some false := by kernel_rfl
@[simp] theorem ze15 : zeroA Try.prog 15 = some (.pointer none) := by kernel_rfl
@[simp] theorem sz16 : szA Try.prog 16 = some 1 := by kernel_rfl
@[simp] theorem ag16 : isAggA Try.prog 16 = some false := by kernel_rfl
@[simp] theorem ze16 : zeroA Try.prog 16 = some (.pointer none) := by kernel_rfl
@[simp] theorem sz17 : szA Try.prog 17 = some 1 := by kernel_rfl
@[simp] theorem ag17 : isAggA Try.prog 17 = some false := by kernel_rfl
@[simp] theorem ze17 : zeroA Try.prog 17 = some (.pointer none) := by kernel_rfl
@[simp] theorem sz18 : szA Try.prog 18 = some 1 := by kernel_rfl
@[simp] theorem ag18 : isAggA Try.prog 18 = some true := by kernel_rfl
@[simp] theorem ze18 : zeroA Try.prog 18 = some (.agg #[.pointer none]) := by kernel_rfl
@[simp] theorem sz19 : szA Try.prog 19 = some 1 := by kernel_rfl
@[simp] theorem ag19 : isAggA Try.prog 19 = some true := by kernel_rfl
@[simp] theorem ze19 : zeroA Try.prog 19 = some (.agg #[.pointer none]) := by kernel_rfl
@[simp] theorem sz20 : szA Try.prog 20 = some 1 := by kernel_rfl
@[simp] theorem ag20 : isAggA Try.prog 20 = some false := by kernel_rfl
@[simp] theorem ze20 : zeroA Try.prog 20 = some (.nilIface) := by kernel_rfl
@[simp] theorem sz21 : szA Try.prog 21 = some 1 := by kernel_rfl
@[simp] theorem ag21 : isAggA Try.prog 21 = some false := by kernel_rfl
@[simp] theorem ze21 : zeroA Try.prog 21 = some (.int .i32 (0)) := by kernel_rfl
@[simp] theorem sz22 : szA Try.prog 22 = some 2 := by kernel_rfl
@[simp] theorem ag22 : isAggA Try.prog 22 = some true := by kernel_rfl
@[simp] theorem ze22 : zeroA Try.prog 22 = some (.agg #[.int .i64 (0), .int .i64 (0)]) := by kernel_rfl
@[simp] theorem sz23 : szA Try.prog 23 = some 2 := by kernel_rfl
@[simp] theorem ag23 : isAggA Try.prog 23 = some true := by kernel_rfl
@[simp] theorem ze23 : zeroA Try.prog 23 = some (.agg #[.int .i64 (0), .int .i64 (0)]) := by kernel_rfl
@[simp] theorem sz24 : szA Try.prog 24 = some 5 := by kernel_rfl
@[simp] theorem ag24 : isAggA Try.prog 24 = some true := by kernel_rfl
@[simp] theorem ze24 : zeroA Try.prog 24 = some (.agg #[.int .i64 (0), .int .i64 (0), .int .i64 (0), .int .i64 (0), .int .i64 (0)]) := by kernel_rfl
@[simp] theorem sz25 : szA Try.prog 25 = some 5 := by kernel_rfl
@[simp] theorem ag25 : isAggA Try.prog 25 = some true := by kernel_rfl
@[simp] theorem ze25 : zeroA Try.prog 25 = some (.agg #[.int .i64 (0), .int .i64 (0), .int .i64 (0), .int .i64 (0), .int .i64 (0)]) := by kernel_rfl
@[simp] theorem sz26 : szA Try.prog 26 = some 5 := by kernel_rfl
@[simp] theorem ag26 : isAggA Try.prog 26 = some true := by kernel_rfl
@[simp] theorem ze26 : zeroA Try.prog 26 = some (.agg #[.int .i64 (0), .int .i64 (0), .int .i64 (0), .int .i64 (0), .int .i64 (0)]) := by kernel_rfl
@[simp] theorem sz27 : szA Try.prog 27 = some 5 := by kernel_rfl
@[simp] theorem ag27 : isAggA Try.prog 27 = some true := by kernel_rfl
@[simp] theorem ze27 : zeroA Try.prog 27 = some (.agg #[.int .i64 (0), .int .i64 (0), .int .i64 (0), .int .i64 (0), .int .i64 (0)]) := by kernel_rfl
@[simp] theorem sz28 : szA Try.prog 28 = some 1 := by kernel_rfl
@[simp] theorem ag28 : isAggA Try.prog 28 = some false := by kernel_rfl
@[simp] theorem ze28 : zeroA Try.prog 28 = some (.slice none 0 0) := by kernel_rfl
@[simp] theorem sz29 : szA Try.prog 29 = some 14 := by kernel_rfl
@[simp] theorem ag29 : isAggA Try.prog 29 = some true := by kernel_rfl
@[simp] theorem ze29 : zeroA Try.prog 29 = some (.agg #[.int .i64 (0), .int .i64 (0), .int .i64 (0), .int .i64 (0), .int .i64 (0), .int .i64 (0), .int .i64 (0), .int .i64 (0), .int .i64 (0), .int .i64 (0), .slice none 0 0, .int .u8 (0), .int .u8 (0), .int .u8 (0)]) := by kernel_rfl
@[simp] theorem sz30 : szA Try.prog 30 = some 14 := by kernel_rfl
@[simp] theorem ag30 : isAggA Try.prog 30 = some true := by kernel_rfl
@[simp] theorem ze30 : zeroA Try.prog 30 = some (.agg #[.int .i64 (0), .int .i64 (0), .int .i64 (0), .int .i64 (0), .int .i64 (0), .int .i64 (0), .int .i64 (0), .int .i64 (0), .int .i64 (0), .int .i64 (0), .slice none 0 0, .int .u8 (0), .int .u8 (0), .int .u8 (0)]) := by kernel_rfl
@[simp] theorem sz31 : szA Try.prog 31 = some 1 := by kernel_rfl
@[simp] theorem ag31 : isAggA Try.prog 31 = some false := by kernel_rfl
@[simp] theorem ze31 : zeroA Try.prog 31 = some (.nilFunc) := by kernel_rfl
@[simp] theorem sz32 : szA Try.prog 32 = some 1 := by kernel_rfl
@[simp] theorem ag32 : isAggA Try.prog 32 = some false := by kernel_rfl
@[simp] theorem ze32 : zeroA Try.prog 32 = some (.nilFunc) := by kernel_rfl
@[simp] theorem sz33 : szA Try.prog 33 = some 6 := by kernel_rfl
@[simp] theorem ag33 : isAggA Try.prog 33 = some true := by kernel_rfl
@[simp] theorem ze33 : zeroA Try.prog 33 = some (.agg #[.int .i64 (0), .int .i64 (0), .int .i64 (0), .int .i64 (0), .int .i64 (0), .int .i64 (0)]) := by kernel_rfl
@[simp] theorem sz34 : szA Try.prog 34 = some 6 := by kernel_rfl
@[simp] theorem ag34 : isAggA Try.prog 34 = some true := by kernel_rfl
@[simp] theorem ze34 : zeroA Try.prog 34 = some (.agg #[.int .i64 (0), .int .i64 (0), .int .i64 (0), .int .i64 (0), .int .i64 (0), .int .i64 (0)]) := by kernel_rfl
@[simp] theorem sz35 : szA Try.prog 35 = some 1 := by kernel_rfl
@[simp] theorem ag35 : isAggA Try.prog 35 = some false := by kernel_rfl
@[simp] theorem ze35 : zeroA Try.prog 35 = some (.slice none 0 0) := by kernel_rfl
@[simp] theorem sz36 : szA Try.prog 36 = some 1 := by kernel_rfl
@[simp] theorem ag36 : isAggA Try.prog 36 = some false := by kernel_rfl
@[simp] theorem ze36 : zeroA Try.prog 36 = some (.int .i64 (0)) := by kernel_rfl
@[simp] theorem sz37 : szA Try.prog 37 = some 1 := by kernel_rfl
@[simp] theorem ag37 : isAggA Try.prog 37 = some false := by kernel_rfl
@[simp] theorem ze37 : zeroA Try.prog 37 = some (.tuple #[.slice none 0 0, .int .i64 (0)]) := by kernel_rfl
@[simp] theorem sz38 : szA Try.prog 38 = some 1 := by kernel_rfl
@[simp] theorem ag38 : isAggA Try.prog 38 = some false := by kernel_rfl
@[simp] theorem ze38 : zeroA Try.prog 38 = some (.nilFunc) := by kernel_rfl
@[simp] theorem sz39 : szA Try.prog 39 = some 1 := by kernel_rfl
@[simp] theorem ag39 : isAggA Try.prog 39 = some false := by kernel_rfl
@[simp] theorem ze39 : zeroA Try.prog 39 = some (.slice none 0 0) := by kernel_rfl
@[simp] theorem sz40 : szA Try.prog 40 = some 1 := by kernel_rfl
@[simp] theorem ag40 : isAggA Try.prog 40 = some false := by kernel_rfl
@[simp] theorem ze40 : zeroA Try.prog 40 = some (.tuple #[.slice none 0 0, .int .i64 (0)]) := by kernel_rfl
@[simp] theorem sz41 : szA Try.prog 41 = some 1 := by kernel_rfl
@[simp] theorem ag41 : isAggA Try.prog 41 = some false := by kernel_rfl
@[simp] theorem ze41 : zeroA Try.prog 41 = some (.nilFunc) := by kernel_rfl
@[simp] theorem sz42 : szA Try.prog 42 = some 5 := by kernel_rfl
@[simp] theorem ag42 : isAggA Try.prog 42 = some true := by kernel_rfl
@[simp] theorem ze42 : zeroA Try.prog 42 = some (.agg #[.int .i64 (0), .int .i64 (0), .int .i64 (0), .int .i64 (0), .int .i64 (0)]) := by kernel_rfl
@[simp] theorem sz43 : szA Try.prog 43 = some 5 := by kernel_rfl
@[simp] theorem ag43 : isAggA Try.prog 43 = some true := by kernel_rfl
@[simp] theorem ze43 : zeroA Try.prog 43 = some (.agg #[.int .i64 (0), .int .i64 (0), .int .i64 (0), .int .i64 (0), .int .i64 (0)]) := by kernel_rfl
@[simp] theorem sz44 : szA Try.prog 44 = some 1 := by kernel_rfl
@[simp] theorem ag44 : isAggA Try.prog 44 = some false := by kernel_rfl
@[simp] theorem ze44 : zeroA Try.prog 44 = some (.slice none 0 0) := by kernel_rfl
@[simp] theorem sz45 : szA Try.prog 45 = some 1 := by kernel_rfl
@[simp] theorem ag45 : isAggA Try.prog 45 = some false := by kernel_rfl
@[simp] theorem ze45 : zeroA Try.prog 45 = some (.nilFunc) := by kernel_rfl
@[simp] theorem sz46 : szA Try.prog 46 = some 1 := by kernel_rfl
@[simp] theorem ag46 : isAggA Try.prog 46 = some false := by kernel_rfl
@[simp] theorem ze46 : zeroA Try.prog 46 = some (.nilFunc) := by kernel_rfl
@[simp] theorem sz47 : szA Try.prog 47 = some 1 := by kernel_rfl
@[simp] theorem ag47 : isAggA Try.prog 47 = some false := by kernel_rfl
@[simp] theorem ze47 : zeroA Try.prog 47 = some (.slice none 0 0) := by kernel_rfl
@[simp] theorem sz48 : szA Try.prog 48 = some 1 := by kernel_rfl
@[simp] theorem ag48 : isAggA Try.prog 48 = some false := by kernel_rfl
@[simp] theorem ze48 : zeroA Try.prog 48 = some (.tuple #[.slice none 0 0, .int .i64 (0)]) := by kernel_rfl
@[simp] theorem sz49 : szA Try.prog 49 = some 1 := by kernel_rfl
@[simp] theorem ag49 : isAggA Try.prog 49 = some false := by kernel_rfl
@[simp] theorem ze49 : zeroA Try.prog 49 = some (.nilFunc) := by kernel_rfl
@[simp] theorem sz50 : szA Try.prog 50 = some 1 := by kernel_rfl
@[simp] theorem ag50 : isAggA Try.prog 50 = some false := by kernel_rfl
@[simp] theorem ze50 : zeroA Try.prog 50 = some (.slice none 0 0) := by kernel_rfl
@[simp] theorem sz51 : szA Try.prog 51 = some 2 := by kernel_rfl
@[simp] theorem ag51 : isAggA Try.prog 51 = some true := by kernel_rfl
@[simp] theorem ze51 : zeroA Try.prog 51 = some (.agg #[.int .i64 (0), .int .i64 (0)]) := by kernel_rfl
@[simp] theorem sz52 : szA Try.prog 52 = some 2 := by kernel_rfl
@[simp] theorem ag52 : isAggA Try.prog 52 = some true := by kernel_rfl
@[simp] theorem ze52 : zeroA Try.prog 52 = some (.agg #[.int .i64 (0), .int .i64 (0)]) := by kernel_rfl
@[simp] theorem sz53 : szA Try.prog 53 = some 2 := by kernel_rfl
@[simp] theorem ag53 : isAggA Try.prog 53 = some true := by kernel_rfl
@[simp] theorem ze53 : zeroA Try.prog 53 = some (.agg #[.int .i64 (0), .int .i64 (0)]) := by kernel_rfl
@[simp] theorem sz54 : szA Try.prog 54 = some 2 := by kernel_rfl
@[simp] theorem ag54 : isAggA Try.prog 54 = some true := by kernel_rfl
@[simp] theorem ze54 : zeroA Try.prog 54 = some (.agg #[.int .i64 (0), .int .i64 (0)]) := by kernel_rfl
@[simp] theorem sz55 : szA Try.prog 55 = some 1 := by kernel_rfl
@[simp] theorem ag55 : isAggA Try.prog 55 = some false := by kernel_rfl
@[simp] theorem ze55 : zeroA Try.prog 55 = some (.nilFunc) := by kernel_rfl
@[simp] theorem sz56 : szA Try.prog 56 = some 1 := by kernel_rfl
@[simp] theorem ag56 : isAggA Try.prog 56 = some false := by kernel_rfl
@[simp] theorem ze56 : zeroA Try.prog 56 = some (.slice none 0 0) := by kernel_rfl
@[simp] theorem sz57 : szA Try.prog 57 = some 1 := by kernel_rfl
@[simp] theorem ag57 : isAggA Try.prog 57 = some true := by kernel_rfl
@[simp] theorem ze57 : zeroA Try.prog 57 = some (.agg #[.slice none 0 0]) := by kernel_rfl
@[simp] theorem sz58 : szA Try.prog 58 = some 1 := by kernel_rfl
@[simp] theorem ag58 : isAggA Try.prog 58 = some true := by kernel_rfl
@[simp] theorem ze58 : zeroA Try.prog 58 = some (.agg #[.slice none 0 0]) := by kernel_rfl
@[simp] theorem sz59 : szA Try.prog 59 = some 1 := by kernel_rfl
@[simp] theorem ag59 : isAggA Try.prog 59 = some false := by kernel_rfl
@[simp] theorem ze59 : zeroA Try.prog 59 = some (.nilFunc) := by kernel_rfl
@[simp] theorem sz60 : szA Try.prog 60 = some 1 := by kernel_rfl
@[simp] theorem ag60 : isAggA Try.prog 60 = some false := by kernel_rfl
@[simp] theorem ze60 : zeroA Try.prog 60 = some (.nilFunc) := by kernel_rfl
@[simp] theorem sz61 : szA Try.prog 61 = some 1 := by kernel_rfl
@[simp] theorem ag61 : isAggA Try.prog 61 = some false := by kernel_rfl
@[simp] theorem ze61 : zeroA Try.prog 61 = some (.slice none 0 0) := by kernel_rfl
@[simp] theorem sz62 : szA Try.prog 62 = some 1 := by kernel_rfl
@[simp] theorem ag62 : isAggA Try.prog 62 = some false := by kernel_rfl
@[simp] theorem ze62 : zeroA Try.prog 62 = some (.tuple #[.slice none 0 0, .int .i64 (0)]) := by kernel_rfl
@[simp] theorem sz63 : szA Try.prog 63 = some 1 := by kernel_rfl
@[simp] theorem ag63 : isAggA Try.prog 63 = some false := by kernel_rfl
@[simp] theorem ze63 : zeroA Try.prog 63 = some (.nilFunc) := by kernel_rfl
@[simp] theorem sz64 : szA Try.prog 64 = some 1 := by kernel_rfl
@[simp] theorem ag64 : isAggA Try.prog 64 = some false := by kernel_rfl
@[simp] theorem ze64 : zeroA Try.prog 64 = some (.slice none 0 0) := by kernel_rfl
@[simp] theorem sz65 : szA Try.prog 65 = some 1 := by kernel_rfl
@[simp] theorem ag65 : isAggA Try.prog 65 = some true := by kernel_rfl
@[simp] theorem ze65 : zeroA Try.prog 65 = some (.agg #[.slice none 0 0]) := by kernel_rfl
@[simp] theorem sz66 : szA Try.prog 66 = some 1 := by kernel_rfl
@[simp] theorem ag66 : isAggA Try.prog 66 = some true := by kernel_rfl
@[simp] theorem ze66 : zeroA Try.prog 66 = some (.agg #[.slice none 0 0]) := by kernel_rfl
@[simp] theorem sz67 : szA Try.prog 67 = some 1 := by kernel_rfl
@[simp] theorem ag67 : isAggA Try.prog 67 = some false := by kernel_rfl
@[simp] theorem ze67 : zeroA Try.prog 67 = some (.nilFunc) := by kernel_rfl
@[simp] theorem sz68 : szA Try.prog 68 = some 1 := by kernel_rfl
@[simp] theorem ag68 : isAggA Try.prog 68 = some false := by kernel_rfl
@[simp] theorem ze68 : zeroA Try.prog 68 = some (.tuple #[.int .i64 (0), .int .i64 (0)]) := by kernel_rfl
@[simp] theorem sz69 : szA Try.prog 69 = some 1 := by kernel_rfl
@[simp] theorem ag69 : isAggA Try.prog 69 = some false := by kernel_rfl
@[simp] theorem ze69 : zeroA Try.prog 69 = some (.nilFunc) := by kernel_rfl
@[simp] theorem sz70 : szA Try.prog 70 = some 1 := by kernel_rfl
@[simp] theorem ag70 : isAggA Try.prog 70 = some false := by kernel_rfl
@[simp] theorem ze70 : zeroA Try.prog 70 = some (.slice none 0 0) := by kernel_rfl
@[simp] theorem sz71 : szA Try.prog 71 = some 1 := by kernel_rfl
@[simp] theorem ag71 : isAggA Try.prog 71 = some false := by kernel_rfl
@[simp] theorem ze71 : zeroA Try.prog 71 = some (.nilFunc) := by kernel_rfl
@[simp] theorem sz72 : szA Try.prog 72 = some 2 := by kernel_rfl
@[simp] theorem ag72 : isAggA Try.prog 72 = some true := by kernel_rfl
@[simp] theorem ze72 : zeroA Try.prog 72 = some (.agg #[.int .i64 (0), .int .i64 (0)]) := by kernel_rfl
@[simp] theorem sz73 : szA Try.prog 73 = some 2 := by kernel_rfl
@[simp] theorem ag73 : isAggA Try.prog 73 = some true := by kernel_rfl
@[simp] theorem ze73 : zeroA Try.prog 73 = some (.agg #[.int .i64 (0), .int .i64 (0)]) := by kernel_rfl
@[simp] theorem sz74 : szA Try.prog 74 = some 7 := by kernel_rfl
@[simp] theorem ag74 : isAggA Try.prog 74 = some true := by kernel_rfl
@[simp] theorem ze74 : zeroA Try.prog 74 = some (.agg #[.string ⟨#[]⟩, .int .i64 (0), .int .i64 (0), .int .i64 (0), .int .i64 (0), .int .i64 (0), .int .i64 (0)]) := by kernel_rfl
@[simp] theorem sz75 : szA Try.prog 75 = some 7 := by kernel_rfl
@[simp] theorem ag75 : isAggA Try.prog 75 = some true := by kernel_rfl
@[simp] theorem ze75 : zeroA Try.prog 75 = some (.agg #[.string ⟨#[]⟩, .int .i64 (0), .int .i64 (0), .int .i64 (0), .int .i64 (0), .int .i64 (0), .int .i64 (0)]) := by kernel_rfl
@[simp] theorem sz76 : szA Try.prog 76 = some 1 := by kernel_rfl
@[simp] theorem ag76 : isAggA Try.prog 76 = some false := by kernel_rfl
@[simp] theorem ze76 : zeroA Try.prog 76 = some (.nilFunc) := by kernel_rfl
@[simp] theorem sz77 : szA Try.prog 77 = some 1 := by kernel_rfl
@[simp] theorem ag77 : isAggA Try.prog 77 = some false := by kernel_rfl
@[simp] theorem ze77 : zeroA Try.prog 77 = some (.nilFunc) := by kernel_rfl
@[simp] theorem sz78 : szA Try.prog 78 = some 1 := by kernel_rfl
@[simp] theorem ag78 : isAggA Try.prog 78 = some false := by kernel_rfl
@[simp] theorem ze78 : zeroA Try.prog 78 = some (.nilFunc) := by kernel_rfl
@[simp] theorem sz79 : szA Try.prog 79 = some 7 := by kernel_rfl
@[simp] theorem ag79 : isAggA Try.prog 79 = some true := by kernel_rfl
@[simp] theorem ze79 : zeroA Try.prog 79 = some (.agg #[.string ⟨#[]⟩, .int .i64 (0), .int .i64 (0), .int .i64 (0), .int .i64 (0), .int .i64 (0), .int .i64 (0)]) := by kernel_rfl
@[simp] theorem sz80 : szA Try.prog 80 = some 1 := by kernel_rfl
@[simp] theorem ag80 : isAggA Try.prog 80 = some false := by kernel_rfl
@[simp] theorem ze80 : zeroA Try.prog 80 = some (.nilFunc) := by kernel_rfl
@[simp] theorem sz81 : szA Try.prog 81 = some 1 := by kernel_rfl
@[simp] theorem ag81 : isAggA Try.prog 81 = some false := by kernel_rfl
@[simp] theorem ze81 : zeroA Try.prog 81 = some (.nilFunc) := by kernel_rfl
@[simp] theorem sz82 : szA Try.prog 82 = some 1 := by kernel_rfl
@[simp] theorem ag82 : isAggA Try.prog 82 = some false := by kernel_rfl
@[simp] theorem ze82 : zeroA Try.prog 82 = some (.nilFunc) := by kernel_rfl
@[simp] theorem sz83 : szA Try.prog 83 = some 11 := by kernel_rfl
@[simp] theorem ag83 : isAggA Try.prog 83 = some true := by kernel_rfl
@[simp] theorem ze83 : zeroA Try.prog 83 = some (.agg #[.int .i64 (0), .int .i64 (0), .int .i64 (0), .int .i64 (0), .int .i64 (0), .int .i64 (0), .int .i64 (0), .int .i64 (0), .int .i64 (0), .int .i64 (0), .slice none 0 0]) := by kernel_rfl
@[simp] theorem sz84 : szA Try.prog 84 = some 11 := by kernel_rfl
@[simp] theorem ag84 : isAggA Try.prog 84 = some true := by kernel_rfl
@[simp] theorem ze84 : zeroA Try.prog 84 = some (.agg #[.int .i64 (0), .int .i64 (0), .int .i64 (0), .int .i64 (0), .int .i64 (0), .int .i64 (0), .int .i64 (0), .int .i64 (0), .int .i64 (0), .int .i64 (0), .slice none 0 0]) := by kernel_rfl
@[simp] theorem sz85 : szA Try.prog 85 = some 1 := by kernel_rfl
@[simp] theorem ag85 : isAggA Try.prog 85 = some false := by kernel_rfl
@[simp] theorem ze85 : zeroA Try.prog 85 = some (.tuple #[.agg #[.int .i64 (0), .int .i64 (0), .int .i64 (0), .int .i64 (0), .int .i64 (0), .int .i64 (0), .int .i64 (0), .int .i64 (0), .int .i64 (0), .int .i64 (0), .slice none 0 0], .int .i64 (0)]) := by kernel_rfl
@[simp] theorem sz86 : szA Try.prog 86 = some 1 := by kernel_rfl
@[simp] theorem ag86 : isAggA Try.prog 86 = some false := by kernel_rfl
@[simp] theorem ze86 : zeroA Try.prog 86 = some (.nilFunc) := by kernel_rfl
@[simp] theorem sz87 : szA Try.prog 87 = some 1 := by kernel_rfl
@[simp] theorem ag87 : isAggA Try.prog 87 = some false := by kernel_rfl
@[simp] theorem ze87 : zeroA Try.prog 87 = some (.nilFunc) := by kernel_rfl
@[simp] theorem sz88 : szA Try.prog 88 = some 3 := by kernel_rfl
@[simp] theorem ag88 : isAggA Try.prog 88 = some true := by kernel_rfl
@[simp] theorem ze88 : zeroA Try.prog 88 = some (.agg #[.int .i64 (0), .int .i64 (0), .int .i64 (0)]) := by kernel_rfl
@[simp] theorem sz89 : szA Try.prog 89 = some 3 := by kernel_rfl
@[simp] theorem ag89 : isAggA Try.prog 89 = some true := by kernel_rfl
@[simp] theorem ze89 : zeroA Try.prog 89 = some (.agg #[.int .i64 (0), .int .i64 (0), .int .i64 (0)]) := by kernel_rfl
@[simp] theorem sz90 : szA Try.prog 90 = some 3 := by kernel_rfl
@[simp] theorem ag90 : isAggA Try.prog 90 = some true := by kernel_rfl
@[simp] theorem ze90 : zeroA Try.prog 90 = some (.agg #[.int .i64 (0), .int .i64 (0), .int .i64 (0)]) := by kernel_rfl
@[simp] theorem sz91 : szA Try.prog 91 = some 1 := by kernel_rfl
@[simp] theorem ag91 : isAggA Try.prog 91 = some false := by kernel_rfl
@[simp] theorem ze91 : zeroA Try.prog 91 = some (.nilFunc) := by kernel_rfl
@[simp] theorem sz92 : szA Try.prog 92 = some 1 := by kernel_rfl
@[simp] theorem ag92 : isAggA Try.prog 92 = some false := by kernel_rfl
@[simp] theorem ze92 : zeroA Try.prog 92 = some (.nilFunc) := by kernel_rfl
@[simp] theorem sz93 : szA Try.prog 93 = some 1 := by kernel_rfl
@[simp] theorem ag93 : isAggA Try.prog 93 = some false := by kernel_rfl
@[simp] theorem ze93 : zeroA Try.prog 93 = some (.nilFunc) := by kernel_rfl
@[simp] theorem sz94 : szA Try.prog 94 = some 1 := by kernel_rfl
@[simp] theorem ag94 : isAggA Try.prog 94 = some false := by kernel_rfl
@[simp] theorem ze94 : zeroA Try.prog 94 = some (.nilFunc) := by kernel_rfl
@[simp] theorem sz95 : szA Try.prog 95 = some 1 := by kernel_rfl
@[simp] theorem ag95 : isAggA Try.prog 95 = some false := by kernel_rfl
@[simp] theorem ze95 : zeroA Try.prog 95 = some (.nilFunc) := by kernel_rfl
@[simp] theorem sz96 : szA Try.prog 96 = some 1 := by kernel_rfl
@[simp] theorem ag96 : isAggA Try.prog 96 = some false := by kernel_rfl
@[simp] theorem ze96 : zeroA Try.prog 96 = some (.nilFunc) := by kernel_rfl
@[simp] theorem sz97 : szA Try.prog 97 = some 1 := by kernel_rfl
@[simp] theorem ag97 : isAggA Try.prog 97 = some false := by kernel_rfl
@[simp] theorem ze97 : zeroA Try.prog 97 = some (.slice none 0 0) := by kernel_rfl
@[simp] theorem sz98 : szA Try.prog 98 = some 1 := by kernel_rfl
@[simp] theorem ag98 : isAggA Try.prog 98 = some false := by kernel_rfl
@[simp] theorem ze98 : zeroA Try.prog 98 = some (.nilFunc) := by kernel_rfl
@[simp] theorem sz99 : szA Try.prog 99 = some 1 := by kernel_rfl
@[simp] theorem ag99 : isAggA Try.prog 99 = some false := by kernel_rfl
@[simp] theorem ze99 : zeroA Try.prog 99 = some (.nilFunc) := by kernel_rfl
@[simp] theorem sz100 : szA Try.prog 100 = some 1 := by kernel_rfl
@[simp] theorem ag100 : isAggA Try.prog 100 = some false := by kernel_rfl
@[simp] theorem ze100 : zeroA Try.prog 100 = some (.nilFunc) := by kernel_rfl
@[simp] theorem sz101 : szA Try.prog 101 = some 1 := by kernel_rfl
@[simp] theorem ag101 : isAggA Try.prog 101 = some false := by kernel_rfl
@[simp] theorem ze101 : zeroA Try.prog 101 = some (.nilFunc) := by kernel_rfl
@[simp] theorem sz102 : szA Try.prog 102 = some 1 := by kernel_rfl
@[simp] theorem ag102 : isAggA Try.prog 102 = some false := by kernel_rfl
@[simp] theorem ze102 : zeroA Try.prog 102 = some (.nilFunc) := by kernel_rfl
@[simp] theorem sz103 : szA Try.prog 103 = some 1 := by kernel_rfl
@[simp] theorem ag103 : isAggA Try.prog 103 = some false := by kernel_rfl
@[simp] theorem ze103 : zeroA Try.prog 103 = some (.nilFunc) := by kernel_rfl
@[simp] theorem sz104 : szA Try.prog 104 = some 1 := by kernel_rfl
@[simp] theorem ag104 : isAggA Try.prog 104 = some false := by kernel_rfl
@[simp] theorem ze104 : zeroA Try.prog 104 = some (.nilFunc) := by kernel_rfl
@[simp] theorem sz105 : szA Try.prog 105 = some 1 := by kernel_rfl
@[simp] theorem ag105 : isAggA Try.prog 105 = some false := by kernel_rfl
@[simp] theorem ze105 : zeroA Try.prog 105 = some (.nilFunc) := by kernel_rfl
@[simp] theorem sz106 : szA Try.prog 106 = some 1 := by kernel_rfl
@[simp] theorem ag106 : isAggA Try.prog 106 = some false := by kernel_rfl
@[simp] theorem ze106 : zeroA Try.prog 106 = some (.nilFunc) := by kernel_rfl
@[simp] theorem sz107 : szA Try.prog 107 = some 1 := by kernel_rfl
@[simp] theorem ag107 : isAggA Try.prog 107 = some false := by kernel_rfl
@[simp] theorem ze107 : zeroA Try.prog 107 = some (.nilFunc) := by kernel_rfl
@[simp] theorem sz108 : szA Try.prog 108 = some 1 := by kernel_rfl
@[simp] theorem ag108 : isAggA Try.prog 108 = some false := by kernel_rfl
@[simp] theorem ze108 : zeroA Try.prog 108 = some (.nilFunc) := by kernel_rfl
@[simp] theorem sz109 : szA Try.prog 109 = some 1 := by kernel_rfl
@[simp] theorem ag109 : isAggA Try.prog 109 = some false := by kernel_rfl
@[simp] theorem ze109 : zeroA Try.prog 109 = some (.nilFunc) := by kernel_rfl
@[simp] theorem sz110 : szA Try.prog 110 = some 1 := by kernel_rfl
@[simp] theorem ag110 : isAggA Try.prog 110 = some false := by kernel_rfl
@[simp] theorem ze110 : zeroA Try.prog 110 = some (.nilFunc) := by kernel_rfl
@[simp] theorem sz111 : szA Try.prog 111 = some 1 := by kernel_rfl
@[simp] theorem ag111 : isAggA Try.prog 111 = some false := by kernel_rfl
@[simp] theorem ze111 : zeroA Try.prog 111 = some (.nilFunc) := by kernel_rfl
@[simp] theorem sz112 : szA Try.prog 112 = some 1 := by kernel_rfl
@[simp] theorem ag112 : isAggA Try.prog 112 = some false := by kernel_rfl
@[simp] theorem ze112 : zeroA Try.prog 112 = some (.nilFunc) := by kernel_rfl
@[simp] theorem sz113 : szA Try.prog 113 = some 1 := by kernel_rfl
@[simp] theorem ag113 : isAggA Try.prog 113 = some false := by kernel_rfl
@[simp] theorem ze113 : zeroA Try.prog 113 = some (.nilFunc) := by kernel_rfl
@[simp] theorem sz114 : szA Try.prog 114 = some 1 := by kernel_rfl
@[simp] theorem ag114 : isAggA Try.prog 114 = some false := by kernel_rfl
@[simp] theorem ze114 : zeroA Try.prog 114 = some (.nilFunc) := by kernel_rfl
@[simp] theorem sz115 : szA Try.prog 115 = some 1 := by kernel_rfl
@[simp] theorem ag115 : isAggA Try.prog 115 = some false := by kernel_rfl
@[simp] theorem ze115 : zeroA Try.prog 115 = some (.nilFunc) := by kernel_rfl
@[simp] theorem sz116 : szA Try.prog 116 = some 1 := by kernel_rfl
@[simp] theorem ag116 : isAggA Try.prog 116 = some false := by kernel_rfl
@[simp] theorem ze116 : zeroA Try.prog 116 = some (.nilFunc) := by kernel_rfl
@[simp] theorem sz117 : szA Try.prog 117 = some 1 := by kernel_rfl
@[simp] theorem ag117 : isAggA Try.prog 117 = some false := by kernel_rfl
@[simp] theorem ze117 : zeroA Try.prog 117 = some (.nilFunc) := by kernel_rfl
@[simp] theorem sz118 : szA Try.prog 118 = some 1 := by kernel_rfl
@[simp] theorem ag118 : isAggA Try.prog 118 = some false := by kernel_rfl
@[simp] theorem ze118 : zeroA Try.prog 118 = some (.nilFunc) := by kernel_rfl
@[simp] theorem sz119 : szA Try.prog 119 = some 1 := by kernel_rfl
@[simp] theorem ag119 : isAggA Try.prog 119 = some false := by kernel_rfl
@[simp] theorem ze119 : zeroA Try.prog 119 = some (.nilFunc) := by kernel_rfl
@[simp] theorem sz120 : szA Try.prog 120 = some 1 := by kernel_rfl
@[simp] theorem ag120 : isAggA Try.prog 120 = some false := by kernel_rfl
@[simp] theorem ze120 : zeroA Try.prog 120 = some (.nilFunc) := by kernel_rfl
@[simp] theorem sz121 : szA Try.prog 121 = some 1 := by kernel_rfl
@[simp] theorem ag121 : isAggA Try.prog 121 = some false := by kernel_rfl
@[simp] theorem ze121 : zeroA Try.prog 121 = some (.nilFunc) := by kernel_rfl
@[simp] theorem sz122 : szA Try.prog 122 = some 1 := by kernel_rfl
@[simp] theorem ag122 : isAggA Try.prog 122 = some false := by kernel_rfl
@[simp] theorem ze122 : zeroA Try.prog 122 = some (.nilFunc) := by kernel_rfl
@[simp] theorem sz123 : szA Try.prog 123 = some 1 := by kernel_rfl
@[simp] theorem ag123 : isAggA Try.prog 123 = some false := by kernel_rfl
@[simp] theorem ze123 : zeroA Try.prog 123 = some (.nilFunc) := by kernel_rfl
@[simp] theorem sz124 : szA Try.prog 124 = some 1 := by kernel_rfl
@[simp] theorem ag124 : isAggA Try.prog 124 = some false := by kernel_rfl
@[simp] theorem ze124 : zeroA Try.prog 124 = some (.nilFunc) := by kernel_rfl
@[simp] theorem sz125 : szA Try.prog 125 = some 1 := by kernel_rfl
@[simp] theorem ag125 : isAggA Try.prog 125 = some false := by kernel_rfl
@[simp] theorem ze125 : zeroA Try.prog 125 = some (.nilFunc) := by kernel_rfl
@[simp] theorem sz126 : szA Try.prog 126 = some 1 := by kernel_rfl
@[simp] theorem ag126 : isAggA Try.prog 126 = some false := by kernel_rfl
@[simp] theorem ze126 : zeroA Try.prog 126 = some (.nilFunc) := by kernel_rfl
@[simp] theorem sz127 : szA Try.prog 127 = some 1 := by kernel_rfl
@[simp] theorem ag127 : isAggA Try.prog 127 = some false := by kernel_rfl
@[simp] theorem ze127 : zeroA Try.prog 127 = some (.nilFunc) := by kernel_rfl
@[simp] theorem sz128 : szA Try.prog 128 = some 1 := by kernel_rfl
@[simp] theorem ag128 : isAggA Try.prog 128 = some false := by kernel_rfl
@[simp] theorem ze128 : zeroA Try.prog 128 = some (.nilFunc) := by kernel_rfl
@[simp] theorem sz129 : szA Try.prog 129 = some 1 := by kernel_rfl
@[simp] theorem ag129 : isAggA Try.prog 129 = some false := by kernel_rfl
@[simp] theorem ze129 : zeroA Try.prog 129 = some (.nilFunc) := by kernel_rfl
@[simp] theorem sz130 : szA Try.prog 130 = some 1 := by kernel_rfl
@[simp] theorem ag130 : isAggA Try.prog 130 = some false := by kernel_rfl
@[simp] theorem ze130 : zeroA Try.prog 130 = some (.nilFunc) := by kernel_rfl
@[simp] theorem sz131 : szA Try.prog 131 = some 1 := by kernel_rfl
@[simp] theorem ag131 : isAggA Try.prog 131 = some false := by kernel_rfl
@[simp] theorem ze131 : zeroA Try.prog 131 = some (.nilFunc) := by kernel_rfl
@[simp] theorem sz132 : szA Try.prog 132 = some 1 := by kernel_rfl
@[simp] theorem ag132 : isAggA Try.prog 132 = some false := by kernel_rfl
@[simp] theorem ze132 : zeroA Try.prog 132 = some (.nilFunc) := by kernel_rfl
@[simp] theorem sz133 : szA Try.prog 133 = some 1 := by kernel_rfl
@[simp] theorem ag133 : isAggA Try.prog 133 = some false := by kernel_rfl
@[simp] theorem ze133 : zeroA Try.prog 133 = some (.nilFunc) := by kernel_rfl
@[simp] theorem sz134 : szA Try.prog 134 = some 1 := by kernel_rfl
@[simp] theorem ag134 : isAggA Try.prog 134 = some false := by kernel_rfl
@[simp] theorem ze134 : zeroA Try.prog 134 = some (.nilFunc) := by kernel_rfl
@[simp] theorem sz135 : szA Try.prog 135 = some 1 := by kernel_rfl
@[simp] theorem ag135 : isAggA Try.prog 135 = some false := by kernel_rfl
@[simp] theorem ze135 : zeroA Try.prog 135 = some (.nilFunc) := by kernel_rfl
@[simp] theorem sz136 : szA Try.prog 136 = some 1 := by kernel_rfl
@[simp] theorem ag136 : isAggA Try.prog 136 = some false := by kernel_rfl
@[simp] theorem ze136 : zeroA Try.prog 136 = some (.nilFunc) := by kernel_rfl
@[simp] theorem sz137 : szA Try.prog 137 = some 1 := by kernel_rfl
@[simp] theorem ag137 : isAggA Try.prog 137 = some false := by kernel_rfl
@[simp] theorem ze137 : zeroA Try.prog 137 = some (.nilFunc) := by kernel_rfl
@[simp] theorem sz138 : szA Try.prog 138 = some 1 := by kernel_rfl
@[simp] theorem ag138 : isAggA Try.prog 138 = some false := by kernel_rfl
@[simp] theorem ze138 : zeroA Try.prog 138 = some (.nilFunc) := by kernel_rfl
@[simp] theorem sz139 : szA Try.prog 139 = some 1 := by kernel_rfl
@[simp] theorem ag139 : isAggA Try.prog 139 = some false := by kernel_rfl
@[simp] theorem ze139 : zeroA Try.prog 139 = some (.nilFunc) := by kernel_rfl
@[simp] theorem sz140 : szA Try.prog 140 = some 1 := by kernel_rfl
@[simp] theorem ag140 : isAggA Try.prog 140 = some false := by kernel_rfl
@[simp] theorem ze140 : zeroA Try.prog 140 = some (.nilFunc) := by kernel_rfl
@[simp] theorem sz141 : szA Try.prog 141 = some 1 := by kernel_rfl
@[simp] theorem ag141 : isAggA Try.prog 141 = some false := by kernel_rfl
@[simp] theorem ze141 : zeroA Try.prog 141 = some (.nilFunc) := by kernel_rfl
@[simp] theorem sz142 : szA Try.prog 142 = some 1 := by kernel_rfl
@[simp] theorem ag142 : isAggA Try.prog 142 = some false := by kernel_rfl
@[simp] theorem ze142 : zeroA Try.prog 142 = some (.nilFunc) := by kernel_rfl
@[simp] theorem sz143 : szA Try.prog 143 = some 1 := by kernel_rfl
@[simp] theorem ag143 : isAggA Try.prog 143 = some false := by kernel_rfl
@[simp] theorem ze143 : zeroA Try.prog 143 = some (.nilFunc) := by kernel_rfl
@[simp] theorem sz144 : szA Try.prog 144 = some 1 := by kernel_rfl
@[simp] theorem ag144 : isAggA Try.prog 144 = some false := by kernel_rfl
@[simp] theorem ze144 : zeroA Try.prog 144 = some (.nilFunc) := by kernel_rfl
@[simp] theorem sz145 : szA Try.prog 145 = some 1 := by kernel_rfl
@[simp] theorem ag145 : isAggA Try.prog 145 = some false := by kernel_rfl
@[simp] theorem ze145 : zeroA Try.prog 145 = some (.nilFunc) := by kernel_rfl
@[simp] theorem sz146 : szA Try.prog 146 = some 1 := by kernel_rfl
@[simp] theorem ag146 : isAggA Try.prog 146 = some false := by kernel_rfl
@[simp] theorem ze146 : zeroA Try.prog 146 = some (.int .u64 (0)) := by kernel_rfl
@[simp] theorem sz147 : szA Try.prog 147 = some 1 := by kernel_rfl
@[simp] theorem ag147 : isAggA Try.prog 147 = some false := by kernel_rfl
@[simp] theorem ze147 : zeroA Try.prog 147 = some (.nilFunc) := by kernel_rfl
@[simp] theorem sz148 : szA Try.prog 148 = some 4 := by kernel_rfl
@[simp] theorem ag148 : isAggA Try.prog 148 = some true := by kernel_rfl
@[simp] theorem ze148 : zeroA Try.prog 148 = some (.agg #[.pointer none, .pointer none, .pointer none, .string ⟨#[]⟩]) := by kernel_rfl
@[simp] theorem sz149 : szA Try.prog 149 = some 4 := by kernel_rfl
@[simp] theorem ag149 : isAggA Try.prog 149 = some true := by kernel_rfl
@[simp] theorem ze149 : zeroA Try.prog 149 = some (.agg #[.pointer none, .pointer none, .pointer none, .string ⟨#[]⟩]) := by kernel_rfl
@[simp] theorem sz150 : szA Try.prog 150 = some 0 := by kernel_rfl
@[simp] theorem ag150 : isAggA Try.prog 150 = some true := by kernel_rfl
@[simp] theorem ze150 : zeroA Try.prog 150 = some (.agg #[]) := by kernel_rfl
@[simp] theorem sz151 : szA Try.prog 151 = some 0 := by kernel_rfl
@[simp] theorem ag151 : isAggA Try.prog 151 = some true := by kernel_rfl
@[simp] theorem ze151 : zeroA Try.prog 151 = some (.agg #[]) := by kernel_rfl
@[simp] theorem sz152 : szA Try.prog 152 = some 0 := by kernel_rfl
@[simp] theorem ag152 : isAggA Try.prog 152 = some true := by kernel_rfl
@[simp] theorem ze152 : zeroA Try.prog 152 = some (.agg #[]) := by kernel_rfl
@[simp] theorem sz153 : szA Try.prog 153 = some 1 := by kernel_rfl
@[simp] theorem ag153 : isAggA Try.prog 153 = some false := by kernel_rfl
@[simp] theorem ze153 : zeroA Try.prog 153 = some (.int .u32 (0)) := by kernel_rfl
@[simp] theorem sz154 : szA Try.prog 154 = some 1 := by kernel_rfl
@[simp] theorem ag154 : isAggA Try.prog 154 = some false := by kernel_rfl
@[simp] theorem ze154 : zeroA Try.prog 154 = some (.int .u8 (0)) := by kernel_rfl
@[simp] theorem sz155 : szA Try.prog 155 = some 1 := by kernel_rfl
@[simp] theorem ag155 : isAggA Try.prog 155 = some false := by kernel_rfl
@[simp] theorem ze155 : zeroA Try.prog 155 = some (.int .u8 (0)) := by kernel_rfl
@[simp] theorem sz156 : szA Try.prog 156 = some 1 := by kernel_rfl
@[simp] theorem ag156 : isAggA Try.prog 156 = some false := by kernel_rfl
@[simp] theorem ze156 : zeroA Try.prog 156 = some (.nilFunc) := by kernel_rfl
@[simp] theorem sz157 : szA Try.prog 157 = some 1 := by kernel_rfl
@[simp] theorem ag157 : isAggA Try.prog 157 = some false := by kernel_rfl
@[simp] theorem ze157 : zeroA Try.prog 157 = some (.pointer none) := by kernel_rfl
@[simp] theorem sz158 : szA Try.prog 158 = some 1 := by kernel_rfl
@[simp] theorem ag158 : isAggA Try.prog 158 = some false := by kernel_rfl
@[simp] theorem ze158 : zeroA Try.prog 158 = some (.int .i32 (0)) := by kernel_rfl
@[simp] theorem sz159 : szA Try.prog 159 = some 1 := by kernel_rfl
@[simp] theorem ag159 : isAggA Try.prog 159 = some false := by kernel_rfl
@[simp] theorem ze159 : zeroA Try.prog 159 = some (.int .i32 (0)) := by kernel_rfl
@[simp] theorem sz160 : szA Try.prog 160 = some 11 := by kernel_rfl
@[simp] theorem ag160 : isAggA Try.prog 160 = some true := by kernel_rfl
@[simp] theorem ze160 : zeroA Try.prog 160 = some (.agg #[.int .u64 (0), .int .u64 (0), .int .u32 (0), .int .u8 (0), .int .u8 (0), .int .u8 (0), .int .u8 (0), .nilFunc, .pointer none, .int .i32 (0), .int .i32 (0)]) := by kernel_rfl
@[simp] theorem sz161 : szA Try.prog 161 = some 11 := by kernel_rfl
@[simp] theorem ag161 : isAggA Try.prog 161 = some true := by kernel_rfl
@[simp] theorem ze161 : zeroA Try.prog 161 = some (.agg #[.int .u64 (0), .int .u64 (0), .int .u32 (0), .int .u8 (0), .int .u8 (0), .int .u8 (0), .int .u8 (0), .nilFunc, .pointer none, .int .i32 (0), .int .i32 (0)]) := by kernel_rfl
@[simp] theorem sz162 : szA Try.prog 162 = some 1 := by kernel_rfl
@[simp] theorem ag162 : isAggA Try.prog 162 = some false := by kernel_rfl
@[simp] theorem ze162 : zeroA Try.prog 162 = some (.nilFunc) := by kernel_rfl
@[simp] theorem sz163 : szA Try.prog 163 = some 1 := by kernel_rfl
@[simp] theorem ag163 : isAggA Try.prog 163 = some false := by kernel_rfl
@[simp] theorem ze163 : zeroA Try.prog 163 = some (.pointer none) := by kernel_rfl
end Go.Proofs.Ytljglocehbccnaa

/-
The types of the seat's program, as they are used for rewriting.
-/
namespace Go.Proofs.Ytljglocehbccnaa
open Go Go.Ab Go.Proofs
theorem mixed : Try.prog.follows .mixedOrders = true := by kernel_rfl
theorem gsz : Try.prog.globals.size = 0 := by kernel_rfl
attribute [simp] Try.underlying0 Try.underlying1 Try.underlying2 Try.underlying3 Try.underlying4 Try.underlying5 Try.underlying6 Try.underlying7 Try.underlying8 Try.underlying9 Try.underlying10 Try.underlying11 Try.underlying12 Try.underlying13 Try.underlying14 Try.underlying15 Try.underlying16 Try.underlying17 Try.underlying18 Try.underlying19 Try.underlying20 Try.underlying21 Try.underlying22 Try.underlying23 Try.underlying24 Try.underlying25 Try.underlying26 Try.underlying27 Try.underlying28 Try.underlying29 Try.underlying30 Try.underlying31 Try.underlying32 Try.underlying33 Try.underlying34 Try.underlying35 Try.underlying36 Try.underlying37 Try.underlying38 Try.underlying39 Try.underlying40 Try.underlying41 Try.underlying42 Try.underlying43 Try.underlying44 Try.underlying45 Try.underlying46 Try.underlying47 Try.underlying48 Try.underlying49 Try.underlying50 Try.underlying51 Try.underlying52 Try.underlying53 Try.underlying54 Try.underlying55 Try.underlying56 Try.underlying57 Try.underlying58 Try.underlying59 Try.underlying60 Try.underlying61 Try.underlying62 Try.underlying63 Try.underlying64 Try.underlying65 Try.underlying66 Try.underlying67 Try.underlying68 Try.underlying69 Try.underlying70 Try.underlying71 Try.underlying72 Try.underlying73 Try.underlying74 Try.underlying75 Try.underlying76 Try.underlying77 Try.underlying78 Try.underlying79 Try.underlying80 Try.underlying81 Try.underlying82 Try.underlying83 Try.underlying84 Try.underlying85 Try.underlying86 Try.underlying87 Try.underlying88 Try.underlying89 Try.underlying90 Try.underlying91 Try.underlying92 Try.underlying93 Try.underlying94 Try.underlying95 Try.underlying96 Try.underlying97 Try.underlying98 Try.underlying99 Try.underlying100 Try.underlying101 Try.underlying102 Try.underlying103 Try.underlying104 Try.underlying105 Try.underlying106 Try.underlying107 Try.underlying108 Try.underlying109 Try.underlying110 Try.underlying111 Try.underlying112 Try.underlying113 Try.underlying114 Try.underlying115 Try.underlying116 Try.underlying117 Try.underlying118 Try.underlying119 Try.underlying120 Try.underlying121 Try.underlying122 Try.underlying123 Try.underlying124 Try.underlying125 Try.underlying126 Try.underlying127 Try.underlying128 Try.underlying129 Try.underlying130 Try.underlying131 Try.underlying132 Try.underlying133 Try.underlying134 Try.underlying135 Try.underlying136 Try.underlying137 Try.underlying138 Try.underlying139 Try.underlying140 Try.underlying141 Try.underlying142 Try.underlying143 Try.underlying144 Try.underlying145 Try.underlying146 Try.underlying147 Try.underlying148 Try.underlying149 Try.underlying150 Try.underlying151 Try.underlying152 Try.underlying153 Try.underlying154 Try.underlying155 Try.underlying156 Try.underlying157 Try.underlying158 Try.underlying159 Try.underlying160 Try.underlying161 Try.underlying162 Try.underlying163
@[simp] theorem inf3 : Try.prog.info? 3 = some Try.t3 := by kernel_rfl
@[simp] theorem inf4 : Try.prog.info? 4 = some Try.t4 := by kernel_rfl
@[simp] theorem inf5 : Try.prog.info? 5 = some Try.t5 := by kernel_rfl
@[simp] theorem inf9 : Try.prog.info? 9 = some Try.t9 := by kernel_rfl
@[simp] theorem inf22 : Try.prog.info? 22 = some Try.t22 := by kernel_rfl
@[simp] theorem inf23 : Try.prog.info? 23 = some Try.t23 := by kernel_rfl
@[simp] theorem inf24 : Try.prog.info? 24 = some Try.t24 := by kernel_rfl
@[simp] theorem inf25 : Try.prog.info? 25 = some Try.t25 := by kernel_rfl
@[simp] theorem inf26 : Try.prog.info? 26 = some Try.t26 := by kernel_rfl
@[simp] theorem inf27 : Try.prog.info? 27 = some Try.t27 := by kernel_rfl
@[simp] theorem inf28 : Try.prog.info? 28 = some Try.t28 := by kernel_rfl
@[simp] theorem inf29 : Try.prog.info? 29 = some Try.t29 := by kernel_rfl
@[simp] theorem inf30 : Try.prog.info? 30 = some Try.t30 := by kernel_rfl
@[simp] theorem inf33 : Try.prog.info? 33 = some Try.t33 := by kernel_rfl
@[simp] theorem inf34 : Try.prog.info? 34 = some Try.t34 := by kernel_rfl
@[simp] theorem inf35 : Try.prog.info? 35 = some Try.t35 := by kernel_rfl
@[simp] theorem inf36 : Try.prog.info? 36 = some Try.t36 := by kernel_rfl
@[simp] theorem inf39 : Try.prog.info? 39 = some Try.t39 := by kernel_rfl
@[simp] theorem inf42 : Try.prog.info? 42 = some Try.t42 := by kernel_rfl
@[simp] theorem inf43 : Try.prog.info? 43 = some Try.t43 := by kernel_rfl
@[simp] theorem inf44 : Try.prog.info? 44 = some Try.t44 := by kernel_rfl
@[simp] theorem inf47 : Try.prog.info? 47 = some Try.t47 := by kernel_rfl
@[simp] theorem inf50 : Try.prog.info? 50 = some Try.t50 := by kernel_rfl
@[simp] theorem inf51 : Try.prog.info? 51 = some Try.t51 := by kernel_rfl
@[simp] theorem inf52 : Try.prog.info? 52 = some Try.t52 := by kernel_rfl
@[simp] theorem inf53 : Try.prog.info? 53 = some Try.t53 := by kernel_rfl
@[simp] theorem inf54 : Try.prog.info? 54 = some Try.t54 := by kernel_rfl
@[simp] theorem inf56 : Try.prog.info? 56 = some Try.t56 := by kernel_rfl
@[simp] theorem inf57 : Try.prog.info? 57 = some Try.t57 := by kernel_rfl
@[simp] theorem inf58 : Try.prog.info? 58 = some Try.t58 := by kernel_rfl
@[simp] theorem inf61 : Try.prog.info? 61 = some Try.t61 := by kernel_rfl
@[simp] theorem inf64 : Try.prog.info? 64 = some Try.t64 := by kernel_rfl
@[simp] theorem inf65 : Try.prog.info? 65 = some Try.t65 := by kernel_rfl
@[simp] theorem inf66 : Try.prog.info? 66 = some Try.t66 := by kernel_rfl
@[simp] theorem inf70 : Try.prog.info? 70 = some Try.t70 := by kernel_rfl
@[simp] theorem inf72 : Try.prog.info? 72 = some Try.t72 := by kernel_rfl
@[simp] theorem inf73 : Try.prog.info? 73 = some Try.t73 := by kernel_rfl
@[simp] theorem inf74 : Try.prog.info? 74 = some Try.t74 := by kernel_rfl
@[simp] theorem inf75 : Try.prog.info? 75 = some Try.t75 := by kernel_rfl
@[simp] theorem inf79 : Try.prog.info? 79 = some Try.t79 := by kernel_rfl
@[simp] theorem inf83 : Try.prog.info? 83 = some Try.t83 := by kernel_rfl
@[simp] theorem inf84 : Try.prog.info? 84 = some Try.t84 := by kernel_rfl
@[simp] theorem inf88 : Try.prog.info? 88 = some Try.t88 := by kernel_rfl
@[simp] theorem inf89 : Try.prog.info? 89 = some Try.t89 := by kernel_rfl
@[simp] theorem inf90 : Try.prog.info? 90 = some Try.t90 := by kernel_rfl
@[simp] theorem inf97 : Try.prog.info? 97 = some Try.t97 := by kernel_rfl
attribute [simp] Try.t3 Try.t4 Try.t5 Try.t9 Try.t22 Try.t23 Try.t24 Try.t25 Try.t26 Try.t27 Try.t28 Try.t29 Try.t30 Try.t33 Try.t34 Try.t35 Try.t36 Try.t39 Try.t42 Try.t43 Try.t44 Try.t47 Try.t50 Try.t51 Try.t52 Try.t53 Try.t54 Try.t56 Try.t57 Try.t58 Try.t61 Try.t64 Try.t65 Try.t66 Try.t70 Try.t72 Try.t73 Try.t74 Try.t75 Try.t79 Try.t83 Try.t84 Try.t88 Try.t89 Try.t90 Try.t97
end Go.Proofs.Ytljglocehbccnaa
