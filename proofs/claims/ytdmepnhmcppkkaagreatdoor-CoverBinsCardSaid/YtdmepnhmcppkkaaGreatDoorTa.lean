/-
The types of the seat's program, as the evaluator asks for them (closed facts).
-/
import Derived.KernelRfl
import Derived.Test.YtdmepnhmcppkkaaGreatDoorProg
import Derived.Test.YtdmepnhmcppkkaaGreatDoorAa
import Derived.Test.YtdmepnhmcppkkaaGreatDoorAf
/-
The types of the seat's program, as the evaluator asks for them.
-/
namespace Go.Proofs.YtdmepnhmcppkkaaGreatDoor
open Go Go.Ab Go.Proofs
@[simp] theorem sz0 : szA Tryz.prog 0 = some 1 := by kernel_rfl
@[simp] theorem ag0 : isAggA Tryz.prog 0 = some false := by kernel_rfl
@[simp] theorem ze0 : zeroA Tryz.prog 0 = some (.tuple #[]) := by kernel_rfl
@[simp] theorem sz1 : szA Tryz.prog 1 = some 1 := by kernel_rfl
@[simp] theorem ag1 : isAggA Tryz.prog 1 = some false := by kernel_rfl
@[simp] theorem ze1 : zeroA Tryz.prog 1 = some (.nilFunc) := by kernel_rfl
@[simp] theorem sz2 : szA Tryz.prog 2 = some 1 := by kernel_rfl
@[simp] theorem ag2 : isAggA Tryz.prog 2 = some false := by kernel_rfl
@[simp] theorem ze2 : zeroA Tryz.prog 2 = some (.int .i64 (0)) := by kernel_rfl
@[simp] theorem sz3 : szA Tryz.prog 3 = some 1 := by kernel_rfl
@[simp] theorem ag3 : isAggA Tryz.prog 3 = some false := by kernel_rfl
@[simp] theorem ze3 : zeroA Tryz.prog 3 = some (.int .i64 (0)) := by kernel_rfl
@[simp] theorem sz4 : szA Tryz.prog 4 = some 1 := by kernel_rfl
@[simp] theorem ag4 : isAggA Tryz.prog 4 = some false := by kernel_rfl
@[simp] theorem ze4 : zeroA Tryz.prog 4 = some (.bool false) := by kernel_rfl
@[simp] theorem sz5 : szA Tryz.prog 5 = some 1 := by kernel_rfl
@[simp] theorem ag5 : isAggA Tryz.prog 5 = some false := by kernel_rfl
@[simp] theorem ze5 : zeroA Tryz.prog 5 = some (.int .u8 (0)) := by kernel_rfl
@[simp] theorem sz6 : szA Tryz.prog 6 = some 1 := by kernel_rfl
@[simp] theorem ag6 : isAggA Tryz.prog 6 = some false := by kernel_rfl
@[simp] theorem ze6 : zeroA Tryz.prog 6 = some (.int .u8 (0)) := by kernel_rfl
@[simp] theorem sz7 : szA Tryz.prog 7 = some 4 := by kernel_rfl
@[simp] theorem ag7 : isAggA Tryz.prog 7 = some true := by kernel_rfl
@[simp] theorem ze7 : zeroA Tryz.prog 7 = some (.agg #[.int .i64 (0), .int .i64 (0), .bool false, .int .u8 (0)]) := by kernel_rfl
@[simp] theorem sz8 : szA Tryz.prog 8 = some 4 := by kernel_rfl
@[simp] theorem ag8 : isAggA Tryz.prog 8 = some true := by kernel_rfl
@[simp] theorem ze8 : zeroA Tryz.prog 8 = some (.agg #[.int .i64 (0), .int .i64 (0), .bool false, .int .u8 (0)]) := by kernel_rfl
@[simp] theorem sz9 : szA Tryz.prog 9 = some 1 := by kernel_rfl
@[simp] theorem ag9 : isAggA Tryz.prog 9 = some false := by kernel_rfl
@[simp] theorem ze9 : zeroA Tryz.prog 9 = some (.string ⟨#[]⟩) := by kernel_rfl
@[simp] theorem sz10 : szA Tryz.prog 10 = some 1 := by kernel_rfl
@[simp] theorem ag10 : isAggA Tryz.prog 10 = some false := by kernel_rfl
@[simp] theorem ze10 : zeroA Tryz.prog 10 = some (.string ⟨#[]⟩) := by kernel_rfl
@[simp] theorem sz11 : szA Tryz.prog 11 = some 1 := by kernel_rfl
@[simp] theorem ag11 : isAggA Tryz.prog 11 = some false := by kernel_rfl
@[simp] theorem ze11 : zeroA Tryz.prog 11 = some (.string ⟨#[]⟩) := by kernel_rfl
@[simp] theorem sz12 : szA Tryz.prog 12 = some 1 := by kernel_rfl
@[simp] theorem ag12 : isAggA Tryz.prog 12 = some false := by kernel_rfl
@[simp] theorem ze12 : zeroA Tryz.prog 12 = some (.int .u64 (0)) := by kernel_rfl
@[simp] theorem sz13 : szA Tryz.prog 13 = some 2 := by kernel_rfl
@[simp] theorem ag13 : isAggA Tryz.prog 13 = some true := by kernel_rfl
@[simp] theorem ze13 : zeroA Tryz.prog 13 = some (.agg #[.string ⟨#[]⟩, .int .u64 (0)]) := by kernel_rfl
@[simp] theorem sz14 : szA Tryz.prog 14 = some 2 := by kernel_rfl
@[simp] theorem ag14 : isAggA Tryz.prog 14 = some true := by kernel_rfl
@[simp] theorem ze14 : zeroA Tryz.prog 14 = some (.agg #[.string ⟨#[]⟩, .int .u64 (0)]) := by kernel_rfl
@[simp] theorem sz15 : szA Tryz.prog 15 = some 1 := by kernel_rfl
@[simp] theorem ag15 : isAggA Tryz.prog 15 = some false := by kernel_rfl
@[simp] theorem ze15 : zeroA Tryz.prog 15 = some (.pointer none) := by kernel_rfl
@[simp] theorem sz16 : szA Tryz.prog 16 = some 1 := by kernel_rfl
@[simp] theorem ag16 : isAggA Tryz.prog 16 = some false := by kernel_rfl
@[simp] theorem ze16 : zeroA Tryz.prog 16 = some (.pointer none) := by kernel_rfl
@[simp] theorem sz17 : szA Tryz.prog 17 = some 1 := by kernel_rfl
@[simp] theorem ag17 : isAggA Tryz.prog 17 = some false := by kernel_rfl
@[simp] theorem ze17 : zeroA Tryz.prog 17 = some (.pointer none) := by kernel_rfl
@[simp] theorem sz18 : szA Tryz.prog 18 = some 1 := by kernel_rfl
@[simp] theorem ag18 : isAggA Tryz.prog 18 = some true := by kernel_rfl
@[simp] theorem ze18 : zeroA Tryz.prog 18 = some (.agg #[.pointer none]) := by kernel_rfl
@[simp] theorem sz19 : szA Tryz.prog 19 = some 1 := by kernel_rfl
@[simp] theorem ag19 : isAggA Tryz.prog 19 = some true := by kernel_rfl
@[simp] theorem ze19 : zeroA Tryz.prog 19 = some (.agg #[.pointer none]) := by kernel_rfl
@[simp] theorem sz20 : szA Tryz.prog 20 = some 1 := by kernel_rfl
@[simp] theorem ag20 : isAggA Tryz.prog 20 = some false := by kernel_rfl
@[simp] theorem ze20 : zeroA Tryz.prog 20 = some (.nilIface) := by kernel_rfl
@[simp] theorem sz21 : szA Tryz.prog 21 = some 1 := by kernel_rfl
@[simp] theorem ag21 : isAggA Tryz.prog 21 = some false := by kernel_rfl
@[simp] theorem ze21 : zeroA Tryz.prog 21 = some (.int .i32 (0)) := by kernel_rfl
@[simp] theorem sz22 : szA Tryz.prog 22 = some 2 := by kernel_rfl
@[simp] theorem ag22 : isAggA Tryz.prog 22 = some true := by kernel_rfl
@[simp] theorem ze22 : zeroA Tryz.prog 22 = some (.agg #[.int .i64 (0), .int .i64 (0)]) := by kernel_rfl
@[simp] theorem sz23 : szA Tryz.prog 23 = some 2 := by kernel_rfl
@[simp] theorem ag23 : isAggA Tryz.prog 23 = some true := by kernel_rfl
@[simp] theorem ze23 : zeroA Tryz.prog 23 = some (.agg #[.int .i64 (0), .int .i64 (0)]) := by kernel_rfl
@[simp] theorem sz24 : szA Tryz.prog 24 = some 6 := by kernel_rfl
@[simp] theorem ag24 : isAggA Tryz.prog 24 = some true := by kernel_rfl
@[simp] theorem ze24 : zeroA Tryz.prog 24 = some (.agg #[.int .i64 (0), .int .i64 (0), .int .i64 (0), .int .i64 (0), .int .i64 (0), .int .i64 (0)]) := by kernel_rfl
@[simp] theorem sz25 : szA Tryz.prog 25 = some 6 := by kernel_rfl
@[simp] theorem ag25 : isAggA Tryz.prog 25 = some true := by kernel_rfl
@[simp] theorem ze25 : zeroA Tryz.prog 25 = some (.agg #[.int .i64 (0), .int .i64 (0), .int .i64 (0), .int .i64 (0), .int .i64 (0), .int .i64 (0)]) := by kernel_rfl
@[simp] theorem sz26 : szA Tryz.prog 26 = some 1 := by kernel_rfl
@[simp] theorem ag26 : isAggA Tryz.prog 26 = some false := by kernel_rfl
@[simp] theorem ze26 : zeroA Tryz.prog 26 = some (.slice none 0 0) := by kernel_rfl
@[simp] theorem sz27 : szA Tryz.prog 27 = some 1 := by kernel_rfl
@[simp] theorem ag27 : isAggA Tryz.prog 27 = some false := by kernel_rfl
@[simp] theorem ze27 : zeroA Tryz.prog 27 = some (.nilFunc) := by kernel_rfl
@[simp] theorem sz28 : szA Tryz.prog 28 = some 1 := by kernel_rfl
@[simp] theorem ag28 : isAggA Tryz.prog 28 = some false := by kernel_rfl
@[simp] theorem ze28 : zeroA Tryz.prog 28 = some (.nilFunc) := by kernel_rfl
@[simp] theorem sz29 : szA Tryz.prog 29 = some 1 := by kernel_rfl
@[simp] theorem ag29 : isAggA Tryz.prog 29 = some false := by kernel_rfl
@[simp] theorem ze29 : zeroA Tryz.prog 29 = some (.nilFunc) := by kernel_rfl
@[simp] theorem sz30 : szA Tryz.prog 30 = some 1 := by kernel_rfl
@[simp] theorem ag30 : isAggA Tryz.prog 30 = some false := by kernel_rfl
@[simp] theorem ze30 : zeroA Tryz.prog 30 = some (.int .i64 (0)) := by kernel_rfl
@[simp] theorem sz31 : szA Tryz.prog 31 = some 1 := by kernel_rfl
@[simp] theorem ag31 : isAggA Tryz.prog 31 = some false := by kernel_rfl
@[simp] theorem ze31 : zeroA Tryz.prog 31 = some (.nilFunc) := by kernel_rfl
@[simp] theorem sz32 : szA Tryz.prog 32 = some 6 := by kernel_rfl
@[simp] theorem ag32 : isAggA Tryz.prog 32 = some true := by kernel_rfl
@[simp] theorem ze32 : zeroA Tryz.prog 32 = some (.agg #[.int .i64 (0), .int .i64 (0), .int .i64 (0), .int .i64 (0), .int .i64 (0), .int .i64 (0)]) := by kernel_rfl
@[simp] theorem sz33 : szA Tryz.prog 33 = some 1 := by kernel_rfl
@[simp] theorem ag33 : isAggA Tryz.prog 33 = some false := by kernel_rfl
@[simp] theorem ze33 : zeroA Tryz.prog 33 = some (.nilFunc) := by kernel_rfl
@[simp] theorem sz34 : szA Tryz.prog 34 = some 1 := by kernel_rfl
@[simp] theorem ag34 : isAggA Tryz.prog 34 = some false := by kernel_rfl
@[simp] theorem ze34 : zeroA Tryz.prog 34 = some (.nilFunc) := by kernel_rfl
@[simp] theorem sz35 : szA Tryz.prog 35 = some 1 := by kernel_rfl
@[simp] theorem ag35 : isAggA Tryz.prog 35 = some false := by kernel_rfl
@[simp] theorem ze35 : zeroA Tryz.prog 35 = some (.slice none 0 0) := by kernel_rfl
@[simp] theorem sz36 : szA Tryz.prog 36 = some 1 := by kernel_rfl
@[simp] theorem ag36 : isAggA Tryz.prog 36 = some false := by kernel_rfl
@[simp] theorem ze36 : zeroA Tryz.prog 36 = some (.nilFunc) := by kernel_rfl
@[simp] theorem sz37 : szA Tryz.prog 37 = some 1 := by kernel_rfl
@[simp] theorem ag37 : isAggA Tryz.prog 37 = some false := by kernel_rfl
@[simp] theorem ze37 : zeroA Tryz.prog 37 = some (.nilFunc) := by kernel_rfl
@[simp] theorem sz38 : szA Tryz.prog 38 = some 1 := by kernel_rfl
@[simp] theorem ag38 : isAggA Tryz.prog 38 = some false := by kernel_rfl
@[simp] theorem ze38 : zeroA Tryz.prog 38 = some (.slice none 0 0) := by kernel_rfl
@[simp] theorem sz39 : szA Tryz.prog 39 = some 1 := by kernel_rfl
@[simp] theorem ag39 : isAggA Tryz.prog 39 = some false := by kernel_rfl
@[simp] theorem ze39 : zeroA Tryz.prog 39 = some (.tuple #[.slice none 0 0, .int .i64 (0)]) := by kernel_rfl
@[simp] theorem sz40 : szA Tryz.prog 40 = some 1 := by kernel_rfl
@[simp] theorem ag40 : isAggA Tryz.prog 40 = some false := by kernel_rfl
@[simp] theorem ze40 : zeroA Tryz.prog 40 = some (.nilFunc) := by kernel_rfl
@[simp] theorem sz41 : szA Tryz.prog 41 = some 1 := by kernel_rfl
@[simp] theorem ag41 : isAggA Tryz.prog 41 = some false := by kernel_rfl
@[simp] theorem ze41 : zeroA Tryz.prog 41 = some (.slice none 0 0) := by kernel_rfl
@[simp] theorem sz42 : szA Tryz.prog 42 = some 12 := by kernel_rfl
@[simp] theorem ag42 : isAggA Tryz.prog 42 = some true := by kernel_rfl
@[simp] theorem ze42 : zeroA Tryz.prog 42 = some (.agg #[.string ⟨#[]⟩, .int .i64 (0), .int .i64 (0), .int .i64 (0), .int .i64 (0), .int .i64 (0), .int .i64 (0), .int .i64 (0), .int .i64 (0), .int .i64 (0), .int .i64 (0), .slice none 0 0]) := by kernel_rfl
@[simp] theorem sz43 : szA Tryz.prog 43 = some 12 := by kernel_rfl
@[simp] theorem ag43 : isAggA Tryz.prog 43 = some true := by kernel_rfl
@[simp] theorem ze43 : zeroA Tryz.prog 43 = some (.agg #[.string ⟨#[]⟩, .int .i64 (0), .int .i64 (0), .int .i64 (0), .int .i64 (0), .int .i64 (0), .int .i64 (0), .int .i64 (0), .int .i64 (0), .int .i64 (0), .int .i64 (0), .slice none 0 0]) := by kernel_rfl
@[simp] theorem sz44 : szA Tryz.prog 44 = some 1 := by kernel_rfl
@[simp] theorem ag44 : isAggA Tryz.prog 44 = some false := by kernel_rfl
@[simp] theorem ze44 : zeroA Tryz.prog 44 = some (.nilFunc) := by kernel_rfl
@[simp] theorem sz45 : szA Tryz.prog 45 = some 12 := by kernel_rfl
@[simp] theorem ag45 : isAggA Tryz.prog 45 = some true := by kernel_rfl
@[simp] theorem ze45 : zeroA Tryz.prog 45 = some (.agg #[.string ⟨#[]⟩, .int .i64 (0), .int .i64 (0), .int .i64 (0), .int .i64 (0), .int .i64 (0), .int .i64 (0), .int .i64 (0), .int .i64 (0), .int .i64 (0), .int .i64 (0), .slice none 0 0]) := by kernel_rfl
@[simp] theorem sz46 : szA Tryz.prog 46 = some 1 := by kernel_rfl
@[simp] theorem ag46 : isAggA Tryz.prog 46 = some false := by kernel_rfl
@[simp] theorem ze46 : zeroA Tryz.prog 46 = some (.nilFunc) := by kernel_rfl
@[simp] theorem sz47 : szA Tryz.prog 47 = some 1 := by kernel_rfl
@[simp] theorem ag47 : isAggA Tryz.prog 47 = some false := by kernel_rfl
@[simp] theorem ze47 : zeroA Tryz.prog 47 = some (.slice none 0 0) := by kernel_rfl
@[simp] theorem sz48 : szA Tryz.prog 48 = some 1 := by kernel_rfl
@[simp] theorem ag48 : isAggA Tryz.prog 48 = some false := by kernel_rfl
@[simp] theorem ze48 : zeroA Tryz.prog 48 = some (.nilFunc) := by kernel_rfl
@[simp] theorem sz49 : szA Tryz.prog 49 = some 1 := by kernel_rfl
@[simp] theorem ag49 : isAggA Tryz.prog 49 = some false := by kernel_rfl
@[simp] theorem ze49 : zeroA Tryz.prog 49 = some (.nilFunc) := by kernel_rfl
@[simp] theorem sz50 : szA Tryz.prog 50 = some 1 := by kernel_rfl
@[simp] theorem ag50 : isAggA Tryz.prog 50 = some false := by kernel_rfl
@[simp] theorem ze50 : zeroA Tryz.prog 50 = some (.nilFunc) := by kernel_rfl
@[simp] theorem sz51 : szA Tryz.prog 51 = some 1 := by kernel_rfl
@[simp] theorem ag51 : isAggA Tryz.prog 51 = some false := by kernel_rfl
@[simp] theorem ze51 : zeroA Tryz.prog 51 = some (.nilFunc) := by kernel_rfl
@[simp] theorem sz52 : szA Tryz.prog 52 = some 1 := by kernel_rfl
@[simp] theorem ag52 : isAggA Tryz.prog 52 = some false := by kernel_rfl
@[simp] theorem ze52 : zeroA Tryz.prog 52 = some (.nilFunc) := by kernel_rfl
@[simp] theorem sz53 : szA Tryz.prog 53 = some 9 := by kernel_rfl
@[simp] theorem ag53 : isAggA Tryz.prog 53 = some true := by kernel_rfl
@[simp] theorem ze53 : zeroA Tryz.prog 53 = some (.agg #[.int .i64 (0), .int .i64 (0), .int .i64 (0), .int .i64 (0), .int .i64 (0), .int .i64 (0), .slice none 0 0, .slice none 0 0, .int .i64 (0)]) := by kernel_rfl
@[simp] theorem sz54 : szA Tryz.prog 54 = some 9 := by kernel_rfl
@[simp] theorem ag54 : isAggA Tryz.prog 54 = some true := by kernel_rfl
@[simp] theorem ze54 : zeroA Tryz.prog 54 = some (.agg #[.int .i64 (0), .int .i64 (0), .int .i64 (0), .int .i64 (0), .int .i64 (0), .int .i64 (0), .slice none 0 0, .slice none 0 0, .int .i64 (0)]) := by kernel_rfl
@[simp] theorem sz55 : szA Tryz.prog 55 = some 1 := by kernel_rfl
@[simp] theorem ag55 : isAggA Tryz.prog 55 = some false := by kernel_rfl
@[simp] theorem ze55 : zeroA Tryz.prog 55 = some (.tuple #[.slice none 0 0, .int .i64 (0)]) := by kernel_rfl
@[simp] theorem sz56 : szA Tryz.prog 56 = some 1 := by kernel_rfl
@[simp] theorem ag56 : isAggA Tryz.prog 56 = some false := by kernel_rfl
@[simp] theorem ze56 : zeroA Tryz.prog 56 = some (.nilFunc) := by kernel_rfl
@[simp] theorem sz57 : szA Tryz.prog 57 = some 1 := by kernel_rfl
@[simp] theorem ag57 : isAggA Tryz.prog 57 = some false := by kernel_rfl
@[simp] theorem ze57 : zeroA Tryz.prog 57 = some (.nilFunc) := by kernel_rfl
@[simp] theorem sz58 : szA Tryz.prog 58 = some 1 := by kernel_rfl
@[simp] theorem ag58 : isAggA Tryz.prog 58 = some false := by kernel_rfl
@[simp] theorem ze58 : zeroA Tryz.prog 58 = some (.nilFunc) := by kernel_rfl
@[simp] theorem sz59 : szA Tryz.prog 59 = some 1 := by kernel_rfl
@[simp] theorem ag59 : isAggA Tryz.prog 59 = some false := by kernel_rfl
@[simp] theorem ze59 : zeroA Tryz.prog 59 = some (.nilFunc) := by kernel_rfl
@[simp] theorem sz60 : szA Tryz.prog 60 = some 1 := by kernel_rfl
@[simp] theorem ag60 : isAggA Tryz.prog 60 = some false := by kernel_rfl
@[simp] theorem ze60 : zeroA Tryz.prog 60 = some (.nilFunc) := by kernel_rfl
@[simp] theorem sz61 : szA Tryz.prog 61 = some 1 := by kernel_rfl
@[simp] theorem ag61 : isAggA Tryz.prog 61 = some false := by kernel_rfl
@[simp] theorem ze61 : zeroA Tryz.prog 61 = some (.nilFunc) := by kernel_rfl
@[simp] theorem sz62 : szA Tryz.prog 62 = some 1 := by kernel_rfl
@[simp] theorem ag62 : isAggA Tryz.prog 62 = some false := by kernel_rfl
@[simp] theorem ze62 : zeroA Tryz.prog 62 = some (.nilFunc) := by kernel_rfl
@[simp] theorem sz63 : szA Tryz.prog 63 = some 1 := by kernel_rfl
@[simp] theorem ag63 : isAggA Tryz.prog 63 = some false := by kernel_rfl
@[simp] theorem ze63 : zeroA Tryz.prog 63 = some (.nilFunc) := by kernel_rfl
@[simp] theorem sz64 : szA Tryz.prog 64 = some 1 := by kernel_rfl
@[simp] theorem ag64 : isAggA Tryz.prog 64 = some false := by kernel_rfl
@[simp] theorem ze64 : zeroA Tryz.prog 64 = some (.nilFunc) := by kernel_rfl
@[simp] theorem sz65 : szA Tryz.prog 65 = some 1 := by kernel_rfl
@[simp] theorem ag65 : isAggA Tryz.prog 65 = some false := by kernel_rfl
@[simp] theorem ze65 : zeroA Tryz.prog 65 = some (.slice none 0 0) := by kernel_rfl
@[simp] theorem sz66 : szA Tryz.prog 66 = some 3 := by kernel_rfl
@[simp] theorem ag66 : isAggA Tryz.prog 66 = some true := by kernel_rfl
@[simp] theorem ze66 : zeroA Tryz.prog 66 = some (.agg #[.slice none 0 0, .slice none 0 0, .slice none 0 0]) := by kernel_rfl
@[simp] theorem sz67 : szA Tryz.prog 67 = some 3 := by kernel_rfl
@[simp] theorem ag67 : isAggA Tryz.prog 67 = some true := by kernel_rfl
@[simp] theorem ze67 : zeroA Tryz.prog 67 = some (.agg #[.slice none 0 0, .slice none 0 0, .slice none 0 0]) := by kernel_rfl
@[simp] theorem sz68 : szA Tryz.prog 68 = some 1 := by kernel_rfl
@[simp] theorem ag68 : isAggA Tryz.prog 68 = some false := by kernel_rfl
@[simp] theorem ze68 : zeroA Tryz.prog 68 = some (.nilFunc) := by kernel_rfl
@[simp] theorem sz69 : szA Tryz.prog 69 = some 1 := by kernel_rfl
@[simp] theorem ag69 : isAggA Tryz.prog 69 = some false := by kernel_rfl
@[simp] theorem ze69 : zeroA Tryz.prog 69 = some (.slice none 0 0) := by kernel_rfl
@[simp] theorem sz70 : szA Tryz.prog 70 = some 1 := by kernel_rfl
@[simp] theorem ag70 : isAggA Tryz.prog 70 = some false := by kernel_rfl
@[simp] theorem ze70 : zeroA Tryz.prog 70 = some (.nilFunc) := by kernel_rfl
@[simp] theorem sz71 : szA Tryz.prog 71 = some 1 := by kernel_rfl
@[simp] theorem ag71 : isAggA Tryz.prog 71 = some false := by kernel_rfl
@[simp] theorem ze71 : zeroA Tryz.prog 71 = some (.tuple #[.int .i64 (0), .int .i64 (0)]) := by kernel_rfl
@[simp] theorem sz72 : szA Tryz.prog 72 = some 1 := by kernel_rfl
@[simp] theorem ag72 : isAggA Tryz.prog 72 = some false := by kernel_rfl
@[simp] theorem ze72 : zeroA Tryz.prog 72 = some (.nilFunc) := by kernel_rfl
@[simp] theorem sz73 : szA Tryz.prog 73 = some 1 := by kernel_rfl
@[simp] theorem ag73 : isAggA Tryz.prog 73 = some false := by kernel_rfl
@[simp] theorem ze73 : zeroA Tryz.prog 73 = some (.tuple #[.slice none 0 0, .int .i64 (0)]) := by kernel_rfl
@[simp] theorem sz74 : szA Tryz.prog 74 = some 1 := by kernel_rfl
@[simp] theorem ag74 : isAggA Tryz.prog 74 = some false := by kernel_rfl
@[simp] theorem ze74 : zeroA Tryz.prog 74 = some (.nilFunc) := by kernel_rfl
@[simp] theorem sz75 : szA Tryz.prog 75 = some 1 := by kernel_rfl
@[simp] theorem ag75 : isAggA Tryz.prog 75 = some false := by kernel_rfl
@[simp] theorem ze75 : zeroA Tryz.prog 75 = some (.tuple #[.int .i64 (0), .int .i64 (0)]) := by kernel_rfl
@[simp] theorem sz76 : szA Tryz.prog 76 = some 1 := by kernel_rfl
@[simp] theorem ag76 : isAggA Tryz.prog 76 = some false := by kernel_rfl
@[simp] theorem ze76 : zeroA Tryz.prog 76 = some (.nilFunc) := by kernel_rfl
@[simp] theorem sz77 : szA Tryz.prog 77 = some 1 := by kernel_rfl
@[simp] theorem ag77 : isAggA Tryz.prog 77 = some false := by kernel_rfl
@[simp] theorem ze77 : zeroA Tryz.prog 77 = some (.nilFunc) := by kernel_rfl
@[simp] theorem sz78 : szA Tryz.prog 78 = some 4 := by kernel_rfl
@[simp] theorem ag78 : isAggA Tryz.prog 78 = some true := by kernel_rfl
@[simp] theorem ze78 : zeroA Tryz.prog 78 = some (.agg #[.int .i64 (0), .int .i64 (0), .int .i64 (0), .int .i64 (0)]) := by kernel_rfl
@[simp] theorem sz79 : szA Tryz.prog 79 = some 4 := by kernel_rfl
@[simp] theorem ag79 : isAggA Tryz.prog 79 = some true := by kernel_rfl
@[simp] theorem ze79 : zeroA Tryz.prog 79 = some (.agg #[.int .i64 (0), .int .i64 (0), .int .i64 (0), .int .i64 (0)]) := by kernel_rfl
@[simp] theorem sz80 : szA Tryz.prog 80 = some 1 := by kernel_rfl
@[simp] theorem ag80 : isAggA Tryz.prog 80 = some false := by kernel_rfl
@[simp] theorem ze80 : zeroA Tryz.prog 80 = some (.nilFunc) := by kernel_rfl
@[simp] theorem sz81 : szA Tryz.prog 81 = some 4 := by kernel_rfl
@[simp] theorem ag81 : isAggA Tryz.prog 81 = some true := by kernel_rfl
@[simp] theorem ze81 : zeroA Tryz.prog 81 = some (.agg #[.int .i64 (0), .int .i64 (0), .int .i64 (0), .int .i64 (0)]) := by kernel_rfl
@[simp] theorem sz82 : szA Tryz.prog 82 = some 1 := by kernel_rfl
@[simp] theorem ag82 : isAggA Tryz.prog 82 = some false := by kernel_rfl
@[simp] theorem ze82 : zeroA Tryz.prog 82 = some (.nilFunc) := by kernel_rfl
@[simp] theorem sz83 : szA Tryz.prog 83 = some 1 := by kernel_rfl
@[simp] theorem ag83 : isAggA Tryz.prog 83 = some false := by kernel_rfl
@[simp] theorem ze83 : zeroA Tryz.prog 83 = some (.nilFunc) := by kernel_rfl
@[simp] theorem sz84 : szA Tryz.prog 84 = some 1 := by kernel_rfl
@[simp] theorem ag84 : isAggA Tryz.prog 84 = some false := by kernel_rfl
@[simp] theorem ze84 : zeroA Tryz.prog 84 = some (.nilFunc) := by kernel_rfl
@[simp] theorem sz85 : szA Tryz.prog 85 = some 1 := by kernel_rfl
@[simp] theorem ag85 : isAggA Tryz.prog 85 = some false := by kernel_rfl
@[simp] theorem ze85 : zeroA Tryz.prog 85 = some (.nilFunc) := by kernel_rfl
@[simp] theorem sz86 : szA Tryz.prog 86 = some 1 := by kernel_rfl
@[simp] theorem ag86 : isAggA Tryz.prog 86 = some false := by kernel_rfl
@[simp] theorem ze86 : zeroA Tryz.prog 86 = some (.nilFunc) := by kernel_rfl
@[simp] theorem sz87 : szA Tryz.prog 87 = some 1 := by kernel_rfl
@[simp] theorem ag87 : isAggA Tryz.prog 87 = some false := by kernel_rfl
@[simp] theorem ze87 : zeroA Tryz.prog 87 = some (.nilFunc) := by kernel_rfl
@[simp] theorem sz88 : szA Tryz.prog 88 = some 1 := by kernel_rfl
@[simp] theorem ag88 : isAggA Tryz.prog 88 = some false := by kernel_rfl
@[simp] theorem ze88 : zeroA Tryz.prog 88 = some (.nilFunc) := by kernel_rfl
@[simp] theorem sz89 : szA Tryz.prog 89 = some 1 := by kernel_rfl
@[simp] theorem ag89 : isAggA Tryz.prog 89 = some false := by kernel_rfl
@[simp] theorem ze89 : zeroA Tryz.prog 89 = some (.nilFunc) := by kernel_rfl
@[simp] theorem sz90 : szA Tryz.prog 90 = some 1 := by kernel_rfl
@[simp] theorem ag90 : isAggA Tryz.prog 90 = some false := by kernel_rfl
@[simp] theorem ze90 : zeroA Tryz.prog 90 = some (.tuple #[.slice none 0 0, .int .i64 (0), .int .i64 (0)]) := by kernel_rfl
@[simp] theorem sz91 : szA Tryz.prog 91 = some 1 := by kernel_rfl
@[simp] theorem ag91 : isAggA Tryz.prog 91 = some false := by kernel_rfl
@[simp] theorem ze91 : zeroA Tryz.prog 91 = some (.nilFunc) := by kernel_rfl
@[simp] theorem sz92 : szA Tryz.prog 92 = some 1 := by kernel_rfl
@[simp] theorem ag92 : isAggA Tryz.prog 92 = some false := by kernel_rfl
@[simp] theorem ze92 : zeroA Tryz.prog 92 = some (.tuple #[.slice none 0 0, .int .i64 (0), .int .i64 (0)]) := by kernel_rfl
@[simp] theorem sz93 : szA Tryz.prog 93 = some 1 := by kernel_rfl
@[simp] theorem ag93 : isAggA Tryz.prog 93 = some false := by kernel_rfl
@[simp] theorem ze93 : zeroA Tryz.prog 93 = some (.nilFunc) := by kernel_rfl
@[simp] theorem sz94 : szA Tryz.prog 94 = some 1 := by kernel_rfl
@[simp] theorem ag94 : isAggA Tryz.prog 94 = some false := by kernel_rfl
@[simp] theorem ze94 : zeroA Tryz.prog 94 = some (.nilFunc) := by kernel_rfl
@[simp] theorem sz95 : szA Tryz.prog 95 = some 1 := by kernel_rfl
@[simp] theorem ag95 : isAggA Tryz.prog 95 = some false := by kernel_rfl
@[simp] theorem ze95 : zeroA Tryz.prog 95 = some (.nilFunc) := by kernel_rfl
@[simp] theorem sz96 : szA Tryz.prog 96 = some 13 := by kernel_rfl
@[simp] theorem ag96 : isAggA Tryz.prog 96 = some true := by kernel_rfl
@[simp] theorem ze96 : zeroA Tryz.prog 96 = some (.agg #[.string ⟨#[]⟩, .int .i64 (0), .int .i64 (0), .int .i64 (0), .int .i64 (0), .int .i64 (0), .int .i64 (0), .int .i64 (0), .int .i64 (0), .int .i64 (0), .int .i64 (0), .slice none 0 0, .int .i64 (0)]) := by kernel_rfl
@[simp] theorem sz97 : szA Tryz.prog 97 = some 13 := by kernel_rfl
@[simp] theorem ag97 : isAggA Tryz.prog 97 = some true := by kernel_rfl
@[simp] theorem ze97 : zeroA Tryz.prog 97 = some (.agg #[.string ⟨#[]⟩, .int .i64 (0), .int .i64 (0), .int .i64 (0), .int .i64 (0), .int .i64 (0), .int .i64 (0), .int .i64 (0), .int .i64 (0), .int .i64 (0), .int .i64 (0), .slice none 0 0, .int .i64 (0)]) := by kernel_rfl
@[simp] theorem sz98 : szA Tryz.prog 98 = some 1 := by kernel_rfl
@[simp] theorem ag98 : isAggA Tryz.prog 98 = some false := by kernel_rfl
@[simp] theorem ze98 : zeroA Tryz.prog 98 = some (.nilFunc) := by kernel_rfl
@[simp] theorem sz99 : szA Tryz.prog 99 = some 2 := by kernel_rfl
@[simp] theorem ag99 : isAggA Tryz.prog 99 = some true := by kernel_rfl
@[simp] theorem ze99 : zeroA Tryz.prog 99 = some (.agg #[.int .i64 (0), .int .i64 (0)]) := by kernel_rfl
@[simp] theorem sz100 : szA Tryz.prog 100 = some 2 := by kernel_rfl
@[simp] theorem ag100 : isAggA Tryz.prog 100 = some true := by kernel_rfl
@[simp] theorem ze100 : zeroA Tryz.prog 100 = some (.agg #[.int .i64 (0), .int .i64 (0)]) := by kernel_rfl
@[simp] theorem sz101 : szA Tryz.prog 101 = some 1 := by kernel_rfl
@[simp] theorem ag101 : isAggA Tryz.prog 101 = some false := by kernel_rfl
@[simp] theorem ze101 : zeroA Tryz.prog 101 = some (.nilFunc) := by kernel_rfl
@[simp] theorem sz102 : szA Tryz.prog 102 = some 1 := by kernel_rfl
@[simp] theorem ag102 : isAggA Tryz.prog 102 = some false := by kernel_rfl
@[simp] theorem ze102 : zeroA Tryz.prog 102 = some (.tuple #[.agg #[.string ⟨#[]⟩, .int .i64 (0), .int .i64 (0), .int .i64 (0), .int .i64 (0), .int .i64 (0), .int .i64 (0), .int .i64 (0), .int .i64 (0), .int .i64 (0), .int .i64 (0), .slice none 0 0], .int .i64 (0)]) := by kernel_rfl
@[simp] theorem sz103 : szA Tryz.prog 103 = some 1 := by kernel_rfl
@[simp] theorem ag103 : isAggA Tryz.prog 103 = some false := by kernel_rfl
@[simp] theorem ze103 : zeroA Tryz.prog 103 = some (.nilFunc) := by kernel_rfl
@[simp] theorem sz104 : szA Tryz.prog 104 = some 1 := by kernel_rfl
@[simp] theorem ag104 : isAggA Tryz.prog 104 = some false := by kernel_rfl
@[simp] theorem ze104 : zeroA Tryz.prog 104 = some (.nilFunc) := by kernel_rfl
@[simp] theorem sz105 : szA Tryz.prog 105 = some 1 := by kernel_rfl
@[simp] theorem ag105 : isAggA Tryz.prog 105 = some false := by kernel_rfl
@[simp] theorem ze105 : zeroA Tryz.prog 105 = some (.nilFunc) := by kernel_rfl
@[simp] theorem sz106 : szA Tryz.prog 106 = some 1 := by kernel_rfl
@[simp] theorem ag106 : isAggA Tryz.prog 106 = some false := by kernel_rfl
@[simp] theorem ze106 : zeroA Tryz.prog 106 = some (.tuple #[.agg #[.string ⟨#[]⟩, .int .i64 (0), .int .i64 (0), .int .i64 (0), .int .i64 (0), .int .i64 (0), .int .i64 (0), .int .i64 (0), .int .i64 (0), .int .i64 (0), .int .i64 (0), .slice none 0 0], .int .i64 (0)]) := by kernel_rfl
@[simp] theorem sz107 : szA Tryz.prog 107 = some 1 := by kernel_rfl
@[simp] theorem ag107 : isAggA Tryz.prog 107 = some false := by kernel_rfl
@[simp] theorem ze107 : zeroA Tryz.prog 107 = some (.nilFunc) := by kernel_rfl
@[simp] theorem sz108 : szA Tryz.prog 108 = some 1 := by kernel_rfl
@[simp] theorem ag108 : isAggA Tryz.prog 108 = some false := by kernel_rfl
@[simp] theorem ze108 : zeroA Tryz.prog 108 = some (.nilFunc) := by kernel_rfl
@[simp] theorem sz109 : szA Tryz.prog 109 = some 1 := by kernel_rfl
@[simp] theorem ag109 : isAggA Tryz.prog 109 = some false := by kernel_rfl
@[simp] theorem ze109 : zeroA Tryz.prog 109 = some (.nilFunc) := by kernel_rfl
@[simp] theorem sz110 : szA Tryz.prog 110 = some 1 := by kernel_rfl
@[simp] theorem ag110 : isAggA Tryz.prog 110 = some false := by kernel_rfl
@[simp] theorem ze110 : zeroA Tryz.prog 110 = some (.nilFunc) := by kernel_rfl
@[simp] theorem sz111 : szA Tryz.prog 111 = some 1 := by kernel_rfl
@[simp] theorem ag111 : isAggA Tryz.prog 111 = some false := by kernel_rfl
@[simp] theorem ze111 : zeroA Tryz.prog 111 = some (.nilFunc) := by kernel_rfl
@[simp] theorem sz112 : szA Tryz.prog 112 = some 1 := by kernel_rfl
@[simp] theorem ag112 : isAggA Tryz.prog 112 = some false := by kernel_rfl
@[simp] theorem ze112 : zeroA Tryz.prog 112 = some (.nilFunc) := by kernel_rfl
@[simp] theorem sz113 : szA Tryz.prog 113 = some 1 := by kernel_rfl
@[simp] theorem ag113 : isAggA Tryz.prog 113 = some false := by kernel_rfl
@[simp] theorem ze113 : zeroA Tryz.prog 113 = some (.nilFunc) := by kernel_rfl
@[simp] theorem sz114 : szA Tryz.prog 114 = some 1 := by kernel_rfl
@[simp] theorem ag114 : isAggA Tryz.prog 114 = some false := by kernel_rfl
@[simp] theorem ze114 : zeroA Tryz.prog 114 = some (.nilFunc) := by kernel_rfl
@[simp] theorem sz115 : szA Tryz.prog 115 = some 1 := by kernel_rfl
@[simp] theorem ag115 : isAggA Tryz.prog 115 = some false := by kernel_rfl
@[simp] theorem ze115 : zeroA Tryz.prog 115 = some (.slice none 0 0) := by kernel_rfl
@[simp] theorem sz116 : szA Tryz.prog 116 = some 1 := by kernel_rfl
@[simp] theorem ag116 : isAggA Tryz.prog 116 = some false := by kernel_rfl
@[simp] theorem ze116 : zeroA Tryz.prog 116 = some (.nilFunc) := by kernel_rfl
@[simp] theorem sz117 : szA Tryz.prog 117 = some 1 := by kernel_rfl
@[simp] theorem ag117 : isAggA Tryz.prog 117 = some false := by kernel_rfl
@[simp] theorem ze117 : zeroA Tryz.prog 117 = some (.nilFunc) := by kernel_rfl
@[simp] theorem sz118 : szA Tryz.prog 118 = some 1 := by kernel_rfl
@[simp] theorem ag118 : isAggA Tryz.prog 118 = some false := by kernel_rfl
@[simp] theorem ze118 : zeroA Tryz.prog 118 = some (.nilFunc) := by kernel_rfl
@[simp] theorem sz119 : szA Tryz.prog 119 = some 1 := by kernel_rfl
@[simp] theorem ag119 : isAggA Tryz.prog 119 = some false := by kernel_rfl
@[simp] theorem ze119 : zeroA Tryz.prog 119 = some (.nilFunc) := by kernel_rfl
@[simp] theorem sz120 : szA Tryz.prog 120 = some 1 := by kernel_rfl
@[simp] theorem ag120 : isAggA Tryz.prog 120 = some false := by kernel_rfl
@[simp] theorem ze120 : zeroA Tryz.prog 120 = some (.slice none 0 0) := by kernel_rfl
@[simp] theorem sz121 : szA Tryz.prog 121 = some 1 := by kernel_rfl
@[simp] theorem ag121 : isAggA Tryz.prog 121 = some false := by kernel_rfl
@[simp] theorem ze121 : zeroA Tryz.prog 121 = some (.tuple #[.slice none 0 0, .int .i64 (0), .int .i64 (0)]) := by kernel_rfl
@[simp] theorem sz122 : szA Tryz.prog 122 = some 1 := by kernel_rfl
@[simp] theorem ag122 : isAggA Tryz.prog 122 = some false := by kernel_rfl
@[simp] theorem ze122 : zeroA Tryz.prog 122 = some (.nilFunc) := by kernel_rfl
@[simp] theorem sz123 : szA Tryz.prog 123 = some 1 := by kernel_rfl
@[simp] theorem ag123 : isAggA Tryz.prog 123 = some false := by kernel_rfl
@[simp] theorem ze123 : zeroA Tryz.prog 123 = some (.nilFunc) := by kernel_rfl
@[simp] theorem sz124 : szA Tryz.prog 124 = some 1 := by kernel_rfl
@[simp] theorem ag124 : isAggA Tryz.prog 124 = some false := by kernel_rfl
@[simp] theorem ze124 : zeroA Tryz.prog 124 = some (.nilFunc) := by kernel_rfl
@[simp] theorem sz125 : szA Tryz.prog 125 = some 1 := by kernel_rfl
@[simp] theorem ag125 : isAggA Tryz.prog 125 = some false := by kernel_rfl
@[simp] theorem ze125 : zeroA Tryz.prog 125 = some (.nilFunc) := by kernel_rfl
@[simp] theorem sz126 : szA Tryz.prog 126 = some 1 := by kernel_rfl
@[simp] theorem ag126 : isAggA Tryz.prog 126 = some false := by kernel_rfl
@[simp] theorem ze126 : zeroA Tryz.prog 126 = some (.tuple #[.slice none 0 0, .int .i64 (0)]) := by kernel_rfl
@[simp] theorem sz127 : szA Tryz.prog 127 = some 1 := by kernel_rfl
@[simp] theorem ag127 : isAggA Tryz.prog 127 = some false := by kernel_rfl
@[simp] theorem ze127 : zeroA Tryz.prog 127 = some (.nilFunc) := by kernel_rfl
@[simp] theorem sz128 : szA Tryz.prog 128 = some 1 := by kernel_rfl
@[simp] theorem ag128 : isAggA Tryz.prog 128 = some false := by kernel_rfl
@[simp] theorem ze128 : zeroA Tryz.prog 128 = some (.nilFunc) := by kernel_rfl
@[simp] theorem sz129 : szA Tryz.prog 129 = some 1 := by kernel_rfl
@[simp] theorem ag129 : isAggA Tryz.prog 129 = some false := by kernel_rfl
@[simp] theorem ze129 : zeroA Tryz.prog 129 = some (.nilFunc) := by kernel_rfl
@[simp] theorem sz130 : szA Tryz.prog 130 = some 2 := by kernel_rfl
@[simp] theorem ag130 : isAggA Tryz.prog 130 = some true := by kernel_rfl
@[simp] theorem ze130 : zeroA Tryz.prog 130 = some (.agg #[.int .i64 (0), .int .i64 (0)]) := by kernel_rfl
@[simp] theorem sz131 : szA Tryz.prog 131 = some 1 := by kernel_rfl
@[simp] theorem ag131 : isAggA Tryz.prog 131 = some false := by kernel_rfl
@[simp] theorem ze131 : zeroA Tryz.prog 131 = some (.tuple #[.string ⟨#[]⟩, .int .i64 (0)]) := by kernel_rfl
@[simp] theorem sz132 : szA Tryz.prog 132 = some 1 := by kernel_rfl
@[simp] theorem ag132 : isAggA Tryz.prog 132 = some false := by kernel_rfl
@[simp] theorem ze132 : zeroA Tryz.prog 132 = some (.nilFunc) := by kernel_rfl
@[simp] theorem sz133 : szA Tryz.prog 133 = some 1 := by kernel_rfl
@[simp] theorem ag133 : isAggA Tryz.prog 133 = some false := by kernel_rfl
@[simp] theorem ze133 : zeroA Tryz.prog 133 = some (.tuple #[.slice none 0 0, .int .i64 (0), .int .i64 (0)]) := by kernel_rfl
@[simp] theorem sz134 : szA Tryz.prog 134 = some 1 := by kernel_rfl
@[simp] theorem ag134 : isAggA Tryz.prog 134 = some false := by kernel_rfl
@[simp] theorem ze134 : zeroA Tryz.prog 134 = some (.nilFunc) := by kernel_rfl
@[simp] theorem sz135 : szA Tryz.prog 135 = some 1 := by kernel_rfl
@[simp] theorem ag135 : isAggA Tryz.prog 135 = some false := by kernel_rfl
@[simp] theorem ze135 : zeroA Tryz.prog 135 = some (.nilFunc) := by kernel_rfl
@[simp] theorem sz136 : szA Tryz.prog 136 = some 1 := by kernel_rfl
@[simp] theorem ag136 : isAggA Tryz.prog 136 = some false := by kernel_rfl
@[simp] theorem ze136 : zeroA Tryz.prog 136 = some (.tuple #[.slice none 0 0, .int .i64 (0), .int .i64 (0)]) := by kernel_rfl
@[simp] theorem sz137 : szA Tryz.prog 137 = some 1 := by kernel_rfl
@[simp] theorem ag137 : isAggA Tryz.prog 137 = some false := by kernel_rfl
@[simp] theorem ze137 : zeroA Tryz.prog 137 = some (.nilFunc) := by kernel_rfl
@[simp] theorem sz138 : szA Tryz.prog 138 = some 1 := by kernel_rfl
@[simp] theorem ag138 : isAggA Tryz.prog 138 = some false := by kernel_rfl
@[simp] theorem ze138 : zeroA Tryz.prog 138 = some (.nilFunc) := by kernel_rfl
@[simp] theorem sz139 : szA Tryz.prog 139 = some 1 := by kernel_rfl
@[simp] theorem ag139 : isAggA Tryz.prog 139 = some false := by kernel_rfl
@[simp] theorem ze139 : zeroA Tryz.prog 139 = some (.nilFunc) := by kernel_rfl
@[simp] theorem sz140 : szA Tryz.prog 140 = some 1 := by kernel_rfl
@[simp] theorem ag140 : isAggA Tryz.prog 140 = some false := by kernel_rfl
@[simp] theorem ze140 : zeroA Tryz.prog 140 = some (.nilFunc) := by kernel_rfl
@[simp] theorem sz141 : szA Tryz.prog 141 = some 1 := by kernel_rfl
@[simp] theorem ag141 : isAggA Tryz.prog 141 = some false := by kernel_rfl
@[simp] theorem ze141 : zeroA Tryz.prog 141 = some (.slice none 0 0) := by kernel_rfl
@[simp] theorem sz142 : szA Tryz.prog 142 = some 1 := by kernel_rfl
@[simp] theorem ag142 : isAggA Tryz.prog 142 = some false := by kernel_rfl
@[simp] theorem ze142 : zeroA Tryz.prog 142 = some (.nilFunc) := by kernel_rfl
@[simp] theorem sz143 : szA Tryz.prog 143 = some 1 := by kernel_rfl
@[simp] theorem ag143 : isAggA Tryz.prog 143 = some false := by kernel_rfl
@[simp] theorem ze143 : zeroA Tryz.prog 143 = some (.nilFunc) := by kernel_rfl
@[simp] theorem sz144 : szA Tryz.prog 144 = some 1 := by kernel_rfl
@[simp] theorem ag144 : isAggA Tryz.prog 144 = some false := by kernel_rfl
@[simp] theorem ze144 : zeroA Tryz.prog 144 = some (.nilFunc) := by kernel_rfl
@[simp] theorem sz145 : szA Tryz.prog 145 = some 1 := by kernel_rfl
@[simp] theorem ag145 : isAggA Tryz.prog 145 = some false := by kernel_rfl
@[simp] theorem ze145 : zeroA Tryz.prog 145 = some (.nilFunc) := by kernel_rfl
@[simp] theorem sz146 : szA Tryz.prog 146 = some 1 := by kernel_rfl
@[simp] theorem ag146 : isAggA Tryz.prog 146 = some false := by kernel_rfl
@[simp] theorem ze146 : zeroA Tryz.prog 146 = some (.nilFunc) := by kernel_rfl
@[simp] theorem sz147 : szA Tryz.prog 147 = some 13 := by kernel_rfl
@[simp] theorem ag147 : isAggA Tryz.prog 147 = some true := by kernel_rfl
@[simp] theorem ze147 : zeroA Tryz.prog 147 = some (.agg #[.string ⟨#[]⟩, .int .i64 (0), .int .i64 (0), .int .i64 (0), .int .i64 (0), .int .i64 (0), .int .i64 (0), .int .i64 (0), .int .i64 (0), .int .i64 (0), .int .i64 (0), .slice none 0 0, .int .i64 (0)]) := by kernel_rfl
@[simp] theorem sz148 : szA Tryz.prog 148 = some 13 := by kernel_rfl
@[simp] theorem ag148 : isAggA Tryz.prog 148 = some true := by kernel_rfl
@[simp] theorem ze148 : zeroA Tryz.prog 148 = some (.agg #[.string ⟨#[]⟩, .int .i64 (0), .int .i64 (0), .int .i64 (0), .int .i64 (0), .int .i64 (0), .int .i64 (0), .int .i64 (0), .int .i64 (0), .int .i64 (0), .int .i64 (0), .slice none 0 0, .int .i64 (0)]) := by kernel_rfl
@[simp] theorem sz149 : szA Tryz.prog 149 = some 1 := by kernel_rfl
@[simp] theorem ag149 : isAggA Tryz.prog 149 = some false := by kernel_rfl
@[simp] theorem ze149 : zeroA Tryz.prog 149 = some (.nilFunc) := by kernel_rfl
@[simp] theorem sz150 : szA Tryz.prog 150 = some 1 := by kernel_rfl
@[simp] theorem ag150 : isAggA Tryz.prog 150 = some false := by kernel_rfl
@[simp] theorem ze150 : zeroA Tryz.prog 150 = some (.nilFunc) := by kernel_rfl
@[simp] theorem sz151 : szA Tryz.prog 151 = some 1 := by kernel_rfl
@[simp] theorem ag151 : isAggA Tryz.prog 151 = some false := by kernel_rfl
@[simp] theorem ze151 : zeroA Tryz.prog 151 = some (.nilFunc) := by kernel_rfl
@[simp] theorem sz152 : szA Tryz.prog 152 = some 1 := by kernel_rfl
@[simp] theorem ag152 : isAggA Tryz.prog 152 = some false := by kernel_rfl
@[simp] theorem ze152 : zeroA Tryz.prog 152 = some (.nilFunc) := by kernel_rfl
@[simp] theorem sz153 : szA Tryz.prog 153 = some 1 := by kernel_rfl
@[simp] theorem ag153 : isAggA Tryz.prog 153 = some false := by kernel_rfl
@[simp] theorem ze153 : zeroA Tryz.prog 153 = some (.nilFunc) := by kernel_rfl
@[simp] theorem sz154 : szA Tryz.prog 154 = some 1 := by kernel_rfl
@[simp] theorem ag154 : isAggA Tryz.prog 154 = some false := by kernel_rfl
@[simp] theorem ze154 : zeroA Tryz.prog 154 = some (.nilFunc) := by kernel_rfl
@[simp] theorem sz155 : szA Tryz.prog 155 = some 1 := by kernel_rfl
@[simp] theorem ag155 : isAggA Tryz.prog 155 = some false := by kernel_rfl
@[simp] theorem ze155 : zeroA Tryz.prog 155 = some (.nilFunc) := by kernel_rfl
@[simp] theorem sz156 : szA Tryz.prog 156 = some 1 := by kernel_rfl
@[simp] theorem ag156 : isAggA Tryz.prog 156 = some false := by kernel_rfl
@[simp] theorem ze156 : zeroA Tryz.prog 156 = some (.map none) := by kernel_rfl
@[simp] theorem sz157 : szA Tryz.prog 157 = some 1 := by kernel_rfl
@[simp] theorem ag157 : isAggA Tryz.prog 157 = some false := by kernel_rfl
@[simp] theorem ze157 : zeroA Tryz.prog 157 = some (.nilFunc) := by kernel_rfl
@[simp] theorem sz158 : szA Tryz.prog 158 = some 1 := by kernel_rfl
@[simp] theorem ag158 : isAggA Tryz.prog 158 = some false := by kernel_rfl
@[simp] theorem ze158 : zeroA Tryz.prog 158 = some (.nilFunc) := by kernel_rfl
@[simp] theorem sz159 : szA Tryz.prog 159 = some 1 := by kernel_rfl
@[simp] theorem ag159 : isAggA Tryz.prog 159 = some false := by kernel_rfl
@[simp] theorem ze159 : zeroA Tryz.prog 159 = some (.nilFunc) := by kernel_rfl
@[simp] theorem sz160 : szA Tryz.prog 160 = some 1 := by kernel_rfl
@[simp] theorem ag160 : isAggA Tryz.prog 160 = some false := by kernel_rfl
@[simp] theorem ze160 : zeroA Tryz.prog 160 = some (.nilFunc) := by kernel_rfl
@[simp] theorem sz161 : szA Tryz.prog 161 = some 1 := by kernel_rfl
@[simp] theorem ag161 : isAggA Tryz.prog 161 = some false := by kernel_rfl
@[simp] theorem ze161 : zeroA Tryz.prog 161 = some (.nilFunc) := by kernel_rfl
@[simp] theorem sz162 : szA Tryz.prog 162 = some 1 := by kernel_rfl
@[simp] theorem ag162 : isAggA Tryz.prog 162 = some false := by kernel_rfl
@[simp] theorem ze162 : zeroA Tryz.prog 162 = some (.nilFunc) := by kernel_rfl
@[simp] theorem sz163 : szA Tryz.prog 163 = some 1 := by kernel_rfl
@[simp] theorem ag163 : isAggA Tryz.prog 163 = some false := by kernel_rfl
@[simp] theorem ze163 : zeroA Tryz.prog 163 = some (.nilFunc) := by kernel_rfl
@[simp] theorem sz164 : szA Tryz.prog 164 = some 1 := by kernel_rfl
@[simp] theorem ag164 : isAggA Tryz.prog 164 = some false := by kernel_rfl
@[simp] theorem ze164 : zeroA Tryz.prog 164 = some (.nilFunc) := by kernel_rfl
@[simp] theorem sz165 : szA Tryz.prog 165 = some 1 := by kernel_rfl
@[simp] theorem ag165 : isAggA Tryz.prog 165 = some false := by kernel_rfl
@[simp] theorem ze165 : zeroA Tryz.prog 165 = some (.nilFunc) := by kernel_rfl
@[simp] theorem sz166 : szA Tryz.prog 166 = some 1 := by kernel_rfl
@[simp] theorem ag166 : isAggA Tryz.prog 166 = some false := by kernel_rfl
@[simp] theorem ze166 : zeroA Tryz.prog 166 = some (.nilFunc) := by kernel_rfl
@[simp] theorem sz167 : szA Tryz.prog 167 = some 1 := by kernel_rfl
@[simp] theorem ag167 : isAggA Tryz.prog 167 = some false := by kernel_rfl
@[simp] theorem ze167 : zeroA Tryz.prog 167 = some (.nilFunc) := by kernel_rfl
@[simp] theorem sz168 : szA Tryz.prog 168 = some 1 := by kernel_rfl
@[simp] theorem ag168 : isAggA Tryz.prog 168 = some false := by kernel_rfl
@[simp] theorem ze168 : zeroA Tryz.prog 168 = some (.nilFunc) := by kernel_rfl
@[simp] theorem sz169 : szA Tryz.prog 169 = some 1 := by kernel_rfl
@[simp] theorem ag169 : isAggA Tryz.prog 169 = some false := by kernel_rfl
@[simp] theorem ze169 : zeroA Tryz.prog 169 = some (.nilFunc) := by kernel_rfl
@[simp] theorem sz170 : szA Tryz.prog 170 = some 1 := by kernel_rfl
@[simp] theorem ag170 : isAggA Tryz.prog 170 = some false := by kernel_rfl
@[simp] theorem ze170 : zeroA Tryz.prog 170 = some (.nilFunc) := by kernel_rfl
@[simp] theorem sz171 : szA Tryz.prog 171 = some 1 := by kernel_rfl
@[simp] theorem ag171 : isAggA Tryz.prog 171 = some false := by kernel_rfl
@[simp] theorem ze171 : zeroA Tryz.prog 171 = some (.nilFunc) := by kernel_rfl
@[simp] theorem sz172 : szA Tryz.prog 172 = some 1 := by kernel_rfl
@[simp] theorem ag172 : isAggA Tryz.prog 172 = some false := by kernel_rfl
@[simp] theorem ze172 : zeroA Tryz.prog 172 = some (.nilFunc) := by kernel_rfl
@[simp] theorem sz173 : szA Tryz.prog 173 = some 1 := by kernel_rfl
@[simp] theorem ag173 : isAggA Tryz.prog 173 = some false := by kernel_rfl
@[simp] theorem ze173 : zeroA Tryz.prog 173 = some (.nilFunc) := by kernel_rfl
@[simp] theorem sz174 : szA Tryz.prog 174 = some 1 := by kernel_rfl
@[simp] theorem ag174 : isAggA Tryz.prog 174 = some false := by kernel_rfl
@[simp] theorem ze174 : zeroA Tryz.prog 174 = some (.nilFunc) := by kernel_rfl
@[simp] theorem sz175 : szA Tryz.prog 175 = some 1 := by kernel_rfl
@[simp] theorem ag175 : isAggA Tryz.prog 175 = some false := by kernel_rfl
@[simp] theorem ze175 : zeroA Tryz.prog 175 = some (.nilFunc) := by kernel_rfl
@[simp] theorem sz176 : szA Tryz.prog 176 = some 1 := by kernel_rfl
@[simp] theorem ag176 : isAggA Tryz.prog 176 = some false := by kernel_rfl
@[simp] theorem ze176 : zeroA Tryz.prog 176 = some (.slice none 0 0) := by kernel_rfl
@[simp] theorem sz177 : szA Tryz.prog 177 = some 2 := by kernel_rfl
@[simp] theorem ag177 : isAggA Tryz.prog 177 = some true := by kernel_rfl
@[simp] theorem ze177 : zeroA Tryz.prog 177 = some (.agg #[.slice none 0 0, .slice none 0 0]) := by kernel_rfl
@[simp] theorem sz178 : szA Tryz.prog 178 = some 2 := by kernel_rfl
@[simp] theorem ag178 : isAggA Tryz.prog 178 = some true := by kernel_rfl
@[simp] theorem ze178 : zeroA Tryz.prog 178 = some (.agg #[.slice none 0 0, .slice none 0 0]) := by kernel_rfl
@[simp] theorem sz179 : szA Tryz.prog 179 = some 1 := by kernel_rfl
@[simp] theorem ag179 : isAggA Tryz.prog 179 = some false := by kernel_rfl
@[simp] theorem ze179 : zeroA Tryz.prog 179 = some (.tuple #[.agg #[.slice none 0 0, .slice none 0 0], .int .i64 (0)]) := by kernel_rfl
@[simp] theorem sz180 : szA Tryz.prog 180 = some 1 := by kernel_rfl
@[simp] theorem ag180 : isAggA Tryz.prog 180 = some false := by kernel_rfl
@[simp] theorem ze180 : zeroA Tryz.prog 180 = some (.nilFunc) := by kernel_rfl
@[simp] theorem sz181 : szA Tryz.prog 181 = some 1 := by kernel_rfl
@[simp] theorem ag181 : isAggA Tryz.prog 181 = some false := by kernel_rfl
@[simp] theorem ze181 : zeroA Tryz.prog 181 = some (.nilFunc) := by kernel_rfl
@[simp] theorem sz182 : szA Tryz.prog 182 = some 14 := by kernel_rfl
@[simp] theorem ag182 : isAggA Tryz.prog 182 = some true := by kernel_rfl
@[simp] theorem ze182 : zeroA Tryz.prog 182 = some (.agg #[.string ⟨#[]⟩, .int .i64 (0), .int .i64 (0), .int .i64 (0), .int .i64 (0), .int .i64 (0), .int .i64 (0), .int .i64 (0), .int .i64 (0), .int .i64 (0), .int .i64 (0), .slice none 0 0, .int .i64 (0), .slice none 0 0]) := by kernel_rfl
@[simp] theorem sz183 : szA Tryz.prog 183 = some 14 := by kernel_rfl
@[simp] theorem ag183 : isAggA Tryz.prog 183 = some true := by kernel_rfl
@[simp] theorem ze183 : zeroA Tryz.prog 183 = some (.agg #[.string ⟨#[]⟩, .int .i64 (0), .int .i64 (0), .int .i64 (0), .int .i64 (0), .int .i64 (0), .int .i64 (0), .int .i64 (0), .int .i64 (0), .int .i64 (0), .int .i64 (0), .slice none 0 0, .int .i64 (0), .slice none 0 0]) := by kernel_rfl
@[simp] theorem sz184 : szA Tryz.prog 184 = some 1 := by kernel_rfl
@[simp] theorem ag184 : isAggA Tryz.prog 184 = some false := by kernel_rfl
@[simp] theorem ze184 : zeroA Tryz.prog 184 = some (.nilFunc) := by kernel_rfl
@[simp] theorem sz185 : szA Tryz.prog 185 = some 1 := by kernel_rfl
@[simp] theorem ag185 : isAggA Tryz.prog 185 = some false := by kernel_rfl
@[simp] theorem ze185 : zeroA Tryz.prog 185 = some (.nilFunc) := by kernel_rfl
@[simp] theorem sz186 : szA Tryz.prog 186 = some 1 := by kernel_rfl
@[simp] theorem ag186 : isAggA Tryz.prog 186 = some false := by kernel_rfl
@[simp] theorem ze186 : zeroA Tryz.prog 186 = some (.nilFunc) := by kernel_rfl
@[simp] theorem sz187 : szA Tryz.prog 187 = some 1 := by kernel_rfl
@[simp] theorem ag187 : isAggA Tryz.prog 187 = some false := by kernel_rfl
@[simp] theorem ze187 : zeroA Tryz.prog 187 = some (.nilFunc) := by kernel_rfl
@[simp] theorem sz188 : szA Tryz.prog 188 = some 1 := by kernel_rfl
@[simp] theorem ag188 : isAggA Tryz.prog 188 = some false := by kernel_rfl
@[simp] theorem ze188 : zeroA Tryz.prog 188 = some (.nilFunc) := by kernel_rfl
@[simp] theorem sz189 : szA Tryz.prog 189 = some 1 := by kernel_rfl
@[simp] theorem ag189 : isAggA Tryz.prog 189 = some false := by kernel_rfl
@[simp] theorem ze189 : zeroA Tryz.prog 189 = some (.nilFunc) := by kernel_rfl
@[simp] theorem sz190 : szA Tryz.prog 190 = some 1 := by kernel_rfl
@[simp] theorem ag190 : isAggA Tryz.prog 190 = some false := by kernel_rfl
@[simp] theorem ze190 : zeroA Tryz.prog 190 = some (.slice none 0 0) := by kernel_rfl
@[simp] theorem sz191 : szA Tryz.prog 191 = some 1 := by kernel_rfl
@[simp] theorem ag191 : isAggA Tryz.prog 191 = some false := by kernel_rfl
@[simp] theorem ze191 : zeroA Tryz.prog 191 = some (.nilFunc) := by kernel_rfl
@[simp] theorem sz192 : szA Tryz.prog 192 = some 1 := by kernel_rfl
@[simp] theorem ag192 : isAggA Tryz.prog 192 = some false := by kernel_rfl
@[simp] theorem ze192 : zeroA Tryz.prog 192 = some (.nilFunc) := by kernel_rfl
@[simp] theorem sz193 : szA Tryz.prog 193 = some 1 := by kernel_rfl
@[simp] theorem ag193 : isAggA Tryz.prog 193 = some false := by kernel_rfl
@[simp] theorem ze193 : zeroA Tryz.prog 193 = some (.nilFunc) := by kernel_rfl
@[simp] theorem sz194 : szA Tryz.prog 194 = some 1 := by kernel_rfl
@[simp] theorem ag194 : isAggA Tryz.prog 194 = some false := by kernel_rfl
@[simp] theorem ze194 : zeroA Tryz.prog 194 = some (.nilFunc) := by kernel_rfl
@[simp] theorem sz195 : szA Tryz.prog 195 = some 1 := by kernel_rfl
@[simp] theorem ag195 : isAggA Tryz.prog 195 = some false := by kernel_rfl
@[simp] theorem ze195 : zeroA Tryz.prog 195 = some (.nilFunc) := by kernel_rfl
@[simp] theorem sz196 : szA Tryz.prog 196 = some 1 := by kernel_rfl
@[simp] theorem ag196 : isAggA Tryz.prog 196 = some false := by kernel_rfl
@[simp] theorem ze196 : zeroA Tryz.prog 196 = some (.nilFunc) := by kernel_rfl
@[simp] theorem sz197 : szA Tryz.prog 197 = some 1 := by kernel_rfl
@[simp] theorem ag197 : isAggA Tryz.prog 197 = some false := by kernel_rfl
@[simp] theorem ze197 : zeroA Tryz.prog 197 = some (.nilFunc) := by kernel_rfl
@[simp] theorem sz198 : szA Tryz.prog 198 = some 1 := by kernel_rfl
@[simp] theorem ag198 : isAggA Tryz.prog 198 = some false := by kernel_rfl
@[simp] theorem ze198 : zeroA Tryz.prog 198 = some (.nilFunc) := by kernel_rfl
@[simp] theorem sz199 : szA Tryz.prog 199 = some 1 := by kernel_rfl
@[simp] theorem ag199 : isAggA Tryz.prog 199 = some false := by kernel_rfl
@[simp] theorem ze199 : zeroA Tryz.prog 199 = some (.nilFunc) := by kernel_rfl
@[simp] theorem sz200 : szA Tryz.prog 200 = some 1 := by kernel_rfl
@[simp] theorem ag200 : isAggA Tryz.prog 200 = some false := by kernel_rfl
@[simp] theorem ze200 : zeroA Tryz.prog 200 = some (.nilFunc) := by kernel_rfl
@[simp] theorem sz201 : szA Tryz.prog 201 = some 1 := by kernel_rfl
@[simp] theorem ag201 : isAggA Tryz.prog 201 = some false := by kernel_rfl
@[simp] theorem ze201 : zeroA Tryz.prog 201 = some (.pointer none) := by kernel_rfl
@[simp] theorem sz202 : szA Tryz.prog 202 = some 1 := by kernel_rfl
@[simp] theorem ag202 : isAggA Tryz.prog 202 = some false := by kernel_rfl
@[simp] theorem ze202 : zeroA Tryz.prog 202 = some (.pointer none) := by kernel_rfl
@[simp] theorem sz203 : szA Tryz.prog 203 = some 1 := by kernel_rfl
@[simp] theorem ag203 : isAggA Tryz.prog 203 = some false := by kernel_rfl
@[simp] theorem ze203 : zeroA Tryz.prog 203 = some (.nilFunc) := by kernel_rfl
@[simp] theorem sz204 : szA Tryz.prog 204 = some 1 := by kernel_rfl
@[simp] theorem ag204 : isAggA Tryz.prog 204 = some false := by kernel_rfl
@[simp] theorem ze204 : zeroA Tryz.prog 204 = some (.nilFunc) := by kernel_rfl
@[simp] theorem sz205 : szA Tryz.prog 205 = some 1 := by kernel_rfl
@[simp] theorem ag205 : isAggA Tryz.prog 205 = some false := by kernel_rfl
@[simp] theorem ze205 : zeroA Tryz.prog 205 = some (.nilFunc) := by kernel_rfl
@[simp] theorem sz206 : szA Tryz.prog 206 = some 1 := by kernel_rfl
@[simp] theorem ag206 : isAggA Tryz.prog 206 = some false := by kernel_rfl
@[simp] theorem ze206 : zeroA Tryz.prog 206 = some (.nilFunc) := by kernel_rfl
@[simp] theorem sz207 : szA Tryz.prog 207 = some 1 := by kernel_rfl
@[simp] theorem ag207 : isAggA Tryz.prog 207 = some false := by kernel_rfl
@[simp] theorem ze207 : zeroA Tryz.prog 207 = some (.slice none 0 0) := by kernel_rfl
@[simp] theorem sz208 : szA Tryz.prog 208 = some 1 := by kernel_rfl
@[simp] theorem ag208 : isAggA Tryz.prog 208 = some false := by kernel_rfl
@[simp] theorem ze208 : zeroA Tryz.prog 208 = some (.nilFunc) := by kernel_rfl
@[simp] theorem sz209 : szA Tryz.prog 209 = some 1 := by kernel_rfl
@[simp] theorem ag209 : isAggA Tryz.prog 209 = some false := by kernel_rfl
@[simp] theorem ze209 : zeroA Tryz.prog 209 = some (.nilFunc) := by kernel_rfl
@[simp] theorem sz210 : szA Tryz.prog 210 = some 1 := by kernel_rfl
@[simp] theorem ag210 : isAggA Tryz.prog 210 = some false := by kernel_rfl
@[simp] theorem ze210 : zeroA Tryz.prog 210 = some (.nilFunc) := by kernel_rfl
@[simp] theorem sz211 : szA Tryz.prog 211 = some 1 := by kernel_rfl
@[simp] theorem ag211 : isAggA Tryz.prog 211 = some false := by kernel_rfl
@[simp] theorem ze211 : zeroA Tryz.prog 211 = some (.nilFunc) := by kernel_rfl
@[simp] theorem sz212 : szA Tryz.prog 212 = some 1 := by kernel_rfl
@[simp] theorem ag212 : isAggA Tryz.prog 212 = some false := by kernel_rfl
@[simp] theorem ze212 : zeroA Tryz.prog 212 = some (.nilFunc) := by kernel_rfl
@[simp] theorem sz213 : szA Tryz.prog 213 = some 1 := by kernel_rfl
@[simp] theorem ag213 : isAggA Tryz.prog 213 = some false := by kernel_rfl
@[simp] theorem ze213 : zeroA Tryz.prog 213 = some (.nilFunc) := by kernel_rfl
@[simp] theorem sz214 : szA Tryz.prog 214 = some 1 := by kernel_rfl
@[simp] theorem ag214 : isAggA Tryz.prog 214 = some false := by kernel_rfl
@[simp] theorem ze214 : zeroA Tryz.prog 214 = some (.nilFunc) := by kernel_rfl
@[simp] theorem sz215 : szA Tryz.prog 215 = some 1 := by kernel_rfl
@[simp] theorem ag215 : isAggA Tryz.prog 215 = some false := by kernel_rfl
@[simp] theorem ze215 : zeroA Tryz.prog 215 = some (.nilFunc) := by kernel_rfl
@[simp] theorem sz216 : szA Tryz.prog 216 = some 1 := by kernel_rfl
@[simp] theorem ag216 : isAggA Tryz.prog 216 = some false := by kernel_rfl
@[simp] theorem ze216 : zeroA Tryz.prog 216 = some (.nilFunc) := by kernel_rfl
@[simp] theorem sz217 : szA Tryz.prog 217 = some 1 := by kernel_rfl
@[simp] theorem ag217 : isAggA Tryz.prog 217 = some false := by kernel_rfl
@[simp] theorem ze217 : zeroA Tryz.prog 217 = some (.nilFunc) := by kernel_rfl
@[simp] theorem sz218 : szA Tryz.prog 218 = some 1 := by kernel_rfl
@[simp] theorem ag218 : isAggA Tryz.prog 218 = some false := by kernel_rfl
@[simp] theorem ze218 : zeroA Tryz.prog 218 = some (.slice none 0 0) := by kernel_rfl
@[simp] theorem sz219 : szA Tryz.prog 219 = some 3 := by kernel_rfl
@[simp] theorem ag219 : isAggA Tryz.prog 219 = some true := by kernel_rfl
@[simp] theorem ze219 : zeroA Tryz.prog 219 = some (.agg #[.int .i64 (0), .int .i64 (0), .int .i64 (0)]) := by kernel_rfl
@[simp] theorem sz220 : szA Tryz.prog 220 = some 3 := by kernel_rfl
@[simp] theorem ag220 : isAggA Tryz.prog 220 = some true := by kernel_rfl
@[simp] theorem ze220 : zeroA Tryz.prog 220 = some (.agg #[.int .i64 (0), .int .i64 (0), .int .i64 (0)]) := by kernel_rfl
@[simp] theorem sz221 : szA Tryz.prog 221 = some 1 := by kernel_rfl
@[simp] theorem ag221 : isAggA Tryz.prog 221 = some false := by kernel_rfl
@[simp] theorem ze221 : zeroA Tryz.prog 221 = some (.nilFunc) := by kernel_rfl
@[simp] theorem sz222 : szA Tryz.prog 222 = some 1 := by kernel_rfl
@[simp] theorem ag222 : isAggA Tryz.prog 222 = some false := by kernel_rfl
@[simp] theorem ze222 : zeroA Tryz.prog 222 = some (.nilFunc) := by kernel_rfl
@[simp] theorem sz223 : szA Tryz.prog 223 = some 1 := by kernel_rfl
@[simp] theorem ag223 : isAggA Tryz.prog 223 = some false := by kernel_rfl
@[simp] theorem ze223 : zeroA Tryz.prog 223 = some (.nilFunc) := by kernel_rfl
@[simp] theorem sz224 : szA Tryz.prog 224 = some 1 := by kernel_rfl
@[simp] theorem ag224 : isAggA Tryz.prog 224 = some false := by kernel_rfl
@[simp] theorem ze224 : zeroA Tryz.prog 224 = some (.nilFunc) := by kernel_rfl
@[simp] theorem sz225 : szA Tryz.prog 225 = some 1 := by kernel_rfl
@[simp] theorem ag225 : isAggA Tryz.prog 225 = some false := by kernel_rfl
@[simp] theorem ze225 : zeroA Tryz.prog 225 = some (.nilFunc) := by kernel_rfl
@[simp] theorem sz226 : szA Tryz.prog 226 = some 1 := by kernel_rfl
@[simp] theorem ag226 : isAggA Tryz.prog 226 = some false := by kernel_rfl
@[simp] theorem ze226 : zeroA Tryz.prog 226 = some (.nilFunc) := by kernel_rfl
@[simp] theorem sz227 : szA Tryz.prog 227 = some 1 := by kernel_rfl
@[simp] theorem ag227 : isAggA Tryz.prog 227 = some false := by kernel_rfl
@[simp] theorem ze227 : zeroA Tryz.prog 227 = some (.nilFunc) := by kernel_rfl
@[simp] theorem sz228 : szA Tryz.prog 228 = some 1 := by kernel_rfl
@[simp] theorem ag228 : isAggA Tryz.prog 228 = some false := by kernel_rfl
@[simp] theorem ze228 : zeroA Tryz.prog 228 = some (.nilFunc) := by kernel_rfl
@[simp] theorem sz229 : szA Tryz.prog 229 = some 1 := by kernel_rfl
@[simp] theorem ag229 : isAggA Tryz.prog 229 = some false := by kernel_rfl
@[simp] theorem ze229 : zeroA Tryz.prog 229 = some (.nilFunc) := by kernel_rfl
@[simp] theorem sz230 : szA Tryz.prog 230 = some 1 := by kernel_rfl
@[simp] theorem ag230 : isAggA Tryz.prog 230 = some false := by kernel_rfl
@[simp] theorem ze230 : zeroA Tryz.prog 230 = some (.nilFunc) := by kernel_rfl
@[simp] theorem sz231 : szA Tryz.prog 231 = some 1 := by kernel_rfl
@[simp] theorem ag231 : isAggA Tryz.prog 231 = some false := by kernel_rfl
@[simp] theorem ze231 : zeroA Tryz.prog 231 = some (.nilFunc) := by kernel_rfl
@[simp] theorem sz232 : szA Tryz.prog 232 = some 1 := by kernel_rfl
@[simp] theorem ag232 : isAggA Tryz.prog 232 = some false := by kernel_rfl
@[simp] theorem ze232 : zeroA Tryz.prog 232 = some (.tuple #[.string ⟨#[]⟩, .bool false]) := by kernel_rfl
@[simp] theorem sz233 : szA Tryz.prog 233 = some 1 := by kernel_rfl
@[simp] theorem ag233 : isAggA Tryz.prog 233 = some false := by kernel_rfl
@[simp] theorem ze233 : zeroA Tryz.prog 233 = some (.nilFunc) := by kernel_rfl
@[simp] theorem sz234 : szA Tryz.prog 234 = some 1 := by kernel_rfl
@[simp] theorem ag234 : isAggA Tryz.prog 234 = some false := by kernel_rfl
@[simp] theorem ze234 : zeroA Tryz.prog 234 = some (.tuple #[.slice none 0 0, .bool false]) := by kernel_rfl
@[simp] theorem sz235 : szA Tryz.prog 235 = some 1 := by kernel_rfl
@[simp] theorem ag235 : isAggA Tryz.prog 235 = some false := by kernel_rfl
@[simp] theorem ze235 : zeroA Tryz.prog 235 = some (.nilFunc) := by kernel_rfl
@[simp] theorem sz236 : szA Tryz.prog 236 = some 1 := by kernel_rfl
@[simp] theorem ag236 : isAggA Tryz.prog 236 = some false := by kernel_rfl
@[simp] theorem ze236 : zeroA Tryz.prog 236 = some (.tuple #[.slice none 0 0, .bool false]) := by kernel_rfl
@[simp] theorem sz237 : szA Tryz.prog 237 = some 1 := by kernel_rfl
@[simp] theorem ag237 : isAggA Tryz.prog 237 = some false := by kernel_rfl
@[simp] theorem ze237 : zeroA Tryz.prog 237 = some (.nilFunc) := by kernel_rfl
@[simp] theorem sz238 : szA Tryz.prog 238 = some 1 := by kernel_rfl
@[simp] theorem ag238 : isAggA Tryz.prog 238 = some false := by kernel_rfl
@[simp] theorem ze238 : zeroA Tryz.prog 238 = some (.nilFunc) := by kernel_rfl
@[simp] theorem sz239 : szA Tryz.prog 239 = some 1 := by kernel_rfl
@[simp] theorem ag239 : isAggA Tryz.prog 239 = some false := by kernel_rfl
@[simp] theorem ze239 : zeroA Tryz.prog 239 = some (.nilFunc) := by kernel_rfl
@[simp] theorem sz240 : szA Tryz.prog 240 = some 1 := by kernel_rfl
@[simp] theorem ag240 : isAggA Tryz.prog 240 = some false := by kernel_rfl
@[simp] theorem ze240 : zeroA Tryz.prog 240 = some (.nilFunc) := by kernel_rfl
@[simp] theorem sz241 : szA Tryz.prog 241 = some 1 := by kernel_rfl
@[simp] theorem ag241 : isAggA Tryz.prog 241 = some false := by kernel_rfl
@[simp] theorem ze241 : zeroA Tryz.prog 241 = some (.nilFunc) := by kernel_rfl
@[simp] theorem sz242 : szA Tryz.prog 242 = some 1 := by kernel_rfl
@[simp] theorem ag242 : isAggA Tryz.prog 242 = some false := by kernel_rfl
@[simp] theorem ze242 : zeroA Tryz.prog 242 = some (.nilFunc) := by kernel_rfl
@[simp] theorem sz243 : szA Tryz.prog 243 = some 1 := by kernel_rfl
@[simp] theorem ag243 : isAggA Tryz.prog 243 = some false := by kernel_rfl
@[simp] theorem ze243 : zeroA Tryz.prog 243 = some (.nilFunc) := by kernel_rfl
@[simp] theorem sz244 : szA Tryz.prog 244 = some 1 := by kernel_rfl
@[simp] theorem ag244 : isAggA Tryz.prog 244 = some false := by kernel_rfl
@[simp] theorem ze244 : zeroA Tryz.prog 244 = some (.nilFunc) := by kernel_rfl
@[simp] theorem sz245 : szA Tryz.prog 245 = some 1 := by kernel_rfl
@[simp] theorem ag245 : isAggA Tryz.prog 245 = some false := by kernel_rfl
@[simp] theorem ze245 : zeroA Tryz.prog 245 = some (.nilFunc) := by kernel_rfl
@[simp] theorem sz246 : szA Tryz.prog 246 = some 1 := by kernel_rfl
@[simp] theorem ag246 : isAggA Tryz.prog 246 = some false := by kernel_rfl
@[simp] theorem ze246 : zeroA Tryz.prog 246 = some (.nilFunc) := by kernel_rfl
@[simp] theorem sz247 : szA Tryz.prog 247 = some 1 := by kernel_rfl
@[simp] theorem ag247 : isAggA Tryz.prog 247 = some false := by kernel_rfl
@[simp] theorem ze247 : zeroA Tryz.prog 247 = some (.nilFunc) := by kernel_rfl
@[simp] theorem sz248 : szA Tryz.prog 248 = some 1 := by kernel_rfl
@[simp] theorem ag248 : isAggA Tryz.prog 248 = some false := by kernel_rfl
@[simp] theorem ze248 : zeroA Tryz.prog 248 = some (.nilFunc) := by kernel_rfl
@[simp] theorem sz249 : szA Tryz.prog 249 = some 1 := by kernel_rfl
@[simp] theorem ag249 : isAggA Tryz.prog 249 = some false := by kernel_rfl
@[simp] theorem ze249 : zeroA Tryz.prog 249 = some (.nilFunc) := by kernel_rfl
@[simp] theorem sz250 : szA Tryz.prog 250 = some 1 := by kernel_rfl
@[simp] theorem ag250 : isAggA Tryz.prog 250 = some false := by kernel_rfl
@[simp] theorem ze250 : zeroA Tryz.prog 250 = some (.nilFunc) := by kernel_rfl
@[simp] theorem sz251 : szA Tryz.prog 251 = some 1 := by kernel_rfl
@[simp] theorem ag251 : isAggA Tryz.prog 251 = some false := by kernel_rfl
@[simp] theorem ze251 : zeroA Tryz.prog 251 = some (.nilFunc) := by kernel_rfl
@[simp] theorem sz252 : szA Tryz.prog 252 = some 1 := by kernel_rfl
@[simp] theorem ag252 : isAggA Tryz.prog 252 = some false := by kernel_rfl
@[simp] theorem ze252 : zeroA Tryz.prog 252 = some (.nilFunc) := by kernel_rfl
@[simp] theorem sz253 : szA Tryz.prog 253 = some 1 := by kernel_rfl
@[simp] theorem ag253 : isAggA Tryz.prog 253 = some false := by kernel_rfl
@[simp] theorem ze253 : zeroA Tryz.prog 253 = some (.nilFunc) := by kernel_rfl
@[simp] theorem sz254 : szA Tryz.prog 254 = some 1 := by kernel_rfl
@[simp] theorem ag254 : isAggA Tryz.prog 254 = some false := by kernel_rfl
@[simp] theorem ze254 : zeroA Tryz.prog 254 = some (.nilFunc) := by kernel_rfl
@[simp] theorem sz255 : szA Tryz.prog 255 = some 1 := by kernel_rfl
@[simp] theorem ag255 : isAggA Tryz.prog 255 = some false := by kernel_rfl
@[simp] theorem ze255 : zeroA Tryz.prog 255 = some (.nilFunc) := by kernel_rfl
@[simp] theorem sz256 : szA Tryz.prog 256 = some 1 := by kernel_rfl
@[simp] theorem ag256 : isAggA Tryz.prog 256 = some false := by kernel_rfl
@[simp] theorem ze256 : zeroA Tryz.prog 256 = some (.nilFunc) := by kernel_rfl
@[simp] theorem sz257 : szA Tryz.prog 257 = some 1 := by kernel_rfl
@[simp] theorem ag257 : isAggA Tryz.prog 257 = some false := by kernel_rfl
@[simp] theorem ze257 : zeroA Tryz.prog 257 = some (.int .u64 (0)) := by kernel_rfl
@[simp] theorem sz258 : szA Tryz.prog 258 = some 1 := by kernel_rfl
@[simp] theorem ag258 : isAggA Tryz.prog 258 = some false := by kernel_rfl
@[simp] theorem ze258 : zeroA Tryz.prog 258 = some (.nilFunc) := by kernel_rfl
@[simp] theorem sz259 : szA Tryz.prog 259 = some 1 := by kernel_rfl
@[simp] theorem ag259 : isAggA Tryz.prog 259 = some false := by kernel_rfl
@[simp] theorem ze259 : zeroA Tryz.prog 259 = some (.nilFunc) := by kernel_rfl
@[simp] theorem sz260 : szA Tryz.prog 260 = some 1 := by kernel_rfl
@[simp] theorem ag260 : isAggA Tryz.prog 260 = some false := by kernel_rfl
@[simp] theorem ze260 : zeroA Tryz.prog 260 = some (.pointer none) := by kernel_rfl
@[simp] theorem sz261 : szA Tryz.prog 261 = some 2 := by kernel_rfl
@[simp] theorem ag261 : isAggA Tryz.prog 261 = some true := by kernel_rfl
@[simp] theorem ze261 : zeroA Tryz.prog 261 = some (.agg #[.pointer none, .slice none 0 0]) := by kernel_rfl
@[simp] theorem sz262 : szA Tryz.prog 262 = some 2 := by kernel_rfl
@[simp] theorem ag262 : isAggA Tryz.prog 262 = some true := by kernel_rfl
@[simp] theorem ze262 : zeroA Tryz.prog 262 = some (.agg #[.pointer none, .slice none 0 0]) := by kernel_rfl
@[simp] theorem sz263 : szA Tryz.prog 263 = some 1 := by kernel_rfl
@[simp] theorem ag263 : isAggA Tryz.prog 263 = some false := by kernel_rfl
@[simp] theorem ze263 : zeroA Tryz.prog 263 = some (.nilFunc) := by kernel_rfl
@[simp] theorem sz264 : szA Tryz.prog 264 = some 1 := by kernel_rfl
@[simp] theorem ag264 : isAggA Tryz.prog 264 = some false := by kernel_rfl
@[simp] theorem ze264 : zeroA Tryz.prog 264 = some (.nilIface) := by kernel_rfl
@[simp] theorem sz265 : szA Tryz.prog 265 = some 1 := by kernel_rfl
@[simp] theorem ag265 : isAggA Tryz.prog 265 = some false := by kernel_rfl
@[simp] theorem ze265 : zeroA Tryz.prog 265 = some (.nilIface) := by kernel_rfl
@[simp] theorem sz266 : szA Tryz.prog 266 = some 1 := by kernel_rfl
@[simp] theorem ag266 : isAggA Tryz.prog 266 = some false := by kernel_rfl
@[simp] theorem ze266 : zeroA Tryz.prog 266 = some (.tuple #[.int .i64 (0), .nilIface]) := by kernel_rfl
@[simp] theorem sz267 : szA Tryz.prog 267 = some 1 := by kernel_rfl
@[simp] theorem ag267 : isAggA Tryz.prog 267 = some false := by kernel_rfl
@[simp] theorem ze267 : zeroA Tryz.prog 267 = some (.nilFunc) := by kernel_rfl
@[simp] theorem sz268 : szA Tryz.prog 268 = some 1 := by kernel_rfl
@[simp] theorem ag268 : isAggA Tryz.prog 268 = some false := by kernel_rfl
@[simp] theorem ze268 : zeroA Tryz.prog 268 = some (.nilFunc) := by kernel_rfl
@[simp] theorem sz269 : szA Tryz.prog 269 = some 1 := by kernel_rfl
@[simp] theorem ag269 : isAggA Tryz.prog 269 = some false := by kernel_rfl
@[simp] theorem ze269 : zeroA Tryz.prog 269 = some (.nilFunc) := by kernel_rfl
@[simp] theorem sz270 : szA Tryz.prog 270 = some 2 := by kernel_rfl
@[simp] theorem ag270 : isAggA Tryz.prog 270 = some true := by kernel_rfl
@[simp] theorem ze270 : zeroA Tryz.prog 270 = some (.agg #[.string ⟨#[]⟩, .nilFunc]) := by kernel_rfl
@[simp] theorem sz271 : szA Tryz.prog 271 = some 2 := by kernel_rfl
@[simp] theorem ag271 : isAggA Tryz.prog 271 = some true := by kernel_rfl
@[simp] theorem ze271 : zeroA Tryz.prog 271 = some (.agg #[.string ⟨#[]⟩, .nilFunc]) := by kernel_rfl
@[simp] theorem sz272 : szA Tryz.prog 272 = some 4 := by kernel_rfl
@[simp] theorem ag272 : isAggA Tryz.prog 272 = some true := by kernel_rfl
@[simp] theorem ze272 : zeroA Tryz.prog 272 = some (.agg #[.string ⟨#[]⟩, .nilFunc, .string ⟨#[]⟩, .nilFunc]) := by kernel_rfl
@[simp] theorem sz273 : szA Tryz.prog 273 = some 1 := by kernel_rfl
@[simp] theorem ag273 : isAggA Tryz.prog 273 = some false := by kernel_rfl
@[simp] theorem ze273 : zeroA Tryz.prog 273 = some (.nilFunc) := by kernel_rfl
@[simp] theorem sz274 : szA Tryz.prog 274 = some 1 := by kernel_rfl
@[simp] theorem ag274 : isAggA Tryz.prog 274 = some false := by kernel_rfl
@[simp] theorem ze274 : zeroA Tryz.prog 274 = some (.nilFunc) := by kernel_rfl
@[simp] theorem sz275 : szA Tryz.prog 275 = some 1 := by kernel_rfl
@[simp] theorem ag275 : isAggA Tryz.prog 275 = some false := by kernel_rfl
@[simp] theorem ze275 : zeroA Tryz.prog 275 = some (.slice none 0 0) := by kernel_rfl
@[simp] theorem sz276 : szA Tryz.prog 276 = some 1 := by kernel_rfl
@[simp] theorem ag276 : isAggA Tryz.prog 276 = some false := by kernel_rfl
@[simp] theorem ze276 : zeroA Tryz.prog 276 = some (.nilFunc) := by kernel_rfl
@[simp] theorem sz277 : szA Tryz.prog 277 = some 1 := by kernel_rfl
@[simp] theorem ag277 : isAggA Tryz.prog 277 = some false := by kernel_rfl
@[simp] theorem ze277 : zeroA Tryz.prog 277 = some (.nilFunc) := by kernel_rfl
@[simp] theorem sz278 : szA Tryz.prog 278 = some 1 := by kernel_rfl
@[simp] theorem ag278 : isAggA Tryz.prog 278 = some false := by kernel_rfl
@[simp] theorem ze278 : zeroA Tryz.prog 278 = some (.nilFunc) := by kernel_rfl
@[simp] theorem sz279 : szA Tryz.prog 279 = some 1 := by kernel_rfl
@[simp] theorem ag279 : isAggA Tryz.prog 279 = some false := by kernel_rfl
@[simp] theorem ze279 : zeroA Tryz.prog 279 = some (.pointer none) := by kernel_rfl
@[simp] theorem sz280 : szA Tryz.prog 280 = some 1 := by kernel_rfl
@[simp] theorem ag280 : isAggA Tryz.prog 280 = some false := by kernel_rfl
@[simp] theorem ze280 : zeroA Tryz.prog 280 = some (.nilFunc) := by kernel_rfl
@[simp] theorem sz281 : szA Tryz.prog 281 = some 2 := by kernel_rfl
@[simp] theorem ag281 : isAggA Tryz.prog 281 = some true := by kernel_rfl
@[simp] theorem ze281 : zeroA Tryz.prog 281 = some (.agg #[.slice none 0 0, .bool false]) := by kernel_rfl
@[simp] theorem sz282 : szA Tryz.prog 282 = some 2 := by kernel_rfl
@[simp] theorem ag282 : isAggA Tryz.prog 282 = some true := by kernel_rfl
@[simp] theorem ze282 : zeroA Tryz.prog 282 = some (.agg #[.slice none 0 0, .bool false]) := by kernel_rfl
@[simp] theorem sz283 : szA Tryz.prog 283 = some 1 := by kernel_rfl
@[simp] theorem ag283 : isAggA Tryz.prog 283 = some false := by kernel_rfl
@[simp] theorem ze283 : zeroA Tryz.prog 283 = some (.tuple #[.int .i64 (0), .bool false]) := by kernel_rfl
@[simp] theorem sz284 : szA Tryz.prog 284 = some 1 := by kernel_rfl
@[simp] theorem ag284 : isAggA Tryz.prog 284 = some false := by kernel_rfl
@[simp] theorem ze284 : zeroA Tryz.prog 284 = some (.nilFunc) := by kernel_rfl
@[simp] theorem sz285 : szA Tryz.prog 285 = some 1 := by kernel_rfl
@[simp] theorem ag285 : isAggA Tryz.prog 285 = some false := by kernel_rfl
@[simp] theorem ze285 : zeroA Tryz.prog 285 = some (.nilFunc) := by kernel_rfl
@[simp] theorem sz286 : szA Tryz.prog 286 = some 1 := by kernel_rfl
@[simp] theorem ag286 : isAggA Tryz.prog 286 = some false := by kernel_rfl
@[simp] theorem ze286 : zeroA Tryz.prog 286 = some (.nilFunc) := by kernel_rfl
@[simp] theorem sz287 : szA Tryz.prog 287 = some 1 := by kernel_rfl
@[simp] theorem ag287 : isAggA Tryz.prog 287 = some false := by kernel_rfl
@[simp] theorem ze287 : zeroA Tryz.prog 287 = some (.nilFunc) := by kernel_rfl
@[simp] theorem sz288 : szA Tryz.prog 288 = some 1 := by kernel_rfl
@[simp] theorem ag288 : isAggA Tryz.prog 288 = some false := by kernel_rfl
@[simp] theorem ze288 : zeroA Tryz.prog 288 = some (.nilFunc) := by kernel_rfl
@[simp] theorem sz289 : szA Tryz.prog 289 = some 1 := by kernel_rfl
@[simp] theorem ag289 : isAggA Tryz.prog 289 = some false := by kernel_rfl
@[simp] theorem ze289 : zeroA Tryz.prog 289 = some (.int .i64 (0)) := by kernel_rfl
@[simp] theorem sz290 : szA Tryz.prog 290 = some 1 := by kernel_rfl
@[simp] theorem ag290 : isAggA Tryz.prog 290 = some false := by kernel_rfl
@[simp] theorem ze290 : zeroA Tryz.prog 290 = some (.tuple #[.int .i64 (0), .int .i64 (0)]) := by kernel_rfl
@[simp] theorem sz291 : szA Tryz.prog 291 = some 1 := by kernel_rfl
@[simp] theorem ag291 : isAggA Tryz.prog 291 = some false := by kernel_rfl
@[simp] theorem ze291 : zeroA Tryz.prog 291 = some (.nilFunc) := by kernel_rfl
@[simp] theorem sz292 : szA Tryz.prog 292 = some 1 := by kernel_rfl
@[simp] theorem ag292 : isAggA Tryz.prog 292 = some false := by kernel_rfl
@[simp] theorem ze292 : zeroA Tryz.prog 292 = some (.nilFunc) := by kernel_rfl
@[simp] theorem sz293 : szA Tryz.prog 293 = some 1 := by kernel_rfl
@[simp] theorem ag293 : isAggA Tryz.prog 293 = some false := by kernel_rfl
@[simp] theorem ze293 : zeroA Tryz.prog 293 = some (.nilFunc) := by kernel_rfl
@[simp] theorem sz294 : szA Tryz.prog 294 = some 1 := by kernel_rfl
@[simp] theorem ag294 : isAggA Tryz.prog 294 = some false := by kernel_rfl
@[simp] theorem ze294 : zeroA Tryz.prog 294 = some (.nilFunc) := by kernel_rfl
@[simp] theorem sz295 : szA Tryz.prog 295 = some 1 := by kernel_rfl
@[simp] theorem ag295 : isAggA Tryz.prog 295 = some false := by kernel_rfl
@[simp] theorem ze295 : zeroA Tryz.prog 295 = some (.nilFunc) := by kernel_rfl
@[simp] theorem sz296 : szA Tryz.prog 296 = some 1 := by kernel_rfl
@[simp] theorem ag296 : isAggA Tryz.prog 296 = some false := by kernel_rfl
@[simp] theorem ze296 : zeroA Tryz.prog 296 = some (.int .u32 (0)) := by kernel_rfl
@[simp] theorem sz297 : szA Tryz.prog 297 = some 1 := by kernel_rfl
@[simp] theorem ag297 : isAggA Tryz.prog 297 = some false := by kernel_rfl
@[simp] theorem ze297 : zeroA Tryz.prog 297 = some (.nilFunc) := by kernel_rfl
@[simp] theorem sz298 : szA Tryz.prog 298 = some 1 := by kernel_rfl
@[simp] theorem ag298 : isAggA Tryz.prog 298 = some false := by kernel_rfl
@[simp] theorem ze298 : zeroA Tryz.prog 298 = some (.int .u64 (0)) := by kernel_rfl
@[simp] theorem sz299 : szA Tryz.prog 299 = some 1 := by kernel_rfl
@[simp] theorem ag299 : isAggA Tryz.prog 299 = some false := by kernel_rfl
@[simp] theorem ze299 : zeroA Tryz.prog 299 = some (.pointer none) := by kernel_rfl
@[simp] theorem sz300 : szA Tryz.prog 300 = some 1 := by kernel_rfl
@[simp] theorem ag300 : isAggA Tryz.prog 300 = some false := by kernel_rfl
@[simp] theorem ze300 : zeroA Tryz.prog 300 = some (.nilFunc) := by kernel_rfl
@[simp] theorem sz301 : szA Tryz.prog 301 = some 1 := by kernel_rfl
@[simp] theorem ag301 : isAggA Tryz.prog 301 = some false := by kernel_rfl
@[simp] theorem ze301 : zeroA Tryz.prog 301 = some (.nilFunc) := by kernel_rfl
@[simp] theorem sz302 : szA Tryz.prog 302 = some 1 := by kernel_rfl
@[simp] theorem ag302 : isAggA Tryz.prog 302 = some false := by kernel_rfl
@[simp] theorem ze302 : zeroA Tryz.prog 302 = some (.pointer none) := by kernel_rfl
@[simp] theorem sz303 : szA Tryz.prog 303 = some 1 := by kernel_rfl
@[simp] theorem ag303 : isAggA Tryz.prog 303 = some false := by kernel_rfl
@[simp] theorem ze303 : zeroA Tryz.prog 303 = some (.nilFunc) := by kernel_rfl
@[simp] theorem sz304 : szA Tryz.prog 304 = some 1 := by kernel_rfl
@[simp] theorem ag304 : isAggA Tryz.prog 304 = some false := by kernel_rfl
@[simp] theorem ze304 : zeroA Tryz.prog 304 = some (.nilFunc) := by kernel_rfl
@[simp] theorem sz305 : szA Tryz.prog 305 = some 1 := by kernel_rfl
@[simp] theorem ag305 : isAggA Tryz.prog 305 = some false := by kernel_rfl
@[simp] theorem ze305 : zeroA Tryz.prog 305 = some (.int .u64 (0)) := by kernel_rfl
@[simp] theorem sz306 : szA Tryz.prog 306 = some 1 := by kernel_rfl
@[simp] theorem ag306 : isAggA Tryz.prog 306 = some false := by kernel_rfl
@[simp] theorem ze306 : zeroA Tryz.prog 306 = some (.nilFunc) := by kernel_rfl
@[simp] theorem sz307 : szA Tryz.prog 307 = some 1 := by kernel_rfl
@[simp] theorem ag307 : isAggA Tryz.prog 307 = some false := by kernel_rfl
@[simp] theorem ze307 : zeroA Tryz.prog 307 = some (.nilFunc) := by kernel_rfl
@[simp] theorem sz308 : szA Tryz.prog 308 = some 1 := by kernel_rfl
@[simp] theorem ag308 : isAggA Tryz.prog 308 = some false := by kernel_rfl
@[simp] theorem ze308 : zeroA Tryz.prog 308 = some (.nilFunc) := by kernel_rfl
@[simp] theorem sz309 : szA Tryz.prog 309 = some 1 := by kernel_rfl
@[simp] theorem ag309 : isAggA Tryz.prog 309 = some false := by kernel_rfl
@[simp] theorem ze309 : zeroA Tryz.prog 309 = some (.pointer none) := by kernel_rfl
@[simp] theorem sz310 : szA Tryz.prog 310 = some 1 := by kernel_rfl
@[simp] theorem ag310 : isAggA Tryz.prog 310 = some false := by kernel_rfl
@[simp] theorem ze310 : zeroA Tryz.prog 310 = some (.nilFunc) := by kernel_rfl
@[simp] theorem sz311 : szA Tryz.prog 311 = some 1 := by kernel_rfl
@[simp] theorem ag311 : isAggA Tryz.prog 311 = some false := by kernel_rfl
@[simp] theorem ze311 : zeroA Tryz.prog 311 = some (.pointer none) := by kernel_rfl
@[simp] theorem sz312 : szA Tryz.prog 312 = some 1 := by kernel_rfl
@[simp] theorem ag312 : isAggA Tryz.prog 312 = some false := by kernel_rfl
@[simp] theorem ze312 : zeroA Tryz.prog 312 = some (.nilFunc) := by kernel_rfl
@[simp] theorem sz313 : szA Tryz.prog 313 = some 1 := by kernel_rfl
@[simp] theorem ag313 : isAggA Tryz.prog 313 = some false := by kernel_rfl
@[simp] theorem ze313 : zeroA Tryz.prog 313 = some (.nilFunc) := by kernel_rfl
@[simp] theorem sz314 : szA Tryz.prog 314 = some 1 := by kernel_rfl
@[simp] theorem ag314 : isAggA Tryz.prog 314 = some false := by kernel_rfl
@[simp] theorem ze314 : zeroA Tryz.prog 314 = some (.nilFunc) := by kernel_rfl
@[simp] theorem sz315 : szA Tryz.prog 315 = some 1 := by kernel_rfl
@[simp] theorem ag315 : isAggA Tryz.prog 315 = some false := by kernel_rfl
@[simp] theorem ze315 : zeroA Tryz.prog 315 = some (.nilFunc) := by kernel_rfl
@[simp] theorem sz316 : szA Tryz.prog 316 = some 1 := by kernel_rfl
@[simp] theorem ag316 : isAggA Tryz.prog 316 = some false := by kernel_rfl
@[simp] theorem ze316 : zeroA Tryz.prog 316 = some (.nilFunc) := by kernel_rfl
@[simp] theorem sz317 : szA Tryz.prog 317 = some 1 := by kernel_rfl
@[simp] theorem ag317 : isAggA Tryz.prog 317 = some false := by kernel_rfl
@[simp] theorem ze317 : zeroA Tryz.prog 317 = some (.nilFunc) := by kernel_rfl
@[simp] theorem sz318 : szA Tryz.prog 318 = some 1 := by kernel_rfl
@[simp] theorem ag318 : isAggA Tryz.prog 318 = some false := by kernel_rfl
@[simp] theorem ze318 : zeroA Tryz.prog 318 = some (.pointer none) := by kernel_rfl
@[simp] theorem sz319 : szA Tryz.prog 319 = some 1 := by kernel_rfl
@[simp] theorem ag319 : isAggA Tryz.prog 319 = some false := by kernel_rfl
@[simp] theorem ze319 : zeroA Tryz.prog 319 = some (.nilFunc) := by kernel_rfl
@[simp] theorem sz320 : szA Tryz.prog 320 = some 1 := by kernel_rfl
@[simp] theorem ag320 : isAggA Tryz.prog 320 = some false := by kernel_rfl
@[simp] theorem ze320 : zeroA Tryz.prog 320 = some (.nilFunc) := by kernel_rfl
@[simp] theorem sz321 : szA Tryz.prog 321 = some 24 := by kernel_rfl
@[simp] theorem ag321 : isAggA Tryz.prog 321 = some true := by kernel_rfl
@[simp] theorem ze321 : zeroA Tryz.prog 321 = some (.agg #[.int .u8 (0), .int .u8 (0), .int .u8 (0), .int .u8 (0), .int .u8 (0), .int .u8 (0), .int .u8 (0), .int .u8 (0), .int .u8 (0), .int .u8 (0), .int .u8 (0), .int .u8 (0), .int .u8 (0), .int .u8 (0), .int .u8 (0), .int .u8 (0), .int .u8 (0), .int .u8 (0), .int .u8 (0), .int .u8 (0), .int .u8 (0), .int .u8 (0), .int .u8 (0), .int .u8 (0)]) := by kernel_rfl
@[simp] theorem sz322 : szA Tryz.prog 322 = some 1 := by kernel_rfl
@[simp] theorem ag322 : isAggA Tryz.prog 322 = some false := by kernel_rfl
@[simp] theorem ze322 : zeroA Tryz.prog 322 = some (.nilFunc) := by kernel_rfl
@[simp] theorem sz323 : szA Tryz.prog 323 = some 1 := by kernel_rfl
@[simp] theorem ag323 : isAggA Tryz.prog 323 = some false := by kernel_rfl
@[simp] theorem ze323 : zeroA Tryz.prog 323 = some (.tuple #[.slice none 0 0, .string ⟨#[]⟩]) := by kernel_rfl
@[simp] theorem sz324 : szA Tryz.prog 324 = some 1 := by kernel_rfl
@[simp] theorem ag324 : isAggA Tryz.prog 324 = some false := by kernel_rfl
@[simp] theorem ze324 : zeroA Tryz.prog 324 = some (.nilFunc) := by kernel_rfl
@[simp] theorem sz325 : szA Tryz.prog 325 = some 1 := by kernel_rfl
@[simp] theorem ag325 : isAggA Tryz.prog 325 = some false := by kernel_rfl
@[simp] theorem ze325 : zeroA Tryz.prog 325 = some (.tuple #[.int .i32 (0), .int .i64 (0)]) := by kernel_rfl
@[simp] theorem sz326 : szA Tryz.prog 326 = some 1 := by kernel_rfl
@[simp] theorem ag326 : isAggA Tryz.prog 326 = some false := by kernel_rfl
@[simp] theorem ze326 : zeroA Tryz.prog 326 = some (.nilFunc) := by kernel_rfl
@[simp] theorem sz327 : szA Tryz.prog 327 = some 1 := by kernel_rfl
@[simp] theorem ag327 : isAggA Tryz.prog 327 = some false := by kernel_rfl
@[simp] theorem ze327 : zeroA Tryz.prog 327 = some (.int .i64 (0)) := by kernel_rfl
@[simp] theorem sz328 : szA Tryz.prog 328 = some 1 := by kernel_rfl
@[simp] theorem ag328 : isAggA Tryz.prog 328 = some false := by kernel_rfl
@[simp] theorem ze328 : zeroA Tryz.prog 328 = some (.tuple #[.int .i64 (0), .nilIface]) := by kernel_rfl
@[simp] theorem sz329 : szA Tryz.prog 329 = some 1 := by kernel_rfl
@[simp] theorem ag329 : isAggA Tryz.prog 329 = some false := by kernel_rfl
@[simp] theorem ze329 : zeroA Tryz.prog 329 = some (.nilFunc) := by kernel_rfl
@[simp] theorem sz330 : szA Tryz.prog 330 = some 1 := by kernel_rfl
@[simp] theorem ag330 : isAggA Tryz.prog 330 = some false := by kernel_rfl
@[simp] theorem ze330 : zeroA Tryz.prog 330 = some (.pointer none) := by kernel_rfl
@[simp] theorem sz331 : szA Tryz.prog 331 = some 1 := by kernel_rfl
@[simp] theorem ag331 : isAggA Tryz.prog 331 = some false := by kernel_rfl
@[simp] theorem ze331 : zeroA Tryz.prog 331 = some (.nilFunc) := by kernel_rfl
@[simp] theorem sz332 : szA Tryz.prog 332 = some 1 := by kernel_rfl
@[simp] theorem ag332 : isAggA Tryz.prog 332 = some false := by kernel_rfl
@[simp] theorem ze332 : zeroA Tryz.prog 332 = some (.nilFunc) := by kernel_rfl
@[simp] theorem sz333 : szA Tryz.prog 333 = some 1 := by kernel_rfl
@[simp] theorem ag333 : isAggA Tryz.prog 333 = some false := by kernel_rfl
@[simp] theorem ze333 : zeroA Tryz.prog 333 = some (.nilFunc) := by kernel_rfl
@[simp] theorem sz334 : szA Tryz.prog 334 = some 20 := by kernel_rfl
@[simp] theorem ag334 : isAggA Tryz.prog 334 = some true := by kernel_rfl
@[simp] theorem ze334 : zeroA Tryz.prog 334 = some (.agg #[.int .u64 (0), .int .u64 (0), .int .u64 (0), .int .u64 (0), .int .u64 (0), .int .u64 (0), .int .u64 (0), .int .u64 (0), .int .u64 (0), .int .u64 (0), .int .u64 (0), .int .u64 (0), .int .u64 (0), .int .u64 (0), .int .u64 (0), .int .u64 (0), .int .u64 (0), .int .u64 (0), .int .u64 (0), .int .u64 (0)]) := by kernel_rfl
@[simp] theorem sz335 : szA Tryz.prog 335 = some 65 := by kernel_rfl
@[simp] theorem ag335 : isAggA Tryz.prog 335 = some true := by kernel_rfl
@[simp] theorem ze335 : zeroA Tryz.prog 335 = some (.agg #[.int .u8 (0), .int .u8 (0), .int .u8 (0), .int .u8 (0), .int .u8 (0), .int .u8 (0), .int .u8 (0), .int .u8 (0), .int .u8 (0), .int .u8 (0), .int .u8 (0), .int .u8 (0), .int .u8 (0), .int .u8 (0), .int .u8 (0), .int .u8 (0), .int .u8 (0), .int .u8 (0), .int .u8 (0), .int .u8 (0), .int .u8 (0), .int .u8 (0), .int .u8 (0), .int .u8 (0), .int .u8 (0), .int .u8 (0), .int .u8 (0), .int .u8 (0), .int .u8 (0), .int .u8 (0), .int .u8 (0), .int .u8 (0), .int .u8 (0), .int .u8 (0), .int .u8 (0), .int .u8 (0), .int .u8 (0), .int .u8 (0), .int .u8 (0), .int .u8 (0), .int .u8 (0), .int .u8 (0), .int .u8 (0), .int .u8 (0), .int .u8 (0), .int .u8 (0), .int .u8 (0), .int .u8 (0), .int .u8 (0), .int .u8 (0), .int .u8 (0), .int .u8 (0), .int .u8 (0), .int .u8 (0), .int .u8 (0), .int .u8 (0), .int .u8 (0), .int .u8 (0), .int .u8 (0), .int .u8 (0), .int .u8 (0), .int .u8 (0), .int .u8 (0), .int .u8 (0), .int .u8 (0)]) := by kernel_rfl
@[simp] theorem sz336 : szA Tryz.prog 336 = some 1 := by kernel_rfl
@[simp] theorem ag336 : isAggA Tryz.prog 336 = some false := by kernel_rfl
@[simp] theorem ze336 : zeroA Tryz.prog 336 = some (.tuple #[.int .u64 (0), .nilIface]) := by kernel_rfl
@[simp] theorem sz337 : szA Tryz.prog 337 = some 1 := by kernel_rfl
@[simp] theorem ag337 : isAggA Tryz.prog 337 = some false := by kernel_rfl
@[simp] theorem ze337 : zeroA Tryz.prog 337 = some (.nilFunc) := by kernel_rfl
@[simp] theorem sz338 : szA Tryz.prog 338 = some 1 := by kernel_rfl
@[simp] theorem ag338 : isAggA Tryz.prog 338 = some false := by kernel_rfl
@[simp] theorem ze338 : zeroA Tryz.prog 338 = some (.nilFunc) := by kernel_rfl
@[simp] theorem sz339 : szA Tryz.prog 339 = some 3 := by kernel_rfl
@[simp] theorem ag339 : isAggA Tryz.prog 339 = some true := by kernel_rfl
@[simp] theorem ze339 : zeroA Tryz.prog 339 = some (.agg #[.string ⟨#[]⟩, .string ⟨#[]⟩, .nilIface]) := by kernel_rfl
@[simp] theorem sz340 : szA Tryz.prog 340 = some 3 := by kernel_rfl
@[simp] theorem ag340 : isAggA Tryz.prog 340 = some true := by kernel_rfl
@[simp] theorem ze340 : zeroA Tryz.prog 340 = some (.agg #[.string ⟨#[]⟩, .string ⟨#[]⟩, .nilIface]) := by kernel_rfl
@[simp] theorem sz341 : szA Tryz.prog 341 = some 1 := by kernel_rfl
@[simp] theorem ag341 : isAggA Tryz.prog 341 = some false := by kernel_rfl
@[simp] theorem ze341 : zeroA Tryz.prog 341 = some (.nilFunc) := by kernel_rfl
@[simp] theorem sz342 : szA Tryz.prog 342 = some 256 := by kernel_rfl
@[simp] theorem ag342 : isAggA Tryz.prog 342 = some true := by kernel_rfl
@[simp] theorem ze342 : zeroA Tryz.prog 342 = some (.agg #[.int .u8 (0), .int .u8 (0), .int .u8 (0), .int .u8 (0), .int .u8 (0), .int .u8 (0), .int .u8 (0), .int .u8 (0), .int .u8 (0), .int .u8 (0), .int .u8 (0), .int .u8 (0), .int .u8 (0), .int .u8 (0), .int .u8 (0), .int .u8 (0), .int .u8 (0), .int .u8 (0), .int .u8 (0), .int .u8 (0), .int .u8 (0), .int .u8 (0), .int .u8 (0), .int .u8 (0), .int .u8 (0), .int .u8 (0), .int .u8 (0), .int .u8 (0), .int .u8 (0), .int .u8 (0), .int .u8 (0), .int .u8 (0), .int .u8 (0), .int .u8 (0), .int .u8 (0), .int .u8 (0), .int .u8 (0), .int .u8 (0), .int .u8 (0), .int .u8 (0), .int .u8 (0), .int .u8 (0), .int .u8 (0), .int .u8 (0), .int .u8 (0), .int .u8 (0), .int .u8 (0), .int .u8 (0), .int .u8 (0), .int .u8 (0), .int .u8 (0), .int .u8 (0), .int .u8 (0), .int .u8 (0), .int .u8 (0), .int .u8 (0), .int .u8 (0), .int .u8 (0), .int .u8 (0), .int .u8 (0), .int .u8 (0), .int .u8 (0), .int .u8 (0), .int .u8 (0), .int .u8 (0), .int .u8 (0), .int .u8 (0), .int .u8 (0), .int .u8 (0), .int .u8 (0), .int .u8 (0), .int .u8 (0), .int .u8 (0), .int .u8 (0), .int .u8 (0), .int .u8 (0), .int .u8 (0), .int .u8 (0), .int .u8 (0), .int .u8 (0), .int .u8 (0), .int .u8 (0), .int .u8 (0), .int .u8 (0), .int .u8 (0), .int .u8 (0), .int .u8 (0), .int .u8 (0), .int .u8 (0), .int .u8 (0), .int .u8 (0), .int .u8 (0), .int .u8 (0), .int .u8 (0), .int .u8 (0), .int .u8 (0), .int .u8 (0), .int .u8 (0), .int .u8 (0), .int .u8 (0), .int .u8 (0), .int .u8 (0), .int .u8 (0), .int .u8 (0), .int .u8 (0), .int .u8 (0), .int .u8 (0), .int .u8 (0), .int .u8 (0), .int .u8 (0), .int .u8 (0), .int .u8 (0), .int .u8 (0), .int .u8 (0), .int .u8 (0), .int .u8 (0), .int .u8 (0), .int .u8 (0), .int .u8 (0), .int .u8 (0), .int .u8 (0), .int .u8 (0), .int .u8 (0), .int .u8 (0), .int .u8 (0), .int .u8 (0), .int .u8 (0), .int .u8 (0), .int .u8 (0), .int .u8 (0), .int .u8 (0), .int .u8 (0), .int .u8 (0), .int .u8 (0), .int .u8 (0), .int .u8 (0), .int .u8 (0), .int .u8 (0), .int .u8 (0), .int .u8 (0), .int .u8 (0), .int .u8 (0), .int .u8 (0), .int .u8 (0), .int .u8 (0), .int .u8 (0), .int .u8 (0), .int .u8 (0), .int .u8 (0), .int .u8 (0), .int .u8 (0), .int .u8 (0), .int .u8 (0), .int .u8 (0), .int .u8 (0), .int .u8 (0), .int .u8 (0), .int .u8 (0), .int .u8 (0), .int .u8 (0), .int .u8 (0), .int .u8 (0), .int .u8 (0), .int .u8 (0), .int .u8 (0), .int .u8 (0), .int .u8 (0), .int .u8 (0), .int .u8 (0), .int .u8 (0), .int .u8 (0), .int .u8 (0), .int .u8 (0), .int .u8 (0), .int .u8 (0), .int .u8 (0), .int .u8 (0), .int .u8 (0), .int .u8 (0), .int .u8 (0), .int .u8 (0), .int .u8 (0), .int .u8 (0), .int .u8 (0), .int .u8 (0), .int .u8 (0), .int .u8 (0), .int .u8 (0), .int .u8 (0), .int .u8 (0), .int .u8 (0), .int .u8 (0), .int .u8 (0), .int .u8 (0), .int .u8 (0), .int .u8 (0), .int .u8 (0), .int .u8 (0), .int .u8 (0), .int .u8 (0), .int .u8 (0), .int .u8 (0), .int .u8 (0), .int .u8 (0), .int .u8 (0), .int .u8 (0), .int .u8 (0), .int .u8 (0), .int .u8 (0), .int .u8 (0), .int .u8 (0), .int .u8 (0), .int .u8 (0), .int .u8 (0), .int .u8 (0), .int .u8 (0), .int .u8 (0), .int .u8 (0), .int .u8 (0), .int .u8 (0), .int .u8 (0), .int .u8 (0), .int .u8 (0), .int .u8 (0), .int .u8 (0), .int .u8 (0), .int .u8 (0), .int .u8 (0), .int .u8 (0), .int .u8 (0), .int .u8 (0), .int .u8 (0), .int .u8 (0), .int .u8 (0), .int .u8 (0), .int .u8 (0), .int .u8 (0), .int .u8 (0), .int .u8 (0), .int .u8 (0), .int .u8 (0), .int .u8 (0), .int .u8 (0), .int .u8 (0), .int .u8 (0), .int .u8 (0), .int .u8 (0), .int .u8 (0), .int .u8 (0), .int .u8 (0), .int .u8 (0), .int .u8 (0), .int .u8 (0), .int .u8 (0), .int .u8 (0), .int .u8 (0)]) := by kernel_rfl
@[simp] theorem sz343 : szA Tryz.prog 343 = some 2 := by kernel_rfl
@[simp] theorem ag343 : isAggA Tryz.prog 343 = some true := by kernel_rfl
@[simp] theorem ze343 : zeroA Tryz.prog 343 = some (.agg #[.int .u8 (0), .int .u8 (0)]) := by kernel_rfl
@[simp] theorem sz344 : szA Tryz.prog 344 = some 2 := by kernel_rfl
@[simp] theorem ag344 : isAggA Tryz.prog 344 = some true := by kernel_rfl
@[simp] theorem ze344 : zeroA Tryz.prog 344 = some (.agg #[.int .u8 (0), .int .u8 (0)]) := by kernel_rfl
@[simp] theorem sz345 : szA Tryz.prog 345 = some 32 := by kernel_rfl
@[simp] theorem ag345 : isAggA Tryz.prog 345 = some true := by kernel_rfl
@[simp] theorem ze345 : zeroA Tryz.prog 345 = some (.agg #[.int .u8 (0), .int .u8 (0), .int .u8 (0), .int .u8 (0), .int .u8 (0), .int .u8 (0), .int .u8 (0), .int .u8 (0), .int .u8 (0), .int .u8 (0), .int .u8 (0), .int .u8 (0), .int .u8 (0), .int .u8 (0), .int .u8 (0), .int .u8 (0), .int .u8 (0), .int .u8 (0), .int .u8 (0), .int .u8 (0), .int .u8 (0), .int .u8 (0), .int .u8 (0), .int .u8 (0), .int .u8 (0), .int .u8 (0), .int .u8 (0), .int .u8 (0), .int .u8 (0), .int .u8 (0), .int .u8 (0), .int .u8 (0)]) := by kernel_rfl
@[simp] theorem sz346 : szA Tryz.prog 346 = some 1 := by kernel_rfl
@[simp] theorem ag346 : isAggA Tryz.prog 346 = some false := by kernel_rfl
@[simp] theorem ze346 : zeroA Tryz.prog 346 = some (.tuple #[.int .u32 (0), .int .u32 (0)]) := by kernel_rfl
@[simp] theorem sz347 : szA Tryz.prog 347 = some 1 := by kernel_rfl
@[simp] theorem ag347 : isAggA Tryz.prog 347 = some false := by kernel_rfl
@[simp] theorem ze347 : zeroA Tryz.prog 347 = some (.nilFunc) := by kernel_rfl
@[simp] theorem sz348 : szA Tryz.prog 348 = some 1 := by kernel_rfl
@[simp] theorem ag348 : isAggA Tryz.prog 348 = some false := by kernel_rfl
@[simp] theorem ze348 : zeroA Tryz.prog 348 = some (.nilFunc) := by kernel_rfl
@[simp] theorem sz349 : szA Tryz.prog 349 = some 1 := by kernel_rfl
@[simp] theorem ag349 : isAggA Tryz.prog 349 = some false := by kernel_rfl
@[simp] theorem ze349 : zeroA Tryz.prog 349 = some (.pointer none) := by kernel_rfl
@[simp] theorem sz350 : szA Tryz.prog 350 = some 1 := by kernel_rfl
@[simp] theorem ag350 : isAggA Tryz.prog 350 = some true := by kernel_rfl
@[simp] theorem ze350 : zeroA Tryz.prog 350 = some (.agg #[.string ⟨#[]⟩]) := by kernel_rfl
@[simp] theorem sz351 : szA Tryz.prog 351 = some 1 := by kernel_rfl
@[simp] theorem ag351 : isAggA Tryz.prog 351 = some true := by kernel_rfl
@[simp] theorem ze351 : zeroA Tryz.prog 351 = some (.agg #[.string ⟨#[]⟩]) := by kernel_rfl
@[simp] theorem sz352 : szA Tryz.prog 352 = some 32 := by kernel_rfl
@[simp] theorem ag352 : isAggA Tryz.prog 352 = some true := by kernel_rfl
@[simp] theorem ze352 : zeroA Tryz.prog 352 = some (.agg #[.int .u8 (0), .int .u8 (0), .int .u8 (0), .int .u8 (0), .int .u8 (0), .int .u8 (0), .int .u8 (0), .int .u8 (0), .int .u8 (0), .int .u8 (0), .int .u8 (0), .int .u8 (0), .int .u8 (0), .int .u8 (0), .int .u8 (0), .int .u8 (0), .int .u8 (0), .int .u8 (0), .int .u8 (0), .int .u8 (0), .int .u8 (0), .int .u8 (0), .int .u8 (0), .int .u8 (0), .int .u8 (0), .int .u8 (0), .int .u8 (0), .int .u8 (0), .int .u8 (0), .int .u8 (0), .int .u8 (0), .int .u8 (0)]) := by kernel_rfl
@[simp] theorem sz353 : szA Tryz.prog 353 = some 64 := by kernel_rfl
@[simp] theorem ag353 : isAggA Tryz.prog 353 = some true := by kernel_rfl
@[simp] theorem ze353 : zeroA Tryz.prog 353 = some (.agg #[.int .u8 (0), .int .u8 (0), .int .u8 (0), .int .u8 (0), .int .u8 (0), .int .u8 (0), .int .u8 (0), .int .u8 (0), .int .u8 (0), .int .u8 (0), .int .u8 (0), .int .u8 (0), .int .u8 (0), .int .u8 (0), .int .u8 (0), .int .u8 (0), .int .u8 (0), .int .u8 (0), .int .u8 (0), .int .u8 (0), .int .u8 (0), .int .u8 (0), .int .u8 (0), .int .u8 (0), .int .u8 (0), .int .u8 (0), .int .u8 (0), .int .u8 (0), .int .u8 (0), .int .u8 (0), .int .u8 (0), .int .u8 (0), .int .u8 (0), .int .u8 (0), .int .u8 (0), .int .u8 (0), .int .u8 (0), .int .u8 (0), .int .u8 (0), .int .u8 (0), .int .u8 (0), .int .u8 (0), .int .u8 (0), .int .u8 (0), .int .u8 (0), .int .u8 (0), .int .u8 (0), .int .u8 (0), .int .u8 (0), .int .u8 (0), .int .u8 (0), .int .u8 (0), .int .u8 (0), .int .u8 (0), .int .u8 (0), .int .u8 (0), .int .u8 (0), .int .u8 (0), .int .u8 (0), .int .u8 (0), .int .u8 (0), .int .u8 (0), .int .u8 (0), .int .u8 (0)]) := by kernel_rfl
@[simp] theorem sz354 : szA Tryz.prog 354 = some 4 := by kernel_rfl
@[simp] theorem ag354 : isAggA Tryz.prog 354 = some true := by kernel_rfl
@[simp] theorem ze354 : zeroA Tryz.prog 354 = some (.agg #[.pointer none, .pointer none, .pointer none, .string ⟨#[]⟩]) := by kernel_rfl
@[simp] theorem sz355 : szA Tryz.prog 355 = some 4 := by kernel_rfl
@[simp] theorem ag355 : isAggA Tryz.prog 355 = some true := by kernel_rfl
@[simp] theorem ze355 : zeroA Tryz.prog 355 = some (.agg #[.pointer none, .pointer none, .pointer none, .string ⟨#[]⟩]) := by kernel_rfl
@[simp] theorem sz356 : szA Tryz.prog 356 = some 0 := by kernel_rfl
@[simp] theorem ag356 : isAggA Tryz.prog 356 = some true := by kernel_rfl
@[simp] theorem ze356 : zeroA Tryz.prog 356 = some (.agg #[]) := by kernel_rfl
@[simp] theorem sz357 : szA Tryz.prog 357 = some 0 := by kernel_rfl
@[simp] theorem ag357 : isAggA Tryz.prog 357 = some true := by kernel_rfl
@[simp] theorem ze357 : zeroA Tryz.prog 357 = some (.agg #[]) := by kernel_rfl
@[simp] theorem sz358 : szA Tryz.prog 358 = some 0 := by kernel_rfl
@[simp] theorem ag358 : isAggA Tryz.prog 358 = some true := by kernel_rfl
@[simp] theorem ze358 : zeroA Tryz.prog 358 = some (.agg #[]) := by kernel_rfl
@[simp] theorem sz359 : szA Tryz.prog 359 = some 1 := by kernel_rfl
@[simp] theorem ag359 : isAggA Tryz.prog 359 = some false := by kernel_rfl
@[simp] theorem ze359 : zeroA Tryz.prog 359 = some (.int .u8 (0)) := by kernel_rfl
@[simp] theorem sz360 : szA Tryz.prog 360 = some 1 := by kernel_rfl
@[simp] theorem ag360 : isAggA Tryz.prog 360 = some false := by kernel_rfl
@[simp] theorem ze360 : zeroA Tryz.prog 360 = some (.int .u8 (0)) := by kernel_rfl
@[simp] theorem sz361 : szA Tryz.prog 361 = some 1 := by kernel_rfl
@[simp] theorem ag361 : isAggA Tryz.prog 361 = some false := by kernel_rfl
@[simp] theorem ze361 : zeroA Tryz.prog 361 = some (.nilFunc) := by kernel_rfl
@[simp] theorem sz362 : szA Tryz.prog 362 = some 1 := by kernel_rfl
@[simp] theorem ag362 : isAggA Tryz.prog 362 = some false := by kernel_rfl
@[simp] theorem ze362 : zeroA Tryz.prog 362 = some (.int .i32 (0)) := by kernel_rfl
@[simp] theorem sz363 : szA Tryz.prog 363 = some 1 := by kernel_rfl
@[simp] theorem ag363 : isAggA Tryz.prog 363 = some false := by kernel_rfl
@[simp] theorem ze363 : zeroA Tryz.prog 363 = some (.int .i32 (0)) := by kernel_rfl
@[simp] theorem sz364 : szA Tryz.prog 364 = some 11 := by kernel_rfl
@[simp] theorem ag364 : isAggA Tryz.prog 364 = some true := by kernel_rfl
@[simp] theorem ze364 : zeroA Tryz.prog 364 = some (.agg #[.int .u64 (0), .int .u64 (0), .int .u32 (0), .int .u8 (0), .int .u8 (0), .int .u8 (0), .int .u8 (0), .nilFunc, .pointer none, .int .i32 (0), .int .i32 (0)]) := by kernel_rfl
@[simp] theorem sz365 : szA Tryz.prog 365 = some 11 := by kernel_rfl
@[simp] theorem ag365 : isAggA Tryz.prog 365 = some true := by kernel_rfl
@[simp] theorem ze365 : zeroA Tryz.prog 365 = some (.agg #[.int .u64 (0), .int .u64 (0), .int .u32 (0), .int .u8 (0), .int .u8 (0), .int .u8 (0), .int .u8 (0), .nilFunc, .pointer none, .int .i32 (0), .int .i32 (0)]) := by kernel_rfl
end Go.Proofs.YtdmepnhmcppkkaaGreatDoor

/-
The types of the seat's program, as they are used for rewriting.
-/
namespace Go.Proofs.YtdmepnhmcppkkaaGreatDoor
open Go Go.Ab Go.Proofs
theorem mixed : Tryz.prog.follows .mixedOrders = true := by kernel_rfl
theorem gsz : Tryz.prog.globals.size = 9 := by kernel_rfl
attribute [simp] Tryz.underlying0 Tryz.underlying1 Tryz.underlying2 Tryz.underlying3 Tryz.underlying4 Tryz.underlying5 Tryz.underlying6 Tryz.underlying7 Tryz.underlying8 Tryz.underlying9 Tryz.underlying10 Tryz.underlying11 Tryz.underlying12 Tryz.underlying13 Tryz.underlying14 Tryz.underlying15 Tryz.underlying16 Tryz.underlying17 Tryz.underlying18 Tryz.underlying19 Tryz.underlying20 Tryz.underlying21 Tryz.underlying22 Tryz.underlying23 Tryz.underlying24 Tryz.underlying25 Tryz.underlying26 Tryz.underlying27 Tryz.underlying28 Tryz.underlying29 Tryz.underlying30 Tryz.underlying31 Tryz.underlying32 Tryz.underlying33 Tryz.underlying34 Tryz.underlying35 Tryz.underlying36 Tryz.underlying37 Tryz.underlying38 Tryz.underlying39 Tryz.underlying40 Tryz.underlying41 Tryz.underlying42 Tryz.underlying43 Tryz.underlying44 Tryz.underlying45 Tryz.underlying46 Tryz.underlying47 Tryz.underlying48 Tryz.underlying49 Tryz.underlying50 Tryz.underlying51 Tryz.underlying52 Tryz.underlying53 Tryz.underlying54 Tryz.underlying55 Tryz.underlying56 Tryz.underlying57 Tryz.underlying58 Tryz.underlying59 Tryz.underlying60 Tryz.underlying61 Tryz.underlying62 Tryz.underlying63 Tryz.underlying64 Tryz.underlying65 Tryz.underlying66 Tryz.underlying67 Tryz.underlying68 Tryz.underlying69 Tryz.underlying70 Tryz.underlying71 Tryz.underlying72 Tryz.underlying73 Tryz.underlying74 Tryz.underlying75 Tryz.underlying76 Tryz.underlying77 Tryz.underlying78 Tryz.underlying79 Tryz.underlying80 Tryz.underlying81 Tryz.underlying82 Tryz.underlying83 Tryz.underlying84 Tryz.underlying85 Tryz.underlying86 Tryz.underlying87 Tryz.underlying88 Tryz.underlying89 Tryz.underlying90 Tryz.underlying91 Tryz.underlying92 Tryz.underlying93 Tryz.underlying94 Tryz.underlying95 Tryz.underlying96 Tryz.underlying97 Tryz.underlying98 Tryz.underlying99 Tryz.underlying100 Tryz.underlying101 Tryz.underlying102 Tryz.underlying103 Tryz.underlying104 Tryz.underlying105 Tryz.underlying106 Tryz.underlying107 Tryz.underlying108 Tryz.underlying109 Tryz.underlying110 Tryz.underlying111 Tryz.underlying112 Tryz.underlying113 Tryz.underlying114 Tryz.underlying115 Tryz.underlying116 Tryz.underlying117 Tryz.underlying118 Tryz.underlying119 Tryz.underlying120 Tryz.underlying121 Tryz.underlying122 Tryz.underlying123 Tryz.underlying124 Tryz.underlying125 Tryz.underlying126 Tryz.underlying127 Tryz.underlying128 Tryz.underlying129 Tryz.underlying130 Tryz.underlying131 Tryz.underlying132 Tryz.underlying133 Tryz.underlying134 Tryz.underlying135 Tryz.underlying136 Tryz.underlying137 Tryz.underlying138 Tryz.underlying139 Tryz.underlying140 Tryz.underlying141 Tryz.underlying142 Tryz.underlying143 Tryz.underlying144 Tryz.underlying145 Tryz.underlying146 Tryz.underlying147 Tryz.underlying148 Tryz.underlying149 Tryz.underlying150 Tryz.underlying151 Tryz.underlying152 Tryz.underlying153 Tryz.underlying154 Tryz.underlying155 Tryz.underlying156 Tryz.underlying157 Tryz.underlying158 Tryz.underlying159 Tryz.underlying160 Tryz.underlying161 Tryz.underlying162 Tryz.underlying163 Tryz.underlying164 Tryz.underlying165 Tryz.underlying166 Tryz.underlying167 Tryz.underlying168 Tryz.underlying169 Tryz.underlying170 Tryz.underlying171 Tryz.underlying172 Tryz.underlying173 Tryz.underlying174 Tryz.underlying175 Tryz.underlying176 Tryz.underlying177 Tryz.underlying178 Tryz.underlying179 Tryz.underlying180 Tryz.underlying181 Tryz.underlying182 Tryz.underlying183 Tryz.underlying184 Tryz.underlying185 Tryz.underlying186 Tryz.underlying187 Tryz.underlying188 Tryz.underlying189 Tryz.underlying190 Tryz.underlying191 Tryz.underlying192 Tryz.underlying193 Tryz.underlying194 Tryz.underlying195 Tryz.underlying196 Tryz.underlying197 Tryz.underlying198 Tryz.underlying199 Tryz.underlying200 Tryz.underlying201 Tryz.underlying202 Tryz.underlying203 Tryz.underlying204 Tryz.underlying205 Tryz.underlying206 Tryz.underlying207 Tryz.underlying208 Tryz.underlying209 Tryz.underlying210 Tryz.underlying211 Tryz.underlying212 Tryz.underlying213 Tryz.underlying214 Tryz.underlying215 Tryz.underlying216 Tryz.underlying217 Tryz.underlying218 Tryz.underlying219 Tryz.underlying220 Tryz.underlying221 Tryz.underlying222 Tryz.underlying223 Tryz.underlying224 Tryz.underlying225 Tryz.underlying226 Tryz.underlying227 Tryz.underlying228 Tryz.underlying229 Tryz.underlying230 Tryz.underlying231 Tryz.underlying232 Tryz.underlying233 Tryz.underlying234 Tryz.underlying235 Tryz.underlying236 Tryz.underlying237 Tryz.underlying238 Tryz.underlying239 Tryz.underlying240 Tryz.underlying241 Tryz.underlying242 Tryz.underlying243 Tryz.underlying244 Tryz.underlying245 Tryz.underlying246 Tryz.underlying247 Tryz.underlying248 Tryz.underlying249 Tryz.underlying250 Tryz.underlying251 Tryz.underlying252 Tryz.underlying253 Tryz.underlying254 Tryz.underlying255 Tryz.underlying256 Tryz.underlying257 Tryz.underlying258 Tryz.underlying259 Tryz.underlying260 Tryz.underlying261 Tryz.underlying262 Tryz.underlying263 Tryz.underlying264 Tryz.underlying265 Tryz.underlying266 Tryz.underlying267 Tryz.underlying268 Tryz.underlying269 Tryz.underlying270 Tryz.underlying271 Tryz.underlying272 Tryz.underlying273 Tryz.underlying274 Tryz.underlying275 Tryz.underlying276 Tryz.underlying277 Tryz.underlying278 Tryz.underlying279 Tryz.underlying280 Tryz.underlying281 Tryz.underlying282 Tryz.underlying283 Tryz.underlying284 Tryz.underlying285 Tryz.underlying286 Tryz.underlying287 Tryz.underlying288 Tryz.underlying289 Tryz.underlying290 Tryz.underlying291 Tryz.underlying292 Tryz.underlying293 Tryz.underlying294 Tryz.underlying295 Tryz.underlying296 Tryz.underlying297 Tryz.underlying298 Tryz.underlying299 Tryz.underlying300 Tryz.underlying301 Tryz.underlying302 Tryz.underlying303 Tryz.underlying304 Tryz.underlying305 Tryz.underlying306 Tryz.underlying307 Tryz.underlying308 Tryz.underlying309 Tryz.underlying310 Tryz.underlying311 Tryz.underlying312 Tryz.underlying313 Tryz.underlying314 Tryz.underlying315 Tryz.underlying316 Tryz.underlying317 Tryz.underlying318 Tryz.underlying319 Tryz.underlying320 Tryz.underlying321 Tryz.underlying322 Tryz.underlying323 Tryz.underlying324 Tryz.underlying325 Tryz.underlying326 Tryz.underlying327 Tryz.underlying328 Tryz.underlying329 Tryz.underlying330 Tryz.underlying331 Tryz.underlying332 Tryz.underlying333 Tryz.underlying334 Tryz.underlying335 Tryz.underlying336 Tryz.underlying337 Tryz.underlying338 Tryz.underlying339 Tryz.underlying340 Tryz.underlying341 Tryz.underlying342 Tryz.underlying343 Tryz.underlying344 Tryz.underlying345 Tryz.underlying346 Tryz.underlying347 Tryz.underlying348 Tryz.underlying349 Tryz.underlying350 Tryz.underlying351 Tryz.underlying352 Tryz.underlying353 Tryz.underlying354 Tryz.underlying355 Tryz.underlying356 Tryz.underlying357 Tryz.underlying358 Tryz.underlying359 Tryz.underlying360 Tryz.underlying361 Tryz.underlying362 Tryz.underlying363 Tryz.underlying364 Tryz.underlying365
@[simp] theorem inf3 : Tryz.prog.info? 3 = some Tryz.t3 := by kernel_rfl
@[simp] theorem inf30 : Tryz.prog.info? 30 = some Tryz.t30 := by kernel_rfl
attribute [simp] Tryz.t3 Tryz.t30
end Go.Proofs.YtdmepnhmcppkkaaGreatDoor
