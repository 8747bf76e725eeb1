/- The types' facts, and the rules of operations at these types. -/
import Derived.Test.YtijmlgccaicblaaProg
import Derived.Test.YtijmlgccaicblaaAME
import Derived.KernelRfl
namespace Go.Proofs.YtijmlgccaicblaaAM
open Go Go.RowKit
set_option linter.unusedVariables false
set_option linter.unusedSimpArgs false
set_option maxRecDepth 10000
set_option maxHeartbeats 4000000
theorem mixed : Try.prog.follows .mixedOrders = true := by kernel_rfl
theorem plain : plainNames Try.prog = true := by kernel_rfl
theorem size0 : typeSize Try.prog 0 = some 1 := rfl
theorem agg0 : aggB Try.prog 0 = some false := rfl
theorem size1 : typeSize Try.prog 1 = some 1 := rfl
theorem agg1 : aggB Try.prog 1 = some false := rfl
theorem z1 : zeroV Try.prog 1 = some (.nilFunc) := by kernel_rfl
theorem und2 : Try.prog.underlying 2 = some (.int .i64) := rfl
theorem size2 : typeSize Try.prog 2 = some 1 := rfl
theorem agg2 : aggB Try.prog 2 = some false := rfl
theorem z2 : zeroV Try.prog 2 = some (.int .i64 0) := by kernel_rfl
theorem und3 : Try.prog.underlying 3 = some (.int .i64) := rfl
theorem size3 : typeSize Try.prog 3 = some 1 := rfl
theorem agg3 : aggB Try.prog 3 = some false := rfl
theorem z3 : zeroV Try.prog 3 = some (.int .i64 0) := by kernel_rfl
theorem und4 : Try.prog.underlying 4 = some .bool := rfl
theorem size4 : typeSize Try.prog 4 = some 1 := rfl
theorem agg4 : aggB Try.prog 4 = some false := rfl
theorem z4 : zeroV Try.prog 4 = some (.bool false) := by kernel_rfl
theorem und5 : Try.prog.underlying 5 = some (.int .u8) := rfl
theorem size5 : typeSize Try.prog 5 = some 1 := rfl
theorem agg5 : aggB Try.prog 5 = some false := rfl
theorem z5 : zeroV Try.prog 5 = some (.int .u8 0) := by kernel_rfl
theorem und9 : Try.prog.underlying 9 = some .string := rfl
theorem size9 : typeSize Try.prog 9 = some 1 := rfl
theorem agg9 : aggB Try.prog 9 = some false := rfl
theorem z9 : zeroV Try.prog 9 = some (.string (mkStr [])) := by kernel_rfl
theorem und22 : Try.prog.underlying 22 = some (.slice 23) := rfl
theorem size22 : typeSize Try.prog 22 = some 1 := rfl
theorem agg22 : aggB Try.prog 22 = some false := rfl
theorem z22 : zeroV Try.prog 22 = some (.slice none 0 0) := by kernel_rfl
theorem elem22 : elemCells Try.prog 22 = some (23, 1) := rfl
theorem app22 : appOk Try.prog 22 22 1 = true := by decide +kernel
theorem sl22 : slOk Try.prog 22 1 = true := by decide +kernel
theorem und23 : Try.prog.underlying 23 = some (.int .u16) := rfl
theorem size23 : typeSize Try.prog 23 = some 1 := rfl
theorem agg23 : aggB Try.prog 23 = some false := rfl
theorem z23 : zeroV Try.prog 23 = some (.int .u16 0) := by kernel_rfl
theorem und25 : Try.prog.underlying 25 = some (.slice 3) := rfl
theorem size25 : typeSize Try.prog 25 = some 1 := rfl
theorem agg25 : aggB Try.prog 25 = some false := rfl
theorem z25 : zeroV Try.prog 25 = some (.slice none 0 0) := by kernel_rfl
theorem elem25 : elemCells Try.prog 25 = some (3, 1) := rfl
theorem app25 : appOk Try.prog 25 25 1 = true := by decide +kernel
theorem sl25 : slOk Try.prog 25 1 = true := by decide +kernel
theorem und31 : Try.prog.underlying 31 = some (.slice 42) := rfl
theorem size31 : typeSize Try.prog 31 = some 1 := rfl
theorem agg31 : aggB Try.prog 31 = some false := rfl
theorem z31 : zeroV Try.prog 31 = some (.slice none 0 0) := by kernel_rfl
theorem elem31 : elemCells Try.prog 31 = some (42, 5) := rfl
theorem app31 : appOk Try.prog 31 31 5 = true := by decide +kernel
theorem sl31 : slOk Try.prog 31 5 = true := by decide +kernel
theorem und33 : Try.prog.underlying 33 = some (.slice 31) := rfl
theorem size33 : typeSize Try.prog 33 = some 1 := rfl
theorem agg33 : aggB Try.prog 33 = some false := rfl
theorem z33 : zeroV Try.prog 33 = some (.slice none 0 0) := by kernel_rfl
theorem elem33 : elemCells Try.prog 33 = some (31, 1) := rfl
theorem app33 : appOk Try.prog 33 33 1 = true := by decide +kernel
theorem sl33 : slOk Try.prog 33 1 = true := by decide +kernel
theorem und34 : Try.prog.underlying 34 = some (.int .i64) := rfl
theorem size34 : typeSize Try.prog 34 = some 1 := rfl
theorem agg34 : aggB Try.prog 34 = some false := rfl
theorem z34 : zeroV Try.prog 34 = some (.int .i64 0) := by kernel_rfl
theorem und40 : Try.prog.underlying 40 = some (.int .u32) := rfl
theorem size40 : typeSize Try.prog 40 = some 1 := rfl
theorem agg40 : aggB Try.prog 40 = some false := rfl
theorem z40 : zeroV Try.prog 40 = some (.int .u32 0) := by kernel_rfl
theorem size42 : typeSize Try.prog 42 = some 5 := rfl
theorem agg42 : aggB Try.prog 42 = some true := rfl
theorem z42 : zeroV Try.prog 42 = some (.agg #[.string (mkStr []), .string (mkStr []), .bool false, .int .i64 0, .int .u32 0]) := by kernel_rfl
theorem fo42_0 : fldOff Try.prog 42 0 = some 0 := rfl
theorem fo42_1 : fldOff Try.prog 42 1 = some 1 := rfl
theorem fo42_2 : fldOff Try.prog 42 2 = some 2 := rfl
theorem fo42_3 : fldOff Try.prog 42 3 = some 3 := rfl
theorem fo42_4 : fldOff Try.prog 42 4 = some 4 := rfl
-- struct 42: Key:9@0, Value:9@1, Over:4@2, Len:3@3, Head:40@4
theorem und48 : Try.prog.underlying 48 = some (.slice 50) := rfl
theorem size48 : typeSize Try.prog 48 = some 1 := rfl
theorem agg48 : aggB Try.prog 48 = some false := rfl
theorem z48 : zeroV Try.prog 48 = some (.slice none 0 0) := by kernel_rfl
theorem elem48 : elemCells Try.prog 48 = some (50, 2) := rfl
theorem app48 : appOk Try.prog 48 48 2 = true := by decide +kernel
theorem sl48 : slOk Try.prog 48 2 = true := by decide +kernel
theorem size50 : typeSize Try.prog 50 = some 2 := rfl
theorem agg50 : aggB Try.prog 50 = some true := rfl
theorem z50 : zeroV Try.prog 50 = some (.agg #[.string (mkStr []), .int .u32 0]) := by kernel_rfl
theorem fo50_0 : fldOff Try.prog 50 0 = some 0 := rfl
theorem fo50_1 : fldOff Try.prog 50 1 = some 1 := rfl
-- struct 50: Key:9@0, Child:40@1
theorem und51 : Try.prog.underlying 51 = some (.slice 48) := rfl
theorem size51 : typeSize Try.prog 51 = some 1 := rfl
theorem agg51 : aggB Try.prog 51 = some false := rfl
theorem z51 : zeroV Try.prog 51 = some (.slice none 0 0) := by kernel_rfl
theorem elem51 : elemCells Try.prog 51 = some (48, 1) := rfl
theorem app51 : appOk Try.prog 51 51 1 = true := by decide +kernel
theorem sl51 : slOk Try.prog 51 1 = true := by decide +kernel
theorem size60 : typeSize Try.prog 60 = some 2 := rfl
theorem agg60 : aggB Try.prog 60 = some true := rfl
theorem z60 : zeroV Try.prog 60 = some (.agg #[.string (mkStr []), .string (mkStr [])]) := by kernel_rfl
theorem fo60_0 : fldOff Try.prog 60 0 = some 0 := rfl
theorem fo60_1 : fldOff Try.prog 60 1 = some 1 := rfl
-- struct 60: Key:9@0, Value:9@1
theorem und61 : Try.prog.underlying 61 = some (.slice 60) := rfl
theorem size61 : typeSize Try.prog 61 = some 1 := rfl
theorem agg61 : aggB Try.prog 61 = some false := rfl
theorem z61 : zeroV Try.prog 61 = some (.slice none 0 0) := by kernel_rfl
theorem elem61 : elemCells Try.prog 61 = some (60, 2) := rfl
theorem app61 : appOk Try.prog 61 61 2 = true := by decide +kernel
theorem sl61 : slOk Try.prog 61 2 = true := by decide +kernel
theorem und62 : Try.prog.underlying 62 = some (.slice 69) := rfl
theorem size62 : typeSize Try.prog 62 = some 1 := rfl
theorem agg62 : aggB Try.prog 62 = some false := rfl
theorem z62 : zeroV Try.prog 62 = some (.slice none 0 0) := by kernel_rfl
theorem elem62 : elemCells Try.prog 62 = some (69, 6) := rfl
theorem app62 : appOk Try.prog 62 62 6 = true := by decide +kernel
theorem sl62 : slOk Try.prog 62 6 = true := by decide +kernel
theorem und65 : Try.prog.underlying 65 = some (.int .u64) := rfl
theorem size65 : typeSize Try.prog 65 = some 1 := rfl
theorem agg65 : aggB Try.prog 65 = some false := rfl
theorem z65 : zeroV Try.prog 65 = some (.int .u64 0) := by kernel_rfl
theorem size69 : typeSize Try.prog 69 = some 6 := rfl
theorem agg69 : aggB Try.prog 69 = some true := rfl
theorem z69 : zeroV Try.prog 69 = some (.agg #[.int .i64 0, .int .i64 0, .int .u32 0, .int .u32 0, .int .u64 0, .string (mkStr [])]) := by kernel_rfl
theorem fo69_0 : fldOff Try.prog 69 0 = some 0 := rfl
theorem fo69_1 : fldOff Try.prog 69 1 = some 1 := rfl
theorem fo69_2 : fldOff Try.prog 69 2 = some 2 := rfl
theorem fo69_3 : fldOff Try.prog 69 3 = some 3 := rfl
theorem fo69_4 : fldOff Try.prog 69 4 = some 4 := rfl
theorem fo69_5 : fldOff Try.prog 69 5 = some 5 := rfl
-- struct 69: Kind:3@0, Count:3@1, Page:40@2, Link:40@3, Tx:65@4, Body:9@5
theorem size91 : typeSize Try.prog 91 = some 4 := rfl
theorem agg91 : aggB Try.prog 91 = some true := rfl
theorem z91 : zeroV Try.prog 91 = some (.agg #[.int .i64 0, .int .u64 0, .int .u32 0, .slice none 0 0]) := by kernel_rfl
theorem fo91_0 : fldOff Try.prog 91 0 = some 0 := rfl
theorem fo91_1 : fldOff Try.prog 91 1 = some 1 := rfl
theorem fo91_2 : fldOff Try.prog 91 2 = some 2 := rfl
theorem fo91_3 : fldOff Try.prog 91 3 = some 3 := rfl
-- struct 91: size:3@0, tx:65@1, next:40@2, pages:62@3
theorem size97 : typeSize Try.prog 97 = some 3 := rfl
theorem agg97 : aggB Try.prog 97 = some true := rfl
theorem z97 : zeroV Try.prog 97 = some (.agg #[.bool false, .int .u32 0, .string (mkStr [])]) := by kernel_rfl
theorem fo97_0 : fldOff Try.prog 97 0 = some 0 := rfl
theorem fo97_1 : fldOff Try.prog 97 1 = some 1 := rfl
theorem fo97_2 : fldOff Try.prog 97 2 = some 2 := rfl
-- struct 97: Cut:4@0, N:40@1, Block:9@2
theorem und100 : Try.prog.underlying 100 = some (.slice 40) := rfl
theorem size100 : typeSize Try.prog 100 = some 1 := rfl
theorem agg100 : aggB Try.prog 100 = some false := rfl
theorem z100 : zeroV Try.prog 100 = some (.slice none 0 0) := by kernel_rfl
theorem elem100 : elemCells Try.prog 100 = some (40, 1) := rfl
theorem app100 : appOk Try.prog 100 100 1 = true := by decide +kernel
theorem sl100 : slOk Try.prog 100 1 = true := by decide +kernel
theorem size102 : typeSize Try.prog 102 = some 5 := rfl
theorem agg102 : aggB Try.prog 102 = some true := rfl
theorem z102 : zeroV Try.prog 102 = some (.agg #[.int .i64 0, .string (mkStr []), .slice none 0 0, .slice none 0 0, .int .i64 0]) := by kernel_rfl
theorem fo102_0 : fldOff Try.prog 102 0 = some 0 := rfl
theorem fo102_1 : fldOff Try.prog 102 1 = some 1 := rfl
theorem fo102_2 : fldOff Try.prog 102 2 = some 2 := rfl
theorem fo102_3 : fldOff Try.prog 102 3 = some 3 := rfl
theorem fo102_4 : fldOff Try.prog 102 4 = some 4 := rfl
-- struct 102: size:3@0, image:9@1, pages:100@2, pairs:61@3, e:34@4
theorem und104 : Try.prog.underlying 104 = some (.slice 5) := rfl
theorem size104 : typeSize Try.prog 104 = some 1 := rfl
theorem agg104 : aggB Try.prog 104 = some false := rfl
theorem z104 : zeroV Try.prog 104 = some (.slice none 0 0) := by kernel_rfl
theorem elem104 : elemCells Try.prog 104 = some (5, 1) := rfl
theorem app104 : appOk Try.prog 104 104 1 = true := by decide +kernel
theorem sl104 : slOk Try.prog 104 1 = true := by decide +kernel
theorem size106 : typeSize Try.prog 106 = some 5 := rfl
theorem agg106 : aggB Try.prog 106 = some true := rfl
theorem z106 : zeroV Try.prog 106 = some (.agg #[.string (mkStr []), .string (mkStr []), .bool false, .int .i64 0, .int .u32 0]) := by kernel_rfl
theorem fo106_0 : fldOff Try.prog 106 0 = some 0 := rfl
theorem fo106_1 : fldOff Try.prog 106 1 = some 1 := rfl
theorem fo106_2 : fldOff Try.prog 106 2 = some 2 := rfl
theorem fo106_3 : fldOff Try.prog 106 3 = some 3 := rfl
theorem fo106_4 : fldOff Try.prog 106 4 = some 4 := rfl
-- struct 106: Key:9@0, Value:9@1, Over:4@2, Len:3@3, Head:40@4
theorem und123 : Try.prog.underlying 123 = some (.int .u64) := rfl
theorem size123 : typeSize Try.prog 123 = some 1 := rfl
theorem agg123 : aggB Try.prog 123 = some false := rfl
theorem z123 : zeroV Try.prog 123 = some (.int .u64 0) := by kernel_rfl
theorem size126 : typeSize Try.prog 126 = some 5 := rfl
theorem agg126 : aggB Try.prog 126 = some true := rfl
theorem z126 : zeroV Try.prog 126 = some (.agg #[.int .u32 0, .int .u64 0, .bool false, .slice none 0 0, .slice none 0 0]) := by kernel_rfl
theorem fo126_0 : fldOff Try.prog 126 0 = some 0 := rfl
theorem fo126_1 : fldOff Try.prog 126 1 = some 1 := rfl
theorem fo126_2 : fldOff Try.prog 126 2 = some 2 := rfl
theorem fo126_3 : fldOff Try.prog 126 3 = some 3 := rfl
theorem fo126_4 : fldOff Try.prog 126 4 = some 4 := rfl
-- struct 126: Page:40@0, Tx:65@1, Leaf:4@2, Forks:48@3, Items:31@4
theorem und131 : Try.prog.underlying 131 = some (.array 256 40) := rfl
theorem size131 : typeSize Try.prog 131 = some 256 := rfl
theorem agg131 : aggB Try.prog 131 = some true := rfl
theorem z131 : zeroV Try.prog 131 = some (.agg #[.int .u32 0, .int .u32 0, .int .u32 0, .int .u32 0, .int .u32 0, .int .u32 0, .int .u32 0, .int .u32 0, .int .u32 0, .int .u32 0, .int .u32 0, .int .u32 0, .int .u32 0, .int .u32 0, .int .u32 0, .int .u32 0, .int .u32 0, .int .u32 0, .int .u32 0, .int .u32 0, .int .u32 0, .int .u32 0, .int .u32 0, .int .u32 0, .int .u32 0, .int .u32 0, .int .u32 0, .int .u32 0, .int .u32 0, .int .u32 0, .int .u32 0, .int .u32 0, .int .u32 0, .int .u32 0, .int .u32 0, .int .u32 0, .int .u32 0, .int .u32 0, .int .u32 0, .int .u32 0, .int .u32 0, .int .u32 0, .int .u32 0, .int .u32 0, .int .u32 0, .int .u32 0, .int .u32 0, .int .u32 0, .int .u32 0, .int .u32 0, .int .u32 0, .int .u32 0, .int .u32 0, .int .u32 0, .int .u32 0, .int .u32 0, .int .u32 0, .int .u32 0, .int .u32 0, .int .u32 0, .int .u32 0, .int .u32 0, .int .u32 0, .int .u32 0, .int .u32 0, .int .u32 0, .int .u32 0, .int .u32 0, .int .u32 0, .int .u32 0, .int .u32 0, .int .u32 0, .int .u32 0, .int .u32 0, .int .u32 0, .int .u32 0, .int .u32 0, .int .u32 0, .int .u32 0, .int .u32 0, .int .u32 0, .int .u32 0, .int .u32 0, .int .u32 0, .int .u32 0, .int .u32 0, .int .u32 0, .int .u32 0, .int .u32 0, .int .u32 0, .int .u32 0, .int .u32 0, .int .u32 0, .int .u32 0, .int .u32 0, .int .u32 0, .int .u32 0, .int .u32 0, .int .u32 0, .int .u32 0, .int .u32 0, .int .u32 0, .int .u32 0, .int .u32 0, .int .u32 0, .int .u32 0, .int .u32 0, .int .u32 0, .int .u32 0, .int .u32 0, .int .u32 0, .int .u32 0, .int .u32 0, .int .u32 0, .int .u32 0, .int .u32 0, .int .u32 0, .int .u32 0, .int .u32 0, .int .u32 0, .int .u32 0, .int .u32 0, .int .u32 0, .int .u32 0, .int .u32 0, .int .u32 0, .int .u32 0, .int .u32 0, .int .u32 0, .int .u32 0, .int .u32 0, .int .u32 0, .int .u32 0, .int .u32 0, .int .u32 0, .int .u32 0, .int .u32 0, .int .u32 0, .int .u32 0, .int .u32 0, .int .u32 0, .int .u32 0, .int .u32 0, .int .u32 0, .int .u32 0, .int .u32 0, .int .u32 0, .int .u32 0, .int .u32 0, .int .u32 0, .int .u32 0, .int .u32 0, .int .u32 0, .int .u32 0, .int .u32 0, .int .u32 0, .int .u32 0, .int .u32 0, .int .u32 0, .int .u32 0, .int .u32 0, .int .u32 0, .int .u32 0, .int .u32 0, .int .u32 0, .int .u32 0, .int .u32 0, .int .u32 0, .int .u32 0, .int .u32 0, .int .u32 0, .int .u32 0, .int .u32 0, .int .u32 0, .int .u32 0, .int .u32 0, .int .u32 0, .int .u32 0, .int .u32 0, .int .u32 0, .int .u32 0, .int .u32 0, .int .u32 0, .int .u32 0, .int .u32 0, .int .u32 0, .int .u32 0, .int .u32 0, .int .u32 0, .int .u32 0, .int .u32 0, .int .u32 0, .int .u32 0, .int .u32 0, .int .u32 0, .int .u32 0, .int .u32 0, .int .u32 0, .int .u32 0, .int .u32 0, .int .u32 0, .int .u32 0, .int .u32 0, .int .u32 0, .int .u32 0, .int .u32 0, .int .u32 0, .int .u32 0, .int .u32 0, .int .u32 0, .int .u32 0, .int .u32 0, .int .u32 0, .int .u32 0, .int .u32 0, .int .u32 0, .int .u32 0, .int .u32 0, .int .u32 0, .int .u32 0, .int .u32 0, .int .u32 0, .int .u32 0, .int .u32 0, .int .u32 0, .int .u32 0, .int .u32 0, .int .u32 0, .int .u32 0, .int .u32 0, .int .u32 0, .int .u32 0, .int .u32 0, .int .u32 0, .int .u32 0, .int .u32 0, .int .u32 0, .int .u32 0, .int .u32 0, .int .u32 0, .int .u32 0, .int .u32 0, .int .u32 0, .int .u32 0, .int .u32 0, .int .u32 0, .int .u32 0, .int .u32 0, .int .u32 0, .int .u32 0, .int .u32 0, .int .u32 0, .int .u32 0, .int .u32 0, .int .u32 0, .int .u32 0]) := by kernel_rfl
theorem und155 : Try.prog.underlying 155 = some (.slice 160) := rfl
theorem size155 : typeSize Try.prog 155 = some 1 := rfl
theorem agg155 : aggB Try.prog 155 = some false := rfl
theorem z155 : zeroV Try.prog 155 = some (.slice none 0 0) := by kernel_rfl
theorem elem155 : elemCells Try.prog 155 = some (160, 7) := rfl
theorem app155 : appOk Try.prog 155 155 7 = true := by decide +kernel
theorem sl155 : slOk Try.prog 155 7 = true := by decide +kernel
theorem size160 : typeSize Try.prog 160 = some 7 := rfl
theorem agg160 : aggB Try.prog 160 = some true := rfl
theorem z160 : zeroV Try.prog 160 = some (.agg #[.int .i64 0, .int .i64 0, .int .u32 0, .int .u32 0, .int .u64 0, .string (mkStr []), .int .i64 0]) := by kernel_rfl
theorem fo160_0 : fldOff Try.prog 160 0 = some 0 := rfl
theorem fo160_1 : fldOff Try.prog 160 1 = some 6 := rfl
-- struct 160: Page:69@0, E:34@6
theorem size162 : typeSize Try.prog 162 = some 0 := rfl
theorem agg162 : aggB Try.prog 162 = some true := rfl
theorem z162 : zeroV Try.prog 162 = some (.agg #[]) := by kernel_rfl
-- struct 162: 
theorem size166 : typeSize Try.prog 166 = some 1 := rfl
theorem agg166 : aggB Try.prog 166 = some true := rfl
theorem z166 : zeroV Try.prog 166 = some (.agg #[.string (mkStr [])]) := by kernel_rfl
theorem fo166_0 : fldOff Try.prog 166 0 = some 0 := rfl
-- struct 166: S:9@0
theorem app104_9 : appOk Try.prog 104 9 1 = true := by decide +kernel
theorem bld102_0_1 {v0 : Int} {v1 : List UInt8} : buildA Try.prog 102 [(0, .int .i64 v0), (1, .string (mkStr v1))] = some (.agg [.int .i64 v0, .string (mkStr v1), .slice none 0 0, .slice none 0 0, .int .i64 0].toArray) := rfl
theorem bld126_  : buildA Try.prog 126 [] = some (.agg [.int .u32 0, .int .u64 0, .bool false, .slice none 0 0, .slice none 0 0].toArray) := rfl
theorem bld126_0_1_2_4 {v0 : Int} {v1 : Int} {v2 : Bool} {v4 : Option Addr} {n4 c4 : Nat} : buildA Try.prog 126 [(0, .int .u32 v0), (1, .int .u64 v1), (2, .bool v2), (4, .slice v4 n4 c4)] = some (.agg [.int .u32 v0, .int .u64 v1, .bool v2, .slice none 0 0, .slice v4 n4 c4].toArray) := rfl
theorem bld126_0_1_3 {v0 : Int} {v1 : Int} {v3 : Option Addr} {n3 c3 : Nat} : buildA Try.prog 126 [(0, .int .u32 v0), (1, .int .u64 v1), (3, .slice v3 n3 c3)] = some (.agg [.int .u32 v0, .int .u64 v1, .bool false, .slice v3 n3 c3, .slice none 0 0].toArray) := rfl
theorem bld166_0 {v0 : List UInt8} : buildA Try.prog 166 [(0, .string (mkStr v0))] = some (.agg [.string (mkStr v0)].toArray) := rfl
theorem bld42_0_1 {v0 : List UInt8} {v1 : List UInt8} : buildA Try.prog 42 [(0, .string (mkStr v0)), (1, .string (mkStr v1))] = some (.agg [.string (mkStr v0), .string (mkStr v1), .bool false, .int .i64 0, .int .u32 0].toArray) := rfl
theorem bld42_0_2 {v0 : List UInt8} {v2 : Bool} : buildA Try.prog 42 [(0, .string (mkStr v0)), (2, .bool v2)] = some (.agg [.string (mkStr v0), .string (mkStr []), .bool v2, .int .i64 0, .int .u32 0].toArray) := rfl
theorem bld42_0_2_3_4 {v0 : List UInt8} {v2 : Bool} {v3 : Int} {v4 : Int} : buildA Try.prog 42 [(0, .string (mkStr v0)), (2, .bool v2), (3, .int .i64 v3), (4, .int .u32 v4)] = some (.agg [.string (mkStr v0), .string (mkStr []), .bool v2, .int .i64 v3, .int .u32 v4].toArray) := rfl
theorem bld50_0_1 {v0 : List UInt8} {v1 : Int} : buildA Try.prog 50 [(0, .string (mkStr v0)), (1, .int .u32 v1)] = some (.agg [.string (mkStr v0), .int .u32 v1].toArray) := rfl
theorem bld60_0 {v0 : List UInt8} : buildA Try.prog 60 [(0, .string (mkStr v0))] = some (.agg [.string (mkStr v0), .string (mkStr [])].toArray) := rfl
theorem bld60_0_1 {v0 : List UInt8} {v1 : List UInt8} : buildA Try.prog 60 [(0, .string (mkStr v0)), (1, .string (mkStr v1))] = some (.agg [.string (mkStr v0), .string (mkStr v1)].toArray) := rfl
theorem bld60_1 {v1 : List UInt8} : buildA Try.prog 60 [(1, .string (mkStr v1))] = some (.agg [.string (mkStr []), .string (mkStr v1)].toArray) := rfl
theorem bld69_  : buildA Try.prog 69 [] = some (.agg [.int .i64 0, .int .i64 0, .int .u32 0, .int .u32 0, .int .u64 0, .string (mkStr [])].toArray) := rfl
theorem bld69_0_1_2_3_4_5 {v0 : Int} {v1 : Int} {v2 : Int} {v3 : Int} {v4 : Int} {v5 : List UInt8} : buildA Try.prog 69 [(0, .int .i64 v0), (1, .int .i64 v1), (2, .int .u32 v2), (3, .int .u32 v3), (4, .int .u64 v4), (5, .string (mkStr v5))] = some (.agg [.int .i64 v0, .int .i64 v1, .int .u32 v2, .int .u32 v3, .int .u64 v4, .string (mkStr v5)].toArray) := rfl
theorem bld69_0_1_2_4_5 {v0 : Int} {v1 : Int} {v2 : Int} {v4 : Int} {v5 : List UInt8} : buildA Try.prog 69 [(0, .int .i64 v0), (1, .int .i64 v1), (2, .int .u32 v2), (4, .int .u64 v4), (5, .string (mkStr v5))] = some (.agg [.int .i64 v0, .int .i64 v1, .int .u32 v2, .int .u32 0, .int .u64 v4, .string (mkStr v5)].toArray) := rfl
theorem bld91_0_1_2 {v0 : Int} {v1 : Int} {v2 : Int} : buildA Try.prog 91 [(0, .int .i64 v0), (1, .int .u64 v1), (2, .int .u32 v2)] = some (.agg [.int .i64 v0, .int .u64 v1, .int .u32 v2, .slice none 0 0].toArray) := rfl
theorem bld91_0_2 {v0 : Int} {v2 : Int} : buildA Try.prog 91 [(0, .int .i64 v0), (2, .int .u32 v2)] = some (.agg [.int .i64 v0, .int .u64 0, .int .u32 v2, .slice none 0 0].toArray) := rfl
theorem bld97_1_2 {v1 : Int} {v2 : List UInt8} : buildA Try.prog 97 [(1, .int .u32 v1), (2, .string (mkStr v2))] = some (.agg [.bool false, .int .u32 v1, .string (mkStr v2)].toArray) := rfl
abbrev TB := (And.intro (And.intro (And.intro (And.intro (And.intro (And.intro (And.intro (And.intro z126 z131) z162) (And.intro (And.intro z34 z42) z50)) (And.intro (And.intro (And.intro z60 z62) z69) (And.intro @bld102_0_1 bld126_))) (And.intro (And.intro (And.intro (And.intro @bld126_0_1_2_4 @bld126_0_1_3) @bld166_0) (And.intro @bld42_0_1 @bld42_0_2)) (And.intro (And.intro (And.intro @bld42_0_2_3_4 @bld50_0_1) @bld60_0) (And.intro @bld60_0_1 @bld60_1)))) (And.intro (And.intro (And.intro (And.intro (And.intro bld69_ @bld69_0_1_2_3_4_5) @bld69_0_1_2_4_5) (And.intro (And.intro @bld91_0_1_2 @bld91_0_2) @bld97_1_2)) (And.intro (And.intro (And.intro (fun {a : AW} {v : Value} (hv : v.cells.toList.length = 1) => buildSl1 (E := Try.prog) (a := a) (v := v) sl100 (by decide) hv) (fun {a : AW} => buildSl0 (E := Try.prog) (a := a) elem104)) (fun {a : AW} {v : Value} (hv : v.cells.toList.length = 1) => buildSl1 (E := Try.prog) (a := a) (v := v) sl104 (by decide) hv)) (And.intro (fun {a : AW} {v : Value} (hv : v.cells.toList.length = 7) => buildSl1 (E := Try.prog) (a := a) (v := v) sl155 (by decide) hv) (fun {a : AW} => buildSl0 (E := Try.prog) (a := a) elem25)))) (And.intro (And.intro (And.intro (And.intro (fun {a : AW} {v : Value} (hv : v.cells.toList.length = 1) => buildSl1 (E := Try.prog) (a := a) (v := v) sl25 (by decide) hv) (fun {a : AW} {v u : Value} (hv : v.cells.toList.length = 1) (hu : u.cells.toList.length = 1) => buildSl2 (E := Try.prog) (a := a) (v := v) (u := u) sl25 (by decide) hv hu)) (fun {a : AW} => buildSl0 (E := Try.prog) (a := a) elem31)) (And.intro (fun {a : AW} {v : Value} (hv : v.cells.toList.length = 5) => buildSl1 (E := Try.prog) (a := a) (v := v) sl31 (by decide) hv) (fun {a : AW} {v : Value} (hv : v.cells.toList.length = 1) => buildSl1 (E := Try.prog) (a := a) (v := v) sl33 (by decide) hv))) (And.intro (And.intro (And.intro (fun {a : AW} => buildSl0 (E := Try.prog) (a := a) elem48) (fun {a : AW} {v : Value} (hv : v.cells.toList.length = 2) => buildSl1 (E := Try.prog) (a := a) (v := v) sl48 (by decide) hv)) (fun {a : AW} {v u : Value} (hv : v.cells.toList.length = 2) (hu : u.cells.toList.length = 2) => buildSl2 (E := Try.prog) (a := a) (v := v) (u := u) sl48 (by decide) hv hu)) (And.intro (fun {a : AW} {v : Value} (hv : v.cells.toList.length = 1) => buildSl1 (E := Try.prog) (a := a) (v := v) sl51 (by decide) hv) (fun {a : AW} => buildSl0 (E := Try.prog) (a := a) elem61)))))) (And.intro (And.intro (And.intro (And.intro (And.intro (And.intro (fun {a : AW} {v : Value} (hv : v.cells.toList.length = 2) => buildSl1 (E := Try.prog) (a := a) (v := v) sl61 (by decide) hv) (fun {a : AW} {v u : Value} (hv : v.cells.toList.length = 2) (hu : u.cells.toList.length = 2) => buildSl2 (E := Try.prog) (a := a) (v := v) (u := u) sl61 (by decide) hv hu)) (fun {a : AW} {v : Value} (hv : v.cells.toList.length = 6) => buildSl1 (E := Try.prog) (a := a) (v := v) sl62 (by decide) hv)) (And.intro (And.intro (fun {G : Gives} {t : List Value} {a : AW} {K : Value → AW → Prop} {x : Operand} => op_ofBytes (E := Try.prog) (G := G) (t := t) (a := a) (K := K) (x := x) und104 und9 und5) (fun {G : Gives} {t : List Value} {a : AW} {K : Value → AW → Prop} {x : Operand} => op_conv_int (E := Try.prog) (G := G) (t := t) (a := a) (K := K) (x := x) und23 und3)) (fun {n : Int} => conv_int (E := Try.prog) (n := n) und23 und3))) (And.intro (And.intro (And.intro (fun {G : Gives} {t : List Value} {a : AW} {K : Value → AW → Prop} {x : Operand} => op_conv_int (E := Try.prog) (G := G) (t := t) (a := a) (K := K) (x := x) und3 und123) (fun {n : Int} => conv_int (E := Try.prog) (n := n) und3 und123)) (fun {G : Gives} {t : List Value} {a : AW} {K : Value → AW → Prop} {x : Operand} => op_conv_int (E := Try.prog) (G := G) (t := t) (a := a) (K := K) (x := x) und3 und40)) (And.intro (fun {n : Int} => conv_int (E := Try.prog) (n := n) und3 und40) (fun {G : Gives} {t : List Value} {a : AW} {K : Value → AW → Prop} {x : Operand} => op_conv_int (E := Try.prog) (G := G) (t := t) (a := a) (K := K) (x := x) und3 und65)))) (And.intro (And.intro (And.intro (And.intro (fun {n : Int} => conv_int (E := Try.prog) (n := n) und3 und65) (fun {G : Gives} {t : List Value} {a : AW} {K : Value → AW → Prop} {x : Operand} => op_conv_int (E := Try.prog) (G := G) (t := t) (a := a) (K := K) (x := x) und40 und2)) (fun {n : Int} => conv_int (E := Try.prog) (n := n) und40 und2)) (And.intro (fun {G : Gives} {t : List Value} {a : AW} {K : Value → AW → Prop} {x : Operand} => op_conv_int (E := Try.prog) (G := G) (t := t) (a := a) (K := K) (x := x) und40 und3) (fun {n : Int} => conv_int (E := Try.prog) (n := n) und40 und3))) (And.intro (And.intro (And.intro (fun {G : Gives} {t : List Value} {a : AW} {K : Value → AW → Prop} {x : Operand} => op_conv_int (E := Try.prog) (G := G) (t := t) (a := a) (K := K) (x := x) und40 und5) (fun {n : Int} => conv_int (E := Try.prog) (n := n) und40 und5)) (fun {G : Gives} {t : List Value} {a : AW} {K : Value → AW → Prop} {x : Operand} => op_conv_int (E := Try.prog) (G := G) (t := t) (a := a) (K := K) (x := x) und40 und65)) (And.intro (fun {n : Int} => conv_int (E := Try.prog) (n := n) und40 und65) (fun {G : Gives} {t : List Value} {a : AW} {K : Value → AW → Prop} {x : Operand} => op_conv_int (E := Try.prog) (G := G) (t := t) (a := a) (K := K) (x := x) und5 und65))))) (And.intro (And.intro (And.intro (And.intro (And.intro (fun {n : Int} => conv_int (E := Try.prog) (n := n) und5 und65) (fun {G : Gives} {t : List Value} {a : AW} {K : Value → AW → Prop} {x : Operand} => op_conv_int (E := Try.prog) (G := G) (t := t) (a := a) (K := K) (x := x) und65 und3)) (fun {n : Int} => conv_int (E := Try.prog) (n := n) und65 und3)) (And.intro (fun {G : Gives} {t : List Value} {a : AW} {K : Value → AW → Prop} {x : Operand} => op_conv_int (E := Try.prog) (G := G) (t := t) (a := a) (K := K) (x := x) und65 und40) (fun {n : Int} => conv_int (E := Try.prog) (n := n) und65 und40))) (And.intro (And.intro (And.intro (fun {G : Gives} {t : List Value} {a : AW} {K : Value → AW → Prop} {x : Operand} => op_conv_int (E := Try.prog) (G := G) (t := t) (a := a) (K := K) (x := x) und65 und5) (fun {n : Int} => conv_int (E := Try.prog) (n := n) und65 und5)) (fun {G : Gives} {t : List Value} {a : AW} {K : Value → AW → Prop} {x : Operand} => op_toBytes (E := Try.prog) (G := G) (t := t) (a := a) (K := K) (x := x) und9 und104 und5)) (And.intro (fun {G : Gives} {t : List Value} {a : AW} {K : Value → AW → Prop} {x : Operand} => op_fa (E := Try.prog) (G := G) (t := t) (a := a) (K := K) (x := x) fo102_0) (fun {G : Gives} {t : List Value} {a : AW} {K : Value → AW → Prop} {x : Operand} => op_fa (E := Try.prog) (G := G) (t := t) (a := a) (K := K) (x := x) fo102_1)))) (And.intro (And.intro (And.intro (And.intro (fun {G : Gives} {t : List Value} {a : AW} {K : Value → AW → Prop} {x : Operand} => op_fa (E := Try.prog) (G := G) (t := t) (a := a) (K := K) (x := x) fo102_2) (fun {G : Gives} {t : List Value} {a : AW} {K : Value → AW → Prop} {x : Operand} => op_fa (E := Try.prog) (G := G) (t := t) (a := a) (K := K) (x := x) fo102_3)) (fun {G : Gives} {t : List Value} {a : AW} {K : Value → AW → Prop} {x : Operand} => op_fa (E := Try.prog) (G := G) (t := t) (a := a) (K := K) (x := x) fo102_4)) (And.intro (fun {G : Gives} {t : List Value} {a : AW} {K : Value → AW → Prop} {x : Operand} => op_fa (E := Try.prog) (G := G) (t := t) (a := a) (K := K) (x := x) fo106_0) (fun {G : Gives} {t : List Value} {a : AW} {K : Value → AW → Prop} {x : Operand} => op_fa (E := Try.prog) (G := G) (t := t) (a := a) (K := K) (x := x) fo106_1))) (And.intro (And.intro (And.intro (fun {G : Gives} {t : List Value} {a : AW} {K : Value → AW → Prop} {x : Operand} => op_fa (E := Try.prog) (G := G) (t := t) (a := a) (K := K) (x := x) fo106_2) (fun {G : Gives} {t : List Value} {a : AW} {K : Value → AW → Prop} {x : Operand} => op_fa (E := Try.prog) (G := G) (t := t) (a := a) (K := K) (x := x) fo106_3)) (fun {G : Gives} {t : List Value} {a : AW} {K : Value → AW → Prop} {x : Operand} => op_fa (E := Try.prog) (G := G) (t := t) (a := a) (K := K) (x := x) fo106_4)) (And.intro (fun {G : Gives} {t : List Value} {a : AW} {K : Value → AW → Prop} {x : Operand} => op_fa (E := Try.prog) (G := G) (t := t) (a := a) (K := K) (x := x) fo126_3) (fun {G : Gives} {t : List Value} {a : AW} {K : Value → AW → Prop} {x : Operand} => op_fa (E := Try.prog) (G := G) (t := t) (a := a) (K := K) (x := x) fo126_4))))))) (And.intro (And.intro (And.intro (And.intro (And.intro (And.intro (And.intro (fun {G : Gives} {t : List Value} {a : AW} {K : Value → AW → Prop} {x : Operand} => op_fa (E := Try.prog) (G := G) (t := t) (a := a) (K := K) (x := x) fo160_0) (fun {G : Gives} {t : List Value} {a : AW} {K : Value → AW → Prop} {x : Operand} => op_fa (E := Try.prog) (G := G) (t := t) (a := a) (K := K) (x := x) fo160_1)) (fun {G : Gives} {t : List Value} {a : AW} {K : Value → AW → Prop} {x : Operand} => op_fa (E := Try.prog) (G := G) (t := t) (a := a) (K := K) (x := x) fo166_0)) (And.intro (And.intro (fun {G : Gives} {t : List Value} {a : AW} {K : Value → AW → Prop} {x : Operand} => op_fa (E := Try.prog) (G := G) (t := t) (a := a) (K := K) (x := x) fo42_0) (fun {G : Gives} {t : List Value} {a : AW} {K : Value → AW → Prop} {x : Operand} => op_fa (E := Try.prog) (G := G) (t := t) (a := a) (K := K) (x := x) fo42_1)) (fun {G : Gives} {t : List Value} {a : AW} {K : Value → AW → Prop} {x : Operand} => op_fa (E := Try.prog) (G := G) (t := t) (a := a) (K := K) (x := x) fo42_2))) (And.intro (And.intro (And.intro (fun {G : Gives} {t : List Value} {a : AW} {K : Value → AW → Prop} {x : Operand} => op_fa (E := Try.prog) (G := G) (t := t) (a := a) (K := K) (x := x) fo42_3) (fun {G : Gives} {t : List Value} {a : AW} {K : Value → AW → Prop} {x : Operand} => op_fa (E := Try.prog) (G := G) (t := t) (a := a) (K := K) (x := x) fo42_4)) (fun {G : Gives} {t : List Value} {a : AW} {K : Value → AW → Prop} {x : Operand} => op_fa (E := Try.prog) (G := G) (t := t) (a := a) (K := K) (x := x) fo50_0)) (And.intro (fun {G : Gives} {t : List Value} {a : AW} {K : Value → AW → Prop} {x : Operand} => op_fa (E := Try.prog) (G := G) (t := t) (a := a) (K := K) (x := x) fo50_1) (fun {G : Gives} {t : List Value} {a : AW} {K : Value → AW → Prop} {x : Operand} => op_fa (E := Try.prog) (G := G) (t := t) (a := a) (K := K) (x := x) fo60_0)))) (And.intro (And.intro (And.intro (And.intro (fun {G : Gives} {t : List Value} {a : AW} {K : Value → AW → Prop} {x : Operand} => op_fa (E := Try.prog) (G := G) (t := t) (a := a) (K := K) (x := x) fo60_1) (fun {G : Gives} {t : List Value} {a : AW} {K : Value → AW → Prop} {x : Operand} => op_fa (E := Try.prog) (G := G) (t := t) (a := a) (K := K) (x := x) fo69_0)) (fun {G : Gives} {t : List Value} {a : AW} {K : Value → AW → Prop} {x : Operand} => op_fa (E := Try.prog) (G := G) (t := t) (a := a) (K := K) (x := x) fo69_1)) (And.intro (fun {G : Gives} {t : List Value} {a : AW} {K : Value → AW → Prop} {x : Operand} => op_fa (E := Try.prog) (G := G) (t := t) (a := a) (K := K) (x := x) fo69_2) (fun {G : Gives} {t : List Value} {a : AW} {K : Value → AW → Prop} {x : Operand} => op_fa (E := Try.prog) (G := G) (t := t) (a := a) (K := K) (x := x) fo69_3))) (And.intro (And.intro (And.intro (fun {G : Gives} {t : List Value} {a : AW} {K : Value → AW → Prop} {x : Operand} => op_fa (E := Try.prog) (G := G) (t := t) (a := a) (K := K) (x := x) fo69_4) (fun {G : Gives} {t : List Value} {a : AW} {K : Value → AW → Prop} {x : Operand} => op_fa (E := Try.prog) (G := G) (t := t) (a := a) (K := K) (x := x) fo69_5)) (fun {G : Gives} {t : List Value} {a : AW} {K : Value → AW → Prop} {x : Operand} => op_fa (E := Try.prog) (G := G) (t := t) (a := a) (K := K) (x := x) fo91_0)) (And.intro (fun {G : Gives} {t : List Value} {a : AW} {K : Value → AW → Prop} {x : Operand} => op_fa (E := Try.prog) (G := G) (t := t) (a := a) (K := K) (x := x) fo91_1) (fun {G : Gives} {t : List Value} {a : AW} {K : Value → AW → Prop} {x : Operand} => op_fa (E := Try.prog) (G := G) (t := t) (a := a) (K := K) (x := x) fo91_2))))) (And.intro (And.intro (And.intro (And.intro (And.intro (fun {G : Gives} {t : List Value} {a : AW} {K : Value → AW → Prop} {x : Operand} => op_fa (E := Try.prog) (G := G) (t := t) (a := a) (K := K) (x := x) fo91_3) (fun {G : Gives} {t : List Value} {a : AW} {K : Value → AW → Prop} {x : Operand} => op_fa (E := Try.prog) (G := G) (t := t) (a := a) (K := K) (x := x) fo97_0)) (fun {G : Gives} {t : List Value} {a : AW} {K : Value → AW → Prop} {x : Operand} => op_fa (E := Try.prog) (G := G) (t := t) (a := a) (K := K) (x := x) fo97_1)) (And.intro (fun {G : Gives} {t : List Value} {a : AW} {K : Value → AW → Prop} {x : Operand} => op_fa (E := Try.prog) (G := G) (t := t) (a := a) (K := K) (x := x) fo97_2) (fun {k : IntKind} {s : List UInt8} {i : Int} (h : 0 ≤ i) (h2 : i < s.length) => index_str (E := Try.prog) (k := k) (s := s) (i := i) und9 h h2))) (And.intro (And.intro (And.intro (fun {p : Addr} {n c : Nat} {k : IntKind} {i : Int} (h : 0 ≤ i) (h2 : i < (n : Int)) => indexAddr_slice (E := Try.prog) (p := p) (n := n) (c := c) (k := k) (i := i) und100 size40 h h2) (fun {p : Addr} {n c : Nat} {k : IntKind} {i : Int} (h : 0 ≤ i) (h2 : i < (n : Int)) => indexAddr_slice (E := Try.prog) (p := p) (n := n) (c := c) (k := k) (i := i) und155 size160 h h2)) (fun {p : Addr} {n c : Nat} {k : IntKind} {i : Int} (h : 0 ≤ i) (h2 : i < (n : Int)) => indexAddr_slice (E := Try.prog) (p := p) (n := n) (c := c) (k := k) (i := i) und22 size23 h h2)) (And.intro (fun {p : Addr} {n c : Nat} {k : IntKind} {i : Int} (h : 0 ≤ i) (h2 : i < (n : Int)) => indexAddr_slice (E := Try.prog) (p := p) (n := n) (c := c) (k := k) (i := i) und25 size3 h h2) (fun {p : Addr} {n c : Nat} {k : IntKind} {i : Int} (h : 0 ≤ i) (h2 : i < (n : Int)) => indexAddr_slice (E := Try.prog) (p := p) (n := n) (c := c) (k := k) (i := i) und31 size42 h h2)))) (And.intro (And.intro (And.intro (And.intro (fun {p : Addr} {n c : Nat} {k : IntKind} {i : Int} (h : 0 ≤ i) (h2 : i < (n : Int)) => indexAddr_slice (E := Try.prog) (p := p) (n := n) (c := c) (k := k) (i := i) und33 size31 h h2) (fun {p : Addr} {n c : Nat} {k : IntKind} {i : Int} (h : 0 ≤ i) (h2 : i < (n : Int)) => indexAddr_slice (E := Try.prog) (p := p) (n := n) (c := c) (k := k) (i := i) und48 size50 h h2)) (fun {p : Addr} {n c : Nat} {k : IntKind} {i : Int} (h : 0 ≤ i) (h2 : i < (n : Int)) => indexAddr_slice (E := Try.prog) (p := p) (n := n) (c := c) (k := k) (i := i) und51 size48 h h2)) (And.intro (fun {p : Addr} {n c : Nat} {k : IntKind} {i : Int} (h : 0 ≤ i) (h2 : i < (n : Int)) => indexAddr_slice (E := Try.prog) (p := p) (n := n) (c := c) (k := k) (i := i) und61 size60 h h2) (fun {p : Addr} {n c : Nat} {k : IntKind} {i : Int} (h : 0 ≤ i) (h2 : i < (n : Int)) => indexAddr_slice (E := Try.prog) (p := p) (n := n) (c := c) (k := k) (i := i) und62 size69 h h2))) (And.intro (And.intro (And.intro (fun {G : Gives} {t : List Value} {a : AW} {K : Value → AW → Prop} {x : Operand} => op_len (E := Try.prog) (G := G) (t := t) (a := a) (K := K) (x := x) und100 rfl) (fun {G : Gives} {t : List Value} {a : AW} {K : Value → AW → Prop} {x : Operand} => op_len (E := Try.prog) (G := G) (t := t) (a := a) (K := K) (x := x) und104 rfl)) (fun {G : Gives} {t : List Value} {a : AW} {K : Value → AW → Prop} {x : Operand} => op_len (E := Try.prog) (G := G) (t := t) (a := a) (K := K) (x := x) und155 rfl)) (And.intro (fun {G : Gives} {t : List Value} {a : AW} {K : Value → AW → Prop} {x : Operand} => op_len (E := Try.prog) (G := G) (t := t) (a := a) (K := K) (x := x) und22 rfl) (fun {G : Gives} {t : List Value} {a : AW} {K : Value → AW → Prop} {x : Operand} => op_len (E := Try.prog) (G := G) (t := t) (a := a) (K := K) (x := x) und25 rfl)))))) (And.intro (And.intro (And.intro (And.intro (And.intro (And.intro (fun {G : Gives} {t : List Value} {a : AW} {K : Value → AW → Prop} {x : Operand} => op_len (E := Try.prog) (G := G) (t := t) (a := a) (K := K) (x := x) und31 rfl) (fun {G : Gives} {t : List Value} {a : AW} {K : Value → AW → Prop} {x : Operand} => op_len (E := Try.prog) (G := G) (t := t) (a := a) (K := K) (x := x) und33 rfl)) (fun {G : Gives} {t : List Value} {a : AW} {K : Value → AW → Prop} {x : Operand} => op_len (E := Try.prog) (G := G) (t := t) (a := a) (K := K) (x := x) und48 rfl)) (And.intro (And.intro (fun {G : Gives} {t : List Value} {a : AW} {K : Value → AW → Prop} {x : Operand} => op_len (E := Try.prog) (G := G) (t := t) (a := a) (K := K) (x := x) und51 rfl) (fun {G : Gives} {t : List Value} {a : AW} {K : Value → AW → Prop} {x : Operand} => op_len (E := Try.prog) (G := G) (t := t) (a := a) (K := K) (x := x) und61 rfl)) (fun {G : Gives} {t : List Value} {a : AW} {K : Value → AW → Prop} {x : Operand} => op_len (E := Try.prog) (G := G) (t := t) (a := a) (K := K) (x := x) und62 rfl))) (And.intro (And.intro (And.intro (fun {G : Gives} {t : List Value} {a : AW} {K : Value → AW → Prop} {x : Operand} => op_len (E := Try.prog) (G := G) (t := t) (a := a) (K := K) (x := x) und9 rfl) (fun {p : Addr} {a : AW} => load_one (E := Try.prog) (a := a) (p := p) agg100)) (fun {p : Addr} {a : AW} => load_agg (E := Try.prog) (a := a) (p := p) agg131 size131)) (And.intro (fun {p : Addr} {a : AW} => load_one (E := Try.prog) (a := a) (p := p) agg23) (fun {p : Addr} {a : AW} => load_one (E := Try.prog) (a := a) (p := p) agg3)))) (And.intro (And.intro (And.intro (And.intro (fun {p : Addr} {a : AW} => load_one (E := Try.prog) (a := a) (p := p) agg31) (fun {p : Addr} {a : AW} => load_one (E := Try.prog) (a := a) (p := p) agg34)) (fun {p : Addr} {a : AW} => load_one (E := Try.prog) (a := a) (p := p) agg4)) (And.intro (fun {p : Addr} {a : AW} => load_one (E := Try.prog) (a := a) (p := p) agg40) (fun {p : Addr} {a : AW} => load_agg (E := Try.prog) (a := a) (p := p) agg42 size42))) (And.intro (And.intro (And.intro (fun {p : Addr} {a : AW} => load_one (E := Try.prog) (a := a) (p := p) agg48) (fun {p : Addr} {a : AW} => load_agg (E := Try.prog) (a := a) (p := p) agg50 size50)) (fun {p : Addr} {a : AW} => load_agg (E := Try.prog) (a := a) (p := p) agg60 size60)) (And.intro (fun {p : Addr} {a : AW} => load_one (E := Try.prog) (a := a) (p := p) agg61) (fun {p : Addr} {a : AW} => load_one (E := Try.prog) (a := a) (p := p) agg62))))) (And.intro (And.intro (And.intro (And.intro (And.intro (fun {p : Addr} {a : AW} => load_one (E := Try.prog) (a := a) (p := p) agg65) (fun {p : Addr} {a : AW} => load_agg (E := Try.prog) (a := a) (p := p) agg69 size69)) (fun {p : Addr} {a : AW} => load_one (E := Try.prog) (a := a) (p := p) agg9)) (And.intro (fun {k : IntKind} {s : List UInt8} {i : Int} (h : 0 ≤ i) (h2 : i ≤ s.length) => slice_str_hi (E := Try.prog) (k := k) (s := s) (i := i) und9 h h2) (fun {k : IntKind} {s : List UInt8} {i : Int} (h : 0 ≤ i) (h2 : i ≤ s.length) => slice_str_lo (E := Try.prog) (k := k) (s := s) (i := i) und9 h h2))) (And.intro (And.intro (And.intro (fun {k k' : IntKind} {s : List UInt8} {i j : Int} (h : 0 ≤ i) (h1 : i ≤ j) (h2 : j ≤ s.length) => slice_str_both (E := Try.prog) (k := k) (k' := k') (s := s) (i := i) (j := j) und9 h h1 h2) (fun {p : Addr} {a : AW} {v : Value} (h : v.cells.toList.length = 1) => storeVar_eq (E := Try.prog) (a := a) (p := p) (v := v) size100 h)) (fun {p : Addr} {a : AW} {v : Value} (h : v.cells.toList.length = 5) => storeVar_eq (E := Try.prog) (a := a) (p := p) (v := v) size126 h)) (And.intro (fun {p : Addr} {a : AW} {v : Value} (h : v.cells.toList.length = 256) => storeVar_eq (E := Try.prog) (a := a) (p := p) (v := v) size131 h) (fun {p : Addr} {a : AW} {v : Value} (h : v.cells.toList.length = 0) => storeVar_eq (E := Try.prog) (a := a) (p := p) (v := v) size162 h)))) (And.intro (And.intro (And.intro (And.intro (fun {p : Addr} {a : AW} {v : Value} (h : v.cells.toList.length = 1) => storeVar_eq (E := Try.prog) (a := a) (p := p) (v := v) size3 h) (fun {p : Addr} {a : AW} {v : Value} (h : v.cells.toList.length = 1) => storeVar_eq (E := Try.prog) (a := a) (p := p) (v := v) size34 h)) (fun {p : Addr} {a : AW} {v : Value} (h : v.cells.toList.length = 1) => storeVar_eq (E := Try.prog) (a := a) (p := p) (v := v) size40 h)) (And.intro (fun {p : Addr} {a : AW} {v : Value} (h : v.cells.toList.length = 5) => storeVar_eq (E := Try.prog) (a := a) (p := p) (v := v) size42 h) (fun {p : Addr} {a : AW} {v : Value} (h : v.cells.toList.length = 2) => storeVar_eq (E := Try.prog) (a := a) (p := p) (v := v) size50 h))) (And.intro (And.intro (And.intro (fun {p : Addr} {a : AW} {v : Value} (h : v.cells.toList.length = 2) => storeVar_eq (E := Try.prog) (a := a) (p := p) (v := v) size60 h) (fun {p : Addr} {a : AW} {v : Value} (h : v.cells.toList.length = 1) => storeVar_eq (E := Try.prog) (a := a) (p := p) (v := v) size61 h)) (fun {p : Addr} {a : AW} {v : Value} (h : v.cells.toList.length = 1) => storeVar_eq (E := Try.prog) (a := a) (p := p) (v := v) size62 h)) (And.intro (fun {p : Addr} {a : AW} {v : Value} (h : v.cells.toList.length = 6) => storeVar_eq (E := Try.prog) (a := a) (p := p) (v := v) size69 h) (fun {p : Addr} {a : AW} {v : Value} (h : v.cells.toList.length = 1) => storeVar_eq (E := Try.prog) (a := a) (p := p) (v := v) size9 h))))))))
abbrev NB := (And.intro (And.intro (And.intro (And.intro (And.intro (fun {G : Gives} {t : List Value} {a : AW} {K : Note → Value → AW → Prop} {x : Operand} => note_ofBytes (E := Try.prog) (G := G) (t := t) (a := a) (K := K) (x := x) und104 und9 und5) (fun {G : Gives} {t : List Value} {a : AW} {K : Note → Value → AW → Prop} {x : Operand} => note_convI (E := Try.prog) (G := G) (t := t) (a := a) (K := K) (x := x) und23 und3)) (And.intro (fun {G : Gives} {t : List Value} {a : AW} {K : Note → Value → AW → Prop} {x : Operand} => note_convI (E := Try.prog) (G := G) (t := t) (a := a) (K := K) (x := x) und3 und123) (fun {G : Gives} {t : List Value} {a : AW} {K : Note → Value → AW → Prop} {x : Operand} => note_convI (E := Try.prog) (G := G) (t := t) (a := a) (K := K) (x := x) und3 und40))) (And.intro (And.intro (fun {G : Gives} {t : List Value} {a : AW} {K : Note → Value → AW → Prop} {x : Operand} => note_convI (E := Try.prog) (G := G) (t := t) (a := a) (K := K) (x := x) und3 und65) (fun {G : Gives} {t : List Value} {a : AW} {K : Note → Value → AW → Prop} {x : Operand} => note_convI (E := Try.prog) (G := G) (t := t) (a := a) (K := K) (x := x) und40 und2)) (fun {G : Gives} {t : List Value} {a : AW} {K : Note → Value → AW → Prop} {x : Operand} => note_convI (E := Try.prog) (G := G) (t := t) (a := a) (K := K) (x := x) und40 und3))) (And.intro (And.intro (And.intro (fun {G : Gives} {t : List Value} {a : AW} {K : Note → Value → AW → Prop} {x : Operand} => note_convI (E := Try.prog) (G := G) (t := t) (a := a) (K := K) (x := x) und40 und5) (fun {G : Gives} {t : List Value} {a : AW} {K : Note → Value → AW → Prop} {x : Operand} => note_convI (E := Try.prog) (G := G) (t := t) (a := a) (K := K) (x := x) und40 und65)) (fun {G : Gives} {t : List Value} {a : AW} {K : Note → Value → AW → Prop} {x : Operand} => note_convI (E := Try.prog) (G := G) (t := t) (a := a) (K := K) (x := x) und5 und65)) (And.intro (And.intro (fun {G : Gives} {t : List Value} {a : AW} {K : Note → Value → AW → Prop} {x : Operand} => note_convI (E := Try.prog) (G := G) (t := t) (a := a) (K := K) (x := x) und65 und3) (fun {G : Gives} {t : List Value} {a : AW} {K : Note → Value → AW → Prop} {x : Operand} => note_convI (E := Try.prog) (G := G) (t := t) (a := a) (K := K) (x := x) und65 und40)) (fun {G : Gives} {t : List Value} {a : AW} {K : Note → Value → AW → Prop} {x : Operand} => note_convI (E := Try.prog) (G := G) (t := t) (a := a) (K := K) (x := x) und65 und5)))) (And.intro (And.intro (And.intro (And.intro (fun {G : Gives} {t : List Value} {a : AW} {K : Note → Value → AW → Prop} {x : Operand} => note_toBytes (E := Try.prog) (G := G) (t := t) (a := a) (K := K) (x := x) und9 und104 und5) (fun {G : Gives} {t : List Value} {a : AW} {K : Note → Value → AW → Prop} {x : Operand} => note_len (E := Try.prog) (G := G) (t := t) (a := a) (K := K) (x := x) und100 rfl)) (And.intro (fun {G : Gives} {t : List Value} {a : AW} {K : Note → Value → AW → Prop} {x : Operand} => note_len (E := Try.prog) (G := G) (t := t) (a := a) (K := K) (x := x) und104 rfl) (fun {G : Gives} {t : List Value} {a : AW} {K : Note → Value → AW → Prop} {x : Operand} => note_len (E := Try.prog) (G := G) (t := t) (a := a) (K := K) (x := x) und155 rfl))) (And.intro (And.intro (fun {G : Gives} {t : List Value} {a : AW} {K : Note → Value → AW → Prop} {x : Operand} => note_len (E := Try.prog) (G := G) (t := t) (a := a) (K := K) (x := x) und22 rfl) (fun {G : Gives} {t : List Value} {a : AW} {K : Note → Value → AW → Prop} {x : Operand} => note_len (E := Try.prog) (G := G) (t := t) (a := a) (K := K) (x := x) und25 rfl)) (fun {G : Gives} {t : List Value} {a : AW} {K : Note → Value → AW → Prop} {x : Operand} => note_len (E := Try.prog) (G := G) (t := t) (a := a) (K := K) (x := x) und31 rfl))) (And.intro (And.intro (And.intro (fun {G : Gives} {t : List Value} {a : AW} {K : Note → Value → AW → Prop} {x : Operand} => note_len (E := Try.prog) (G := G) (t := t) (a := a) (K := K) (x := x) und33 rfl) (fun {G : Gives} {t : List Value} {a : AW} {K : Note → Value → AW → Prop} {x : Operand} => note_len (E := Try.prog) (G := G) (t := t) (a := a) (K := K) (x := x) und48 rfl)) (fun {G : Gives} {t : List Value} {a : AW} {K : Note → Value → AW → Prop} {x : Operand} => note_len (E := Try.prog) (G := G) (t := t) (a := a) (K := K) (x := x) und51 rfl)) (And.intro (And.intro (fun {G : Gives} {t : List Value} {a : AW} {K : Note → Value → AW → Prop} {x : Operand} => note_len (E := Try.prog) (G := G) (t := t) (a := a) (K := K) (x := x) und61 rfl) (fun {G : Gives} {t : List Value} {a : AW} {K : Note → Value → AW → Prop} {x : Operand} => note_len (E := Try.prog) (G := G) (t := t) (a := a) (K := K) (x := x) und62 rfl)) (fun {G : Gives} {t : List Value} {a : AW} {K : Note → Value → AW → Prop} {x : Operand} => note_len (E := Try.prog) (G := G) (t := t) (a := a) (K := K) (x := x) und9 rfl)))))
end Go.Proofs.YtijmlgccaicblaaAM
