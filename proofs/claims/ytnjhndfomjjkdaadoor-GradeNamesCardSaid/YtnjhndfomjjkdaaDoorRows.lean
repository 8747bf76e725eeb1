/-
  NARROWER THAN 'FOR EVERY INPUT', by the rows' own cells (each row's printed sentence says how): GradeText: laid · GradeOrder: laid · GradeMore: laid · GradeMeans: laid · GradeNames: laid · GradeCalls: laid.
  DERIVED. THE GIVEN ROWS OF THIS SEAT. 6 by the template 'for every input the law returns true; each argument reads behind the call as it read before'; 0 by the template 'total and deterministic' (their statements: YtnjhndfomjjkdaaDoorTotals.lean).
  GIVEN WITH THE SEED: the statements are not yours to turn. If you find one false, say at which input.
  Laid BY PROGRAM, IN A SANDBOX (cutbox-rows.mjs): the forced cells as the released guide's own fill.sh prints them over the translation caac86d70a3a1a0e… (all of the seat's roots in one cut). By AI agents, Wed Nov 11 2026. No macro, syntax, notation, axiom, sorry.
-/
import Derived.Test.YtnjhndfomjjkdaaDoorChecked
import GoSem.Claim
import GoSem.ClaimJoined
import GoSem.ClaimMapViews
import Derived.JoinedTies
import Derived.KernelRfl
namespace Go.Proofs.YtnjhndfomjjkdaaDoor
/- THE CELL 'sum', in the pinned program and in every row, IS THE sha256 OF THE DUMP (.gsa) THAT YtnjhndfomjjkdaaDoorProg.lean LOADS. Nothing in Lean hashes anything: it is a label: what it is worth is what the hold of that sum in a sandbox is worth. -/
noncomputable def Tryd.pinned : Pinned := { name := "ytnjhndfomjjkdaadoor", sum := "caac86d70a3a1a0e2b75070b8cc95da6624d43263d4befb11c84e83cf0276eac", checked := Tryd.checked }
namespace Rows
def none {H : Type} : Left H := { results := [], args := [] }

/- WHAT THE LISTED PACKAGE-LEVEL VARIABLES READ AS WHEN THE CALL BEGINS. Each datum BY PROGRAM (the guide's laid-datum.mjs) off the statement by which the dump's own 'gosem.cut.vars' lays the variable. In a bare row this is a premise. The card (YtnjhndfomjjkdaaDoorCards.lean) ties it to the program's text. -/
def laid_math_bits_deBruijn32tab {H : Type} : DataW H := .agg [.lit (.int .u8 0), .lit (.int .u8 1), .lit (.int .u8 28), .lit (.int .u8 2), .lit (.int .u8 29), .lit (.int .u8 14), .lit (.int .u8 24), .lit (.int .u8 3), .lit (.int .u8 30), .lit (.int .u8 22), .lit (.int .u8 20), .lit (.int .u8 15), .lit (.int .u8 25), .lit (.int .u8 17), .lit (.int .u8 4), .lit (.int .u8 8), .lit (.int .u8 31), .lit (.int .u8 27), .lit (.int .u8 13), .lit (.int .u8 23), .lit (.int .u8 21), .lit (.int .u8 19), .lit (.int .u8 16), .lit (.int .u8 7), .lit (.int .u8 26), .lit (.int .u8 12), .lit (.int .u8 18), .lit (.int .u8 6), .lit (.int .u8 11), .lit (.int .u8 5), .lit (.int .u8 10), .lit (.int .u8 9)]
def laid_math_bits_deBruijn64tab {H : Type} : DataW H := .agg [.lit (.int .u8 0), .lit (.int .u8 1), .lit (.int .u8 56), .lit (.int .u8 2), .lit (.int .u8 57), .lit (.int .u8 49), .lit (.int .u8 28), .lit (.int .u8 3), .lit (.int .u8 61), .lit (.int .u8 58), .lit (.int .u8 42), .lit (.int .u8 50), .lit (.int .u8 38), .lit (.int .u8 29), .lit (.int .u8 17), .lit (.int .u8 4), .lit (.int .u8 62), .lit (.int .u8 47), .lit (.int .u8 59), .lit (.int .u8 36), .lit (.int .u8 45), .lit (.int .u8 43), .lit (.int .u8 51), .lit (.int .u8 22), .lit (.int .u8 53), .lit (.int .u8 39), .lit (.int .u8 33), .lit (.int .u8 30), .lit (.int .u8 24), .lit (.int .u8 18), .lit (.int .u8 12), .lit (.int .u8 5), .lit (.int .u8 63), .lit (.int .u8 55), .lit (.int .u8 48), .lit (.int .u8 27), .lit (.int .u8 60), .lit (.int .u8 41), .lit (.int .u8 37), .lit (.int .u8 16), .lit (.int .u8 46), .lit (.int .u8 35), .lit (.int .u8 44), .lit (.int .u8 21), .lit (.int .u8 52), .lit (.int .u8 32), .lit (.int .u8 23), .lit (.int .u8 11), .lit (.int .u8 54), .lit (.int .u8 26), .lit (.int .u8 40), .lit (.int .u8 15), .lit (.int .u8 34), .lit (.int .u8 20), .lit (.int .u8 31), .lit (.int .u8 10), .lit (.int .u8 25), .lit (.int .u8 14), .lit (.int .u8 19), .lit (.int .u8 9), .lit (.int .u8 13), .lit (.int .u8 8), .lit (.int .u8 7), .lit (.int .u8 6)]
def laid_internal_strconv_uint64pow10 {H : Type} : DataW H := .agg [.lit (.int .u64 1), .lit (.int .u64 10), .lit (.int .u64 100), .lit (.int .u64 1000), .lit (.int .u64 10000), .lit (.int .u64 100000), .lit (.int .u64 1000000), .lit (.int .u64 10000000), .lit (.int .u64 100000000), .lit (.int .u64 1000000000), .lit (.int .u64 10000000000), .lit (.int .u64 100000000000), .lit (.int .u64 1000000000000), .lit (.int .u64 10000000000000), .lit (.int .u64 100000000000000), .lit (.int .u64 1000000000000000), .lit (.int .u64 10000000000000000), .lit (.int .u64 100000000000000000), .lit (.int .u64 1000000000000000000), .lit (.int .u64 10000000000000000000)]

/-- 'careenagelaw22.GradeText': WHATEVER THE INPUT: true; the input reads as it did. -/
def gradeTextSpec : ChangeSpec := { name := "gradeText", fn := fun _ => fun
  | [d1, d2, d3] => { results := [.lit (.bool true)], args := [d1, d2, d3] }
  | _ => none }
def gradeTextRow : OpenClaim := { program := "ytnjhndfomjjkdaadoor", sum := "caac86d70a3a1a0e2b75070b8cc95da6624d43263d4befb11c84e83cf0276eac", func := "careenage/careenagelaw22.GradeText", spec := "gradeText", recurses := true, named := ["internal/strconv.uint64pow10", "math/bits.deBruijn32tab", "math/bits.deBruijn64tab"], apart := false, laid := [("math/bits.deBruijn32tab", laid_math_bits_deBruijn32tab), ("math/bits.deBruijn64tab", laid_math_bits_deBruijn64tab), ("internal/strconv.uint64pow10", laid_internal_strconv_uint64pow10)] }
def GradeTextSaid : Prop := gradeTextRow.holds Tryd.pinned (OpenSpec.ofChange gradeTextSpec)

/-- ITS FALSE NEIGHBOUR: 'it returns false'. Refute it at one input. -/
def gradeTextWrong : ChangeSpec := { name := "gradeText", fn := fun _ => fun
  | [d1, d2, d3] => { results := [.lit (.bool false)], args := [d1, d2, d3] }
  | _ => none }
def GradeTextWrongFalsely : Prop := gradeTextRow.holds Tryd.pinned (OpenSpec.ofChange gradeTextWrong)

/-- 'careenagelaw22.GradeOrder': WHATEVER THE INPUT: true; the input reads as it did. -/
def gradeOrderSpec : ChangeSpec := { name := "gradeOrder", fn := fun _ => fun
  | [d1, d2, d3] => { results := [.lit (.bool true)], args := [d1, d2, d3] }
  | _ => none }
def gradeOrderRow : OpenClaim := { program := "ytnjhndfomjjkdaadoor", sum := "caac86d70a3a1a0e2b75070b8cc95da6624d43263d4befb11c84e83cf0276eac", func := "careenage/careenagelaw22.GradeOrder", spec := "gradeOrder", inPlace := ["math.Float64bits"], named := ["internal/strconv.uint64pow10", "math/bits.deBruijn32tab", "math/bits.deBruijn64tab"], apart := false, laid := [("math/bits.deBruijn32tab", laid_math_bits_deBruijn32tab), ("math/bits.deBruijn64tab", laid_math_bits_deBruijn64tab), ("internal/strconv.uint64pow10", laid_internal_strconv_uint64pow10)] }
def GradeOrderSaid : Prop := gradeOrderRow.holds Tryd.pinned (OpenSpec.ofChange gradeOrderSpec)

/-- ITS FALSE NEIGHBOUR: 'it returns false'. Refute it at one input. -/
def gradeOrderWrong : ChangeSpec := { name := "gradeOrder", fn := fun _ => fun
  | [d1, d2, d3] => { results := [.lit (.bool false)], args := [d1, d2, d3] }
  | _ => none }
def GradeOrderWrongFalsely : Prop := gradeOrderRow.holds Tryd.pinned (OpenSpec.ofChange gradeOrderWrong)

/-- 'careenagelaw22.GradeMore': WHATEVER THE INPUT: true; the input reads as it did. -/
def gradeMoreSpec : ChangeSpec := { name := "gradeMore", fn := fun _ => fun
  | [d1, d2, d3, d4] => { results := [.lit (.bool true)], args := [d1, d2, d3, d4] }
  | _ => none }
def gradeMoreRow : OpenClaim := { program := "ytnjhndfomjjkdaadoor", sum := "caac86d70a3a1a0e2b75070b8cc95da6624d43263d4befb11c84e83cf0276eac", func := "careenage/careenagelaw22.GradeMore", spec := "gradeMore", inPlace := ["math.Float64bits"], named := ["internal/strconv.uint64pow10", "math/bits.deBruijn32tab", "math/bits.deBruijn64tab"], apart := false, laid := [("math/bits.deBruijn32tab", laid_math_bits_deBruijn32tab), ("math/bits.deBruijn64tab", laid_math_bits_deBruijn64tab), ("internal/strconv.uint64pow10", laid_internal_strconv_uint64pow10)] }
def GradeMoreSaid : Prop := gradeMoreRow.holds Tryd.pinned (OpenSpec.ofChange gradeMoreSpec)

/-- ITS FALSE NEIGHBOUR: 'it returns false'. Refute it at one input. -/
def gradeMoreWrong : ChangeSpec := { name := "gradeMore", fn := fun _ => fun
  | [d1, d2, d3, d4] => { results := [.lit (.bool false)], args := [d1, d2, d3, d4] }
  | _ => none }
def GradeMoreWrongFalsely : Prop := gradeMoreRow.holds Tryd.pinned (OpenSpec.ofChange gradeMoreWrong)

/-- 'careenagelaw22.GradeMeans': WHATEVER THE INPUT: true; the input reads as it did. -/
def gradeMeansSpec : ChangeSpec := { name := "gradeMeans", fn := fun _ => fun
  | [d1, d2, d3, d4, d5] => { results := [.lit (.bool true)], args := [d1, d2, d3, d4, d5] }
  | _ => none }
def gradeMeansRow : OpenClaim := { program := "ytnjhndfomjjkdaadoor", sum := "caac86d70a3a1a0e2b75070b8cc95da6624d43263d4befb11c84e83cf0276eac", func := "careenage/careenagelaw22.GradeMeans", spec := "gradeMeans", inPlace := ["math.Float64bits"], named := ["internal/strconv.uint64pow10", "math/bits.deBruijn32tab", "math/bits.deBruijn64tab"], apart := false, laid := [("math/bits.deBruijn32tab", laid_math_bits_deBruijn32tab), ("math/bits.deBruijn64tab", laid_math_bits_deBruijn64tab), ("internal/strconv.uint64pow10", laid_internal_strconv_uint64pow10)] }
def GradeMeansSaid : Prop := gradeMeansRow.holds Tryd.pinned (OpenSpec.ofChange gradeMeansSpec)

/-- ITS FALSE NEIGHBOUR: 'it returns false'. Refute it at one input. -/
def gradeMeansWrong : ChangeSpec := { name := "gradeMeans", fn := fun _ => fun
  | [d1, d2, d3, d4, d5] => { results := [.lit (.bool false)], args := [d1, d2, d3, d4, d5] }
  | _ => none }
def GradeMeansWrongFalsely : Prop := gradeMeansRow.holds Tryd.pinned (OpenSpec.ofChange gradeMeansWrong)

/-- 'careenagelaw22.GradeNames': WHATEVER THE INPUT: true; the input reads as it did. -/
def gradeNamesSpec : ChangeSpec := { name := "gradeNames", fn := fun _ => fun
  | [] => { results := [.lit (.bool true)], args := [] }
  | _ => none }
def gradeNamesRow : OpenClaim := { program := "ytnjhndfomjjkdaadoor", sum := "caac86d70a3a1a0e2b75070b8cc95da6624d43263d4befb11c84e83cf0276eac", func := "careenage/careenagelaw22.GradeNames", spec := "gradeNames", inPlace := ["math.Float64bits"], named := ["internal/strconv.uint64pow10", "math/bits.deBruijn32tab", "math/bits.deBruijn64tab"], apart := false, laid := [("math/bits.deBruijn32tab", laid_math_bits_deBruijn32tab), ("math/bits.deBruijn64tab", laid_math_bits_deBruijn64tab), ("internal/strconv.uint64pow10", laid_internal_strconv_uint64pow10)] }
def GradeNamesSaid : Prop := gradeNamesRow.holds Tryd.pinned (OpenSpec.ofChange gradeNamesSpec)

/-- ITS FALSE NEIGHBOUR: 'it returns false'. Refute it at one input. -/
def gradeNamesWrong : ChangeSpec := { name := "gradeNames", fn := fun _ => fun
  | [] => { results := [.lit (.bool false)], args := [] }
  | _ => none }
def GradeNamesWrongFalsely : Prop := gradeNamesRow.holds Tryd.pinned (OpenSpec.ofChange gradeNamesWrong)

/-- 'careenagelaw22.GradeCalls': WHATEVER THE INPUT: true; the input reads as it did. -/
def gradeCallsSpec : ChangeSpec := { name := "gradeCalls", fn := fun _ => fun
  | [d1, d2, d3, d4, d5, d6] => { results := [.lit (.bool true)], args := [d1, d2, d3, d4, d5, d6] }
  | _ => none }
def gradeCallsRow : OpenClaim := { program := "ytnjhndfomjjkdaadoor", sum := "caac86d70a3a1a0e2b75070b8cc95da6624d43263d4befb11c84e83cf0276eac", func := "careenage/careenagelaw22.GradeCalls", spec := "gradeCalls", inPlace := ["math.Float64bits"], recurses := true, named := ["internal/strconv.uint64pow10", "math/bits.deBruijn32tab", "math/bits.deBruijn64tab"], apart := false, laid := [("math/bits.deBruijn32tab", laid_math_bits_deBruijn32tab), ("math/bits.deBruijn64tab", laid_math_bits_deBruijn64tab), ("internal/strconv.uint64pow10", laid_internal_strconv_uint64pow10)] }
def GradeCallsSaid : Prop := gradeCallsRow.holds Tryd.pinned (OpenSpec.ofChange gradeCallsSpec)

/-- ITS FALSE NEIGHBOUR: 'it returns false'. Refute it at one input. -/
def gradeCallsWrong : ChangeSpec := { name := "gradeCalls", fn := fun _ => fun
  | [d1, d2, d3, d4, d5, d6] => { results := [.lit (.bool false)], args := [d1, d2, d3, d4, d5, d6] }
  | _ => none }
def GradeCallsWrongFalsely : Prop := gradeCallsRow.holds Tryd.pinned (OpenSpec.ofChange gradeCallsWrong)

/- THE SECOND FORM. 'bulk': how many values and letters a reading holds, each counted each time it is reached (what is shared counts as often as it is met; a slice's spare places count too). A statement '..UptoSaid' is the law's where the arguments, and the package variables that the reading takes, are together of bulk at most 1048576: NARROWER than '..Said'. Prove '..Said' where nothing that the law and all that it calls make is longer than what came in: it says more and counts as full. Else prove '..UptoSaid'. A law counts once. -/
mutual
def uptoBulk {H : Type} : DataW H → Nat
  | .lit (.string bytes) => bytes.length + 1
  | .lit _ => 1
  | .nil => 1
  | .ptr d => uptoBulk d + 1
  | .slice elems spare => uptoBulkAll elems + uptoBulkAll spare + 1
  | .agg parts => uptoBulkAll parts + 1
  | .iface _ d => uptoBulk d + 1
  | .map entries => uptoBulkEntries entries + 1
  | .held _ => 1
def uptoBulkAll {H : Type} : List (DataW H) → Nat
  | [] => 0
  | d :: r => uptoBulk d + uptoBulkAll r
def uptoBulkEntries {H : Type} : List (Lit × DataW H) → Nat
  | [] => 0
  | x :: r => uptoBulkEntry x + uptoBulkEntries r
def uptoBulkEntry {H : Type} : Lit × DataW H → Nat
  | (.string bytes, d) => bytes.length + uptoBulk d + 1
  | (_, d) => uptoBulk d + 1
 end
def uptoSmall : (H : Type) → List (DataW H) → Bool := fun _ ds => decide (uptoBulkAll ds ≤ 1048576)
def OpenSpec.upto (s : _root_.Go.ChangeSpec) : _root_.Go.OpenSpec := { _root_.Go.OpenSpec.ofChange s with cond := some uptoSmall }

/-- 'careenagelaw22.GradeText', WHERE WHAT IT READS IS OF BULK AT MOST 1048576: true; the input reads as it did. -/
def gradeTextUptoRow : OpenClaim := { program := "ytnjhndfomjjkdaadoor", sum := "caac86d70a3a1a0e2b75070b8cc95da6624d43263d4befb11c84e83cf0276eac", func := "careenage/careenagelaw22.GradeText", spec := "gradeText", recurses := true, named := ["internal/strconv.uint64pow10", "math/bits.deBruijn32tab", "math/bits.deBruijn64tab"], apart := false, laid := [("math/bits.deBruijn32tab", laid_math_bits_deBruijn32tab), ("math/bits.deBruijn64tab", laid_math_bits_deBruijn64tab), ("internal/strconv.uint64pow10", laid_internal_strconv_uint64pow10)], narrowed := true }
def GradeTextUptoSaid : Prop := gradeTextUptoRow.holds Tryd.pinned (OpenSpec.upto gradeTextSpec)

/-- 'careenagelaw22.GradeOrder', WHERE WHAT IT READS IS OF BULK AT MOST 1048576: true; the input reads as it did. -/
def gradeOrderUptoRow : OpenClaim := { program := "ytnjhndfomjjkdaadoor", sum := "caac86d70a3a1a0e2b75070b8cc95da6624d43263d4befb11c84e83cf0276eac", func := "careenage/careenagelaw22.GradeOrder", spec := "gradeOrder", inPlace := ["math.Float64bits"], named := ["internal/strconv.uint64pow10", "math/bits.deBruijn32tab", "math/bits.deBruijn64tab"], apart := false, laid := [("math/bits.deBruijn32tab", laid_math_bits_deBruijn32tab), ("math/bits.deBruijn64tab", laid_math_bits_deBruijn64tab), ("internal/strconv.uint64pow10", laid_internal_strconv_uint64pow10)], narrowed := true }
def GradeOrderUptoSaid : Prop := gradeOrderUptoRow.holds Tryd.pinned (OpenSpec.upto gradeOrderSpec)

/-- 'careenagelaw22.GradeMore', WHERE WHAT IT READS IS OF BULK AT MOST 1048576: true; the input reads as it did. -/
def gradeMoreUptoRow : OpenClaim := { program := "ytnjhndfomjjkdaadoor", sum := "caac86d70a3a1a0e2b75070b8cc95da6624d43263d4befb11c84e83cf0276eac", func := "careenage/careenagelaw22.GradeMore", spec := "gradeMore", inPlace := ["math.Float64bits"], named := ["internal/strconv.uint64pow10", "math/bits.deBruijn32tab", "math/bits.deBruijn64tab"], apart := false, laid := [("math/bits.deBruijn32tab", laid_math_bits_deBruijn32tab), ("math/bits.deBruijn64tab", laid_math_bits_deBruijn64tab), ("internal/strconv.uint64pow10", laid_internal_strconv_uint64pow10)], narrowed := true }
def GradeMoreUptoSaid : Prop := gradeMoreUptoRow.holds Tryd.pinned (OpenSpec.upto gradeMoreSpec)

/-- 'careenagelaw22.GradeMeans', WHERE WHAT IT READS IS OF BULK AT MOST 1048576: true; the input reads as it did. -/
def gradeMeansUptoRow : OpenClaim := { program := "ytnjhndfomjjkdaadoor", sum := "caac86d70a3a1a0e2b75070b8cc95da6624d43263d4befb11c84e83cf0276eac", func := "careenage/careenagelaw22.GradeMeans", spec := "gradeMeans", inPlace := ["math.Float64bits"], named := ["internal/strconv.uint64pow10", "math/bits.deBruijn32tab", "math/bits.deBruijn64tab"], apart := false, laid := [("math/bits.deBruijn32tab", laid_math_bits_deBruijn32tab), ("math/bits.deBruijn64tab", laid_math_bits_deBruijn64tab), ("internal/strconv.uint64pow10", laid_internal_strconv_uint64pow10)], narrowed := true }
def GradeMeansUptoSaid : Prop := gradeMeansUptoRow.holds Tryd.pinned (OpenSpec.upto gradeMeansSpec)

/-- 'careenagelaw22.GradeNames', WHERE WHAT IT READS IS OF BULK AT MOST 1048576: true; the input reads as it did. -/
def gradeNamesUptoRow : OpenClaim := { program := "ytnjhndfomjjkdaadoor", sum := "caac86d70a3a1a0e2b75070b8cc95da6624d43263d4befb11c84e83cf0276eac", func := "careenage/careenagelaw22.GradeNames", spec := "gradeNames", inPlace := ["math.Float64bits"], named := ["internal/strconv.uint64pow10", "math/bits.deBruijn32tab", "math/bits.deBruijn64tab"], apart := false, laid := [("math/bits.deBruijn32tab", laid_math_bits_deBruijn32tab), ("math/bits.deBruijn64tab", laid_math_bits_deBruijn64tab), ("internal/strconv.uint64pow10", laid_internal_strconv_uint64pow10)], narrowed := true }
def GradeNamesUptoSaid : Prop := gradeNamesUptoRow.holds Tryd.pinned (OpenSpec.upto gradeNamesSpec)

/-- 'careenagelaw22.GradeCalls', WHERE WHAT IT READS IS OF BULK AT MOST 1048576: true; the input reads as it did. -/
def gradeCallsUptoRow : OpenClaim := { program := "ytnjhndfomjjkdaadoor", sum := "caac86d70a3a1a0e2b75070b8cc95da6624d43263d4befb11c84e83cf0276eac", func := "careenage/careenagelaw22.GradeCalls", spec := "gradeCalls", inPlace := ["math.Float64bits"], recurses := true, named := ["internal/strconv.uint64pow10", "math/bits.deBruijn32tab", "math/bits.deBruijn64tab"], apart := false, laid := [("math/bits.deBruijn32tab", laid_math_bits_deBruijn32tab), ("math/bits.deBruijn64tab", laid_math_bits_deBruijn64tab), ("internal/strconv.uint64pow10", laid_internal_strconv_uint64pow10)], narrowed := true }
def GradeCallsUptoSaid : Prop := gradeCallsUptoRow.holds Tryd.pinned (OpenSpec.upto gradeCallsSpec)

end Rows
end Go.Proofs.YtnjhndfomjjkdaaDoor
