/-
  No cell of these rows narrows 'for every input' (looked for: loops, veiled, ifaces, maps, wideKeys, modest, calm, conditions, laid).
  DERIVED. THE GIVEN ROWS OF THIS SEAT. 5 by the template 'for every input the law returns true; each argument reads behind the call as it read before'; 0 by the template 'total and deterministic' (their statements: YtpcaoohacgkeiaaTotals.lean).
  GIVEN WITH THE SEED: the statements are not yours to turn. If you find one false, say at which input.
  Laid BY PROGRAM, IN A SANDBOX (cutbox-rows.mjs): the forced cells as the released guide's own fill.sh prints them over the translation 041ef73f2abde0a9… (all of the seat's roots in one cut). By AI agents, Wed Nov 11 2026. No macro, syntax, notation, axiom, sorry.
-/
import Derived.Test.YtpcaoohacgkeiaaChecked
import GoSem.Claim
import GoSem.ClaimJoined
import GoSem.ClaimMapViews
import Derived.JoinedTies
import Derived.KernelRfl
namespace Go.Proofs.Ytpcaoohacgkeiaa
/- THE CELL 'sum', in the pinned program and in every row, IS THE sha256 OF THE DUMP (.gsa) THAT YtpcaoohacgkeiaaProg.lean LOADS. Nothing in Lean hashes anything: it is a label: what it is worth is what the hold of that sum in a sandbox is worth. -/
noncomputable def Try.pinned : Pinned := { name := "ytpcaoohacgkeiaa", sum := "041ef73f2abde0a943c3004894d60ec2e38a22d9faae8667e0ed54990de3469a", checked := Try.checked }
namespace Rows
def none {H : Type} : Left H := { results := [], args := [] }

/-- 'careenagelaw06.CatalogBack': WHATEVER THE INPUT: true; the input reads as it did. -/
def catalogBackSpec : ChangeSpec := { name := "catalogBack", fn := fun _ => fun
  | [d1, d2, d3, d4, d5] => { results := [.lit (.bool true)], args := [d1, d2, d3, d4, d5] }
  | _ => none }
def catalogBackRow : OpenClaim := { program := "ytpcaoohacgkeiaa", sum := "041ef73f2abde0a943c3004894d60ec2e38a22d9faae8667e0ed54990de3469a", func := "careenage/careenagelaw06.CatalogBack", spec := "catalogBack", unfollowed := true, recurses := true, apart := false }
def CatalogBackSaid : Prop := catalogBackRow.holds Try.pinned (OpenSpec.ofChange catalogBackSpec)

/-- ITS FALSE NEIGHBOUR: 'it returns false'. Refute it at one input. -/
def catalogBackWrong : ChangeSpec := { name := "catalogBack", fn := fun _ => fun
  | [d1, d2, d3, d4, d5] => { results := [.lit (.bool false)], args := [d1, d2, d3, d4, d5] }
  | _ => none }
def CatalogBackWrongFalsely : Prop := catalogBackRow.holds Try.pinned (OpenSpec.ofChange catalogBackWrong)

/-- 'careenagelaw06.CatalogNames': WHATEVER THE INPUT: true; the input reads as it did. -/
def catalogNamesSpec : ChangeSpec := { name := "catalogNames", fn := fun _ => fun
  | [] => { results := [.lit (.bool true)], args := [] }
  | _ => none }
def catalogNamesRow : OpenClaim := { program := "ytpcaoohacgkeiaa", sum := "041ef73f2abde0a943c3004894d60ec2e38a22d9faae8667e0ed54990de3469a", func := "careenage/careenagelaw06.CatalogNames", spec := "catalogNames", inPlace := ["slices.overlaps[careenage/api.Bucket]"], unfollowed := true, recurses := true, apart := false }
def CatalogNamesSaid : Prop := catalogNamesRow.holds Try.pinned (OpenSpec.ofChange catalogNamesSpec)

/-- ITS FALSE NEIGHBOUR: 'it returns false'. Refute it at one input. -/
def catalogNamesWrong : ChangeSpec := { name := "catalogNames", fn := fun _ => fun
  | [] => { results := [.lit (.bool false)], args := [] }
  | _ => none }
def CatalogNamesWrongFalsely : Prop := catalogNamesRow.holds Try.pinned (OpenSpec.ofChange catalogNamesWrong)

/-- 'careenagelaw06.CatalogCalls': WHATEVER THE INPUT: true; the input reads as it did. -/
def catalogCallsSpec : ChangeSpec := { name := "catalogCalls", fn := fun _ => fun
  | [d1, d2, d3, d4, d5, d6] => { results := [.lit (.bool true)], args := [d1, d2, d3, d4, d5, d6] }
  | _ => none }
def catalogCallsRow : OpenClaim := { program := "ytpcaoohacgkeiaa", sum := "041ef73f2abde0a943c3004894d60ec2e38a22d9faae8667e0ed54990de3469a", func := "careenage/careenagelaw06.CatalogCalls", spec := "catalogCalls", inPlace := ["slices.overlaps[careenage/api.Bucket]"], unfollowed := true, recurses := true, apart := false }
def CatalogCallsSaid : Prop := catalogCallsRow.holds Try.pinned (OpenSpec.ofChange catalogCallsSpec)

/-- ITS FALSE NEIGHBOUR: 'it returns false'. Refute it at one input. -/
def catalogCallsWrong : ChangeSpec := { name := "catalogCalls", fn := fun _ => fun
  | [d1, d2, d3, d4, d5, d6] => { results := [.lit (.bool false)], args := [d1, d2, d3, d4, d5, d6] }
  | _ => none }
def CatalogCallsWrongFalsely : Prop := catalogCallsRow.holds Try.pinned (OpenSpec.ofChange catalogCallsWrong)

/-- 'careenagelaw06.CatalogLost': WHATEVER THE INPUT: true; the input reads as it did. -/
def catalogLostSpec : ChangeSpec := { name := "catalogLost", fn := fun _ => fun
  | [d1, d2, d3, d4] => { results := [.lit (.bool true)], args := [d1, d2, d3, d4] }
  | _ => none }
def catalogLostRow : OpenClaim := { program := "ytpcaoohacgkeiaa", sum := "041ef73f2abde0a943c3004894d60ec2e38a22d9faae8667e0ed54990de3469a", func := "careenage/careenagelaw06.CatalogLost", spec := "catalogLost", inPlace := ["slices.overlaps[careenage/api.Bucket]"], unfollowed := true, recurses := true, apart := false }
def CatalogLostSaid : Prop := catalogLostRow.holds Try.pinned (OpenSpec.ofChange catalogLostSpec)

/-- ITS FALSE NEIGHBOUR: 'it returns false'. Refute it at one input. -/
def catalogLostWrong : ChangeSpec := { name := "catalogLost", fn := fun _ => fun
  | [d1, d2, d3, d4] => { results := [.lit (.bool false)], args := [d1, d2, d3, d4] }
  | _ => none }
def CatalogLostWrongFalsely : Prop := catalogLostRow.holds Try.pinned (OpenSpec.ofChange catalogLostWrong)

/-- 'careenagelaw06.CatalogSets': WHATEVER THE INPUT: true; the input reads as it did. -/
def catalogSetsSpec : ChangeSpec := { name := "catalogSets", fn := fun _ => fun
  | [d1, d2, d3] => { results := [.lit (.bool true)], args := [d1, d2, d3] }
  | _ => none }
def catalogSetsRow : OpenClaim := { program := "ytpcaoohacgkeiaa", sum := "041ef73f2abde0a943c3004894d60ec2e38a22d9faae8667e0ed54990de3469a", func := "careenage/careenagelaw06.CatalogSets", spec := "catalogSets", inPlace := ["slices.overlaps[careenage/api.Bucket]"], unfollowed := true, recurses := true, apart := false }
def CatalogSetsSaid : Prop := catalogSetsRow.holds Try.pinned (OpenSpec.ofChange catalogSetsSpec)

/-- ITS FALSE NEIGHBOUR: 'it returns false'. Refute it at one input. -/
def catalogSetsWrong : ChangeSpec := { name := "catalogSets", fn := fun _ => fun
  | [d1, d2, d3] => { results := [.lit (.bool false)], args := [d1, d2, d3] }
  | _ => none }
def CatalogSetsWrongFalsely : Prop := catalogSetsRow.holds Try.pinned (OpenSpec.ofChange catalogSetsWrong)

/- THE SECOND FORM. 'bulk': how many values and letters a reading holds, each counted each time it is reached (what is shared counts as often as it is met; a slice's spare places count too). A statement '..UptoSaid' is the law's where the arguments, and the package variables that the reading takes, are together of bulk at most 1048576: NARROWER than '..Said'. Prove '..Said' where nothing that the law and all that it calls make is longer than what came in: it says more and counts as full. Else prove '..UptoSaid'. A law counts once. -/
mutual
def uptoBulk {H : Type} : DataW H → Nat
  | .lit (.string bytes) => bytes.length + 1
  | .lit _ => 1
  | .nil => 1
  | .ptr d => uptoBulk d + 1
  | .slice elems spare => uptoBulkAll elems + uptoBulkAll spare + 1
  | .agg parts => uptoBulkAll parts + 1
  | .iface _ d => uptoBulk d + 1
  | .map entries => uptoBulkEntries entries + 1
  | .held _ => 1
def uptoBulkAll {H : Type} : List (DataW H) → Nat
  | [] => 0
  | d :: r => uptoBulk d + uptoBulkAll r
def uptoBulkEntries {H : Type} : List (Lit × DataW H) → Nat
  | [] => 0
  | x :: r => uptoBulkEntry x + uptoBulkEntries r
def uptoBulkEntry {H : Type} : Lit × DataW H → Nat
  | (.string bytes, d) => bytes.length + uptoBulk d + 1
  | (_, d) => uptoBulk d + 1
 end
def uptoSmall : (H : Type) → List (DataW H) → Bool := fun _ ds => decide (uptoBulkAll ds ≤ 1048576)
def OpenSpec.upto (s : _root_.Go.ChangeSpec) : _root_.Go.OpenSpec := { _root_.Go.OpenSpec.ofChange s with cond := some uptoSmall }

/-- 'careenagelaw06.CatalogBack', WHERE WHAT IT READS IS OF BULK AT MOST 1048576: true; the input reads as it did. -/
def catalogBackUptoRow : OpenClaim := { program := "ytpcaoohacgkeiaa", sum := "041ef73f2abde0a943c3004894d60ec2e38a22d9faae8667e0ed54990de3469a", func := "careenage/careenagelaw06.CatalogBack", spec := "catalogBack", unfollowed := true, recurses := true, apart := false, narrowed := true }
def CatalogBackUptoSaid : Prop := catalogBackUptoRow.holds Try.pinned (OpenSpec.upto catalogBackSpec)

/-- 'careenagelaw06.CatalogNames', WHERE WHAT IT READS IS OF BULK AT MOST 1048576: true; the input reads as it did. -/
def catalogNamesUptoRow : OpenClaim := { program := "ytpcaoohacgkeiaa", sum := "041ef73f2abde0a943c3004894d60ec2e38a22d9faae8667e0ed54990de3469a", func := "careenage/careenagelaw06.CatalogNames", spec := "catalogNames", inPlace := ["slices.overlaps[careenage/api.Bucket]"], unfollowed := true, recurses := true, apart := false, narrowed := true }
def CatalogNamesUptoSaid : Prop := catalogNamesUptoRow.holds Try.pinned (OpenSpec.upto catalogNamesSpec)

/-- 'careenagelaw06.CatalogCalls', WHERE WHAT IT READS IS OF BULK AT MOST 1048576: true; the input reads as it did. -/
def catalogCallsUptoRow : OpenClaim := { program := "ytpcaoohacgkeiaa", sum := "041ef73f2abde0a943c3004894d60ec2e38a22d9faae8667e0ed54990de3469a", func := "careenage/careenagelaw06.CatalogCalls", spec := "catalogCalls", inPlace := ["slices.overlaps[careenage/api.Bucket]"], unfollowed := true, recurses := true, apart := false, narrowed := true }
def CatalogCallsUptoSaid : Prop := catalogCallsUptoRow.holds Try.pinned (OpenSpec.upto catalogCallsSpec)

/-- 'careenagelaw06.CatalogLost', WHERE WHAT IT READS IS OF BULK AT MOST 1048576: true; the input reads as it did. -/
def catalogLostUptoRow : OpenClaim := { program := "ytpcaoohacgkeiaa", sum := "041ef73f2abde0a943c3004894d60ec2e38a22d9faae8667e0ed54990de3469a", func := "careenage/careenagelaw06.CatalogLost", spec := "catalogLost", inPlace := ["slices.overlaps[careenage/api.Bucket]"], unfollowed := true, recurses := true, apart := false, narrowed := true }
def CatalogLostUptoSaid : Prop := catalogLostUptoRow.holds Try.pinned (OpenSpec.upto catalogLostSpec)

/-- 'careenagelaw06.CatalogSets', WHERE WHAT IT READS IS OF BULK AT MOST 1048576: true; the input reads as it did. -/
def catalogSetsUptoRow : OpenClaim := { program := "ytpcaoohacgkeiaa", sum := "041ef73f2abde0a943c3004894d60ec2e38a22d9faae8667e0ed54990de3469a", func := "careenage/careenagelaw06.CatalogSets", spec := "catalogSets", inPlace := ["slices.overlaps[careenage/api.Bucket]"], unfollowed := true, recurses := true, apart := false, narrowed := true }
def CatalogSetsUptoSaid : Prop := catalogSetsUptoRow.holds Try.pinned (OpenSpec.upto catalogSetsSpec)

end Rows
end Go.Proofs.Ytpcaoohacgkeiaa
