/-
  No cell of these rows narrows 'for every input' (looked for: loops, veiled, ifaces, maps, wideKeys, modest, calm, conditions, laid).
  DERIVED. THE GIVEN ROWS OF THIS SEAT. 6 by the template 'for every input the law returns true; each argument reads behind the call as it read before'; 0 by the template 'total and deterministic' (their statements: YtlbmjpmonaekgaaTotals.lean).
  GIVEN WITH THE SEED: the statements are not yours to turn. If you find one false, say at which input.
  Laid BY PROGRAM, IN A SANDBOX (cutbox-rows.mjs): the forced cells as the released guide's own fill.sh prints them over the translation be50988ed4bfcc8a… (all of the seat's roots in one cut). By AI agents, Wed Nov 11 2026. No macro, syntax, notation, axiom, sorry.
-/
import Derived.Test.YtlbmjpmonaekgaaChecked
import GoSem.Claim
import GoSem.ClaimJoined
import GoSem.ClaimMapViews
import Derived.JoinedTies
import Derived.KernelRfl
namespace Go.Proofs.Ytlbmjpmonaekgaa
/- THE CELL 'sum', in the pinned program and in every row, IS THE sha256 OF THE DUMP (.gsa) THAT YtlbmjpmonaekgaaProg.lean LOADS. Nothing in Lean hashes anything: it is a label: what it is worth is what the hold of that sum in a sandbox is worth. -/
noncomputable def Try.pinned : Pinned := { name := "ytlbmjpmonaekgaa", sum := "be50988ed4bfcc8afff10da0c36ee3e85c4ffef250c755569ac9b9ff0ef04aea", checked := Try.checked }
namespace Rows
def none {H : Type} : Left H := { results := [], args := [] }

/-- 'careenagelaw14.AllocOnce': WHATEVER THE INPUT: true; the input reads as it did. -/
def allocOnceSpec : ChangeSpec := { name := "allocOnce", fn := fun _ => fun
  | [d1, d2] => { results := [.lit (.bool true)], args := [d1, d2] }
  | _ => none }
def allocOnceRow : OpenClaim := { program := "ytlbmjpmonaekgaa", sum := "be50988ed4bfcc8afff10da0c36ee3e85c4ffef250c755569ac9b9ff0ef04aea", func := "careenage/careenagelaw14.AllocOnce", spec := "allocOnce", inPlace := ["slices.overlaps[uint32]"], unfollowed := true, recurses := true, apart := false }
def AllocOnceSaid : Prop := allocOnceRow.holds Try.pinned (OpenSpec.ofChange allocOnceSpec)

/-- ITS FALSE NEIGHBOUR: 'it returns false'. Refute it at one input. -/
def allocOnceWrong : ChangeSpec := { name := "allocOnce", fn := fun _ => fun
  | [d1, d2] => { results := [.lit (.bool false)], args := [d1, d2] }
  | _ => none }
def AllocOnceWrongFalsely : Prop := allocOnceRow.holds Try.pinned (OpenSpec.ofChange allocOnceWrong)

/-- 'careenagelaw14.AllocScript': WHATEVER THE INPUT: true; the input reads as it did. -/
def allocScriptSpec : ChangeSpec := { name := "allocScript", fn := fun _ => fun
  | [d1, d2, d3, d4] => { results := [.lit (.bool true)], args := [d1, d2, d3, d4] }
  | _ => none }
def allocScriptRow : OpenClaim := { program := "ytlbmjpmonaekgaa", sum := "be50988ed4bfcc8afff10da0c36ee3e85c4ffef250c755569ac9b9ff0ef04aea", func := "careenage/careenagelaw14.AllocScript", spec := "allocScript", inPlace := ["slices.overlaps[uint32]"], unfollowed := true, recurses := true, apart := false }
def AllocScriptSaid : Prop := allocScriptRow.holds Try.pinned (OpenSpec.ofChange allocScriptSpec)

/-- ITS FALSE NEIGHBOUR: 'it returns false'. Refute it at one input. -/
def allocScriptWrong : ChangeSpec := { name := "allocScript", fn := fun _ => fun
  | [d1, d2, d3, d4] => { results := [.lit (.bool false)], args := [d1, d2, d3, d4] }
  | _ => none }
def AllocScriptWrongFalsely : Prop := allocScriptRow.holds Try.pinned (OpenSpec.ofChange allocScriptWrong)

/-- 'careenagelaw14.AllocLeft': WHATEVER THE INPUT: true; the input reads as it did. -/
def allocLeftSpec : ChangeSpec := { name := "allocLeft", fn := fun _ => fun
  | [d1, d2] => { results := [.lit (.bool true)], args := [d1, d2] }
  | _ => none }
def allocLeftRow : OpenClaim := { program := "ytlbmjpmonaekgaa", sum := "be50988ed4bfcc8afff10da0c36ee3e85c4ffef250c755569ac9b9ff0ef04aea", func := "careenage/careenagelaw14.AllocLeft", spec := "allocLeft", inPlace := ["slices.overlaps[uint32]"], unfollowed := true, recurses := true, apart := false }
def AllocLeftSaid : Prop := allocLeftRow.holds Try.pinned (OpenSpec.ofChange allocLeftSpec)

/-- ITS FALSE NEIGHBOUR: 'it returns false'. Refute it at one input. -/
def allocLeftWrong : ChangeSpec := { name := "allocLeft", fn := fun _ => fun
  | [d1, d2] => { results := [.lit (.bool false)], args := [d1, d2] }
  | _ => none }
def AllocLeftWrongFalsely : Prop := allocLeftRow.holds Try.pinned (OpenSpec.ofChange allocLeftWrong)

/-- 'careenagelaw14.AllocNext': WHATEVER THE INPUT: true; the input reads as it did. -/
def allocNextSpec : ChangeSpec := { name := "allocNext", fn := fun _ => fun
  | [d1, d2, d3] => { results := [.lit (.bool true)], args := [d1, d2, d3] }
  | _ => none }
def allocNextRow : OpenClaim := { program := "ytlbmjpmonaekgaa", sum := "be50988ed4bfcc8afff10da0c36ee3e85c4ffef250c755569ac9b9ff0ef04aea", func := "careenage/careenagelaw14.AllocNext", spec := "allocNext", inPlace := ["slices.overlaps[uint32]"], unfollowed := true, recurses := true, apart := false }
def AllocNextSaid : Prop := allocNextRow.holds Try.pinned (OpenSpec.ofChange allocNextSpec)

/-- ITS FALSE NEIGHBOUR: 'it returns false'. Refute it at one input. -/
def allocNextWrong : ChangeSpec := { name := "allocNext", fn := fun _ => fun
  | [d1, d2, d3] => { results := [.lit (.bool false)], args := [d1, d2, d3] }
  | _ => none }
def AllocNextWrongFalsely : Prop := allocNextRow.holds Try.pinned (OpenSpec.ofChange allocNextWrong)

/-- 'careenagelaw14.AllocNames': WHATEVER THE INPUT: true; the input reads as it did. -/
def allocNamesSpec : ChangeSpec := { name := "allocNames", fn := fun _ => fun
  | [] => { results := [.lit (.bool true)], args := [] }
  | _ => none }
def allocNamesRow : OpenClaim := { program := "ytlbmjpmonaekgaa", sum := "be50988ed4bfcc8afff10da0c36ee3e85c4ffef250c755569ac9b9ff0ef04aea", func := "careenage/careenagelaw14.AllocNames", spec := "allocNames", inPlace := ["slices.overlaps[uint32]", "maps.clone"], unfollowed := true, recurses := true, apart := false }
def AllocNamesSaid : Prop := allocNamesRow.holds Try.pinned (OpenSpec.ofChange allocNamesSpec)

/-- ITS FALSE NEIGHBOUR: 'it returns false'. Refute it at one input. -/
def allocNamesWrong : ChangeSpec := { name := "allocNames", fn := fun _ => fun
  | [] => { results := [.lit (.bool false)], args := [] }
  | _ => none }
def AllocNamesWrongFalsely : Prop := allocNamesRow.holds Try.pinned (OpenSpec.ofChange allocNamesWrong)

/-- 'careenagelaw14.AllocCopies': WHATEVER THE INPUT: true; the input reads as it did. -/
def allocCopiesSpec : ChangeSpec := { name := "allocCopies", fn := fun _ => fun
  | [d1, d2, d3] => { results := [.lit (.bool true)], args := [d1, d2, d3] }
  | _ => none }
def allocCopiesRow : OpenClaim := { program := "ytlbmjpmonaekgaa", sum := "be50988ed4bfcc8afff10da0c36ee3e85c4ffef250c755569ac9b9ff0ef04aea", func := "careenage/careenagelaw14.AllocCopies", spec := "allocCopies", inPlace := ["slices.overlaps[uint32]", "maps.clone"], unfollowed := true, recurses := true, apart := false }
def AllocCopiesSaid : Prop := allocCopiesRow.holds Try.pinned (OpenSpec.ofChange allocCopiesSpec)

/-- ITS FALSE NEIGHBOUR: 'it returns false'. Refute it at one input. -/
def allocCopiesWrong : ChangeSpec := { name := "allocCopies", fn := fun _ => fun
  | [d1, d2, d3] => { results := [.lit (.bool false)], args := [d1, d2, d3] }
  | _ => none }
def AllocCopiesWrongFalsely : Prop := allocCopiesRow.holds Try.pinned (OpenSpec.ofChange allocCopiesWrong)

/- THE SECOND FORM. 'bulk': how many values and letters a reading holds, each counted each time it is reached (what is shared counts as often as it is met; a slice's spare places count too). A statement '..UptoSaid' is the law's where the arguments, and the package variables that the reading takes, are together of bulk at most 1048576: NARROWER than '..Said'. Prove '..Said' where nothing that the law and all that it calls make is longer than what came in: it says more and counts as full. Else prove '..UptoSaid'. A law counts once. -/
mutual
def uptoBulk {H : Type} : DataW H → Nat
  | .lit (.string bytes) => bytes.length + 1
  | .lit _ => 1
  | .nil => 1
  | .ptr d => uptoBulk d + 1
  | .slice elems spare => uptoBulkAll elems + uptoBulkAll spare + 1
  | .agg parts => uptoBulkAll parts + 1
  | .iface _ d => uptoBulk d + 1
  | .map entries => uptoBulkEntries entries + 1
  | .held _ => 1
def uptoBulkAll {H : Type} : List (DataW H) → Nat
  | [] => 0
  | d :: r => uptoBulk d + uptoBulkAll r
def uptoBulkEntries {H : Type} : List (Lit × DataW H) → Nat
  | [] => 0
  | x :: r => uptoBulkEntry x + uptoBulkEntries r
def uptoBulkEntry {H : Type} : Lit × DataW H → Nat
  | (.string bytes, d) => bytes.length + uptoBulk d + 1
  | (_, d) => uptoBulk d + 1
 end
def uptoSmall : (H : Type) → List (DataW H) → Bool := fun _ ds => decide (uptoBulkAll ds ≤ 1048576)
def OpenSpec.upto (s : _root_.Go.ChangeSpec) : _root_.Go.OpenSpec := { _root_.Go.OpenSpec.ofChange s with cond := some uptoSmall }

/-- 'careenagelaw14.AllocOnce', WHERE WHAT IT READS IS OF BULK AT MOST 1048576: true; the input reads as it did. -/
def allocOnceUptoRow : OpenClaim := { program := "ytlbmjpmonaekgaa", sum := "be50988ed4bfcc8afff10da0c36ee3e85c4ffef250c755569ac9b9ff0ef04aea", func := "careenage/careenagelaw14.AllocOnce", spec := "allocOnce", inPlace := ["slices.overlaps[uint32]"], unfollowed := true, recurses := true, apart := false, narrowed := true }
def AllocOnceUptoSaid : Prop := allocOnceUptoRow.holds Try.pinned (OpenSpec.upto allocOnceSpec)

/-- 'careenagelaw14.AllocScript', WHERE WHAT IT READS IS OF BULK AT MOST 1048576: true; the input reads as it did. -/
def allocScriptUptoRow : OpenClaim := { program := "ytlbmjpmonaekgaa", sum := "be50988ed4bfcc8afff10da0c36ee3e85c4ffef250c755569ac9b9ff0ef04aea", func := "careenage/careenagelaw14.AllocScript", spec := "allocScript", inPlace := ["slices.overlaps[uint32]"], unfollowed := true, recurses := true, apart := false, narrowed := true }
def AllocScriptUptoSaid : Prop := allocScriptUptoRow.holds Try.pinned (OpenSpec.upto allocScriptSpec)

/-- 'careenagelaw14.AllocLeft', WHERE WHAT IT READS IS OF BULK AT MOST 1048576: true; the input reads as it did. -/
def allocLeftUptoRow : OpenClaim := { program := "ytlbmjpmonaekgaa", sum := "be50988ed4bfcc8afff10da0c36ee3e85c4ffef250c755569ac9b9ff0ef04aea", func := "careenage/careenagelaw14.AllocLeft", spec := "allocLeft", inPlace := ["slices.overlaps[uint32]"], unfollowed := true, recurses := true, apart := false, narrowed := true }
def AllocLeftUptoSaid : Prop := allocLeftUptoRow.holds Try.pinned (OpenSpec.upto allocLeftSpec)

/-- 'careenagelaw14.AllocNext', WHERE WHAT IT READS IS OF BULK AT MOST 1048576: true; the input reads as it did. -/
def allocNextUptoRow : OpenClaim := { program := "ytlbmjpmonaekgaa", sum := "be50988ed4bfcc8afff10da0c36ee3e85c4ffef250c755569ac9b9ff0ef04aea", func := "careenage/careenagelaw14.AllocNext", spec := "allocNext", inPlace := ["slices.overlaps[uint32]"], unfollowed := true, recurses := true, apart := false, narrowed := true }
def AllocNextUptoSaid : Prop := allocNextUptoRow.holds Try.pinned (OpenSpec.upto allocNextSpec)

/-- 'careenagelaw14.AllocNames', WHERE WHAT IT READS IS OF BULK AT MOST 1048576: true; the input reads as it did. -/
def allocNamesUptoRow : OpenClaim := { program := "ytlbmjpmonaekgaa", sum := "be50988ed4bfcc8afff10da0c36ee3e85c4ffef250c755569ac9b9ff0ef04aea", func := "careenage/careenagelaw14.AllocNames", spec := "allocNames", inPlace := ["slices.overlaps[uint32]", "maps.clone"], unfollowed := true, recurses := true, apart := false, narrowed := true }
def AllocNamesUptoSaid : Prop := allocNamesUptoRow.holds Try.pinned (OpenSpec.upto allocNamesSpec)

/-- 'careenagelaw14.AllocCopies', WHERE WHAT IT READS IS OF BULK AT MOST 1048576: true; the input reads as it did. -/
def allocCopiesUptoRow : OpenClaim := { program := "ytlbmjpmonaekgaa", sum := "be50988ed4bfcc8afff10da0c36ee3e85c4ffef250c755569ac9b9ff0ef04aea", func := "careenage/careenagelaw14.AllocCopies", spec := "allocCopies", inPlace := ["slices.overlaps[uint32]", "maps.clone"], unfollowed := true, recurses := true, apart := false, narrowed := true }
def AllocCopiesUptoSaid : Prop := allocCopiesUptoRow.holds Try.pinned (OpenSpec.upto allocCopiesSpec)

end Rows
end Go.Proofs.Ytlbmjpmonaekgaa
