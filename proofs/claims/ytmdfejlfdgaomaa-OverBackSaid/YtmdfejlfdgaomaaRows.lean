/-
  No cell of these rows narrows 'for every input' (looked for: loops, veiled, ifaces, maps, wideKeys, modest, calm, conditions, laid).
  DERIVED. THE GIVEN ROWS OF THIS SEAT. 5 by the template 'for every input the law returns true; each argument reads behind the call as it read before'; 0 by the template 'total and deterministic' (their statements: YtmdfejlfdgaomaaTotals.lean).
  GIVEN WITH THE SEED: the statements are not yours to turn. If you find one false, say at which input.
  Laid BY PROGRAM, IN A SANDBOX (cutbox-rows.mjs): the forced cells as the released guide's own fill.sh prints them over the translation d86f25d2be2e65a7… (all of the seat's roots in one cut). By AI agents, Wed Nov 11 2026. No macro, syntax, notation, axiom, sorry.
-/
import Derived.Test.YtmdfejlfdgaomaaChecked
import GoSem.Claim
import GoSem.ClaimJoined
import GoSem.ClaimMapViews
import Derived.JoinedTies
import Derived.KernelRfl
namespace Go.Proofs.Ytmdfejlfdgaomaa
/- THE CELL 'sum', in the pinned program and in every row, IS THE sha256 OF THE DUMP (.gsa) THAT YtmdfejlfdgaomaaProg.lean LOADS. Nothing in Lean hashes anything: it is a label: what it is worth is what the hold of that sum in a sandbox is worth. -/
noncomputable def Try.pinned : Pinned := { name := "ytmdfejlfdgaomaa", sum := "d86f25d2be2e65a7517f23896c9200c5865f3e0d320d333024ec10d67263fb9d", checked := Try.checked }
namespace Rows
def none {H : Type} : Left H := { results := [], args := [] }

/-- 'careenagelaw09.OverJoins': WHATEVER THE INPUT: true; the input reads as it did. -/
def overJoinsSpec : ChangeSpec := { name := "overJoins", fn := fun _ => fun
  | [d1, d2] => { results := [.lit (.bool true)], args := [d1, d2] }
  | _ => none }
def overJoinsRow : OpenClaim := { program := "ytmdfejlfdgaomaa", sum := "d86f25d2be2e65a7517f23896c9200c5865f3e0d320d333024ec10d67263fb9d", func := "careenage/careenagelaw09.OverJoins", spec := "overJoins", unfollowed := true, recurses := true, apart := false }
def OverJoinsSaid : Prop := overJoinsRow.holds Try.pinned (OpenSpec.ofChange overJoinsSpec)

/-- ITS FALSE NEIGHBOUR: 'it returns false'. Refute it at one input. -/
def overJoinsWrong : ChangeSpec := { name := "overJoins", fn := fun _ => fun
  | [d1, d2] => { results := [.lit (.bool false)], args := [d1, d2] }
  | _ => none }
def OverJoinsWrongFalsely : Prop := overJoinsRow.holds Try.pinned (OpenSpec.ofChange overJoinsWrong)

/-- 'careenagelaw09.OverNeeds': WHATEVER THE INPUT: true; the input reads as it did. -/
def overNeedsSpec : ChangeSpec := { name := "overNeeds", fn := fun _ => fun
  | [d1, d2, d3, d4] => { results := [.lit (.bool true)], args := [d1, d2, d3, d4] }
  | _ => none }
def overNeedsRow : OpenClaim := { program := "ytmdfejlfdgaomaa", sum := "d86f25d2be2e65a7517f23896c9200c5865f3e0d320d333024ec10d67263fb9d", func := "careenage/careenagelaw09.OverNeeds", spec := "overNeeds", apart := false }
def OverNeedsSaid : Prop := overNeedsRow.holds Try.pinned (OpenSpec.ofChange overNeedsSpec)

/-- ITS FALSE NEIGHBOUR: 'it returns false'. Refute it at one input. -/
def overNeedsWrong : ChangeSpec := { name := "overNeeds", fn := fun _ => fun
  | [d1, d2, d3, d4] => { results := [.lit (.bool false)], args := [d1, d2, d3, d4] }
  | _ => none }
def OverNeedsWrongFalsely : Prop := overNeedsRow.holds Try.pinned (OpenSpec.ofChange overNeedsWrong)

/-- 'careenagelaw09.OverNames': WHATEVER THE INPUT: true; the input reads as it did. -/
def overNamesSpec : ChangeSpec := { name := "overNames", fn := fun _ => fun
  | [] => { results := [.lit (.bool true)], args := [] }
  | _ => none }
def overNamesRow : OpenClaim := { program := "ytmdfejlfdgaomaa", sum := "d86f25d2be2e65a7517f23896c9200c5865f3e0d320d333024ec10d67263fb9d", func := "careenage/careenagelaw09.OverNames", spec := "overNames", unfollowed := true, recurses := true, apart := false }
def OverNamesSaid : Prop := overNamesRow.holds Try.pinned (OpenSpec.ofChange overNamesSpec)

/-- ITS FALSE NEIGHBOUR: 'it returns false'. Refute it at one input. -/
def overNamesWrong : ChangeSpec := { name := "overNames", fn := fun _ => fun
  | [] => { results := [.lit (.bool false)], args := [] }
  | _ => none }
def OverNamesWrongFalsely : Prop := overNamesRow.holds Try.pinned (OpenSpec.ofChange overNamesWrong)

/-- 'careenagelaw09.OverCalls': WHATEVER THE INPUT: true; the input reads as it did. -/
def overCallsSpec : ChangeSpec := { name := "overCalls", fn := fun _ => fun
  | [d1, d2, d3, d4, d5, d6, d7, d8] => { results := [.lit (.bool true)], args := [d1, d2, d3, d4, d5, d6, d7, d8] }
  | _ => none }
def overCallsRow : OpenClaim := { program := "ytmdfejlfdgaomaa", sum := "d86f25d2be2e65a7517f23896c9200c5865f3e0d320d333024ec10d67263fb9d", func := "careenage/careenagelaw09.OverCalls", spec := "overCalls", unfollowed := true, recurses := true, apart := false }
def OverCallsSaid : Prop := overCallsRow.holds Try.pinned (OpenSpec.ofChange overCallsSpec)

/-- ITS FALSE NEIGHBOUR: 'it returns false'. Refute it at one input. -/
def overCallsWrong : ChangeSpec := { name := "overCalls", fn := fun _ => fun
  | [d1, d2, d3, d4, d5, d6, d7, d8] => { results := [.lit (.bool false)], args := [d1, d2, d3, d4, d5, d6, d7, d8] }
  | _ => none }
def OverCallsWrongFalsely : Prop := overCallsRow.holds Try.pinned (OpenSpec.ofChange overCallsWrong)

/-- 'careenagelaw09.OverBack': WHATEVER THE INPUT: true; the input reads as it did. -/
def overBackSpec : ChangeSpec := { name := "overBack", fn := fun _ => fun
  | [d1, d2, d3, d4] => { results := [.lit (.bool true)], args := [d1, d2, d3, d4] }
  | _ => none }
def overBackRow : OpenClaim := { program := "ytmdfejlfdgaomaa", sum := "d86f25d2be2e65a7517f23896c9200c5865f3e0d320d333024ec10d67263fb9d", func := "careenage/careenagelaw09.OverBack", spec := "overBack", unfollowed := true, recurses := true, apart := false }
def OverBackSaid : Prop := overBackRow.holds Try.pinned (OpenSpec.ofChange overBackSpec)

/-- ITS FALSE NEIGHBOUR: 'it returns false'. Refute it at one input. -/
def overBackWrong : ChangeSpec := { name := "overBack", fn := fun _ => fun
  | [d1, d2, d3, d4] => { results := [.lit (.bool false)], args := [d1, d2, d3, d4] }
  | _ => none }
def OverBackWrongFalsely : Prop := overBackRow.holds Try.pinned (OpenSpec.ofChange overBackWrong)

/- THE SECOND FORM. 'bulk': how many values and letters a reading holds, each counted each time it is reached (what is shared counts as often as it is met; a slice's spare places count too). A statement '..UptoSaid' is the law's where the arguments, and the package variables that the reading takes, are together of bulk at most 1048576: NARROWER than '..Said'. Prove '..Said' where nothing that the law and all that it calls make is longer than what came in: it says more and counts as full. Else prove '..UptoSaid'. A law counts once. -/
mutual
def uptoBulk {H : Type} : DataW H → Nat
  | .lit (.string bytes) => bytes.length + 1
  | .lit _ => 1
  | .nil => 1
  | .ptr d => uptoBulk d + 1
  | .slice elems spare => uptoBulkAll elems + uptoBulkAll spare + 1
  | .agg parts => uptoBulkAll parts + 1
  | .iface _ d => uptoBulk d + 1
  | .map entries => uptoBulkEntries entries + 1
  | .held _ => 1
def uptoBulkAll {H : Type} : List (DataW H) → Nat
  | [] => 0
  | d :: r => uptoBulk d + uptoBulkAll r
def uptoBulkEntries {H : Type} : List (Lit × DataW H) → Nat
  | [] => 0
  | x :: r => uptoBulkEntry x + uptoBulkEntries r
def uptoBulkEntry {H : Type} : Lit × DataW H → Nat
  | (.string bytes, d) => bytes.length + uptoBulk d + 1
  | (_, d) => uptoBulk d + 1
 end
def uptoSmall : (H : Type) → List (DataW H) → Bool := fun _ ds => decide (uptoBulkAll ds ≤ 1048576)
def OpenSpec.upto (s : _root_.Go.ChangeSpec) : _root_.Go.OpenSpec := { _root_.Go.OpenSpec.ofChange s with cond := some uptoSmall }

/-- 'careenagelaw09.OverJoins', WHERE WHAT IT READS IS OF BULK AT MOST 1048576: true; the input reads as it did. -/
def overJoinsUptoRow : OpenClaim := { program := "ytmdfejlfdgaomaa", sum := "d86f25d2be2e65a7517f23896c9200c5865f3e0d320d333024ec10d67263fb9d", func := "careenage/careenagelaw09.OverJoins", spec := "overJoins", unfollowed := true, recurses := true, apart := false, narrowed := true }
def OverJoinsUptoSaid : Prop := overJoinsUptoRow.holds Try.pinned (OpenSpec.upto overJoinsSpec)

/-- 'careenagelaw09.OverNeeds', WHERE WHAT IT READS IS OF BULK AT MOST 1048576: true; the input reads as it did. -/
def overNeedsUptoRow : OpenClaim := { program := "ytmdfejlfdgaomaa", sum := "d86f25d2be2e65a7517f23896c9200c5865f3e0d320d333024ec10d67263fb9d", func := "careenage/careenagelaw09.OverNeeds", spec := "overNeeds", apart := false, narrowed := true }
def OverNeedsUptoSaid : Prop := overNeedsUptoRow.holds Try.pinned (OpenSpec.upto overNeedsSpec)

/-- 'careenagelaw09.OverNames', WHERE WHAT IT READS IS OF BULK AT MOST 1048576: true; the input reads as it did. -/
def overNamesUptoRow : OpenClaim := { program := "ytmdfejlfdgaomaa", sum := "d86f25d2be2e65a7517f23896c9200c5865f3e0d320d333024ec10d67263fb9d", func := "careenage/careenagelaw09.OverNames", spec := "overNames", unfollowed := true, recurses := true, apart := false, narrowed := true }
def OverNamesUptoSaid : Prop := overNamesUptoRow.holds Try.pinned (OpenSpec.upto overNamesSpec)

/-- 'careenagelaw09.OverCalls', WHERE WHAT IT READS IS OF BULK AT MOST 1048576: true; the input reads as it did. -/
def overCallsUptoRow : OpenClaim := { program := "ytmdfejlfdgaomaa", sum := "d86f25d2be2e65a7517f23896c9200c5865f3e0d320d333024ec10d67263fb9d", func := "careenage/careenagelaw09.OverCalls", spec := "overCalls", unfollowed := true, recurses := true, apart := false, narrowed := true }
def OverCallsUptoSaid : Prop := overCallsUptoRow.holds Try.pinned (OpenSpec.upto overCallsSpec)

/-- 'careenagelaw09.OverBack', WHERE WHAT IT READS IS OF BULK AT MOST 1048576: true; the input reads as it did. -/
def overBackUptoRow : OpenClaim := { program := "ytmdfejlfdgaomaa", sum := "d86f25d2be2e65a7517f23896c9200c5865f3e0d320d333024ec10d67263fb9d", func := "careenage/careenagelaw09.OverBack", spec := "overBack", unfollowed := true, recurses := true, apart := false, narrowed := true }
def OverBackUptoSaid : Prop := overBackUptoRow.holds Try.pinned (OpenSpec.upto overBackSpec)

end Rows
end Go.Proofs.Ytmdfejlfdgaomaa
