/-
  No cell of these rows narrows 'for every input' (looked for: loops, veiled, ifaces, maps, wideKeys, modest, calm, conditions, laid).
  DERIVED. THE GIVEN ROWS OF THIS SEAT. 6 by the template 'for every input the law returns true; each argument reads behind the call as it read before'; 0 by the template 'total and deterministic' (their statements: YtijmlgccaicblaaTotals.lean).
  GIVEN WITH THE SEED: the statements are not yours to turn. If you find one false, say at which input.
  Laid BY PROGRAM, IN A SANDBOX (cutbox-rows.mjs): the forced cells as the released guide's own fill.sh prints them over the translation c938730624e3d274… (all of the seat's roots in one cut). By AI agents, Wed Nov 11 2026. No macro, syntax, notation, axiom, sorry.
-/
import Derived.Test.YtijmlgccaicblaaChecked
import GoSem.Claim
import GoSem.ClaimJoined
import GoSem.ClaimMapViews
import Derived.JoinedTies
import Derived.KernelRfl
namespace Go.Proofs.Ytijmlgccaicblaa
/- THE CELL 'sum', in the pinned program and in every row, IS THE sha256 OF THE DUMP (.gsa) THAT YtijmlgccaicblaaProg.lean LOADS. Nothing in Lean hashes anything: it is a label: what it is worth is what the hold of that sum in a sandbox is worth. -/
noncomputable def Try.pinned : Pinned := { name := "ytijmlgccaicblaa", sum := "c938730624e3d2742a6fa41b1b393e3946394faaefa710409eb83be1dd447d92", checked := Try.checked }
namespace Rows
def none {H : Type} : Left H := { results := [], args := [] }

/-- 'careenagelaw13.BuildBegins': WHATEVER THE INPUT: true; the input reads as it did. -/
def buildBeginsSpec : ChangeSpec := { name := "buildBegins", fn := fun _ => fun
  | [d1, d2, d3] => { results := [.lit (.bool true)], args := [d1, d2, d3] }
  | _ => none }
def buildBeginsRow : OpenClaim := { program := "ytijmlgccaicblaa", sum := "c938730624e3d2742a6fa41b1b393e3946394faaefa710409eb83be1dd447d92", func := "careenage/careenagelaw13.BuildBegins", spec := "buildBegins", apart := false }
def BuildBeginsSaid : Prop := buildBeginsRow.holds Try.pinned (OpenSpec.ofChange buildBeginsSpec)

/-- ITS FALSE NEIGHBOUR: 'it returns false'. Refute it at one input. -/
def buildBeginsWrong : ChangeSpec := { name := "buildBegins", fn := fun _ => fun
  | [d1, d2, d3] => { results := [.lit (.bool false)], args := [d1, d2, d3] }
  | _ => none }
def BuildBeginsWrongFalsely : Prop := buildBeginsRow.holds Try.pinned (OpenSpec.ofChange buildBeginsWrong)

/-- 'careenagelaw13.BuildFull': WHATEVER THE INPUT: true; the input reads as it did. -/
def buildFullSpec : ChangeSpec := { name := "buildFull", fn := fun _ => fun
  | [d1, d2, d3] => { results := [.lit (.bool true)], args := [d1, d2, d3] }
  | _ => none }
def buildFullRow : OpenClaim := { program := "ytijmlgccaicblaa", sum := "c938730624e3d2742a6fa41b1b393e3946394faaefa710409eb83be1dd447d92", func := "careenage/careenagelaw13.BuildFull", spec := "buildFull", unfollowed := true, recurses := true, apart := false }
def BuildFullSaid : Prop := buildFullRow.holds Try.pinned (OpenSpec.ofChange buildFullSpec)

/-- ITS FALSE NEIGHBOUR: 'it returns false'. Refute it at one input. -/
def buildFullWrong : ChangeSpec := { name := "buildFull", fn := fun _ => fun
  | [d1, d2, d3] => { results := [.lit (.bool false)], args := [d1, d2, d3] }
  | _ => none }
def BuildFullWrongFalsely : Prop := buildFullRow.holds Try.pinned (OpenSpec.ofChange buildFullWrong)

/-- 'careenagelaw13.BuildParts': WHATEVER THE INPUT: true; the input reads as it did. -/
def buildPartsSpec : ChangeSpec := { name := "buildParts", fn := fun _ => fun
  | [d1, d2, d3, d4, d5] => { results := [.lit (.bool true)], args := [d1, d2, d3, d4, d5] }
  | _ => none }
def buildPartsRow : OpenClaim := { program := "ytijmlgccaicblaa", sum := "c938730624e3d2742a6fa41b1b393e3946394faaefa710409eb83be1dd447d92", func := "careenage/careenagelaw13.BuildParts", spec := "buildParts", unfollowed := true, recurses := true, apart := false }
def BuildPartsSaid : Prop := buildPartsRow.holds Try.pinned (OpenSpec.ofChange buildPartsSpec)

/-- ITS FALSE NEIGHBOUR: 'it returns false'. Refute it at one input. -/
def buildPartsWrong : ChangeSpec := { name := "buildParts", fn := fun _ => fun
  | [d1, d2, d3, d4, d5] => { results := [.lit (.bool false)], args := [d1, d2, d3, d4, d5] }
  | _ => none }
def BuildPartsWrongFalsely : Prop := buildPartsRow.holds Try.pinned (OpenSpec.ofChange buildPartsWrong)

/-- 'careenagelaw13.BuildNames': WHATEVER THE INPUT: true; the input reads as it did. -/
def buildNamesSpec : ChangeSpec := { name := "buildNames", fn := fun _ => fun
  | [] => { results := [.lit (.bool true)], args := [] }
  | _ => none }
def buildNamesRow : OpenClaim := { program := "ytijmlgccaicblaa", sum := "c938730624e3d2742a6fa41b1b393e3946394faaefa710409eb83be1dd447d92", func := "careenage/careenagelaw13.BuildNames", spec := "buildNames", unfollowed := true, recurses := true, apart := false }
def BuildNamesSaid : Prop := buildNamesRow.holds Try.pinned (OpenSpec.ofChange buildNamesSpec)

/-- ITS FALSE NEIGHBOUR: 'it returns false'. Refute it at one input. -/
def buildNamesWrong : ChangeSpec := { name := "buildNames", fn := fun _ => fun
  | [] => { results := [.lit (.bool false)], args := [] }
  | _ => none }
def BuildNamesWrongFalsely : Prop := buildNamesRow.holds Try.pinned (OpenSpec.ofChange buildNamesWrong)

/-- 'careenagelaw13.BuildHolds': WHATEVER THE INPUT: true; the input reads as it did. -/
def buildHoldsSpec : ChangeSpec := { name := "buildHolds", fn := fun _ => fun
  | [d1, d2] => { results := [.lit (.bool true)], args := [d1, d2] }
  | _ => none }
def buildHoldsRow : OpenClaim := { program := "ytijmlgccaicblaa", sum := "c938730624e3d2742a6fa41b1b393e3946394faaefa710409eb83be1dd447d92", func := "careenage/careenagelaw13.BuildHolds", spec := "buildHolds", unfollowed := true, recurses := true, apart := false }
def BuildHoldsSaid : Prop := buildHoldsRow.holds Try.pinned (OpenSpec.ofChange buildHoldsSpec)

/-- ITS FALSE NEIGHBOUR: 'it returns false'. Refute it at one input. -/
def buildHoldsWrong : ChangeSpec := { name := "buildHolds", fn := fun _ => fun
  | [d1, d2] => { results := [.lit (.bool false)], args := [d1, d2] }
  | _ => none }
def BuildHoldsWrongFalsely : Prop := buildHoldsRow.holds Try.pinned (OpenSpec.ofChange buildHoldsWrong)

/-- 'careenagelaw13.BuildMoves': WHATEVER THE INPUT: true; the input reads as it did. -/
def buildMovesSpec : ChangeSpec := { name := "buildMoves", fn := fun _ => fun
  | [d1, d2, d3] => { results := [.lit (.bool true)], args := [d1, d2, d3] }
  | _ => none }
def buildMovesRow : OpenClaim := { program := "ytijmlgccaicblaa", sum := "c938730624e3d2742a6fa41b1b393e3946394faaefa710409eb83be1dd447d92", func := "careenage/careenagelaw13.BuildMoves", spec := "buildMoves", unfollowed := true, recurses := true, apart := false }
def BuildMovesSaid : Prop := buildMovesRow.holds Try.pinned (OpenSpec.ofChange buildMovesSpec)

/-- ITS FALSE NEIGHBOUR: 'it returns false'. Refute it at one input. -/
def buildMovesWrong : ChangeSpec := { name := "buildMoves", fn := fun _ => fun
  | [d1, d2, d3] => { results := [.lit (.bool false)], args := [d1, d2, d3] }
  | _ => none }
def BuildMovesWrongFalsely : Prop := buildMovesRow.holds Try.pinned (OpenSpec.ofChange buildMovesWrong)

/- THE SECOND FORM. 'bulk': how many values and letters a reading holds, each counted each time it is reached (what is shared counts as often as it is met; a slice's spare places count too). A statement '..UptoSaid' is the law's where the arguments, and the package variables that the reading takes, are together of bulk at most 1048576: NARROWER than '..Said'. Prove '..Said' where nothing that the law and all that it calls make is longer than what came in: it says more and counts as full. Else prove '..UptoSaid'. A law counts once. -/
mutual
def uptoBulk {H : Type} : DataW H → Nat
  | .lit (.string bytes) => bytes.length + 1
  | .lit _ => 1
  | .nil => 1
  | .ptr d => uptoBulk d + 1
  | .slice elems spare => uptoBulkAll elems + uptoBulkAll spare + 1
  | .agg parts => uptoBulkAll parts + 1
  | .iface _ d => uptoBulk d + 1
  | .map entries => uptoBulkEntries entries + 1
  | .held _ => 1
def uptoBulkAll {H : Type} : List (DataW H) → Nat
  | [] => 0
  | d :: r => uptoBulk d + uptoBulkAll r
def uptoBulkEntries {H : Type} : List (Lit × DataW H) → Nat
  | [] => 0
  | x :: r => uptoBulkEntry x + uptoBulkEntries r
def uptoBulkEntry {H : Type} : Lit × DataW H → Nat
  | (.string bytes, d) => bytes.length + uptoBulk d + 1
  | (_, d) => uptoBulk d + 1
 end
def uptoSmall : (H : Type) → List (DataW H) → Bool := fun _ ds => decide (uptoBulkAll ds ≤ 1048576)
def OpenSpec.upto (s : _root_.Go.ChangeSpec) : _root_.Go.OpenSpec := { _root_.Go.OpenSpec.ofChange s with cond := some uptoSmall }

/-- 'careenagelaw13.BuildBegins', WHERE WHAT IT READS IS OF BULK AT MOST 1048576: true; the input reads as it did. -/
def buildBeginsUptoRow : OpenClaim := { program := "ytijmlgccaicblaa", sum := "c938730624e3d2742a6fa41b1b393e3946394faaefa710409eb83be1dd447d92", func := "careenage/careenagelaw13.BuildBegins", spec := "buildBegins", apart := false, narrowed := true }
def BuildBeginsUptoSaid : Prop := buildBeginsUptoRow.holds Try.pinned (OpenSpec.upto buildBeginsSpec)

/-- 'careenagelaw13.BuildFull', WHERE WHAT IT READS IS OF BULK AT MOST 1048576: true; the input reads as it did. -/
def buildFullUptoRow : OpenClaim := { program := "ytijmlgccaicblaa", sum := "c938730624e3d2742a6fa41b1b393e3946394faaefa710409eb83be1dd447d92", func := "careenage/careenagelaw13.BuildFull", spec := "buildFull", unfollowed := true, recurses := true, apart := false, narrowed := true }
def BuildFullUptoSaid : Prop := buildFullUptoRow.holds Try.pinned (OpenSpec.upto buildFullSpec)

/-- 'careenagelaw13.BuildParts', WHERE WHAT IT READS IS OF BULK AT MOST 1048576: true; the input reads as it did. -/
def buildPartsUptoRow : OpenClaim := { program := "ytijmlgccaicblaa", sum := "c938730624e3d2742a6fa41b1b393e3946394faaefa710409eb83be1dd447d92", func := "careenage/careenagelaw13.BuildParts", spec := "buildParts", unfollowed := true, recurses := true, apart := false, narrowed := true }
def BuildPartsUptoSaid : Prop := buildPartsUptoRow.holds Try.pinned (OpenSpec.upto buildPartsSpec)

/-- 'careenagelaw13.BuildNames', WHERE WHAT IT READS IS OF BULK AT MOST 1048576: true; the input reads as it did. -/
def buildNamesUptoRow : OpenClaim := { program := "ytijmlgccaicblaa", sum := "c938730624e3d2742a6fa41b1b393e3946394faaefa710409eb83be1dd447d92", func := "careenage/careenagelaw13.BuildNames", spec := "buildNames", unfollowed := true, recurses := true, apart := false, narrowed := true }
def BuildNamesUptoSaid : Prop := buildNamesUptoRow.holds Try.pinned (OpenSpec.upto buildNamesSpec)

/-- 'careenagelaw13.BuildHolds', WHERE WHAT IT READS IS OF BULK AT MOST 1048576: true; the input reads as it did. -/
def buildHoldsUptoRow : OpenClaim := { program := "ytijmlgccaicblaa", sum := "c938730624e3d2742a6fa41b1b393e3946394faaefa710409eb83be1dd447d92", func := "careenage/careenagelaw13.BuildHolds", spec := "buildHolds", unfollowed := true, recurses := true, apart := false, narrowed := true }
def BuildHoldsUptoSaid : Prop := buildHoldsUptoRow.holds Try.pinned (OpenSpec.upto buildHoldsSpec)

/-- 'careenagelaw13.BuildMoves', WHERE WHAT IT READS IS OF BULK AT MOST 1048576: true; the input reads as it did. -/
def buildMovesUptoRow : OpenClaim := { program := "ytijmlgccaicblaa", sum := "c938730624e3d2742a6fa41b1b393e3946394faaefa710409eb83be1dd447d92", func := "careenage/careenagelaw13.BuildMoves", spec := "buildMoves", unfollowed := true, recurses := true, apart := false, narrowed := true }
def BuildMovesUptoSaid : Prop := buildMovesUptoRow.holds Try.pinned (OpenSpec.upto buildMovesSpec)

end Rows
end Go.Proofs.Ytijmlgccaicblaa
