/-
  DERIVED. GIVEN WITH THE SEED: THE CARDS: each row of YtnjhndfomjjkdaaDoorRows.lean that lists a variable, with what it lists TIED to the program's text (the seventh form; the later family's looks); each row that meets fmt, with fmt's text TOLD by the authors' own Lean function (tested against real Go, not proved from fmt's source: count such statements apart). THE CARD IS WHAT COUNTS. Prove the row's statement (the work); the ties are given (YtnjhndfomjjkdaaDoorTie.lean); close each card by the builder's one call (the guide's Derived/Test/ToyasCard.lean, 'card_holds'). Laid BY PROGRAM, IN A SANDBOX (cutbox-door.mjs). By AI agents, Wed Nov 11 2026. No macro, syntax, notation, axiom, sorry.
-/
import Derived.Test.YtnjhndfomjjkdaaDoorRows
import GoSem.ClaimSeven
namespace Go.Proofs.YtnjhndfomjjkdaaDoor
namespace Rows

/-- THE TIED CARD OF 'careenagelaw22.GradeText'. -/
def gradeTextCard : Claim7 := { stood := { row := gradeTextRow, standIns := [], harness := (true, "eaf2800d6297e16ea306c2cc00ff73b325afad4b8ee5854c3838cdfc35f92990"), looks := false }, kinds := [], alts := [], laidByText := true, laidKinds := [.data, .data, .data], laidTests := true, laidLooks := .later }
def GradeTextCardSaid : Prop := Claim7.holds Tryd.pinned (.plain (OpenSpec.ofChange gradeTextSpec)) gradeTextCard

/-- THE TIED CARD OF 'careenagelaw22.GradeOrder'. -/
def gradeOrderCard : Claim7 := { stood := { row := gradeOrderRow, standIns := [], harness := (true, "eaf2800d6297e16ea306c2cc00ff73b325afad4b8ee5854c3838cdfc35f92990"), looks := false }, kinds := [], alts := [], laidByText := true, laidKinds := [.data, .data, .data], laidTests := true, laidLooks := .later }
def GradeOrderCardSaid : Prop := Claim7.holds Tryd.pinned (.plain (OpenSpec.ofChange gradeOrderSpec)) gradeOrderCard

/-- THE TIED CARD OF 'careenagelaw22.GradeMore'. -/
def gradeMoreCard : Claim7 := { stood := { row := gradeMoreRow, standIns := [], harness := (true, "eaf2800d6297e16ea306c2cc00ff73b325afad4b8ee5854c3838cdfc35f92990"), looks := false }, kinds := [], alts := [], laidByText := true, laidKinds := [.data, .data, .data], laidTests := true, laidLooks := .later }
def GradeMoreCardSaid : Prop := Claim7.holds Tryd.pinned (.plain (OpenSpec.ofChange gradeMoreSpec)) gradeMoreCard

/-- THE TIED CARD OF 'careenagelaw22.GradeMeans'. -/
def gradeMeansCard : Claim7 := { stood := { row := gradeMeansRow, standIns := [], harness := (true, "eaf2800d6297e16ea306c2cc00ff73b325afad4b8ee5854c3838cdfc35f92990"), looks := false }, kinds := [], alts := [], laidByText := true, laidKinds := [.data, .data, .data], laidTests := true, laidLooks := .later }
def GradeMeansCardSaid : Prop := Claim7.holds Tryd.pinned (.plain (OpenSpec.ofChange gradeMeansSpec)) gradeMeansCard

/-- THE TIED CARD OF 'careenagelaw22.GradeNames'. -/
def gradeNamesCard : Claim7 := { stood := { row := gradeNamesRow, standIns := [], harness := (true, "eaf2800d6297e16ea306c2cc00ff73b325afad4b8ee5854c3838cdfc35f92990"), looks := false }, kinds := [], alts := [], laidByText := true, laidKinds := [.data, .data, .data], laidTests := true, laidLooks := .later }
def GradeNamesCardSaid : Prop := Claim7.holds Tryd.pinned (.plain (OpenSpec.ofChange gradeNamesSpec)) gradeNamesCard

/-- THE TIED CARD OF 'careenagelaw22.GradeCalls'. -/
def gradeCallsCard : Claim7 := { stood := { row := gradeCallsRow, standIns := [], harness := (true, "eaf2800d6297e16ea306c2cc00ff73b325afad4b8ee5854c3838cdfc35f92990"), looks := false }, kinds := [], alts := [], laidByText := true, laidKinds := [.data, .data, .data], laidTests := true, laidLooks := .later }
def GradeCallsCardSaid : Prop := Claim7.holds Tryd.pinned (.plain (OpenSpec.ofChange gradeCallsSpec)) gradeCallsCard

/-- THE SECOND FORM's CARD OF 'careenagelaw22.GradeText'. -/
def gradeTextUptoCard : Claim7 := { stood := { row := gradeTextUptoRow, standIns := [], harness := (true, "eaf2800d6297e16ea306c2cc00ff73b325afad4b8ee5854c3838cdfc35f92990"), looks := false }, kinds := [], alts := [], laidByText := true, laidKinds := [.data, .data, .data], laidTests := true, laidLooks := .later }
def GradeTextUptoCardSaid : Prop := Claim7.holds Tryd.pinned (.plain (OpenSpec.upto gradeTextSpec)) gradeTextUptoCard

/-- THE SECOND FORM's CARD OF 'careenagelaw22.GradeOrder'. -/
def gradeOrderUptoCard : Claim7 := { stood := { row := gradeOrderUptoRow, standIns := [], harness := (true, "eaf2800d6297e16ea306c2cc00ff73b325afad4b8ee5854c3838cdfc35f92990"), looks := false }, kinds := [], alts := [], laidByText := true, laidKinds := [.data, .data, .data], laidTests := true, laidLooks := .later }
def GradeOrderUptoCardSaid : Prop := Claim7.holds Tryd.pinned (.plain (OpenSpec.upto gradeOrderSpec)) gradeOrderUptoCard

/-- THE SECOND FORM's CARD OF 'careenagelaw22.GradeMore'. -/
def gradeMoreUptoCard : Claim7 := { stood := { row := gradeMoreUptoRow, standIns := [], harness := (true, "eaf2800d6297e16ea306c2cc00ff73b325afad4b8ee5854c3838cdfc35f92990"), looks := false }, kinds := [], alts := [], laidByText := true, laidKinds := [.data, .data, .data], laidTests := true, laidLooks := .later }
def GradeMoreUptoCardSaid : Prop := Claim7.holds Tryd.pinned (.plain (OpenSpec.upto gradeMoreSpec)) gradeMoreUptoCard

/-- THE SECOND FORM's CARD OF 'careenagelaw22.GradeMeans'. -/
def gradeMeansUptoCard : Claim7 := { stood := { row := gradeMeansUptoRow, standIns := [], harness := (true, "eaf2800d6297e16ea306c2cc00ff73b325afad4b8ee5854c3838cdfc35f92990"), looks := false }, kinds := [], alts := [], laidByText := true, laidKinds := [.data, .data, .data], laidTests := true, laidLooks := .later }
def GradeMeansUptoCardSaid : Prop := Claim7.holds Tryd.pinned (.plain (OpenSpec.upto gradeMeansSpec)) gradeMeansUptoCard

/-- THE SECOND FORM's CARD OF 'careenagelaw22.GradeNames'. -/
def gradeNamesUptoCard : Claim7 := { stood := { row := gradeNamesUptoRow, standIns := [], harness := (true, "eaf2800d6297e16ea306c2cc00ff73b325afad4b8ee5854c3838cdfc35f92990"), looks := false }, kinds := [], alts := [], laidByText := true, laidKinds := [.data, .data, .data], laidTests := true, laidLooks := .later }
def GradeNamesUptoCardSaid : Prop := Claim7.holds Tryd.pinned (.plain (OpenSpec.upto gradeNamesSpec)) gradeNamesUptoCard

/-- THE SECOND FORM's CARD OF 'careenagelaw22.GradeCalls'. -/
def gradeCallsUptoCard : Claim7 := { stood := { row := gradeCallsUptoRow, standIns := [], harness := (true, "eaf2800d6297e16ea306c2cc00ff73b325afad4b8ee5854c3838cdfc35f92990"), looks := false }, kinds := [], alts := [], laidByText := true, laidKinds := [.data, .data, .data], laidTests := true, laidLooks := .later }
def GradeCallsUptoCardSaid : Prop := Claim7.holds Tryd.pinned (.plain (OpenSpec.upto gradeCallsSpec)) gradeCallsUptoCard
end Rows
end Go.Proofs.YtnjhndfomjjkdaaDoor
