/- Chapter 22: one name for what is given. -/
import Derived.Test.YtnjhndfomjjkdaaDoorH1
namespace Go.Proofs.YtnjhndfomjjkdaaDoorAM
open Go Go.RowKit Ieee Go.Proofs
set_option linter.unusedVariables false
abbrev GW : Gives := GV
end Go.Proofs.YtnjhndfomjjkdaaDoorAM
