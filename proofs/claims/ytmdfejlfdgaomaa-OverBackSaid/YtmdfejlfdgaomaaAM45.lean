/- Bools, compared. -/
import Derived.Test.YtmdfejlfdgaomaaAMD
namespace Go.Proofs.YtmdfejlfdgaomaaAM
open Go Go.RowKit
set_option linter.unusedVariables false

section
variable {P : Program} {t : TypeId} {x y : Operand} {a b : Bool}
theorem bin_eql_bool (h : P.underlying t = some .bool) : binA P .eql t x y (.bool a) (.bool b) = some (.bool (decide (a = b))) := by
  have h1 : binA P .eql t x y (.bool a) (.bool b) = prunF P (do eqGuard .eql t x y (.bool a) (.bool b); binOp .eql t (.bool a) (.bool b)) := rfl
  have h2 : prun P (binOp .eql t (.bool a) (.bool b)) = some (.bool (decide (a = b))) := by
    have : binOp .eql t (.bool a) (.bool b) = (do pure (.bool (← Op.equal t (.bool a) (.bool b)))) := rfl
    rw [this, prun_bind]
    have : prun P (Op.equal t (.bool a) (.bool b)) = some (decide (a = b)) := eq_bool (d := 9999) h
    rw [this]; rfl
  rw [h1, prunF, prun_bind]
  have h3 : prun P (eqGuard .eql t x y (.bool a) (.bool b)) = some () := rfl
  rw [h3, Option.bind_some, h2]
  rfl
theorem bin_neq_bool (h : P.underlying t = some .bool) : binA P .neq t x y (.bool a) (.bool b) = some (.bool (!decide (a = b))) := by
  have h1 : binA P .neq t x y (.bool a) (.bool b) = prunF P (do eqGuard .neq t x y (.bool a) (.bool b); binOp .neq t (.bool a) (.bool b)) := rfl
  have h2 : prun P (binOp .neq t (.bool a) (.bool b)) = some (.bool (!decide (a = b))) := by
    have : binOp .neq t (.bool a) (.bool b) = (do pure (.bool (!(← Op.equal t (.bool a) (.bool b))))) := rfl
    rw [this, prun_bind]
    have : prun P (Op.equal t (.bool a) (.bool b)) = some (decide (a = b)) := eq_bool (d := 9999) h
    rw [this]; rfl
  rw [h1, prunF, prun_bind]
  have h3 : prun P (eqGuard .neq t x y (.bool a) (.bool b)) = some () := rfl
  rw [h3, Option.bind_some, h2]
  rfl
end
end Go.Proofs.YtmdfejlfdgaomaaAM
