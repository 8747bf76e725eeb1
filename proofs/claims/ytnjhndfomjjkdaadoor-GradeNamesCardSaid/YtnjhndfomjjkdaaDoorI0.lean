/- Chapter 22: floats that may be NaN. -/
import Derived.Test.YtnjhndfomjjkdaaDoorH5
namespace Go.Proofs.YtnjhndfomjjkdaaDoorAM
open Go Go.RowKit Ieee
set_option linter.unusedVariables false
set_option linter.unusedSimpArgs false
set_option maxRecDepth 10000
set_option maxHeartbeats 4000000

/-- A float, or the marker of a NaN. -/
def isF (v : Value) : Prop := v = nanV ∨ ∃ b, v = .float .f64 b
def arF (f : Nat → Nat → Option Nat) (x y : Value) : Value := match x, y with
  | .float .f64 u, .float .f64 v => match f u v with
    | some r => .float .f64 r
    | none => nanV
  | _, _ => nanV
theorem arF_f (f : Nat → Nat → Option Nat) (x y : Value) : isF (arF f x y) := by
  unfold arF
  split
  · split
    · exact .inr ⟨_, rfl⟩
    · exact .inl rfl
  · exact .inl rfl
theorem bin_addF {P : Program} {t : TypeId} {a b : Operand} {x y : Value} (hx : isF x) (hy : isF y) : binA P .add t a b x y = some (arF double.add x y) := by
  rcases hx with rfl | ⟨u, rfl⟩ <;> rcases hy with rfl | ⟨v, rfl⟩
  · rfl
  · rfl
  · rfl
  · cases h : double.add u v with
    | some r => rw [flt_add (k := .f64) h]; simp [arF, h]
    | none =>
      have hn : nanBin .add (.float .f64 u) (.float .f64 v) = some nanV := by
        show (if (double.add u v).isNone then some nanV else none) = some nanV
        rw [h]; rfl
      unfold binA; rw [hn]; simp [arF, h]
theorem bin_quoF {P : Program} {t : TypeId} {a b : Operand} {x y : Value} (hx : isF x) (hy : isF y) : binA P .quo t a b x y = some (arF double.div x y) := by
  rcases hx with rfl | ⟨u, rfl⟩ <;> rcases hy with rfl | ⟨v, rfl⟩
  · rfl
  · rfl
  · rfl
  · cases h : double.div u v with
    | some r => rw [flt_quo (k := .f64) h]; simp [arF, h]
    | none =>
      have hn : nanBin .quo (.float .f64 u) (.float .f64 v) = some nanV := by
        show (if (double.div u v).isNone then some nanV else none) = some nanV
        rw [h]; rfl
      unfold binA; rw [hn]; simp [arF, h]
theorem bin_subF {P : Program} {t : TypeId} {a b : Operand} {x y : Value} (hx : isF x) (hy : isF y) : binA P .sub t a b x y = some (arF double.sub x y) := by
  rcases hx with rfl | ⟨u, rfl⟩ <;> rcases hy with rfl | ⟨v, rfl⟩
  · rfl
  · rfl
  · rfl
  · cases h : double.sub u v with
    | some r => rw [flt_sub (k := .f64) h]; simp [arF, h]
    | none =>
      have hn : nanBin .sub (.float .f64 u) (.float .f64 v) = some nanV := by
        show (if (double.sub u v).isNone then some nanV else none) = some nanV
        rw [h]; rfl
      unfold binA; rw [hn]; simp [arF, h]
end Go.Proofs.YtnjhndfomjjkdaaDoorAM
