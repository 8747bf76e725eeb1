/- The addresses of fields. -/
import Derived.Test.YtmdfejlfdgaomaaAM35
namespace Go.Proofs.YtmdfejlfdgaomaaAM
open Go Go.RowKit
set_option linter.unusedVariables false
set_option linter.unusedSimpArgs false

section
variable {E : Program} {G : Gives} {t : List Value} {a : AW} {K : Value → AW → Prop}
def fldOff (E : Program) (s : TypeId) (f : Nat) : Option Nat := match E.underlying s with
  | some (.struct fs) => match fs[f]? with
    | some fd => match typeSize E fd.type with
      | some (_ + 1) => some fd.offset
      | _ => none
    | none => none
  | _ => none
theorem op_fa {s f off x} (h : fldOff E s f = some off) : WOp E G (.fieldAddr s x f) t a K = WVal (evalA t x) fun v => WVal (fieldAddrA v off) fun r => K r a := by
  unfold fldOff at h
  split at h
  · rename_i fs hu
    split at h
    · rename_i fd hf
      split at h
      · rename_i m hz
        cases h
        exact op_fieldAddr hu hf hz
      · cases h
    · cases h
  · cases h
theorem note_fa {s f x} {K : Note → Value → AW → Prop} : WNote E G (.fieldAddr s x f) t a K = WOp E G (.fieldAddr s x f) t a fun v b => K .none v b := note_pure rfl
def nilCheckA (v : Value) : Option Value := match v with
    | .pointer (some p) => some (.pointer (some p))
    | .func (.func f) fs cs => some (.func (.func f) fs cs)
    | .func (.yield f) fs cs => some (.func (.yield f) fs cs)
    | _ => none
theorem nilCheck_ptr {p} : nilCheckA (.pointer (some p)) = some (.pointer (some p)) := hide rfl
theorem nilCheck_func {f x y} : nilCheckA (.func (.func f) x y) = some (.func (.func f) x y) := hide rfl
theorem op_nilCheck {x} : WOp E G (.nilCheck x) t a K = WVal (evalA t x) fun v => WVal (nilCheckA v) fun r => K r a := by
  rw [op_pure rfl]
  simp only [pureA, oper]
  cases evalA t x with
  | none => rfl
  | some v =>
    cases v with
    | pointer p => cases p <;> rfl
    | func f x y => cases f <;> rfl
    | _ => rfl
theorem note_nilCheck {x} {K : Note → Value → AW → Prop} : WNote E G (.nilCheck x) t a K = WOp E G (.nilCheck x) t a fun v b => K .none v b := note_pure rfl
end
end Go.Proofs.YtmdfejlfdgaomaaAM
