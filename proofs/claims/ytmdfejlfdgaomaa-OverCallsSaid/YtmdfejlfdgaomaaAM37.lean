/- Loops. -/
import Derived.Test.YtmdfejlfdgaomaaAM36
namespace Go.Proofs.YtmdfejlfdgaomaaAM
open Go Go.RowKit
set_option linter.unusedVariables false
set_option linter.unusedSimpArgs false

section
variable {E : Program} {G : Gives} {fn : FuncId} {ro : Option Nat} {t : List Value} {ds : List Nat} {a : AW} {c : Code} {Q Q' : ExitA → List Value → List Nat → AW → Prop}
theorem code_weaken (h : WCode E G fn ro c t ds a Q) (hq : ∀ e t ds a, Q e t ds a → Q' e t ds a) : WCode E G fn ro c t ds a Q' := by
  obtain ⟨n, e, t', ds', b, h, q⟩ := h
  exact ⟨n, e, t', ds', b, h, hq _ _ _ _ q⟩
theorem call_weaken {f args} {K K' : Value → AW → Prop} (h : WCall E G f args a K) (hk : ∀ v b, K v b → K' v b) : WCall E G f args a K' := by
  obtain ⟨n, v, b, h, k⟩ := h
  exact ⟨n, v, b, h, hk _ _ k⟩
theorem round_weaken {f args} {K K' : Value → AW → Prop} (h : WRound E G f args a K) (hk : ∀ v b, K v b → K' v b) : WRound E G f args a K' := by
  obtain ⟨n, v, b, h, k⟩ := h
  exact ⟨n, v, b, h, hk _ _ k⟩
/-- A loop, by what holds each time it begins anew; the number falls. -/
theorem loop_inv (I : Nat → List Value → AW → Prop) {k : Nat} (h0 : I k t a)
    (step : ∀ k t a, I k t a → WCode E G fn ro c t ds a fun e t' ds' a' => onNormal e (ds' = ds ∧ ∃ k', k' < k ∧ I k' t' a') (Q e t' ds' a')) :
    WCode E G fn ro (.loop c) t ds a Q := by
  induction k using Nat.strongRecOn generalizing t a with
  | ind k ih =>
    rw [code_loop]
    refine code_weaken (step k t a h0) fun e t' ds' a' h => ?_
    cases e with
    | normal =>
      obtain ⟨rfl, k', hk, hi⟩ := h
      exact ih k' hk hi
    | _ => exact h
end
end Go.Proofs.YtmdfejlfdgaomaaAM
