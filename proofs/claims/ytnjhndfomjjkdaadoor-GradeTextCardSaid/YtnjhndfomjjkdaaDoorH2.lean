/- Chapter 22: the text of a NaN, walked in the model; given from now on. -/
import Derived.Test.YtnjhndfomjjkdaaDoorH1
namespace Go.Proofs.YtnjhndfomjjkdaaDoorAM
open Go Go.RowKit Ieee Go.Proofs
set_option linter.unusedVariables false
set_option linter.unusedSimpArgs false
set_option maxRecDepth 100000
set_option maxHeartbeats 4000000

theorem run_neq (b : Nat) (h : double.order b b = none) (w : World) : (Go.binOp .neq 22 (.float .f64 b) (.float .f64 b)).run Tryd.prog w = Result.ok (.bool true) w := by
  have e : prunF Tryd.prog (Go.binOp .neq 22 (.float .f64 b) (.float .f64 b)) = some (.bool (FloatKind.f64.format.order b b != some .eq)) := rfl
  have hf : FloatKind.f64.format = double := rfl
  rw [hf, h] at e
  exact (run_prunF e w).1
theorem isnan35 (b : Nat) (h : double.order b b = none) (w : World) : Calls Tryd.prog 35 #[.float .f64 b] w fun e w' => e = .returned (.bool true) ∧ w' = w := by
  have hr := run_neq b h w
  clear h
  go_enter Tryd.func35, Tryd.ntmps35
  go_wp2
  go_ret
  exact ⟨rfl, rfl⟩
theorem mul_nan (b c : Nat) (h : double.order b b = none) : double.mul b c = none := by
  unfold Format.order at h
  unfold Format.mul
  cases hd : double.read b with
  | nan s f => rw [Option.map_eq_none_iff]; cases double.read c <;> rfl
  | infinity s => rw [hd] at h; cases h
  | number s m i => rw [hd] at h; cases h
theorem run_mul (b c : Nat) (h : double.order b b = none) (w : World) : ∃ n, (Go.binOp .mul 22 (.float .f64 b) (.float .f64 c)).run Tryd.prog w = Result.ok (.float .f64 n) w.drew := by
  have hm := mul_nan b c h
  have e : (Go.binOp .mul 22 (.float .f64 b) (.float .f64 c)).run Tryd.prog w = (Op.floatArith .mul .f64 b c).run Tryd.prog w := rfl
  rw [e]
  have hm' : FloatKind.f64.format.mul b c = none := hm
  refine ⟨(Question.nanBits .f64 b c).cut (w.tape w.drawn (.nanBits .f64 b c)), ?_⟩
  unfold Op.floatArith
  simp [hm', Question.forced]
theorem text_nan (b : Nat) (h : double.order b b = none) (w : World) : Calls Tryd.prog 11 #[.float .f64 b] w fun e w' => e = .returned (.string (mkStr [110, 111, 110, 101])) ∧ Below w.heap.size w w' := by
  obtain ⟨n, hr⟩ := run_mul b 4636737291354636288 h w
  have hq := run_neq b h w.drew
  clear h
  go_enter Tryd.func11, Tryd.ntmps11
  go_wp2
  go_ret
  refine ⟨?_, (Below.refl _ _).drew⟩
  rfl
def nanP : List Value → Option Value
  | [.float .f64 b] => if double.order b b = none then some (.string (mkStr [110, 111, 110, 101])) else none
  | _ => none
def GW : Gives := withTest 11 nanP (memo [kLives])
theorem given_ok : GW.Sound Tryd.prog := test_sound plain Tryd.func11 (by kernel_rfl) (fun args v h => by
  unfold nanP at h
  split at h
  · rename_i b
    split at h
    · rename_i hb
      cases h
      exact ⟨rfl, rfl, text_nan b hb⟩
    · cases h
  · cases h) (memo_sound plain known_all)
end Go.Proofs.YtnjhndfomjjkdaaDoorAM
