/- Chapter 22: shares of any numbers. -/
import Derived.Test.YtnjhndfomjjkdaaDoorI2
import Derived.Test.YtnjhndfomjjkdaaDoorG12
namespace Go.Proofs.YtnjhndfomjjkdaaDoorAM
open Go Go.RowKit Ieee
set_option linter.unusedVariables false
set_option linter.unusedSimpArgs false
set_option maxRecDepth 10000
set_option maxHeartbeats 4000000

def shareV (N P : Int) : Value := arF double.div (.float .f64 (FloatKind.nearest .f64 N)) (.float .f64 (FloatKind.nearest .f64 P))
theorem leave_nan {a : AW} {n bs : Nat} {h : List (Nat × Blk)} : leaveA a [nanV] ⟨n, h, bs, []⟩ = ([nanV], ⟨n, h, a.base, a.dirty⟩) := by
  rw [back_1 rfl]; rfl
theorem leave_F {v : Value} (hv : isF v) {a : AW} {bs : Nat} : leaveA a [v] ⟨a.next, a.heap, bs, []⟩ = ([v], a) := by
  rcases hv with rfl | ⟨b, rfl⟩
  · rw [leave_nan]
  · rw [leave_flat rfl]
theorem share23a (N P : Int) (a : AW) (K) : WCall Tryd.prog GV 23 [.int .i64 N, .int .i64 P] a K = K (shareV N P) a := by
  refine call_eq ?_ K
  rw [call_env Tryd.func23 rfl Tryd.ntmps23 rfl rfl (by simp)]
  have hq : ∀ {t : TypeId} {x y : Operand}, binA Tryd.prog .quo t x y (.float .f64 (FloatKind.nearest .f64 N)) (.float .f64 (FloatKind.nearest .f64 P)) = some (shareV N P) := bin_quoF (.inr ⟨_, rfl⟩) (.inr ⟨_, rfl⟩)
  have hl := fun {bs : Nat} => leave_F (a := a) (bs := bs) (arF_f double.div (.float .f64 (FloatKind.nearest .f64 N)) (.float .f64 (FloatKind.nearest .f64 P)))
  simp -dsimp (maxSteps := 4000000) (disch := first | omega | assumption | (simp only [FB, Nat.reduceAdd]; done) | (simp only [LB]; omega)) only [EB, ↓reduceIte, WB, Nat.reduceSub, Nat.reduceAdd, Int.reduceEq, Int.reduceNe, Int.reduceLT, Int.reduceLE, Int.reduceAdd, Int.reduceSub, Int.reduceMul, Int.reduceNeg, Int.reduceToNat, Nat.reduceEqDiff, Nat.reduceLT, Nat.reduceLeDiff, Nat.reduceMul, List.replicate, reduceCtorEq, op_conv_flt und3 und22, conv_flt und3 und22, hq]
  rw [show shareV N P = arF double.div (.float .f64 (FloatKind.nearest .f64 N)) (.float .f64 (FloatKind.nearest .f64 P)) from rfl, hl]
  exact ⟨rfl, rfl⟩
end Go.Proofs.YtnjhndfomjjkdaaDoorAM
