/- Chapter 22: the reference's Compare; the bar. -/
import Derived.Test.YtnjhndfomjjkdaaDoorI0
namespace Go.Proofs.YtnjhndfomjjkdaaDoorAM
open Go Go.RowKit Ieee
set_option linter.unusedVariables false
set_option linter.unusedSimpArgs false
set_option maxRecDepth 10000
set_option maxHeartbeats 4000000

theorem rank40 (b : Nat) (hb : b < 18446744073709551616) (a : AW) (K) : WCall Tryd.prog GV 40 [.float .f64 b] a K = K (.int .i64 (placeZ b)) a := by
  refine call_eq ?_ K
  rw [call_env Tryd.func40 rfl Tryd.ntmps40 rfl rfl (by simp)]
  by_cases h : b < 9223372036854775808
  · have hp : placeZ b = b := by unfold placeZ; rw [if_pos h]
    simp -dsimp (maxSteps := 4000000) (disch := first | omega | assumption | (simp only [FB, Nat.reduceAdd]; done) | (simp only [LB]; omega)) only [EB, ↓reduceIte, WB, Nat.reduceSub, Nat.reduceAdd, Int.reduceEq, Int.reduceNe, Int.reduceLT, Int.reduceLE, Int.reduceAdd, Int.reduceSub, Int.reduceMul, Int.reduceNeg, Int.reduceToNat, Nat.reduceEqDiff, Nat.reduceLT, Nat.reduceLeDiff, Nat.reduceMul, List.replicate, reduceCtorEq, bits43, op_conv_int und27 und2, conv_int und27 und2, wrap64, show ¬ (b : Int) < 0 by omega]
    rw [hp]
    exact ⟨(by first | trivial | rfl | omega), (by first | trivial | rfl | omega)⟩
  · have hp : placeZ b = -1 - ((b : Int) - 9223372036854775808) := by unfold placeZ; rw [if_neg h]
    have hw := wrapHi b (by omega) hb
    simp -dsimp (maxSteps := 4000000) (disch := first | omega | assumption | (simp only [FB, Nat.reduceAdd]; done) | (simp only [LB]; omega)) only [EB, ↓reduceIte, WB, Nat.reduceSub, Nat.reduceAdd, Int.reduceEq, Int.reduceNe, Int.reduceLT, Int.reduceLE, Int.reduceAdd, Int.reduceSub, Int.reduceMul, Int.reduceNeg, Int.reduceToNat, Nat.reduceEqDiff, Nat.reduceLT, Nat.reduceLeDiff, Nat.reduceMul, List.replicate, reduceCtorEq, bits43, op_conv_int und27 und2, conv_int und27 und2, hw, show (b : Int) - 18446744073709551616 < 0 by omega, wrap64]
    rw [hp]
    refine ⟨?_, (by first | trivial | rfl | omega)⟩
    congr 1; omega
theorem compare28 (u v : Nat) (hu : u < 18446744073709551616) (hv : v < 18446744073709551616) (a : AW) (K) : WCall Tryd.prog GV 28 [.float .f64 u, .float .f64 v] a K = K (.int .i64 (cmpZ (placeZ u) (placeZ v))) a := by
  refine call_eq ?_ K
  rw [call_env Tryd.func28 rfl Tryd.ntmps28 rfl rfl (by simp)]
  have c1 := fun a K => rank40 u hu a K
  have c2 := fun a K => rank40 v hv a K
  rcases Int.lt_trichotomy (placeZ u) (placeZ v) with h | h | h
  · have e : cmpZ (placeZ u) (placeZ v) = -1 := by unfold cmpZ; rw [if_pos h]
    simp -dsimp (maxSteps := 4000000) (disch := first | omega | assumption | (simp only [FB, Nat.reduceAdd]; done) | (simp only [LB]; omega)) only [EB, ↓reduceIte, WB, Nat.reduceSub, Nat.reduceAdd, Int.reduceEq, Int.reduceNe, Int.reduceLT, Int.reduceLE, Int.reduceAdd, Int.reduceSub, Int.reduceMul, Int.reduceNeg, Int.reduceToNat, Nat.reduceEqDiff, Nat.reduceLT, Nat.reduceLeDiff, Nat.reduceMul, List.replicate, reduceCtorEq, c1, c2, h]
    rw [e]
    exact ⟨(by first | trivial | rfl | omega), (by first | trivial | rfl | omega)⟩
  · have e : cmpZ (placeZ u) (placeZ v) = 0 := by unfold cmpZ; rw [if_neg (by omega), if_neg (by omega)]
    simp -dsimp (maxSteps := 4000000) (disch := first | omega | assumption | (simp only [FB, Nat.reduceAdd]; done) | (simp only [LB]; omega)) only [EB, ↓reduceIte, WB, Nat.reduceSub, Nat.reduceAdd, Int.reduceEq, Int.reduceNe, Int.reduceLT, Int.reduceLE, Int.reduceAdd, Int.reduceSub, Int.reduceMul, Int.reduceNeg, Int.reduceToNat, Nat.reduceEqDiff, Nat.reduceLT, Nat.reduceLeDiff, Nat.reduceMul, List.replicate, reduceCtorEq, c1, c2, show ¬ placeZ u < placeZ v by omega, show ¬ placeZ v < placeZ u by omega]
    rw [e]
    exact ⟨(by first | trivial | rfl | omega), (by first | trivial | rfl | omega)⟩
  · have e : cmpZ (placeZ u) (placeZ v) = 1 := by unfold cmpZ; rw [if_neg (by omega), if_pos h]
    simp -dsimp (maxSteps := 4000000) (disch := first | omega | assumption | (simp only [FB, Nat.reduceAdd]; done) | (simp only [LB]; omega)) only [EB, ↓reduceIte, WB, Nat.reduceSub, Nat.reduceAdd, Int.reduceEq, Int.reduceNe, Int.reduceLT, Int.reduceLE, Int.reduceAdd, Int.reduceSub, Int.reduceMul, Int.reduceNeg, Int.reduceToNat, Nat.reduceEqDiff, Nat.reduceLT, Nat.reduceLeDiff, Nat.reduceMul, List.replicate, reduceCtorEq, c1, c2, show ¬ placeZ u < placeZ v by omega, h]
    rw [e]
    exact ⟨(by first | trivial | rfl | omega), (by first | trivial | rfl | omega)⟩
end Go.Proofs.YtnjhndfomjjkdaaDoorAM
