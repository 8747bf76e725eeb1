/- Chapter 22: weights, the bar. -/
import Derived.Test.YtnjhndfomjjkdaaDoorG7
namespace Go.Proofs.YtnjhndfomjjkdaaDoorAM
open Go Go.RowKit
set_option linter.unusedVariables false
set_option linter.unusedSimpArgs false
set_option maxRecDepth 10000
set_option maxHeartbeats 4000000

def weightN (n : Int) : Nat := if n < 1 then 0 else if 16 < n then 0 else if n ≤ 4 then 3 else if 14 ≤ n then 2 else 1
theorem weight_le (n : Int) : weightN n ≤ 3 := by unfold weightN; repeat' split
                                                  all_goals omega
theorem known44 (n : Int) (a : AW) (K) : WCall Tryd.prog GV 44 [.int .i64 n] a K = K (.bool (decide (1 ≤ n) && decide (n ≤ 16))) a := by
  refine call_eq ?_ K
  rw [call_env Tryd.func44 rfl Tryd.ntmps44 rfl rfl (by simp)]
  by_cases h : 1 ≤ n
  · simp -dsimp (maxSteps := 4000000) (disch := first | omega | assumption | (simp only [FB, Nat.reduceAdd]; done) | (simp only [LB]; omega)) only [EB, ↓reduceIte, WB, Nat.reduceSub, Nat.reduceAdd, Int.reduceEq, Int.reduceNe, Int.reduceLT, Int.reduceLE, Int.reduceAdd, Int.reduceSub, Int.reduceMul, Int.reduceNeg, Int.reduceToNat, Nat.reduceEqDiff, Nat.reduceLT, Nat.reduceLeDiff, Nat.reduceMul, List.replicate, reduceCtorEq, h]
    exact ⟨(by first | trivial | rfl | omega), (by first | trivial | rfl | omega)⟩
  · simp -dsimp (maxSteps := 4000000) (disch := first | omega | assumption | (simp only [FB, Nat.reduceAdd]; done) | (simp only [LB]; omega)) only [EB, ↓reduceIte, WB, Nat.reduceSub, Nat.reduceAdd, Int.reduceEq, Int.reduceNe, Int.reduceLT, Int.reduceLE, Int.reduceAdd, Int.reduceSub, Int.reduceMul, Int.reduceNeg, Int.reduceToNat, Nat.reduceEqDiff, Nat.reduceLT, Nat.reduceLeDiff, Nat.reduceMul, List.replicate, reduceCtorEq, h]
    exact ⟨(by first | trivial | rfl | omega), (by first | trivial | rfl | omega)⟩
theorem weight39 (n : Int) (a : AW) (K) : WCall Tryd.prog GV 39 [.int .i64 n] a K = K (.int .i64 (weightN n)) a := by
  refine call_eq ?_ K
  rw [call_env Tryd.func39 rfl Tryd.ntmps39 rfl rfl (by simp)]
  by_cases h1 : 1 ≤ n
  · by_cases h2 : n ≤ 16
    · by_cases h3 : n ≤ 4
      · simp -dsimp (maxSteps := 4000000) (disch := first | omega | assumption | (simp only [FB, Nat.reduceAdd]; done) | (simp only [LB]; omega)) only [EB, ↓reduceIte, WB, Nat.reduceSub, Nat.reduceAdd, Int.reduceEq, Int.reduceNe, Int.reduceLT, Int.reduceLE, Int.reduceAdd, Int.reduceSub, Int.reduceMul, Int.reduceNeg, Int.reduceToNat, Nat.reduceEqDiff, Nat.reduceLT, Nat.reduceLeDiff, Nat.reduceMul, List.replicate, reduceCtorEq, known44, h1, h2, h3]
        unfold weightN; rw [if_neg (by omega), if_neg (by omega), if_pos h3]
        exact ⟨rfl, (by first | trivial | rfl | omega)⟩
      · by_cases h4 : 14 ≤ n
        · simp -dsimp (maxSteps := 4000000) (disch := first | omega | assumption | (simp only [FB, Nat.reduceAdd]; done) | (simp only [LB]; omega)) only [EB, ↓reduceIte, WB, Nat.reduceSub, Nat.reduceAdd, Int.reduceEq, Int.reduceNe, Int.reduceLT, Int.reduceLE, Int.reduceAdd, Int.reduceSub, Int.reduceMul, Int.reduceNeg, Int.reduceToNat, Nat.reduceEqDiff, Nat.reduceLT, Nat.reduceLeDiff, Nat.reduceMul, List.replicate, reduceCtorEq, known44, h1, h2, h3, h4]
          unfold weightN; rw [if_neg (by omega), if_neg (by omega), if_neg h3, if_pos h4]
          exact ⟨rfl, (by first | trivial | rfl | omega)⟩
        · simp -dsimp (maxSteps := 4000000) (disch := first | omega | assumption | (simp only [FB, Nat.reduceAdd]; done) | (simp only [LB]; omega)) only [EB, ↓reduceIte, WB, Nat.reduceSub, Nat.reduceAdd, Int.reduceEq, Int.reduceNe, Int.reduceLT, Int.reduceLE, Int.reduceAdd, Int.reduceSub, Int.reduceMul, Int.reduceNeg, Int.reduceToNat, Nat.reduceEqDiff, Nat.reduceLT, Nat.reduceLeDiff, Nat.reduceMul, List.replicate, reduceCtorEq, known44, h1, h2, h3, h4]
          unfold weightN; rw [if_neg (by omega), if_neg (by omega), if_neg h3, if_neg h4]
          exact ⟨rfl, (by first | trivial | rfl | omega)⟩
    · simp -dsimp (maxSteps := 4000000) (disch := first | omega | assumption | (simp only [FB, Nat.reduceAdd]; done) | (simp only [LB]; omega)) only [EB, ↓reduceIte, WB, Nat.reduceSub, Nat.reduceAdd, Int.reduceEq, Int.reduceNe, Int.reduceLT, Int.reduceLE, Int.reduceAdd, Int.reduceSub, Int.reduceMul, Int.reduceNeg, Int.reduceToNat, Nat.reduceEqDiff, Nat.reduceLT, Nat.reduceLeDiff, Nat.reduceMul, List.replicate, reduceCtorEq, known44, h1, h2]
      unfold weightN; rw [if_neg (by omega), if_pos (by omega)]
      exact ⟨rfl, (by first | trivial | rfl | omega)⟩
  · simp -dsimp (maxSteps := 4000000) (disch := first | omega | assumption | (simp only [FB, Nat.reduceAdd]; done) | (simp only [LB]; omega)) only [EB, ↓reduceIte, WB, Nat.reduceSub, Nat.reduceAdd, Int.reduceEq, Int.reduceNe, Int.reduceLT, Int.reduceLE, Int.reduceAdd, Int.reduceSub, Int.reduceMul, Int.reduceNeg, Int.reduceToNat, Nat.reduceEqDiff, Nat.reduceLT, Nat.reduceLeDiff, Nat.reduceMul, List.replicate, reduceCtorEq, known44, h1, Bool.false_and]
    unfold weightN; rw [if_pos (by omega)]
    exact ⟨rfl, (by first | trivial | rfl | omega)⟩
theorem weight17 (n : Int) (a : AW) (K) : WCall Tryd.prog GV 17 [.int .i64 n] a K = K (.int .i64 (weightN n)) a := by
  refine call_eq ?_ K
  rw [call_env Tryd.func17 rfl Tryd.ntmps17 rfl rfl (by simp)]
  by_cases h1 : n < 1
  · simp -dsimp (maxSteps := 4000000) (disch := first | omega | assumption | (simp only [FB, Nat.reduceAdd]; done) | (simp only [LB]; omega)) only [EB, ↓reduceIte, WB, Nat.reduceSub, Nat.reduceAdd, Int.reduceEq, Int.reduceNe, Int.reduceLT, Int.reduceLE, Int.reduceAdd, Int.reduceSub, Int.reduceMul, Int.reduceNeg, Int.reduceToNat, Nat.reduceEqDiff, Nat.reduceLT, Nat.reduceLeDiff, Nat.reduceMul, List.replicate, reduceCtorEq, h1]
    unfold weightN; rw [if_pos h1]
    exact ⟨rfl, (by first | trivial | rfl | omega)⟩
  · by_cases h2 : 16 < n
    · simp -dsimp (maxSteps := 4000000) (disch := first | omega | assumption | (simp only [FB, Nat.reduceAdd]; done) | (simp only [LB]; omega)) only [EB, ↓reduceIte, WB, Nat.reduceSub, Nat.reduceAdd, Int.reduceEq, Int.reduceNe, Int.reduceLT, Int.reduceLE, Int.reduceAdd, Int.reduceSub, Int.reduceMul, Int.reduceNeg, Int.reduceToNat, Nat.reduceEqDiff, Nat.reduceLT, Nat.reduceLeDiff, Nat.reduceMul, List.replicate, reduceCtorEq, h1, h2]
      unfold weightN; rw [if_neg h1, if_pos h2]
      exact ⟨rfl, (by first | trivial | rfl | omega)⟩
    · by_cases h3 : n ≤ 4
      · simp -dsimp (maxSteps := 4000000) (disch := first | omega | assumption | (simp only [FB, Nat.reduceAdd]; done) | (simp only [LB]; omega)) only [EB, ↓reduceIte, WB, Nat.reduceSub, Nat.reduceAdd, Int.reduceEq, Int.reduceNe, Int.reduceLT, Int.reduceLE, Int.reduceAdd, Int.reduceSub, Int.reduceMul, Int.reduceNeg, Int.reduceToNat, Nat.reduceEqDiff, Nat.reduceLT, Nat.reduceLeDiff, Nat.reduceMul, List.replicate, reduceCtorEq, h1, h2, h3]
        unfold weightN; rw [if_neg h1, if_neg h2, if_pos h3]
        exact ⟨rfl, (by first | trivial | rfl | omega)⟩
      · by_cases h4 : 14 ≤ n
        · simp -dsimp (maxSteps := 4000000) (disch := first | omega | assumption | (simp only [FB, Nat.reduceAdd]; done) | (simp only [LB]; omega)) only [EB, ↓reduceIte, WB, Nat.reduceSub, Nat.reduceAdd, Int.reduceEq, Int.reduceNe, Int.reduceLT, Int.reduceLE, Int.reduceAdd, Int.reduceSub, Int.reduceMul, Int.reduceNeg, Int.reduceToNat, Nat.reduceEqDiff, Nat.reduceLT, Nat.reduceLeDiff, Nat.reduceMul, List.replicate, reduceCtorEq, h1, h2, h3, h4]
          unfold weightN; rw [if_neg h1, if_neg h2, if_neg h3, if_pos h4]
          exact ⟨rfl, (by first | trivial | rfl | omega)⟩
        · simp -dsimp (maxSteps := 4000000) (disch := first | omega | assumption | (simp only [FB, Nat.reduceAdd]; done) | (simp only [LB]; omega)) only [EB, ↓reduceIte, WB, Nat.reduceSub, Nat.reduceAdd, Int.reduceEq, Int.reduceNe, Int.reduceLT, Int.reduceLE, Int.reduceAdd, Int.reduceSub, Int.reduceMul, Int.reduceNeg, Int.reduceToNat, Nat.reduceEqDiff, Nat.reduceLT, Nat.reduceLeDiff, Nat.reduceMul, List.replicate, reduceCtorEq, h1, h2, h3, h4]
          unfold weightN; rw [if_neg h1, if_neg h2, if_neg h3, if_neg h4]
          exact ⟨rfl, (by first | trivial | rfl | omega)⟩
end Go.Proofs.YtnjhndfomjjkdaaDoorAM
