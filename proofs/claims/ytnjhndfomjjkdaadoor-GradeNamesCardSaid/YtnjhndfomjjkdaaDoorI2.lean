/- Chapter 22: the bar, of any float. -/
import Derived.Test.YtnjhndfomjjkdaaDoorI1
namespace Go.Proofs.YtnjhndfomjjkdaaDoorAM
open Go Go.RowKit Ieee
set_option linter.unusedVariables false
set_option linter.unusedSimpArgs false
set_option maxRecDepth 10000
set_option maxHeartbeats 4000000

def barV (b : Nat) : Int := if b ≤ 4607182418800017408 then 0 else 2
theorem bar18a (b : Nat) (hb : b < 18446744073709551616) (a : AW) (K) : WCall Tryd.prog GV 18 [.float .f64 b] a K = K (.int .i64 (barV b)) a := by
  by_cases h1 : b ≤ 4607182418800017408
  · have : barV b = 0 := by unfold barV; rw [if_pos h1]
    rw [this]; exact bar18 b h1 a K
  · have hv : barV b = 2 := by unfold barV; rw [if_neg h1]
    rw [hv]
    refine call_eq ?_ K
    rw [call_env Tryd.func18 rfl Tryd.ntmps18 rfl rfl (by simp)]
    have hf : FloatKind.f64.format = double := rfl
    have c := fun a K => compare14 b 0 hb (by decide) a K
    cases hx : (double.order b 0 == some .gt || double.order b 0 == some .eq) with
    | false =>
      simp -dsimp (maxSteps := 4000000) (disch := first | omega | assumption | (simp only [FB, Nat.reduceAdd]; done) | (simp only [LB]; omega)) only [EB, ↓reduceIte, WB, Nat.reduceSub, Nat.reduceAdd, Int.reduceEq, Int.reduceNe, Int.reduceLT, Int.reduceLE, Int.reduceAdd, Int.reduceSub, Int.reduceMul, Int.reduceNeg, Int.reduceToNat, Nat.reduceEqDiff, Nat.reduceLT, Nat.reduceLeDiff, Nat.reduceMul, List.replicate, reduceCtorEq, flt_geq, flt_leq, hf, hx]
      exact ⟨(by first | trivial | rfl | omega), (by first | trivial | rfl | omega)⟩
    | true =>
      cases hy : (double.order b 4607182418800017408 == some .lt || double.order b 4607182418800017408 == some .eq) with
      | false =>
        simp -dsimp (maxSteps := 4000000) (disch := first | omega | assumption | (simp only [FB, Nat.reduceAdd]; done) | (simp only [LB]; omega)) only [EB, ↓reduceIte, WB, Nat.reduceSub, Nat.reduceAdd, Int.reduceEq, Int.reduceNe, Int.reduceLT, Int.reduceLE, Int.reduceAdd, Int.reduceSub, Int.reduceMul, Int.reduceNeg, Int.reduceToNat, Nat.reduceEqDiff, Nat.reduceLT, Nat.reduceLeDiff, Nat.reduceMul, List.replicate, reduceCtorEq, flt_geq, flt_leq, hf, hx, hy]
        exact ⟨(by first | trivial | rfl | omega), (by first | trivial | rfl | omega)⟩
      | true =>
        have hpm := pos_mono (v := 4607182418800017408) hb (by decide) (by simpa [Bool.or_eq_true] using hy)
        have hp1 : pos 4607182418800017408 = 4607182418800017408 := rfl
        have hneg : 9223372036854775808 ≤ b := by
          rcases Nat.lt_or_ge b 9223372036854775808 with h | h
          · have : pos b = b := by unfold pos; rw [if_pos h]
            omega
          · exact h
        have hz : cmpZ (placeZ b) (placeZ 0) = -1 := by
          have hp : placeZ b < placeZ 0 := by
            have p0 : placeZ 0 = 0 := by decide
            rw [p0]; unfold placeZ; rw [if_neg (by omega)]; omega
          unfold cmpZ
          rw [if_pos hp]
        rw [hz] at c
        simp -dsimp (maxSteps := 4000000) (disch := first | omega | assumption | (simp only [FB, Nat.reduceAdd]; done) | (simp only [LB]; omega)) only [EB, ↓reduceIte, WB, Nat.reduceSub, Nat.reduceAdd, Int.reduceEq, Int.reduceNe, Int.reduceLT, Int.reduceLE, Int.reduceAdd, Int.reduceSub, Int.reduceMul, Int.reduceNeg, Int.reduceToNat, Nat.reduceEqDiff, Nat.reduceLT, Nat.reduceLeDiff, Nat.reduceMul, List.replicate, reduceCtorEq, flt_geq, flt_leq, hf, hx, hy, c]
        exact ⟨(by first | trivial | rfl | omega), (by first | trivial | rfl | omega)⟩
theorem cmp_le {x y : Int} (h : x ≤ y) : cmpZ x y ≤ 0 := by rcases cmp_cases x y with ⟨e, -, -⟩ | ⟨e, -, -⟩ | ⟨-, -, c⟩ <;> omega
theorem cmp_gt {x y : Int} (h : y < x) : ¬ cmpZ x y ≤ 0 := by rcases cmp_cases x y with ⟨-, -, c⟩ | ⟨-, -, c⟩ | ⟨e, -, -⟩ <;> omega
theorem bar30 (b : Nat) (hb : b < 18446744073709551616) (a : AW) (K) : WCall Tryd.prog GV 30 [.float .f64 b] a K = K (.int .i64 (barV b)) a := by
  refine call_eq ?_ K
  rw [call_env Tryd.func30 rfl Tryd.ntmps30 rfl rfl (by simp)]
  have c1 := fun a K => compare28 b 0 hb (by decide) a K
  have c2 := fun a K => compare28 b 4607182418800017408 hb (by decide) a K
  have p0 : placeZ 0 = 0 := by decide
  have p1 : placeZ 4607182418800017408 = 4607182418800017408 := by unfold placeZ; rw [if_pos (by omega)]; rfl
  rw [p0] at c1
  rw [p1] at c2
  obtain ⟨ONE, hONE⟩ : ∃ n : Int, n = 4607182418800017408 := ⟨_, rfl⟩
  rw [← hONE] at c2
  unfold barV
  by_cases h1 : b ≤ 4607182418800017408
  · have hp : placeZ b = b := by unfold placeZ; rw [if_pos (by omega)]
    rw [hp] at c1 c2
    have e1 : ¬ cmpZ (b : Int) 0 < 0 ∧ (0 ≤ cmpZ (b : Int) 0) := by unfold cmpZ; split <;> (try split) <;> omega
    have e2 : cmpZ (b : Int) ONE ≤ 0 := cmp_le (by omega)
    simp -dsimp (maxSteps := 4000000) (disch := first | omega | assumption | (simp only [FB, Nat.reduceAdd]; done) | (simp only [LB]; omega)) only [EB, ↓reduceIte, WB, Nat.reduceSub, Nat.reduceAdd, Int.reduceEq, Int.reduceNe, Int.reduceLT, Int.reduceLE, Int.reduceAdd, Int.reduceSub, Int.reduceMul, Int.reduceNeg, Int.reduceToNat, Nat.reduceEqDiff, Nat.reduceLT, Nat.reduceLeDiff, Nat.reduceMul, List.replicate, reduceCtorEq, c1, c2, e1.2, e2]
    rw [if_pos h1]
    exact ⟨(by first | trivial | rfl | omega), (by first | trivial | rfl | omega)⟩
  · rw [if_neg h1]
    rcases Nat.lt_or_ge b 9223372036854775808 with h | h
    · have hp : placeZ b = b := by unfold placeZ; rw [if_pos h]
      rw [hp] at c1 c2
      have e1 : 0 ≤ cmpZ (b : Int) 0 := by unfold cmpZ; split <;> (try split) <;> omega
      have e2 : ¬ cmpZ (b : Int) ONE ≤ 0 := cmp_gt (by omega)
      simp -dsimp (maxSteps := 4000000) (disch := first | omega | assumption | (simp only [FB, Nat.reduceAdd]; done) | (simp only [LB]; omega)) only [EB, ↓reduceIte, WB, Nat.reduceSub, Nat.reduceAdd, Int.reduceEq, Int.reduceNe, Int.reduceLT, Int.reduceLE, Int.reduceAdd, Int.reduceSub, Int.reduceMul, Int.reduceNeg, Int.reduceToNat, Nat.reduceEqDiff, Nat.reduceLT, Nat.reduceLeDiff, Nat.reduceMul, List.replicate, reduceCtorEq, c1, c2, e1, e2]
      exact ⟨(by first | trivial | rfl | omega), (by first | trivial | rfl | omega)⟩
    · have hp : placeZ b < 0 := by unfold placeZ; rw [if_neg (by omega)]; omega
      have e1 : ¬ 0 ≤ cmpZ (placeZ b) 0 := by unfold cmpZ; rw [if_pos hp]; omega
      simp -dsimp (maxSteps := 4000000) (disch := first | omega | assumption | (simp only [FB, Nat.reduceAdd]; done) | (simp only [LB]; omega)) only [EB, ↓reduceIte, WB, Nat.reduceSub, Nat.reduceAdd, Int.reduceEq, Int.reduceNe, Int.reduceLT, Int.reduceLE, Int.reduceAdd, Int.reduceSub, Int.reduceMul, Int.reduceNeg, Int.reduceToNat, Nat.reduceEqDiff, Nat.reduceLT, Nat.reduceLeDiff, Nat.reduceMul, List.replicate, reduceCtorEq, c1, c2, e1]
      exact ⟨(by first | trivial | rfl | omega), (by first | trivial | rfl | omega)⟩
end Go.Proofs.YtnjhndfomjjkdaaDoorAM
