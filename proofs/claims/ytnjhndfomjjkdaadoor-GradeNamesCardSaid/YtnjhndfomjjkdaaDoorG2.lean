/- Chapter 22: GradeOrder answers true. -/
import Derived.Test.YtnjhndfomjjkdaaDoorG1
namespace Go.Proofs.YtnjhndfomjjkdaaDoorAM
open Go Go.RowKit
set_option linter.unusedVariables false
set_option linter.unusedSimpArgs false
set_option maxRecDepth 10000
set_option maxHeartbeats 4000000

theorem cmp_cases (x y : Int) : (cmpZ x y = -1 ∧ cmpZ y x = 1 ∧ x < y) ∨ (cmpZ x y = 0 ∧ cmpZ y x = 0 ∧ x = y) ∨ (cmpZ x y = 1 ∧ cmpZ y x = -1 ∧ y < x) := by
  unfold cmpZ
  rcases Int.lt_trichotomy x y with h | h | h
  · left; rw [if_pos h, if_neg (by omega), if_pos h]; exact ⟨rfl, rfl, h⟩
  · right; left; subst h; simp
  · right; right; rw [if_neg (by omega), if_pos h, if_pos h]; exact ⟨rfl, rfl, h⟩
theorem law4 (u v w : Nat) (hu : u < 18446744073709551616) (hv : v < 18446744073709551616) (hw : w < 18446744073709551616) (a : AW) :
    WCall Tryd.prog GV 4 [.float .f64 u, .float .f64 v, .float .f64 w] a fun r _ => r = .bool true := by
  rw [call_env Tryd.func4 rfl Tryd.ntmps4 rfl rfl (by simp)]
  have e11 : cmpZ (placeZ u) (placeZ u) = 0 := by simp [cmpZ]
  have hlt : FloatKind.f64.format = Ieee.double := rfl
  have w1 : IntKind.wrap .i64 (-1) = -1 := rfl
  have w0 : IntKind.wrap .i64 0 = 0 := rfl
  have wp : IntKind.wrap .i64 1 = 1 := rfl
  have k1 := compare14 u v hu hv
  have k2 := compare14 v w hv hw
  have k3 := compare14 v u hv hu
  have k4 := compare14 u u hu hu
  have k5 := compare14 u w hu hw
  rcases cmp_cases (placeZ u) (placeZ v) with ⟨c1, c2, h1⟩ | ⟨c1, c2, h1⟩ | ⟨c1, c2, h1⟩
  · rw [c1] at k1; rw [c2] at k3; rw [e11] at k4
    rcases cmp_cases (placeZ v) (placeZ w) with ⟨d1, d2, h2⟩ | ⟨d1, d2, h2⟩ | ⟨d1, d2, h2⟩
    · rw [d1] at k2
      have f1 : cmpZ (placeZ u) (placeZ w) = -1 := by rcases cmp_cases (placeZ u) (placeZ w) with ⟨f, _, h⟩ | ⟨f, _, h⟩ | ⟨f, _, h⟩ <;> first | exact f | omega
      rw [f1] at k5
      cases hB : (Ieee.double.order u v == some .lt)
      · simp -dsimp (maxSteps := 4000000) (disch := first | omega | assumption | (simp only [FB, Nat.reduceAdd]; done) | (simp only [LB]; omega)) only [EB, ↓reduceIte, WB, Nat.reduceSub, Nat.reduceAdd, Int.reduceEq, Int.reduceNe, Int.reduceLT, Int.reduceLE, Int.reduceAdd, Int.reduceSub, Int.reduceMul, Int.reduceNeg, Int.reduceToNat, Nat.reduceEqDiff, Nat.reduceLT, Nat.reduceLeDiff, Nat.reduceMul, List.replicate, reduceCtorEq, lives9, k1, k2, k3, k4, k5, flt_lss, w1, w0, wp, hlt, hB, leave_fst flat_bool]
      · simp -dsimp (maxSteps := 4000000) (disch := first | omega | assumption | (simp only [FB, Nat.reduceAdd]; done) | (simp only [LB]; omega)) only [EB, ↓reduceIte, WB, Nat.reduceSub, Nat.reduceAdd, Int.reduceEq, Int.reduceNe, Int.reduceLT, Int.reduceLE, Int.reduceAdd, Int.reduceSub, Int.reduceMul, Int.reduceNeg, Int.reduceToNat, Nat.reduceEqDiff, Nat.reduceLT, Nat.reduceLeDiff, Nat.reduceMul, List.replicate, reduceCtorEq, lives9, k1, k2, k3, k4, k5, flt_lss, w1, w0, wp, hlt, hB, leave_fst flat_bool]
    · rw [d1] at k2
      have f1 : cmpZ (placeZ u) (placeZ w) = -1 := by rcases cmp_cases (placeZ u) (placeZ w) with ⟨f, _, h⟩ | ⟨f, _, h⟩ | ⟨f, _, h⟩ <;> first | exact f | omega
      rw [f1] at k5
      cases hB : (Ieee.double.order u v == some .lt)
      · simp -dsimp (maxSteps := 4000000) (disch := first | omega | assumption | (simp only [FB, Nat.reduceAdd]; done) | (simp only [LB]; omega)) only [EB, ↓reduceIte, WB, Nat.reduceSub, Nat.reduceAdd, Int.reduceEq, Int.reduceNe, Int.reduceLT, Int.reduceLE, Int.reduceAdd, Int.reduceSub, Int.reduceMul, Int.reduceNeg, Int.reduceToNat, Nat.reduceEqDiff, Nat.reduceLT, Nat.reduceLeDiff, Nat.reduceMul, List.replicate, reduceCtorEq, lives9, k1, k2, k3, k4, k5, flt_lss, w1, w0, wp, hlt, hB, leave_fst flat_bool]
      · simp -dsimp (maxSteps := 4000000) (disch := first | omega | assumption | (simp only [FB, Nat.reduceAdd]; done) | (simp only [LB]; omega)) only [EB, ↓reduceIte, WB, Nat.reduceSub, Nat.reduceAdd, Int.reduceEq, Int.reduceNe, Int.reduceLT, Int.reduceLE, Int.reduceAdd, Int.reduceSub, Int.reduceMul, Int.reduceNeg, Int.reduceToNat, Nat.reduceEqDiff, Nat.reduceLT, Nat.reduceLeDiff, Nat.reduceMul, List.replicate, reduceCtorEq, lives9, k1, k2, k3, k4, k5, flt_lss, w1, w0, wp, hlt, hB, leave_fst flat_bool]
    · rw [d1] at k2
      cases hB : (Ieee.double.order u v == some .lt)
      · simp -dsimp (maxSteps := 4000000) (disch := first | omega | assumption | (simp only [FB, Nat.reduceAdd]; done) | (simp only [LB]; omega)) only [EB, ↓reduceIte, WB, Nat.reduceSub, Nat.reduceAdd, Int.reduceEq, Int.reduceNe, Int.reduceLT, Int.reduceLE, Int.reduceAdd, Int.reduceSub, Int.reduceMul, Int.reduceNeg, Int.reduceToNat, Nat.reduceEqDiff, Nat.reduceLT, Nat.reduceLeDiff, Nat.reduceMul, List.replicate, reduceCtorEq, lives9, k1, k2, k3, k4, k5, flt_lss, w1, w0, wp, hlt, hB, leave_fst flat_bool]
      · simp -dsimp (maxSteps := 4000000) (disch := first | omega | assumption | (simp only [FB, Nat.reduceAdd]; done) | (simp only [LB]; omega)) only [EB, ↓reduceIte, WB, Nat.reduceSub, Nat.reduceAdd, Int.reduceEq, Int.reduceNe, Int.reduceLT, Int.reduceLE, Int.reduceAdd, Int.reduceSub, Int.reduceMul, Int.reduceNeg, Int.reduceToNat, Nat.reduceEqDiff, Nat.reduceLT, Nat.reduceLeDiff, Nat.reduceMul, List.replicate, reduceCtorEq, lives9, k1, k2, k3, k4, k5, flt_lss, w1, w0, wp, hlt, hB, leave_fst flat_bool]
  · rw [c1] at k1; rw [c2] at k3; rw [e11] at k4
    have hB : (Ieee.double.order u v == some .lt) = false := by
      cases hB : (Ieee.double.order u v == some .lt) with
      | false => rfl
      | true => have := order_place u v hu hv (by simpa using hB); omega
    rcases cmp_cases (placeZ v) (placeZ w) with ⟨d1, d2, h2⟩ | ⟨d1, d2, h2⟩ | ⟨d1, d2, h2⟩
    · rw [d1] at k2
      have f1 : cmpZ (placeZ u) (placeZ w) = -1 := by rcases cmp_cases (placeZ u) (placeZ w) with ⟨f, _, h⟩ | ⟨f, _, h⟩ | ⟨f, _, h⟩ <;> first | exact f | omega
      rw [f1] at k5
      simp -dsimp (maxSteps := 4000000) (disch := first | omega | assumption | (simp only [FB, Nat.reduceAdd]; done) | (simp only [LB]; omega)) only [EB, ↓reduceIte, WB, Nat.reduceSub, Nat.reduceAdd, Int.reduceEq, Int.reduceNe, Int.reduceLT, Int.reduceLE, Int.reduceAdd, Int.reduceSub, Int.reduceMul, Int.reduceNeg, Int.reduceToNat, Nat.reduceEqDiff, Nat.reduceLT, Nat.reduceLeDiff, Nat.reduceMul, List.replicate, reduceCtorEq, lives9, k1, k2, k3, k4, k5, flt_lss, w1, w0, wp, hlt, hB, leave_fst flat_bool]
    · rw [d1] at k2
      have f1 : cmpZ (placeZ u) (placeZ w) = 0 := by rcases cmp_cases (placeZ u) (placeZ w) with ⟨f, _, h⟩ | ⟨f, _, h⟩ | ⟨f, _, h⟩ <;> first | exact f | omega
      rw [f1] at k5
      simp -dsimp (maxSteps := 4000000) (disch := first | omega | assumption | (simp only [FB, Nat.reduceAdd]; done) | (simp only [LB]; omega)) only [EB, ↓reduceIte, WB, Nat.reduceSub, Nat.reduceAdd, Int.reduceEq, Int.reduceNe, Int.reduceLT, Int.reduceLE, Int.reduceAdd, Int.reduceSub, Int.reduceMul, Int.reduceNeg, Int.reduceToNat, Nat.reduceEqDiff, Nat.reduceLT, Nat.reduceLeDiff, Nat.reduceMul, List.replicate, reduceCtorEq, lives9, k1, k2, k3, k4, k5, flt_lss, w1, w0, wp, hlt, hB, leave_fst flat_bool]
    · rw [d1] at k2
      simp -dsimp (maxSteps := 4000000) (disch := first | omega | assumption | (simp only [FB, Nat.reduceAdd]; done) | (simp only [LB]; omega)) only [EB, ↓reduceIte, WB, Nat.reduceSub, Nat.reduceAdd, Int.reduceEq, Int.reduceNe, Int.reduceLT, Int.reduceLE, Int.reduceAdd, Int.reduceSub, Int.reduceMul, Int.reduceNeg, Int.reduceToNat, Nat.reduceEqDiff, Nat.reduceLT, Nat.reduceLeDiff, Nat.reduceMul, List.replicate, reduceCtorEq, lives9, k1, k2, k3, k4, k5, flt_lss, w1, w0, wp, hlt, hB, leave_fst flat_bool]
  · rw [c1] at k1; rw [c2] at k3; rw [e11] at k4
    have hB : (Ieee.double.order u v == some .lt) = false := by
      cases hB : (Ieee.double.order u v == some .lt) with
      | false => rfl
      | true => have := order_place u v hu hv (by simpa using hB); omega
    rcases cmp_cases (placeZ v) (placeZ w) with ⟨d1, d2, h2⟩ | ⟨d1, d2, h2⟩ | ⟨d1, d2, h2⟩
    · rw [d1] at k2
      simp -dsimp (maxSteps := 4000000) (disch := first | omega | assumption | (simp only [FB, Nat.reduceAdd]; done) | (simp only [LB]; omega)) only [EB, ↓reduceIte, WB, Nat.reduceSub, Nat.reduceAdd, Int.reduceEq, Int.reduceNe, Int.reduceLT, Int.reduceLE, Int.reduceAdd, Int.reduceSub, Int.reduceMul, Int.reduceNeg, Int.reduceToNat, Nat.reduceEqDiff, Nat.reduceLT, Nat.reduceLeDiff, Nat.reduceMul, List.replicate, reduceCtorEq, lives9, k1, k2, k3, k4, k5, flt_lss, w1, w0, wp, hlt, hB, leave_fst flat_bool]
    · rw [d1] at k2
      simp -dsimp (maxSteps := 4000000) (disch := first | omega | assumption | (simp only [FB, Nat.reduceAdd]; done) | (simp only [LB]; omega)) only [EB, ↓reduceIte, WB, Nat.reduceSub, Nat.reduceAdd, Int.reduceEq, Int.reduceNe, Int.reduceLT, Int.reduceLE, Int.reduceAdd, Int.reduceSub, Int.reduceMul, Int.reduceNeg, Int.reduceToNat, Nat.reduceEqDiff, Nat.reduceLT, Nat.reduceLeDiff, Nat.reduceMul, List.replicate, reduceCtorEq, lives9, k1, k2, k3, k4, k5, flt_lss, w1, w0, wp, hlt, hB, leave_fst flat_bool]
    · rw [d1] at k2
      simp -dsimp (maxSteps := 4000000) (disch := first | omega | assumption | (simp only [FB, Nat.reduceAdd]; done) | (simp only [LB]; omega)) only [EB, ↓reduceIte, WB, Nat.reduceSub, Nat.reduceAdd, Int.reduceEq, Int.reduceNe, Int.reduceLT, Int.reduceLE, Int.reduceAdd, Int.reduceSub, Int.reduceMul, Int.reduceNeg, Int.reduceToNat, Nat.reduceEqDiff, Nat.reduceLT, Nat.reduceLeDiff, Nat.reduceMul, List.replicate, reduceCtorEq, lives9, k1, k2, k3, k4, k5, flt_lss, w1, w0, wp, hlt, hB, leave_fst flat_bool]
end Go.Proofs.YtnjhndfomjjkdaaDoorAM
