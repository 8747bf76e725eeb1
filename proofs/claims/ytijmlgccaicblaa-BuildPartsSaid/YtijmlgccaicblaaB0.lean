/- Chapter 13: small functions. -/
import Derived.Test.YtijmlgccaicblaaT0
namespace Go.Proofs.YtijmlgccaicblaaAM
open Go Go.RowKit
set_option linter.unusedVariables false
set_option linter.unusedSimpArgs false
set_option maxRecDepth 10000
set_option maxHeartbeats 4000000

/-- What is known of calls that ask nothing: the chapter's example. -/
def kLives : Known := ⟨9, #[], .bool true⟩
theorem lives_holds : kLives.Holds Try.prog :=
  known_more mixed plain (l := []) (by intro k hk; cases hk) Try.func9 (by kernel_rfl) (n := 10000) rfl rfl (by kernel_rfl)
def GV : Gives := memo [kLives]
theorem known_all : ∀ k ∈ [kLives], k.Holds Try.prog := by
  intro k hk
  simp only [List.mem_singleton] at hk
  subst hk
  exact lives_holds
theorem lives9 (a : AW) (K) : WCall Try.prog GV 9 [] a K = K (.bool true) a := call_given rfl
def goodSz (x : Int) : Prop := 128 ≤ x ∧ x ≤ 4096 ∧ x.tmod 64 = 0
instance (x : Int) : Decidable (goodSz x) := by unfold goodSz; exact inferInstance
def room (x : Int) : Int := if goodSz x then x - 24 else 0
theorem good38 (x : Int) (a : AW) (K) : WCall Try.prog GV 38 [.int .i64 x] a K = K (.bool (decide (goodSz x))) a := by
  rw [call_body' Try.func38 rfl Try.ntmps38 rfl rfl]
  by_cases h1 : 128 ≤ x <;> by_cases h2 : x ≤ 4096 <;> by_cases h3 : x.tmod 64 = 0 <;> simp -dsimp (maxSteps := 4000000) (disch := first | omega | assumption | (simp only [FB, Nat.reduceAdd]; done) | (simp only [LB]; omega)) only [WB, Nat.reduceSub, Nat.reduceAdd, Int.reduceEq, Int.reduceNe, Int.reduceLT, Int.reduceLE, Int.reduceAdd, Int.reduceSub, Int.reduceMul, Int.reduceNeg, Int.reduceToNat, Nat.reduceEqDiff, Nat.reduceLT, Nat.reduceLeDiff, Nat.reduceMul, List.replicate, reduceCtorEq, TB, NB, h1, h2, h3] <;> simp [goodSz, h1, h2, h3]
theorem good42 (x : Int) (a : AW) (K) : WCall Try.prog GV 42 [.int .i64 x] a K = K (.bool (decide (goodSz x))) a := by
  rw [call_body' Try.func42 rfl Try.ntmps42 rfl rfl]
  by_cases h1 : 128 ≤ x <;> by_cases h2 : x ≤ 4096 <;> by_cases h3 : x.tmod 64 = 0 <;> simp -dsimp (maxSteps := 4000000) (disch := first | omega | assumption | (simp only [FB, Nat.reduceAdd]; done) | (simp only [LB]; omega)) only [WB, Nat.reduceSub, Nat.reduceAdd, Int.reduceEq, Int.reduceNe, Int.reduceLT, Int.reduceLE, Int.reduceAdd, Int.reduceSub, Int.reduceMul, Int.reduceNeg, Int.reduceToNat, Nat.reduceEqDiff, Nat.reduceLT, Nat.reduceLeDiff, Nat.reduceMul, List.replicate, reduceCtorEq, TB, NB, h1, h2, h3] <;> simp [goodSz, h1, h2, h3]
theorem room40 (x : Int) (a : AW) (K) : WCall Try.prog GV 40 [.int .i64 x] a K = K (.int .i64 (room x)) a := by
  rw [call_body' Try.func40 rfl Try.ntmps40 rfl rfl]
  by_cases h : goodSz x
  · have h' := h
    simp only [goodSz] at h'
    simp -dsimp (maxSteps := 4000000) (disch := first | omega | assumption | (simp only [FB, Nat.reduceAdd]; done) | (simp only [LB]; omega)) only [WB, Nat.reduceSub, Nat.reduceAdd, Int.reduceEq, Int.reduceNe, Int.reduceLT, Int.reduceLE, Int.reduceAdd, Int.reduceSub, Int.reduceMul, Int.reduceNeg, Int.reduceToNat, Nat.reduceEqDiff, Nat.reduceLT, Nat.reduceLeDiff, Nat.reduceMul, List.replicate, reduceCtorEq, TB, NB, good38, h, wrap64]
    simp [room, h]
  · simp -dsimp (maxSteps := 4000000) (disch := first | omega | assumption | (simp only [FB, Nat.reduceAdd]; done) | (simp only [LB]; omega)) only [WB, Nat.reduceSub, Nat.reduceAdd, Int.reduceEq, Int.reduceNe, Int.reduceLT, Int.reduceLE, Int.reduceAdd, Int.reduceSub, Int.reduceMul, Int.reduceNeg, Int.reduceToNat, Nat.reduceEqDiff, Nat.reduceLT, Nat.reduceLeDiff, Nat.reduceMul, List.replicate, reduceCtorEq, TB, NB, good38, h]
    simp [room, h]
theorem room16 (x : Int) (a : AW) (K) : WCall Try.prog GV 16 [.int .i64 x] a K = K (.int .i64 (room x)) a := by
  rw [call_body' Try.func16 rfl Try.ntmps16 rfl rfl]
  by_cases h : goodSz x
  · have h' := h
    simp only [goodSz] at h'
    simp -dsimp (maxSteps := 4000000) (disch := first | omega | assumption | (simp only [FB, Nat.reduceAdd]; done) | (simp only [LB]; omega)) only [WB, Nat.reduceSub, Nat.reduceAdd, Int.reduceEq, Int.reduceNe, Int.reduceLT, Int.reduceLE, Int.reduceAdd, Int.reduceSub, Int.reduceMul, Int.reduceNeg, Int.reduceToNat, Nat.reduceEqDiff, Nat.reduceLT, Nat.reduceLeDiff, Nat.reduceMul, List.replicate, reduceCtorEq, TB, NB, good42, h, wrap64]
    simp [room, h]
  · simp -dsimp (maxSteps := 4000000) (disch := first | omega | assumption | (simp only [FB, Nat.reduceAdd]; done) | (simp only [LB]; omega)) only [WB, Nat.reduceSub, Nat.reduceAdd, Int.reduceEq, Int.reduceNe, Int.reduceLT, Int.reduceLE, Int.reduceAdd, Int.reduceSub, Int.reduceMul, Int.reduceNeg, Int.reduceToNat, Nat.reduceEqDiff, Nat.reduceLT, Nat.reduceLeDiff, Nat.reduceMul, List.replicate, reduceCtorEq, TB, NB, good42, h]
    simp [room, h]
def numOk (n : Int) : Prop := 2 ≤ n ∧ n ≤ 2147483647
instance (n : Int) : Decidable (numOk n) := by unfold numOk; exact inferInstance
theorem number55 (n : Int) (a : AW) (K) : WCall Try.prog GV 55 [.int .u32 n] a K = K (.bool (decide (numOk n))) a := by
  rw [call_body' Try.func55 rfl Try.ntmps55 rfl rfl]
  by_cases h1 : 2 ≤ n <;> by_cases h2 : n ≤ 2147483647 <;> simp -dsimp (maxSteps := 4000000) (disch := first | omega | assumption | (simp only [FB, Nat.reduceAdd]; done) | (simp only [LB]; omega)) only [WB, Nat.reduceSub, Nat.reduceAdd, Int.reduceEq, Int.reduceNe, Int.reduceLT, Int.reduceLE, Int.reduceAdd, Int.reduceSub, Int.reduceMul, Int.reduceNeg, Int.reduceToNat, Nat.reduceEqDiff, Nat.reduceLT, Nat.reduceLeDiff, Nat.reduceMul, List.replicate, reduceCtorEq, TB, NB, h1, h2] <;> simp [numOk, h1, h2]
theorem number62 (n : Int) (a : AW) (K) : WCall Try.prog GV 62 [.int .u32 n] a K = K (.bool (decide (numOk n))) a := by
  rw [call_body' Try.func62 rfl Try.ntmps62 rfl rfl]
  by_cases h1 : 2 ≤ n <;> by_cases h2 : n ≤ 2147483647 <;> simp -dsimp (maxSteps := 4000000) (disch := first | omega | assumption | (simp only [FB, Nat.reduceAdd]; done) | (simp only [LB]; omega)) only [WB, Nat.reduceSub, Nat.reduceAdd, Int.reduceEq, Int.reduceNe, Int.reduceLT, Int.reduceLE, Int.reduceAdd, Int.reduceSub, Int.reduceMul, Int.reduceNeg, Int.reduceToNat, Nat.reduceEqDiff, Nat.reduceLT, Nat.reduceLeDiff, Nat.reduceMul, List.replicate, reduceCtorEq, TB, NB, h1, h2] <;> simp [numOk, h1, h2]
theorem number63 (n : Int) (a : AW) (K) : WCall Try.prog GV 63 [.int .u32 n] a K = K (.bool (decide (numOk n))) a := by
  rw [call_body' Try.func63 rfl Try.ntmps63 rfl rfl]
  by_cases h1 : 2 ≤ n <;> by_cases h2 : n ≤ 2147483647 <;> simp -dsimp (maxSteps := 4000000) (disch := first | omega | assumption | (simp only [FB, Nat.reduceAdd]; done) | (simp only [LB]; omega)) only [WB, Nat.reduceSub, Nat.reduceAdd, Int.reduceEq, Int.reduceNe, Int.reduceLT, Int.reduceLE, Int.reduceAdd, Int.reduceSub, Int.reduceMul, Int.reduceNeg, Int.reduceToNat, Nat.reduceEqDiff, Nat.reduceLT, Nat.reduceLeDiff, Nat.reduceMul, List.replicate, reduceCtorEq, TB, NB, h1, h2] <;> simp [numOk, h1, h2]
theorem key67 (s : List UInt8) (a : AW) (K) : WCall Try.prog GV 67 [.string (mkStr s)] a K = K (.bool (decide (s.length ≤ 40))) a := by
  rw [call_body' Try.func67 rfl Try.ntmps67 rfl rfl]
  by_cases h2 : (s.length : Int) ≤ 40 <;> simp -dsimp (maxSteps := 4000000) (disch := first | omega | assumption | (simp only [FB, Nat.reduceAdd]; done) | (simp only [LB]; omega)) only [WB, Nat.reduceSub, Nat.reduceAdd, Int.reduceEq, Int.reduceNe, Int.reduceLT, Int.reduceLE, Int.reduceAdd, Int.reduceSub, Int.reduceMul, Int.reduceNeg, Int.reduceToNat, Nat.reduceEqDiff, Nat.reduceLT, Nat.reduceLeDiff, Nat.reduceMul, List.replicate, reduceCtorEq, TB, NB, h2]
  · rw [decide_eq_true (by omega)]
  · rw [decide_eq_false (by omega)]
theorem key22 (s : List UInt8) (a : AW) (K) : WCall Try.prog GV 22 [.string (mkStr s)] a K = K (.bool (decide (s.length ≤ 40))) a := by
  rw [call_body' Try.func22 rfl Try.ntmps22 rfl rfl]
  by_cases h2 : (s.length : Int) ≤ 40 <;> simp -dsimp (maxSteps := 4000000) (disch := first | omega | assumption | (simp only [FB, Nat.reduceAdd]; done) | (simp only [LB]; omega)) only [WB, Nat.reduceSub, Nat.reduceAdd, Int.reduceEq, Int.reduceNe, Int.reduceLT, Int.reduceLE, Int.reduceAdd, Int.reduceSub, Int.reduceMul, Int.reduceNeg, Int.reduceToNat, Nat.reduceEqDiff, Nat.reduceLT, Nat.reduceLeDiff, Nat.reduceMul, List.replicate, reduceCtorEq, TB, NB, h2]
  · rw [decide_eq_true (by omega)]
  · rw [decide_eq_false (by omega)]
def pickN (x m : Int) : Int := if m < 1 then 0 else if x.tmod m < 0 then x.tmod m + m else x.tmod m
theorem pickN_bd (x m : Int) (hm : 1 ≤ m) : 0 ≤ pickN x m ∧ pickN x m < m := by
  unfold pickN
  have hlo := Int.lt_tmod_of_pos x (show 0 < m by omega)
  have hhi := Int.tmod_lt_of_pos x (show 0 < m by omega)
  rw [if_neg (by omega)]
  split <;> omega
theorem pick10 (x m : Int) (hx : -9223372036854775808 ≤ x ∧ x ≤ 9223372036854775807) (hm : m ≤ 1000000) (a : AW) (K) : WCall Try.prog GV 10 [.int .i64 x, .int .i64 m] a K = K (.int .i64 (pickN x m)) a := by
  rw [call_body' Try.func10 rfl Try.ntmps10 rfl rfl]
  unfold pickN
  by_cases h1 : m < 1
  · simp -dsimp (maxSteps := 4000000) (disch := first | omega | assumption | (simp only [FB, Nat.reduceAdd]; done) | (simp only [LB]; omega)) only [WB, Nat.reduceSub, Nat.reduceAdd, Int.reduceEq, Int.reduceNe, Int.reduceLT, Int.reduceLE, Int.reduceAdd, Int.reduceSub, Int.reduceMul, Int.reduceNeg, Int.reduceToNat, Nat.reduceEqDiff, Nat.reduceLT, Nat.reduceLeDiff, Nat.reduceMul, List.replicate, reduceCtorEq, TB, NB, h1]
    simp [h1]
  · have hlo := Int.lt_tmod_of_pos x (show 0 < m by omega)
    have hhi := Int.tmod_lt_of_pos x (show 0 < m by omega)
    by_cases h2 : x.tmod m < 0
    · simp -dsimp (maxSteps := 4000000) (disch := first | omega | assumption | (simp only [FB, Nat.reduceAdd]; done) | (simp only [LB]; omega)) only [WB, Nat.reduceSub, Nat.reduceAdd, Int.reduceEq, Int.reduceNe, Int.reduceLT, Int.reduceLE, Int.reduceAdd, Int.reduceSub, Int.reduceMul, Int.reduceNeg, Int.reduceToNat, Nat.reduceEqDiff, Nat.reduceLT, Nat.reduceLeDiff, Nat.reduceMul, List.replicate, reduceCtorEq, TB, NB, h1, h2, wrap64]
      simp
    · simp -dsimp (maxSteps := 4000000) (disch := first | omega | assumption | (simp only [FB, Nat.reduceAdd]; done) | (simp only [LB]; omega)) only [WB, Nat.reduceSub, Nat.reduceAdd, Int.reduceEq, Int.reduceNe, Int.reduceLT, Int.reduceLE, Int.reduceAdd, Int.reduceSub, Int.reduceMul, Int.reduceNeg, Int.reduceToNat, Nat.reduceEqDiff, Nat.reduceLT, Nat.reduceLeDiff, Nat.reduceMul, List.replicate, reduceCtorEq, TB, NB, h1, h2]
      simp
end Go.Proofs.YtijmlgccaicblaaAM
