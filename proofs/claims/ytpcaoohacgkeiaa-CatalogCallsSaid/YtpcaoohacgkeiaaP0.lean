/- Chapter 6: small functions. -/
import Derived.Test.YtpcaoohacgkeiaaJ0
namespace Go.Proofs.YtpcaoohacgkeiaaAM
open Go Go.RowKit
set_option linter.unusedVariables false
set_option linter.unusedSimpArgs false
set_option maxRecDepth 10000
set_option maxHeartbeats 4000000

def goodSz (x : Int) : Prop := 128 ≤ x ∧ x ≤ 4096 ∧ x.tmod 64 = 0
instance (x : Int) : Decidable (goodSz x) := by unfold goodSz; exact inferInstance
def room (x : Int) : Int := if goodSz x then x - 24 else 0
theorem good52 (x : Int) (a : AW) (K) : WCall Try.prog GV 52 [.int .i64 x] a K = K (.bool (decide (goodSz x))) a := by
  rw [call_body' Try.func52 rfl Try.ntmps52 rfl rfl]
  by_cases h1 : 128 ≤ x <;> by_cases h2 : x ≤ 4096 <;> by_cases h3 : x.tmod 64 = 0 <;> simp -dsimp (maxSteps := 4000000) (disch := first | omega | assumption | (simp only [FB, Nat.reduceAdd]; done) | (simp only [LB]; omega)) only [WB, Nat.reduceSub, Nat.reduceAdd, Int.reduceEq, Int.reduceNe, Int.reduceLT, Int.reduceLE, Int.reduceAdd, Int.reduceSub, Int.reduceMul, Int.reduceNeg, Int.reduceToNat, Nat.reduceEqDiff, Nat.reduceLT, Nat.reduceLeDiff, Nat.reduceMul, List.replicate, reduceCtorEq, TB, NB, h1, h2, h3] <;> simp [goodSz, h1, h2, h3]
theorem room53 (x : Int) (a : AW) (K) : WCall Try.prog GV 53 [.int .i64 x] a K = K (.int .i64 (room x)) a := by
  rw [call_body' Try.func53 rfl Try.ntmps53 rfl rfl]
  by_cases h : goodSz x
  · have h' := h
    simp only [goodSz] at h'
    simp -dsimp (maxSteps := 4000000) (disch := first | omega | assumption | (simp only [FB, Nat.reduceAdd]; done) | (simp only [LB]; omega)) only [WB, Nat.reduceSub, Nat.reduceAdd, Int.reduceEq, Int.reduceNe, Int.reduceLT, Int.reduceLE, Int.reduceAdd, Int.reduceSub, Int.reduceMul, Int.reduceNeg, Int.reduceToNat, Nat.reduceEqDiff, Nat.reduceLT, Nat.reduceLeDiff, Nat.reduceMul, List.replicate, reduceCtorEq, TB, NB, good52, h, wrap64]
    simp [room, h]
  · simp -dsimp (maxSteps := 4000000) (disch := first | omega | assumption | (simp only [FB, Nat.reduceAdd]; done) | (simp only [LB]; omega)) only [WB, Nat.reduceSub, Nat.reduceAdd, Int.reduceEq, Int.reduceNe, Int.reduceLT, Int.reduceLE, Int.reduceAdd, Int.reduceSub, Int.reduceMul, Int.reduceNeg, Int.reduceToNat, Nat.reduceEqDiff, Nat.reduceLT, Nat.reduceLeDiff, Nat.reduceMul, List.replicate, reduceCtorEq, TB, NB, good52, h]
    simp [room, h]
def numOk (n : Int) : Prop := 2 ≤ n ∧ n ≤ 2147483647
instance (n : Int) : Decidable (numOk n) := by unfold numOk; exact inferInstance
theorem number30 (n : Int) (a : AW) (K) : WCall Try.prog GV 30 [.int .u32 n] a K = K (.bool (decide (numOk n))) a := by
  rw [call_body' Try.func30 rfl Try.ntmps30 rfl rfl]
  by_cases h1 : 2 ≤ n <;> by_cases h2 : n ≤ 2147483647 <;> simp -dsimp (maxSteps := 4000000) (disch := first | omega | assumption | (simp only [FB, Nat.reduceAdd]; done) | (simp only [LB]; omega)) only [WB, Nat.reduceSub, Nat.reduceAdd, Int.reduceEq, Int.reduceNe, Int.reduceLT, Int.reduceLE, Int.reduceAdd, Int.reduceSub, Int.reduceMul, Int.reduceNeg, Int.reduceToNat, Nat.reduceEqDiff, Nat.reduceLT, Nat.reduceLeDiff, Nat.reduceMul, List.replicate, reduceCtorEq, TB, NB, h1, h2] <;> simp [numOk, h1, h2]
def nameOk (s : List UInt8) : Prop := 1 ≤ s.length ∧ s.length ≤ 16
instance (s : List UInt8) : Decidable (nameOk s) := by unfold nameOk; exact inferInstance
theorem name19 (s : List UInt8) (a : AW) (K) : WCall Try.prog GV 19 [.string (mkStr s)] a K = K (.bool (decide (nameOk s))) a := by
  rw [call_body' Try.func19 rfl Try.ntmps19 rfl rfl]
  by_cases h1 : (1 : Int) ≤ s.length <;> by_cases h2 : (s.length : Int) ≤ 16 <;> simp -dsimp (maxSteps := 4000000) (disch := first | omega | assumption | (simp only [FB, Nat.reduceAdd]; done) | (simp only [LB]; omega)) only [WB, Nat.reduceSub, Nat.reduceAdd, Int.reduceEq, Int.reduceNe, Int.reduceLT, Int.reduceLE, Int.reduceAdd, Int.reduceSub, Int.reduceMul, Int.reduceNeg, Int.reduceToNat, Nat.reduceEqDiff, Nat.reduceLT, Nat.reduceLeDiff, Nat.reduceMul, List.replicate, reduceCtorEq, TB, NB, h1, h2]
  · rw [decide_eq_true (show nameOk s from ⟨by omega, by omega⟩)]
  · rw [decide_eq_false (show ¬ nameOk s from fun h => h2 (by have := h.2; omega))]
  · rw [decide_eq_false (show ¬ nameOk s from fun h => h1 (by have := h.1; omega))]
  · rw [decide_eq_false (show ¬ nameOk s from fun h => h1 (by have := h.1; omega))]
/-- A bucket. -/
structure Bkt where
  name : List UInt8
  root : Int
  keys : Int
instance : Inhabited Bkt := ⟨⟨[], 0, 0⟩⟩
def encB (b : Bkt) : List Value := [.string (mkStr b.name), .int .u32 b.root, .int .i64 b.keys]
def oneOk (b : Bkt) : Prop := nameOk b.name ∧ (b.root = 0 ∧ b.keys = 0 ∨ numOk b.root ∧ 1 ≤ b.keys ∧ b.keys ≤ 2147483647)
instance (b : Bkt) : Decidable (oneOk b) := by unfold oneOk; exact inferInstance
theorem one51 (b : Bkt) (a : AW) (K) : WCall Try.prog GV 51 [.agg (encB b).toArray] a K = K (.bool (decide (oneOk b))) a := by
  rw [call_env Try.func51 rfl Try.ntmps51 rfl rfl (by simp), encB]
  by_cases h1 : b.root = 0 <;> by_cases h2 : b.keys = 0 <;> by_cases h3 : nameOk b.name <;> by_cases h4 : numOk b.root <;> by_cases h5 : 1 ≤ b.keys <;> by_cases h6 : b.keys ≤ 2147483647 <;>
    simp -dsimp (maxSteps := 4000000) (disch := first | omega | assumption | (simp only [FB, Nat.reduceAdd]; done) | (simp only [LB]; omega)) only [EB, ↓reduceIte, WB, Nat.reduceSub, Nat.reduceAdd, Int.reduceEq, Int.reduceNe, Int.reduceLT, Int.reduceLE, Int.reduceAdd, Int.reduceSub, Int.reduceMul, Int.reduceNeg, Int.reduceToNat, Nat.reduceEqDiff, Nat.reduceLT, Nat.reduceLeDiff, Nat.reduceMul, List.replicate, reduceCtorEq, TB, NB, h1, h2, h3, h4, h5, h6, name19, number30, show ¬ numOk 0 by decide] <;> simp [oneOk, h1, h2, h3, h4, h5, h6, show ¬ numOk 0 by decide]
end Go.Proofs.YtpcaoohacgkeiaaAM
