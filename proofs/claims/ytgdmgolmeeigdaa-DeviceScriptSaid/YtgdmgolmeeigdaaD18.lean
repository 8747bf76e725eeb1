/- Chapter 3: the law's helpers; what any call does to both devices. -/
import Derived.Test.YtgdmgolmeeigdaaD17
namespace Go.Proofs.YtgdmgolmeeigdaaAM
open Go Go.RowKit
set_option linter.unusedVariables false
set_option linter.unusedSimpArgs false
set_option maxRecDepth 10000
set_option maxHeartbeats 4000000

theorem good29 (x : Int) (a : AW) (K) : WCall Try.prog GV 29 [.int .i64 x] a K = K (.bool (decide (goodSz x))) a := by
  refine call_eq ?_ K
  rw [call_env Try.func29 rfl Try.ntmps29 rfl rfl (by simp)]
  by_cases h1 : 128 ≤ x
  · by_cases h2 : x ≤ 4096
    · simp -dsimp (maxSteps := 4000000) (disch := first | omega | assumption | (simp only [FB, Nat.reduceAdd]; done) | (simp only [LB]; omega)) only [EB, ↓reduceIte, WB, Nat.reduceSub, Nat.reduceAdd, Int.reduceEq, Int.reduceNe, Int.reduceLT, Int.reduceLE, Int.reduceAdd, Int.reduceSub, Int.reduceMul, Int.reduceNeg, Int.reduceToNat, Nat.reduceEqDiff, Nat.reduceLT, Nat.reduceLeDiff, Nat.reduceMul, List.replicate, reduceCtorEq, op_len und9 rfl, h1, h2]
      simp [goodSz, h1, h2]
    · simp -dsimp (maxSteps := 4000000) (disch := first | omega | assumption | (simp only [FB, Nat.reduceAdd]; done) | (simp only [LB]; omega)) only [EB, ↓reduceIte, WB, Nat.reduceSub, Nat.reduceAdd, Int.reduceEq, Int.reduceNe, Int.reduceLT, Int.reduceLE, Int.reduceAdd, Int.reduceSub, Int.reduceMul, Int.reduceNeg, Int.reduceToNat, Nat.reduceEqDiff, Nat.reduceLT, Nat.reduceLeDiff, Nat.reduceMul, List.replicate, reduceCtorEq, op_len und9 rfl, h1, h2]
      simp [goodSz, h1, h2]
  · simp -dsimp (maxSteps := 4000000) (disch := first | omega | assumption | (simp only [FB, Nat.reduceAdd]; done) | (simp only [LB]; omega)) only [EB, ↓reduceIte, WB, Nat.reduceSub, Nat.reduceAdd, Int.reduceEq, Int.reduceNe, Int.reduceLT, Int.reduceLE, Int.reduceAdd, Int.reduceSub, Int.reduceMul, Int.reduceNeg, Int.reduceToNat, Nat.reduceEqDiff, Nat.reduceLT, Nat.reduceLeDiff, Nat.reduceMul, List.replicate, reduceCtorEq, op_len und9 rfl, h1]
    simp [goodSz, h1]
def fill (s : List UInt8) : List UInt8 := s.take 128 ++ List.replicate (128 - s.length) 0
theorem fill_len (s : List UInt8) : (fill s).length = 128 := by unfold fill; rw [List.length_append, List.length_take, List.length_replicate]; omega
theorem filled38 (s : List UInt8) (a : AW) (K) : WCall Try.prog GV 38 [.string (mkStr s)] a K = K (.string (mkStr (fill s))) a := by
  refine call_eq ?_ K
  rw [call_env Try.func38 rfl Try.ntmps38 rfl rfl (by simp)]
  have e1 : (min (s.length : Int) 128).toNat = min s.length 128 := by omega
  have e2 : List.take (min s.length 128) s = s.take 128 := by
    rcases Nat.le_total s.length 128 with h | h
    · rw [Nat.min_eq_left h, List.take_of_length_le (Nat.le_refl _), List.take_of_length_le h]
    · rw [Nat.min_eq_right h]
  have e3 : (128 - ((s.take 128).length : Int)).toNat = 128 - s.length := by rw [List.length_take]; omega
  have e4 : 0 ≤ 128 - ((s.take 128).length : Int) ∧ 128 - ((s.take 128).length : Int) ≤ 128 := by rw [List.length_take]; omega
  simp -dsimp (maxSteps := 4000000) (disch := first | omega | assumption | (simp only [FB, Nat.reduceAdd]; done) | (simp only [LB]; omega)) only [EB, ↓reduceIte, WB, Nat.reduceSub, Nat.reduceAdd, Int.reduceEq, Int.reduceNe, Int.reduceLT, Int.reduceLE, Int.reduceAdd, Int.reduceSub, Int.reduceMul, Int.reduceNeg, Int.reduceToNat, Nat.reduceEqDiff, Nat.reduceLT, Nat.reduceLeDiff, Nat.reduceMul, List.replicate, reduceCtorEq, op_len und9 rfl, op_len und9 rfl, slice_str_hi und9, e1, e2, wrap64, makeSl_at elem37 zero5 rfl bytes5, zero_bytes2, op_ofBytes und37 und9 und5]
  rw [readBytes_at (l := List.replicate (128 - ((s.take 128).length : Int)).toNat 0) (rw := true) (by simp only [get_mk, look_self]) (by simp)]
  simp -dsimp (maxSteps := 4000000) (disch := first | omega | assumption | (simp only [FB, Nat.reduceAdd]; done) | (simp only [LB]; omega)) only [EB, ↓reduceIte, WB, Nat.reduceSub, Nat.reduceAdd, Int.reduceEq, Int.reduceNe, Int.reduceLT, Int.reduceLE, Int.reduceAdd, Int.reduceSub, Int.reduceMul, Int.reduceNeg, Int.reduceToNat, Nat.reduceEqDiff, Nat.reduceLT, Nat.reduceLeDiff, Nat.reduceMul, List.replicate, reduceCtorEq, op_len und9 rfl, e3, List.take_replicate, Nat.min_self, str_add (show (s.take 128).length + (List.replicate (128 - s.length) (0 : UInt8)).length ≤ 140737488355328 by rw [List.length_take, List.length_replicate]; omega)]
  exact ⟨(by first | trivial | rfl | omega), (by first | trivial | rfl | omega)⟩
/-- A call that is asked for. -/
structure Act where
  kind : Int
  n : Int
  block : List UInt8
  keep : List Int
  at_ : Int
def Dv.step (D : Dv) (a : Act) : Dv := match pick a.kind 9 with
  | 0 | 1 | 2 => (D.write a.n (fill a.block)).1
  | 3 => (D.trunc a.n).1
  | 4 => D.sync.1
  | 5 => D
  | 6 => D.crash a.keep
  | 7 => D.fuse a.at_
  | _ => (D.write a.n a.block).1
end Go.Proofs.YtgdmgolmeeigdaaAM
