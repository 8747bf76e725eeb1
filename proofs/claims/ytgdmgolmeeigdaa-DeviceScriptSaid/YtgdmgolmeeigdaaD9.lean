/- Chapter 3: pages, reading, a crash. -/
import Derived.Test.YtgdmgolmeeigdaaD8
namespace Go.Proofs.YtgdmgolmeeigdaaAM
open Go Go.RowKit
set_option linter.unusedVariables false
set_option linter.unusedSimpArgs false
set_option maxRecDepth 10000
set_option maxHeartbeats 4000000

section
variable {b n bs : Nat} {c f o : Int} {im du : List UInt8} {pv : Value} {h : List (Nat × Blk)} {d : List Nat} {K : Value → AW → Prop}
theorem pages16 (him : im.length ≤ 1000000) (hb : look b h = some (.cells (devC 128 c im du pv f o) true)) (hbn : b < n) : WCall Try.prog GV 16 [.pointer (some ⟨b, 0, none⟩)] ⟨n, h, bs, d⟩ K = K (.int .i64 ((im.length / 128 : Nat) : Int)) ⟨n, h, bs, d⟩ := by
  refine call_eq ?_ K
  rw [call_body' Try.func16 rfl Try.ntmps16 rfl rfl]
  have e1 : (im.length : Int).tdiv 128 = ((im.length / 128 : Nat) : Int) := by rw [Int.tdiv_eq_ediv_of_nonneg (by omega)]; omega
  simp -dsimp (maxSteps := 4000000) (disch := first | omega | assumption | (simp only [FB, Nat.reduceAdd]; done) | (simp only [LB]; omega)) only [WB, Nat.reduceSub, Nat.reduceAdd, Int.reduceEq, Int.reduceNe, Int.reduceLT, Int.reduceLE, Int.reduceAdd, Int.reduceSub, Int.reduceMul, Int.reduceNeg, Int.reduceToNat, Nat.reduceEqDiff, Nat.reduceLT, Nat.reduceLeDiff, Nat.reduceMul, List.replicate, reduceCtorEq, op_len und9 rfl, eql25]
  refine code_draw [(0, 5), (0, 6), (0, 7), (0, 8), (1, 5), (1, 6), (1, 7), (1, 8), (2, 5), (2, 6), (2, 7), (2, 8), (3, 5), (3, 6), (3, 7), (3, 8), (4, 5), (4, 6), (4, 7), (4, 8)] (by decide +kernel) (by decide +kernel) ?_
  simp -dsimp (maxSteps := 4000000) (disch := first | omega | assumption | (simp only [FB, Nat.reduceAdd]; done) | (simp only [LB]; omega)) only [WB, Nat.reduceSub, Nat.reduceAdd, Int.reduceEq, Int.reduceNe, Int.reduceLT, Int.reduceLE, Int.reduceAdd, Int.reduceSub, Int.reduceMul, Int.reduceNeg, Int.reduceToNat, Nat.reduceEqDiff, Nat.reduceLT, Nat.reduceLeDiff, Nat.reduceMul, List.replicate, reduceCtorEq, RB, Nat.reduceEqDiff, op_len und9 rfl, hb, devC, op_fa fo64_0, op_fa fo64_1, op_fa fo64_2, op_fa fo64_3, op_fa fo64_4, op_fa fo64_5, op_fa fo64_6, load_one agg3, load_one agg9, load_one agg62, storeVar_eq size3, storeVar_eq size9, storeVar_eq size62, e1, wrap64, note_len und9 rfl]
theorem read17 (x : Int) (hx : 0 ≤ x ∧ x < 4294967296) (him : im.length ≤ 1000000) (hb : look b h = some (.cells (devC 128 c im du pv f o) true)) (hbn : b < n) : WCall Try.prog GV 17 [.pointer (some ⟨b, 0, none⟩), .int .u32 x] ⟨n, h, bs, d⟩ K =
    (if x < ((im.length / 128 : Nat) : Int) then K (.tuple #[.string (mkStr ((im.drop (128 * x.toNat)).take 128)), .int .i64 0]) ⟨n, h, bs, d⟩ else K (.tuple #[.string (mkStr []), .int .i64 5]) ⟨n, h, bs, d⟩) := by
  by_cases hlt : x < ((im.length / 128 : Nat) : Int)
  · rw [if_pos hlt]
    refine call_eq ?_ K
    rw [call_body' Try.func17 rfl Try.ntmps17 rfl rfl]
    simp -dsimp (maxSteps := 4000000) (disch := first | omega | assumption | (simp only [FB, Nat.reduceAdd]; done) | (simp only [LB]; omega)) only [WB, Nat.reduceSub, Nat.reduceAdd, Int.reduceEq, Int.reduceNe, Int.reduceLT, Int.reduceLE, Int.reduceAdd, Int.reduceSub, Int.reduceMul, Int.reduceNeg, Int.reduceToNat, Nat.reduceEqDiff, Nat.reduceLT, Nat.reduceLeDiff, Nat.reduceMul, List.replicate, reduceCtorEq, op_len und9 rfl, eql25, pages16 him hb hbn, op_conv_int und31 und65, conv_int und31 und65, op_conv_int und3 und65, conv_int und3 und65, op_conv_int und31 und3, conv_int und31 und3, wrapu64, wrap64, show ¬ ((im.length / 128 : Nat) : Int) ≤ x by omega, hb, devC, op_fa fo64_0, op_fa fo64_1, op_fa fo64_2, op_fa fo64_3, op_fa fo64_4, op_fa fo64_5, op_fa fo64_6, load_one agg3, load_one agg9, load_one agg62, storeVar_eq size3, storeVar_eq size9, storeVar_eq size62]
    refine code_draw [(0, 4), (0, 5), (0, 6), (0, 7), (0, 8), (0, 9), (0, 10), (1, 4), (1, 5), (1, 6), (1, 7), (1, 8), (1, 9), (1, 10), (2, 4), (2, 5), (2, 6), (2, 7), (2, 8), (2, 9), (2, 10), (3, 4), (3, 5), (3, 6), (3, 7), (3, 8), (3, 9), (3, 10), (4, 5), (4, 6), (4, 7), (4, 8), (4, 9), (4, 10), (5, 6), (5, 7), (5, 8), (5, 9)] (by decide +kernel) (by decide +kernel) ?_
    simp -dsimp (maxSteps := 4000000) (disch := first | omega | assumption | (simp only [FB, Nat.reduceAdd]; done) | (simp only [LB]; omega)) only [WB, Nat.reduceSub, Nat.reduceAdd, Int.reduceEq, Int.reduceNe, Int.reduceLT, Int.reduceLE, Int.reduceAdd, Int.reduceSub, Int.reduceMul, Int.reduceNeg, Int.reduceToNat, Nat.reduceEqDiff, Nat.reduceLT, Nat.reduceLeDiff, Nat.reduceMul, List.replicate, reduceCtorEq, RB, Nat.reduceEqDiff, op_len und9 rfl, hb, devC, op_fa fo64_0, op_fa fo64_1, op_fa fo64_2, op_fa fo64_3, op_fa fo64_4, op_fa fo64_5, op_fa fo64_6, load_one agg3, load_one agg9, load_one agg62, storeVar_eq size3, storeVar_eq size9, storeVar_eq size62, wrap64, slice_str_both und9]
    rw [List.drop_take, show (x * 128 + 128).toNat - (x * 128).toNat = 128 by omega, show (x * 128).toNat = 128 * x.toNat by omega]
  · rw [if_neg hlt]
    refine call_eq ?_ K
    rw [call_body' Try.func17 rfl Try.ntmps17 rfl rfl]
    simp -dsimp (maxSteps := 4000000) (disch := first | omega | assumption | (simp only [FB, Nat.reduceAdd]; done) | (simp only [LB]; omega)) only [WB, Nat.reduceSub, Nat.reduceAdd, Int.reduceEq, Int.reduceNe, Int.reduceLT, Int.reduceLE, Int.reduceAdd, Int.reduceSub, Int.reduceMul, Int.reduceNeg, Int.reduceToNat, Nat.reduceEqDiff, Nat.reduceLT, Nat.reduceLeDiff, Nat.reduceMul, List.replicate, reduceCtorEq, op_len und9 rfl, eql25, pages16 him hb hbn, op_conv_int und31 und65, conv_int und31 und65, op_conv_int und3 und65, conv_int und3 und65, op_conv_int und31 und3, conv_int und31 und3, wrapu64, wrap64, show ((im.length / 128 : Nat) : Int) ≤ x by omega]
    exact ⟨trivial, trivial⟩
end
end Go.Proofs.YtgdmgolmeeigdaaAM
