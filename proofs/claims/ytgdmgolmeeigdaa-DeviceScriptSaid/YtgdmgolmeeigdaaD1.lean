/- Chapter 3: what is done to an image, and what it costs. -/
import Derived.Test.YtgdmgolmeeigdaaD0
namespace Go.Proofs.YtgdmgolmeeigdaaAM
open Go Go.RowKit
set_option linter.unusedVariables false
set_option linter.unusedSimpArgs false
set_option maxRecDepth 10000
set_option maxHeartbeats 4000000

theorem elem37 : elemCells Try.prog 37 = some (5, 1) := rfl
theorem zero5 : zeroV Try.prog 5 = some (.int .u8 0) := rfl
theorem bytes5 : (Try.prog.info? 5).any (fun i => decide (i.bytes ≤ 1000000)) = true := rfl
/-- A page written, a file cut. -/
inductive DOp where
  | wr (from_ : Nat) (blk : List UInt8)
  | tr (to_ : Nat)
def grow (to_ : Nat) (im : List UInt8) : List UInt8 := im ++ List.replicate (to_ - im.length) 0
def DOp.act (o : DOp) (im : List UInt8) : List UInt8 := match o with
  | .wr f b => (grow (f + b.length) im).take f ++ b ++ (grow (f + b.length) im).drop (f + b.length)
  | .tr t => im.take t
def DOp.lim (o : DOp) : Nat := match o with
  | .wr f b => f + b.length
  | .tr t => t
theorem grow_len (t : Nat) (im : List UInt8) : (grow t im).length = max t im.length := by
  unfold grow; rw [List.length_append, List.length_replicate]; omega
theorem act_len (o : DOp) (im : List UInt8) : (o.act im).length ≤ max o.lim im.length := by
  cases o with
  | wr f b =>
    unfold DOp.act DOp.lim
    simp only [List.length_append, List.length_take, List.length_drop, grow_len]
    omega
  | tr t =>
    unfold DOp.act DOp.lim
    simp only [List.length_take]
    omega
theorem close36 (t : Nat) (im : List UInt8) (x n bs : Nat) (h : List (Nat × Blk)) (d : List Nat) (hx : look x h = some (.cells [.int .i64 t] true)) (hxn : x < n) (K) :
    WCall Try.prog GV 36 [.string (mkStr im), .pointer (some ⟨x, 0, none⟩)] ⟨n, h, bs, d⟩ K = K (.string (mkStr ((DOp.tr t).act im))) ⟨n, h, bs, d⟩ := by
  refine call_eq ?_ K
  rw [call_body' Try.func36 rfl Try.ntmps36 rfl rfl]
  have e : List.take (min (t : Int) (im.length : Int)).toNat im = (DOp.tr t).act im := by
    show List.take (min (t : Int) (im.length : Int)).toNat im = List.take t im
    by_cases h : t ≤ im.length
    · rw [show (min (t : Int) (im.length : Int)).toNat = t by omega]
    · rw [List.take_of_length_le (by omega), List.take_of_length_le (by omega)]
  simp -dsimp (maxSteps := 4000000) (disch := first | omega | assumption | (simp only [FB, Nat.reduceAdd]; done) | (simp only [LB]; omega)) only [WB, Nat.reduceSub, Nat.reduceAdd, Int.reduceEq, Int.reduceNe, Int.reduceLT, Int.reduceLE, Int.reduceAdd, Int.reduceSub, Int.reduceMul, Int.reduceNeg, Int.reduceToNat, Nat.reduceEqDiff, Nat.reduceLT, Nat.reduceLeDiff, Nat.reduceMul, List.replicate, reduceCtorEq, op_len und9 rfl, hx, load_one agg3, slice_str_hi und9, e]
  simp
theorem close34 (f : Nat) (b im : List UInt8) (x y z n bs : Nat) (h : List (Nat × Blk)) (d : List Nat) (hx : look x h = some (.cells [.int .i64 ((f + b.length : Nat) : Int)] true)) (hy : look y h = some (.cells [.int .i64 f] true)) (hz : look z h = some (.cells [.string (mkStr b)] true)) (hn : x < n ∧ y < n ∧ z < n)
    (hl : im.length ≤ 1000000) (hfb : f + b.length ≤ 1000000) (K) :
    WCall Try.prog GV 34 [.string (mkStr im), .pointer (some ⟨x, 0, none⟩), .pointer (some ⟨y, 0, none⟩), .pointer (some ⟨z, 0, none⟩)] ⟨n, h, bs, d⟩ K = K (.string (mkStr ((DOp.wr f b).act im))) ⟨n, h, bs, d⟩ := by
  refine call_eq ?_ K
  rw [call_body' Try.func34 rfl Try.ntmps34 rfl rfl]
  obtain ⟨hn1, hn2, hn3⟩ := hn
  have hact : (DOp.wr f b).act im = (grow (f + b.length) im).take f ++ b ++ (grow (f + b.length) im).drop (f + b.length) := rfl
  rw [hact]
  obtain ⟨T, hT⟩ : ∃ T, T = f + b.length := ⟨_, rfl⟩
  rw [← hT] at hx hfb ⊢
  have hg := grow_len T im
  have hl1 : (List.take f (grow T im)).length + b.length ≤ 140737488355328 := by rw [List.length_take]; omega
  have hl2 : (List.take f (grow T im) ++ b).length + (List.drop T (grow T im)).length ≤ 140737488355328 := by rw [List.length_append, List.length_take, List.length_drop]; omega
  by_cases hc : (im.length : Int) < (T : Int)
  · simp -dsimp (maxSteps := 4000000) (disch := first | omega | assumption | (simp only [FB, Nat.reduceAdd]; done) | (simp only [LB]; omega)) only [WB, Nat.reduceSub, Nat.reduceAdd, Int.reduceEq, Int.reduceNe, Int.reduceLT, Int.reduceLE, Int.reduceAdd, Int.reduceSub, Int.reduceMul, Int.reduceNeg, Int.reduceToNat, Nat.reduceEqDiff, Nat.reduceLT, Nat.reduceLeDiff, Nat.reduceMul, List.replicate, reduceCtorEq, op_len und9 rfl, hx, hy, hz, hc, load_one agg3, load_one agg9, wrap64, makeSl_at elem37 zero5 rfl bytes5, zero_bytes2, op_ofBytes und37 und9 und5]
    rw [readBytes_at (l := List.replicate ((T : Int) - (im.length : Int)).toNat 0) (rw := true) (by simp only [get_mk, look_self]) (by simp)]
    have e1 : ((T : Int) - (im.length : Int)).toNat = T - im.length := by omega
    have e2 : im ++ List.replicate (T - im.length) 0 = grow T im := rfl
    simp -dsimp (maxSteps := 4000000) (disch := first | omega | assumption | (simp only [FB, Nat.reduceAdd]; done) | (simp only [LB]; omega)) only [WB, Nat.reduceSub, Nat.reduceAdd, Int.reduceEq, Int.reduceNe, Int.reduceLT, Int.reduceLE, Int.reduceAdd, Int.reduceSub, Int.reduceMul, Int.reduceNeg, Int.reduceToNat, Nat.reduceEqDiff, Nat.reduceLT, Nat.reduceLeDiff, Nat.reduceMul, List.replicate, reduceCtorEq, op_len und9 rfl, hx, hy, hz, load_one agg3, load_one agg9, e1, List.take_replicate, Nat.min_self, str_add (show im.length + (List.replicate (T - im.length) (0 : UInt8)).length ≤ 140737488355328 by rw [List.length_replicate]; omega), e2]
    refine code_draw [(0, 1), (0, 3), (0, 5), (0, 6), (0, 7), (1, 3), (1, 5), (1, 6), (1, 7), (2, 3), (2, 5), (2, 6), (2, 7), (3, 5), (3, 6), (3, 7), (4, 5), (4, 6), (4, 7), (5, 6)] (by decide +kernel) (by decide +kernel) ?_
    simp -dsimp (maxSteps := 4000000) (disch := first | omega | assumption | (simp only [FB, Nat.reduceAdd]; done) | (simp only [LB]; omega)) only [WB, Nat.reduceSub, Nat.reduceAdd, Int.reduceEq, Int.reduceNe, Int.reduceLT, Int.reduceLE, Int.reduceAdd, Int.reduceSub, Int.reduceMul, Int.reduceNeg, Int.reduceToNat, Nat.reduceEqDiff, Nat.reduceLT, Nat.reduceLeDiff, Nat.reduceMul, List.replicate, reduceCtorEq, RB, Nat.reduceEqDiff, op_len und9 rfl, hx, hy, hz, load_one agg3, load_one agg9, slice_str_hi und9, slice_str_lo und9, hg, str_add hl1, str_add hl2]
  · have e0 : grow T im = im := by unfold grow; rw [show T - im.length = 0 by omega]; simp
    rw [e0] at hl1 hl2 ⊢
    simp -dsimp (maxSteps := 4000000) (disch := first | omega | assumption | (simp only [FB, Nat.reduceAdd]; done) | (simp only [LB]; omega)) only [WB, Nat.reduceSub, Nat.reduceAdd, Int.reduceEq, Int.reduceNe, Int.reduceLT, Int.reduceLE, Int.reduceAdd, Int.reduceSub, Int.reduceMul, Int.reduceNeg, Int.reduceToNat, Nat.reduceEqDiff, Nat.reduceLT, Nat.reduceLeDiff, Nat.reduceMul, List.replicate, reduceCtorEq, op_len und9 rfl, hx, hy, hz, hc, load_one agg3, load_one agg9, wrap64]
    refine code_draw [(0, 1), (0, 3), (0, 5), (0, 6), (0, 7), (1, 3), (1, 5), (1, 6), (1, 7), (2, 3), (2, 5), (2, 6), (2, 7), (3, 5), (3, 6), (3, 7), (4, 5), (4, 6), (4, 7), (5, 6)] (by decide +kernel) (by decide +kernel) ?_
    simp -dsimp (maxSteps := 4000000) (disch := first | omega | assumption | (simp only [FB, Nat.reduceAdd]; done) | (simp only [LB]; omega)) only [WB, Nat.reduceSub, Nat.reduceAdd, Int.reduceEq, Int.reduceNe, Int.reduceLT, Int.reduceLE, Int.reduceAdd, Int.reduceSub, Int.reduceMul, Int.reduceNeg, Int.reduceToNat, Nat.reduceEqDiff, Nat.reduceLT, Nat.reduceLeDiff, Nat.reduceMul, List.replicate, reduceCtorEq, RB, Nat.reduceEqDiff, op_len und9 rfl, hx, hy, hz, load_one agg3, load_one agg9, slice_str_hi und9, slice_str_lo und9, str_add hl1, str_add hl2]
end Go.Proofs.YtgdmgolmeeigdaaAM
