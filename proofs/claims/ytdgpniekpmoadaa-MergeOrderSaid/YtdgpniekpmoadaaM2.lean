/- Chapter 26: what a key tells. -/
import Derived.Test.YtdgpniekpmoadaaM1
namespace Go.Proofs.YtdgpniekpmoadaaAM
open Go Go.RowKit
set_option linter.unusedVariables false
set_option linter.unusedSimpArgs false
set_option maxRecDepth 10000
set_option maxHeartbeats 4000000

theorem or_add (w s A Y : Nat) (hY : Y < 2 ^ s) (h : A * 2 ^ s + Y < 2 ^ w) : (BitVec.ofInt w ((A * 2 ^ s : Nat) : Int) ||| BitVec.ofInt w ((Y : Nat) : Int)).toNat = A * 2 ^ s + Y := by
  have e4 : ∀ x : Nat, x < 2 ^ w → (BitVec.ofInt w (x : Int)).toNat = x := fun x hx => by
    rw [BitVec.ofInt_natCast, BitVec.toNat_ofNat, Nat.mod_eq_of_lt hx]
  rw [BitVec.toNat_or, e4 _ (by omega), e4 _ (by omega), Nat.mul_comm A, ← Nat.two_pow_add_eq_or_of_lt hY]
def bAt (s : List UInt8) (i : Nat) : Nat := (s.getD i 0).toNat
theorem bAt_lt (s : List UInt8) (i : Nat) : bAt s i < 256 := (s.getD i 0).toNat_lt
def pgN (s : List UInt8) : Nat → Nat
  | 0 => 0
  | i + 1 => pgN s i * 256 + bAt s i
theorem pgN_lt (s : List UInt8) : ∀ i, pgN s i < 256 ^ i
  | 0 => by simp [pgN]
  | i + 1 => by
    have h1 := pgN_lt s i
    have h2 := bAt_lt s i
    have h3 : pgN s i * 256 + 256 ≤ 256 ^ i * 256 := by
      have := Nat.mul_le_mul_right 256 (show pgN s i + 1 ≤ 256 ^ i by omega)
      omega
    rw [pgN, Nat.pow_succ]; omega
def slN (s : List UInt8) : Nat := bAt s 4 * 256 + bAt s 5
/-- What a key tells. -/
def readV (s : List UInt8) : Value := if 6 ≤ s.length ∧ s.length ≤ 40 then .tuple #[.int .u32 (pgN s 4), .int .i64 (slN s), .string (mkStr (s.drop 6)), .int .i64 0] else .tuple #[.int .u32 0, .int .i64 0, .string (mkStr []), .int .i64 4]
theorem or_pg (acc b : Nat) (ha : acc < 16777216) (hb : b < 256) : IntKind.wrap .u32 ((BitVec.ofInt IntKind.u32.bits (IntKind.wrap .u32 ((acc : Int) * 2 ^ (min 8 IntKind.u32.bits))) ||| BitVec.ofInt IntKind.u32.bits (b : Int)).toNat : Int) = ((acc * 256 + b : Nat) : Int) := by
  have e1 : (acc : Int) * 2 ^ (min 8 IntKind.u32.bits) = ((acc * 2 ^ 8 : Nat) : Int) := by
    show (acc : Int) * 2 ^ (min 8 32) = _
    simp
  rw [e1, wrapu32 (n := ((acc * 2 ^ 8 : Nat) : Int)) (by omega) (by omega)]
  have := or_add 32 8 acc b (by omega) (by omega)
  show IntKind.wrap .u32 ((BitVec.ofInt 32 _ ||| BitVec.ofInt 32 _).toNat : Int) = _
  rw [this]
  exact wrapu32 (by omega) (by omega)
theorem or_sl (x y : Nat) (hx : x < 256) (hy : y < 256) : IntKind.wrap .i64 ((BitVec.ofInt IntKind.i64.bits (IntKind.wrap .i64 ((x : Int) * 2 ^ (min 8 IntKind.i64.bits))) ||| BitVec.ofInt IntKind.i64.bits (y : Int)).toNat : Int) = ((x * 256 + y : Nat) : Int) := by
  have e1 : (x : Int) * 2 ^ (min 8 IntKind.i64.bits) = ((x * 2 ^ 8 : Nat) : Int) := by
    show (x : Int) * 2 ^ (min 8 64) = _
    simp
  rw [e1, wrap64 (n := ((x * 2 ^ 8 : Nat) : Int)) (by omega) (by omega)]
  have := or_add 64 8 x y (by omega) (by omega)
  show IntKind.wrap .i64 ((BitVec.ofInt 64 _ ||| BitVec.ofInt 64 _).toNat : Int) = _
  rw [this]
  exact wrap64 (by omega) (by omega)
theorem read11 (s : List UInt8) (hs : s.length ≤ 140737488355328) (a : AW) (K) : WCall Try.prog GV 11 [.string (mkStr s)] a K = K (readV s) a := by
  refine call_eq ?_ K
  rw [call_env Try.func11 rfl Try.ntmps11 rfl rfl (by simp)]
  by_cases h6 : (s.length : Int) < 6
  · simp -dsimp (maxSteps := 4000000) (disch := first | omega | assumption | (simp only [FB, Nat.reduceAdd]; done) | (simp only [LB]; omega)) only [EB, ↓reduceIte, WB, Nat.reduceSub, Nat.reduceAdd, Int.reduceEq, Int.reduceNe, Int.reduceLT, Int.reduceLE, Int.reduceAdd, Int.reduceSub, Int.reduceMul, Int.reduceNeg, Int.reduceToNat, Nat.reduceEqDiff, Nat.reduceLT, Nat.reduceLeDiff, Nat.reduceMul, List.replicate, reduceCtorEq, TB, NB, MB, h6, one_four]
    rw [readV, if_neg (by omega)]
    exact ⟨rfl, trivial⟩
  · by_cases h40 : (40 : Int) < s.length
    · simp -dsimp (maxSteps := 4000000) (disch := first | omega | assumption | (simp only [FB, Nat.reduceAdd]; done) | (simp only [LB]; omega)) only [EB, ↓reduceIte, WB, Nat.reduceSub, Nat.reduceAdd, Int.reduceEq, Int.reduceNe, Int.reduceLT, Int.reduceLE, Int.reduceAdd, Int.reduceSub, Int.reduceMul, Int.reduceNeg, Int.reduceToNat, Nat.reduceEqDiff, Nat.reduceLT, Nat.reduceLeDiff, Nat.reduceMul, List.replicate, reduceCtorEq, TB, NB, MB, h6, h40, one_four]
      rw [readV, if_neg (by omega)]
      exact ⟨rfl, trivial⟩
    · simp -dsimp (maxSteps := 4000000) (disch := first | omega | assumption | (simp only [FB, Nat.reduceAdd]; done) | (simp only [LB]; omega)) only [EB, ↓reduceIte, WB, Nat.reduceSub, Nat.reduceAdd, Int.reduceEq, Int.reduceNe, Int.reduceLT, Int.reduceLE, Int.reduceAdd, Int.reduceSub, Int.reduceMul, Int.reduceNeg, Int.reduceToNat, Nat.reduceEqDiff, Nat.reduceLT, Nat.reduceLeDiff, Nat.reduceMul, List.replicate, reduceCtorEq, TB, NB, MB, h6, h40]
      refine loop_inv (fun r t w => ∃ i, ∃ e : Nat → Value, r = 4 - i ∧ i ≤ 4 ∧ w = ⟨a.next, a.heap, a.next, []⟩ ∧ t = TT 37 e ∧ e 0 = .string (mkStr s) ∧ e 2 = .int .u32 (pgN s i : Nat) ∧ e 15 = .int .i64 (i : Nat)) ⟨0, _, rfl, by omega, rfl, rfl, rfl, rfl, rfl⟩ ?_
      rintro r t w ⟨i, e, rfl, hi, rfl, rfl, t0, t2, t15⟩
      by_cases hlt : i < 4
      · have hp := pgN_lt s i
        have hp2 : pgN s i < 16777216 := by
          have : 256 ^ i ≤ 256 ^ 3 := Nat.pow_le_pow_right (by omega) (by omega)
          omega
        have hb := bAt_lt s i
        have ho := or_pg (pgN s i) (bAt s i) hp2 hb
        have hbi : ((s.getD i 0).toNat : Int) = (bAt s i : Int) := rfl
        simp -dsimp (maxSteps := 4000000) (disch := first | omega | assumption | (simp only [FB, Nat.reduceAdd]; done) | (simp only [LB]; omega)) only [EB, ↓reduceIte, WB, Nat.reduceSub, Nat.reduceAdd, Int.reduceEq, Int.reduceNe, Int.reduceLT, Int.reduceLE, Int.reduceAdd, Int.reduceSub, Int.reduceMul, Int.reduceNeg, Int.reduceToNat, Nat.reduceEqDiff, Nat.reduceLT, Nat.reduceLeDiff, Nat.reduceMul, List.replicate, reduceCtorEq, TB, NB, MB, t0, t2, t15, show (i : Int) < 4 by omega, wrap64, Int.toNat_natCast, hbi, wrapu32, bin_shl, bin_or]
        rw [ho]
        refine ⟨trivial, 4 - (i + 1), by omega, i + 1, _, rfl, by omega, (by first | trivial | rfl | omega), rfl, ?_⟩
        simp only [ups_at, ↓reduceIte, Nat.reduceEqDiff]
        exact ⟨t0, (by first | trivial | rfl | omega), (by first | trivial | rfl | omega)⟩
      · obtain rfl : i = 4 := by omega
        simp -dsimp (maxSteps := 4000000) (disch := first | omega | assumption | (simp only [FB, Nat.reduceAdd]; done) | (simp only [LB]; omega)) only [EB, ↓reduceIte, WB, Nat.reduceSub, Nat.reduceAdd, Int.reduceEq, Int.reduceNe, Int.reduceLT, Int.reduceLE, Int.reduceAdd, Int.reduceSub, Int.reduceMul, Int.reduceNeg, Int.reduceToNat, Nat.reduceEqDiff, Nat.reduceLT, Nat.reduceLeDiff, Nat.reduceMul, List.replicate, reduceCtorEq, TB, NB, MB, t0, t2, t15, show ¬ ((4 : Nat) : Int) < 4 by omega]
        refine code_draw [(0, 1), (0, 2), (0, 3), (0, 4), (0, 5), (0, 6), (0, 7), (0, 8), (0, 9), (0, 10), (1, 5), (1, 6), (1, 7), (1, 9), (1, 10), (1, 11), (2, 5), (2, 6), (2, 7), (2, 9), (2, 10), (2, 11), (3, 5), (3, 6), (3, 7), (3, 9), (3, 10), (3, 11), (4, 5), (4, 6), (4, 7), (4, 9), (4, 10), (4, 11), (5, 9), (5, 10), (5, 11), (6, 9), (6, 10), (6, 11), (7, 9), (7, 10), (7, 11), (8, 9), (8, 10), (8, 11), (9, 11), (9, 12), (10, 11), (10, 12)] (by decide +kernel) (by decide +kernel) ?_
        have h4 := bAt_lt s 4
        have h5 := bAt_lt s 5
        have ho := or_sl (bAt s 4) (bAt s 5) h4 h5
        have hb4 : ((s.getD 4 0).toNat : Int) = (bAt s 4 : Int) := rfl
        have hb5 : ((s.getD 5 0).toNat : Int) = (bAt s 5 : Int) := rfl
        simp -dsimp (maxSteps := 4000000) (disch := first | omega | assumption | (simp only [FB, Nat.reduceAdd]; done) | (simp only [LB]; omega)) only [EB, ↓reduceIte, WB, Nat.reduceSub, Nat.reduceAdd, Int.reduceEq, Int.reduceNe, Int.reduceLT, Int.reduceLE, Int.reduceAdd, Int.reduceSub, Int.reduceMul, Int.reduceNeg, Int.reduceToNat, Nat.reduceEqDiff, Nat.reduceLT, Nat.reduceLeDiff, Nat.reduceMul, List.replicate, reduceCtorEq, RB, Nat.reduceEqDiff, TB, NB, MB, t0, t2, wrap64, hb4, hb5, bin_shl, bin_or, ho, one_four]
        rw [readV, if_pos ⟨by omega, by omega⟩]
        rfl
theorem wrapN (n : Nat) (h : n ≤ 4294967295) : IntKind.wrap .u32 (n : Int) = (n : Int) := wrapu32 (by omega) (by omega)
theorem or_pg3 (b0 b1 b2 b3 : Nat) (h0 : b0 < 256) (h1 : b1 < 256) (h2 : b2 < 256) (h3 : b3 < 256) :
    IntKind.wrap .u32 ((BitVec.ofInt IntKind.u32.bits (IntKind.wrap .u32 ((BitVec.ofInt IntKind.u32.bits (IntKind.wrap .u32 ((BitVec.ofInt IntKind.u32.bits (IntKind.wrap .u32 ((b0 : Int) * 2 ^ (min 24 IntKind.u32.bits))) ||| BitVec.ofInt IntKind.u32.bits (IntKind.wrap .u32 ((b1 : Int) * 2 ^ (min 16 IntKind.u32.bits)))).toNat : Int)) ||| BitVec.ofInt IntKind.u32.bits (IntKind.wrap .u32 ((b2 : Int) * 2 ^ (min 8 IntKind.u32.bits)))).toNat : Int)) ||| BitVec.ofInt IntKind.u32.bits (b3 : Int)).toNat : Int) = ((((b0 * 256 + b1) * 256 + b2) * 256 + b3 : Nat) : Int) := by
  have e0 : (b0 : Int) * 2 ^ (min 24 IntKind.u32.bits) = ((b0 * 2 ^ 24 : Nat) : Int) := by
    show (b0 : Int) * 2 ^ (min 24 32) = _
    simp
  have e1 : (b1 : Int) * 2 ^ (min 16 IntKind.u32.bits) = ((b1 * 2 ^ 16 : Nat) : Int) := by
    show (b1 : Int) * 2 ^ (min 16 32) = _
    simp
  have e2 : (b2 : Int) * 2 ^ (min 8 IntKind.u32.bits) = ((b2 * 2 ^ 8 : Nat) : Int) := by
    show (b2 : Int) * 2 ^ (min 8 32) = _
    simp
  rw [e0, e1, e2, wrapN (b0 * 2 ^ 24) (by omega), wrapN (b1 * 2 ^ 16) (by omega), wrapN (b2 * 2 ^ 8) (by omega)]
  have hb : IntKind.u32.bits = 32 := rfl
  rw [hb]
  have o1 := or_add 32 24 b0 (b1 * 2 ^ 16) (by omega) (by omega)
  rw [o1, wrapN (b0 * 2 ^ 24 + b1 * 2 ^ 16) (by omega)]
  have x1 : b0 * 2 ^ 24 + b1 * 2 ^ 16 = (b0 * 256 + b1) * 2 ^ 16 := by omega
  rw [x1]
  have o2 := or_add 32 16 (b0 * 256 + b1) (b2 * 2 ^ 8) (by omega) (by omega)
  rw [o2, wrapN ((b0 * 256 + b1) * 2 ^ 16 + b2 * 2 ^ 8) (by omega)]
  have x2 : (b0 * 256 + b1) * 2 ^ 16 + b2 * 2 ^ 8 = ((b0 * 256 + b1) * 256 + b2) * 2 ^ 8 := by rw [Nat.add_mul ((b0 * 256 + b1) * 256), Nat.mul_assoc (b0 * 256 + b1)]
  rw [x2]
  have o3 := or_add 32 8 ((b0 * 256 + b1) * 256 + b2) b3 (by omega) (by omega)
  rw [o3, wrapN _ (by omega)]
theorem read22 (s : List UInt8) (hs : s.length ≤ 140737488355328) (a : AW) (K) : WCall Try.prog GV 22 [.string (mkStr s)] a K = K (readV s) a := by
  refine call_eq ?_ K
  rw [call_env Try.func22 rfl Try.ntmps22 rfl rfl (by simp)]
  by_cases h6 : (s.length : Int) < 6
  · simp -dsimp (maxSteps := 4000000) (disch := first | omega | assumption | (simp only [FB, Nat.reduceAdd]; done) | (simp only [LB]; omega)) only [EB, ↓reduceIte, WB, Nat.reduceSub, Nat.reduceAdd, Int.reduceEq, Int.reduceNe, Int.reduceLT, Int.reduceLE, Int.reduceAdd, Int.reduceSub, Int.reduceMul, Int.reduceNeg, Int.reduceToNat, Nat.reduceEqDiff, Nat.reduceLT, Nat.reduceLeDiff, Nat.reduceMul, List.replicate, reduceCtorEq, TB, NB, MB, h6, one_four]
    rw [readV, if_neg (by omega)]
    exact ⟨rfl, trivial⟩
  · by_cases h40 : (40 : Int) < s.length
    · simp -dsimp (maxSteps := 4000000) (disch := first | omega | assumption | (simp only [FB, Nat.reduceAdd]; done) | (simp only [LB]; omega)) only [EB, ↓reduceIte, WB, Nat.reduceSub, Nat.reduceAdd, Int.reduceEq, Int.reduceNe, Int.reduceLT, Int.reduceLE, Int.reduceAdd, Int.reduceSub, Int.reduceMul, Int.reduceNeg, Int.reduceToNat, Nat.reduceEqDiff, Nat.reduceLT, Nat.reduceLeDiff, Nat.reduceMul, List.replicate, reduceCtorEq, TB, NB, MB, h6, h40, one_four]
      rw [readV, if_neg (by omega)]
      exact ⟨rfl, trivial⟩
    · simp -dsimp (maxSteps := 4000000) (disch := first | omega | assumption | (simp only [FB, Nat.reduceAdd]; done) | (simp only [LB]; omega)) only [EB, ↓reduceIte, WB, Nat.reduceSub, Nat.reduceAdd, Int.reduceEq, Int.reduceNe, Int.reduceLT, Int.reduceLE, Int.reduceAdd, Int.reduceSub, Int.reduceMul, Int.reduceNeg, Int.reduceToNat, Nat.reduceEqDiff, Nat.reduceLT, Nat.reduceLeDiff, Nat.reduceMul, List.replicate, reduceCtorEq, TB, NB, MB, h6, h40]
      refine code_draw [(0, 4), (0, 5), (0, 6), (0, 7), (0, 9), (0, 10), (0, 11), (0, 12), (0, 14), (0, 15), (0, 16), (1, 4), (1, 5), (1, 6), (1, 7), (1, 9), (1, 10), (1, 11), (1, 12), (1, 14), (1, 15), (1, 16), (2, 4), (2, 5), (2, 6), (2, 7), (2, 9), (2, 10), (2, 11), (2, 12), (2, 14), (2, 15), (2, 16), (3, 4), (3, 5), (3, 6), (3, 7), (3, 9), (3, 10), (3, 11), (3, 12), (3, 14), (3, 15), (3, 16), (4, 9), (4, 10), (4, 11), (4, 12), (4, 14), (4, 15), (4, 16), (5, 9), (5, 10), (5, 11), (5, 12), (5, 14), (5, 15), (5, 16), (6, 9), (6, 10), (6, 11), (6, 12), (6, 14), (6, 15), (6, 16), (7, 9), (7, 10), (7, 11), (7, 12), (7, 14), (7, 15), (7, 16), (8, 9), (8, 10), (8, 11), (8, 12), (8, 14), (8, 15), (8, 16), (9, 14), (9, 15), (9, 16), (10, 14), (10, 15), (10, 16), (11, 14), (11, 15), (11, 16), (12, 14), (12, 15), (12, 16), (13, 14), (13, 15), (13, 16)] (by decide +kernel) (by decide +kernel) ?_
      have hx : ∀ i, ((s.getD i 0).toNat : Int) = (bAt s i : Int) := fun _ => rfl
      have l0 := bAt_lt s 0
      have l1 := bAt_lt s 1
      have l2 := bAt_lt s 2
      have l3 := bAt_lt s 3
      have l4 := bAt_lt s 4
      have l5 := bAt_lt s 5
      have ho := or_pg3 _ _ _ _ l0 l1 l2 l3
      simp -dsimp (maxSteps := 4000000) (disch := first | omega | assumption | (simp only [FB, Nat.reduceAdd]; done) | (simp only [LB]; omega)) only [EB, ↓reduceIte, WB, Nat.reduceSub, Nat.reduceAdd, Int.reduceEq, Int.reduceNe, Int.reduceLT, Int.reduceLE, Int.reduceAdd, Int.reduceSub, Int.reduceMul, Int.reduceNeg, Int.reduceToNat, Nat.reduceEqDiff, Nat.reduceLT, Nat.reduceLeDiff, Nat.reduceMul, List.replicate, reduceCtorEq, RB, Nat.reduceEqDiff, TB, NB, MB, hx, wrapu32, bin_shl, bin_or]
      rw [ho]
      refine code_draw [(0, 1), (0, 2), (0, 3), (0, 4), (0, 5), (0, 6), (0, 7), (0, 8), (0, 9), (0, 10), (1, 5), (1, 6), (1, 7), (1, 9), (1, 10), (1, 11), (2, 5), (2, 6), (2, 7), (2, 9), (2, 10), (2, 11), (3, 5), (3, 6), (3, 7), (3, 9), (3, 10), (3, 11), (4, 5), (4, 6), (4, 7), (4, 9), (4, 10), (4, 11), (5, 9), (5, 10), (5, 11), (6, 9), (6, 10), (6, 11), (7, 9), (7, 10), (7, 11), (8, 9), (8, 10), (8, 11), (9, 11), (9, 12), (10, 11), (10, 12)] (by decide +kernel) (by decide +kernel) ?_
      have ho2 := or_sl (bAt s 4) (bAt s 5) l4 l5
      simp -dsimp (maxSteps := 4000000) (disch := first | omega | assumption | (simp only [FB, Nat.reduceAdd]; done) | (simp only [LB]; omega)) only [EB, ↓reduceIte, WB, Nat.reduceSub, Nat.reduceAdd, Int.reduceEq, Int.reduceNe, Int.reduceLT, Int.reduceLE, Int.reduceAdd, Int.reduceSub, Int.reduceMul, Int.reduceNeg, Int.reduceToNat, Nat.reduceEqDiff, Nat.reduceLT, Nat.reduceLeDiff, Nat.reduceMul, List.replicate, reduceCtorEq, RB, Nat.reduceEqDiff, TB, NB, MB, hx, wrap64, bin_shl, bin_or, ho2, one_four]
      rw [readV, if_pos ⟨by omega, by omega⟩]
      simp [pgN, slN]
end Go.Proofs.YtdgpniekpmoadaaAM
