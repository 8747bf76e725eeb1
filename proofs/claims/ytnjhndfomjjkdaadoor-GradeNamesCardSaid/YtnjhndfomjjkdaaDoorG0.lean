/- Chapter 22: floats in their order. -/
import Derived.Test.YtnjhndfomjjkdaaDoorProg
import Derived.Test.YtnjhndfomjjkdaaDoorAME
import Derived.KernelRfl
namespace Go.Proofs.YtnjhndfomjjkdaaDoorAM
open Go Go.RowKit
set_option linter.unusedVariables false
set_option linter.unusedSimpArgs false
set_option maxRecDepth 10000
set_option maxHeartbeats 4000000

theorem und2 : Tryd.prog.underlying 2 = some (.int .i64) := rfl
theorem und3 : Tryd.prog.underlying 3 = some (.int .i64) := rfl
theorem und4 : Tryd.prog.underlying 4 = some .bool := rfl
theorem und9 : Tryd.prog.underlying 9 = some .string := rfl
theorem und22 : Tryd.prog.underlying 22 = some (.float .f64) := rfl
theorem und27 : Tryd.prog.underlying 27 = some (.int .u64) := rfl
theorem mixed : Tryd.prog.follows .mixedOrders = true := by kernel_rfl
theorem plain : plainNames Tryd.prog = true := by kernel_rfl
def kLives : Known := ⟨9, #[], .bool true⟩
theorem lives_holds : kLives.Holds Tryd.prog :=
  known_more mixed plain (l := []) (by intro k hk; cases hk) Tryd.func9 (by kernel_rfl) (n := 10000) rfl rfl (by kernel_rfl)
def GV : Gives := memo [kLives]
theorem known_all : ∀ k ∈ [kLives], k.Holds Tryd.prog := by
  intro k hk
  simp only [List.mem_singleton] at hk
  subst hk
  exact lives_holds
theorem lives9 (a : AW) (K) : WCall Tryd.prog GV 9 [] a K = K (.bool true) a := call_given rfl

/-- Where a word stands in the order of all. -/
def placeZ (b : Nat) : Int := if b < 9223372036854775808 then b else -1 - ((b : Int) - 9223372036854775808)
theorem xor_low (r : Nat) (h : r < 2 ^ 63) : r ^^^ 9223372036854775807 = 9223372036854775807 - r := by
  have h1 : (BitVec.ofNat 63 r ^^^ BitVec.allOnes 63).toNat = r ^^^ 9223372036854775807 := by
    rw [BitVec.toNat_xor, BitVec.toNat_allOnes, BitVec.toNat_ofNat, Nat.mod_eq_of_lt h]
  rw [← h1, BitVec.xor_allOnes, BitVec.toNat_not, BitVec.toNat_ofNat, Nat.mod_eq_of_lt h]
theorem xor_hi (b : Nat) (h1 : 9223372036854775808 ≤ b) (h2 : b < 18446744073709551616) : b ^^^ 9223372036854775807 = 27670116110564327423 - b := by
  have hr : b - 9223372036854775808 < 2 ^ 63 := by omega
  have e1 : (b ^^^ 9223372036854775807) % 2 ^ 63 = (b % 2 ^ 63) ^^^ (9223372036854775807 % 2 ^ 63) := Nat.xor_mod_two_pow
  have e2 : (b ^^^ 9223372036854775807) / 2 ^ 63 = (b / 2 ^ 63) ^^^ (9223372036854775807 / 2 ^ 63) := Nat.xor_div_two_pow
  have m1 : b % 2 ^ 63 = b - 9223372036854775808 := by omega
  have m2 : b / 2 ^ 63 = 1 := by omega
  rw [m1, show 9223372036854775807 % 2 ^ 63 = 9223372036854775807 by rfl, xor_low _ hr] at e1
  rw [m2, show 9223372036854775807 / 2 ^ 63 = 0 by rfl, show 1 ^^^ 0 = 1 by rfl] at e2
  have := Nat.div_add_mod (b ^^^ 9223372036854775807) (2 ^ 63)
  rw [e1, e2] at this
  omega
theorem bits43 (b : Nat) (a : AW) (K) : WCall Tryd.prog GV 43 [.float .f64 b] a K = K (.int .u64 b) a := call_extern (fn := Tryd.f43) (by kernel_rfl) (by kernel_rfl) (by kernel_rfl) (by kernel_rfl)
theorem wrapHi (b : Nat) (h1 : 9223372036854775808 ≤ b) (h2 : b < 18446744073709551616) : IntKind.wrap .i64 (b : Int) = (b : Int) - 18446744073709551616 := by
  show (if (true && decide ((b : Int) % 18446744073709551616 ≥ 9223372036854775808)) = true then (b : Int) % 18446744073709551616 - 18446744073709551616 else (b : Int) % 18446744073709551616) = _
  simp only [Bool.true_and, decide_eq_true_eq]
  split <;> omega
theorem place38 (b : Nat) (hb : b < 18446744073709551616) (a : AW) (K) : WCall Tryd.prog GV 38 [.float .f64 b] a K = K (.int .i64 (placeZ b)) a := by
  refine call_eq ?_ K
  rw [call_env Tryd.func38 rfl Tryd.ntmps38 rfl rfl (by simp)]
  by_cases hl : b < 9223372036854775808
  · have e0 : (b : Int).fdiv (2 ^ (min 63 (IntKind.bits .i64))) = 0 := by
      show (b : Int).fdiv 9223372036854775808 = 0
      rw [Int.fdiv_eq_ediv_of_nonneg _ (by omega)]; omega
    have e1 : IntKind.wrap .i64 ((BitVec.ofInt (IntKind.bits .i64) (b : Int) ^^^ BitVec.ofInt (IntKind.bits .i64) 0).toNat : Int) = (b : Int) := by
      show IntKind.wrap .i64 ((BitVec.ofInt 64 (b : Int) ^^^ BitVec.ofInt 64 0).toNat : Int) = (b : Int)
      rw [BitVec.ofInt_natCast, show BitVec.ofInt 64 0 = 0#64 by rfl, BitVec.xor_zero, BitVec.toNat_ofNat, Nat.mod_eq_of_lt (by omega), wrap64 (by omega) (by omega)]
    have e2 : (0 : Int).fdiv (2 ^ (min 1 (IntKind.bits .u64))) = 0 := by rfl
    have e3 : IntKind.wrap .u64 0 = 0 := rfl
    have e4 : IntKind.wrap .i64 0 = 0 := rfl
    simp -dsimp (maxSteps := 4000000) (disch := first | omega | assumption | (simp only [FB, Nat.reduceAdd]; done) | (simp only [LB]; omega)) only [EB, ↓reduceIte, WB, Nat.reduceSub, Nat.reduceAdd, Int.reduceEq, Int.reduceNe, Int.reduceLT, Int.reduceLE, Int.reduceAdd, Int.reduceSub, Int.reduceMul, Int.reduceNeg, Int.reduceToNat, Nat.reduceEqDiff, Nat.reduceLT, Nat.reduceLeDiff, Nat.reduceMul, List.replicate, reduceCtorEq, bits43, op_conv_int und27 und2, conv_int und27 und2, op_conv_int und2 und27, conv_int und2 und27, wrap64, bin_shr, e0, e2, e3, e4, bin_xor, e1]
    exact ⟨by unfold placeZ; rw [if_pos hl], trivial⟩
  · have e5 := wrapHi b (by omega) hb
    have e0 : ((b : Int) - 18446744073709551616).fdiv (2 ^ (min 63 (IntKind.bits .i64))) = -1 := by
      show ((b : Int) - 18446744073709551616).fdiv 9223372036854775808 = -1
      rw [Int.fdiv_eq_ediv_of_nonneg _ (by omega)]; omega
    have e1 : IntKind.wrap .i64 ((BitVec.ofInt (IntKind.bits .i64) ((b : Int) - 18446744073709551616) ^^^ BitVec.ofInt (IntKind.bits .i64) 9223372036854775807).toNat : Int) = placeZ b := by
      show IntKind.wrap .i64 ((BitVec.ofInt 64 ((b : Int) - 18446744073709551616) ^^^ BitVec.ofInt 64 9223372036854775807).toNat : Int) = placeZ b
      have f1 : (BitVec.ofInt 64 ((b : Int) - 18446744073709551616)).toNat = b := by
        rw [BitVec.toNat_ofInt]; omega
      have f2 : (BitVec.ofInt 64 9223372036854775807).toNat = 9223372036854775807 := by rfl
      rw [BitVec.toNat_xor, f1, f2, xor_hi b (by omega) hb]
      rw [wrapHi _ (by omega) (by omega)]
      unfold placeZ
      rw [if_neg hl]; omega
    have e2 : (18446744073709551615 : Int).fdiv (2 ^ (min 1 (IntKind.bits .u64))) = 9223372036854775807 := by rfl
    have e3 : IntKind.wrap .u64 (-1) = 18446744073709551615 := rfl
    simp -dsimp (maxSteps := 4000000) (disch := first | omega | assumption | (simp only [FB, Nat.reduceAdd]; done) | (simp only [LB]; omega)) only [EB, ↓reduceIte, WB, Nat.reduceSub, Nat.reduceAdd, Int.reduceEq, Int.reduceNe, Int.reduceLT, Int.reduceLE, Int.reduceAdd, Int.reduceSub, Int.reduceMul, Int.reduceNeg, Int.reduceToNat, Nat.reduceEqDiff, Nat.reduceLT, Nat.reduceLeDiff, Nat.reduceMul, List.replicate, reduceCtorEq, bits43, op_conv_int und27 und2, conv_int und27 und2, op_conv_int und2 und27, conv_int und2 und27, e5, bin_shr, e0, e3, e2, wrap64, bin_xor, e1]
    exact ⟨trivial, trivial⟩
def cmpZ (x y : Int) : Int := if x < y then -1 else if y < x then 1 else 0
theorem cmp37 (x y : Int) (a : AW) (K) : WCall Tryd.prog GV 37 [.int .i64 x, .int .i64 y] a K = K (.int .i64 (cmpZ x y)) a := by
  have hn : ∀ (z : Int) (a : AW) (K), WCall Tryd.prog GV 42 [.int .i64 z] a K = K (.bool false) a := by
    intro z a K
    refine call_eq ?_ K
    rw [call_env Tryd.func42 rfl Tryd.ntmps42 rfl rfl (by simp)]
    simp -dsimp (maxSteps := 4000000) (disch := first | omega | assumption | (simp only [FB, Nat.reduceAdd]; done) | (simp only [LB]; omega)) only [EB, ↓reduceIte, WB, Nat.reduceSub, Nat.reduceAdd, Int.reduceEq, Int.reduceNe, Int.reduceLT, Int.reduceLE, Int.reduceAdd, Int.reduceSub, Int.reduceMul, Int.reduceNeg, Int.reduceToNat, Nat.reduceEqDiff, Nat.reduceLT, Nat.reduceLeDiff, Nat.reduceMul, List.replicate, reduceCtorEq, eq_self]
    exact ⟨(by first | trivial | rfl | omega), (by first | trivial | rfl | omega)⟩
  refine call_eq ?_ K
  rw [call_env Tryd.func37 rfl Tryd.ntmps37 rfl rfl (by simp)]
  unfold cmpZ
  by_cases h1 : x < y
  · simp -dsimp (maxSteps := 4000000) (disch := first | omega | assumption | (simp only [FB, Nat.reduceAdd]; done) | (simp only [LB]; omega)) only [EB, ↓reduceIte, WB, Nat.reduceSub, Nat.reduceAdd, Int.reduceEq, Int.reduceNe, Int.reduceLT, Int.reduceLE, Int.reduceAdd, Int.reduceSub, Int.reduceMul, Int.reduceNeg, Int.reduceToNat, Nat.reduceEqDiff, Nat.reduceLT, Nat.reduceLeDiff, Nat.reduceMul, List.replicate, reduceCtorEq, hn, h1]
    exact ⟨(by first | trivial | rfl | omega), (by first | trivial | rfl | omega)⟩
  · by_cases h2 : y < x
    · simp -dsimp (maxSteps := 4000000) (disch := first | omega | assumption | (simp only [FB, Nat.reduceAdd]; done) | (simp only [LB]; omega)) only [EB, ↓reduceIte, WB, Nat.reduceSub, Nat.reduceAdd, Int.reduceEq, Int.reduceNe, Int.reduceLT, Int.reduceLE, Int.reduceAdd, Int.reduceSub, Int.reduceMul, Int.reduceNeg, Int.reduceToNat, Nat.reduceEqDiff, Nat.reduceLT, Nat.reduceLeDiff, Nat.reduceMul, List.replicate, reduceCtorEq, hn, h1, h2]
      exact ⟨(by first | trivial | rfl | omega), (by first | trivial | rfl | omega)⟩
    · simp -dsimp (maxSteps := 4000000) (disch := first | omega | assumption | (simp only [FB, Nat.reduceAdd]; done) | (simp only [LB]; omega)) only [EB, ↓reduceIte, WB, Nat.reduceSub, Nat.reduceAdd, Int.reduceEq, Int.reduceNe, Int.reduceLT, Int.reduceLE, Int.reduceAdd, Int.reduceSub, Int.reduceMul, Int.reduceNeg, Int.reduceToNat, Nat.reduceEqDiff, Nat.reduceLT, Nat.reduceLeDiff, Nat.reduceMul, List.replicate, reduceCtorEq, hn, h1, h2]
      exact ⟨(by first | trivial | rfl | omega), (by first | trivial | rfl | omega)⟩
theorem compare14 (u v : Nat) (hu : u < 18446744073709551616) (hv : v < 18446744073709551616) (a : AW) (K) : WCall Tryd.prog GV 14 [.float .f64 u, .float .f64 v] a K = K (.int .i64 (cmpZ (placeZ u) (placeZ v))) a := by
  refine call_eq ?_ K
  rw [call_env Tryd.func14 rfl Tryd.ntmps14 rfl rfl (by simp)]
  simp -dsimp (maxSteps := 4000000) (disch := first | omega | assumption | (simp only [FB, Nat.reduceAdd]; done) | (simp only [LB]; omega)) only [EB, ↓reduceIte, WB, Nat.reduceSub, Nat.reduceAdd, Int.reduceEq, Int.reduceNe, Int.reduceLT, Int.reduceLE, Int.reduceAdd, Int.reduceSub, Int.reduceMul, Int.reduceNeg, Int.reduceToNat, Nat.reduceEqDiff, Nat.reduceLT, Nat.reduceLeDiff, Nat.reduceMul, List.replicate, reduceCtorEq, place38 u hu, place38 v hv, cmp37]
  exact ⟨(by first | trivial | rfl | omega), (by first | trivial | rfl | omega)⟩
end Go.Proofs.YtnjhndfomjjkdaaDoorAM
