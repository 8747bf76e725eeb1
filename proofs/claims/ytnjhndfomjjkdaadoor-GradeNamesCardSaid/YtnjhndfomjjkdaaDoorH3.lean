/- Chapter 22: digits, whole numbers as text. -/
import Derived.Test.YtnjhndfomjjkdaaDoorH2
namespace Go.Proofs.YtnjhndfomjjkdaaDoorAM
open Go Go.RowKit
set_option linter.unusedVariables false
set_option linter.unusedSimpArgs false
set_option maxRecDepth 10000
set_option maxHeartbeats 4000000

theorem sb9 {k k' : IntKind} {s : List UInt8} {i j : Int} (h : 0 ≤ i) (h1 : i ≤ j) (h2 : j ≤ s.length) : sliceA Tryd.prog 9 (.string (mkStr s)) (some (.int k i)) (some (.int k' j)) none = some (.string (mkStr ((s.take j.toNat).drop i.toNat))) := slice_str_both und9 h h1 h2
theorem livesW (a : AW) (K) : WCall Tryd.prog GW 9 [] a K = K (.bool true) a := call_given rfl
def dig (n : Nat) : List UInt8 := if n < 10 then [UInt8.ofNat (48 + n)] else [UInt8.ofNat (48 + n / 10), UInt8.ofNat (48 + n % 10)]
theorem dig_len (n : Nat) : (dig n).length ≤ 2 := by unfold dig; split <;> simp
theorem digs_at : ∀ n, n < 10 → (List.take (n + 1) [48, 49, 50, 51, 52, 53, 54, 55, 56, 57]).drop n = dig n := by decide
theorem dig12a (n : Nat) (hn : n < 10) (a : AW) (K) : WCall Tryd.prog GW 12 [.int .u64 n] a K = K (.string (mkStr (dig n))) a := by
  refine call_eq ?_ K
  rw [call_env Tryd.func12 rfl Tryd.ntmps12 rfl rfl (by simp)]
  have hd := digs_at n hn
  have e1 : ((n : Int) + 1).toNat = n + 1 := by omega
  have e2 : (n : Int).toNat = n := by omega
  have hs : ∀ {k k' : IntKind}, sliceA Tryd.prog 9 (.string (mkStr [48, 49, 50, 51, 52, 53, 54, 55, 56, 57])) (some (.int k n)) (some (.int k' ((n : Int) + 1))) none = some (.string (mkStr (dig n))) := fun {k k'} => by
    rw [sb9 (by omega) (by omega) (by simp; omega), e1, e2, hd]
  simp -dsimp (maxSteps := 4000000) (disch := first | omega | assumption | (simp only [FB, Nat.reduceAdd]; done) | (simp only [LB]; omega)) only [EB, ↓reduceIte, WB, Nat.reduceSub, Nat.reduceAdd, Int.reduceEq, Int.reduceNe, Int.reduceLT, Int.reduceLE, Int.reduceAdd, Int.reduceSub, Int.reduceMul, Int.reduceNeg, Int.reduceToNat, Nat.reduceEqDiff, Nat.reduceLT, Nat.reduceLeDiff, Nat.reduceMul, List.replicate, reduceCtorEq, show (n : Int) < 10 by omega, wrapu64, hs]
  exact ⟨(by first | trivial | rfl | omega), (by first | trivial | rfl | omega)⟩
theorem dig12 (n : Nat) (hn : n < 100) (a : AW) (K) : WCall Tryd.prog GW 12 [.int .u64 n] a K = K (.string (mkStr (dig n))) a := by
  by_cases h10 : n < 10
  · exact dig12a n h10 a K
  · refine call_eq ?_ K
    rw [call_env Tryd.func12 rfl Tryd.ntmps12 rfl rfl (by simp)]
    have c1 := fun a K => dig12a (n / 10) (by omega) a K
    have c2 := fun a K => dig12a (n % 10) (by omega) a K
    have e1 : (n : Int).tdiv 10 = ((n / 10 : Nat) : Int) := by rw [Int.tdiv_eq_ediv_of_nonneg (by omega)]; omega
    have e2 : (n : Int).tmod 10 = ((n % 10 : Nat) : Int) := by rw [Int.tmod_eq_emod_of_nonneg (by omega)]; omega
    have hd : dig (n / 10) ++ dig (n % 10) = dig n := by
      unfold dig
      rw [if_pos (by omega), if_pos (by omega), if_neg h10]; rfl
    simp -dsimp (maxSteps := 4000000) (disch := first | omega | assumption | (simp only [FB, Nat.reduceAdd]; done) | (simp only [LB]; omega)) only [EB, ↓reduceIte, WB, Nat.reduceSub, Nat.reduceAdd, Int.reduceEq, Int.reduceNe, Int.reduceLT, Int.reduceLE, Int.reduceAdd, Int.reduceSub, Int.reduceMul, Int.reduceNeg, Int.reduceToNat, Nat.reduceEqDiff, Nat.reduceLT, Nat.reduceLeDiff, Nat.reduceMul, List.replicate, reduceCtorEq, show ¬ (n : Int) < 10 by omega, wrapu64, e1, e2, c1, c2, str_add (p := dig (n / 10)) (q := dig (n % 10)) (by have := dig_len (n / 10); have := dig_len (n % 10); omega), hd]
    exact ⟨(by first | trivial | rfl | omega), (by first | trivial | rfl | omega)⟩
theorem small_at : ∀ n, n < 10 → (List.take (n + 1) [48, 49, 50, 51, 52, 53, 54, 55, 56, 57, 97, 98, 99, 100, 101, 102, 103, 104, 105, 106, 107, 108, 109, 110, 111, 112, 113, 114, 115, 116, 117, 118, 119, 120, 121, 122]).drop n = dig n := by decide
theorem small_at2 : ∀ n, n < 100 → 10 ≤ n → (List.take (2 * n + 2) ((([48, 48, 48, 49, 48, 50, 48, 51, 48, 52, 48, 53, 48, 54, 48, 55, 48, 56, 48, 57, 49, 48, 49, 49, 49, 50, 49, 51, 49, 52, 49, 53, 49, 54, 49, 55, 49, 56, 49, 57, 50, 48, 50, 49, 50, 50, 50, 51, 50, 52] : List UInt8).append [50, 53, 50, 54, 50, 55, 50, 56, 50, 57, 51, 48, 51, 49, 51, 50, 51, 51, 51, 52, 51, 53, 51, 54, 51, 55, 51, 56, 51, 57, 52, 48, 52, 49, 52, 50, 52, 51, 52, 52, 52, 53, 52, 54, 52, 55, 52, 56, 52, 57]).append (([53, 48, 53, 49, 53, 50, 53, 51, 53, 52, 53, 53, 53, 54, 53, 55, 53, 56, 53, 57, 54, 48, 54, 49, 54, 50, 54, 51, 54, 52, 54, 53, 54, 54, 54, 55, 54, 56, 54, 57, 55, 48, 55, 49, 55, 50, 55, 51, 55, 52] : List UInt8).append [55, 53, 55, 54, 55, 55, 55, 56, 55, 57, 56, 48, 56, 49, 56, 50, 56, 51, 56, 52, 56, 53, 56, 54, 56, 55, 56, 56, 56, 57, 57, 48, 57, 49, 57, 50, 57, 51, 57, 52, 57, 53, 57, 54, 57, 55, 57, 56, 57, 57]))).drop (2 * n) = dig n := by decide +kernel
theorem small46 (n : Nat) (hn : n < 100) (a : AW) (K) : WCall Tryd.prog GW 46 [.int .i64 n] a K = K (.string (mkStr (dig n))) a := by
  refine call_eq ?_ K
  rw [call_env Tryd.func46 rfl Tryd.ntmps46 rfl rfl (by simp)]
  by_cases h10 : n < 10
  · have hd := small_at n h10
    have e1 : ((n : Int) + 1).toNat = n + 1 := by omega
    have e2 : (n : Int).toNat = n := by omega
    have hs : ∀ {k k' : IntKind}, sliceA Tryd.prog 9 (.string (mkStr [48, 49, 50, 51, 52, 53, 54, 55, 56, 57, 97, 98, 99, 100, 101, 102, 103, 104, 105, 106, 107, 108, 109, 110, 111, 112, 113, 114, 115, 116, 117, 118, 119, 120, 121, 122])) (some (.int k n)) (some (.int k' ((n : Int) + 1))) none = some (.string (mkStr (dig n))) := fun {k k'} => by
      rw [sb9 (by omega) (by omega) (by simp; omega), e1, e2, hd]
    simp -dsimp (maxSteps := 4000000) (disch := first | omega | assumption | (simp only [FB, Nat.reduceAdd]; done) | (simp only [LB]; omega)) only [EB, ↓reduceIte, WB, Nat.reduceSub, Nat.reduceAdd, Int.reduceEq, Int.reduceNe, Int.reduceLT, Int.reduceLE, Int.reduceAdd, Int.reduceSub, Int.reduceMul, Int.reduceNeg, Int.reduceToNat, Nat.reduceEqDiff, Nat.reduceLT, Nat.reduceLeDiff, Nat.reduceMul, List.replicate, reduceCtorEq, show (n : Int) < 10 by omega, wrap64, hs]
    exact ⟨(by first | trivial | rfl | omega), (by first | trivial | rfl | omega)⟩
  · have hd := small_at2 n hn (by omega)
    have e1 : ((n : Int) * 2 + 2).toNat = 2 * n + 2 := by omega
    have e2 : ((n : Int) * 2).toNat = 2 * n := by omega
    have hs : ∀ {k k' : IntKind}, sliceA Tryd.prog 9 (.string (mkStr ((([48, 48, 48, 49, 48, 50, 48, 51, 48, 52, 48, 53, 48, 54, 48, 55, 48, 56, 48, 57, 49, 48, 49, 49, 49, 50, 49, 51, 49, 52, 49, 53, 49, 54, 49, 55, 49, 56, 49, 57, 50, 48, 50, 49, 50, 50, 50, 51, 50, 52] : List UInt8).append [50, 53, 50, 54, 50, 55, 50, 56, 50, 57, 51, 48, 51, 49, 51, 50, 51, 51, 51, 52, 51, 53, 51, 54, 51, 55, 51, 56, 51, 57, 52, 48, 52, 49, 52, 50, 52, 51, 52, 52, 52, 53, 52, 54, 52, 55, 52, 56, 52, 57]).append (([53, 48, 53, 49, 53, 50, 53, 51, 53, 52, 53, 53, 53, 54, 53, 55, 53, 56, 53, 57, 54, 48, 54, 49, 54, 50, 54, 51, 54, 52, 54, 53, 54, 54, 54, 55, 54, 56, 54, 57, 55, 48, 55, 49, 55, 50, 55, 51, 55, 52] : List UInt8).append [55, 53, 55, 54, 55, 55, 55, 56, 55, 57, 56, 48, 56, 49, 56, 50, 56, 51, 56, 52, 56, 53, 56, 54, 56, 55, 56, 56, 56, 57, 57, 48, 57, 49, 57, 50, 57, 51, 57, 52, 57, 53, 57, 54, 57, 55, 57, 56, 57, 57])))) (some (.int k ((n : Int) * 2))) (some (.int k' ((n : Int) * 2 + 2))) none = some (.string (mkStr (dig n))) := fun {k k'} => by
      rw [sb9 (by omega) (by omega) (by simp; omega), e1, e2, hd]
    simp -dsimp (maxSteps := 4000000) (disch := first | omega | assumption | (simp only [FB, Nat.reduceAdd]; done) | (simp only [LB]; omega)) only [EB, ↓reduceIte, WB, Nat.reduceSub, Nat.reduceAdd, Int.reduceEq, Int.reduceNe, Int.reduceLT, Int.reduceLE, Int.reduceAdd, Int.reduceSub, Int.reduceMul, Int.reduceNeg, Int.reduceToNat, Nat.reduceEqDiff, Nat.reduceLT, Nat.reduceLeDiff, Nat.reduceMul, List.replicate, reduceCtorEq, show ¬ (n : Int) < 10 by omega, wrap64, hs]
    exact ⟨(by first | trivial | rfl | omega), (by first | trivial | rfl | omega)⟩
theorem itoa45 (n : Nat) (hn : n < 100) (a : AW) (K) : WCall Tryd.prog GW 45 [.int .i64 n, .int .i64 10] a K = K (.string (mkStr (dig n))) a := by
  refine call_eq ?_ K
  rw [call_env Tryd.func45 rfl Tryd.ntmps45 rfl rfl (by simp)]
  have c1 := fun a K => small46 n hn a K
  simp -dsimp (maxSteps := 4000000) (disch := first | omega | assumption | (simp only [FB, Nat.reduceAdd]; done) | (simp only [LB]; omega)) only [EB, ↓reduceIte, WB, Nat.reduceSub, Nat.reduceAdd, Int.reduceEq, Int.reduceNe, Int.reduceLT, Int.reduceLE, Int.reduceAdd, Int.reduceSub, Int.reduceMul, Int.reduceNeg, Int.reduceToNat, Nat.reduceEqDiff, Nat.reduceLT, Nat.reduceLeDiff, Nat.reduceMul, List.replicate, reduceCtorEq, show (0 : Int) ≤ n by omega, show (n : Int) < 100 by omega, c1]
  exact ⟨(by first | trivial | rfl | omega), (by first | trivial | rfl | omega)⟩
theorem itoa41 (n : Nat) (hn : n < 100) (a : AW) (K) : WCall Tryd.prog GW 41 [.int .i64 n] a K = K (.string (mkStr (dig n))) a := by
  refine call_eq ?_ K
  rw [call_env Tryd.func41 rfl Tryd.ntmps41 rfl rfl (by simp)]
  simp -dsimp (maxSteps := 4000000) (disch := first | omega | assumption | (simp only [FB, Nat.reduceAdd]; done) | (simp only [LB]; omega)) only [EB, ↓reduceIte, WB, Nat.reduceSub, Nat.reduceAdd, Int.reduceEq, Int.reduceNe, Int.reduceLT, Int.reduceLE, Int.reduceAdd, Int.reduceSub, Int.reduceMul, Int.reduceNeg, Int.reduceToNat, Nat.reduceEqDiff, Nat.reduceLT, Nat.reduceLeDiff, Nat.reduceMul, List.replicate, reduceCtorEq, itoa45 n hn]
  exact ⟨(by first | trivial | rfl | omega), (by first | trivial | rfl | omega)⟩
theorem itoa36 (n : Nat) (hn : n < 100) (a : AW) (K) : WCall Tryd.prog GW 36 [.int .i64 n] a K = K (.string (mkStr (dig n))) a := by
  refine call_eq ?_ K
  rw [call_env Tryd.func36 rfl Tryd.ntmps36 rfl rfl (by simp)]
  simp -dsimp (maxSteps := 4000000) (disch := first | omega | assumption | (simp only [FB, Nat.reduceAdd]; done) | (simp only [LB]; omega)) only [EB, ↓reduceIte, WB, Nat.reduceSub, Nat.reduceAdd, Int.reduceEq, Int.reduceNe, Int.reduceLT, Int.reduceLE, Int.reduceAdd, Int.reduceSub, Int.reduceMul, Int.reduceNeg, Int.reduceToNat, Nat.reduceEqDiff, Nat.reduceLT, Nat.reduceLeDiff, Nat.reduceMul, List.replicate, reduceCtorEq, itoa41 n hn]
  exact ⟨(by first | trivial | rfl | omega), (by first | trivial | rfl | omega)⟩
def pickN (x m : Int) : Int := if m < 1 then 0 else if x.tmod m < 0 then x.tmod m + m else x.tmod m
theorem pickN_bd (x m : Int) (hm : 1 ≤ m) : 0 ≤ pickN x m ∧ pickN x m < m := by
  unfold pickN
  have hlo := Int.lt_tmod_of_pos x (show 0 < m by omega)
  have hhi := Int.tmod_lt_of_pos x (show 0 < m by omega)
  rw [if_neg (by omega)]
  split <;> omega
theorem pick10 (x m : Int) (hx : -9223372036854775808 ≤ x ∧ x ≤ 9223372036854775807) (hm : m ≤ 1000000) (a : AW) (K) : WCall Tryd.prog GW 10 [.int .i64 x, .int .i64 m] a K = K (.int .i64 (pickN x m)) a := by
  refine call_eq ?_ K
  rw [call_env Tryd.func10 rfl Tryd.ntmps10 rfl rfl (by simp)]
  unfold pickN
  by_cases h1 : m < 1
  · simp -dsimp (maxSteps := 4000000) (disch := first | omega | assumption | (simp only [FB, Nat.reduceAdd]; done) | (simp only [LB]; omega)) only [EB, ↓reduceIte, WB, Nat.reduceSub, Nat.reduceAdd, Int.reduceEq, Int.reduceNe, Int.reduceLT, Int.reduceLE, Int.reduceAdd, Int.reduceSub, Int.reduceMul, Int.reduceNeg, Int.reduceToNat, Nat.reduceEqDiff, Nat.reduceLT, Nat.reduceLeDiff, Nat.reduceMul, List.replicate, reduceCtorEq, h1]
    simp [h1]
  · have hlo := Int.lt_tmod_of_pos x (show 0 < m by omega)
    have hhi := Int.tmod_lt_of_pos x (show 0 < m by omega)
    by_cases h2 : x.tmod m < 0
    · simp -dsimp (maxSteps := 4000000) (disch := first | omega | assumption | (simp only [FB, Nat.reduceAdd]; done) | (simp only [LB]; omega)) only [EB, ↓reduceIte, WB, Nat.reduceSub, Nat.reduceAdd, Int.reduceEq, Int.reduceNe, Int.reduceLT, Int.reduceLE, Int.reduceAdd, Int.reduceSub, Int.reduceMul, Int.reduceNeg, Int.reduceToNat, Nat.reduceEqDiff, Nat.reduceLT, Nat.reduceLeDiff, Nat.reduceMul, List.replicate, reduceCtorEq, h1, h2, wrap64]
      simp
    · simp -dsimp (maxSteps := 4000000) (disch := first | omega | assumption | (simp only [FB, Nat.reduceAdd]; done) | (simp only [LB]; omega)) only [EB, ↓reduceIte, WB, Nat.reduceSub, Nat.reduceAdd, Int.reduceEq, Int.reduceNe, Int.reduceLT, Int.reduceLE, Int.reduceAdd, Int.reduceSub, Int.reduceMul, Int.reduceNeg, Int.reduceToNat, Nat.reduceEqDiff, Nat.reduceLT, Nat.reduceLeDiff, Nat.reduceMul, List.replicate, reduceCtorEq, h1, h2]
      simp
end Go.Proofs.YtnjhndfomjjkdaaDoorAM
