/- Chapter 14: a new allocator. -/
import Derived.Test.YtlbmjpmonaekgaaV2
namespace Go.Proofs.YtlbmjpmonaekgaaAM
open Go Go.RowKit
set_option linter.unusedVariables false
set_option linter.unusedSimpArgs false
set_option maxRecDepth 10000
set_option maxHeartbeats 4000000

theorem cmp44 (x y : Int) (a : AW) (K) : WCall Try.prog GE 44 [.int .u32 x, .int .u32 y] a K = K (.int .i64 (if y < x then 1 else -1)) a := by
  refine call_eq ?_ K
  rw [call_env Try.func44 rfl Try.ntmps44 rfl rfl (by simp)]
  by_cases h : y < x
  · simp -dsimp (maxSteps := 4000000) (disch := first | omega | assumption | (simp only [FB, Nat.reduceAdd]; done) | (simp only [LB]; omega)) only [EB, ↓reduceIte, WB, Nat.reduceSub, Nat.reduceAdd, Int.reduceEq, Int.reduceNe, Int.reduceLT, Int.reduceLE, Int.reduceAdd, Int.reduceSub, Int.reduceMul, Int.reduceNeg, Int.reduceToNat, Nat.reduceEqDiff, Nat.reduceLT, Nat.reduceLeDiff, Nat.reduceMul, List.replicate, reduceCtorEq, TB, NB, MB, h]
    exact ⟨(by first | trivial | rfl | omega), (by first | trivial | rfl | omega)⟩
  · simp -dsimp (maxSteps := 4000000) (disch := first | omega | assumption | (simp only [FB, Nat.reduceAdd]; done) | (simp only [LB]; omega)) only [EB, ↓reduceIte, WB, Nat.reduceSub, Nat.reduceAdd, Int.reduceEq, Int.reduceNe, Int.reduceLT, Int.reduceLE, Int.reduceAdd, Int.reduceSub, Int.reduceMul, Int.reduceNeg, Int.reduceToNat, Nat.reduceEqDiff, Nat.reduceLT, Nat.reduceLeDiff, Nat.reduceMul, List.replicate, reduceCtorEq, TB, NB, MB, h]
    exact ⟨(by first | trivial | rfl | omega), (by first | trivial | rfl | omega)⟩
/-- Rising, without a step back. -/
def risesB : List Int → Bool
  | [] => true
  | [_] => true
  | x :: y :: r => decide (x < y) && risesB (y :: r)
theorem rises_iff : ∀ xs : List Int, risesB xs = true ↔ xs.Pairwise (· < ·)
  | [] => by simp [risesB]
  | [x] => by simp [risesB]
  | x :: y :: r => by
    rw [risesB, Bool.and_eq_true, decide_eq_true_eq, rises_iff (y :: r), List.pairwise_cons (l := y :: r)]
    constructor
    · rintro ⟨h1, h2⟩
      refine ⟨fun z hz => ?_, h2⟩
      rcases List.mem_cons.1 hz with rfl | hz
      · exact h1
      · have := (List.pairwise_cons.1 h2).1 z hz
        omega
    · rintro ⟨h1, h2⟩
      exact ⟨h1 y (by simp), h2⟩
theorem pair_step {xs : List Int} (h : ∀ i, (h : i + 1 < xs.length) → xs[i]'(by omega) < xs[i + 1]) : xs.Pairwise (· < ·) := by
  rw [← rises_iff]
  induction xs with
  | nil => rfl
  | cons x r ih =>
    cases r with
    | nil => rfl
    | cons y r =>
      rw [risesB, Bool.and_eq_true, decide_eq_true_eq]
      exact ⟨h 0 (by simp), ih fun i hi => h (i + 1) (by simpa using hi)⟩
theorem sorted43 {v : Value} {xs : List Int} {a : AW} (hr : RowR a.heap a.next v xs) (hl : xs.length ≤ 60000) (K) :
    WCall Try.prog GE 43 [v, .func (.func 44) #[] #[]] a K = K (.bool (risesB xs)) a := by
  refine call_eq ?_ K
  rw [call_env Try.func43 rfl Try.ntmps43 rfl rfl (by simp)]
  obtain ⟨po, c, rfl, hrow⟩ := hr
  obtain ⟨N, hN⟩ : ∃ N, N = xs.length := ⟨_, rfl⟩
  rw [← hN] at hl ⊢
  simp -dsimp (maxSteps := 4000000) (disch := first | omega | assumption | (simp only [FB, Nat.reduceAdd]; done) | (simp only [LB]; omega)) only [EB, ↓reduceIte, WB, Nat.reduceSub, Nat.reduceAdd, Int.reduceEq, Int.reduceNe, Int.reduceLT, Int.reduceLE, Int.reduceAdd, Int.reduceSub, Int.reduceMul, Int.reduceNeg, Int.reduceToNat, Nat.reduceEqDiff, Nat.reduceLT, Nat.reduceLeDiff, Nat.reduceMul, List.replicate, reduceCtorEq, TB, NB, MB, wrap64]
  refine loop_inv (fun k t w => ∃ (n : Nat) (i : Int), ∃ e, k = (i + 1).toNat ∧ -1 ≤ i ∧ i < N ∧ (∀ j, (h : j + 1 < xs.length) → i ≤ (j : Int) → xs[j]'(by omega) < xs[j + 1]) ∧ a.next ≤ n ∧ w = ⟨n, a.heap, a.next, []⟩ ∧ t = TT 25 e ∧ e 0 = .slice po N c ∧ e 1 = .func (.func 44) #[] #[] ∧ e 5 = .int .i64 i)
    ⟨a.next, (N : Int) - 1, _, rfl, by omega, by omega, fun j h hj => absurd h (by omega), Nat.le_refl _, rfl, rfl, rfl, rfl, rfl⟩ ?_
  rintro k t w ⟨n, i, e, rfl, hi1, hi2, hj, hn, rfl, rfl, e0, e1, e5⟩
  by_cases hpos : 0 < i
  · obtain ⟨m, rfl⟩ : ∃ m : Nat, i = ((m + 1 : Nat) : Int) := ⟨(i - 1).toNat, by omega⟩
    have hml : m + 1 < xs.length := by omega
    have hml0 : m < xs.length := by omega
    obtain ⟨b, o, sp, rw_, c0, hbn, rfl, hb, hat⟩ := hrow (by intro e; rw [e] at hN; simp at hN; omega)
    have hc := hat _ hml
    have hc0 := hat _ hml0
    have hm1 : ((m + 1 : Nat) : Int) - 1 = (m : Int) := by omega
    simp -dsimp (maxSteps := 4000000) (disch := first | omega | assumption | (simp only [FB, Nat.reduceAdd]; done) | (simp only [LB]; omega)) only [EB, ↓reduceIte, WB, Nat.reduceSub, Nat.reduceAdd, Int.reduceEq, Int.reduceNe, Int.reduceLT, Int.reduceLE, Int.reduceAdd, Int.reduceSub, Int.reduceMul, Int.reduceNeg, Int.reduceToNat, Nat.reduceEqDiff, Nat.reduceLT, Nat.reduceLeDiff, Nat.reduceMul, List.replicate, reduceCtorEq, TB, NB, MB, e0, e1, e5, show (0 : Int) < ((m + 1 : Nat) : Int) by omega]
    refine code_draw [(0, 1), (0, 2), (0, 3), (0, 4), (0, 5), (0, 6), (0, 7), (0, 8), (0, 9), (1, 2), (1, 5), (1, 6), (1, 7), (1, 8), (1, 9), (2, 5), (2, 6), (2, 7), (2, 8), (2, 9), (3, 5), (3, 6), (3, 7), (3, 8), (3, 9), (4, 5), (4, 6), (4, 7), (4, 8), (4, 9), (5, 6), (5, 7)] (by decide +kernel) (by decide +kernel) ?_
    by_cases hx : xs[m] < xs[m + 1]
    · simp -dsimp (maxSteps := 4000000) (disch := first | omega | assumption | (simp only [FB, Nat.reduceAdd]; done) | (simp only [LB]; omega)) only [EB, ↓reduceIte, WB, Nat.reduceSub, Nat.reduceAdd, Int.reduceEq, Int.reduceNe, Int.reduceLT, Int.reduceLE, Int.reduceAdd, Int.reduceSub, Int.reduceMul, Int.reduceNeg, Int.reduceToNat, Nat.reduceEqDiff, Nat.reduceLT, Nat.reduceLeDiff, Nat.reduceMul, List.replicate, reduceCtorEq, RB, Nat.reduceEqDiff, TB, NB, MB, e0, e1, e5, hm1, wrap64, indexAddr_slice und25 size27, load_one agg27, hb, hc, hc0, cmp44, hx]
      refine ⟨(m + 1 : Nat), by omega, n + 1, m, _, by omega, by omega, by omega, fun j h hjm => ?_, by omega, rfl, rfl, ?_⟩
      · by_cases hjm' : j = m
        · subst hjm'; exact hx
        · exact hj j h (by omega)
      · simp only [ups_at, ↓reduceIte, Nat.reduceEqDiff]
        exact ⟨e0, e1, trivial⟩
    · simp -dsimp (maxSteps := 4000000) (disch := first | omega | assumption | (simp only [FB, Nat.reduceAdd]; done) | (simp only [LB]; omega)) only [EB, ↓reduceIte, WB, Nat.reduceSub, Nat.reduceAdd, Int.reduceEq, Int.reduceNe, Int.reduceLT, Int.reduceLE, Int.reduceAdd, Int.reduceSub, Int.reduceMul, Int.reduceNeg, Int.reduceToNat, Nat.reduceEqDiff, Nat.reduceLT, Nat.reduceLeDiff, Nat.reduceMul, List.replicate, reduceCtorEq, RB, Nat.reduceEqDiff, TB, NB, MB, e0, e1, e5, hm1, wrap64, indexAddr_slice und25 size27, load_one agg27, hb, hc, hc0, cmp44, hx]
      have hf : risesB xs = false := by
        rw [Bool.eq_false_iff]
        intro h
        exact hx (List.pairwise_iff_getElem.1 ((rises_iff xs).1 h) m (m + 1) hml0 hml (by omega))
      rw [hf]
  · simp -dsimp (maxSteps := 4000000) (disch := first | omega | assumption | (simp only [FB, Nat.reduceAdd]; done) | (simp only [LB]; omega)) only [EB, ↓reduceIte, WB, Nat.reduceSub, Nat.reduceAdd, Int.reduceEq, Int.reduceNe, Int.reduceLT, Int.reduceLE, Int.reduceAdd, Int.reduceSub, Int.reduceMul, Int.reduceNeg, Int.reduceToNat, Nat.reduceEqDiff, Nat.reduceLT, Nat.reduceLeDiff, Nat.reduceMul, List.replicate, reduceCtorEq, TB, NB, MB, e0, e1, e5, hpos]
    have hf : risesB xs = true := (rises_iff xs).2 (pair_step fun j h => hj j h (by omega))
    rw [hf]
    exact ⟨(by first | trivial | rfl | omega), (by first | trivial | rfl | omega)⟩
theorem rises29 {v : Value} {xs : List Int} {a : AW} (hr : RowR a.heap a.next v xs) (hl : xs.length ≤ 60000) (K) :
    WCall Try.prog GE 29 [v] a K = K (.bool (risesB xs)) a := by
  refine call_eq ?_ K
  rw [call_env Try.func29 rfl Try.ntmps29 rfl rfl (by simp)]
  have h43 := fun K => sorted43 (a := ⟨a.next, a.heap, a.next, []⟩) hr hl K
  simp -dsimp (maxSteps := 4000000) (disch := first | omega | assumption | (simp only [FB, Nat.reduceAdd]; done) | (simp only [LB]; omega)) only [EB, ↓reduceIte, WB, Nat.reduceSub, Nat.reduceAdd, Int.reduceEq, Int.reduceNe, Int.reduceLT, Int.reduceLE, Int.reduceAdd, Int.reduceSub, Int.reduceMul, Int.reduceNeg, Int.reduceToNat, Nat.reduceEqDiff, Nat.reduceLT, Nat.reduceLeDiff, Nat.reduceMul, List.replicate, reduceCtorEq, TB, NB, MB, h43]
  exact ⟨(by first | trivial | rfl | omega), (by first | trivial | rfl | omega)⟩
end Go.Proofs.YtlbmjpmonaekgaaAM
