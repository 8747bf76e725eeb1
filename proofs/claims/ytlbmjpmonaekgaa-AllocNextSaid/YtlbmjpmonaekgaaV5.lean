/- Chapter 14: a new allocator. -/
import Derived.Test.YtlbmjpmonaekgaaV4
namespace Go.Proofs.YtlbmjpmonaekgaaAM
open Go Go.RowKit
set_option linter.unusedVariables false
set_option linter.unusedSimpArgs false
set_option maxRecDepth 10000
set_option maxHeartbeats 4000000

def badB (f x : Int) : Bool := decide (x < 2) || decide (f ≤ x)
theorem bad28 {q : Nat} {f : Int} {a : AW} (hq : look q a.heap = some (.cells [.int .u32 f] true)) (hn : q < a.next) (x : Int) (K) : WCall Try.prog GE 28 [.int .u32 x, .pointer (some ⟨q, 0, none⟩)] a K = K (.bool (badB f x)) a := by
  refine call_eq ?_ K
  rw [call_env Try.func28 rfl Try.ntmps28 rfl rfl (by simp)]
  unfold badB
  by_cases h : x < 2
  · simp -dsimp (maxSteps := 4000000) (disch := first | omega | assumption | (simp only [FB, Nat.reduceAdd]; done) | (simp only [LB]; omega)) only [EB, ↓reduceIte, WB, Nat.reduceSub, Nat.reduceAdd, Int.reduceEq, Int.reduceNe, Int.reduceLT, Int.reduceLE, Int.reduceAdd, Int.reduceSub, Int.reduceMul, Int.reduceNeg, Int.reduceToNat, Nat.reduceEqDiff, Nat.reduceLT, Nat.reduceLeDiff, Nat.reduceMul, List.replicate, reduceCtorEq, TB, NB, MB, h, hq]
    exact ⟨by simp, (by first | trivial | rfl | omega)⟩
  · simp -dsimp (maxSteps := 4000000) (disch := first | omega | assumption | (simp only [FB, Nat.reduceAdd]; done) | (simp only [LB]; omega)) only [EB, ↓reduceIte, WB, Nat.reduceSub, Nat.reduceAdd, Int.reduceEq, Int.reduceNe, Int.reduceLT, Int.reduceLE, Int.reduceAdd, Int.reduceSub, Int.reduceMul, Int.reduceNeg, Int.reduceToNat, Nat.reduceEqDiff, Nat.reduceLT, Nat.reduceLeDiff, Nat.reduceMul, List.replicate, reduceCtorEq, TB, NB, MB, h, hq, load_one agg27]
    by_cases h2 : f ≤ x <;> simp [h2]
theorem index45 {q : Nat} {f : Int} {a : AW} (hq : look q a.heap = some (.cells [.int .u32 f] true)) (hn : q < a.next) {v : Value} {xs : List Int} (hr : RowR a.heap a.next v xs) (hl : xs.length ≤ 60000) (K : Value → AW → Prop)
    (hK1 : xs.any (badB f) = true → ∀ i : Nat, i < 60000 → K (.int .i64 i) a) (hK2 : xs.any (badB f) = false → K (.int .i64 (-1)) a) :
    WCall Try.prog GE 45 [v, .func (.func 28) #[] #[.pointer (some ⟨q, 0, none⟩)]] a K := by
  rw [call_env Try.func45 rfl Try.ntmps45 rfl rfl (by simp)]
  obtain ⟨po, c, rfl, hrow⟩ := hr
  obtain ⟨N, hN⟩ : ∃ N, N = xs.length := ⟨_, rfl⟩
  rw [← hN] at hl ⊢
  simp -dsimp (maxSteps := 4000000) (disch := first | omega | assumption | (simp only [FB, Nat.reduceAdd]; done) | (simp only [LB]; omega)) only [EB, ↓reduceIte, WB, Nat.reduceSub, Nat.reduceAdd, Int.reduceEq, Int.reduceNe, Int.reduceLT, Int.reduceLE, Int.reduceAdd, Int.reduceSub, Int.reduceMul, Int.reduceNeg, Int.reduceToNat, Nat.reduceEqDiff, Nat.reduceLT, Nat.reduceLeDiff, Nat.reduceMul, List.replicate, reduceCtorEq, TB, NB, MB, ]
  refine loop_inv (fun k t w => ∃ (i : Nat), ∃ e, k = N - i ∧ i ≤ N ∧ (∀ j, (h : j < xs.length) → j < i → badB f xs[j] = false) ∧ w = ⟨a.next, a.heap, a.next, []⟩ ∧ t = TT 19 e ∧ e 0 = .slice po N c ∧ e 1 = .func (.func 28) #[] #[.pointer (some ⟨q, 0, none⟩)] ∧ e 7 = .int .i64 N ∧ e 8 = .int .i64 i)
    ⟨0, _, rfl, Nat.zero_le _, fun j h hj => absurd hj (Nat.not_lt_zero _), rfl, rfl, rfl, rfl, rfl, rfl⟩ ?_
  rintro k t w ⟨i, e, rfl, hi, hb, rfl, rfl, e0, e1, e7, e8⟩
  by_cases hlt : i < N
  · have hml : i < xs.length := by omega
    obtain ⟨b, o, sp, rw_, c0, hbn, rfl, hbk, hat⟩ := hrow (by intro e; rw [e] at hN; simp at hN; omega)
    have hc := hat _ hml
    have h28 := fun x K => bad28 (a := ⟨a.next, a.heap, a.next, []⟩) hq hn x K
    cases hx : badB f xs[i] with
    | true =>
      simp -dsimp (maxSteps := 4000000) (disch := first | omega | assumption | (simp only [FB, Nat.reduceAdd]; done) | (simp only [LB]; omega)) only [EB, ↓reduceIte, WB, Nat.reduceSub, Nat.reduceAdd, Int.reduceEq, Int.reduceNe, Int.reduceLT, Int.reduceLE, Int.reduceAdd, Int.reduceSub, Int.reduceMul, Int.reduceNeg, Int.reduceToNat, Nat.reduceEqDiff, Nat.reduceLT, Nat.reduceLeDiff, Nat.reduceMul, List.replicate, reduceCtorEq, TB, NB, MB, e0, e1, e7, e8, show (i : Int) < N by omega, indexAddr_slice und25 size27, load_one agg27, hbk, hc, h28, hx]
      exact hK1 (List.any_eq_true.2 ⟨xs[i], List.getElem_mem hml, hx⟩) i (by omega)
    | false =>
      simp -dsimp (maxSteps := 4000000) (disch := first | omega | assumption | (simp only [FB, Nat.reduceAdd]; done) | (simp only [LB]; omega)) only [EB, ↓reduceIte, WB, Nat.reduceSub, Nat.reduceAdd, Int.reduceEq, Int.reduceNe, Int.reduceLT, Int.reduceLE, Int.reduceAdd, Int.reduceSub, Int.reduceMul, Int.reduceNeg, Int.reduceToNat, Nat.reduceEqDiff, Nat.reduceLT, Nat.reduceLeDiff, Nat.reduceMul, List.replicate, reduceCtorEq, TB, NB, MB, e0, e1, e7, e8, show (i : Int) < N by omega, indexAddr_slice und25 size27, load_one agg27, hbk, hc, h28, hx, wrap64]
      refine ⟨trivial, N - (i + 1), by omega, i + 1, _, rfl, by omega, fun j h hj => ?_, trivial, rfl, ?_⟩
      · by_cases hji : j = i
        · subst hji; exact hx
        · exact hb j h (by omega)
      · simp only [ups_at, ↓reduceIte, Nat.reduceEqDiff]
        exact ⟨e0, e1, e7, (by first | trivial | rfl | omega)⟩
  · simp -dsimp (maxSteps := 4000000) (disch := first | omega | assumption | (simp only [FB, Nat.reduceAdd]; done) | (simp only [LB]; omega)) only [EB, ↓reduceIte, WB, Nat.reduceSub, Nat.reduceAdd, Int.reduceEq, Int.reduceNe, Int.reduceLT, Int.reduceLE, Int.reduceAdd, Int.reduceSub, Int.reduceMul, Int.reduceNeg, Int.reduceToNat, Nat.reduceEqDiff, Nat.reduceLT, Nat.reduceLeDiff, Nat.reduceMul, List.replicate, reduceCtorEq, TB, NB, MB, e0, e1, e7, e8, show ¬ (i : Int) < N by omega]
    refine hK2 ?_
    rw [Bool.eq_false_iff]
    intro h
    obtain ⟨x, hx, hbx⟩ := List.any_eq_true.1 h
    obtain ⟨j, hj, rfl⟩ := List.getElem_of_mem hx
    rw [hb j hj (by omega)] at hbx
    cases hbx
theorem contains30 {q : Nat} {f : Int} {a : AW} (hq : look q a.heap = some (.cells [.int .u32 f] true)) (hn : q < a.next) {v : Value} {xs : List Int} (hr : RowR a.heap a.next v xs) (hl : xs.length ≤ 60000) (K) :
    WCall Try.prog GE 30 [v, .func (.func 28) #[] #[.pointer (some ⟨q, 0, none⟩)]] a K = K (.bool (xs.any (badB f))) a := by
  refine call_eq ?_ K
  rw [call_env Try.func30 rfl Try.ntmps30 rfl rfl (by simp)]
  simp -dsimp (maxSteps := 4000000) (disch := first | omega | assumption | (simp only [FB, Nat.reduceAdd]; done) | (simp only [LB]; omega)) only [EB, ↓reduceIte, WB, Nat.reduceSub, Nat.reduceAdd, Int.reduceEq, Int.reduceNe, Int.reduceLT, Int.reduceLE, Int.reduceAdd, Int.reduceSub, Int.reduceMul, Int.reduceNeg, Int.reduceToNat, Nat.reduceEqDiff, Nat.reduceLT, Nat.reduceLeDiff, Nat.reduceMul, List.replicate, reduceCtorEq, TB, NB, MB, ]
  refine index45 (a := ⟨a.next, a.heap, a.next, []⟩) hq hn hr hl _ (fun h i hi => ?_) (fun h => ?_)
  · rw [h]
    simp -dsimp (maxSteps := 4000000) (disch := first | omega | assumption | (simp only [FB, Nat.reduceAdd]; done) | (simp only [LB]; omega)) only [EB, ↓reduceIte, WB, Nat.reduceSub, Nat.reduceAdd, Int.reduceEq, Int.reduceNe, Int.reduceLT, Int.reduceLE, Int.reduceAdd, Int.reduceSub, Int.reduceMul, Int.reduceNeg, Int.reduceToNat, Nat.reduceEqDiff, Nat.reduceLT, Nat.reduceLeDiff, Nat.reduceMul, List.replicate, reduceCtorEq, TB, NB, MB, show (0 : Int) ≤ (i : Int) by omega]
    exact ⟨(by first | trivial | rfl | omega), (by first | trivial | rfl | omega)⟩
  · rw [h]
    simp -dsimp (maxSteps := 4000000) (disch := first | omega | assumption | (simp only [FB, Nat.reduceAdd]; done) | (simp only [LB]; omega)) only [EB, ↓reduceIte, WB, Nat.reduceSub, Nat.reduceAdd, Int.reduceEq, Int.reduceNe, Int.reduceLT, Int.reduceLE, Int.reduceAdd, Int.reduceSub, Int.reduceMul, Int.reduceNeg, Int.reduceToNat, Nat.reduceEqDiff, Nat.reduceLT, Nat.reduceLeDiff, Nat.reduceMul, List.replicate, reduceCtorEq, TB, NB, MB, ]
    exact ⟨(by first | trivial | rfl | omega), (by first | trivial | rfl | omega)⟩
theorem own16 (v : Value) (xs : List Int) (hl : xs.length ≤ 60000) (a : AW) (hv : RV encN 1 a.heap a.next v xs) (K : Value → AW → Prop)
    (hK : ∀ sp, (sp = 2 ∨ sp = 0 ∧ xs = []) → K (.slice (some ⟨a.next, 0, some sp⟩) xs.length xs.length) (a.new (.cells (xs.map (Value.int .u32)) true))) :
    WCall Try.prog GE 16 [v] a K := by
  rw [call_env Try.func16 rfl Try.ntmps16 rfl rfl (by simp)]
  simp -dsimp (maxSteps := 4000000) (disch := first | omega | assumption | (simp only [FB, Nat.reduceAdd]; done) | (simp only [LB]; omega)) only [EB, ↓reduceIte, WB, Nat.reduceSub, Nat.reduceAdd, Int.reduceEq, Int.reduceNe, Int.reduceLT, Int.reduceLE, Int.reduceAdd, Int.reduceSub, Int.reduceMul, Int.reduceNeg, Int.reduceToNat, Nat.reduceEqDiff, Nat.reduceLT, Nat.reduceLeDiff, Nat.reduceMul, List.replicate, reduceCtorEq, TB, NB, MB, buildSl0 elem25]
  obtain ⟨v', n', h', e1, b', e2, e3, e3', ⟨sp', rfl, e5⟩, e6, e7⟩ := app_empty (bs := a.next) hv hl (Nat.le_refl _)
  simp -dsimp (maxSteps := 4000000) (disch := first | omega | assumption | (simp only [FB, Nat.reduceAdd]; done) | (simp only [LB]; omega)) only [EB, ↓reduceIte, WB, Nat.reduceSub, Nat.reduceAdd, Int.reduceEq, Int.reduceNe, Int.reduceLT, Int.reduceLE, Int.reduceAdd, Int.reduceSub, Int.reduceMul, Int.reduceNeg, Int.reduceToNat, Nat.reduceEqDiff, Nat.reduceLT, Nat.reduceLeDiff, Nat.reduceMul, List.replicate, reduceCtorEq, TB, NB, MB, e1]
  rw [leave_fresh e2 e6 (allU_flat _), encN_map]
  exact hK sp' e5
end Go.Proofs.YtlbmjpmonaekgaaAM
