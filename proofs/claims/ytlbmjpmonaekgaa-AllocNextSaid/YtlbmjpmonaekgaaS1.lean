/- Chapter 14: insertion sort of a row. -/
import Derived.Test.YtlbmjpmonaekgaaS0
namespace Go.Proofs.YtlbmjpmonaekgaaAM
open Go Go.RowKit Go.Sort
set_option linter.unusedVariables false
set_option linter.unusedSimpArgs false
set_option maxRecDepth 10000
set_option maxHeartbeats 4000000

theorem inner62 (q N n0 c : Nat) (sp : Option Nat) (h0 : List (Nat × Blk)) (d0 : Array Int) (lo i : Nat) (v2 v6 : Value) (hN : N ≤ 1000000) (hli : lo ≤ i) (hiN : i < N) (dc : Array Int) (hdc : dc.size = N) (n : Nat) (h : List (Nat × Blk)) (ds : List Nat) (r : Row n0 h0 q d0 dc n h ds) (e : Nat → Value)
    (e0 : e 0 = .slice (some ⟨q, 0, sp⟩) N c) (e1 : e 1 = .int .i64 lo) (e2 : e 2 = v2) (e6 : e 6 = v6) (e7 : e 7 = .int .i64 i) (Q : ExitA → List Value → List Nat → AW → Prop)
    (hQ : ∀ n' h' ds' e', Row n0 h0 q d0 (insInner ltInt lo i dc) n' h' ds' → (insInner ltInt lo i dc).size = N → e' 0 = .slice (some ⟨q, 0, sp⟩) N c → e' 1 = .int .i64 lo → e' 2 = v2 → e' 6 = v6 → Q (.exit 2) (TT 49 e') [] ⟨n', h', n0, ds'⟩) :
    WCode Try.prog GC 62 none (loopN Try.f62 1) (TT 49 e) [] ⟨n, h, n0, ds⟩ Q := by
  refine loop_at rfl ?_
  refine loop_inv (fun k t w => ∃ (j n' : Nat) (dk : Array Int) (h' : List (Nat × Blk)) (ds' : List Nat), ∃ e', k = j ∧ lo ≤ j ∧ j < N ∧ dk.size = N ∧ insInner ltInt lo j dk = insInner ltInt lo i dc ∧ w = ⟨n', h', n0, ds'⟩ ∧ Row n0 h0 q d0 dk n' h' ds' ∧ t = TT 49 e' ∧ e' 0 = .slice (some ⟨q, 0, sp⟩) N c ∧ e' 1 = .int .i64 lo ∧ e' 2 = v2 ∧ e' 6 = v6 ∧ e' 7 = .int .i64 j)
    ⟨i, n, dc, h, ds, e, rfl, hli, hiN, hdc, rfl, rfl, r, rfl, e0, e1, e2, e6, e7⟩ ?_
  clear e0 e1 e2 e6 e7 r hdc
  rintro k t w ⟨j, n', dk, h', ds', e', hk, hlj, hjN, hdk, hres, rfl, r, rfl, e0, e1, e2, e6, e7⟩
  have hqd := r.at_
  have hso := r.soil
  have hqn1 : q < n' + 1 := by have := r.le; have := r.lt; omega
  have hqn2 : q < n' + 2 := by omega
  have hlen := cU_len dk
  simp -dsimp (maxSteps := 4000000) (disch := first | omega | assumption | (simp only [FB, Nat.reduceAdd]; done) | (simp only [LB]; omega)) only [EB, ↓reduceIte, WB, Nat.reduceSub, Nat.reduceAdd, Int.reduceEq, Int.reduceNe, Int.reduceLT, Int.reduceLE, Int.reduceAdd, Int.reduceSub, Int.reduceMul, Int.reduceNeg, Int.reduceToNat, Nat.reduceEqDiff, Nat.reduceLT, Nat.reduceLeDiff, Nat.reduceMul, List.replicate, reduceCtorEq, TB, NB, MB, ]
  rcases Nat.lt_or_ge lo j with hj | hj
  · obtain ⟨m, rfl⟩ : ∃ m, j = m + 1 := ⟨j - 1, by omega⟩
    have hc1 : ((m + 1 : Nat) : Int) - 1 = (m : Int) := by omega
    have ri := cU_at (d := dk) (i := m + 1) (by omega)
    have rj := cU_at (d := dk) (i := m) (by omega)
    have hgt : (lo : Int) < ((m + 1 : Nat) : Int) := by omega
    cases hl : ltInt dk[m + 1]! dk[m]! with
    | true =>
      rw [insInner, if_pos (by simp [hl]; omega)] at hres
      refine code_draw [(0, 1), (4, 5), (4, 8), (4, 9), (4, 10), (4, 11), (4, 12), (5, 8), (5, 9), (5, 10), (5, 11), (5, 12), (6, 8), (6, 9), (6, 10), (6, 11), (6, 12), (7, 8), (7, 9), (7, 10), (7, 11), (7, 12), (8, 9), (8, 10)] (by decide +kernel) (by decide +kernel) ?_
      simp -dsimp (maxSteps := 4000000) (disch := first | omega | assumption | (simp only [FB, Nat.reduceAdd]; done) | (simp only [LB]; omega)) only [EB, ↓reduceIte, WB, Nat.reduceSub, Nat.reduceAdd, Int.reduceEq, Int.reduceNe, Int.reduceLT, Int.reduceLE, Int.reduceAdd, Int.reduceSub, Int.reduceMul, Int.reduceNeg, Int.reduceToNat, Nat.reduceEqDiff, Nat.reduceLT, Nat.reduceLeDiff, Nat.reduceMul, List.replicate, reduceCtorEq, RB, Nat.reduceEqDiff, TB, NB, MB, e0, e1, e2, e6, e7, hgt, show ((m + 1 : Nat) : Int) < N by omega, show (m : Int) < N by omega, wrap64, hc1, indexAddr_slice und25 size27, load_one agg27, hqd, ri, rj, less46, hl]
      refine code_draw [(0, 1), (0, 2), (0, 3), (0, 4), (0, 5), (0, 6), (0, 7), (0, 8), (0, 9), (0, 10), (0, 11), (0, 12), (0, 13), (1, 2), (1, 3), (1, 4), (1, 5), (1, 6), (1, 7), (1, 8), (1, 9), (1, 10), (1, 11), (1, 12), (1, 13), (2, 3), (2, 4), (2, 5), (2, 6), (2, 7), (2, 8), (2, 9), (2, 10), (2, 11), (2, 12), (2, 13), (2, 14), (2, 15), (3, 5), (3, 6), (3, 7), (3, 8), (3, 9), (3, 10), (3, 11), (3, 12), (3, 13), (3, 14), (3, 15), (4, 5), (4, 6), (4, 7), (4, 8), (4, 9), (4, 10), (4, 11), (4, 12), (4, 13), (4, 14), (4, 15), (5, 6), (5, 7), (5, 10), (5, 11), (5, 12), (5, 13), (6, 10), (6, 11), (6, 12), (6, 13), (7, 10), (7, 11), (7, 12), (7, 13), (8, 10), (8, 11), (8, 12), (8, 13), (9, 10), (9, 11), (9, 12), (9, 13), (10, 11)] (by decide +kernel) (by decide +kernel) ?_
      simp -dsimp (maxSteps := 4000000) (disch := first | omega | assumption | (simp only [FB, Nat.reduceAdd]; done) | (simp only [LB]; omega)) only [EB, ↓reduceIte, WB, Nat.reduceSub, Nat.reduceAdd, Int.reduceEq, Int.reduceNe, Int.reduceLT, Int.reduceLE, Int.reduceAdd, Int.reduceSub, Int.reduceMul, Int.reduceNeg, Int.reduceToNat, Nat.reduceEqDiff, Nat.reduceLT, Nat.reduceLeDiff, Nat.reduceMul, List.replicate, reduceCtorEq, RB, Nat.reduceEqDiff, TB, NB, MB, e0, e1, e2, e6, e7, hgt, show ((m + 1 : Nat) : Int) < N by omega, show (m : Int) < N by omega, wrap64, hc1, indexAddr_slice und25 size27, load_one agg27, hqd, ri, rj, write_soil, hso, hqn1, hqn2]
      rw [swap_cells (by omega) (by omega), put_twice, soil_swap r.lt hqn2 hso]
      refine ⟨m, by omega, m, _, swp dk (m + 1) m, _, [q], _, rfl, by omega, by omega, by rw [size_swp]; exact hdk, hres, rfl, r.up.up.put rfl, rfl, ?_⟩
      simp only [ups_at, ↓reduceIte, Nat.reduceEqDiff]
      exact ⟨e0, e1, e2, e6, (by first | trivial | rfl | omega)⟩
    | false =>
      rw [insInner, if_neg (by simp [hl])] at hres
      refine code_draw [(0, 1), (4, 5), (4, 8), (4, 9), (4, 10), (4, 11), (4, 12), (5, 8), (5, 9), (5, 10), (5, 11), (5, 12), (6, 8), (6, 9), (6, 10), (6, 11), (6, 12), (7, 8), (7, 9), (7, 10), (7, 11), (7, 12), (8, 9), (8, 10)] (by decide +kernel) (by decide +kernel) ?_
      simp -dsimp (maxSteps := 4000000) (disch := first | omega | assumption | (simp only [FB, Nat.reduceAdd]; done) | (simp only [LB]; omega)) only [EB, ↓reduceIte, WB, Nat.reduceSub, Nat.reduceAdd, Int.reduceEq, Int.reduceNe, Int.reduceLT, Int.reduceLE, Int.reduceAdd, Int.reduceSub, Int.reduceMul, Int.reduceNeg, Int.reduceToNat, Nat.reduceEqDiff, Nat.reduceLT, Nat.reduceLeDiff, Nat.reduceMul, List.replicate, reduceCtorEq, RB, Nat.reduceEqDiff, TB, NB, MB, e0, e1, e2, e6, e7, hgt, show ((m + 1 : Nat) : Int) < N by omega, show (m : Int) < N by omega, wrap64, hc1, indexAddr_slice und25 size27, load_one agg27, hqd, ri, rj, less46, hl]
      subst hres
      refine hQ _ _ _ _ r.up hdk ?_ ?_ ?_ ?_ <;> simp only [ups_at, ↓reduceIte, Nat.reduceEqDiff] <;> assumption
  · have hres' : dk = insInner ltInt lo i dc := by
      cases j with
      | zero => exact hres
      | succ m => rw [insInner, if_neg (by simp; omega)] at hres; exact hres
    refine code_draw [(0, 1), (4, 5), (4, 8), (4, 9), (4, 10), (4, 11), (4, 12), (5, 8), (5, 9), (5, 10), (5, 11), (5, 12), (6, 8), (6, 9), (6, 10), (6, 11), (6, 12), (7, 8), (7, 9), (7, 10), (7, 11), (7, 12), (8, 9), (8, 10)] (by decide +kernel) (by decide +kernel) ?_
    simp -dsimp (maxSteps := 4000000) (disch := first | omega | assumption | (simp only [FB, Nat.reduceAdd]; done) | (simp only [LB]; omega)) only [EB, ↓reduceIte, WB, Nat.reduceSub, Nat.reduceAdd, Int.reduceEq, Int.reduceNe, Int.reduceLT, Int.reduceLE, Int.reduceAdd, Int.reduceSub, Int.reduceMul, Int.reduceNeg, Int.reduceToNat, Nat.reduceEqDiff, Nat.reduceLT, Nat.reduceLeDiff, Nat.reduceMul, List.replicate, reduceCtorEq, RB, Nat.reduceEqDiff, TB, NB, MB, e0, e1, e2, e6, e7, show ¬ (lo : Int) < (j : Int) by omega]
    subst hres'
    refine hQ _ _ _ _ r.up hdk ?_ ?_ ?_ ?_ <;> simp only [ups_at, ↓reduceIte, Nat.reduceEqDiff] <;> assumption
theorem ins62 (q : Nat) (sp : Option Nat) (c : Nat) (d : Array Int) (lo hi : Nat) (hlo : lo ≤ hi) (hhi : hi ≤ d.size) (hsz : d.size ≤ 1000000) (a : AW) (hq : look q a.heap = some (.cells (cU d) true)) (hqn : q < a.next) (K : Value → AW → Prop)
    (hK : ∀ a', Aft a a' q d (insertionSort ltInt d lo hi) → K (.tuple #[]) a') : WCall Try.prog GC 62 [.slice (some ⟨q, 0, sp⟩) d.size c, .int .i64 lo, .int .i64 hi] a K := by
  rw [call_env Try.func62 rfl Try.ntmps62 rfl rfl (by simp)]
  simp -dsimp (maxSteps := 4000000) (disch := first | omega | assumption | (simp only [FB, Nat.reduceAdd]; done) | (simp only [LB]; omega)) only [EB, ↓reduceIte, WB, Nat.reduceSub, Nat.reduceAdd, Int.reduceEq, Int.reduceNe, Int.reduceLT, Int.reduceLE, Int.reduceAdd, Int.reduceSub, Int.reduceMul, Int.reduceNeg, Int.reduceToNat, Nat.reduceEqDiff, Nat.reduceLT, Nat.reduceLeDiff, Nat.reduceMul, List.replicate, reduceCtorEq, TB, NB, MB, wrap64]
  refine loop_inv (fun k t w => ∃ (i n : Nat) (dc : Array Int) (h : List (Nat × Blk)) (ds : List Nat), ∃ e, k = hi - i ∧ lo + 1 ≤ i ∧ dc.size = d.size ∧ insOuter ltInt lo hi i dc = insertionSort ltInt d lo hi ∧ w = ⟨n, h, a.next, ds⟩ ∧ Row a.next a.heap q d dc n h ds ∧ t = TT 49 e ∧ e 0 = .slice (some ⟨q, 0, sp⟩) d.size c ∧ e 1 = .int .i64 lo ∧ e 2 = .int .i64 hi ∧ e 6 = .int .i64 i)
    ⟨lo + 1, a.next, d, a.heap, [], _, rfl, Nat.le_refl _, rfl, rfl, rfl, .start hq hqn, rfl, rfl, rfl, rfl, by simp only [ups_at, ↓reduceIte, Nat.reduceEqDiff]; rfl⟩ ?_
  rintro k t w ⟨i, n, dc, h, ds, e, rfl, hli, hdc, hres, rfl, r, rfl, e0, e1, e2, e6⟩
  by_cases hlt : i < hi
  · rw [insOuter, if_pos hlt] at hres
    simp -dsimp (maxSteps := 4000000) (disch := first | omega | assumption | (simp only [FB, Nat.reduceAdd]; done) | (simp only [LB]; omega)) only [EB, ↓reduceIte, WB, Nat.reduceSub, Nat.reduceAdd, Int.reduceEq, Int.reduceNe, Int.reduceLT, Int.reduceLE, Int.reduceAdd, Int.reduceSub, Int.reduceMul, Int.reduceNeg, Int.reduceToNat, Nat.reduceEqDiff, Nat.reduceLT, Nat.reduceLeDiff, Nat.reduceMul, List.replicate, reduceCtorEq, TB, NB, MB, e0, e1, e2, e6, show (i : Int) < hi by omega]
    refine inner62 q d.size a.next c sp a.heap d lo i (.int .i64 hi) (.int .i64 i) hsz (by omega) (by omega) dc hdc n h ds r _ ?_ ?_ ?_ ?_ ?_ _ fun n' h' ds' e' r' hs' x0 x1 x2 x6 => ?_ <;> try (simp only [ups_at, ↓reduceIte, Nat.reduceEqDiff] ; try assumption)
    simp -dsimp (maxSteps := 4000000) (disch := first | omega | assumption | (simp only [FB, Nat.reduceAdd]; done) | (simp only [LB]; omega)) only [EB, ↓reduceIte, WB, Nat.reduceSub, Nat.reduceAdd, Int.reduceEq, Int.reduceNe, Int.reduceLT, Int.reduceLE, Int.reduceAdd, Int.reduceSub, Int.reduceMul, Int.reduceNeg, Int.reduceToNat, Nat.reduceEqDiff, Nat.reduceLT, Nat.reduceLeDiff, Nat.reduceMul, List.replicate, reduceCtorEq, TB, NB, MB, x0, x1, x2, x6, wrap64]
    refine ⟨trivial, hi - (i + 1), by omega, i + 1, n', _, h', ds', _, rfl, by omega, hs', hres, rfl, r', rfl, ?_⟩
    simp only [ups_at, ↓reduceIte, Nat.reduceEqDiff]
    exact ⟨x0, x1, x2, (by first | trivial | rfl | omega)⟩
  · rw [insOuter, if_neg hlt] at hres
    subst hres
    simp -dsimp (maxSteps := 4000000) (disch := first | omega | assumption | (simp only [FB, Nat.reduceAdd]; done) | (simp only [LB]; omega)) only [EB, ↓reduceIte, WB, Nat.reduceSub, Nat.reduceAdd, Int.reduceEq, Int.reduceNe, Int.reduceLT, Int.reduceLE, Int.reduceAdd, Int.reduceSub, Int.reduceMul, Int.reduceNeg, Int.reduceToNat, Nat.reduceEqDiff, Nat.reduceLT, Nat.reduceLeDiff, Nat.reduceMul, List.replicate, reduceCtorEq, TB, NB, MB, e0, e1, e2, e6, show ¬ (i : Int) < hi by omega]
    obtain ⟨a', e1, ha⟩ := r.leave (bs := a.base) (ds0 := a.dirty) (vs := []) rfl
    rw [e1]
    exact hK a' ha
end Go.Proofs.YtlbmjpmonaekgaaAM
