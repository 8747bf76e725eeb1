/- Chapter 14: partial insertion sort of a row. -/
import Derived.Test.YtlbmjpmonaekgaaS4
import Derived.Sort.LotA
namespace Go.Proofs.YtlbmjpmonaekgaaAM
open Go Go.RowKit Go.Sort
set_option linter.unusedVariables false
set_option linter.unusedSimpArgs false
set_option maxRecDepth 10000
set_option maxHeartbeats 4000000

theorem scan_sorted_go {d : Array Int} {b i : Nat} (h : i < b) (hl : ltInt d[i]! d[i - 1]! = false) : scanSorted ltInt d b i = scanSorted ltInt d b (i + 1) := by rw [scanSorted, if_pos (by simp [h, hl])]
theorem scan_sorted_stop {d : Array Int} {b i : Nat} (h : ¬ i < b ∨ ltInt d[i]! d[i - 1]! = true) : scanSorted ltInt d b i = i := by rw [scanSorted, if_neg (by rcases h with h | h <;> simp [h])]
theorem ss67 (q N n0 c : Nat) (sp : Option Nat) (h0 : List (Nat × Blk)) (d0 : Array Int) (lo hi i : Nat) (v8 : Value) (hN : N ≤ 1000000) (hhi : hi ≤ N) (hi1 : 1 ≤ i) (hib : i ≤ hi) (dk : Array Int) (hdk : dk.size = N) (n : Nat) (h : List (Nat × Blk)) (ds : List Nat) (r : Row n0 h0 q d0 dk n h ds) (e : Nat → Value)
    (e0 : e 0 = .slice (some ⟨q, 0, sp⟩) N c) (e1 : e 1 = .int .i64 lo) (e2 : e 2 = .int .i64 hi) (e7 : e 7 = .int .i64 i) (e8 : e 8 = v8) (Q : ExitA → List Value → List Nat → AW → Prop)
    (hQ : ∀ n' e', n ≤ n' → Row n0 h0 q d0 dk n' h ds → scanSorted ltInt dk hi i ≤ hi → i ≤ scanSorted ltInt dk hi i → e' 0 = .slice (some ⟨q, 0, sp⟩) N c → e' 1 = .int .i64 lo → e' 2 = .int .i64 hi → e' 7 = .int .i64 (scanSorted ltInt dk hi i : Nat) → e' 8 = v8 → Q (.exit 2) (TT 133 e') [] ⟨n', h, n0, ds⟩) :
    WCode Try.prog GC 67 none (loopN Try.f67 1) (TT 133 e) [] ⟨n, h, n0, ds⟩ Q := by
  refine loop_at rfl ?_
  obtain ⟨T, hT⟩ : ∃ T, T = scanSorted ltInt dk hi i := ⟨_, rfl⟩
  rw [← hT] at hQ
  refine loop_inv (fun k t w => ∃ (i2 n' : Nat), ∃ e', k = hi - i2 ∧ i ≤ i2 ∧ i2 ≤ hi ∧ scanSorted ltInt dk hi i2 = T ∧ n ≤ n' ∧ w = ⟨n', h, n0, ds⟩ ∧ t = TT 133 e' ∧ e' 0 = .slice (some ⟨q, 0, sp⟩) N c ∧ e' 1 = .int .i64 lo ∧ e' 2 = .int .i64 hi ∧ e' 7 = .int .i64 i2 ∧ e' 8 = v8)
    ⟨i, n, e, rfl, Nat.le_refl _, hib, hT.symm, Nat.le_refl _, rfl, rfl, e0, e1, e2, e7, e8⟩ ?_
  clear e0 e1 e2 e7 e8 hT
  rintro k t w ⟨i2, n', e, hk, hi2, hib2, hres, hnn, rfl, rfl, e0, e1, e2, e7, e8⟩
  have rk : Row n0 h0 q d0 dk n' h ds := r.next hnn fun _ _ => rfl
  have hqd := rk.at_
  have hqn1 : q < n' + 1 := by have := rk.le; have := rk.lt; omega
  simp -dsimp (maxSteps := 4000000) (disch := first | omega | assumption | (simp only [FB, Nat.reduceAdd]; done) | (simp only [LB]; omega)) only [EB, ↓reduceIte, WB, Nat.reduceSub, Nat.reduceAdd, Int.reduceEq, Int.reduceNe, Int.reduceLT, Int.reduceLE, Int.reduceAdd, Int.reduceSub, Int.reduceMul, Int.reduceNeg, Int.reduceToNat, Nat.reduceEqDiff, Nat.reduceLT, Nat.reduceLeDiff, Nat.reduceMul, List.replicate, reduceCtorEq, TB, NB, MB, ]
  by_cases hij : i2 < hi
  · have hc1 : (i2 : Int) - 1 = ((i2 - 1 : Nat) : Int) := by omega
    obtain ⟨m, hm⟩ : ∃ m, m = i2 - 1 := ⟨_, rfl⟩
    rw [← hm] at hc1
    have rx := cU_at (d := dk) (i := i2) (by omega)
    have ry := cU_at (d := dk) (i := m) (by omega)
    cases hl : ltInt dk[i2]! dk[m]! with
    | false =>
      refine code_draw [(0, 1), (4, 5), (4, 8), (4, 9), (4, 10), (4, 11), (4, 12), (5, 8), (5, 9), (5, 10), (5, 11), (5, 12), (6, 8), (6, 9), (6, 10), (6, 11), (6, 12), (7, 8), (7, 9), (7, 10), (7, 11), (7, 12), (8, 9), (8, 10)] (by decide +kernel) (by decide +kernel) ?_
      rw [scan_sorted_go hij (by rw [← hm]; exact hl)] at hres
      simp -dsimp (maxSteps := 4000000) (disch := first | omega | assumption | (simp only [FB, Nat.reduceAdd]; done) | (simp only [LB]; omega)) only [EB, ↓reduceIte, WB, Nat.reduceSub, Nat.reduceAdd, Int.reduceEq, Int.reduceNe, Int.reduceLT, Int.reduceLE, Int.reduceAdd, Int.reduceSub, Int.reduceMul, Int.reduceNeg, Int.reduceToNat, Nat.reduceEqDiff, Nat.reduceLT, Nat.reduceLeDiff, Nat.reduceMul, List.replicate, reduceCtorEq, RB, Nat.reduceEqDiff, TB, NB, MB, e0, e1, e2, e7, e8, show (i2 : Int) < hi by omega, show (i2 : Int) < N by omega, show (m : Int) < N by omega, indexAddr_slice und25 size27, load_one agg27, hqd, rx, ry, less46, hl, wrap64, hc1]
      refine ⟨hi - (i2 + 1), by omega, i2 + 1, _, _, rfl, by omega, by omega, hres, Nat.le_succ_of_le hnn, rfl, rfl, ?_⟩
      simp only [ups_at, ↓reduceIte, Nat.reduceEqDiff]
      exact ⟨e0, e1, e2, (by first | trivial | rfl | omega), e8⟩
    | true =>
      refine code_draw [(0, 1), (4, 5), (4, 8), (4, 9), (4, 10), (4, 11), (4, 12), (5, 8), (5, 9), (5, 10), (5, 11), (5, 12), (6, 8), (6, 9), (6, 10), (6, 11), (6, 12), (7, 8), (7, 9), (7, 10), (7, 11), (7, 12), (8, 9), (8, 10)] (by decide +kernel) (by decide +kernel) ?_
      rw [scan_sorted_stop (.inr (by rw [← hm]; exact hl))] at hres
      subst hres
      simp -dsimp (maxSteps := 4000000) (disch := first | omega | assumption | (simp only [FB, Nat.reduceAdd]; done) | (simp only [LB]; omega)) only [EB, ↓reduceIte, WB, Nat.reduceSub, Nat.reduceAdd, Int.reduceEq, Int.reduceNe, Int.reduceLT, Int.reduceLE, Int.reduceAdd, Int.reduceSub, Int.reduceMul, Int.reduceNeg, Int.reduceToNat, Nat.reduceEqDiff, Nat.reduceLT, Nat.reduceLeDiff, Nat.reduceMul, List.replicate, reduceCtorEq, RB, Nat.reduceEqDiff, TB, NB, MB, e0, e1, e2, e7, e8, show (i2 : Int) < hi by omega, show (i2 : Int) < N by omega, show (m : Int) < N by omega, indexAddr_slice und25 size27, load_one agg27, hqd, rx, ry, less46, hl, wrap64, hc1]
      refine hQ _ _ (Nat.le_succ_of_le hnn) rk.up hib2 hi2 ?_ ?_ ?_ ?_ ?_ <;> simp only [ups_at, ↓reduceIte, Nat.reduceEqDiff] <;> assumption
  · refine code_draw [(0, 1), (4, 5), (4, 8), (4, 9), (4, 10), (4, 11), (4, 12), (5, 8), (5, 9), (5, 10), (5, 11), (5, 12), (6, 8), (6, 9), (6, 10), (6, 11), (6, 12), (7, 8), (7, 9), (7, 10), (7, 11), (7, 12), (8, 9), (8, 10)] (by decide +kernel) (by decide +kernel) ?_
    rw [scan_sorted_stop (.inl hij)] at hres
    subst hres
    simp -dsimp (maxSteps := 4000000) (disch := first | omega | assumption | (simp only [FB, Nat.reduceAdd]; done) | (simp only [LB]; omega)) only [EB, ↓reduceIte, WB, Nat.reduceSub, Nat.reduceAdd, Int.reduceEq, Int.reduceNe, Int.reduceLT, Int.reduceLE, Int.reduceAdd, Int.reduceSub, Int.reduceMul, Int.reduceNeg, Int.reduceToNat, Nat.reduceEqDiff, Nat.reduceLT, Nat.reduceLeDiff, Nat.reduceMul, List.replicate, reduceCtorEq, RB, Nat.reduceEqDiff, TB, NB, MB, e0, e1, e2, e7, e8, show ¬ (i2 : Int) < hi by omega]
    refine hQ _ _ (Nat.le_succ_of_le hnn) rk.up hib2 hi2 ?_ ?_ ?_ ?_ ?_ <;> simp only [ups_at, ↓reduceIte, Nat.reduceEqDiff] <;> assumption
theorem sd67 (q N n0 c : Nat) (sp : Option Nat) (h0 : List (Nat × Blk)) (d0 : Array Int) (lo hi i : Nat) (v7 v8 : Value) (hN : N ≤ 1000000) (hiN : i < N) (dk : Array Int) (hdk : dk.size = N) (n : Nat) (h : List (Nat × Blk)) (ds : List Nat) (r : Row n0 h0 q d0 dk n h ds) (e : Nat → Value)
    (e0 : e 0 = .slice (some ⟨q, 0, sp⟩) N c) (e1 : e 1 = .int .i64 lo) (e2 : e 2 = .int .i64 hi) (e7 : e 7 = v7) (e8 : e 8 = v8) (e9 : e 9 = .int .i64 i) (Q : ExitA → List Value → List Nat → AW → Prop)
    (hQ : ∀ n' h' ds' e', Row n0 h0 q d0 (shiftDown ltInt i dk) n' h' ds' → (shiftDown ltInt i dk).size = N → e' 0 = .slice (some ⟨q, 0, sp⟩) N c → e' 1 = .int .i64 lo → e' 2 = .int .i64 hi → e' 7 = v7 → e' 8 = v8 → Q (.exit 4) (TT 133 e') [] ⟨n', h', n0, ds'⟩) :
    WCode Try.prog GC 67 none (loopN Try.f67 2) (TT 133 e) [] ⟨n, h, n0, ds⟩ Q := by
  refine loop_at rfl ?_
  obtain ⟨T, hT⟩ : ∃ T, T = shiftDown ltInt i dk := ⟨_, rfl⟩
  rw [← hT] at hQ
  refine loop_inv (fun k t w => ∃ (n' : Nat) (dk : Array Int) (h' : List (Nat × Blk)) (ds' : List Nat), ∃ e', k < N ∧ dk.size = N ∧ shiftDown ltInt k dk = T ∧ w = ⟨n', h', n0, ds'⟩ ∧ Row n0 h0 q d0 dk n' h' ds' ∧ t = TT 133 e' ∧ e' 0 = .slice (some ⟨q, 0, sp⟩) N c ∧ e' 1 = .int .i64 lo ∧ e' 2 = .int .i64 hi ∧ e' 7 = v7 ∧ e' 8 = v8 ∧ e' 9 = .int .i64 k)
    (k := i) ⟨n, dk, h, ds, e, hiN, hdk, hT.symm, rfl, r, rfl, e0, e1, e2, e7, e8, e9⟩ ?_
  clear e0 e1 e2 e7 e8 e9 hT hdk r
  rintro k t w ⟨n', dk, h, ds, e, hk, hdk, hres, rfl, r, rfl, e0, e1, e2, e7, e8, e9⟩
  have hqd := r.at_
  have hso := r.soil
  have hqn1 : q < n' + 1 := by have := r.le; have := r.lt; omega
  have hqn2 : q < n' + 2 := by omega
  have hlen := cU_len dk
  cases k with
  | zero =>
    have hres' : dk = T := hres
    subst hres'
    simp -dsimp (maxSteps := 4000000) (disch := first | omega | assumption | (simp only [FB, Nat.reduceAdd]; done) | (simp only [LB]; omega)) only [EB, ↓reduceIte, WB, Nat.reduceSub, Nat.reduceAdd, Int.reduceEq, Int.reduceNe, Int.reduceLT, Int.reduceLE, Int.reduceAdd, Int.reduceSub, Int.reduceMul, Int.reduceNeg, Int.reduceToNat, Nat.reduceEqDiff, Nat.reduceLT, Nat.reduceLeDiff, Nat.reduceMul, List.replicate, reduceCtorEq, TB, NB, MB, e0, e1, e2, e7, e8, e9, show ¬ (1 : Int) ≤ ((0 : Nat) : Int) by omega]
    refine hQ _ _ _ _ r hdk ?_ ?_ ?_ ?_ ?_ <;> simp only [ups_at, ↓reduceIte, Nat.reduceEqDiff] <;> assumption
  | succ m =>
    have hc1 : ((m + 1 : Nat) : Int) - 1 = (m : Int) := by omega
    have rx := cU_at (d := dk) (i := m + 1) (by omega)
    have ry := cU_at (d := dk) (i := m) (by omega)
    rw [shiftDown] at hres
    simp -dsimp (maxSteps := 4000000) (disch := first | omega | assumption | (simp only [FB, Nat.reduceAdd]; done) | (simp only [LB]; omega)) only [EB, ↓reduceIte, WB, Nat.reduceSub, Nat.reduceAdd, Int.reduceEq, Int.reduceNe, Int.reduceLT, Int.reduceLE, Int.reduceAdd, Int.reduceSub, Int.reduceMul, Int.reduceNeg, Int.reduceToNat, Nat.reduceEqDiff, Nat.reduceLT, Nat.reduceLeDiff, Nat.reduceMul, List.replicate, reduceCtorEq, TB, NB, MB, e0, e1, e2, e7, e8, e9, show (1 : Int) ≤ ((m + 1 : Nat) : Int) by omega]
    refine code_draw [(0, 1), (0, 4), (0, 5), (0, 6), (0, 7), (0, 8), (1, 4), (1, 5), (1, 6), (1, 7), (1, 8), (2, 4), (2, 5), (2, 6), (2, 7), (2, 8), (3, 4), (3, 5), (3, 6), (3, 7), (3, 8), (4, 5), (4, 6)] (by decide +kernel) (by decide +kernel) ?_
    cases hl : ltInt dk[m + 1]! dk[m]! with
    | false =>
      rw [hl, if_pos (show (!false) = true from rfl)] at hres
      subst hres
      simp -dsimp (maxSteps := 4000000) (disch := first | omega | assumption | (simp only [FB, Nat.reduceAdd]; done) | (simp only [LB]; omega)) only [EB, ↓reduceIte, WB, Nat.reduceSub, Nat.reduceAdd, Int.reduceEq, Int.reduceNe, Int.reduceLT, Int.reduceLE, Int.reduceAdd, Int.reduceSub, Int.reduceMul, Int.reduceNeg, Int.reduceToNat, Nat.reduceEqDiff, Nat.reduceLT, Nat.reduceLeDiff, Nat.reduceMul, List.replicate, reduceCtorEq, RB, Nat.reduceEqDiff, TB, NB, MB, e0, e1, e2, e7, e8, e9, show ((m + 1 : Nat) : Int) < N by omega, show (m : Int) < N by omega, indexAddr_slice und25 size27, load_one agg27, hqd, rx, ry, less46, hl, wrap64, hc1, onExit_other (i := 5) (j := 4) rfl]
      refine hQ _ _ _ _ r.up hdk ?_ ?_ ?_ ?_ ?_ <;> simp only [ups_at, ↓reduceIte, Nat.reduceEqDiff] <;> assumption
    | true =>
      rw [hl, if_neg (by simp)] at hres
      simp -dsimp (maxSteps := 4000000) (disch := first | omega | assumption | (simp only [FB, Nat.reduceAdd]; done) | (simp only [LB]; omega)) only [EB, ↓reduceIte, WB, Nat.reduceSub, Nat.reduceAdd, Int.reduceEq, Int.reduceNe, Int.reduceLT, Int.reduceLE, Int.reduceAdd, Int.reduceSub, Int.reduceMul, Int.reduceNeg, Int.reduceToNat, Nat.reduceEqDiff, Nat.reduceLT, Nat.reduceLeDiff, Nat.reduceMul, List.replicate, reduceCtorEq, RB, Nat.reduceEqDiff, TB, NB, MB, e0, e1, e2, e7, e8, e9, show ((m + 1 : Nat) : Int) < N by omega, show (m : Int) < N by omega, indexAddr_slice und25 size27, load_one agg27, hqd, rx, ry, less46, hl, wrap64, hc1]
      refine code_draw [(0, 1), (0, 2), (0, 3), (0, 4), (0, 5), (0, 6), (0, 7), (0, 8), (0, 9), (0, 10), (0, 11), (0, 12), (0, 13), (1, 2), (1, 3), (1, 4), (1, 5), (1, 6), (1, 7), (1, 8), (1, 9), (1, 10), (1, 11), (1, 12), (1, 13), (2, 3), (2, 4), (2, 5), (2, 6), (2, 7), (2, 8), (2, 9), (2, 10), (2, 11), (2, 12), (2, 13), (2, 14), (2, 15), (3, 5), (3, 6), (3, 7), (3, 8), (3, 9), (3, 10), (3, 11), (3, 12), (3, 13), (3, 14), (3, 15), (4, 5), (4, 6), (4, 7), (4, 8), (4, 9), (4, 10), (4, 11), (4, 12), (4, 13), (4, 14), (4, 15), (5, 6), (5, 7), (5, 10), (5, 11), (5, 12), (5, 13), (6, 10), (6, 11), (6, 12), (6, 13), (7, 10), (7, 11), (7, 12), (7, 13), (8, 10), (8, 11), (8, 12), (8, 13), (9, 10), (9, 11), (9, 12), (9, 13), (10, 11)] (by decide +kernel) (by decide +kernel) ?_
      simp -dsimp (maxSteps := 4000000) (disch := first | omega | assumption | (simp only [FB, Nat.reduceAdd]; done) | (simp only [LB]; omega)) only [EB, ↓reduceIte, WB, Nat.reduceSub, Nat.reduceAdd, Int.reduceEq, Int.reduceNe, Int.reduceLT, Int.reduceLE, Int.reduceAdd, Int.reduceSub, Int.reduceMul, Int.reduceNeg, Int.reduceToNat, Nat.reduceEqDiff, Nat.reduceLT, Nat.reduceLeDiff, Nat.reduceMul, List.replicate, reduceCtorEq, RB, Nat.reduceEqDiff, TB, NB, MB, e0, e1, e2, e7, e8, e9, show ((m + 1 : Nat) : Int) < N by omega, show (m : Int) < N by omega, indexAddr_slice und25 size27, load_one agg27, hqd, rx, ry, write_soil, hso, hqn1, hqn2, wrap64, hc1]
      rw [swap_cells (by omega) (by omega), put_twice, soil_swap r.lt hqn2 hso]
      refine ⟨m, by omega, _, swp dk (m + 1) m, _, [q], _, by omega, by rw [size_swp]; exact hdk, hres, rfl, r.up.up.put rfl, rfl, ?_⟩
      simp only [ups_at, ↓reduceIte, Nat.reduceEqDiff]
      exact ⟨e0, e1, e2, e7, e8, (by first | trivial | rfl | omega)⟩
theorem su67 (q N n0 c : Nat) (sp : Option Nat) (h0 : List (Nat × Blk)) (d0 : Array Int) (lo hi i : Nat) (v7 v8 : Value) (hN : N ≤ 1000000) (hhi : hi ≤ N) (hi1 : 1 ≤ i) (hiN : i ≤ N) (dk : Array Int) (hdk : dk.size = N) (n : Nat) (h : List (Nat × Blk)) (ds : List Nat) (r : Row n0 h0 q d0 dk n h ds) (e : Nat → Value)
    (e0 : e 0 = .slice (some ⟨q, 0, sp⟩) N c) (e1 : e 1 = .int .i64 lo) (e2 : e 2 = .int .i64 hi) (e7 : e 7 = v7) (e8 : e 8 = v8) (e10 : e 10 = .int .i64 i) (Q : ExitA → List Value → List Nat → AW → Prop)
    (hQ : ∀ n' h' ds' e', Row n0 h0 q d0 (shiftUp ltInt hi i dk) n' h' ds' → (shiftUp ltInt hi i dk).size = N → e' 0 = .slice (some ⟨q, 0, sp⟩) N c → e' 1 = .int .i64 lo → e' 2 = .int .i64 hi → e' 7 = v7 → e' 8 = v8 → Q (.exit 6) (TT 133 e') [] ⟨n', h', n0, ds'⟩) :
    WCode Try.prog GC 67 none (loopN Try.f67 3) (TT 133 e) [] ⟨n, h, n0, ds⟩ Q := by
  refine loop_at rfl ?_
  obtain ⟨T, hT⟩ : ∃ T, T = shiftUp ltInt hi i dk := ⟨_, rfl⟩
  rw [← hT] at hQ
  refine loop_inv (fun k t w => ∃ (j n' : Nat) (dk : Array Int) (h' : List (Nat × Blk)) (ds' : List Nat), ∃ e', k = hi - j ∧ 1 ≤ j ∧ j ≤ N ∧ dk.size = N ∧ shiftUp ltInt hi j dk = T ∧ w = ⟨n', h', n0, ds'⟩ ∧ Row n0 h0 q d0 dk n' h' ds' ∧ t = TT 133 e' ∧ e' 0 = .slice (some ⟨q, 0, sp⟩) N c ∧ e' 1 = .int .i64 lo ∧ e' 2 = .int .i64 hi ∧ e' 7 = v7 ∧ e' 8 = v8 ∧ e' 10 = .int .i64 j)
    ⟨i, n, dk, h, ds, e, rfl, hi1, hiN, hdk, hT.symm, rfl, r, rfl, e0, e1, e2, e7, e8, e10⟩ ?_
  clear e0 e1 e2 e7 e8 e10 hT hdk r
  rintro k t w ⟨j, n', dk, h, ds, e, hk, hj1, hjN, hdk, hres, rfl, r, rfl, e0, e1, e2, e7, e8, e10⟩
  have hqd := r.at_
  have hso := r.soil
  have hqn1 : q < n' + 1 := by have := r.le; have := r.lt; omega
  have hqn2 : q < n' + 2 := by omega
  have hlen := cU_len dk
  rw [shiftUp] at hres
  by_cases hlt : j < hi
  · rw [if_pos hlt] at hres
    obtain ⟨m, hm⟩ : ∃ m, m = j - 1 := ⟨_, rfl⟩
    rw [← hm] at hres
    have hc1 : (j : Int) - 1 = (m : Int) := by omega
    have rx := cU_at (d := dk) (i := j) (by omega)
    have ry := cU_at (d := dk) (i := m) (by omega)
    simp -dsimp (maxSteps := 4000000) (disch := first | omega | assumption | (simp only [FB, Nat.reduceAdd]; done) | (simp only [LB]; omega)) only [EB, ↓reduceIte, WB, Nat.reduceSub, Nat.reduceAdd, Int.reduceEq, Int.reduceNe, Int.reduceLT, Int.reduceLE, Int.reduceAdd, Int.reduceSub, Int.reduceMul, Int.reduceNeg, Int.reduceToNat, Nat.reduceEqDiff, Nat.reduceLT, Nat.reduceLeDiff, Nat.reduceMul, List.replicate, reduceCtorEq, TB, NB, MB, e0, e1, e2, e7, e8, e10, show (j : Int) < hi by omega]
    refine code_draw [(0, 1), (0, 4), (0, 5), (0, 6), (0, 7), (0, 8), (1, 4), (1, 5), (1, 6), (1, 7), (1, 8), (2, 4), (2, 5), (2, 6), (2, 7), (2, 8), (3, 4), (3, 5), (3, 6), (3, 7), (3, 8), (4, 5), (4, 6)] (by decide +kernel) (by decide +kernel) ?_
    cases hl : ltInt dk[j]! dk[m]! with
    | false =>
      rw [hl, if_pos (show (!false) = true from rfl)] at hres
      subst hres
      simp -dsimp (maxSteps := 4000000) (disch := first | omega | assumption | (simp only [FB, Nat.reduceAdd]; done) | (simp only [LB]; omega)) only [EB, ↓reduceIte, WB, Nat.reduceSub, Nat.reduceAdd, Int.reduceEq, Int.reduceNe, Int.reduceLT, Int.reduceLE, Int.reduceAdd, Int.reduceSub, Int.reduceMul, Int.reduceNeg, Int.reduceToNat, Nat.reduceEqDiff, Nat.reduceLT, Nat.reduceLeDiff, Nat.reduceMul, List.replicate, reduceCtorEq, RB, Nat.reduceEqDiff, TB, NB, MB, e0, e1, e2, e7, e8, e10, show (j : Int) < N by omega, show (m : Int) < N by omega, indexAddr_slice und25 size27, load_one agg27, hqd, rx, ry, less46, hl, wrap64, hc1, onExit_other (i := 7) (j := 6) rfl]
      refine hQ _ _ _ _ r.up hdk ?_ ?_ ?_ ?_ ?_ <;> simp only [ups_at, ↓reduceIte, Nat.reduceEqDiff] <;> assumption
    | true =>
      rw [hl, if_neg (by simp)] at hres
      simp -dsimp (maxSteps := 4000000) (disch := first | omega | assumption | (simp only [FB, Nat.reduceAdd]; done) | (simp only [LB]; omega)) only [EB, ↓reduceIte, WB, Nat.reduceSub, Nat.reduceAdd, Int.reduceEq, Int.reduceNe, Int.reduceLT, Int.reduceLE, Int.reduceAdd, Int.reduceSub, Int.reduceMul, Int.reduceNeg, Int.reduceToNat, Nat.reduceEqDiff, Nat.reduceLT, Nat.reduceLeDiff, Nat.reduceMul, List.replicate, reduceCtorEq, RB, Nat.reduceEqDiff, TB, NB, MB, e0, e1, e2, e7, e8, e10, show (j : Int) < N by omega, show (m : Int) < N by omega, indexAddr_slice und25 size27, load_one agg27, hqd, rx, ry, less46, hl, wrap64, hc1]
      refine code_draw [(0, 1), (0, 2), (0, 3), (0, 4), (0, 5), (0, 6), (0, 7), (0, 8), (0, 9), (0, 10), (0, 11), (0, 12), (0, 13), (1, 2), (1, 3), (1, 4), (1, 5), (1, 6), (1, 7), (1, 8), (1, 9), (1, 10), (1, 11), (1, 12), (1, 13), (2, 3), (2, 4), (2, 5), (2, 6), (2, 7), (2, 8), (2, 9), (2, 10), (2, 11), (2, 12), (2, 13), (2, 14), (2, 15), (3, 5), (3, 6), (3, 7), (3, 8), (3, 9), (3, 10), (3, 11), (3, 12), (3, 13), (3, 14), (3, 15), (4, 5), (4, 6), (4, 7), (4, 8), (4, 9), (4, 10), (4, 11), (4, 12), (4, 13), (4, 14), (4, 15), (5, 6), (5, 7), (5, 10), (5, 11), (5, 12), (5, 13), (6, 10), (6, 11), (6, 12), (6, 13), (7, 10), (7, 11), (7, 12), (7, 13), (8, 10), (8, 11), (8, 12), (8, 13), (9, 10), (9, 11), (9, 12), (9, 13), (10, 11)] (by decide +kernel) (by decide +kernel) ?_
      simp -dsimp (maxSteps := 4000000) (disch := first | omega | assumption | (simp only [FB, Nat.reduceAdd]; done) | (simp only [LB]; omega)) only [EB, ↓reduceIte, WB, Nat.reduceSub, Nat.reduceAdd, Int.reduceEq, Int.reduceNe, Int.reduceLT, Int.reduceLE, Int.reduceAdd, Int.reduceSub, Int.reduceMul, Int.reduceNeg, Int.reduceToNat, Nat.reduceEqDiff, Nat.reduceLT, Nat.reduceLeDiff, Nat.reduceMul, List.replicate, reduceCtorEq, RB, Nat.reduceEqDiff, TB, NB, MB, e0, e1, e2, e7, e8, e10, show (j : Int) < N by omega, show (m : Int) < N by omega, indexAddr_slice und25 size27, load_one agg27, hqd, rx, ry, write_soil, hso, hqn1, hqn2, wrap64, hc1]
      rw [swap_cells (by omega) (by omega), put_twice, soil_swap r.lt hqn2 hso]
      refine ⟨hi - (j + 1), by omega, j + 1, _, swp dk j m, _, [q], _, rfl, by omega, by omega, by rw [size_swp]; exact hdk, hres, rfl, r.up.up.put rfl, rfl, ?_⟩
      simp only [ups_at, ↓reduceIte, Nat.reduceEqDiff]
      exact ⟨e0, e1, e2, e7, e8, (by first | trivial | rfl | omega)⟩
  · rw [if_neg hlt] at hres
    subst hres
    simp -dsimp (maxSteps := 4000000) (disch := first | omega | assumption | (simp only [FB, Nat.reduceAdd]; done) | (simp only [LB]; omega)) only [EB, ↓reduceIte, WB, Nat.reduceSub, Nat.reduceAdd, Int.reduceEq, Int.reduceNe, Int.reduceLT, Int.reduceLE, Int.reduceAdd, Int.reduceSub, Int.reduceMul, Int.reduceNeg, Int.reduceToNat, Nat.reduceEqDiff, Nat.reduceLT, Nat.reduceLeDiff, Nat.reduceMul, List.replicate, reduceCtorEq, TB, NB, MB, e0, e1, e2, e7, e8, e10, show ¬ (j : Int) < hi by omega]
    refine hQ _ _ _ _ r hdk ?_ ?_ ?_ ?_ ?_ <;> simp only [ups_at, ↓reduceIte, Nat.reduceEqDiff] <;> assumption
theorem pins67 (q : Nat) (sp : Option Nat) (c : Nat) (d : Array Int) (lo hi N : Nat) (hN : d.size = N) (hlo : lo < hi) (hhi : hi ≤ N) (hsz : N ≤ 1000000) (a : AW) (hq : look q a.heap = some (.cells (cU d) true)) (hqn : q < a.next) (K : Value → AW → Prop)
    (hK : ∀ a', Aft a a' q d (partialInsertionSort ltInt d lo hi).1 → K (.bool (partialInsertionSort ltInt d lo hi).2) a') : WCall Try.prog GC 67 [.slice (some ⟨q, 0, sp⟩) N c, .int .i64 lo, .int .i64 hi] a K := by
  rw [call_env Try.func67 rfl Try.ntmps67 rfl rfl (by simp)]
  obtain ⟨T, hT⟩ : ∃ T, T = partialInsertionSort ltInt d lo hi := ⟨_, rfl⟩
  rw [← hT] at hK
  have hfin : ∀ dk n h ds b, Row a.next a.heap q d dk n h ds → (dk, b) = T → K (oneOf (leaveA a [.bool b] ⟨n, h, a.next, ds⟩).1) (leaveA a [.bool b] ⟨n, h, a.next, ds⟩).2 := by
    intro dk n h ds b r e
    subst e
    obtain ⟨a', e1, ha⟩ := r.leave (bs := a.base) (ds0 := a.dirty) (vs := [.bool b]) rfl
    rw [show a = ⟨a.next, a.heap, a.base, a.dirty⟩ from rfl, e1]
    exact hK a' ha
  simp -dsimp (maxSteps := 4000000) (disch := first | omega | assumption | (simp only [FB, Nat.reduceAdd]; done) | (simp only [LB]; omega)) only [EB, ↓reduceIte, WB, Nat.reduceSub, Nat.reduceAdd, Int.reduceEq, Int.reduceNe, Int.reduceLT, Int.reduceLE, Int.reduceAdd, Int.reduceSub, Int.reduceMul, Int.reduceNeg, Int.reduceToNat, Nat.reduceEqDiff, Nat.reduceLT, Nat.reduceLeDiff, Nat.reduceMul, List.replicate, reduceCtorEq, TB, NB, MB, wrap64]
  refine loop_inv (fun k t w => ∃ (i n : Nat) (dk : Array Int) (h : List (Nat × Blk)) (ds : List Nat), ∃ e, k ≤ 5 ∧ 1 ≤ i ∧ lo < i ∧ i ≤ hi ∧ dk.size = N ∧ partialIns ltInt lo hi k i dk = T ∧ w = ⟨n, h, a.next, ds⟩ ∧ Row a.next a.heap q d dk n h ds ∧ t = TT 133 e ∧ e 0 = .slice (some ⟨q, 0, sp⟩) N c ∧ e 1 = .int .i64 lo ∧ e 2 = .int .i64 hi ∧ e 7 = .int .i64 i ∧ e 8 = .int .i64 (5 - (k : Int)))
    (k := 5) ⟨lo + 1, _, _, _, _, _, Nat.le_refl _, by omega, by omega, by omega, hN, hT.symm, rfl, .start hq hqn, rfl, rfl, rfl, rfl, ?_, ?_⟩ ?_
  · simp only [ups_at, ↓reduceIte, Nat.reduceEqDiff]; rfl
  · simp only [ups_at, ↓reduceIte, Nat.reduceEqDiff]; rfl
  rintro k t w ⟨i, n, dk, h, ds, e, hk, hi1, hil, hib, hdk, hres, rfl, r, rfl, e0, e1, e2, e7, e8⟩
  cases k with
  | zero =>
    have hres' : (dk, false) = T := hres
    simp -dsimp (maxSteps := 4000000) (disch := first | omega | assumption | (simp only [FB, Nat.reduceAdd]; done) | (simp only [LB]; omega)) only [EB, ↓reduceIte, WB, Nat.reduceSub, Nat.reduceAdd, Int.reduceEq, Int.reduceNe, Int.reduceLT, Int.reduceLE, Int.reduceAdd, Int.reduceSub, Int.reduceMul, Int.reduceNeg, Int.reduceToNat, Nat.reduceEqDiff, Nat.reduceLT, Nat.reduceLeDiff, Nat.reduceMul, List.replicate, reduceCtorEq, TB, NB, MB, e0, e1, e2, e7, e8, show ¬ (5 : Int) - ((0 : Nat) : Int) < 5 by omega]
    exact hfin dk _ _ _ _ r hres'
  | succ k =>
    rw [partialIns] at hres
    simp -dsimp (maxSteps := 4000000) (disch := first | omega | assumption | (simp only [FB, Nat.reduceAdd]; done) | (simp only [LB]; omega)) only [EB, ↓reduceIte, WB, Nat.reduceSub, Nat.reduceAdd, Int.reduceEq, Int.reduceNe, Int.reduceLT, Int.reduceLE, Int.reduceAdd, Int.reduceSub, Int.reduceMul, Int.reduceNeg, Int.reduceToNat, Nat.reduceEqDiff, Nat.reduceLT, Nat.reduceLeDiff, Nat.reduceMul, List.replicate, reduceCtorEq, TB, NB, MB, e0, e1, e2, e7, e8, show (5 : Int) - ((k + 1 : Nat) : Int) < 5 by omega]
    refine ss67 q N a.next c sp a.heap d lo hi i (.int .i64 (5 - ((k + 1 : Nat) : Int))) hsz hhi hi1 hib dk hdk n h ds r _ ?_ ?_ ?_ ?_ ?_ _ fun n1 f hn1 rk1 g1 g2 f0 f1 f2 f7 f8 => ?_ <;> first | assumption | (simp only [ups_at, ↓reduceIte, Nat.reduceEqDiff] <;> assumption) | skip
    obtain ⟨i2, hi2⟩ : ∃ i2, i2 = scanSorted ltInt dk hi i := ⟨_, rfl⟩
    rw [← hi2] at hres f7 g1 g2
    simp only at hres
    by_cases hend : i2 = hi
    · rw [if_pos hend] at hres
      subst hend
      simp -dsimp (maxSteps := 4000000) (disch := first | omega | assumption | (simp only [FB, Nat.reduceAdd]; done) | (simp only [LB]; omega)) only [EB, ↓reduceIte, WB, Nat.reduceSub, Nat.reduceAdd, Int.reduceEq, Int.reduceNe, Int.reduceLT, Int.reduceLE, Int.reduceAdd, Int.reduceSub, Int.reduceMul, Int.reduceNeg, Int.reduceToNat, Nat.reduceEqDiff, Nat.reduceLT, Nat.reduceLeDiff, Nat.reduceMul, List.replicate, reduceCtorEq, TB, NB, MB, f0, f1, f2, f7, f8, eq_self]
      exact hfin dk _ _ _ _ rk1 hres
    · rw [if_neg hend] at hres
      by_cases h50 : hi - lo < 50
      · rw [if_pos h50] at hres
        simp -dsimp (maxSteps := 4000000) (disch := first | omega | assumption | (simp only [FB, Nat.reduceAdd]; done) | (simp only [LB]; omega)) only [EB, ↓reduceIte, WB, Nat.reduceSub, Nat.reduceAdd, Int.reduceEq, Int.reduceNe, Int.reduceLT, Int.reduceLE, Int.reduceAdd, Int.reduceSub, Int.reduceMul, Int.reduceNeg, Int.reduceToNat, Nat.reduceEqDiff, Nat.reduceLT, Nat.reduceLeDiff, Nat.reduceMul, List.replicate, reduceCtorEq, TB, NB, MB, f0, f1, f2, f7, f8, show ¬ (i2 : Int) = hi by omega, wrap64, show (hi : Int) - lo < 50 by omega]
        exact hfin dk _ _ _ _ rk1 hres
      · rw [if_neg h50] at hres
        obtain ⟨m, hm⟩ : ∃ m, m = i2 - 1 := ⟨_, rfl⟩
        rw [← hm] at hres
        have hc1 : (i2 : Int) - 1 = (m : Int) := by omega
        have rx := cU_at (d := dk) (i := i2) (by omega)
        have ry := cU_at (d := dk) (i := m) (by omega)
        have hqd := rk1.at_
        have hso := rk1.soil
        have hqn1 : q < n1 + 1 := by have := rk1.le; have := rk1.lt; omega
        have hlen := cU_len dk
        simp -dsimp (maxSteps := 4000000) (disch := first | omega | assumption | (simp only [FB, Nat.reduceAdd]; done) | (simp only [LB]; omega)) only [EB, ↓reduceIte, WB, Nat.reduceSub, Nat.reduceAdd, Int.reduceEq, Int.reduceNe, Int.reduceLT, Int.reduceLE, Int.reduceAdd, Int.reduceSub, Int.reduceMul, Int.reduceNeg, Int.reduceToNat, Nat.reduceEqDiff, Nat.reduceLT, Nat.reduceLeDiff, Nat.reduceMul, List.replicate, reduceCtorEq, TB, NB, MB, f0, f1, f2, f7, f8, show ¬ (i2 : Int) = hi by omega, wrap64, show ¬ (hi : Int) - lo < 50 by omega]
        refine code_draw [(0, 1), (0, 2), (0, 3), (0, 4), (0, 5), (0, 6), (0, 7), (0, 8), (0, 9), (0, 10), (0, 11), (0, 12), (0, 13), (1, 2), (1, 3), (1, 4), (1, 5), (1, 6), (1, 7), (1, 8), (1, 9), (1, 10), (1, 11), (1, 12), (1, 13), (2, 3), (2, 4), (2, 5), (2, 6), (2, 7), (2, 8), (2, 9), (2, 10), (2, 11), (2, 12), (2, 13), (2, 14), (2, 15), (3, 5), (3, 6), (3, 7), (3, 8), (3, 9), (3, 10), (3, 11), (3, 12), (3, 13), (3, 14), (3, 15), (4, 5), (4, 6), (4, 7), (4, 8), (4, 9), (4, 10), (4, 11), (4, 12), (4, 13), (4, 14), (4, 15), (5, 6), (5, 7), (5, 10), (5, 11), (5, 12), (5, 13), (6, 10), (6, 11), (6, 12), (6, 13), (7, 10), (7, 11), (7, 12), (7, 13), (8, 10), (8, 11), (8, 12), (8, 13), (9, 10), (9, 11), (9, 12), (9, 13), (10, 11)] (by decide +kernel) (by decide +kernel) ?_
        have hshape : ∀ (P : Prop), P → P := fun _ h => h
        by_cases hA : 2 ≤ i2 - lo
        · rw [if_pos hA] at hres
          simp -dsimp (maxSteps := 4000000) (disch := first | omega | assumption | (simp only [FB, Nat.reduceAdd]; done) | (simp only [LB]; omega)) only [EB, ↓reduceIte, WB, Nat.reduceSub, Nat.reduceAdd, Int.reduceEq, Int.reduceNe, Int.reduceLT, Int.reduceLE, Int.reduceAdd, Int.reduceSub, Int.reduceMul, Int.reduceNeg, Int.reduceToNat, Nat.reduceEqDiff, Nat.reduceLT, Nat.reduceLeDiff, Nat.reduceMul, List.replicate, reduceCtorEq, RB, Nat.reduceEqDiff, TB, NB, MB, f0, f1, f2, f7, f8, show (i2 : Int) < N by omega, show (m : Int) < N by omega, indexAddr_slice und25 size27, load_one agg27, hqd, rx, ry, write_soil, hso, hqn1, wrap64, hc1, show (2 : Int) ≤ (i2 : Int) - lo by omega]
          rw [swap_cells (by omega) (by omega), put_twice, soil_swap rk1.lt hqn1 hso]
          have r2 : Row a.next a.heap q d (swp dk i2 m) (n1 + 1) (putAt q (.cells (cU (swp dk i2 m)) true) h) [q] := rk1.up.put rfl
          refine sd67 q N a.next c sp a.heap d lo hi m (.int .i64 i2) (.int .i64 (5 - ((k + 1 : Nat) : Int))) hsz (by omega) (swp dk i2 m) (by rw [size_swp]; exact hdk) _ _ _ r2 _ ?_ ?_ ?_ ?_ ?_ ?_ _ fun n2 h2 ds2 g r3 hs3 g0 g1 g2 g7 g8 => ?_ <;> first | assumption | (simp only [ups_at, ↓reduceIte, Nat.reduceEqDiff] <;> assumption) | skip
          by_cases hB : 2 ≤ hi - i2
          · rw [if_pos hB] at hres
            simp -dsimp (maxSteps := 4000000) (disch := first | omega | assumption | (simp only [FB, Nat.reduceAdd]; done) | (simp only [LB]; omega)) only [EB, ↓reduceIte, WB, Nat.reduceSub, Nat.reduceAdd, Int.reduceEq, Int.reduceNe, Int.reduceLT, Int.reduceLE, Int.reduceAdd, Int.reduceSub, Int.reduceMul, Int.reduceNeg, Int.reduceToNat, Nat.reduceEqDiff, Nat.reduceLT, Nat.reduceLeDiff, Nat.reduceMul, List.replicate, reduceCtorEq, TB, NB, MB, g0, g1, g2, g7, g8, wrap64, show (2 : Int) ≤ (hi : Int) - i2 by omega]
            refine su67 q N a.next c sp a.heap d lo hi (i2 + 1) (.int .i64 i2) (.int .i64 (5 - ((k + 1 : Nat) : Int))) hsz hhi (by omega) (by omega) _ hs3 _ _ _ r3 _ ?_ ?_ ?_ ?_ ?_ ?_ _ fun n3 h3 ds3 f r4 hs4 f0 f1 f2 f7 f8 => ?_ <;> first | assumption | (simp only [ups_at, ↓reduceIte, Nat.reduceEqDiff] <;> first | assumption | rfl) | skip
            simp -dsimp (maxSteps := 4000000) (disch := first | omega | assumption | (simp only [FB, Nat.reduceAdd]; done) | (simp only [LB]; omega)) only [EB, ↓reduceIte, WB, Nat.reduceSub, Nat.reduceAdd, Int.reduceEq, Int.reduceNe, Int.reduceLT, Int.reduceLE, Int.reduceAdd, Int.reduceSub, Int.reduceMul, Int.reduceNeg, Int.reduceToNat, Nat.reduceEqDiff, Nat.reduceLT, Nat.reduceLeDiff, Nat.reduceMul, List.replicate, reduceCtorEq, TB, NB, MB, f0, f1, f2, f7, f8, wrap64]
            refine ⟨trivial, k, by omega, i2, _, _, _, _, _, by omega, by omega, by omega, by omega, hs4, hres, rfl, r4, rfl, ?_⟩
            simp only [ups_at, ↓reduceIte, Nat.reduceEqDiff]
            exact ⟨f0, f1, f2, f7, by congr 1; omega⟩
          · rw [if_neg hB] at hres
            simp -dsimp (maxSteps := 4000000) (disch := first | omega | assumption | (simp only [FB, Nat.reduceAdd]; done) | (simp only [LB]; omega)) only [EB, ↓reduceIte, WB, Nat.reduceSub, Nat.reduceAdd, Int.reduceEq, Int.reduceNe, Int.reduceLT, Int.reduceLE, Int.reduceAdd, Int.reduceSub, Int.reduceMul, Int.reduceNeg, Int.reduceToNat, Nat.reduceEqDiff, Nat.reduceLT, Nat.reduceLeDiff, Nat.reduceMul, List.replicate, reduceCtorEq, TB, NB, MB, g0, g1, g2, g7, g8, wrap64, show ¬ (2 : Int) ≤ (hi : Int) - i2 by omega]
            refine ⟨trivial, k, by omega, i2, _, _, _, _, _, by omega, by omega, by omega, by omega, hs3, hres, rfl, r3, rfl, ?_⟩
            simp only [ups_at, ↓reduceIte, Nat.reduceEqDiff]
            exact ⟨g0, g1, g2, g7, by congr 1; omega⟩
        · rw [if_neg hA] at hres
          by_cases hB : 2 ≤ hi - i2
          · rw [if_pos hB] at hres
            simp -dsimp (maxSteps := 4000000) (disch := first | omega | assumption | (simp only [FB, Nat.reduceAdd]; done) | (simp only [LB]; omega)) only [EB, ↓reduceIte, WB, Nat.reduceSub, Nat.reduceAdd, Int.reduceEq, Int.reduceNe, Int.reduceLT, Int.reduceLE, Int.reduceAdd, Int.reduceSub, Int.reduceMul, Int.reduceNeg, Int.reduceToNat, Nat.reduceEqDiff, Nat.reduceLT, Nat.reduceLeDiff, Nat.reduceMul, List.replicate, reduceCtorEq, RB, Nat.reduceEqDiff, TB, NB, MB, f0, f1, f2, f7, f8, show (i2 : Int) < N by omega, show (m : Int) < N by omega, indexAddr_slice und25 size27, load_one agg27, hqd, rx, ry, write_soil, hso, hqn1, wrap64, hc1, show ¬ (2 : Int) ≤ (i2 : Int) - lo by omega, show (2 : Int) ≤ (hi : Int) - i2 by omega]
            rw [swap_cells (by omega) (by omega), put_twice, soil_swap rk1.lt hqn1 hso]
            have r2 : Row a.next a.heap q d (swp dk i2 m) (n1 + 1) (putAt q (.cells (cU (swp dk i2 m)) true) h) [q] := rk1.up.put rfl
            refine su67 q N a.next c sp a.heap d lo hi (i2 + 1) (.int .i64 i2) (.int .i64 (5 - ((k + 1 : Nat) : Int))) hsz hhi (by omega) (by omega) (swp dk i2 m) (by rw [size_swp]; exact hdk) _ _ _ r2 _ ?_ ?_ ?_ ?_ ?_ ?_ _ fun n3 h3 ds3 f r4 hs4 f0 f1 f2 f7 f8 => ?_ <;> first | assumption | (simp only [ups_at, ↓reduceIte, Nat.reduceEqDiff] <;> first | assumption | rfl) | skip
            simp -dsimp (maxSteps := 4000000) (disch := first | omega | assumption | (simp only [FB, Nat.reduceAdd]; done) | (simp only [LB]; omega)) only [EB, ↓reduceIte, WB, Nat.reduceSub, Nat.reduceAdd, Int.reduceEq, Int.reduceNe, Int.reduceLT, Int.reduceLE, Int.reduceAdd, Int.reduceSub, Int.reduceMul, Int.reduceNeg, Int.reduceToNat, Nat.reduceEqDiff, Nat.reduceLT, Nat.reduceLeDiff, Nat.reduceMul, List.replicate, reduceCtorEq, TB, NB, MB, f0, f1, f2, f7, f8, wrap64]
            refine ⟨trivial, k, by omega, i2, _, _, _, _, _, by omega, by omega, by omega, by omega, hs4, hres, rfl, r4, rfl, ?_⟩
            simp only [ups_at, ↓reduceIte, Nat.reduceEqDiff]
            exact ⟨f0, f1, f2, f7, by congr 1; omega⟩
          · omega
end Go.Proofs.YtlbmjpmonaekgaaAM
