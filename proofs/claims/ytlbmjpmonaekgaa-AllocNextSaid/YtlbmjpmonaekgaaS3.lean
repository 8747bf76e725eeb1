/- Chapter 14: the partitions of a row. -/
import Derived.Test.YtlbmjpmonaekgaaS2
namespace Go.Proofs.YtlbmjpmonaekgaaAM
open Go Go.RowKit Go.Sort
set_option linter.unusedVariables false
set_option linter.unusedSimpArgs false
set_option maxRecDepth 10000
set_option maxHeartbeats 4000000

theorem scan_up_go {p : Int → Bool} {d : Array Int} {j i : Nat} (h : i ≤ j) (hp : p d[i]! = true) : scanUp p d j i = scanUp p d j (i + 1) := by rw [scanUp, if_pos (by simp [h, hp])]
theorem scan_up_stop {p : Int → Bool} {d : Array Int} {j i : Nat} (h : ¬ i ≤ j ∨ p d[i]! = false) : scanUp p d j i = i := by rw [scanUp, if_neg (by rcases h with h | h <;> simp [h])]
theorem scan_down_go {p : Int → Bool} {d : Array Int} {j i : Nat} (h : i ≤ j + 1) (hp : p d[j + 1]! = true) : scanDown p d i (j + 1) = scanDown p d i j := by rw [scanDown, if_pos (by simp [h, hp])]
theorem scan_down_stop {p : Int → Bool} {d : Array Int} {j i : Nat} (h : ¬ i ≤ j ∨ p d[j]! = false) : scanDown p d i j = j := by
  cases j with
  | zero => rfl
  | succ j => rw [scanDown, if_neg (by rcases h with h | h <;> simp [h])]
theorem up68 (q N n0 c : Nat) (sp : Option Nat) (h0 : List (Nat × Blk)) (d0 : Array Int) (al i j : Nat) (hN : N ≤ 1000000) (hal : al < N) (hi1 : 1 ≤ i) (hiN : i ≤ N) (hjN : j < N) (dk : Array Int) (hdk : dk.size = N) (n : Nat) (h : List (Nat × Blk)) (ds : List Nat) (r : Row n0 h0 q d0 dk n h ds) (e : Nat → Value)
    (e0 : e 0 = .slice (some ⟨q, 0, sp⟩) N c) (e1 : e 1 = .int .i64 al) (ei : e 9 = .int .i64 i) (ej : e 10 = .int .i64 j) (Q : ExitA → List Value → List Nat → AW → Prop)
    (hQ : ∀ n' e', n ≤ n' → Row n0 h0 q d0 dk n' h ds → e' 0 = .slice (some ⟨q, 0, sp⟩) N c → e' 1 = .int .i64 al → e' 9 = .int .i64 ((scanUp (fun x => !ltInt dk[al]! x) dk j i : Nat) : Int) → e' 10 = .int .i64 j → Q (.exit 2) (TT 84 e') [] ⟨n', h, n0, ds⟩) :
    WCode Try.prog GC 68 none (loopN Try.f68 1) (TT 84 e) [] ⟨n, h, n0, ds⟩ Q := by
  refine loop_at rfl ?_
  obtain ⟨T, hT⟩ : ∃ T : Nat, T = scanUp (fun x => !ltInt dk[al]! x) dk j i := ⟨_, rfl⟩
  rw [← hT] at hQ
  refine loop_inv (fun k t w => ∃ (i2 n' : Nat), ∃ e', k = j + 1 - i2 ∧ i2 ≤ N ∧ (scanUp (fun x => !ltInt dk[al]! x) dk j i2) = T ∧ n ≤ n' ∧ w = ⟨n', h, n0, ds⟩ ∧ t = TT 84 e' ∧ e' 0 = .slice (some ⟨q, 0, sp⟩) N c ∧ e' 1 = .int .i64 al ∧ e' 9 = .int .i64 i2 ∧ e' 10 = .int .i64 j)
    ⟨i, n, e, rfl, hiN, hT.symm, Nat.le_refl _, rfl, rfl, e0, e1, ei, ej⟩ ?_
  clear e0 e1 ei ej hT
  rintro k t w ⟨i2, n', e, hk, hi2, hres, hnn, rfl, rfl, e0, e1, ei, ej⟩
  have rk : Row n0 h0 q d0 dk n' h ds := r.next hnn fun _ _ => rfl
  have hqd := rk.at_
  have hqn1 : q < n' + 1 := by have := rk.le; have := rk.lt; omega
  simp -dsimp (maxSteps := 4000000) (disch := first | omega | assumption | (simp only [FB, Nat.reduceAdd]; done) | (simp only [LB]; omega)) only [EB, ↓reduceIte, WB, Nat.reduceSub, Nat.reduceAdd, Int.reduceEq, Int.reduceNe, Int.reduceLT, Int.reduceLE, Int.reduceAdd, Int.reduceSub, Int.reduceMul, Int.reduceNeg, Int.reduceToNat, Nat.reduceEqDiff, Nat.reduceLT, Nat.reduceLeDiff, Nat.reduceMul, List.replicate, reduceCtorEq, TB, NB, MB, ]
  have ra := cU_at (d := dk) (i := al) (by omega)
  by_cases hij : i2 ≤ j
  · have rx := cU_at (d := dk) (i := i2) (by omega)
    cases hl : ltInt dk[al]! dk[i2]! with
    | false =>
      refine code_draw [(0, 1), (4, 5), (4, 8), (4, 9), (4, 10), (4, 11), (5, 8), (5, 9), (5, 10), (5, 11), (6, 8), (6, 9), (6, 10), (6, 11), (7, 8), (7, 9), (7, 10), (7, 11), (8, 9)] (by decide +kernel) (by decide +kernel) ?_
      rw [scan_up_go hij (by simp [hl])] at hres
      simp -dsimp (maxSteps := 4000000) (disch := first | omega | assumption | (simp only [FB, Nat.reduceAdd]; done) | (simp only [LB]; omega)) only [EB, ↓reduceIte, WB, Nat.reduceSub, Nat.reduceAdd, Int.reduceEq, Int.reduceNe, Int.reduceLT, Int.reduceLE, Int.reduceAdd, Int.reduceSub, Int.reduceMul, Int.reduceNeg, Int.reduceToNat, Nat.reduceEqDiff, Nat.reduceLT, Nat.reduceLeDiff, Nat.reduceMul, List.replicate, reduceCtorEq, RB, Nat.reduceEqDiff, TB, NB, MB, e0, e1, ei, ej, show (i2 : Int) ≤ j by omega, show (i2 : Int) < N by omega, show (al : Int) < N by omega, indexAddr_slice und25 size27, load_one agg27, hqd, ra, rx, less46, hl, wrap64]
      refine ⟨j + 1 - (i2 + 1), by omega, i2 + 1, _, _, rfl, by omega, hres, Nat.le_succ_of_le hnn, rfl, rfl, ?_⟩
      simp only [ups_at, ↓reduceIte, Nat.reduceEqDiff]
      exact ⟨e0, e1, (by first | trivial | rfl | omega), ej⟩
    | true =>
      refine code_draw [(0, 1), (4, 5), (4, 8), (4, 9), (4, 10), (4, 11), (5, 8), (5, 9), (5, 10), (5, 11), (6, 8), (6, 9), (6, 10), (6, 11), (7, 8), (7, 9), (7, 10), (7, 11), (8, 9)] (by decide +kernel) (by decide +kernel) ?_
      rw [scan_up_stop (.inr (by simp [hl]))] at hres
      subst hres
      simp -dsimp (maxSteps := 4000000) (disch := first | omega | assumption | (simp only [FB, Nat.reduceAdd]; done) | (simp only [LB]; omega)) only [EB, ↓reduceIte, WB, Nat.reduceSub, Nat.reduceAdd, Int.reduceEq, Int.reduceNe, Int.reduceLT, Int.reduceLE, Int.reduceAdd, Int.reduceSub, Int.reduceMul, Int.reduceNeg, Int.reduceToNat, Nat.reduceEqDiff, Nat.reduceLT, Nat.reduceLeDiff, Nat.reduceMul, List.replicate, reduceCtorEq, RB, Nat.reduceEqDiff, TB, NB, MB, e0, e1, ei, ej, show (i2 : Int) ≤ j by omega, show (i2 : Int) < N by omega, show (al : Int) < N by omega, indexAddr_slice und25 size27, load_one agg27, hqd, ra, rx, less46, hl, wrap64]
      refine hQ _ _ (Nat.le_succ_of_le hnn) rk.up ?_ ?_ ?_ ?_ <;> simp only [ups_at, ↓reduceIte, Nat.reduceEqDiff] <;> assumption
  · refine code_draw [(0, 1), (4, 5), (4, 8), (4, 9), (4, 10), (4, 11), (5, 8), (5, 9), (5, 10), (5, 11), (6, 8), (6, 9), (6, 10), (6, 11), (7, 8), (7, 9), (7, 10), (7, 11), (8, 9)] (by decide +kernel) (by decide +kernel) ?_
    rw [scan_up_stop (.inl hij)] at hres
    subst hres
    simp -dsimp (maxSteps := 4000000) (disch := first | omega | assumption | (simp only [FB, Nat.reduceAdd]; done) | (simp only [LB]; omega)) only [EB, ↓reduceIte, WB, Nat.reduceSub, Nat.reduceAdd, Int.reduceEq, Int.reduceNe, Int.reduceLT, Int.reduceLE, Int.reduceAdd, Int.reduceSub, Int.reduceMul, Int.reduceNeg, Int.reduceToNat, Nat.reduceEqDiff, Nat.reduceLT, Nat.reduceLeDiff, Nat.reduceMul, List.replicate, reduceCtorEq, RB, Nat.reduceEqDiff, TB, NB, MB, e0, e1, ei, ej, show ¬ (i2 : Int) ≤ j by omega]
    refine hQ _ _ (Nat.le_succ_of_le hnn) rk.up ?_ ?_ ?_ ?_ <;> simp only [ups_at, ↓reduceIte, Nat.reduceEqDiff] <;> assumption
theorem dn68 (q N n0 c : Nat) (sp : Option Nat) (h0 : List (Nat × Blk)) (d0 : Array Int) (al i j : Nat) (hN : N ≤ 1000000) (hal : al < N) (hi1 : 1 ≤ i) (hiN : i ≤ N) (hjN : j < N) (dk : Array Int) (hdk : dk.size = N) (n : Nat) (h : List (Nat × Blk)) (ds : List Nat) (r : Row n0 h0 q d0 dk n h ds) (e : Nat → Value)
    (e0 : e 0 = .slice (some ⟨q, 0, sp⟩) N c) (e1 : e 1 = .int .i64 al) (ei : e 9 = .int .i64 i) (ej : e 10 = .int .i64 j) (Q : ExitA → List Value → List Nat → AW → Prop)
    (hQ : ∀ n' e', n ≤ n' → Row n0 h0 q d0 dk n' h ds → e' 0 = .slice (some ⟨q, 0, sp⟩) N c → e' 1 = .int .i64 al → e' 9 = .int .i64 i → e' 10 = .int .i64 ((scanDown (fun x => ltInt dk[al]! x) dk i j : Nat) : Int) → Q (.exit 4) (TT 84 e') [] ⟨n', h, n0, ds⟩) :
    WCode Try.prog GC 68 none (loopN Try.f68 2) (TT 84 e) [] ⟨n, h, n0, ds⟩ Q := by
  refine loop_at rfl ?_
  obtain ⟨T, hT⟩ : ∃ T : Nat, T = scanDown (fun x => ltInt dk[al]! x) dk i j := ⟨_, rfl⟩
  rw [← hT] at hQ
  refine loop_inv (fun k t w => ∃ (j2 n' : Nat), ∃ e', k = j2 ∧ j2 < N ∧ (scanDown (fun x => ltInt dk[al]! x) dk i j2) = T ∧ n ≤ n' ∧ w = ⟨n', h, n0, ds⟩ ∧ t = TT 84 e' ∧ e' 0 = .slice (some ⟨q, 0, sp⟩) N c ∧ e' 1 = .int .i64 al ∧ e' 9 = .int .i64 i ∧ e' 10 = .int .i64 j2)
    ⟨j, n, e, rfl, hjN, hT.symm, Nat.le_refl _, rfl, rfl, e0, e1, ei, ej⟩ ?_
  clear e0 e1 ei ej hT
  rintro k t w ⟨j2, n', e, hk, hj2, hres, hnn, rfl, rfl, e0, e1, ei, ej⟩
  have rk : Row n0 h0 q d0 dk n' h ds := r.next hnn fun _ _ => rfl
  have hqd := rk.at_
  have hqn1 : q < n' + 1 := by have := rk.le; have := rk.lt; omega
  simp -dsimp (maxSteps := 4000000) (disch := first | omega | assumption | (simp only [FB, Nat.reduceAdd]; done) | (simp only [LB]; omega)) only [EB, ↓reduceIte, WB, Nat.reduceSub, Nat.reduceAdd, Int.reduceEq, Int.reduceNe, Int.reduceLT, Int.reduceLE, Int.reduceAdd, Int.reduceSub, Int.reduceMul, Int.reduceNeg, Int.reduceToNat, Nat.reduceEqDiff, Nat.reduceLT, Nat.reduceLeDiff, Nat.reduceMul, List.replicate, reduceCtorEq, TB, NB, MB, ]
  have ra := cU_at (d := dk) (i := al) (by omega)
  by_cases hij : i ≤ j2
  · obtain ⟨m, rfl⟩ : ∃ m, j2 = m + 1 := ⟨j2 - 1, by omega⟩
    have hc1 : ((m + 1 : Nat) : Int) - 1 = (m : Int) := by omega
    have rx := cU_at (d := dk) (i := m + 1) (by omega)
    cases hl : ltInt dk[al]! dk[m + 1]! with
    | true =>
      refine code_draw [(0, 1), (4, 5), (4, 8), (4, 9), (4, 10), (4, 11), (5, 8), (5, 9), (5, 10), (5, 11), (6, 8), (6, 9), (6, 10), (6, 11), (7, 8), (7, 9), (7, 10), (7, 11), (8, 9)] (by decide +kernel) (by decide +kernel) ?_
      rw [scan_down_go hij (by simp [hl])] at hres
      simp -dsimp (maxSteps := 4000000) (disch := first | omega | assumption | (simp only [FB, Nat.reduceAdd]; done) | (simp only [LB]; omega)) only [EB, ↓reduceIte, WB, Nat.reduceSub, Nat.reduceAdd, Int.reduceEq, Int.reduceNe, Int.reduceLT, Int.reduceLE, Int.reduceAdd, Int.reduceSub, Int.reduceMul, Int.reduceNeg, Int.reduceToNat, Nat.reduceEqDiff, Nat.reduceLT, Nat.reduceLeDiff, Nat.reduceMul, List.replicate, reduceCtorEq, RB, Nat.reduceEqDiff, TB, NB, MB, e0, e1, ei, ej, show (i : Int) ≤ ((m + 1 : Nat) : Int) by omega, show ((m + 1 : Nat) : Int) < N by omega, show (al : Int) < N by omega, indexAddr_slice und25 size27, load_one agg27, hqd, ra, rx, less46, hl, wrap64, hc1]
      refine ⟨m, by omega, m, _, _, rfl, by omega, hres, Nat.le_succ_of_le hnn, rfl, rfl, ?_⟩
      simp only [ups_at, ↓reduceIte, Nat.reduceEqDiff]
      exact ⟨e0, e1, ei, (by first | trivial | rfl | omega)⟩
    | false =>
      refine code_draw [(0, 1), (4, 5), (4, 8), (4, 9), (4, 10), (4, 11), (5, 8), (5, 9), (5, 10), (5, 11), (6, 8), (6, 9), (6, 10), (6, 11), (7, 8), (7, 9), (7, 10), (7, 11), (8, 9)] (by decide +kernel) (by decide +kernel) ?_
      rw [scan_down_stop (.inr (by simp [hl]))] at hres
      subst hres
      simp -dsimp (maxSteps := 4000000) (disch := first | omega | assumption | (simp only [FB, Nat.reduceAdd]; done) | (simp only [LB]; omega)) only [EB, ↓reduceIte, WB, Nat.reduceSub, Nat.reduceAdd, Int.reduceEq, Int.reduceNe, Int.reduceLT, Int.reduceLE, Int.reduceAdd, Int.reduceSub, Int.reduceMul, Int.reduceNeg, Int.reduceToNat, Nat.reduceEqDiff, Nat.reduceLT, Nat.reduceLeDiff, Nat.reduceMul, List.replicate, reduceCtorEq, RB, Nat.reduceEqDiff, TB, NB, MB, e0, e1, ei, ej, show (i : Int) ≤ ((m + 1 : Nat) : Int) by omega, show ((m + 1 : Nat) : Int) < N by omega, show (al : Int) < N by omega, indexAddr_slice und25 size27, load_one agg27, hqd, ra, rx, less46, hl, wrap64, hc1]
      refine hQ _ _ (Nat.le_succ_of_le hnn) rk.up ?_ ?_ ?_ ?_ <;> simp only [ups_at, ↓reduceIte, Nat.reduceEqDiff] <;> assumption
  · refine code_draw [(0, 1), (4, 5), (4, 8), (4, 9), (4, 10), (4, 11), (5, 8), (5, 9), (5, 10), (5, 11), (6, 8), (6, 9), (6, 10), (6, 11), (7, 8), (7, 9), (7, 10), (7, 11), (8, 9)] (by decide +kernel) (by decide +kernel) ?_
    rw [scan_down_stop (.inl hij)] at hres
    subst hres
    simp -dsimp (maxSteps := 4000000) (disch := first | omega | assumption | (simp only [FB, Nat.reduceAdd]; done) | (simp only [LB]; omega)) only [EB, ↓reduceIte, WB, Nat.reduceSub, Nat.reduceAdd, Int.reduceEq, Int.reduceNe, Int.reduceLT, Int.reduceLE, Int.reduceAdd, Int.reduceSub, Int.reduceMul, Int.reduceNeg, Int.reduceToNat, Nat.reduceEqDiff, Nat.reduceLT, Nat.reduceLeDiff, Nat.reduceMul, List.replicate, reduceCtorEq, RB, Nat.reduceEqDiff, TB, NB, MB, e0, e1, ei, ej, show ¬ (i : Int) ≤ j2 by omega]
    refine hQ _ _ (Nat.le_succ_of_le hnn) rk.up ?_ ?_ ?_ ?_ <;> simp only [ups_at, ↓reduceIte, Nat.reduceEqDiff] <;> assumption
theorem up69a (q N n0 c : Nat) (sp : Option Nat) (h0 : List (Nat × Blk)) (d0 : Array Int) (al i j : Nat) (hN : N ≤ 1000000) (hal : al < N) (hi1 : 1 ≤ i) (hiN : i ≤ N) (hjN : j < N) (dk : Array Int) (hdk : dk.size = N) (n : Nat) (h : List (Nat × Blk)) (ds : List Nat) (r : Row n0 h0 q d0 dk n h ds) (e : Nat → Value)
    (e0 : e 0 = .slice (some ⟨q, 0, sp⟩) N c) (e1 : e 1 = .int .i64 al) (ei : e 10 = .int .i64 i) (ej : e 11 = .int .i64 j) (Q : ExitA → List Value → List Nat → AW → Prop)
    (hQ : ∀ n' e', n ≤ n' → Row n0 h0 q d0 dk n' h ds → e' 0 = .slice (some ⟨q, 0, sp⟩) N c → e' 1 = .int .i64 al → e' 10 = .int .i64 ((scanUp (fun x => ltInt x dk[al]!) dk j i : Nat) : Int) → e' 11 = .int .i64 j → Q (.exit 0) (TT 168 e') [] ⟨n', h, n0, ds⟩) :
    WCode Try.prog GC 69 none (loopN Try.f69 0) (TT 168 e) [] ⟨n, h, n0, ds⟩ Q := by
  refine loop_at rfl ?_
  obtain ⟨T, hT⟩ : ∃ T : Nat, T = scanUp (fun x => ltInt x dk[al]!) dk j i := ⟨_, rfl⟩
  rw [← hT] at hQ
  refine loop_inv (fun k t w => ∃ (i2 n' : Nat), ∃ e', k = j + 1 - i2 ∧ i2 ≤ N ∧ (scanUp (fun x => ltInt x dk[al]!) dk j i2) = T ∧ n ≤ n' ∧ w = ⟨n', h, n0, ds⟩ ∧ t = TT 168 e' ∧ e' 0 = .slice (some ⟨q, 0, sp⟩) N c ∧ e' 1 = .int .i64 al ∧ e' 10 = .int .i64 i2 ∧ e' 11 = .int .i64 j)
    ⟨i, n, e, rfl, hiN, hT.symm, Nat.le_refl _, rfl, rfl, e0, e1, ei, ej⟩ ?_
  clear e0 e1 ei ej hT
  rintro k t w ⟨i2, n', e, hk, hi2, hres, hnn, rfl, rfl, e0, e1, ei, ej⟩
  have rk : Row n0 h0 q d0 dk n' h ds := r.next hnn fun _ _ => rfl
  have hqd := rk.at_
  have hqn1 : q < n' + 1 := by have := rk.le; have := rk.lt; omega
  simp -dsimp (maxSteps := 4000000) (disch := first | omega | assumption | (simp only [FB, Nat.reduceAdd]; done) | (simp only [LB]; omega)) only [EB, ↓reduceIte, WB, Nat.reduceSub, Nat.reduceAdd, Int.reduceEq, Int.reduceNe, Int.reduceLT, Int.reduceLE, Int.reduceAdd, Int.reduceSub, Int.reduceMul, Int.reduceNeg, Int.reduceToNat, Nat.reduceEqDiff, Nat.reduceLT, Nat.reduceLeDiff, Nat.reduceMul, List.replicate, reduceCtorEq, TB, NB, MB, ]
  have ra := cU_at (d := dk) (i := al) (by omega)
  by_cases hij : i2 ≤ j
  · have rx := cU_at (d := dk) (i := i2) (by omega)
    cases hl : ltInt dk[i2]! dk[al]! with
    | true =>
      refine code_draw [(0, 1), (4, 5), (4, 8), (4, 9), (4, 10), (4, 11), (5, 8), (5, 9), (5, 10), (5, 11), (6, 8), (6, 9), (6, 10), (6, 11), (7, 8), (7, 9), (7, 10), (7, 11), (8, 9)] (by decide +kernel) (by decide +kernel) ?_
      rw [scan_up_go hij (by simp [hl])] at hres
      simp -dsimp (maxSteps := 4000000) (disch := first | omega | assumption | (simp only [FB, Nat.reduceAdd]; done) | (simp only [LB]; omega)) only [EB, ↓reduceIte, WB, Nat.reduceSub, Nat.reduceAdd, Int.reduceEq, Int.reduceNe, Int.reduceLT, Int.reduceLE, Int.reduceAdd, Int.reduceSub, Int.reduceMul, Int.reduceNeg, Int.reduceToNat, Nat.reduceEqDiff, Nat.reduceLT, Nat.reduceLeDiff, Nat.reduceMul, List.replicate, reduceCtorEq, RB, Nat.reduceEqDiff, TB, NB, MB, e0, e1, ei, ej, show (i2 : Int) ≤ j by omega, show (i2 : Int) < N by omega, show (al : Int) < N by omega, indexAddr_slice und25 size27, load_one agg27, hqd, ra, rx, less46, hl, wrap64]
      refine ⟨j + 1 - (i2 + 1), by omega, i2 + 1, _, _, rfl, by omega, hres, Nat.le_succ_of_le hnn, rfl, rfl, ?_⟩
      simp only [ups_at, ↓reduceIte, Nat.reduceEqDiff]
      exact ⟨e0, e1, (by first | trivial | rfl | omega), ej⟩
    | false =>
      refine code_draw [(0, 1), (4, 5), (4, 8), (4, 9), (4, 10), (4, 11), (5, 8), (5, 9), (5, 10), (5, 11), (6, 8), (6, 9), (6, 10), (6, 11), (7, 8), (7, 9), (7, 10), (7, 11), (8, 9)] (by decide +kernel) (by decide +kernel) ?_
      rw [scan_up_stop (.inr (by simp [hl]))] at hres
      subst hres
      simp -dsimp (maxSteps := 4000000) (disch := first | omega | assumption | (simp only [FB, Nat.reduceAdd]; done) | (simp only [LB]; omega)) only [EB, ↓reduceIte, WB, Nat.reduceSub, Nat.reduceAdd, Int.reduceEq, Int.reduceNe, Int.reduceLT, Int.reduceLE, Int.reduceAdd, Int.reduceSub, Int.reduceMul, Int.reduceNeg, Int.reduceToNat, Nat.reduceEqDiff, Nat.reduceLT, Nat.reduceLeDiff, Nat.reduceMul, List.replicate, reduceCtorEq, RB, Nat.reduceEqDiff, TB, NB, MB, e0, e1, ei, ej, show (i2 : Int) ≤ j by omega, show (i2 : Int) < N by omega, show (al : Int) < N by omega, indexAddr_slice und25 size27, load_one agg27, hqd, ra, rx, less46, hl, wrap64]
      refine hQ _ _ (Nat.le_succ_of_le hnn) rk.up ?_ ?_ ?_ ?_ <;> simp only [ups_at, ↓reduceIte, Nat.reduceEqDiff] <;> assumption
  · refine code_draw [(0, 1), (4, 5), (4, 8), (4, 9), (4, 10), (4, 11), (5, 8), (5, 9), (5, 10), (5, 11), (6, 8), (6, 9), (6, 10), (6, 11), (7, 8), (7, 9), (7, 10), (7, 11), (8, 9)] (by decide +kernel) (by decide +kernel) ?_
    rw [scan_up_stop (.inl hij)] at hres
    subst hres
    simp -dsimp (maxSteps := 4000000) (disch := first | omega | assumption | (simp only [FB, Nat.reduceAdd]; done) | (simp only [LB]; omega)) only [EB, ↓reduceIte, WB, Nat.reduceSub, Nat.reduceAdd, Int.reduceEq, Int.reduceNe, Int.reduceLT, Int.reduceLE, Int.reduceAdd, Int.reduceSub, Int.reduceMul, Int.reduceNeg, Int.reduceToNat, Nat.reduceEqDiff, Nat.reduceLT, Nat.reduceLeDiff, Nat.reduceMul, List.replicate, reduceCtorEq, RB, Nat.reduceEqDiff, TB, NB, MB, e0, e1, ei, ej, show ¬ (i2 : Int) ≤ j by omega]
    refine hQ _ _ (Nat.le_succ_of_le hnn) rk.up ?_ ?_ ?_ ?_ <;> simp only [ups_at, ↓reduceIte, Nat.reduceEqDiff] <;> assumption
theorem dn69a (q N n0 c : Nat) (sp : Option Nat) (h0 : List (Nat × Blk)) (d0 : Array Int) (al i j : Nat) (hN : N ≤ 1000000) (hal : al < N) (hi1 : 1 ≤ i) (hiN : i ≤ N) (hjN : j < N) (dk : Array Int) (hdk : dk.size = N) (n : Nat) (h : List (Nat × Blk)) (ds : List Nat) (r : Row n0 h0 q d0 dk n h ds) (e : Nat → Value)
    (e0 : e 0 = .slice (some ⟨q, 0, sp⟩) N c) (e1 : e 1 = .int .i64 al) (ei : e 10 = .int .i64 i) (ej : e 11 = .int .i64 j) (Q : ExitA → List Value → List Nat → AW → Prop)
    (hQ : ∀ n' e', n ≤ n' → Row n0 h0 q d0 dk n' h ds → e' 0 = .slice (some ⟨q, 0, sp⟩) N c → e' 1 = .int .i64 al → e' 10 = .int .i64 i → e' 11 = .int .i64 ((scanDown (fun x => !ltInt x dk[al]!) dk i j : Nat) : Int) → Q (.exit 2) (TT 168 e') [] ⟨n', h, n0, ds⟩) :
    WCode Try.prog GC 69 none (loopN Try.f69 1) (TT 168 e) [] ⟨n, h, n0, ds⟩ Q := by
  refine loop_at rfl ?_
  obtain ⟨T, hT⟩ : ∃ T : Nat, T = scanDown (fun x => !ltInt x dk[al]!) dk i j := ⟨_, rfl⟩
  rw [← hT] at hQ
  refine loop_inv (fun k t w => ∃ (j2 n' : Nat), ∃ e', k = j2 ∧ j2 < N ∧ (scanDown (fun x => !ltInt x dk[al]!) dk i j2) = T ∧ n ≤ n' ∧ w = ⟨n', h, n0, ds⟩ ∧ t = TT 168 e' ∧ e' 0 = .slice (some ⟨q, 0, sp⟩) N c ∧ e' 1 = .int .i64 al ∧ e' 10 = .int .i64 i ∧ e' 11 = .int .i64 j2)
    ⟨j, n, e, rfl, hjN, hT.symm, Nat.le_refl _, rfl, rfl, e0, e1, ei, ej⟩ ?_
  clear e0 e1 ei ej hT
  rintro k t w ⟨j2, n', e, hk, hj2, hres, hnn, rfl, rfl, e0, e1, ei, ej⟩
  have rk : Row n0 h0 q d0 dk n' h ds := r.next hnn fun _ _ => rfl
  have hqd := rk.at_
  have hqn1 : q < n' + 1 := by have := rk.le; have := rk.lt; omega
  simp -dsimp (maxSteps := 4000000) (disch := first | omega | assumption | (simp only [FB, Nat.reduceAdd]; done) | (simp only [LB]; omega)) only [EB, ↓reduceIte, WB, Nat.reduceSub, Nat.reduceAdd, Int.reduceEq, Int.reduceNe, Int.reduceLT, Int.reduceLE, Int.reduceAdd, Int.reduceSub, Int.reduceMul, Int.reduceNeg, Int.reduceToNat, Nat.reduceEqDiff, Nat.reduceLT, Nat.reduceLeDiff, Nat.reduceMul, List.replicate, reduceCtorEq, TB, NB, MB, ]
  have ra := cU_at (d := dk) (i := al) (by omega)
  by_cases hij : i ≤ j2
  · obtain ⟨m, rfl⟩ : ∃ m, j2 = m + 1 := ⟨j2 - 1, by omega⟩
    have hc1 : ((m + 1 : Nat) : Int) - 1 = (m : Int) := by omega
    have rx := cU_at (d := dk) (i := m + 1) (by omega)
    cases hl : ltInt dk[m + 1]! dk[al]! with
    | false =>
      refine code_draw [(0, 1), (4, 5), (4, 8), (4, 9), (4, 10), (4, 11), (5, 8), (5, 9), (5, 10), (5, 11), (6, 8), (6, 9), (6, 10), (6, 11), (7, 8), (7, 9), (7, 10), (7, 11), (8, 9)] (by decide +kernel) (by decide +kernel) ?_
      rw [scan_down_go hij (by simp [hl])] at hres
      simp -dsimp (maxSteps := 4000000) (disch := first | omega | assumption | (simp only [FB, Nat.reduceAdd]; done) | (simp only [LB]; omega)) only [EB, ↓reduceIte, WB, Nat.reduceSub, Nat.reduceAdd, Int.reduceEq, Int.reduceNe, Int.reduceLT, Int.reduceLE, Int.reduceAdd, Int.reduceSub, Int.reduceMul, Int.reduceNeg, Int.reduceToNat, Nat.reduceEqDiff, Nat.reduceLT, Nat.reduceLeDiff, Nat.reduceMul, List.replicate, reduceCtorEq, RB, Nat.reduceEqDiff, TB, NB, MB, e0, e1, ei, ej, show (i : Int) ≤ ((m + 1 : Nat) : Int) by omega, show ((m + 1 : Nat) : Int) < N by omega, show (al : Int) < N by omega, indexAddr_slice und25 size27, load_one agg27, hqd, ra, rx, less46, hl, wrap64, hc1]
      refine ⟨m, by omega, m, _, _, rfl, by omega, hres, Nat.le_succ_of_le hnn, rfl, rfl, ?_⟩
      simp only [ups_at, ↓reduceIte, Nat.reduceEqDiff]
      exact ⟨e0, e1, ei, (by first | trivial | rfl | omega)⟩
    | true =>
      refine code_draw [(0, 1), (4, 5), (4, 8), (4, 9), (4, 10), (4, 11), (5, 8), (5, 9), (5, 10), (5, 11), (6, 8), (6, 9), (6, 10), (6, 11), (7, 8), (7, 9), (7, 10), (7, 11), (8, 9)] (by decide +kernel) (by decide +kernel) ?_
      rw [scan_down_stop (.inr (by simp [hl]))] at hres
      subst hres
      simp -dsimp (maxSteps := 4000000) (disch := first | omega | assumption | (simp only [FB, Nat.reduceAdd]; done) | (simp only [LB]; omega)) only [EB, ↓reduceIte, WB, Nat.reduceSub, Nat.reduceAdd, Int.reduceEq, Int.reduceNe, Int.reduceLT, Int.reduceLE, Int.reduceAdd, Int.reduceSub, Int.reduceMul, Int.reduceNeg, Int.reduceToNat, Nat.reduceEqDiff, Nat.reduceLT, Nat.reduceLeDiff, Nat.reduceMul, List.replicate, reduceCtorEq, RB, Nat.reduceEqDiff, TB, NB, MB, e0, e1, ei, ej, show (i : Int) ≤ ((m + 1 : Nat) : Int) by omega, show ((m + 1 : Nat) : Int) < N by omega, show (al : Int) < N by omega, indexAddr_slice und25 size27, load_one agg27, hqd, ra, rx, less46, hl, wrap64, hc1]
      refine hQ _ _ (Nat.le_succ_of_le hnn) rk.up ?_ ?_ ?_ ?_ <;> simp only [ups_at, ↓reduceIte, Nat.reduceEqDiff] <;> assumption
  · refine code_draw [(0, 1), (4, 5), (4, 8), (4, 9), (4, 10), (4, 11), (5, 8), (5, 9), (5, 10), (5, 11), (6, 8), (6, 9), (6, 10), (6, 11), (7, 8), (7, 9), (7, 10), (7, 11), (8, 9)] (by decide +kernel) (by decide +kernel) ?_
    rw [scan_down_stop (.inl hij)] at hres
    subst hres
    simp -dsimp (maxSteps := 4000000) (disch := first | omega | assumption | (simp only [FB, Nat.reduceAdd]; done) | (simp only [LB]; omega)) only [EB, ↓reduceIte, WB, Nat.reduceSub, Nat.reduceAdd, Int.reduceEq, Int.reduceNe, Int.reduceLT, Int.reduceLE, Int.reduceAdd, Int.reduceSub, Int.reduceMul, Int.reduceNeg, Int.reduceToNat, Nat.reduceEqDiff, Nat.reduceLT, Nat.reduceLeDiff, Nat.reduceMul, List.replicate, reduceCtorEq, RB, Nat.reduceEqDiff, TB, NB, MB, e0, e1, ei, ej, show ¬ (i : Int) ≤ j2 by omega]
    refine hQ _ _ (Nat.le_succ_of_le hnn) rk.up ?_ ?_ ?_ ?_ <;> simp only [ups_at, ↓reduceIte, Nat.reduceEqDiff] <;> assumption
theorem up69b (q N n0 c : Nat) (sp : Option Nat) (h0 : List (Nat × Blk)) (d0 : Array Int) (al i j : Nat) (hN : N ≤ 1000000) (hal : al < N) (hi1 : 1 ≤ i) (hiN : i ≤ N) (hjN : j < N) (dk : Array Int) (hdk : dk.size = N) (n : Nat) (h : List (Nat × Blk)) (ds : List Nat) (r : Row n0 h0 q d0 dk n h ds) (e : Nat → Value)
    (e0 : e 0 = .slice (some ⟨q, 0, sp⟩) N c) (e1 : e 1 = .int .i64 al) (ei : e 10 = .int .i64 i) (ej : e 11 = .int .i64 j) (Q : ExitA → List Value → List Nat → AW → Prop)
    (hQ : ∀ n' e', n ≤ n' → Row n0 h0 q d0 dk n' h ds → e' 0 = .slice (some ⟨q, 0, sp⟩) N c → e' 1 = .int .i64 al → e' 10 = .int .i64 ((scanUp (fun x => ltInt x dk[al]!) dk j i : Nat) : Int) → e' 11 = .int .i64 j → Q (.exit 6) (TT 168 e') [] ⟨n', h, n0, ds⟩) :
    WCode Try.prog GC 69 none (loopN Try.f69 3) (TT 168 e) [] ⟨n, h, n0, ds⟩ Q := by
  refine loop_at rfl ?_
  obtain ⟨T, hT⟩ : ∃ T : Nat, T = scanUp (fun x => ltInt x dk[al]!) dk j i := ⟨_, rfl⟩
  rw [← hT] at hQ
  refine loop_inv (fun k t w => ∃ (i2 n' : Nat), ∃ e', k = j + 1 - i2 ∧ i2 ≤ N ∧ (scanUp (fun x => ltInt x dk[al]!) dk j i2) = T ∧ n ≤ n' ∧ w = ⟨n', h, n0, ds⟩ ∧ t = TT 168 e' ∧ e' 0 = .slice (some ⟨q, 0, sp⟩) N c ∧ e' 1 = .int .i64 al ∧ e' 10 = .int .i64 i2 ∧ e' 11 = .int .i64 j)
    ⟨i, n, e, rfl, hiN, hT.symm, Nat.le_refl _, rfl, rfl, e0, e1, ei, ej⟩ ?_
  clear e0 e1 ei ej hT
  rintro k t w ⟨i2, n', e, hk, hi2, hres, hnn, rfl, rfl, e0, e1, ei, ej⟩
  have rk : Row n0 h0 q d0 dk n' h ds := r.next hnn fun _ _ => rfl
  have hqd := rk.at_
  have hqn1 : q < n' + 1 := by have := rk.le; have := rk.lt; omega
  simp -dsimp (maxSteps := 4000000) (disch := first | omega | assumption | (simp only [FB, Nat.reduceAdd]; done) | (simp only [LB]; omega)) only [EB, ↓reduceIte, WB, Nat.reduceSub, Nat.reduceAdd, Int.reduceEq, Int.reduceNe, Int.reduceLT, Int.reduceLE, Int.reduceAdd, Int.reduceSub, Int.reduceMul, Int.reduceNeg, Int.reduceToNat, Nat.reduceEqDiff, Nat.reduceLT, Nat.reduceLeDiff, Nat.reduceMul, List.replicate, reduceCtorEq, TB, NB, MB, ]
  have ra := cU_at (d := dk) (i := al) (by omega)
  by_cases hij : i2 ≤ j
  · have rx := cU_at (d := dk) (i := i2) (by omega)
    cases hl : ltInt dk[i2]! dk[al]! with
    | true =>
      refine code_draw [(0, 1), (4, 5), (4, 8), (4, 9), (4, 10), (4, 11), (5, 8), (5, 9), (5, 10), (5, 11), (6, 8), (6, 9), (6, 10), (6, 11), (7, 8), (7, 9), (7, 10), (7, 11), (8, 9)] (by decide +kernel) (by decide +kernel) ?_
      rw [scan_up_go hij (by simp [hl])] at hres
      simp -dsimp (maxSteps := 4000000) (disch := first | omega | assumption | (simp only [FB, Nat.reduceAdd]; done) | (simp only [LB]; omega)) only [EB, ↓reduceIte, WB, Nat.reduceSub, Nat.reduceAdd, Int.reduceEq, Int.reduceNe, Int.reduceLT, Int.reduceLE, Int.reduceAdd, Int.reduceSub, Int.reduceMul, Int.reduceNeg, Int.reduceToNat, Nat.reduceEqDiff, Nat.reduceLT, Nat.reduceLeDiff, Nat.reduceMul, List.replicate, reduceCtorEq, RB, Nat.reduceEqDiff, TB, NB, MB, e0, e1, ei, ej, show (i2 : Int) ≤ j by omega, show (i2 : Int) < N by omega, show (al : Int) < N by omega, indexAddr_slice und25 size27, load_one agg27, hqd, ra, rx, less46, hl, wrap64]
      refine ⟨j + 1 - (i2 + 1), by omega, i2 + 1, _, _, rfl, by omega, hres, Nat.le_succ_of_le hnn, rfl, rfl, ?_⟩
      simp only [ups_at, ↓reduceIte, Nat.reduceEqDiff]
      exact ⟨e0, e1, (by first | trivial | rfl | omega), ej⟩
    | false =>
      refine code_draw [(0, 1), (4, 5), (4, 8), (4, 9), (4, 10), (4, 11), (5, 8), (5, 9), (5, 10), (5, 11), (6, 8), (6, 9), (6, 10), (6, 11), (7, 8), (7, 9), (7, 10), (7, 11), (8, 9)] (by decide +kernel) (by decide +kernel) ?_
      rw [scan_up_stop (.inr (by simp [hl]))] at hres
      subst hres
      simp -dsimp (maxSteps := 4000000) (disch := first | omega | assumption | (simp only [FB, Nat.reduceAdd]; done) | (simp only [LB]; omega)) only [EB, ↓reduceIte, WB, Nat.reduceSub, Nat.reduceAdd, Int.reduceEq, Int.reduceNe, Int.reduceLT, Int.reduceLE, Int.reduceAdd, Int.reduceSub, Int.reduceMul, Int.reduceNeg, Int.reduceToNat, Nat.reduceEqDiff, Nat.reduceLT, Nat.reduceLeDiff, Nat.reduceMul, List.replicate, reduceCtorEq, RB, Nat.reduceEqDiff, TB, NB, MB, e0, e1, ei, ej, show (i2 : Int) ≤ j by omega, show (i2 : Int) < N by omega, show (al : Int) < N by omega, indexAddr_slice und25 size27, load_one agg27, hqd, ra, rx, less46, hl, wrap64]
      refine hQ _ _ (Nat.le_succ_of_le hnn) rk.up ?_ ?_ ?_ ?_ <;> simp only [ups_at, ↓reduceIte, Nat.reduceEqDiff] <;> assumption
  · refine code_draw [(0, 1), (4, 5), (4, 8), (4, 9), (4, 10), (4, 11), (5, 8), (5, 9), (5, 10), (5, 11), (6, 8), (6, 9), (6, 10), (6, 11), (7, 8), (7, 9), (7, 10), (7, 11), (8, 9)] (by decide +kernel) (by decide +kernel) ?_
    rw [scan_up_stop (.inl hij)] at hres
    subst hres
    simp -dsimp (maxSteps := 4000000) (disch := first | omega | assumption | (simp only [FB, Nat.reduceAdd]; done) | (simp only [LB]; omega)) only [EB, ↓reduceIte, WB, Nat.reduceSub, Nat.reduceAdd, Int.reduceEq, Int.reduceNe, Int.reduceLT, Int.reduceLE, Int.reduceAdd, Int.reduceSub, Int.reduceMul, Int.reduceNeg, Int.reduceToNat, Nat.reduceEqDiff, Nat.reduceLT, Nat.reduceLeDiff, Nat.reduceMul, List.replicate, reduceCtorEq, RB, Nat.reduceEqDiff, TB, NB, MB, e0, e1, ei, ej, show ¬ (i2 : Int) ≤ j by omega]
    refine hQ _ _ (Nat.le_succ_of_le hnn) rk.up ?_ ?_ ?_ ?_ <;> simp only [ups_at, ↓reduceIte, Nat.reduceEqDiff] <;> assumption
theorem dn69b (q N n0 c : Nat) (sp : Option Nat) (h0 : List (Nat × Blk)) (d0 : Array Int) (al i j : Nat) (hN : N ≤ 1000000) (hal : al < N) (hi1 : 1 ≤ i) (hiN : i ≤ N) (hjN : j < N) (dk : Array Int) (hdk : dk.size = N) (n : Nat) (h : List (Nat × Blk)) (ds : List Nat) (r : Row n0 h0 q d0 dk n h ds) (e : Nat → Value)
    (e0 : e 0 = .slice (some ⟨q, 0, sp⟩) N c) (e1 : e 1 = .int .i64 al) (ei : e 10 = .int .i64 i) (ej : e 11 = .int .i64 j) (Q : ExitA → List Value → List Nat → AW → Prop)
    (hQ : ∀ n' e', n ≤ n' → Row n0 h0 q d0 dk n' h ds → e' 0 = .slice (some ⟨q, 0, sp⟩) N c → e' 1 = .int .i64 al → e' 10 = .int .i64 i → e' 11 = .int .i64 ((scanDown (fun x => !ltInt x dk[al]!) dk i j : Nat) : Int) → Q (.exit 8) (TT 168 e') [] ⟨n', h, n0, ds⟩) :
    WCode Try.prog GC 69 none (loopN Try.f69 4) (TT 168 e) [] ⟨n, h, n0, ds⟩ Q := by
  refine loop_at rfl ?_
  obtain ⟨T, hT⟩ : ∃ T : Nat, T = scanDown (fun x => !ltInt x dk[al]!) dk i j := ⟨_, rfl⟩
  rw [← hT] at hQ
  refine loop_inv (fun k t w => ∃ (j2 n' : Nat), ∃ e', k = j2 ∧ j2 < N ∧ (scanDown (fun x => !ltInt x dk[al]!) dk i j2) = T ∧ n ≤ n' ∧ w = ⟨n', h, n0, ds⟩ ∧ t = TT 168 e' ∧ e' 0 = .slice (some ⟨q, 0, sp⟩) N c ∧ e' 1 = .int .i64 al ∧ e' 10 = .int .i64 i ∧ e' 11 = .int .i64 j2)
    ⟨j, n, e, rfl, hjN, hT.symm, Nat.le_refl _, rfl, rfl, e0, e1, ei, ej⟩ ?_
  clear e0 e1 ei ej hT
  rintro k t w ⟨j2, n', e, hk, hj2, hres, hnn, rfl, rfl, e0, e1, ei, ej⟩
  have rk : Row n0 h0 q d0 dk n' h ds := r.next hnn fun _ _ => rfl
  have hqd := rk.at_
  have hqn1 : q < n' + 1 := by have := rk.le; have := rk.lt; omega
  simp -dsimp (maxSteps := 4000000) (disch := first | omega | assumption | (simp only [FB, Nat.reduceAdd]; done) | (simp only [LB]; omega)) only [EB, ↓reduceIte, WB, Nat.reduceSub, Nat.reduceAdd, Int.reduceEq, Int.reduceNe, Int.reduceLT, Int.reduceLE, Int.reduceAdd, Int.reduceSub, Int.reduceMul, Int.reduceNeg, Int.reduceToNat, Nat.reduceEqDiff, Nat.reduceLT, Nat.reduceLeDiff, Nat.reduceMul, List.replicate, reduceCtorEq, TB, NB, MB, ]
  have ra := cU_at (d := dk) (i := al) (by omega)
  by_cases hij : i ≤ j2
  · obtain ⟨m, rfl⟩ : ∃ m, j2 = m + 1 := ⟨j2 - 1, by omega⟩
    have hc1 : ((m + 1 : Nat) : Int) - 1 = (m : Int) := by omega
    have rx := cU_at (d := dk) (i := m + 1) (by omega)
    cases hl : ltInt dk[m + 1]! dk[al]! with
    | false =>
      refine code_draw [(0, 1), (4, 5), (4, 8), (4, 9), (4, 10), (4, 11), (5, 8), (5, 9), (5, 10), (5, 11), (6, 8), (6, 9), (6, 10), (6, 11), (7, 8), (7, 9), (7, 10), (7, 11), (8, 9)] (by decide +kernel) (by decide +kernel) ?_
      rw [scan_down_go hij (by simp [hl])] at hres
      simp -dsimp (maxSteps := 4000000) (disch := first | omega | assumption | (simp only [FB, Nat.reduceAdd]; done) | (simp only [LB]; omega)) only [EB, ↓reduceIte, WB, Nat.reduceSub, Nat.reduceAdd, Int.reduceEq, Int.reduceNe, Int.reduceLT, Int.reduceLE, Int.reduceAdd, Int.reduceSub, Int.reduceMul, Int.reduceNeg, Int.reduceToNat, Nat.reduceEqDiff, Nat.reduceLT, Nat.reduceLeDiff, Nat.reduceMul, List.replicate, reduceCtorEq, RB, Nat.reduceEqDiff, TB, NB, MB, e0, e1, ei, ej, show (i : Int) ≤ ((m + 1 : Nat) : Int) by omega, show ((m + 1 : Nat) : Int) < N by omega, show (al : Int) < N by omega, indexAddr_slice und25 size27, load_one agg27, hqd, ra, rx, less46, hl, wrap64, hc1]
      refine ⟨m, by omega, m, _, _, rfl, by omega, hres, Nat.le_succ_of_le hnn, rfl, rfl, ?_⟩
      simp only [ups_at, ↓reduceIte, Nat.reduceEqDiff]
      exact ⟨e0, e1, ei, (by first | trivial | rfl | omega)⟩
    | true =>
      refine code_draw [(0, 1), (4, 5), (4, 8), (4, 9), (4, 10), (4, 11), (5, 8), (5, 9), (5, 10), (5, 11), (6, 8), (6, 9), (6, 10), (6, 11), (7, 8), (7, 9), (7, 10), (7, 11), (8, 9)] (by decide +kernel) (by decide +kernel) ?_
      rw [scan_down_stop (.inr (by simp [hl]))] at hres
      subst hres
      simp -dsimp (maxSteps := 4000000) (disch := first | omega | assumption | (simp only [FB, Nat.reduceAdd]; done) | (simp only [LB]; omega)) only [EB, ↓reduceIte, WB, Nat.reduceSub, Nat.reduceAdd, Int.reduceEq, Int.reduceNe, Int.reduceLT, Int.reduceLE, Int.reduceAdd, Int.reduceSub, Int.reduceMul, Int.reduceNeg, Int.reduceToNat, Nat.reduceEqDiff, Nat.reduceLT, Nat.reduceLeDiff, Nat.reduceMul, List.replicate, reduceCtorEq, RB, Nat.reduceEqDiff, TB, NB, MB, e0, e1, ei, ej, show (i : Int) ≤ ((m + 1 : Nat) : Int) by omega, show ((m + 1 : Nat) : Int) < N by omega, show (al : Int) < N by omega, indexAddr_slice und25 size27, load_one agg27, hqd, ra, rx, less46, hl, wrap64, hc1]
      refine hQ _ _ (Nat.le_succ_of_le hnn) rk.up ?_ ?_ ?_ ?_ <;> simp only [ups_at, ↓reduceIte, Nat.reduceEqDiff] <;> assumption
  · refine code_draw [(0, 1), (4, 5), (4, 8), (4, 9), (4, 10), (4, 11), (5, 8), (5, 9), (5, 10), (5, 11), (6, 8), (6, 9), (6, 10), (6, 11), (7, 8), (7, 9), (7, 10), (7, 11), (8, 9)] (by decide +kernel) (by decide +kernel) ?_
    rw [scan_down_stop (.inl hij)] at hres
    subst hres
    simp -dsimp (maxSteps := 4000000) (disch := first | omega | assumption | (simp only [FB, Nat.reduceAdd]; done) | (simp only [LB]; omega)) only [EB, ↓reduceIte, WB, Nat.reduceSub, Nat.reduceAdd, Int.reduceEq, Int.reduceNe, Int.reduceLT, Int.reduceLE, Int.reduceAdd, Int.reduceSub, Int.reduceMul, Int.reduceNeg, Int.reduceToNat, Nat.reduceEqDiff, Nat.reduceLT, Nat.reduceLeDiff, Nat.reduceMul, List.replicate, reduceCtorEq, RB, Nat.reduceEqDiff, TB, NB, MB, e0, e1, ei, ej, show ¬ (i : Int) ≤ j2 by omega]
    refine hQ _ _ (Nat.le_succ_of_le hnn) rk.up ?_ ?_ ?_ ?_ <;> simp only [ups_at, ↓reduceIte, Nat.reduceEqDiff] <;> assumption
end Go.Proofs.YtlbmjpmonaekgaaAM
