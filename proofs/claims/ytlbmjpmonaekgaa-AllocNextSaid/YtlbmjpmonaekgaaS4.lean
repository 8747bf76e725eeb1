/- Chapter 14: a row parted. -/
import Derived.Test.YtlbmjpmonaekgaaS3
import Derived.Sort.LotC
namespace Go.Proofs.YtlbmjpmonaekgaaAM
open Go Go.RowKit Go.Sort
set_option linter.unusedVariables false
set_option linter.unusedSimpArgs false
set_option maxRecDepth 10000
set_option maxHeartbeats 4000000

theorem parteq68 (q : Nat) (sp : Option Nat) (c : Nat) (d : Array Int) (lo hi pv N : Nat) (hN : d.size = N) (hlo : lo ≤ pv) (hpv : pv < hi) (hhi : hi ≤ N) (hsz : N ≤ 1000000) (a : AW) (hq : look q a.heap = some (.cells (cU d) true)) (hqn : q < a.next) (K : Value → AW → Prop)
    (hK : ∀ a', Aft a a' q d (partitionEqual ltInt d lo hi pv).2 → (partitionEqual ltInt d lo hi pv).2.size = N → K (.int .i64 ((partitionEqual ltInt d lo hi pv).1 : Nat)) a') : WCall Try.prog GC 68 [.slice (some ⟨q, 0, sp⟩) N c, .int .i64 lo, .int .i64 hi, .int .i64 pv] a K := by
  rw [call_env Try.func68 rfl Try.ntmps68 rfl rfl (by simp)]
  have r0 : Row a.next a.heap q d d a.next a.heap [] := .start hq hqn
  have hso0 := r0.soil
  have hqn1 : q < a.next + 1 := by omega
  have hlen0 := cU_len d
  have rl := cU_at (d := d) (i := lo) (by omega)
  have rp := cU_at (d := d) (i := pv) (by omega)
  simp -dsimp (maxSteps := 4000000) (disch := first | omega | assumption | (simp only [FB, Nat.reduceAdd]; done) | (simp only [LB]; omega)) only [EB, ↓reduceIte, WB, Nat.reduceSub, Nat.reduceAdd, Int.reduceEq, Int.reduceNe, Int.reduceLT, Int.reduceLE, Int.reduceAdd, Int.reduceSub, Int.reduceMul, Int.reduceNeg, Int.reduceToNat, Nat.reduceEqDiff, Nat.reduceLT, Nat.reduceLeDiff, Nat.reduceMul, List.replicate, reduceCtorEq, TB, NB, MB, ]
  refine code_draw [(0, 1), (0, 2), (0, 3), (0, 4), (0, 5), (0, 6), (0, 7), (0, 8), (0, 9), (0, 10), (0, 11), (1, 2), (1, 3), (1, 4), (1, 5), (1, 6), (1, 7), (1, 8), (1, 9), (1, 10), (1, 11), (2, 3), (2, 4), (2, 5), (2, 6), (2, 7), (2, 8), (2, 9), (2, 10), (2, 11), (2, 12), (2, 13), (3, 4), (3, 5), (3, 6), (3, 7), (3, 8), (3, 9), (3, 10), (3, 11), (3, 12), (3, 13), (4, 5), (4, 8), (4, 9), (4, 10), (4, 11), (5, 8), (5, 9), (5, 10), (5, 11), (6, 8), (6, 9), (6, 10), (6, 11), (7, 8), (7, 9), (7, 10), (7, 11), (8, 9)] (by decide +kernel) (by decide +kernel) ?_
  simp -dsimp (maxSteps := 4000000) (disch := first | omega | assumption | (simp only [FB, Nat.reduceAdd]; done) | (simp only [LB]; omega)) only [EB, ↓reduceIte, WB, Nat.reduceSub, Nat.reduceAdd, Int.reduceEq, Int.reduceNe, Int.reduceLT, Int.reduceLE, Int.reduceAdd, Int.reduceSub, Int.reduceMul, Int.reduceNeg, Int.reduceToNat, Nat.reduceEqDiff, Nat.reduceLT, Nat.reduceLeDiff, Nat.reduceMul, List.replicate, reduceCtorEq, RB, Nat.reduceEqDiff, TB, NB, MB, show (lo : Int) < N by omega, show (pv : Int) < N by omega, indexAddr_slice und25 size27, load_one agg27, hq, rl, rp, write_soil, hso0, hqn1, wrap64]
  rw [swap_cells (by omega) (by omega), put_twice, soil_swap hqn hqn1 hso0]
  have r1 : Row a.next a.heap q d (swp d lo pv) (a.next + 1) (putAt q (.cells (cU (swp d lo pv)) true) a.heap) [q] := r0.up.put rfl
  obtain ⟨T, hT⟩ : ∃ T, T = partitionEqual ltInt d lo hi pv := ⟨_, rfl⟩
  rw [← hT] at hK
  refine loop_inv (fun k t w => ∃ (i j n : Nat) (dk : Array Int) (h : List (Nat × Blk)) (ds : List Nat), ∃ e, k = j + 1 - i ∧ 1 ≤ i ∧ i ≤ N ∧ j < N ∧ dk.size = N ∧ partEqLoop ltInt lo i j dk = T ∧ w = ⟨n, h, a.next, ds⟩ ∧ Row a.next a.heap q d dk n h ds ∧ t = TT 84 e ∧ e 0 = .slice (some ⟨q, 0, sp⟩) N c ∧ e 1 = .int .i64 lo ∧ e 9 = .int .i64 i ∧ e 10 = .int .i64 j)
    ⟨lo + 1, hi - 1, _, _, _, _, _, rfl, by omega, by omega, by omega, by rw [size_swp]; exact hN, hT.symm, rfl, r1, rfl, rfl, rfl, ?_, ?_⟩ ?_
  · simp only [ups_at, ↓reduceIte, Nat.reduceEqDiff]; rfl
  · simp only [ups_at, ↓reduceIte, Nat.reduceEqDiff]; congr 1; omega
  rintro k t w ⟨i, j, n, dk, h, ds, e, rfl, hi1, hiN, hjN, hdk, hres, rfl, r, rfl, e0, e1, e9, e10⟩
  rw [partEqLoop_eq] at hres
  simp -dsimp (maxSteps := 4000000) (disch := first | omega | assumption | (simp only [FB, Nat.reduceAdd]; done) | (simp only [LB]; omega)) only [EB, ↓reduceIte, WB, Nat.reduceSub, Nat.reduceAdd, Int.reduceEq, Int.reduceNe, Int.reduceLT, Int.reduceLE, Int.reduceAdd, Int.reduceSub, Int.reduceMul, Int.reduceNeg, Int.reduceToNat, Nat.reduceEqDiff, Nat.reduceLT, Nat.reduceLeDiff, Nat.reduceMul, List.replicate, reduceCtorEq, TB, NB, MB, ]
  refine up68 q N a.next c sp a.heap d lo i j hsz (by omega) hi1 hiN hjN dk hdk n h ds r e e0 e1 e9 e10 _ fun n1 f hn1 rk1 f0 f1 f9 f10 => ?_
  obtain ⟨u1, u2, -, -⟩ := scanUp_spec (fun x => !ltInt dk[lo]! x) dk j _ i rfl
  have u3 : scanUp (fun x => !ltInt dk[lo]! x) dk j i ≤ N := by
    rcases Nat.lt_or_ge (j + 1) i with h1 | h1
    · rw [scan_up_stop (.inl (by omega))]; exact hiN
    · have := u2 h1; omega
  obtain ⟨i2, hi2⟩ : ∃ i2, i2 = scanUp (fun x => !ltInt dk[lo]! x) dk j i := ⟨_, rfl⟩
  rw [← hi2] at hres f9 u1 u3
  simp -dsimp (maxSteps := 4000000) (disch := first | omega | assumption | (simp only [FB, Nat.reduceAdd]; done) | (simp only [LB]; omega)) only [EB, ↓reduceIte, WB, Nat.reduceSub, Nat.reduceAdd, Int.reduceEq, Int.reduceNe, Int.reduceLT, Int.reduceLE, Int.reduceAdd, Int.reduceSub, Int.reduceMul, Int.reduceNeg, Int.reduceToNat, Nat.reduceEqDiff, Nat.reduceLT, Nat.reduceLeDiff, Nat.reduceMul, List.replicate, reduceCtorEq, TB, NB, MB, f0, f1, f9, f10]
  refine dn68 q N a.next c sp a.heap d lo i2 j hsz (by omega) (by omega) u3 hjN dk hdk n1 h ds rk1 _ ?_ ?_ ?_ ?_ _ fun n2 g hn2 rk2 g0 g1 g9 g10 => ?_ <;> first | assumption | (simp only [ups_at, ↓reduceIte, Nat.reduceEqDiff] <;> assumption) | skip
  have v1 := scanDown_le (fun x => ltInt dk[lo]! x) dk i2 j
  obtain ⟨j2, hj2⟩ : ∃ j2, j2 = scanDown (fun x => ltInt dk[lo]! x) dk i2 j := ⟨_, rfl⟩
  rw [← hj2] at hres g10 v1
  have hqd := rk2.at_
  have hso := rk2.soil
  have hqn2 : q < n2 + 1 := by have := rk2.le; omega
  have hlen := cU_len dk
  by_cases hgt : j2 < i2
  · rw [if_pos hgt] at hres
    subst hres
    simp -dsimp (maxSteps := 4000000) (disch := first | omega | assumption | (simp only [FB, Nat.reduceAdd]; done) | (simp only [LB]; omega)) only [EB, ↓reduceIte, WB, Nat.reduceSub, Nat.reduceAdd, Int.reduceEq, Int.reduceNe, Int.reduceLT, Int.reduceLE, Int.reduceAdd, Int.reduceSub, Int.reduceMul, Int.reduceNeg, Int.reduceToNat, Nat.reduceEqDiff, Nat.reduceLT, Nat.reduceLeDiff, Nat.reduceMul, List.replicate, reduceCtorEq, TB, NB, MB, g0, g1, g9, g10, show (j2 : Int) < i2 by omega, onExit_other (i := 1) (j := 0) rfl]
    obtain ⟨a', ea, ha⟩ := rk2.leave (bs := a.base) (ds0 := a.dirty) (vs := [.int .i64 i2]) rfl
    rw [ea]
    exact hK a' ha hdk
  · rw [if_neg hgt] at hres
    have ri := cU_at (d := dk) (i := i2) (by omega)
    have rj := cU_at (d := dk) (i := j2) (by omega)
    have hc1 : (j2 : Int) - 1 = ((j2 - 1 : Nat) : Int) := by omega
    simp -dsimp (maxSteps := 4000000) (disch := first | omega | assumption | (simp only [FB, Nat.reduceAdd]; done) | (simp only [LB]; omega)) only [EB, ↓reduceIte, WB, Nat.reduceSub, Nat.reduceAdd, Int.reduceEq, Int.reduceNe, Int.reduceLT, Int.reduceLE, Int.reduceAdd, Int.reduceSub, Int.reduceMul, Int.reduceNeg, Int.reduceToNat, Nat.reduceEqDiff, Nat.reduceLT, Nat.reduceLeDiff, Nat.reduceMul, List.replicate, reduceCtorEq, TB, NB, MB, g0, g1, g9, g10, show ¬ (j2 : Int) < i2 by omega]
    refine code_draw [(0, 1), (0, 2), (0, 3), (0, 4), (0, 5), (0, 6), (0, 7), (0, 8), (0, 9), (0, 10), (0, 11), (1, 2), (1, 3), (1, 4), (1, 5), (1, 6), (1, 7), (1, 8), (1, 9), (1, 10), (1, 11), (2, 3), (2, 4), (2, 5), (2, 6), (2, 7), (2, 8), (2, 9), (2, 10), (2, 11), (2, 12), (2, 13), (3, 4), (3, 5), (3, 6), (3, 7), (3, 8), (3, 9), (3, 10), (3, 11), (3, 12), (3, 13), (4, 5), (4, 8), (4, 9), (4, 10), (4, 11), (5, 8), (5, 9), (5, 10), (5, 11), (6, 8), (6, 9), (6, 10), (6, 11), (7, 8), (7, 9), (7, 10), (7, 11), (8, 9)] (by decide +kernel) (by decide +kernel) ?_
    simp -dsimp (maxSteps := 4000000) (disch := first | omega | assumption | (simp only [FB, Nat.reduceAdd]; done) | (simp only [LB]; omega)) only [EB, ↓reduceIte, WB, Nat.reduceSub, Nat.reduceAdd, Int.reduceEq, Int.reduceNe, Int.reduceLT, Int.reduceLE, Int.reduceAdd, Int.reduceSub, Int.reduceMul, Int.reduceNeg, Int.reduceToNat, Nat.reduceEqDiff, Nat.reduceLT, Nat.reduceLeDiff, Nat.reduceMul, List.replicate, reduceCtorEq, RB, Nat.reduceEqDiff, TB, NB, MB, g0, g1, g9, g10, show (i2 : Int) < N by omega, show (j2 : Int) < N by omega, indexAddr_slice und25 size27, load_one agg27, hqd, ri, rj, write_soil, hso, hqn2, wrap64, hc1]
    rw [swap_cells (by omega) (by omega), put_twice, soil_swap rk2.lt hqn2 hso]
    refine ⟨(j2 - 1) + 1 - (i2 + 1), by omega, i2 + 1, j2 - 1, _, swp dk i2 j2, _, [q], _, rfl, by omega, by omega, by omega, by rw [size_swp]; exact hdk, hres, rfl, rk2.up.put rfl, rfl, ?_⟩
    simp only [ups_at, ↓reduceIte, Nat.reduceEqDiff]
    exact ⟨g0, g1, (by first | trivial | rfl | omega), (by first | trivial | rfl | omega)⟩
theorem part69 (q : Nat) (sp : Option Nat) (c : Nat) (d : Array Int) (lo hi pv N : Nat) (hN : d.size = N) (hlo : lo ≤ pv) (hpv : pv < hi) (hhi : hi ≤ N) (hsz : N ≤ 1000000) (a : AW) (hq : look q a.heap = some (.cells (cU d) true)) (hqn : q < a.next) (K : Value → AW → Prop)
    (hK : ∀ a' ap, Aft a a' q d (partition ltInt d lo hi pv).2.2 → (partition ltInt d lo hi pv).2.2.size = N → K (.tuple #[.int .i64 ((partition ltInt d lo hi pv).1 : Nat), .bool ap]) a') : WCall Try.prog GC 69 [.slice (some ⟨q, 0, sp⟩) N c, .int .i64 lo, .int .i64 hi, .int .i64 pv] a K := by
  rw [call_env Try.func69 rfl Try.ntmps69 rfl rfl (by simp)]
  have r0 : Row a.next a.heap q d d a.next a.heap [] := .start hq hqn
  have hso0 := r0.soil
  have hqn1 : q < a.next + 1 := by omega
  have hlen0 := cU_len d
  have rl := cU_at (d := d) (i := lo) (by omega)
  have rp := cU_at (d := d) (i := pv) (by omega)
  simp -dsimp (maxSteps := 4000000) (disch := first | omega | assumption | (simp only [FB, Nat.reduceAdd]; done) | (simp only [LB]; omega)) only [EB, ↓reduceIte, WB, Nat.reduceSub, Nat.reduceAdd, Int.reduceEq, Int.reduceNe, Int.reduceLT, Int.reduceLE, Int.reduceAdd, Int.reduceSub, Int.reduceMul, Int.reduceNeg, Int.reduceToNat, Nat.reduceEqDiff, Nat.reduceLT, Nat.reduceLeDiff, Nat.reduceMul, List.replicate, reduceCtorEq, TB, NB, MB, ]
  refine code_draw [(0, 1), (0, 2), (0, 3), (0, 4), (0, 5), (0, 6), (0, 7), (0, 8), (0, 9), (0, 10), (0, 11), (1, 2), (1, 3), (1, 4), (1, 5), (1, 6), (1, 7), (1, 8), (1, 9), (1, 10), (1, 11), (2, 3), (2, 4), (2, 5), (2, 6), (2, 7), (2, 8), (2, 9), (2, 10), (2, 11), (2, 12), (2, 13), (3, 4), (3, 5), (3, 6), (3, 7), (3, 8), (3, 9), (3, 10), (3, 11), (3, 12), (3, 13), (4, 5), (4, 8), (4, 9), (4, 10), (4, 11), (5, 8), (5, 9), (5, 10), (5, 11), (6, 8), (6, 9), (6, 10), (6, 11), (7, 8), (7, 9), (7, 10), (7, 11), (8, 9)] (by decide +kernel) (by decide +kernel) ?_
  simp -dsimp (maxSteps := 4000000) (disch := first | omega | assumption | (simp only [FB, Nat.reduceAdd]; done) | (simp only [LB]; omega)) only [EB, ↓reduceIte, WB, Nat.reduceSub, Nat.reduceAdd, Int.reduceEq, Int.reduceNe, Int.reduceLT, Int.reduceLE, Int.reduceAdd, Int.reduceSub, Int.reduceMul, Int.reduceNeg, Int.reduceToNat, Nat.reduceEqDiff, Nat.reduceLT, Nat.reduceLeDiff, Nat.reduceMul, List.replicate, reduceCtorEq, RB, Nat.reduceEqDiff, TB, NB, MB, show (lo : Int) < N by omega, show (pv : Int) < N by omega, indexAddr_slice und25 size27, load_one agg27, hq, rl, rp, write_soil, hso0, hqn1, wrap64]
  rw [swap_cells (by omega) (by omega), put_twice, soil_swap hqn hqn1 hso0]
  have r1 : Row a.next a.heap q d (swp d lo pv) (a.next + 1) (putAt q (.cells (cU (swp d lo pv)) true) a.heap) [q] := r0.up.put rfl
  rw [partition_fst, partition_arr] at hK
  obtain ⟨D, hD⟩ : ∃ D, D = swp d lo pv := ⟨_, rfl⟩
  rw [← hD] at r1 hK ⊢
  have hDs : D.size = N := by rw [hD, size_swp]; exact hN
  obtain ⟨T, hT⟩ : ∃ T, T = partLoop ltInt lo (lo + 1) (hi - 1) D := ⟨_, rfl⟩
  rw [← hT] at hK
  have hT' := hT.symm
  rw [partLoop_eq] at hT'
  have hce : (hi : Int) - 1 = ((hi - 1 : Nat) : Int) := by omega
  refine up69a q N a.next c sp a.heap d lo (lo + 1) (hi - 1) hsz (by omega) (by omega) (by omega) (by omega) D hDs _ _ _ r1 _ ?_ ?_ ?_ ?_ _ fun n1 f hn1 rk1 f0 f1 f9 f10 => ?_
  · simp only [ups_at, ↓reduceIte, Nat.reduceEqDiff]; rfl
  · simp only [ups_at, ↓reduceIte, Nat.reduceEqDiff]; rfl
  · simp only [ups_at, ↓reduceIte, Nat.reduceEqDiff]; rfl
  · simp only [ups_at, ↓reduceIte, Nat.reduceEqDiff]; rw [← hce]
  obtain ⟨u1, u2, -, -⟩ := scanUp_spec (fun x => ltInt x D[lo]!) D (hi - 1) _ (lo + 1) rfl
  have u3 := u2 (by omega)
  obtain ⟨i2, hi2⟩ : ∃ i2, i2 = scanUp (fun x => ltInt x D[lo]!) D (hi - 1) (lo + 1) := ⟨_, rfl⟩
  rw [← hi2] at hT' f9 u1 u3
  simp -dsimp (maxSteps := 4000000) (disch := first | omega | assumption | (simp only [FB, Nat.reduceAdd]; done) | (simp only [LB]; omega)) only [EB, ↓reduceIte, WB, Nat.reduceSub, Nat.reduceAdd, Int.reduceEq, Int.reduceNe, Int.reduceLT, Int.reduceLE, Int.reduceAdd, Int.reduceSub, Int.reduceMul, Int.reduceNeg, Int.reduceToNat, Nat.reduceEqDiff, Nat.reduceLT, Nat.reduceLeDiff, Nat.reduceMul, List.replicate, reduceCtorEq, TB, NB, MB, f0, f1, f9, f10]
  refine dn69a q N a.next c sp a.heap d lo i2 (hi - 1) hsz (by omega) (by omega) (by omega) (by omega) D hDs n1 _ _ rk1 _ ?_ ?_ ?_ ?_ _ fun n2 g hn2 rk2 g0 g1 g9 g10 => ?_ <;> first | assumption | (simp only [ups_at, ↓reduceIte, Nat.reduceEqDiff] <;> assumption) | skip
  obtain ⟨v1, v2, -, -⟩ := scanDown_spec (fun x => !ltInt x D[lo]!) D i2 (hi - 1)
  obtain ⟨j2, hj2⟩ : ∃ j2, j2 = scanDown (fun x => !ltInt x D[lo]!) D i2 (hi - 1) := ⟨_, rfl⟩
  rw [← hj2] at hT' g10 v1 v2
  have hqd := rk2.at_
  have hso := rk2.soil
  have hqn2 : q < n2 + 1 := by have := rk2.le; omega
  have hlen := cU_len D
  have rl2 := cU_at (d := D) (i := lo) (by omega)
  have rj := cU_at (d := D) (i := j2) (by omega)
  by_cases hgt : j2 < i2
  · rw [if_pos hgt] at hT'
    subst hT'
    simp -dsimp (maxSteps := 4000000) (disch := first | omega | assumption | (simp only [FB, Nat.reduceAdd]; done) | (simp only [LB]; omega)) only [EB, ↓reduceIte, WB, Nat.reduceSub, Nat.reduceAdd, Int.reduceEq, Int.reduceNe, Int.reduceLT, Int.reduceLE, Int.reduceAdd, Int.reduceSub, Int.reduceMul, Int.reduceNeg, Int.reduceToNat, Nat.reduceEqDiff, Nat.reduceLT, Nat.reduceLeDiff, Nat.reduceMul, List.replicate, reduceCtorEq, TB, NB, MB, g0, g1, g9, g10, show (j2 : Int) < i2 by omega]
    refine code_draw [(0, 1), (0, 2), (0, 3), (0, 4), (0, 5), (0, 6), (0, 7), (0, 8), (0, 9), (0, 10), (0, 11), (1, 2), (1, 3), (1, 4), (1, 5), (1, 6), (1, 7), (1, 8), (1, 9), (1, 10), (1, 11), (2, 3), (2, 4), (2, 5), (2, 6), (2, 7), (2, 8), (2, 9), (2, 10), (2, 11), (2, 12), (2, 13), (3, 4), (3, 5), (3, 6), (3, 7), (3, 8), (3, 9), (3, 10), (3, 11), (3, 12), (3, 13), (4, 5), (4, 8), (4, 9), (4, 10), (4, 11), (5, 8), (5, 9), (5, 10), (5, 11), (6, 8), (6, 9), (6, 10), (6, 11), (7, 8), (7, 9), (7, 10), (7, 11), (8, 9)] (by decide +kernel) (by decide +kernel) ?_
    simp -dsimp (maxSteps := 4000000) (disch := first | omega | assumption | (simp only [FB, Nat.reduceAdd]; done) | (simp only [LB]; omega)) only [EB, ↓reduceIte, WB, Nat.reduceSub, Nat.reduceAdd, Int.reduceEq, Int.reduceNe, Int.reduceLT, Int.reduceLE, Int.reduceAdd, Int.reduceSub, Int.reduceMul, Int.reduceNeg, Int.reduceToNat, Nat.reduceEqDiff, Nat.reduceLT, Nat.reduceLeDiff, Nat.reduceMul, List.replicate, reduceCtorEq, RB, Nat.reduceEqDiff, TB, NB, MB, g0, g1, g9, g10, show (lo : Int) < N by omega, show (j2 : Int) < N by omega, indexAddr_slice und25 size27, load_one agg27, hqd, rl2, rj, write_soil, hso, hqn2, wrap64]
    rw [swap_cells (by omega) (by omega), put_twice, soil_swap rk2.lt hqn2 hso]
    have r3 : Row a.next a.heap q d (swp D j2 lo) (n2 + 1) _ [q] := rk2.up.put rfl
    obtain ⟨a', ea, ha⟩ := r3.leave (bs := a.base) (ds0 := a.dirty) (vs := [.int .i64 j2, .bool true]) rfl
    rw [ea]
    exact hK a' _ ha (by rw [size_swp]; exact hDs)
  · rw [if_neg hgt] at hT'
    have ri := cU_at (d := D) (i := i2) (by omega)
    have hc1 : (j2 : Int) - 1 = ((j2 - 1 : Nat) : Int) := by omega
    simp -dsimp (maxSteps := 4000000) (disch := first | omega | assumption | (simp only [FB, Nat.reduceAdd]; done) | (simp only [LB]; omega)) only [EB, ↓reduceIte, WB, Nat.reduceSub, Nat.reduceAdd, Int.reduceEq, Int.reduceNe, Int.reduceLT, Int.reduceLE, Int.reduceAdd, Int.reduceSub, Int.reduceMul, Int.reduceNeg, Int.reduceToNat, Nat.reduceEqDiff, Nat.reduceLT, Nat.reduceLeDiff, Nat.reduceMul, List.replicate, reduceCtorEq, TB, NB, MB, g0, g1, g9, g10, show ¬ (j2 : Int) < i2 by omega]
    refine code_draw [(0, 1), (0, 2), (0, 3), (0, 4), (0, 5), (0, 6), (0, 7), (0, 8), (0, 9), (0, 10), (0, 11), (1, 2), (1, 3), (1, 4), (1, 5), (1, 6), (1, 7), (1, 8), (1, 9), (1, 10), (1, 11), (2, 3), (2, 4), (2, 5), (2, 6), (2, 7), (2, 8), (2, 9), (2, 10), (2, 11), (2, 12), (2, 13), (3, 4), (3, 5), (3, 6), (3, 7), (3, 8), (3, 9), (3, 10), (3, 11), (3, 12), (3, 13), (4, 5), (4, 8), (4, 9), (4, 10), (4, 11), (5, 8), (5, 9), (5, 10), (5, 11), (6, 8), (6, 9), (6, 10), (6, 11), (7, 8), (7, 9), (7, 10), (7, 11), (8, 9)] (by decide +kernel) (by decide +kernel) ?_
    simp -dsimp (maxSteps := 4000000) (disch := first | omega | assumption | (simp only [FB, Nat.reduceAdd]; done) | (simp only [LB]; omega)) only [EB, ↓reduceIte, WB, Nat.reduceSub, Nat.reduceAdd, Int.reduceEq, Int.reduceNe, Int.reduceLT, Int.reduceLE, Int.reduceAdd, Int.reduceSub, Int.reduceMul, Int.reduceNeg, Int.reduceToNat, Nat.reduceEqDiff, Nat.reduceLT, Nat.reduceLeDiff, Nat.reduceMul, List.replicate, reduceCtorEq, RB, Nat.reduceEqDiff, TB, NB, MB, g0, g1, g9, g10, show (i2 : Int) < N by omega, show (j2 : Int) < N by omega, indexAddr_slice und25 size27, load_one agg27, hqd, ri, rj, write_soil, hso, hqn2, wrap64, hc1]
    rw [swap_cells (by omega) (by omega), put_twice, soil_swap rk2.lt hqn2 hso]
    have r3 : Row a.next a.heap q d (swp D i2 j2) (n2 + 1) (putAt q (.cells (cU (swp D i2 j2)) true) _) [q] := rk2.up.put rfl
    have hlt1 : lo < hi := by omega
    refine loop_inv (fun k t w => ∃ (i j n : Nat) (dk : Array Int) (h : List (Nat × Blk)) (ds : List Nat), ∃ e, k = j + 1 - i ∧ lo < i ∧ i ≤ N ∧ j < N ∧ lo ≤ j ∧ i ≤ j + 1 + 1 ∧ dk.size = N ∧ partLoop ltInt lo i j dk = T ∧ w = ⟨n, h, a.next, ds⟩ ∧ Row a.next a.heap q d dk n h ds ∧ t = TT 168 e ∧ e 0 = .slice (some ⟨q, 0, sp⟩) N c ∧ e 1 = .int .i64 lo ∧ e 10 = .int .i64 i ∧ e 11 = .int .i64 j)
      ⟨i2 + 1, j2 - 1, _, _, _, _, _, rfl, by omega, by omega, by omega, by omega, by omega, by rw [size_swp]; exact hDs, hT', rfl, r3, rfl, ?_, ?_, ?_, ?_⟩ ?_
    · simp only [ups_at, ↓reduceIte, Nat.reduceEqDiff]; exact g0
    · simp only [ups_at, ↓reduceIte, Nat.reduceEqDiff]; exact g1
    · simp only [ups_at, ↓reduceIte, Nat.reduceEqDiff]; rfl
    · simp only [ups_at, ↓reduceIte, Nat.reduceEqDiff]
    clear hT' r3 rk2 rk1 r1 hqd hso hqn2 hlen rl2 rj ri hc1 g0 g1 g9 g10 f0 f1 f9 f10 v1 v2 u1 u2 u3 hi2 hj2 hgt
    rintro k t w ⟨i, j, n, dk, h, ds, e, rfl, hi1, hiN, hjN, hloj, hij1, hdk, hres, rfl, r, rfl, e0, e1, e9, e10⟩
    rw [partLoop_eq] at hres
    simp -dsimp (maxSteps := 4000000) (disch := first | omega | assumption | (simp only [FB, Nat.reduceAdd]; done) | (simp only [LB]; omega)) only [EB, ↓reduceIte, WB, Nat.reduceSub, Nat.reduceAdd, Int.reduceEq, Int.reduceNe, Int.reduceLT, Int.reduceLE, Int.reduceAdd, Int.reduceSub, Int.reduceMul, Int.reduceNeg, Int.reduceToNat, Nat.reduceEqDiff, Nat.reduceLT, Nat.reduceLeDiff, Nat.reduceMul, List.replicate, reduceCtorEq, TB, NB, MB, ]
    refine up69b q N a.next c sp a.heap d lo i j hsz (by omega) (by omega) hiN hjN dk hdk n h ds r e e0 e1 e9 e10 _ fun n1 f hn1 rk1 f0 f1 f9 f10 => ?_
    obtain ⟨u1, u2, -, -⟩ := scanUp_spec (fun x => ltInt x dk[lo]!) dk j _ i rfl
    have u3 : scanUp (fun x => ltInt x dk[lo]!) dk j i ≤ N ∧ scanUp (fun x => ltInt x dk[lo]!) dk j i ≤ j + 1 + 1 := by
      rcases Nat.lt_or_ge (j + 1) i with h1 | h1
      · rw [scan_up_stop (.inl (by omega))]; exact ⟨hiN, by omega⟩
      · have := u2 h1; omega
    obtain ⟨i2, hi2⟩ : ∃ i2, i2 = scanUp (fun x => ltInt x dk[lo]!) dk j i := ⟨_, rfl⟩
    rw [← hi2] at hres f9 u1 u3
    simp -dsimp (maxSteps := 4000000) (disch := first | omega | assumption | (simp only [FB, Nat.reduceAdd]; done) | (simp only [LB]; omega)) only [EB, ↓reduceIte, WB, Nat.reduceSub, Nat.reduceAdd, Int.reduceEq, Int.reduceNe, Int.reduceLT, Int.reduceLE, Int.reduceAdd, Int.reduceSub, Int.reduceMul, Int.reduceNeg, Int.reduceToNat, Nat.reduceEqDiff, Nat.reduceLT, Nat.reduceLeDiff, Nat.reduceMul, List.replicate, reduceCtorEq, TB, NB, MB, f0, f1, f9, f10]
    refine dn69b q N a.next c sp a.heap d lo i2 j hsz (by omega) (by omega) u3.1 hjN dk hdk n1 h ds rk1 _ ?_ ?_ ?_ ?_ _ fun n2 g hn2 rk2 g0 g1 g9 g10 => ?_ <;> first | assumption | (simp only [ups_at, ↓reduceIte, Nat.reduceEqDiff] <;> assumption) | skip
    obtain ⟨v1, v2, -, -⟩ := scanDown_spec (fun x => !ltInt x dk[lo]!) dk i2 j
    have v3 : lo ≤ scanDown (fun x => !ltInt x dk[lo]!) dk i2 j := by
      rcases Nat.lt_or_ge (j + 1) i2 with h1 | h1
      · rw [scan_down_stop (.inl (by omega))]; exact hloj
      · have := v2 h1; omega
    obtain ⟨j2, hj2⟩ : ∃ j2, j2 = scanDown (fun x => !ltInt x dk[lo]!) dk i2 j := ⟨_, rfl⟩
    rw [← hj2] at hres g10 v1 v3
    have hqd := rk2.at_
    have hso := rk2.soil
    have hqn2 : q < n2 + 1 := by have := rk2.le; omega
    have hlen := cU_len dk
    have rl2 := cU_at (d := dk) (i := lo) (by omega)
    have rj := cU_at (d := dk) (i := j2) (by omega)
    by_cases hgt : j2 < i2
    · rw [if_pos hgt] at hres
      subst hres
      simp -dsimp (maxSteps := 4000000) (disch := first | omega | assumption | (simp only [FB, Nat.reduceAdd]; done) | (simp only [LB]; omega)) only [EB, ↓reduceIte, WB, Nat.reduceSub, Nat.reduceAdd, Int.reduceEq, Int.reduceNe, Int.reduceLT, Int.reduceLE, Int.reduceAdd, Int.reduceSub, Int.reduceMul, Int.reduceNeg, Int.reduceToNat, Nat.reduceEqDiff, Nat.reduceLT, Nat.reduceLeDiff, Nat.reduceMul, List.replicate, reduceCtorEq, TB, NB, MB, g0, g1, g9, g10, show (j2 : Int) < i2 by omega, onExit_other (i := 5) (j := 4) rfl]
      refine code_draw [(0, 1), (0, 2), (0, 3), (0, 4), (0, 5), (0, 6), (0, 7), (0, 8), (0, 9), (0, 10), (0, 11), (1, 2), (1, 3), (1, 4), (1, 5), (1, 6), (1, 7), (1, 8), (1, 9), (1, 10), (1, 11), (2, 3), (2, 4), (2, 5), (2, 6), (2, 7), (2, 8), (2, 9), (2, 10), (2, 11), (2, 12), (2, 13), (3, 4), (3, 5), (3, 6), (3, 7), (3, 8), (3, 9), (3, 10), (3, 11), (3, 12), (3, 13), (4, 5), (4, 8), (4, 9), (4, 10), (4, 11), (5, 8), (5, 9), (5, 10), (5, 11), (6, 8), (6, 9), (6, 10), (6, 11), (7, 8), (7, 9), (7, 10), (7, 11), (8, 9)] (by decide +kernel) (by decide +kernel) ?_
      simp -dsimp (maxSteps := 4000000) (disch := first | omega | assumption | (simp only [FB, Nat.reduceAdd]; done) | (simp only [LB]; omega)) only [EB, ↓reduceIte, WB, Nat.reduceSub, Nat.reduceAdd, Int.reduceEq, Int.reduceNe, Int.reduceLT, Int.reduceLE, Int.reduceAdd, Int.reduceSub, Int.reduceMul, Int.reduceNeg, Int.reduceToNat, Nat.reduceEqDiff, Nat.reduceLT, Nat.reduceLeDiff, Nat.reduceMul, List.replicate, reduceCtorEq, RB, Nat.reduceEqDiff, TB, NB, MB, g0, g1, g9, g10, show (lo : Int) < N by omega, show (j2 : Int) < N by omega, indexAddr_slice und25 size27, load_one agg27, hqd, rl2, rj, write_soil, hso, hqn2, wrap64]
      rw [swap_cells (by omega) (by omega), put_twice, soil_swap rk2.lt hqn2 hso]
      have r3 : Row a.next a.heap q d (swp dk j2 lo) (n2 + 1) _ [q] := rk2.up.put rfl
      obtain ⟨a', ea, ha⟩ := r3.leave (bs := a.base) (ds0 := a.dirty) (vs := [.int .i64 j2, .bool false]) rfl
      rw [ea]
      exact hK a' _ ha (by rw [size_swp]; exact hdk)
    · rw [if_neg hgt] at hres
      have ri := cU_at (d := dk) (i := i2) (by omega)
      have hc1 : (j2 : Int) - 1 = ((j2 - 1 : Nat) : Int) := by omega
      simp -dsimp (maxSteps := 4000000) (disch := first | omega | assumption | (simp only [FB, Nat.reduceAdd]; done) | (simp only [LB]; omega)) only [EB, ↓reduceIte, WB, Nat.reduceSub, Nat.reduceAdd, Int.reduceEq, Int.reduceNe, Int.reduceLT, Int.reduceLE, Int.reduceAdd, Int.reduceSub, Int.reduceMul, Int.reduceNeg, Int.reduceToNat, Nat.reduceEqDiff, Nat.reduceLT, Nat.reduceLeDiff, Nat.reduceMul, List.replicate, reduceCtorEq, TB, NB, MB, g0, g1, g9, g10, show ¬ (j2 : Int) < i2 by omega]
      refine code_draw [(0, 1), (0, 2), (0, 3), (0, 4), (0, 5), (0, 6), (0, 7), (0, 8), (0, 9), (0, 10), (0, 11), (1, 2), (1, 3), (1, 4), (1, 5), (1, 6), (1, 7), (1, 8), (1, 9), (1, 10), (1, 11), (2, 3), (2, 4), (2, 5), (2, 6), (2, 7), (2, 8), (2, 9), (2, 10), (2, 11), (2, 12), (2, 13), (3, 4), (3, 5), (3, 6), (3, 7), (3, 8), (3, 9), (3, 10), (3, 11), (3, 12), (3, 13), (4, 5), (4, 8), (4, 9), (4, 10), (4, 11), (5, 8), (5, 9), (5, 10), (5, 11), (6, 8), (6, 9), (6, 10), (6, 11), (7, 8), (7, 9), (7, 10), (7, 11), (8, 9)] (by decide +kernel) (by decide +kernel) ?_
      simp -dsimp (maxSteps := 4000000) (disch := first | omega | assumption | (simp only [FB, Nat.reduceAdd]; done) | (simp only [LB]; omega)) only [EB, ↓reduceIte, WB, Nat.reduceSub, Nat.reduceAdd, Int.reduceEq, Int.reduceNe, Int.reduceLT, Int.reduceLE, Int.reduceAdd, Int.reduceSub, Int.reduceMul, Int.reduceNeg, Int.reduceToNat, Nat.reduceEqDiff, Nat.reduceLT, Nat.reduceLeDiff, Nat.reduceMul, List.replicate, reduceCtorEq, RB, Nat.reduceEqDiff, TB, NB, MB, g0, g1, g9, g10, show (i2 : Int) < N by omega, show (j2 : Int) < N by omega, indexAddr_slice und25 size27, load_one agg27, hqd, ri, rj, write_soil, hso, hqn2, wrap64, hc1]
      rw [swap_cells (by omega) (by omega), put_twice, soil_swap rk2.lt hqn2 hso]
      refine ⟨(j2 - 1) + 1 - (i2 + 1), by omega, i2 + 1, j2 - 1, _, swp dk i2 j2, _, [q], _, rfl, by omega, by omega, by omega, by omega, by omega, by rw [size_swp]; exact hdk, hres, rfl, rk2.up.put rfl, rfl, ?_⟩
      simp only [ups_at, ↓reduceIte, Nat.reduceEqDiff]
      exact ⟨g0, g1, (by first | trivial | rfl | omega), (by first | trivial | rfl | omega)⟩
end Go.Proofs.YtlbmjpmonaekgaaAM
