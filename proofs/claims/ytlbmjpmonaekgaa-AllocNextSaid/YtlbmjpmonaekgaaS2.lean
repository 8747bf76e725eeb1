/- Chapter 14: heap sort of a row. -/
import Derived.Test.YtlbmjpmonaekgaaS1
namespace Go.Proofs.YtlbmjpmonaekgaaAM
open Go Go.RowKit Go.Sort
set_option linter.unusedVariables false
set_option linter.unusedSimpArgs false
set_option maxRecDepth 10000
set_option maxHeartbeats 4000000

section
variable {hi first root : Nat} {d : Array Int}
theorem sift_stop (h : hi ≤ 2 * root + 1) : siftDown ltInt hi first root d = d := by rw [siftDown, dif_pos h]
theorem sift_two (h : 2 * root + 2 < hi) (hl : ltInt d[first + (2 * root + 1)]! d[first + (2 * root + 1) + 1]! = true) : siftDown ltInt hi first root d = if ltInt d[first + root]! d[first + (2 * root + 2)]! = true then siftDown ltInt hi first (2 * root + 2) (swp d (first + root) (first + (2 * root + 2))) else d := by
  rw [siftDown, dif_neg (by omega), if_pos (by rw [hl]; simp; omega)]
  cases ltInt d[first + root]! d[first + (2 * root + 2)]! with
  | true => simp [h]
  | false => simp
theorem sift_one (h0 : 2 * root + 1 < hi) (h : ¬ 2 * root + 2 < hi ∨ ltInt d[first + (2 * root + 1)]! d[first + (2 * root + 1) + 1]! = false) : siftDown ltInt hi first root d = if ltInt d[first + root]! d[first + (2 * root + 1)]! = true then siftDown ltInt hi first (2 * root + 1) (swp d (first + root) (first + (2 * root + 1))) else d := by
  rw [siftDown, dif_neg (by omega), if_neg (by rcases h with h | h <;> simp [h] <;> omega)]
  cases ltInt d[first + root]! d[first + (2 * root + 1)]! with
  | true => simp
  | false => simp
theorem sift_size (lt : Int → Int → Bool) (hi first : Nat) : ∀ (root : Nat) (d : Array Int), (siftDown lt hi first root d).size = d.size := by
  intro root d
  fun_induction siftDown lt hi first root d with
  | case1 => rfl
  | case2 => rfl
  | case3 _ _ _ _ _ _ ih => rw [ih, size_swp]
  | case4 => rfl
  | case5 => rfl
  | case6 _ _ _ _ _ ih => rw [ih, size_swp]
end
theorem sift72 (q : Nat) (sp : Option Nat) (c : Nat) (d : Array Int) (root hi first N : Nat) (hN : d.size = N) (hhi : first + hi ≤ N) (hro : root ≤ N) (hsz : N ≤ 1000000) (a : AW) (hq : look q a.heap = some (.cells (cU d) true)) (hqn : q < a.next) (K : Value → AW → Prop)
    (hK : ∀ a', Aft a a' q d (siftDown ltInt hi first root d) → K (.tuple #[]) a') : WCall Try.prog GC 72 [.slice (some ⟨q, 0, sp⟩) N c, .int .i64 root, .int .i64 hi, .int .i64 first] a K := by
  rw [call_env Try.func72 rfl Try.ntmps72 rfl rfl (by simp)]
  have hQ0 : ∀ n h ds (e : Nat → Value), Row a.next a.heap q d (siftDown ltInt hi first root d) n h ds → K (oneOf (leaveA a [] ⟨n, h, a.next, ds⟩).1) (leaveA a [] ⟨n, h, a.next, ds⟩).2 := by
    intro n h ds e r
    obtain ⟨a', e1, ha⟩ := r.leave (bs := a.base) (ds0 := a.dirty) (vs := []) rfl
    rw [show a = ⟨a.next, a.heap, a.base, a.dirty⟩ from rfl, e1]
    exact hK a' ha
  obtain ⟨T, hT⟩ : ∃ T, T = siftDown ltInt hi first root d := ⟨_, rfl⟩
  rw [← hT] at hQ0
  simp -dsimp (maxSteps := 4000000) (disch := first | omega | assumption | (simp only [FB, Nat.reduceAdd]; done) | (simp only [LB]; omega)) only [EB, ↓reduceIte, WB, Nat.reduceSub, Nat.reduceAdd, Int.reduceEq, Int.reduceNe, Int.reduceLT, Int.reduceLE, Int.reduceAdd, Int.reduceSub, Int.reduceMul, Int.reduceNeg, Int.reduceToNat, Nat.reduceEqDiff, Nat.reduceLT, Nat.reduceLeDiff, Nat.reduceMul, List.replicate, reduceCtorEq, TB, NB, MB, ]
  refine loop_inv (fun k t w => ∃ (root' n : Nat) (dc : Array Int) (h : List (Nat × Blk)) (ds : List Nat), ∃ e, k = hi - root' ∧ root' ≤ N ∧ dc.size = N ∧ siftDown ltInt hi first root' dc = T ∧ w = ⟨n, h, a.next, ds⟩ ∧ Row a.next a.heap q d dc n h ds ∧ t = TT 76 e ∧ e 0 = .slice (some ⟨q, 0, sp⟩) N c ∧ e 2 = .int .i64 hi ∧ e 3 = .int .i64 first ∧ e 8 = .int .i64 root')
    ⟨root, a.next, d, a.heap, [], _, rfl, hro, hN, hT.symm, rfl, .start hq hqn, rfl, rfl, rfl, rfl, rfl⟩ ?_
  clear hT
  rintro k t w ⟨root, n, dc, h, ds, e, rfl, hro, hdc, hres, rfl, r, rfl, e0, e2, e3, e8⟩
  have hqd := r.at_
  have hso := r.soil
  have hqn1 : q < n + 1 := by have := r.le; have := r.lt; omega
  have hqn2 : q < n + 2 := by omega
  have hqn3 : q < n + 3 := by omega
  have hlen := cU_len dc
  obtain ⟨m, hm⟩ : ∃ m, m = 2 * root + 1 := ⟨_, rfl⟩
  have hb1 : 2 * (root : Int) + 1 = (m : Int) := by omega
  obtain ⟨x, hx⟩ : ∃ x, x = first + root := ⟨_, rfl⟩
  obtain ⟨ym, hym⟩ : ∃ ym, ym = first + m := ⟨_, rfl⟩
  obtain ⟨yn, hyn⟩ : ∃ yn, yn = first + m + 1 := ⟨_, rfl⟩
  have hyn' : yn = ym + 1 := by omega
  by_cases hA : hi ≤ m
  · rw [sift_stop (by omega)] at hres
    subst hres
    simp -dsimp (maxSteps := 4000000) (disch := first | omega | assumption | (simp only [FB, Nat.reduceAdd]; done) | (simp only [LB]; omega)) only [EB, ↓reduceIte, WB, Nat.reduceSub, Nat.reduceAdd, Int.reduceEq, Int.reduceNe, Int.reduceLT, Int.reduceLE, Int.reduceAdd, Int.reduceSub, Int.reduceMul, Int.reduceNeg, Int.reduceToNat, Nat.reduceEqDiff, Nat.reduceLT, Nat.reduceLeDiff, Nat.reduceMul, List.replicate, reduceCtorEq, TB, NB, MB, e0, e2, e3, e8, wrap64, hb1, show (hi : Int) ≤ m by omega]
    exact hQ0 _ _ _ e r
  · simp -dsimp (maxSteps := 4000000) (disch := first | omega | assumption | (simp only [FB, Nat.reduceAdd]; done) | (simp only [LB]; omega)) only [EB, ↓reduceIte, WB, Nat.reduceSub, Nat.reduceAdd, Int.reduceEq, Int.reduceNe, Int.reduceLT, Int.reduceLE, Int.reduceAdd, Int.reduceSub, Int.reduceMul, Int.reduceNeg, Int.reduceToNat, Nat.reduceEqDiff, Nat.reduceLT, Nat.reduceLeDiff, Nat.reduceMul, List.replicate, reduceCtorEq, TB, NB, MB, e0, e2, e3, e8, wrap64, hb1, show ¬ (hi : Int) ≤ m by omega]
    refine code_draw [(0, 2), (1, 2), (5, 6), (5, 7), (5, 8), (5, 11), (5, 12), (5, 13), (5, 14), (5, 15), (5, 16), (5, 17), (6, 7), (6, 11), (6, 12), (6, 13), (6, 14), (6, 15), (6, 16), (6, 17), (7, 11), (7, 12), (7, 13), (7, 14), (7, 15), (7, 16), (7, 17), (8, 11), (8, 12), (8, 13), (8, 14), (8, 15), (8, 16), (8, 17), (9, 11), (9, 12), (9, 13), (9, 14), (9, 15), (9, 16), (9, 17), (10, 11), (10, 12), (10, 13), (10, 14), (10, 15), (10, 16), (10, 17), (11, 12), (11, 13), (11, 14), (11, 15), (12, 13)] (by decide +kernel) (by decide +kernel) ?_
    obtain ⟨m1, hm1⟩ : ∃ m1, m1 = m + 1 := ⟨_, rfl⟩
    have hb2 : (m : Int) + 1 = (m1 : Int) := by omega
    by_cases hB : m1 < hi
    · have r1 := cU_at (d := dc) (i := ym) (by omega)
      have r2 := cU_at (d := dc) (i := yn) (by omega)
      have hp3 : ((first : Int) + (m : Int)).toNat = ym := by omega
      have hp4 : ((first : Int) + (m : Int) + 1).toNat = yn := by omega
      cases hl : ltInt dc[ym]! dc[yn]! with
      | true =>
        rw [sift_two (by omega) (by rw [← hm, ← hym, ← hyn']; exact hl), show 2 * root + 2 = m1 by omega, ← hx, show first + m1 = yn by omega] at hres
        simp -dsimp (maxSteps := 4000000) (disch := first | omega | assumption | (simp only [FB, Nat.reduceAdd]; done) | (simp only [LB]; omega)) only [EB, ↓reduceIte, WB, Nat.reduceSub, Nat.reduceAdd, Int.reduceEq, Int.reduceNe, Int.reduceLT, Int.reduceLE, Int.reduceAdd, Int.reduceSub, Int.reduceMul, Int.reduceNeg, Int.reduceToNat, Nat.reduceEqDiff, Nat.reduceLT, Nat.reduceLeDiff, Nat.reduceMul, List.replicate, reduceCtorEq, RB, Nat.reduceEqDiff, TB, NB, MB, e0, e2, e3, e8, wrap64, hb1, hb2, show (m1 : Int) < hi by omega, show (first : Int) + (m : Int) < N by omega, show (first : Int) + (m : Int) + 1 < N by omega, hp3, hp4, indexAddr_slice und25 size27, load_one agg27, hqd, r1, r2, less46, hl]
        have rr := cU_at (d := dc) (i := x) (by omega)
        have rc := cU_at (d := dc) (i := yn) (by omega)
        have hp1 : ((first : Int) + (root : Int)).toNat = x := by omega
        have hp2 : ((first : Int) + ((m1 : Nat) : Int)).toNat = yn := by omega
        refine code_draw [(0, 1), (0, 2), (0, 3), (0, 6), (0, 7), (0, 8), (0, 9), (0, 10), (0, 11), (1, 2), (1, 6), (1, 7), (1, 8), (1, 9), (1, 10), (1, 11), (2, 6), (2, 7), (2, 8), (2, 9), (2, 10), (2, 11), (3, 6), (3, 7), (3, 8), (3, 9), (3, 10), (3, 11), (4, 6), (4, 7), (4, 8), (4, 9), (4, 10), (4, 11), (5, 6), (5, 7), (5, 8), (5, 9), (5, 10), (5, 11), (6, 7), (6, 8), (6, 9), (7, 8)] (by decide +kernel) (by decide +kernel) ?_
        cases hl2 : ltInt dc[x]! dc[yn]! with
        | true =>
          rw [hl2, if_pos rfl] at hres
          simp -dsimp (maxSteps := 4000000) (disch := first | omega | assumption | (simp only [FB, Nat.reduceAdd]; done) | (simp only [LB]; omega)) only [EB, ↓reduceIte, WB, Nat.reduceSub, Nat.reduceAdd, Int.reduceEq, Int.reduceNe, Int.reduceLT, Int.reduceLE, Int.reduceAdd, Int.reduceSub, Int.reduceMul, Int.reduceNeg, Int.reduceToNat, Nat.reduceEqDiff, Nat.reduceLT, Nat.reduceLeDiff, Nat.reduceMul, List.replicate, reduceCtorEq, RB, Nat.reduceEqDiff, TB, NB, MB, e0, e2, e3, e8, hb1, show (first : Int) + (root : Int) < N by omega, show (first : Int) + ((m1 : Nat) : Int) < N by omega, wrap64, hp1, hp2, indexAddr_slice und25 size27, load_one agg27, hqd, rr, rc, less46, hl2]
          refine code_draw [(0, 1), (0, 2), (0, 3), (0, 4), (0, 5), (0, 6), (0, 7), (0, 8), (0, 9), (0, 10), (0, 11), (0, 12), (0, 13), (0, 14), (0, 15), (0, 16), (0, 17), (0, 18), (0, 19), (1, 2), (1, 4), (1, 5), (1, 6), (1, 7), (1, 8), (1, 9), (1, 10), (1, 11), (1, 12), (1, 13), (1, 14), (1, 15), (1, 16), (1, 17), (1, 18), (1, 19), (2, 4), (2, 5), (2, 6), (2, 7), (2, 8), (2, 9), (2, 10), (2, 11), (2, 12), (2, 13), (2, 14), (2, 15), (2, 16), (2, 17), (2, 18), (2, 19), (3, 4), (3, 5), (3, 6), (3, 7), (3, 8), (3, 9), (3, 10), (3, 11), (3, 12), (3, 13), (3, 14), (3, 15), (3, 16), (3, 17), (3, 18), (3, 19), (4, 5), (4, 6), (4, 7), (4, 8), (4, 9), (4, 10), (4, 11), (4, 12), (4, 13), (4, 14), (4, 15), (4, 16), (4, 17), (4, 18), (4, 19), (4, 20), (4, 21), (5, 6), (5, 8), (5, 9), (5, 10), (5, 11), (5, 12), (5, 13), (5, 14), (5, 15), (5, 16), (5, 17), (5, 18), (5, 19), (5, 20), (5, 21), (6, 8), (6, 9), (6, 10), (6, 11), (6, 12), (6, 13), (6, 14), (6, 15), (6, 16), (6, 17), (6, 18), (6, 19), (6, 20), (6, 21), (7, 8), (7, 9), (7, 10), (7, 11), (7, 12), (7, 13), (7, 14), (7, 15), (7, 16), (7, 17), (7, 18), (7, 19), (7, 20), (7, 21), (8, 9), (8, 10), (8, 11), (8, 14), (8, 15), (8, 16), (8, 17), (8, 18), (8, 19), (9, 10), (9, 14), (9, 15), (9, 16), (9, 17), (9, 18), (9, 19), (10, 14), (10, 15), (10, 16), (10, 17), (10, 18), (10, 19), (11, 14), (11, 15), (11, 16), (11, 17), (11, 18), (11, 19), (12, 14), (12, 15), (12, 16), (12, 17), (12, 18), (12, 19), (13, 14), (13, 15), (13, 16), (13, 17), (13, 18), (13, 19), (14, 15), (14, 16), (14, 17), (15, 16)] (by decide +kernel) (by decide +kernel) ?_
          simp -dsimp (maxSteps := 4000000) (disch := first | omega | assumption | (simp only [FB, Nat.reduceAdd]; done) | (simp only [LB]; omega)) only [EB, ↓reduceIte, WB, Nat.reduceSub, Nat.reduceAdd, Int.reduceEq, Int.reduceNe, Int.reduceLT, Int.reduceLE, Int.reduceAdd, Int.reduceSub, Int.reduceMul, Int.reduceNeg, Int.reduceToNat, Nat.reduceEqDiff, Nat.reduceLT, Nat.reduceLeDiff, Nat.reduceMul, List.replicate, reduceCtorEq, RB, Nat.reduceEqDiff, TB, NB, MB, e0, e2, e3, e8, hb1, show (first : Int) + (root : Int) < N by omega, show (first : Int) + ((m1 : Nat) : Int) < N by omega, wrap64, hp1, hp2, indexAddr_slice und25 size27, load_one agg27, hqd, rr, rc, write_soil, hso, hqn3, hqn2, hqn1]
          rw [swap_cells (by omega) (by omega), put_twice, soil_swap r.lt hqn3 hso]
          refine ⟨hi - m1, by omega, m1, _, _, _, [q], _, rfl, by omega, by rw [size_swp]; exact hdc, hres, rfl, (r.next (by omega) fun _ _ => rfl).put rfl, rfl, ?_⟩
          simp only [ups_at, ↓reduceIte, Nat.reduceEqDiff]
          exact ⟨e0, e2, e3, (by first | trivial | rfl | omega)⟩
        | false =>
          rw [hl2, if_neg (by simp)] at hres
          subst hres
          simp -dsimp (maxSteps := 4000000) (disch := first | omega | assumption | (simp only [FB, Nat.reduceAdd]; done) | (simp only [LB]; omega)) only [EB, ↓reduceIte, WB, Nat.reduceSub, Nat.reduceAdd, Int.reduceEq, Int.reduceNe, Int.reduceLT, Int.reduceLE, Int.reduceAdd, Int.reduceSub, Int.reduceMul, Int.reduceNeg, Int.reduceToNat, Nat.reduceEqDiff, Nat.reduceLT, Nat.reduceLeDiff, Nat.reduceMul, List.replicate, reduceCtorEq, RB, Nat.reduceEqDiff, TB, NB, MB, e0, e2, e3, e8, hb1, show (first : Int) + (root : Int) < N by omega, show (first : Int) + ((m1 : Nat) : Int) < N by omega, wrap64, hp1, hp2, indexAddr_slice und25 size27, load_one agg27, hqd, rr, rc, less46, hl2]
          exact hQ0 _ _ _ e (r.next (by omega) fun _ _ => rfl)
      | false =>
        rw [sift_one (by omega) (.inr (by rw [← hm, ← hym, ← hyn']; exact hl)), ← hm, ← hx, ← hym] at hres
        simp -dsimp (maxSteps := 4000000) (disch := first | omega | assumption | (simp only [FB, Nat.reduceAdd]; done) | (simp only [LB]; omega)) only [EB, ↓reduceIte, WB, Nat.reduceSub, Nat.reduceAdd, Int.reduceEq, Int.reduceNe, Int.reduceLT, Int.reduceLE, Int.reduceAdd, Int.reduceSub, Int.reduceMul, Int.reduceNeg, Int.reduceToNat, Nat.reduceEqDiff, Nat.reduceLT, Nat.reduceLeDiff, Nat.reduceMul, List.replicate, reduceCtorEq, RB, Nat.reduceEqDiff, TB, NB, MB, e0, e2, e3, e8, wrap64, hb1, hb2, show (m1 : Int) < hi by omega, show (first : Int) + (m : Int) < N by omega, show (first : Int) + (m : Int) + 1 < N by omega, hp3, hp4, indexAddr_slice und25 size27, load_one agg27, hqd, r1, r2, less46, hl]
        have rr := cU_at (d := dc) (i := x) (by omega)
        have rc := cU_at (d := dc) (i := ym) (by omega)
        have hp1 : ((first : Int) + (root : Int)).toNat = x := by omega
        have hp2 : ((first : Int) + ((m : Nat) : Int)).toNat = ym := by omega
        refine code_draw [(0, 1), (0, 2), (0, 3), (0, 6), (0, 7), (0, 8), (0, 9), (0, 10), (0, 11), (1, 2), (1, 6), (1, 7), (1, 8), (1, 9), (1, 10), (1, 11), (2, 6), (2, 7), (2, 8), (2, 9), (2, 10), (2, 11), (3, 6), (3, 7), (3, 8), (3, 9), (3, 10), (3, 11), (4, 6), (4, 7), (4, 8), (4, 9), (4, 10), (4, 11), (5, 6), (5, 7), (5, 8), (5, 9), (5, 10), (5, 11), (6, 7), (6, 8), (6, 9), (7, 8)] (by decide +kernel) (by decide +kernel) ?_
        cases hl2 : ltInt dc[x]! dc[ym]! with
        | true =>
          rw [hl2, if_pos rfl] at hres
          simp -dsimp (maxSteps := 4000000) (disch := first | omega | assumption | (simp only [FB, Nat.reduceAdd]; done) | (simp only [LB]; omega)) only [EB, ↓reduceIte, WB, Nat.reduceSub, Nat.reduceAdd, Int.reduceEq, Int.reduceNe, Int.reduceLT, Int.reduceLE, Int.reduceAdd, Int.reduceSub, Int.reduceMul, Int.reduceNeg, Int.reduceToNat, Nat.reduceEqDiff, Nat.reduceLT, Nat.reduceLeDiff, Nat.reduceMul, List.replicate, reduceCtorEq, RB, Nat.reduceEqDiff, TB, NB, MB, e0, e2, e3, e8, hb1, show (first : Int) + (root : Int) < N by omega, show (first : Int) + ((m : Nat) : Int) < N by omega, wrap64, hp1, hp2, indexAddr_slice und25 size27, load_one agg27, hqd, rr, rc, less46, hl2]
          refine code_draw [(0, 1), (0, 2), (0, 3), (0, 4), (0, 5), (0, 6), (0, 7), (0, 8), (0, 9), (0, 10), (0, 11), (0, 12), (0, 13), (0, 14), (0, 15), (0, 16), (0, 17), (0, 18), (0, 19), (1, 2), (1, 4), (1, 5), (1, 6), (1, 7), (1, 8), (1, 9), (1, 10), (1, 11), (1, 12), (1, 13), (1, 14), (1, 15), (1, 16), (1, 17), (1, 18), (1, 19), (2, 4), (2, 5), (2, 6), (2, 7), (2, 8), (2, 9), (2, 10), (2, 11), (2, 12), (2, 13), (2, 14), (2, 15), (2, 16), (2, 17), (2, 18), (2, 19), (3, 4), (3, 5), (3, 6), (3, 7), (3, 8), (3, 9), (3, 10), (3, 11), (3, 12), (3, 13), (3, 14), (3, 15), (3, 16), (3, 17), (3, 18), (3, 19), (4, 5), (4, 6), (4, 7), (4, 8), (4, 9), (4, 10), (4, 11), (4, 12), (4, 13), (4, 14), (4, 15), (4, 16), (4, 17), (4, 18), (4, 19), (4, 20), (4, 21), (5, 6), (5, 8), (5, 9), (5, 10), (5, 11), (5, 12), (5, 13), (5, 14), (5, 15), (5, 16), (5, 17), (5, 18), (5, 19), (5, 20), (5, 21), (6, 8), (6, 9), (6, 10), (6, 11), (6, 12), (6, 13), (6, 14), (6, 15), (6, 16), (6, 17), (6, 18), (6, 19), (6, 20), (6, 21), (7, 8), (7, 9), (7, 10), (7, 11), (7, 12), (7, 13), (7, 14), (7, 15), (7, 16), (7, 17), (7, 18), (7, 19), (7, 20), (7, 21), (8, 9), (8, 10), (8, 11), (8, 14), (8, 15), (8, 16), (8, 17), (8, 18), (8, 19), (9, 10), (9, 14), (9, 15), (9, 16), (9, 17), (9, 18), (9, 19), (10, 14), (10, 15), (10, 16), (10, 17), (10, 18), (10, 19), (11, 14), (11, 15), (11, 16), (11, 17), (11, 18), (11, 19), (12, 14), (12, 15), (12, 16), (12, 17), (12, 18), (12, 19), (13, 14), (13, 15), (13, 16), (13, 17), (13, 18), (13, 19), (14, 15), (14, 16), (14, 17), (15, 16)] (by decide +kernel) (by decide +kernel) ?_
          simp -dsimp (maxSteps := 4000000) (disch := first | omega | assumption | (simp only [FB, Nat.reduceAdd]; done) | (simp only [LB]; omega)) only [EB, ↓reduceIte, WB, Nat.reduceSub, Nat.reduceAdd, Int.reduceEq, Int.reduceNe, Int.reduceLT, Int.reduceLE, Int.reduceAdd, Int.reduceSub, Int.reduceMul, Int.reduceNeg, Int.reduceToNat, Nat.reduceEqDiff, Nat.reduceLT, Nat.reduceLeDiff, Nat.reduceMul, List.replicate, reduceCtorEq, RB, Nat.reduceEqDiff, TB, NB, MB, e0, e2, e3, e8, hb1, show (first : Int) + (root : Int) < N by omega, show (first : Int) + ((m : Nat) : Int) < N by omega, wrap64, hp1, hp2, indexAddr_slice und25 size27, load_one agg27, hqd, rr, rc, write_soil, hso, hqn3, hqn2, hqn1]
          rw [swap_cells (by omega) (by omega), put_twice, soil_swap r.lt hqn3 hso]
          refine ⟨hi - m, by omega, m, _, _, _, [q], _, rfl, by omega, by rw [size_swp]; exact hdc, hres, rfl, (r.next (by omega) fun _ _ => rfl).put rfl, rfl, ?_⟩
          simp only [ups_at, ↓reduceIte, Nat.reduceEqDiff]
          exact ⟨e0, e2, e3, (by first | trivial | rfl | omega)⟩
        | false =>
          rw [hl2, if_neg (by simp)] at hres
          subst hres
          simp -dsimp (maxSteps := 4000000) (disch := first | omega | assumption | (simp only [FB, Nat.reduceAdd]; done) | (simp only [LB]; omega)) only [EB, ↓reduceIte, WB, Nat.reduceSub, Nat.reduceAdd, Int.reduceEq, Int.reduceNe, Int.reduceLT, Int.reduceLE, Int.reduceAdd, Int.reduceSub, Int.reduceMul, Int.reduceNeg, Int.reduceToNat, Nat.reduceEqDiff, Nat.reduceLT, Nat.reduceLeDiff, Nat.reduceMul, List.replicate, reduceCtorEq, RB, Nat.reduceEqDiff, TB, NB, MB, e0, e2, e3, e8, hb1, show (first : Int) + (root : Int) < N by omega, show (first : Int) + ((m : Nat) : Int) < N by omega, wrap64, hp1, hp2, indexAddr_slice und25 size27, load_one agg27, hqd, rr, rc, less46, hl2]
          exact hQ0 _ _ _ e (r.next (by omega) fun _ _ => rfl)
    · rw [sift_one (by omega) (.inl (by omega)), ← hm, ← hx, ← hym] at hres
      simp -dsimp (maxSteps := 4000000) (disch := first | omega | assumption | (simp only [FB, Nat.reduceAdd]; done) | (simp only [LB]; omega)) only [EB, ↓reduceIte, WB, Nat.reduceSub, Nat.reduceAdd, Int.reduceEq, Int.reduceNe, Int.reduceLT, Int.reduceLE, Int.reduceAdd, Int.reduceSub, Int.reduceMul, Int.reduceNeg, Int.reduceToNat, Nat.reduceEqDiff, Nat.reduceLT, Nat.reduceLeDiff, Nat.reduceMul, List.replicate, reduceCtorEq, RB, Nat.reduceEqDiff, TB, NB, MB, e0, e2, e3, e8, wrap64, hb1, hb2, show ¬ (m1 : Int) < hi by omega]
      have rr := cU_at (d := dc) (i := x) (by omega)
      have rc := cU_at (d := dc) (i := ym) (by omega)
      have hp1 : ((first : Int) + (root : Int)).toNat = x := by omega
      have hp2 : ((first : Int) + ((m : Nat) : Int)).toNat = ym := by omega
      refine code_draw [(0, 1), (0, 2), (0, 3), (0, 6), (0, 7), (0, 8), (0, 9), (0, 10), (0, 11), (1, 2), (1, 6), (1, 7), (1, 8), (1, 9), (1, 10), (1, 11), (2, 6), (2, 7), (2, 8), (2, 9), (2, 10), (2, 11), (3, 6), (3, 7), (3, 8), (3, 9), (3, 10), (3, 11), (4, 6), (4, 7), (4, 8), (4, 9), (4, 10), (4, 11), (5, 6), (5, 7), (5, 8), (5, 9), (5, 10), (5, 11), (6, 7), (6, 8), (6, 9), (7, 8)] (by decide +kernel) (by decide +kernel) ?_
      cases hl2 : ltInt dc[x]! dc[ym]! with
      | true =>
        rw [hl2, if_pos rfl] at hres
        simp -dsimp (maxSteps := 4000000) (disch := first | omega | assumption | (simp only [FB, Nat.reduceAdd]; done) | (simp only [LB]; omega)) only [EB, ↓reduceIte, WB, Nat.reduceSub, Nat.reduceAdd, Int.reduceEq, Int.reduceNe, Int.reduceLT, Int.reduceLE, Int.reduceAdd, Int.reduceSub, Int.reduceMul, Int.reduceNeg, Int.reduceToNat, Nat.reduceEqDiff, Nat.reduceLT, Nat.reduceLeDiff, Nat.reduceMul, List.replicate, reduceCtorEq, RB, Nat.reduceEqDiff, TB, NB, MB, e0, e2, e3, e8, hb1, show (first : Int) + (root : Int) < N by omega, show (first : Int) + ((m : Nat) : Int) < N by omega, wrap64, hp1, hp2, indexAddr_slice und25 size27, load_one agg27, hqd, rr, rc, less46, hl2]
        refine code_draw [(0, 1), (0, 2), (0, 3), (0, 4), (0, 5), (0, 6), (0, 7), (0, 8), (0, 9), (0, 10), (0, 11), (0, 12), (0, 13), (0, 14), (0, 15), (0, 16), (0, 17), (0, 18), (0, 19), (1, 2), (1, 4), (1, 5), (1, 6), (1, 7), (1, 8), (1, 9), (1, 10), (1, 11), (1, 12), (1, 13), (1, 14), (1, 15), (1, 16), (1, 17), (1, 18), (1, 19), (2, 4), (2, 5), (2, 6), (2, 7), (2, 8), (2, 9), (2, 10), (2, 11), (2, 12), (2, 13), (2, 14), (2, 15), (2, 16), (2, 17), (2, 18), (2, 19), (3, 4), (3, 5), (3, 6), (3, 7), (3, 8), (3, 9), (3, 10), (3, 11), (3, 12), (3, 13), (3, 14), (3, 15), (3, 16), (3, 17), (3, 18), (3, 19), (4, 5), (4, 6), (4, 7), (4, 8), (4, 9), (4, 10), (4, 11), (4, 12), (4, 13), (4, 14), (4, 15), (4, 16), (4, 17), (4, 18), (4, 19), (4, 20), (4, 21), (5, 6), (5, 8), (5, 9), (5, 10), (5, 11), (5, 12), (5, 13), (5, 14), (5, 15), (5, 16), (5, 17), (5, 18), (5, 19), (5, 20), (5, 21), (6, 8), (6, 9), (6, 10), (6, 11), (6, 12), (6, 13), (6, 14), (6, 15), (6, 16), (6, 17), (6, 18), (6, 19), (6, 20), (6, 21), (7, 8), (7, 9), (7, 10), (7, 11), (7, 12), (7, 13), (7, 14), (7, 15), (7, 16), (7, 17), (7, 18), (7, 19), (7, 20), (7, 21), (8, 9), (8, 10), (8, 11), (8, 14), (8, 15), (8, 16), (8, 17), (8, 18), (8, 19), (9, 10), (9, 14), (9, 15), (9, 16), (9, 17), (9, 18), (9, 19), (10, 14), (10, 15), (10, 16), (10, 17), (10, 18), (10, 19), (11, 14), (11, 15), (11, 16), (11, 17), (11, 18), (11, 19), (12, 14), (12, 15), (12, 16), (12, 17), (12, 18), (12, 19), (13, 14), (13, 15), (13, 16), (13, 17), (13, 18), (13, 19), (14, 15), (14, 16), (14, 17), (15, 16)] (by decide +kernel) (by decide +kernel) ?_
        simp -dsimp (maxSteps := 4000000) (disch := first | omega | assumption | (simp only [FB, Nat.reduceAdd]; done) | (simp only [LB]; omega)) only [EB, ↓reduceIte, WB, Nat.reduceSub, Nat.reduceAdd, Int.reduceEq, Int.reduceNe, Int.reduceLT, Int.reduceLE, Int.reduceAdd, Int.reduceSub, Int.reduceMul, Int.reduceNeg, Int.reduceToNat, Nat.reduceEqDiff, Nat.reduceLT, Nat.reduceLeDiff, Nat.reduceMul, List.replicate, reduceCtorEq, RB, Nat.reduceEqDiff, TB, NB, MB, e0, e2, e3, e8, hb1, show (first : Int) + (root : Int) < N by omega, show (first : Int) + ((m : Nat) : Int) < N by omega, wrap64, hp1, hp2, indexAddr_slice und25 size27, load_one agg27, hqd, rr, rc, write_soil, hso, hqn3, hqn2, hqn1]
        rw [swap_cells (by omega) (by omega), put_twice, soil_swap r.lt hqn3 hso]
        refine ⟨hi - m, by omega, m, _, _, _, [q], _, rfl, by omega, by rw [size_swp]; exact hdc, hres, rfl, (r.next (by omega) fun _ _ => rfl).put rfl, rfl, ?_⟩
        simp only [ups_at, ↓reduceIte, Nat.reduceEqDiff]
        exact ⟨e0, e2, e3, (by first | trivial | rfl | omega)⟩
      | false =>
        rw [hl2, if_neg (by simp)] at hres
        subst hres
        simp -dsimp (maxSteps := 4000000) (disch := first | omega | assumption | (simp only [FB, Nat.reduceAdd]; done) | (simp only [LB]; omega)) only [EB, ↓reduceIte, WB, Nat.reduceSub, Nat.reduceAdd, Int.reduceEq, Int.reduceNe, Int.reduceLT, Int.reduceLE, Int.reduceAdd, Int.reduceSub, Int.reduceMul, Int.reduceNeg, Int.reduceToNat, Nat.reduceEqDiff, Nat.reduceLT, Nat.reduceLeDiff, Nat.reduceMul, List.replicate, reduceCtorEq, RB, Nat.reduceEqDiff, TB, NB, MB, e0, e2, e3, e8, hb1, show (first : Int) + (root : Int) < N by omega, show (first : Int) + ((m : Nat) : Int) < N by omega, wrap64, hp1, hp2, indexAddr_slice und25 size27, load_one agg27, hqd, rr, rc, less46, hl2]
        exact hQ0 _ _ _ e (r.next (by omega) fun _ _ => rfl)
theorem heap63 (q : Nat) (sp : Option Nat) (c : Nat) (d : Array Int) (lo hi N : Nat) (hN : d.size = N) (hlo : lo ≤ hi) (hhi : hi ≤ N) (hsz : N ≤ 1000000) (h12 : lo < hi) (a : AW) (hq : look q a.heap = some (.cells (cU d) true)) (hqn : q < a.next) (K : Value → AW → Prop)
    (hK : ∀ a', Aft a a' q d (heapSort ltInt d lo hi) → K (.tuple #[]) a') : WCall Try.prog GC 63 [.slice (some ⟨q, 0, sp⟩) N c, .int .i64 lo, .int .i64 hi] a K := by
  rw [call_env Try.func63 rfl Try.ntmps63 rfl rfl (by simp)]
  obtain ⟨L, hL⟩ : ∃ L, L = hi - lo := ⟨_, rfl⟩
  have hb0 : (hi : Int) - (lo : Int) = (L : Int) := by omega
  obtain ⟨g, hg⟩ : ∃ g, g = (L - 1) / 2 := ⟨_, rfl⟩
  have hb1 : ((L : Int) - 1).tdiv 2 = (g : Int) := by
    rw [Int.tdiv_eq_ediv_of_nonneg (by omega)]; omega
  have hb1' : ((L : Int) - 1) / 2 = (g : Int) := by omega
  obtain ⟨D1, hD1⟩ : ∃ D1, D1 = heapBuild ltInt L lo (g + 1) d := ⟨_, rfl⟩
  obtain ⟨D2, hD2⟩ : ∃ D2, D2 = heapPop ltInt lo L D1 := ⟨_, rfl⟩
  have hD : heapSort ltInt d lo hi = D2 := by unfold heapSort; rw [← hL, ← hg, ← hD1, ← hD2]
  rw [hD] at hK
  simp -dsimp (maxSteps := 4000000) (disch := first | omega | assumption | (simp only [FB, Nat.reduceAdd]; done) | (simp only [LB]; omega)) only [EB, ↓reduceIte, WB, Nat.reduceSub, Nat.reduceAdd, Int.reduceEq, Int.reduceNe, Int.reduceLT, Int.reduceLE, Int.reduceAdd, Int.reduceSub, Int.reduceMul, Int.reduceNeg, Int.reduceToNat, Nat.reduceEqDiff, Nat.reduceLT, Nat.reduceLeDiff, Nat.reduceMul, List.replicate, reduceCtorEq, TB, NB, MB, wrap64, hb0, hb1, hb1']
  refine loop_inv (fun k t w => ∃ (n : Nat) (dc : Array Int) (h : List (Nat × Blk)) (ds : List Nat), ∃ e, k ≤ g + 1 ∧ dc.size = N ∧ heapBuild ltInt L lo k dc = D1 ∧ w = ⟨n, h, a.next, ds⟩ ∧ Row a.next a.heap q d dc n h ds ∧ t = TT 56 e ∧ e 0 = .slice (some ⟨q, 0, sp⟩) N c ∧ e 6 = .int .i64 lo ∧ e 7 = .int .i64 (0 : Nat) ∧ e 8 = .int .i64 L ∧ e 9 = .int .i64 ((k : Int) - 1))
    (k := g + 1) ⟨a.next, d, a.heap, [], _, Nat.le_refl _, hN, hD1.symm, rfl, .start hq hqn, rfl, rfl, rfl, rfl, rfl, by simp only [ups_at, ↓reduceIte, Nat.reduceEqDiff]; congr 1; omega⟩ ?_
  rintro k t w ⟨n, dc, h, ds, e, hk, hdc, hres, rfl, r, rfl, e0, e6, e7, e8, e9⟩
  cases k with
  | succ k =>
    have hc1 : ((k + 1 : Nat) : Int) - 1 = (k : Int) := by omega
    rw [hc1] at e9
    simp -dsimp (maxSteps := 4000000) (disch := first | omega | assumption | (simp only [FB, Nat.reduceAdd]; done) | (simp only [LB]; omega)) only [EB, ↓reduceIte, WB, Nat.reduceSub, Nat.reduceAdd, Int.reduceEq, Int.reduceNe, Int.reduceLT, Int.reduceLE, Int.reduceAdd, Int.reduceSub, Int.reduceMul, Int.reduceNeg, Int.reduceToNat, Nat.reduceEqDiff, Nat.reduceLT, Nat.reduceLeDiff, Nat.reduceMul, List.replicate, reduceCtorEq, TB, NB, MB, e0, e6, e7, e8, e9, show (0 : Int) ≤ k by omega]
    refine sift72 q sp c dc k L lo N hdc (by omega) (by omega) hsz _ r.at_ (Nat.lt_of_lt_of_le r.lt r.le) _ fun a' ha => ?_
    obtain ⟨n', h', ds', rfl, hn', r'⟩ := r.call ha
    have hss : (siftDown ltInt L lo k dc).size = N := by
      have := sift_size ltInt L lo k dc
      rw [this]; exact hdc
    simp -dsimp (maxSteps := 4000000) (disch := first | omega | assumption | (simp only [FB, Nat.reduceAdd]; done) | (simp only [LB]; omega)) only [EB, ↓reduceIte, WB, Nat.reduceSub, Nat.reduceAdd, Int.reduceEq, Int.reduceNe, Int.reduceLT, Int.reduceLE, Int.reduceAdd, Int.reduceSub, Int.reduceMul, Int.reduceNeg, Int.reduceToNat, Nat.reduceEqDiff, Nat.reduceLT, Nat.reduceLeDiff, Nat.reduceMul, List.replicate, reduceCtorEq, TB, NB, MB, e0, e6, e7, e8, e9, wrap64]
    refine ⟨trivial, k, by omega, n', _, h', ds', _, by omega, hss, hres, rfl, r', rfl, ?_⟩
    simp only [ups_at, ↓reduceIte, Nat.reduceEqDiff]
    exact ⟨e0, e6, e7, e8, (by first | trivial | rfl | omega)⟩
  | zero =>
    have hres' : dc = D1 := hres
    subst hres'
    simp -dsimp (maxSteps := 4000000) (disch := first | omega | assumption | (simp only [FB, Nat.reduceAdd]; done) | (simp only [LB]; omega)) only [EB, ↓reduceIte, WB, Nat.reduceSub, Nat.reduceAdd, Int.reduceEq, Int.reduceNe, Int.reduceLT, Int.reduceLE, Int.reduceAdd, Int.reduceSub, Int.reduceMul, Int.reduceNeg, Int.reduceToNat, Nat.reduceEqDiff, Nat.reduceLT, Nat.reduceLeDiff, Nat.reduceMul, List.replicate, reduceCtorEq, TB, NB, MB, e0, e6, e7, e8, e9, show ¬ (0 : Int) ≤ ((0 : Nat) : Int) - 1 by omega, wrap64]
    refine loop_inv (fun k t w => ∃ (n : Nat) (dc : Array Int) (h : List (Nat × Blk)) (ds : List Nat), ∃ e, k ≤ L ∧ dc.size = N ∧ heapPop ltInt lo k dc = D2 ∧ w = ⟨n, h, a.next, ds⟩ ∧ Row a.next a.heap q d dc n h ds ∧ t = TT 56 e ∧ e 0 = .slice (some ⟨q, 0, sp⟩) N c ∧ e 6 = .int .i64 lo ∧ e 7 = .int .i64 (0 : Nat) ∧ e 10 = .int .i64 ((k : Int) - 1))
      (k := L) ⟨n, dc, h, ds, _, Nat.le_refl _, hdc, hD2.symm, rfl, r, rfl, ?_⟩ ?_
    · simp only [ups_at, ↓reduceIte, Nat.reduceEqDiff]; exact ⟨e0, e6, e7, (by first | trivial | rfl | omega)⟩
    clear e0 e6 e7 e8 e9 r hdc
    rintro k t w ⟨n, dc, h, ds, e, hk, hdc, hres, rfl, r, rfl, e0, e6, e7, e10⟩
    have hqd := r.at_
    have hso := r.soil
    have hqn1 : q < n + 1 := by have := r.le; have := r.lt; omega
    have hlen := cU_len dc
    cases k with
    | succ k =>
      have hc1 : ((k + 1 : Nat) : Int) - 1 = (k : Int) := by omega
      rw [hc1] at e10
      have rr := cU_at (d := dc) (i := lo) (by omega)
      obtain ⟨y, hy⟩ : ∃ y, y = lo + k := ⟨_, rfl⟩
      rw [heapPop, ← hy] at hres
      have rc := cU_at (d := dc) (i := y) (by omega)
      have hp2 : ((lo : Int) + (k : Int)).toNat = y := by omega
      simp -dsimp (maxSteps := 4000000) (disch := first | omega | assumption | (simp only [FB, Nat.reduceAdd]; done) | (simp only [LB]; omega)) only [EB, ↓reduceIte, WB, Nat.reduceSub, Nat.reduceAdd, Int.reduceEq, Int.reduceNe, Int.reduceLT, Int.reduceLE, Int.reduceAdd, Int.reduceSub, Int.reduceMul, Int.reduceNeg, Int.reduceToNat, Nat.reduceEqDiff, Nat.reduceLT, Nat.reduceLeDiff, Nat.reduceMul, List.replicate, reduceCtorEq, TB, NB, MB, e0, e6, e7, e10, show (0 : Int) ≤ k by omega]
      refine code_draw [(0, 1), (0, 2), (0, 3), (0, 4), (0, 5), (0, 6), (0, 7), (0, 8), (0, 9), (0, 10), (0, 11), (0, 12), (0, 13), (0, 14), (0, 15), (1, 2), (1, 3), (1, 4), (1, 5), (1, 6), (1, 7), (1, 8), (1, 9), (1, 10), (1, 11), (1, 12), (1, 13), (1, 14), (1, 15), (2, 3), (2, 4), (2, 5), (2, 6), (2, 7), (2, 8), (2, 9), (2, 10), (2, 11), (2, 12), (2, 13), (2, 14), (2, 15), (2, 16), (2, 17), (3, 4), (3, 6), (3, 7), (3, 8), (3, 9), (3, 10), (3, 11), (3, 12), (3, 13), (3, 14), (3, 15), (3, 16), (3, 17), (4, 6), (4, 7), (4, 8), (4, 9), (4, 10), (4, 11), (4, 12), (4, 13), (4, 14), (4, 15), (4, 16), (4, 17), (5, 6), (5, 7), (5, 8), (5, 9), (5, 10), (5, 11), (5, 12), (5, 13), (5, 14), (5, 15), (5, 16), (5, 17), (6, 7), (6, 8), (6, 9), (6, 12), (6, 13), (6, 14), (6, 15), (7, 8), (7, 12), (7, 13), (7, 14), (7, 15), (8, 12), (8, 13), (8, 14), (8, 15), (9, 12), (9, 13), (9, 14), (9, 15), (10, 12), (10, 13), (10, 14), (10, 15), (11, 12), (11, 13), (11, 14), (11, 15), (12, 13)] (by decide +kernel) (by decide +kernel) ?_
      simp -dsimp (maxSteps := 4000000) (disch := first | omega | assumption | (simp only [FB, Nat.reduceAdd]; done) | (simp only [LB]; omega)) only [EB, ↓reduceIte, WB, Nat.reduceSub, Nat.reduceAdd, Int.reduceEq, Int.reduceNe, Int.reduceLT, Int.reduceLE, Int.reduceAdd, Int.reduceSub, Int.reduceMul, Int.reduceNeg, Int.reduceToNat, Nat.reduceEqDiff, Nat.reduceLT, Nat.reduceLeDiff, Nat.reduceMul, List.replicate, reduceCtorEq, RB, Nat.reduceEqDiff, TB, NB, MB, e0, e6, e7, e10, show (lo : Int) < N by omega, show (lo : Int) + (k : Int) < N by omega, wrap64, hp2, indexAddr_slice und25 size27, load_one agg27, hqd, rr, rc, write_soil, hso, hqn1]
      rw [swap_cells (by omega) (by omega), put_twice, soil_swap r.lt hqn1 hso]
      have r2 : Row a.next a.heap q d (swp dc lo y) (n + 1) (putAt q (.cells (cU (swp dc lo y)) true) h) [q] := r.up.put rfl
      refine sift72 q sp c (swp dc lo y) 0 k lo N (by rw [size_swp]; exact hdc) (by omega) (by omega) hsz _ r2.at_ (Nat.lt_of_lt_of_le r2.lt r2.le) _ fun a' ha => ?_
      obtain ⟨n', h', ds', rfl, hn', r'⟩ := r2.call ha
      have hss : (siftDown ltInt k lo 0 (swp dc lo y)).size = N := by
        have := sift_size ltInt k lo 0 (swp dc lo y)
        rw [this, size_swp]; exact hdc
      simp -dsimp (maxSteps := 4000000) (disch := first | omega | assumption | (simp only [FB, Nat.reduceAdd]; done) | (simp only [LB]; omega)) only [EB, ↓reduceIte, WB, Nat.reduceSub, Nat.reduceAdd, Int.reduceEq, Int.reduceNe, Int.reduceLT, Int.reduceLE, Int.reduceAdd, Int.reduceSub, Int.reduceMul, Int.reduceNeg, Int.reduceToNat, Nat.reduceEqDiff, Nat.reduceLT, Nat.reduceLeDiff, Nat.reduceMul, List.replicate, reduceCtorEq, TB, NB, MB, e0, e6, e7, e10, wrap64]
      refine ⟨trivial, k, by omega, n', _, h', ds', _, by omega, hss, hres, rfl, r', rfl, ?_⟩
      simp only [ups_at, ↓reduceIte, Nat.reduceEqDiff]
      exact ⟨e0, e6, e7, (by first | trivial | rfl | omega)⟩
    | zero =>
      have hres' : dc = D2 := hres
      subst hres'
      simp -dsimp (maxSteps := 4000000) (disch := first | omega | assumption | (simp only [FB, Nat.reduceAdd]; done) | (simp only [LB]; omega)) only [EB, ↓reduceIte, WB, Nat.reduceSub, Nat.reduceAdd, Int.reduceEq, Int.reduceNe, Int.reduceLT, Int.reduceLE, Int.reduceAdd, Int.reduceSub, Int.reduceMul, Int.reduceNeg, Int.reduceToNat, Nat.reduceEqDiff, Nat.reduceLT, Nat.reduceLeDiff, Nat.reduceMul, List.replicate, reduceCtorEq, TB, NB, MB, e0, e6, e7, e10, show ¬ (0 : Int) ≤ ((0 : Nat) : Int) - 1 by omega]
      obtain ⟨a', e1, ha⟩ := r.leave (bs := a.base) (ds0 := a.dirty) (vs := []) rfl
      rw [e1]
      exact hK a' ha
end Go.Proofs.YtlbmjpmonaekgaaAM
