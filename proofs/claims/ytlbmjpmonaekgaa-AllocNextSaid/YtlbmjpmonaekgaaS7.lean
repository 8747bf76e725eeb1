/- Chapter 14: the pivot chosen; patterns broken. -/
import Derived.Test.YtlbmjpmonaekgaaS6
namespace Go.Proofs.YtlbmjpmonaekgaaAM
open Go Go.RowKit Go.Sort
set_option linter.unusedVariables false
set_option linter.unusedSimpArgs false
set_option maxRecDepth 10000
set_option maxHeartbeats 4000000

theorem soilW_own {bs : Nat} {d : List Nat} {i : Nat} (h : bs ≤ i) : soilW bs d i = d := by
  have : ¬ i < bs := by omega
  simp [soilW, this]
theorem own_call {n0 p n : Nat} {h : List (Nat × Blk)} {a' : AW} {s s' : Int} (ha : AftC ⟨n, h, n0, []⟩ a' p s s') (hp : n0 ≤ p) (hpn : p < n) (hps : look p h = some (.cells [.int .i64 s] true)) : ∃ n' h', a' = ⟨n', h', n0, []⟩ ∧ n ≤ n' ∧ look p h' = some (.cells [.int .i64 s'] true) ∧ ∀ j, j < n → j ≠ p → look j h' = look j h := by
  rcases ha with ⟨rfl, rfl⟩ | ⟨h1, h2, h3, h4, h5⟩
  · exact ⟨_, _, rfl, Nat.le_refl _, hps, fun _ _ _ => rfl⟩
  · obtain ⟨n', h', b', ds'⟩ := a'
    simp only at h1 h2 h3 h4 h5
    rw [soilW_own hp] at h2
    subst h1 h2
    exact ⟨n', h', rfl, h3, h4, h5⟩
theorem piv65 (q : Nat) (sp : Option Nat) (c : Nat) (d : Array Int) (lo hi N : Nat) (hN : d.size = N) (hlo : lo + 13 ≤ hi) (hhi : hi ≤ N) (hsz : N ≤ 1000000) (a : AW) (hq : look q a.heap = some (.cells (cU d) true)) (hqn : q < a.next) (K : Value → AW → Prop)
    (hK : ∀ (m : Nat) (ht : Int), lo ≤ m → m < hi → K (.tuple #[.int .i64 m, .int .i64 ht]) a) : WCall Try.prog GC 65 [.slice (some ⟨q, 0, sp⟩) N c, .int .i64 lo, .int .i64 hi] a K := by
  rw [call_env Try.func65 rfl Try.ntmps65 rfl rfl (by simp)]
  obtain ⟨L, hL⟩ : ∃ L, L = hi - lo := ⟨_, rfl⟩
  have hb0 : (hi : Int) - (lo : Int) = (L : Int) := by omega
  obtain ⟨g, hg⟩ : ∃ g, g = L / 4 := ⟨_, rfl⟩
  have hb1 : (L : Int).tdiv 4 = (g : Int) := by rw [Int.tdiv_eq_ediv_of_nonneg (by omega)]; omega
  have hb1' : (L : Int) / 4 = (g : Int) := by omega
  obtain ⟨x, hx⟩ : ∃ x, x = lo + g := ⟨_, rfl⟩
  obtain ⟨y, hy⟩ : ∃ y, y = lo + g * 2 := ⟨_, rfl⟩
  obtain ⟨z, hz⟩ : ∃ z, z = lo + g * 3 := ⟨_, rfl⟩
  have hx1 : (lo : Int) + (g : Int) * 1 = (x : Int) := by omega
  have hy1 : (lo : Int) + (g : Int) * 2 = (y : Int) := by omega
  have hz1 : (lo : Int) + (g : Int) * 3 = (z : Int) := by omega
  have hqh : look q ((a.next, Blk.cells [Value.int .i64 0] true) :: a.heap) = some (.cells (cU d) true) := by rw [look_miss (by omega)]; exact hq
  simp -dsimp (maxSteps := 4000000) (disch := first | omega | assumption | (simp only [FB, Nat.reduceAdd]; done) | (simp only [LB]; omega)) only [EB, ↓reduceIte, WB, Nat.reduceSub, Nat.reduceAdd, Int.reduceEq, Int.reduceNe, Int.reduceLT, Int.reduceLE, Int.reduceAdd, Int.reduceSub, Int.reduceMul, Int.reduceNeg, Int.reduceToNat, Nat.reduceEqDiff, Nat.reduceLT, Nat.reduceLeDiff, Nat.reduceMul, List.replicate, reduceCtorEq, TB, NB, MB, wrap64, hb0, hb1, hb1', hx1, hy1, hz1, z3]
  by_cases h50 : 50 ≤ L
  · simp -dsimp (maxSteps := 4000000) (disch := first | omega | assumption | (simp only [FB, Nat.reduceAdd]; done) | (simp only [LB]; omega)) only [EB, ↓reduceIte, WB, Nat.reduceSub, Nat.reduceAdd, Int.reduceEq, Int.reduceNe, Int.reduceLT, Int.reduceLE, Int.reduceAdd, Int.reduceSub, Int.reduceMul, Int.reduceNeg, Int.reduceToNat, Nat.reduceEqDiff, Nat.reduceLT, Nat.reduceLeDiff, Nat.reduceMul, List.replicate, reduceCtorEq, TB, NB, MB, wrap64, show (8 : Int) ≤ L by omega, show (50 : Int) ≤ L by omega]
    refine adj75 q a.next sp c d x N 0 hN (by omega) (by omega) hsz (by omega) ⟨a.next + 1, (a.next, Blk.cells [Value.int .i64 0] true) :: a.heap, a.next, []⟩ hqh (Nat.lt_succ_of_lt hqn) look_self (Nat.lt_succ_self _) (Nat.ne_of_lt hqn) _ fun a1 m1 s1 h1 b1 l1 u1 => ?_
    obtain ⟨n1, g1, rfl, hn1, hp1, hk1⟩ := own_call h1 (Nat.le_refl _) (Nat.lt_succ_self _) look_self
    have hq1 : look q g1 = some (.cells (cU d) true) := by rw [hk1 q (by omega) (by omega)]; exact hqh
    simp -dsimp (maxSteps := 4000000) (disch := first | omega | assumption | (simp only [FB, Nat.reduceAdd]; done) | (simp only [LB]; omega)) only [EB, ↓reduceIte, WB, Nat.reduceSub, Nat.reduceAdd, Int.reduceEq, Int.reduceNe, Int.reduceLT, Int.reduceLE, Int.reduceAdd, Int.reduceSub, Int.reduceMul, Int.reduceNeg, Int.reduceToNat, Nat.reduceEqDiff, Nat.reduceLT, Nat.reduceLeDiff, Nat.reduceMul, List.replicate, reduceCtorEq, TB, NB, MB, ]
    refine adj75 q a.next sp c d y N s1 hN (by omega) (by omega) hsz (by omega) ⟨n1, g1, a.next, []⟩ hq1 (by simp only; omega) hp1 (by simp only; omega) (Nat.ne_of_lt hqn) _ fun a2 m2 s2 h2 b2 l2 u2 => ?_
    obtain ⟨n2, g2, rfl, hn2, hp2, hk2⟩ := own_call h2 (Nat.le_refl _) (by omega) hp1
    have hq2 : look q g2 = some (.cells (cU d) true) := by rw [hk2 q (by omega) (by omega)]; exact hq1
    simp -dsimp (maxSteps := 4000000) (disch := first | omega | assumption | (simp only [FB, Nat.reduceAdd]; done) | (simp only [LB]; omega)) only [EB, ↓reduceIte, WB, Nat.reduceSub, Nat.reduceAdd, Int.reduceEq, Int.reduceNe, Int.reduceLT, Int.reduceLE, Int.reduceAdd, Int.reduceSub, Int.reduceMul, Int.reduceNeg, Int.reduceToNat, Nat.reduceEqDiff, Nat.reduceLT, Nat.reduceLeDiff, Nat.reduceMul, List.replicate, reduceCtorEq, TB, NB, MB, ]
    refine adj75 q a.next sp c d z N s2 hN (by omega) (by omega) hsz (by omega) ⟨n2, g2, a.next, []⟩ hq2 (by simp only; omega) hp2 (by simp only; omega) (Nat.ne_of_lt hqn) _ fun a3 m3 s3 h3 b3 l3 u3 => ?_
    obtain ⟨n3, g3, rfl, hn3, hp3, hk3⟩ := own_call h3 (Nat.le_refl _) (by omega) hp2
    have hq3 : look q g3 = some (.cells (cU d) true) := by rw [hk3 q (by omega) (by omega)]; exact hq2
    simp -dsimp (maxSteps := 4000000) (disch := first | omega | assumption | (simp only [FB, Nat.reduceAdd]; done) | (simp only [LB]; omega)) only [EB, ↓reduceIte, WB, Nat.reduceSub, Nat.reduceAdd, Int.reduceEq, Int.reduceNe, Int.reduceLT, Int.reduceLE, Int.reduceAdd, Int.reduceSub, Int.reduceMul, Int.reduceNeg, Int.reduceToNat, Nat.reduceEqDiff, Nat.reduceLT, Nat.reduceLeDiff, Nat.reduceMul, List.replicate, reduceCtorEq, TB, NB, MB, ]
    refine med76 q a.next sp c d m1 m2 m3 N s3 hN (by omega) (by omega) (by omega) hsz (by omega) ⟨n3, g3, a.next, []⟩ hq3 (by simp only; omega) hp3 (by simp only; omega) (Nat.ne_of_lt hqn) _ fun a4 m4 s4 h4 b4 l4 u4 => ?_
    obtain ⟨n4, g4, rfl, hn4, hp4, hk4⟩ := own_call h4 (Nat.le_refl _) (by omega) hp3
    by_cases hz0 : s4 = 0
    · subst hz0
      simp -dsimp (maxSteps := 4000000) (disch := first | omega | assumption | (simp only [FB, Nat.reduceAdd]; done) | (simp only [LB]; omega)) only [EB, ↓reduceIte, WB, Nat.reduceSub, Nat.reduceAdd, Int.reduceEq, Int.reduceNe, Int.reduceLT, Int.reduceLE, Int.reduceAdd, Int.reduceSub, Int.reduceMul, Int.reduceNeg, Int.reduceToNat, Nat.reduceEqDiff, Nat.reduceLT, Nat.reduceLeDiff, Nat.reduceMul, List.replicate, reduceCtorEq, TB, NB, MB, hp4, load_one agg3, eq_self]
      exact hK m4 1 (by omega) (by omega)
    · by_cases h12 : s4 = 12
      · subst h12
        simp -dsimp (maxSteps := 4000000) (disch := first | omega | assumption | (simp only [FB, Nat.reduceAdd]; done) | (simp only [LB]; omega)) only [EB, ↓reduceIte, WB, Nat.reduceSub, Nat.reduceAdd, Int.reduceEq, Int.reduceNe, Int.reduceLT, Int.reduceLE, Int.reduceAdd, Int.reduceSub, Int.reduceMul, Int.reduceNeg, Int.reduceToNat, Nat.reduceEqDiff, Nat.reduceLT, Nat.reduceLeDiff, Nat.reduceMul, List.replicate, reduceCtorEq, TB, NB, MB, hp4, load_one agg3, eq_self]
        exact hK m4 2 (by omega) (by omega)
      · simp -dsimp (maxSteps := 4000000) (disch := first | omega | assumption | (simp only [FB, Nat.reduceAdd]; done) | (simp only [LB]; omega)) only [EB, ↓reduceIte, WB, Nat.reduceSub, Nat.reduceAdd, Int.reduceEq, Int.reduceNe, Int.reduceLT, Int.reduceLE, Int.reduceAdd, Int.reduceSub, Int.reduceMul, Int.reduceNeg, Int.reduceToNat, Nat.reduceEqDiff, Nat.reduceLT, Nat.reduceLeDiff, Nat.reduceMul, List.replicate, reduceCtorEq, TB, NB, MB, hp4, load_one agg3, hz0, h12]
        exact hK m4 0 (by omega) (by omega)
  · simp -dsimp (maxSteps := 4000000) (disch := first | omega | assumption | (simp only [FB, Nat.reduceAdd]; done) | (simp only [LB]; omega)) only [EB, ↓reduceIte, WB, Nat.reduceSub, Nat.reduceAdd, Int.reduceEq, Int.reduceNe, Int.reduceLT, Int.reduceLE, Int.reduceAdd, Int.reduceSub, Int.reduceMul, Int.reduceNeg, Int.reduceToNat, Nat.reduceEqDiff, Nat.reduceLT, Nat.reduceLeDiff, Nat.reduceMul, List.replicate, reduceCtorEq, TB, NB, MB, wrap64, show (8 : Int) ≤ L by omega, show ¬ (50 : Int) ≤ L by omega]
    refine med76 q a.next sp c d x y z N 0 hN (by omega) (by omega) (by omega) hsz (by omega) ⟨a.next + 1, (a.next, Blk.cells [Value.int .i64 0] true) :: a.heap, a.next, []⟩ hqh (Nat.lt_succ_of_lt hqn) look_self (Nat.lt_succ_self _) (Nat.ne_of_lt hqn) _ fun a4 m4 s4 h4 b4 l4 u4 => ?_
    obtain ⟨n4, g4, rfl, hn4, hp4, hk4⟩ := own_call h4 (Nat.le_refl _) (Nat.lt_succ_self _) look_self
    by_cases hz0 : s4 = 0
    · subst hz0
      simp -dsimp (maxSteps := 4000000) (disch := first | omega | assumption | (simp only [FB, Nat.reduceAdd]; done) | (simp only [LB]; omega)) only [EB, ↓reduceIte, WB, Nat.reduceSub, Nat.reduceAdd, Int.reduceEq, Int.reduceNe, Int.reduceLT, Int.reduceLE, Int.reduceAdd, Int.reduceSub, Int.reduceMul, Int.reduceNeg, Int.reduceToNat, Nat.reduceEqDiff, Nat.reduceLT, Nat.reduceLeDiff, Nat.reduceMul, List.replicate, reduceCtorEq, TB, NB, MB, hp4, load_one agg3, eq_self]
      exact hK m4 1 (by omega) (by omega)
    · by_cases h12 : s4 = 12
      · subst h12
        simp -dsimp (maxSteps := 4000000) (disch := first | omega | assumption | (simp only [FB, Nat.reduceAdd]; done) | (simp only [LB]; omega)) only [EB, ↓reduceIte, WB, Nat.reduceSub, Nat.reduceAdd, Int.reduceEq, Int.reduceNe, Int.reduceLT, Int.reduceLE, Int.reduceAdd, Int.reduceSub, Int.reduceMul, Int.reduceNeg, Int.reduceToNat, Nat.reduceEqDiff, Nat.reduceLT, Nat.reduceLeDiff, Nat.reduceMul, List.replicate, reduceCtorEq, TB, NB, MB, hp4, load_one agg3, eq_self]
        exact hK m4 2 (by omega) (by omega)
      · simp -dsimp (maxSteps := 4000000) (disch := first | omega | assumption | (simp only [FB, Nat.reduceAdd]; done) | (simp only [LB]; omega)) only [EB, ↓reduceIte, WB, Nat.reduceSub, Nat.reduceAdd, Int.reduceEq, Int.reduceNe, Int.reduceLT, Int.reduceLE, Int.reduceAdd, Int.reduceSub, Int.reduceMul, Int.reduceNeg, Int.reduceToNat, Nat.reduceEqDiff, Nat.reduceLT, Nat.reduceLeDiff, Nat.reduceMul, List.replicate, reduceCtorEq, TB, NB, MB, hp4, load_one agg3, hz0, h12]
        exact hK m4 0 (by omega) (by omega)
theorem wrap8 (n : Nat) (hn : n < 256) : IntKind.wrap .u8 (n : Int) = (n : Int) := by
  show (if (false && decide ((n : Int) % 256 ≥ 128)) = true then (n : Int) % 256 - 256 else (n : Int) % 256) = _
  simp only [Bool.false_and, Bool.false_eq_true, if_false]
  omega
theorem tab_ok (T : List UInt8) (hT : (List.range 256).all (fun n => decide (n < T.length) && (T.getD n 0).toNat == bitsLen n) = true) {n : Nat} (hn : n < 256) : indexA Try.prog 9 (.string (mkStr T)) (.int .u8 n) = some (.int .u8 (bitsLen n : Nat)) := by
  have h := List.all_eq_true.1 hT n (List.mem_range.2 hn)
  simp only [Bool.and_eq_true, decide_eq_true_eq, beq_iff_eq] at h
  rw [index_str und9 (by omega) (by omega), Int.toNat_natCast, h.2]
theorem bits_bd (n : Nat) (hn : n < 65536) : bitsLen n ≤ 16 := (bitsLen_le_iff n 16).2 (by omega)
theorem bits_hi (n : Nat) (h1 : 256 ≤ n) : bitsLen (n / 256) + 8 = bitsLen n := by
  have e : ∀ k, bitsLen (n / 256) ≤ k ↔ bitsLen n ≤ k + 8 := by
    intro k
    rw [bitsLen_le_iff, bitsLen_le_iff, Nat.pow_add, Nat.div_lt_iff_lt_mul (by omega)]
  have a1 := (e _).1 (Nat.le_refl _)
  have a2 : 8 ≤ bitsLen n := by
    rcases Nat.lt_or_ge (bitsLen n) 8 with h | h
    · have := (bitsLen_le_iff n 8).1 (by omega); omega
    · exact h
  have a3 := (e (bitsLen n - 8)).2 (by omega)
  omega
theorem len71 (n : Nat) (hn : n < 65536) (a : AW) (K) : WCall Try.prog GC 71 [.int .u64 n] a K = K (.int .i64 (bitsLen n : Nat)) a := by
  refine call_eq ?_ K
  rw [call_env Try.func71 rfl Try.ntmps71 rfl rfl (by simp)]
  have hb := bits_bd n hn
  by_cases h256 : n < 256
  · simp -dsimp (maxSteps := 4000000) (disch := first | omega | assumption | (simp only [FB, Nat.reduceAdd]; done) | (simp only [LB]; omega)) only [EB, ↓reduceIte, WB, Nat.reduceSub, Nat.reduceAdd, Int.reduceEq, Int.reduceNe, Int.reduceLT, Int.reduceLE, Int.reduceAdd, Int.reduceSub, Int.reduceMul, Int.reduceNeg, Int.reduceToNat, Nat.reduceEqDiff, Nat.reduceLT, Nat.reduceLeDiff, Nat.reduceMul, List.replicate, reduceCtorEq, TB, NB, MB, show ¬ (4294967296 : Int) ≤ n by omega, show ¬ (65536 : Int) ≤ n by omega, show ¬ (256 : Int) ≤ n by omega, wrap8 n h256]
    rw [tab_ok _ (by decide +kernel) h256]
    simp -dsimp (maxSteps := 4000000) (disch := first | omega | assumption | (simp only [FB, Nat.reduceAdd]; done) | (simp only [LB]; omega)) only [EB, ↓reduceIte, WB, Nat.reduceSub, Nat.reduceAdd, Int.reduceEq, Int.reduceNe, Int.reduceLT, Int.reduceLE, Int.reduceAdd, Int.reduceSub, Int.reduceMul, Int.reduceNeg, Int.reduceToNat, Nat.reduceEqDiff, Nat.reduceLT, Nat.reduceLeDiff, Nat.reduceMul, List.replicate, reduceCtorEq, TB, NB, MB, wrap64, Int.zero_add]
    exact ⟨(by first | trivial | rfl | omega), (by first | trivial | rfl | omega)⟩
  · have hf : (n : Int).fdiv (2 ^ (min 8 (IntKind.bits .u64))) = ((n / 256 : Nat) : Int) := by
      show (n : Int).fdiv 256 = _
      rw [Int.fdiv_eq_ediv_of_nonneg _ (by omega)]; omega
    have h8 := bits_hi n (by omega)
    have h9 : ((8 : Int) + (bitsLen (n / 256) : Nat)) = (bitsLen n : Nat) := by omega
    simp -dsimp (maxSteps := 4000000) (disch := first | omega | assumption | (simp only [FB, Nat.reduceAdd]; done) | (simp only [LB]; omega)) only [EB, ↓reduceIte, WB, Nat.reduceSub, Nat.reduceAdd, Int.reduceEq, Int.reduceNe, Int.reduceLT, Int.reduceLE, Int.reduceAdd, Int.reduceSub, Int.reduceMul, Int.reduceNeg, Int.reduceToNat, Nat.reduceEqDiff, Nat.reduceLT, Nat.reduceLeDiff, Nat.reduceMul, List.replicate, reduceCtorEq, TB, NB, MB, show ¬ (4294967296 : Int) ≤ n by omega, show ¬ (65536 : Int) ≤ n by omega, show (256 : Int) ≤ n by omega, bin_shr, hf, wrap64, Int.zero_add, wrap8 (n / 256) (by omega)]
    rw [tab_ok _ (by decide +kernel) (show n / 256 < 256 by omega)]
    simp -dsimp (maxSteps := 4000000) (disch := first | omega | assumption | (simp only [FB, Nat.reduceAdd]; done) | (simp only [LB]; omega)) only [EB, ↓reduceIte, WB, Nat.reduceSub, Nat.reduceAdd, Int.reduceEq, Int.reduceNe, Int.reduceLT, Int.reduceLE, Int.reduceAdd, Int.reduceSub, Int.reduceMul, Int.reduceNeg, Int.reduceToNat, Nat.reduceEqDiff, Nat.reduceLT, Nat.reduceLeDiff, Nat.reduceMul, List.replicate, reduceCtorEq, TB, NB, MB, wrap64, h9]
    exact ⟨(by first | trivial | rfl | omega), (by first | trivial | rfl | omega)⟩
theorem len60 (n : Nat) (hn : n < 65536) (a : AW) (K) : WCall Try.prog GC 60 [.int .u64 n] a K = K (.int .i64 (bitsLen n : Nat)) a := by
  refine call_eq ?_ K
  rw [call_env Try.func60 rfl Try.ntmps60 rfl rfl (by simp)]
  simp -dsimp (maxSteps := 4000000) (disch := first | omega | assumption | (simp only [FB, Nat.reduceAdd]; done) | (simp only [LB]; omega)) only [EB, ↓reduceIte, WB, Nat.reduceSub, Nat.reduceAdd, Int.reduceEq, Int.reduceNe, Int.reduceLT, Int.reduceLE, Int.reduceAdd, Int.reduceSub, Int.reduceMul, Int.reduceNeg, Int.reduceToNat, Nat.reduceEqDiff, Nat.reduceLT, Nat.reduceLeDiff, Nat.reduceMul, List.replicate, reduceCtorEq, TB, NB, MB, len71 n hn]
  exact ⟨(by first | trivial | rfl | omega), (by first | trivial | rfl | omega)⟩
end Go.Proofs.YtlbmjpmonaekgaaAM
