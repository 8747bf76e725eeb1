/- Chapter 14: patterns broken. -/
import Derived.Test.YtlbmjpmonaekgaaS7
namespace Go.Proofs.YtlbmjpmonaekgaaAM
open Go Go.RowKit Go.Sort
set_option linter.unusedVariables false
set_option linter.unusedSimpArgs false
set_option maxRecDepth 10000
set_option maxHeartbeats 4000000

theorem pow73 (n : Nat) (hn : n < 65536) (a : AW) (K) : WCall Try.prog GC 73 [.int .i64 n] a K = K (.int .u64 (2 ^ bitsLen n : Nat)) a := by
  refine call_eq ?_ K
  rw [call_env Try.func73 rfl Try.ntmps73 rfl rfl (by simp)]
  have hb := bits_bd n hn
  have hp : (2 : Nat) ^ bitsLen n ≤ 2 ^ 16 := Nat.pow_le_pow_right (by omega) hb
  rw [show (2 : Nat) ^ 16 = 65536 from rfl] at hp
  have hm : min (bitsLen n) (IntKind.bits .u64) = bitsLen n := by
    show min (bitsLen n) 64 = bitsLen n; omega
  have l60 := fun a K => len60 n hn a K
  have hw : IntKind.wrap .u64 ((1 : Int) * 2 ^ (min (bitsLen n) (IntKind.bits .u64))) = ((2 ^ bitsLen n : Nat) : Int) := by
    rw [hm, Int.one_mul]
    have h2 : (2 : Int) ^ bitsLen n = ((2 ^ bitsLen n : Nat) : Int) := by rw [Int.natCast_pow]; rfl
    rw [h2]
    generalize 2 ^ bitsLen n = M at *
    rw [wrapu64 (by omega) (by omega)]
  simp -dsimp (maxSteps := 4000000) (disch := first | omega | assumption | (simp only [FB, Nat.reduceAdd]; done) | (simp only [LB]; omega)) only [EB, ↓reduceIte, WB, Nat.reduceSub, Nat.reduceAdd, Int.reduceEq, Int.reduceNe, Int.reduceLT, Int.reduceLE, Int.reduceAdd, Int.reduceSub, Int.reduceMul, Int.reduceNeg, Int.reduceToNat, Nat.reduceEqDiff, Nat.reduceLT, Nat.reduceLeDiff, Nat.reduceMul, List.replicate, reduceCtorEq, TB, NB, MB, wrapu64, l60, bin_shl, hw]
  exact ⟨(by first | trivial | rfl | omega), (by first | trivial | rfl | omega)⟩
theorem soil_sw1 {n0 N q : Nat} {ds : List Nat} (hq : q < n0) (hN : q < N) (hs : soilW n0 ds q = [q]) : soilAll ds n0 (soilW N [] q) = [q] := by
  rw [soil_one hN]
  exact hs
theorem next74 (p : Nat) (E : Int) (a : AW) (hp : look p a.heap = some (.cells [.int .u64 E] true)) (hpn : p < a.next) (K : Value → AW → Prop)
    (hK : ∀ a' (E' : Int), a'.base = a.base → a'.dirty = soilW a.base a.dirty p → a.next ≤ a'.next → look p a'.heap = some (.cells [.int .u64 E'] true) → (∀ j, j < a.next → j ≠ p → look j a'.heap = look j a.heap) → K (.int .u64 E') a') : WCall Try.prog GC 74 [.pointer (some ⟨p, 0, none⟩)] a K := by
  rw [call_env Try.func74 rfl Try.ntmps74 rfl rfl (by simp)]
  have q1 : p < a.next + 1 := by omega
  have q2 : p < a.next + 2 := by omega
  have q3 : p < a.next + 3 := by omega
  have s0 := soil_one hpn
  have s1 := soil_same hpn
  have t1 := soil_one q1
  have t2 := soil_one q2
  have t3 := soil_one q3
  have u1 : soilAll [] a.next [p] = [p] := s0
  have u2 : soilAll [p] a.next [p] = [p] := s1
  simp -dsimp (maxSteps := 4000000) (disch := first | omega | assumption | (simp only [FB, Nat.reduceAdd]; done) | (simp only [LB]; omega)) only [EB, ↓reduceIte, WB, Nat.reduceSub, Nat.reduceAdd, Int.reduceEq, Int.reduceNe, Int.reduceLT, Int.reduceLE, Int.reduceAdd, Int.reduceSub, Int.reduceMul, Int.reduceNeg, Int.reduceToNat, Nat.reduceEqDiff, Nat.reduceLT, Nat.reduceLeDiff, Nat.reduceMul, List.replicate, reduceCtorEq, TB, NB, MB, ]
  refine code_draw [(0, 3), (0, 4), (0, 5), (0, 6), (1, 3), (1, 4), (1, 5), (1, 6), (2, 3), (2, 4), (2, 5), (2, 6)] (by decide +kernel) (by decide +kernel) ?_
  simp -dsimp (maxSteps := 4000000) (disch := first | omega | assumption | (simp only [FB, Nat.reduceAdd]; done) | (simp only [LB]; omega)) only [EB, ↓reduceIte, WB, Nat.reduceSub, Nat.reduceAdd, Int.reduceEq, Int.reduceNe, Int.reduceLT, Int.reduceLE, Int.reduceAdd, Int.reduceSub, Int.reduceMul, Int.reduceNeg, Int.reduceToNat, Nat.reduceEqDiff, Nat.reduceLT, Nat.reduceLeDiff, Nat.reduceMul, List.replicate, reduceCtorEq, RB, Nat.reduceEqDiff, TB, NB, MB, hp, nilCheck_ptr, load_one agg91, write_soil, bin_shl, bin_xor, s0, q1, t1, u1, u2]
  generalize IntKind.wrap .u64 ((BitVec.ofInt (IntKind.bits .u64) E ^^^ _).toNat : Int) = E1
  have hp1 : look p (putAt p (.cells [.int .u64 E1] true) a.heap) = some (.cells [.int .u64 E1] true) := look_put1 hp
  refine code_draw [(0, 3), (0, 4), (0, 5), (0, 6), (1, 3), (1, 4), (1, 5), (1, 6), (2, 3), (2, 4), (2, 5), (2, 6)] (by decide +kernel) (by decide +kernel) ?_
  simp -dsimp (maxSteps := 4000000) (disch := first | omega | assumption | (simp only [FB, Nat.reduceAdd]; done) | (simp only [LB]; omega)) only [EB, ↓reduceIte, WB, Nat.reduceSub, Nat.reduceAdd, Int.reduceEq, Int.reduceNe, Int.reduceLT, Int.reduceLE, Int.reduceAdd, Int.reduceSub, Int.reduceMul, Int.reduceNeg, Int.reduceToNat, Nat.reduceEqDiff, Nat.reduceLT, Nat.reduceLeDiff, Nat.reduceMul, List.replicate, reduceCtorEq, RB, Nat.reduceEqDiff, TB, NB, MB, hp1, nilCheck_ptr, load_one agg91, write_soil, bin_shr, bin_xor, s0, s1, q1, q2, t1, t2, u1, u2]
  generalize IntKind.wrap .u64 ((BitVec.ofInt (IntKind.bits .u64) E1 ^^^ _).toNat : Int) = E2
  rw [put_twice]
  have hp2 : look p (putAt p (.cells [.int .u64 E2] true) a.heap) = some (.cells [.int .u64 E2] true) := look_put1 hp
  refine code_draw [(0, 3), (0, 4), (0, 5), (0, 6), (1, 3), (1, 4), (1, 5), (1, 6), (2, 3), (2, 4), (2, 5), (2, 6)] (by decide +kernel) (by decide +kernel) ?_
  simp -dsimp (maxSteps := 4000000) (disch := first | omega | assumption | (simp only [FB, Nat.reduceAdd]; done) | (simp only [LB]; omega)) only [EB, ↓reduceIte, WB, Nat.reduceSub, Nat.reduceAdd, Int.reduceEq, Int.reduceNe, Int.reduceLT, Int.reduceLE, Int.reduceAdd, Int.reduceSub, Int.reduceMul, Int.reduceNeg, Int.reduceToNat, Nat.reduceEqDiff, Nat.reduceLT, Nat.reduceLeDiff, Nat.reduceMul, List.replicate, reduceCtorEq, RB, Nat.reduceEqDiff, TB, NB, MB, hp2, nilCheck_ptr, load_one agg91, write_soil, bin_shl, bin_xor, s0, s1, q1, q2, q3, t1, t2, t3, u1, u2]
  generalize IntKind.wrap .u64 ((BitVec.ofInt (IntKind.bits .u64) E2 ^^^ _).toNat : Int) = E3
  rw [put_twice]
  have hp3 : look p (putAt p (.cells [.int .u64 E3] true) a.heap) = some (.cells [.int .u64 E3] true) := look_put1 hp
  rw [leave_soil]
  exact hK _ E3 rfl rfl (by simp only; omega) hp3 fun j h1 h2 => look_wput_ne h2
theorem break64 (q : Nat) (sp : Option Nat) (c : Nat) (d : Array Int) (lo hi N : Nat) (hN : d.size = N) (hlo : lo + 13 ≤ hi) (hhi : hi ≤ N) (hsz : N < 65536) (a : AW) (hq : look q a.heap = some (.cells (cU d) true)) (hqn : q < a.next) (K : Value → AW → Prop)
    (hK : ∀ a' d', PermIn lo hi d d' → Aft a a' q d d' → K (.tuple #[]) a') : WCall Try.prog GC 64 [.slice (some ⟨q, 0, sp⟩) N c, .int .i64 lo, .int .i64 hi] a K := by
  rw [call_env Try.func64 rfl Try.ntmps64 rfl rfl (by simp)]
  obtain ⟨L, hL⟩ : ∃ L, L = hi - lo := ⟨_, rfl⟩
  have hb0 : (hi : Int) - (lo : Int) = (L : Int) := by omega
  obtain ⟨g, hg⟩ : ∃ g, g = L / 4 := ⟨_, rfl⟩
  have hb1 : (L : Int).tdiv 4 = (g : Int) := by rw [Int.tdiv_eq_ediv_of_nonneg (by omega)]; omega
  have hb1' : (L : Int) / 4 = (g : Int) := by omega
  obtain ⟨y, hy⟩ : ∃ y, y = lo + g * 2 - 1 := ⟨_, rfl⟩
  have hy1 : (lo : Int) + (g : Int) * 2 - 1 = (y : Int) := by omega
  have hy2 : (lo : Int) + (g : Int) * 2 + 1 = ((y + 2 : Nat) : Int) := by omega
  obtain ⟨M, hM⟩ : ∃ M, M = 2 ^ bitsLen L := ⟨_, rfl⟩
  have hM1 : L < M := by rw [hM]; exact lt_two_pow_bitsLen L
  have hM2 : M ≤ 2 * L := by rw [hM]; exact two_pow_bitsLen_le (by omega)
  have hpw := fun a K => pow73 L (by omega) a K
  rw [← hM] at hpw
  have hMc : (M : Int) - 1 = ((M - 1 : Nat) : Int) := by omega
  simp -dsimp (maxSteps := 4000000) (disch := first | omega | assumption | (simp only [FB, Nat.reduceAdd]; done) | (simp only [LB]; omega)) only [EB, ↓reduceIte, WB, Nat.reduceSub, Nat.reduceAdd, Int.reduceEq, Int.reduceNe, Int.reduceLT, Int.reduceLE, Int.reduceAdd, Int.reduceSub, Int.reduceMul, Int.reduceNeg, Int.reduceToNat, Nat.reduceEqDiff, Nat.reduceLT, Nat.reduceLeDiff, Nat.reduceMul, List.replicate, reduceCtorEq, TB, NB, MB, wrap64, hb0, hb1, hb1', show (8 : Int) ≤ L by omega, op_conv_int und3 und91, conv_int und3 und91, wrapu64, z91, hpw, hy1]
  have hst : Row a.next a.heap q d d (a.next + 1) ((a.next, Blk.cells [.int .u64 (L : Int)] true) :: a.heap) [] := (Row.start hq hqn).next (Nat.le_succ _) fun j hj => look_miss (by omega)
  refine loop_inv (fun k t w => ∃ (x n : Nat) (E : Int) (dk : Array Int) (h : List (Nat × Blk)) (ds : List Nat), ∃ e, k = y + 3 - x ∧ y ≤ x ∧ x ≤ y + 3 ∧ dk.size = N ∧ PermIn lo hi d dk ∧ w = ⟨n, h, a.next, ds⟩ ∧ Row a.next a.heap q d dk n h ds ∧ a.next < n ∧ look a.next h = some (.cells [.int .u64 E] true) ∧ t = TT 65 e ∧ e 0 = .slice (some ⟨q, 0, sp⟩) N c ∧ e 1 = .int .i64 lo ∧ e 6 = .int .i64 L ∧ e 7 = .pointer (some ⟨a.next, 0, none⟩) ∧ e 8 = .int .u64 M ∧ e 9 = .int .i64 x)
    ⟨y, a.next + 1, L, d, _, [], _, rfl, Nat.le_refl _, by omega, hN, permIn_refl d lo hi, rfl, hst, Nat.lt_succ_self _, look_self, rfl, rfl, rfl, rfl, rfl, rfl, rfl⟩ ?_
  rintro k t w ⟨x, n, E, dk, h, ds, e, rfl, hx1, hx2, hdk, hperm, rfl, r, hpn, hpe, rfl, e0, e1, e6, e7, e8, e9⟩
  by_cases hlt : x ≤ y + 2
  · simp -dsimp (maxSteps := 4000000) (disch := first | omega | assumption | (simp only [FB, Nat.reduceAdd]; done) | (simp only [LB]; omega)) only [EB, ↓reduceIte, WB, Nat.reduceSub, Nat.reduceAdd, Int.reduceEq, Int.reduceNe, Int.reduceLT, Int.reduceLE, Int.reduceAdd, Int.reduceSub, Int.reduceMul, Int.reduceNeg, Int.reduceToNat, Nat.reduceEqDiff, Nat.reduceLT, Nat.reduceLeDiff, Nat.reduceMul, List.replicate, reduceCtorEq, TB, NB, MB, e0, e1, e6, e7, e8, e9, wrap64, hb1, hb1', hy2, show (x : Int) ≤ ((y + 2 : Nat) : Int) by omega]
    refine next74 a.next E ⟨n, h, a.next, ds⟩ hpe hpn _ fun a' E' z1 z2 z3 z4 z5 => ?_
    obtain ⟨n', h', b', ds'⟩ := a'
    simp only at z1 z2 z3 z4 z5
    rw [soilW_own (Nat.le_refl _)] at z2
    subst z1 z2
    have r' : Row a.next a.heap q d dk n' h' ds' := r.next z3 fun j hj => z5 j (by omega) (by omega)
    obtain ⟨V, hV⟩ : ∃ V : Nat, V = (BitVec.ofInt (IntKind.bits .u64) E' &&& BitVec.ofInt (IntKind.bits .u64) ((M - 1 : Nat) : Int)).toNat := ⟨_, rfl⟩
    have hVM : V < M := by
      rw [hV, BitVec.toNat_and]
      have : (BitVec.ofInt (IntKind.bits .u64) ((M - 1 : Nat) : Int)).toNat = M - 1 := by
        show (BitVec.ofInt 64 ((M - 1 : Nat) : Int)).toNat = M - 1
        rw [BitVec.ofInt_natCast, BitVec.toNat_ofNat, Nat.mod_eq_of_lt (by omega)]
      rw [this]
      exact Nat.lt_of_le_of_lt Nat.and_le_right (by omega)
    have hqd := r'.at_
    have hso := r'.soil
    have hqn1 : q < n' + 1 := by have := r'.le; omega
    have hlen := cU_len dk
    have rx := cU_at (d := dk) (i := x) (by omega)
    by_cases hbig : L ≤ V
    · have hVL : (V : Int) - (L : Int) = ((V - L : Nat) : Int) := by omega
      obtain ⟨z, hz⟩ : ∃ z, z = lo + (V - L) := ⟨_, rfl⟩
      have hz1 : (lo : Int) + ((V - L : Nat) : Int) = (z : Int) := by omega
      have rz := cU_at (d := dk) (i := z) (by omega)
      simp -dsimp (maxSteps := 4000000) (disch := first | omega | assumption | (simp only [FB, Nat.reduceAdd]; done) | (simp only [LB]; omega)) only [EB, ↓reduceIte, WB, Nat.reduceSub, Nat.reduceAdd, Int.reduceEq, Int.reduceNe, Int.reduceLT, Int.reduceLE, Int.reduceAdd, Int.reduceSub, Int.reduceMul, Int.reduceNeg, Int.reduceToNat, Nat.reduceEqDiff, Nat.reduceLT, Nat.reduceLeDiff, Nat.reduceMul, List.replicate, reduceCtorEq, TB, NB, MB, e0, e1, e6, e7, e8, e9, wrap64, wrapu64, hMc, bin_and, ← hV, show (L : Int) ≤ V by omega, hVL]
      refine code_draw [(0, 1), (0, 2), (0, 3), (0, 4), (0, 5), (0, 6), (0, 7), (0, 8), (0, 9), (0, 10), (0, 11), (0, 12), (0, 13), (0, 14), (0, 15), (1, 2), (1, 3), (1, 4), (1, 5), (1, 6), (1, 7), (1, 8), (1, 9), (1, 10), (1, 11), (1, 12), (1, 13), (1, 14), (1, 15), (2, 3), (2, 4), (2, 5), (2, 6), (2, 7), (2, 8), (2, 9), (2, 10), (2, 11), (2, 12), (2, 13), (2, 14), (2, 15), (2, 16), (2, 17), (3, 4), (3, 6), (3, 7), (3, 8), (3, 9), (3, 10), (3, 11), (3, 12), (3, 13), (3, 14), (3, 15), (3, 16), (3, 17), (4, 6), (4, 7), (4, 8), (4, 9), (4, 10), (4, 11), (4, 12), (4, 13), (4, 14), (4, 15), (4, 16), (4, 17), (5, 6), (5, 7), (5, 8), (5, 9), (5, 10), (5, 11), (5, 12), (5, 13), (5, 14), (5, 15), (5, 16), (5, 17), (6, 7), (6, 8), (6, 9), (6, 12), (6, 13), (6, 14), (6, 15), (7, 8), (7, 12), (7, 13), (7, 14), (7, 15), (8, 12), (8, 13), (8, 14), (8, 15), (9, 12), (9, 13), (9, 14), (9, 15), (10, 12), (10, 13), (10, 14), (10, 15), (11, 12), (11, 13), (11, 14), (11, 15), (12, 13)] (by decide +kernel) (by decide +kernel) ?_
      simp -dsimp (maxSteps := 4000000) (disch := first | omega | assumption | (simp only [FB, Nat.reduceAdd]; done) | (simp only [LB]; omega)) only [EB, ↓reduceIte, WB, Nat.reduceSub, Nat.reduceAdd, Int.reduceEq, Int.reduceNe, Int.reduceLT, Int.reduceLE, Int.reduceAdd, Int.reduceSub, Int.reduceMul, Int.reduceNeg, Int.reduceToNat, Nat.reduceEqDiff, Nat.reduceLT, Nat.reduceLeDiff, Nat.reduceMul, List.replicate, reduceCtorEq, RB, Nat.reduceEqDiff, TB, NB, MB, e0, e1, e6, e7, e8, e9, wrap64, hz1, show (x : Int) < N by omega, show (z : Int) < N by omega, indexAddr_slice und25 size27, load_one agg27, hqd, rx, rz, write_soil, hso, hqn1]
      rw [swap_cells (by omega) (by omega), put_twice, soil_swap r'.lt hqn1 hso]
      refine ⟨y + 3 - (x + 1), by omega, x + 1, _, E', swp dk x z, _, [q], _, rfl, by omega, by omega, by rw [size_swp]; exact hdk, permIn_trans _ _ _ lo hi hperm (swp_permIn dk lo hi x z (by omega) (by omega) (by omega) (by omega) (by omega)), rfl, r'.up.put rfl, by omega, by rw [look_wput_ne (by omega)]; exact z4, rfl, ?_⟩
      simp only [ups_at, ↓reduceIte, Nat.reduceEqDiff]
      exact ⟨e0, e1, e6, e7, e8, (by first | trivial | rfl | omega)⟩
    · obtain ⟨z, hz⟩ : ∃ z, z = lo + V := ⟨_, rfl⟩
      have hz1 : (lo : Int) + (V : Int) = (z : Int) := by omega
      have rz := cU_at (d := dk) (i := z) (by omega)
      simp -dsimp (maxSteps := 4000000) (disch := first | omega | assumption | (simp only [FB, Nat.reduceAdd]; done) | (simp only [LB]; omega)) only [EB, ↓reduceIte, WB, Nat.reduceSub, Nat.reduceAdd, Int.reduceEq, Int.reduceNe, Int.reduceLT, Int.reduceLE, Int.reduceAdd, Int.reduceSub, Int.reduceMul, Int.reduceNeg, Int.reduceToNat, Nat.reduceEqDiff, Nat.reduceLT, Nat.reduceLeDiff, Nat.reduceMul, List.replicate, reduceCtorEq, TB, NB, MB, e0, e1, e6, e7, e8, e9, wrap64, wrapu64, hMc, bin_and, ← hV, show ¬ (L : Int) ≤ V by omega]
      refine code_draw [(0, 1), (0, 2), (0, 3), (0, 4), (0, 5), (0, 6), (0, 7), (0, 8), (0, 9), (0, 10), (0, 11), (0, 12), (0, 13), (0, 14), (0, 15), (1, 2), (1, 3), (1, 4), (1, 5), (1, 6), (1, 7), (1, 8), (1, 9), (1, 10), (1, 11), (1, 12), (1, 13), (1, 14), (1, 15), (2, 3), (2, 4), (2, 5), (2, 6), (2, 7), (2, 8), (2, 9), (2, 10), (2, 11), (2, 12), (2, 13), (2, 14), (2, 15), (2, 16), (2, 17), (3, 4), (3, 6), (3, 7), (3, 8), (3, 9), (3, 10), (3, 11), (3, 12), (3, 13), (3, 14), (3, 15), (3, 16), (3, 17), (4, 6), (4, 7), (4, 8), (4, 9), (4, 10), (4, 11), (4, 12), (4, 13), (4, 14), (4, 15), (4, 16), (4, 17), (5, 6), (5, 7), (5, 8), (5, 9), (5, 10), (5, 11), (5, 12), (5, 13), (5, 14), (5, 15), (5, 16), (5, 17), (6, 7), (6, 8), (6, 9), (6, 12), (6, 13), (6, 14), (6, 15), (7, 8), (7, 12), (7, 13), (7, 14), (7, 15), (8, 12), (8, 13), (8, 14), (8, 15), (9, 12), (9, 13), (9, 14), (9, 15), (10, 12), (10, 13), (10, 14), (10, 15), (11, 12), (11, 13), (11, 14), (11, 15), (12, 13)] (by decide +kernel) (by decide +kernel) ?_
      simp -dsimp (maxSteps := 4000000) (disch := first | omega | assumption | (simp only [FB, Nat.reduceAdd]; done) | (simp only [LB]; omega)) only [EB, ↓reduceIte, WB, Nat.reduceSub, Nat.reduceAdd, Int.reduceEq, Int.reduceNe, Int.reduceLT, Int.reduceLE, Int.reduceAdd, Int.reduceSub, Int.reduceMul, Int.reduceNeg, Int.reduceToNat, Nat.reduceEqDiff, Nat.reduceLT, Nat.reduceLeDiff, Nat.reduceMul, List.replicate, reduceCtorEq, RB, Nat.reduceEqDiff, TB, NB, MB, e0, e1, e6, e7, e8, e9, wrap64, hz1, show (x : Int) < N by omega, show (z : Int) < N by omega, indexAddr_slice und25 size27, load_one agg27, hqd, rx, rz, write_soil, hso, hqn1]
      rw [swap_cells (by omega) (by omega), put_twice, soil_swap r'.lt hqn1 hso]
      refine ⟨y + 3 - (x + 1), by omega, x + 1, _, E', swp dk x z, _, [q], _, rfl, by omega, by omega, by rw [size_swp]; exact hdk, permIn_trans _ _ _ lo hi hperm (swp_permIn dk lo hi x z (by omega) (by omega) (by omega) (by omega) (by omega)), rfl, r'.up.put rfl, by omega, by rw [look_wput_ne (by omega)]; exact z4, rfl, ?_⟩
      simp only [ups_at, ↓reduceIte, Nat.reduceEqDiff]
      exact ⟨e0, e1, e6, e7, e8, (by first | trivial | rfl | omega)⟩
  · simp -dsimp (maxSteps := 4000000) (disch := first | omega | assumption | (simp only [FB, Nat.reduceAdd]; done) | (simp only [LB]; omega)) only [EB, ↓reduceIte, WB, Nat.reduceSub, Nat.reduceAdd, Int.reduceEq, Int.reduceNe, Int.reduceLT, Int.reduceLE, Int.reduceAdd, Int.reduceSub, Int.reduceMul, Int.reduceNeg, Int.reduceToNat, Nat.reduceEqDiff, Nat.reduceLT, Nat.reduceLeDiff, Nat.reduceMul, List.replicate, reduceCtorEq, TB, NB, MB, e0, e1, e6, e7, e8, e9, wrap64, hb1, hb1', hy2, show ¬ (x : Int) ≤ ((y + 2 : Nat) : Int) by omega]
    obtain ⟨a', ea, ha⟩ := r.leave (bs := a.base) (ds0 := a.dirty) (vs := []) rfl
    rw [ea]
    exact hK a' dk hperm ha
end Go.Proofs.YtlbmjpmonaekgaaAM
