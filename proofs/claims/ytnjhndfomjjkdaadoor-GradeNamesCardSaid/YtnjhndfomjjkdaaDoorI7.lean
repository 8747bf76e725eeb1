/- Chapter 22: the reference's Text, Fill, Same. -/
import Derived.Test.YtnjhndfomjjkdaaDoorI6
import Derived.Test.YtnjhndfomjjkdaaDoorH5
namespace Go.Proofs.YtnjhndfomjjkdaaDoorAM
open Go Go.RowKit Ieee
set_option linter.unusedVariables false
set_option linter.unusedSimpArgs false
set_option maxRecDepth 10000
set_option maxHeartbeats 4000000
set_option exponentiation.threshold 3000

theorem le_whole (k w : Nat) (hk : 0 < k) (hk2 : k ≤ 1000) (hw : w < 9218868437227405312) : (double.order (FloatKind.nearest .f64 (k : Int)) w == some .lt || double.order (FloatKind.nearest .f64 (k : Int)) w == some .eq) = decide (k ≤ whole w) := by
  obtain ⟨L, m, e1, -, e3, m1, m2, l1, l2, -⟩ := int_read k hk (by omega)
  have hu : unitsR (L * 4503599627370496 + m) = m * 2 ^ L := units_in (.inr m1) (by omega)
  rw [near_nat, e1]
  have hW : L * 4503599627370496 + m < 9218868437227405312 := by omega
  have hiff : L * 4503599627370496 + m ≤ w ↔ k ≤ whole w := by
    have h1 : L * 4503599627370496 + m ≤ w ↔ unitsR (L * 4503599627370496 + m) ≤ unitsR w := by
      have := units_lt (a := w) (b := L * 4503599627370496 + m); omega
    rw [h1, hu, e3]
    unfold whole
    exact (Nat.le_div_iff_mul_le (Nat.two_pow_pos 1074)).symm
  by_cases h : L * 4503599627370496 + m ≤ w
  · rw [le_of _ _ hW hw h, decide_eq_true (hiff.1 h)]
  · rw [(order_nat _ _ hW hw).2.2 (by omega), decide_eq_false (fun hh => h (hiff.2 hh))]; rfl
theorem text34 (b : Nat) (hb : b < 18446744073709551616) (hn : isNum b) (a : AW) (K) : WCall Tryd.prog GV 34 [.float .f64 b] a K = K (.string (mkStr (textL (levN (pos b))))) a := by
  refine call_eq ?_ K
  rw [call_env Tryd.func34 rfl Tryd.ntmps34 rfl rfl (by simp)]
  obtain ⟨hbc, heq, w, hw⟩ := num_cases hb hn
  have hf : FloatKind.f64.format = double := rfl
  have hm : FloatKind.f64.format.mul b 4636737291354636288 = some w := hw
  have c0 : (double.order b b != some .eq) = false := by rw [heq]; rfl
  by_cases h1 : 4607182418800017408 ≤ pos b
  · have hlt : b < 9223372036854775808 := by
      rcases Nat.lt_or_ge b 9223372036854775808 with h | h
      · exact h
      · unfold pos at h1; rw [if_neg (by omega)] at h1; omega
    have hp : pos b = b := by unfold pos; rw [if_pos hlt]
    rw [hp] at h1
    have c1 : (double.order b 4607182418800017408 == some .gt || double.order b 4607182418800017408 == some .eq) = true := by
      rcases Nat.lt_or_ge b 9218868437227405312 with h | h
      · exact ge_of b _ h (by decide) h1
      · obtain rfl : b = 9218868437227405312 := by omega
        decide +kernel
    have hl : levN (pos b) = 101 := by rw [hp]; unfold levN; rw [if_pos h1]
    simp -dsimp (maxSteps := 4000000) (disch := first | omega | assumption | (simp only [FB, Nat.reduceAdd]; done) | (simp only [LB]; omega)) only [EB, ↓reduceIte, WB, Nat.reduceSub, Nat.reduceAdd, Int.reduceEq, Int.reduceNe, Int.reduceLT, Int.reduceLE, Int.reduceAdd, Int.reduceSub, Int.reduceMul, Int.reduceNeg, Int.reduceToNat, Nat.reduceEqDiff, Nat.reduceLT, Nat.reduceLeDiff, Nat.reduceMul, List.replicate, reduceCtorEq, flt_neq, flt_geq, flt_gtr, hf, c0, c1]
    rw [hl]
    exact ⟨(by first | trivial | rfl | omega), (by first | trivial | rfl | omega)⟩
  · have c1 : (double.order b 4607182418800017408 == some .gt || double.order b 4607182418800017408 == some .eq) = false := by
      rcases Nat.lt_or_ge b 9223372036854775808 with h | h
      · have hp : pos b = b := by unfold pos; rw [if_pos h]
        rw [hp] at h1
        rw [(order_nat b 4607182418800017408 (by omega) (by decide)).1 (by omega)]; rfl
      · obtain ⟨-, e2, e3⟩ := neg_order hb h
        rw [Bool.or_eq_false_iff, beq_eq_false_iff_ne, beq_eq_false_iff_ne]
        exact ⟨e2, e3⟩
    by_cases h0 : pos b = 0
    · have c2 : (double.order b 0 == some .gt) = false := by
        rw [beq_eq_false_iff_ne]
        rcases Nat.lt_or_ge b 9223372036854775808 with h | h
        · have hp : pos b = b := by unfold pos; rw [if_pos h]
          rw [hp] at h0
          subst h0
          decide
        · exact (neg_order hb h).1
      have hl : levN (pos b) = 0 := by rw [h0]; decide
      simp -dsimp (maxSteps := 4000000) (disch := first | omega | assumption | (simp only [FB, Nat.reduceAdd]; done) | (simp only [LB]; omega)) only [EB, ↓reduceIte, WB, Nat.reduceSub, Nat.reduceAdd, Int.reduceEq, Int.reduceNe, Int.reduceLT, Int.reduceLE, Int.reduceAdd, Int.reduceSub, Int.reduceMul, Int.reduceNeg, Int.reduceToNat, Nat.reduceEqDiff, Nat.reduceLT, Nat.reduceLeDiff, Nat.reduceMul, List.replicate, reduceCtorEq, flt_neq, flt_geq, flt_gtr, hf, c0, c1, c2]
      rw [hl]
      exact ⟨(by first | trivial | rfl | omega), (by first | trivial | rfl | omega)⟩
    · have hlt : b < 9223372036854775808 := by
        rcases Nat.lt_or_ge b 9223372036854775808 with h | h
        · exact h
        · unfold pos at h0; rw [if_neg (by omega)] at h0; omega
      have hp : pos b = b := by unfold pos; rw [if_pos hlt]
      rw [hp] at h1 h0
      have c2 : (double.order b 0 == some .gt) = true := by
        rw [(order_nat b 0 (by omega) (by decide)).2.2 (by omega)]; rfl
      have hw2 := mul_hundred b (by omega) (by omega)
      rw [hw] at hw2
      obtain rfl := Option.some.inj hw2
      have hcm := cent_mono (show 0 < b by omega) (show b ≤ 4607182418800017408 by omega)
      rw [cent_one] at hcm
      have lv : levN (pos b) = if 4636666922610458624 ≤ cent b then 100 else whole (cent b) + 1 := by
        rw [hp]; unfold levN; rw [if_neg h1, if_neg h0]
      obtain ⟨T, hT⟩ : ∃ T, T = min 99 (whole (cent b)) := ⟨_, rfl⟩
      have lvT : levN (pos b) = T + 1 := by
        rw [lv]
        by_cases h99 : 4636666922610458624 ≤ cent b
        · have : 99 ≤ whole (cent b) := by
            have h1 := units_mono h99
            rw [units_99] at h1
            exact (Nat.le_div_iff_mul_le (Nat.two_pow_pos 1074)).2 h1
          rw [if_pos h99]; omega
        · have := whole_99 (w := cent b) (by omega)
          rw [if_neg h99]; omega
      rw [lvT, textL_at (by omega)]
      have hle := fun k hk hk2 => le_whole k (cent b) hk hk2 (by omega)
      simp -dsimp (maxSteps := 4000000) (disch := first | omega | assumption | (simp only [FB, Nat.reduceAdd]; done) | (simp only [LB]; omega)) only [EB, ↓reduceIte, WB, Nat.reduceSub, Nat.reduceAdd, Int.reduceEq, Int.reduceNe, Int.reduceLT, Int.reduceLE, Int.reduceAdd, Int.reduceSub, Int.reduceMul, Int.reduceNeg, Int.reduceToNat, Nat.reduceEqDiff, Nat.reduceLT, Nat.reduceLeDiff, Nat.reduceMul, List.replicate, reduceCtorEq, flt_neq, flt_geq, flt_gtr, hf, c0, c1, c2]
      refine loop_inv (fun k t w => ∃ i : Nat, ∃ e, k = T - i ∧ i ≤ T ∧ w = ⟨a.next, a.heap, a.next, []⟩ ∧ t = TT 31 e ∧ e 0 = .float .f64 b ∧ e 3 = .int .i64 i) ⟨0, _, rfl, by omega, rfl, rfl, rfl, rfl⟩ ?_
      rintro k t w ⟨i, e, hk, hi, rfl, rfl, e0, e3⟩
      have hwr : IntKind.wrap .i64 ((i : Int) + 1) = ((i + 1 : Nat) : Int) := by rw [wrap64 (by omega) (by omega)]; omega
      have hl := hle (i + 1) (by omega) (by omega)
      by_cases h99 : i < 99
      · by_cases hw : i + 1 ≤ whole (cent b)
        · rw [decide_eq_true hw] at hl
          simp -dsimp (maxSteps := 4000000) (disch := first | omega | assumption | (simp only [FB, Nat.reduceAdd]; done) | (simp only [LB]; omega)) only [EB, ↓reduceIte, WB, Nat.reduceSub, Nat.reduceAdd, Int.reduceEq, Int.reduceNe, Int.reduceLT, Int.reduceLE, Int.reduceAdd, Int.reduceSub, Int.reduceMul, Int.reduceNeg, Int.reduceToNat, Nat.reduceEqDiff, Nat.reduceLT, Nat.reduceLeDiff, Nat.reduceMul, List.replicate, reduceCtorEq, e0, e3, show (i : Int) < 99 by omega, hwr, op_conv_flt und3 und22, conv_flt und3 und22, flt_mul hm, flt_leq, hf, hl]
          refine ⟨trivial, T - (i + 1), by omega, i + 1, _, rfl, by omega, (by first | trivial | rfl | omega), rfl, ?_⟩
          simp only [ups_at, ↓reduceIte, Nat.reduceEqDiff]
          exact ⟨e0, (by first | trivial | rfl | omega)⟩
        · rw [decide_eq_false hw] at hl
          obtain rfl : i = T := by omega
          have c12 := fun a K => dig12 i (by omega) a K
          simp -dsimp (maxSteps := 4000000) (disch := first | omega | assumption | (simp only [FB, Nat.reduceAdd]; done) | (simp only [LB]; omega)) only [EB, ↓reduceIte, WB, Nat.reduceSub, Nat.reduceAdd, Int.reduceEq, Int.reduceNe, Int.reduceLT, Int.reduceLE, Int.reduceAdd, Int.reduceSub, Int.reduceMul, Int.reduceNeg, Int.reduceToNat, Nat.reduceEqDiff, Nat.reduceLT, Nat.reduceLeDiff, Nat.reduceMul, List.replicate, reduceCtorEq, e0, e3, show (i : Int) < 99 by omega, hwr, op_conv_flt und3 und22, conv_flt und3 und22, flt_mul hm, flt_leq, hf, hl, conv_u64, conv_int und3 und27, wrapu64, c12, dig_pct]
          exact ⟨(by first | trivial | rfl | omega), (by first | trivial | rfl | omega)⟩
      · obtain rfl : i = T := by omega
        have c12 := fun a K => dig12 i (by omega) a K
        simp -dsimp (maxSteps := 4000000) (disch := first | omega | assumption | (simp only [FB, Nat.reduceAdd]; done) | (simp only [LB]; omega)) only [EB, ↓reduceIte, WB, Nat.reduceSub, Nat.reduceAdd, Int.reduceEq, Int.reduceNe, Int.reduceLT, Int.reduceLE, Int.reduceAdd, Int.reduceSub, Int.reduceMul, Int.reduceNeg, Int.reduceToNat, Nat.reduceEqDiff, Nat.reduceLT, Nat.reduceLeDiff, Nat.reduceMul, List.replicate, reduceCtorEq, e0, e3, show ¬ (i : Int) < 99 by omega, conv_u64, conv_int und3 und27, wrapu64, c12, dig_pct]
        exact ⟨(by first | trivial | rfl | omega), (by first | trivial | rfl | omega)⟩
theorem nan34 (b : Nat) (h : double.order b b = none) (a : AW) (K) : WCall Tryd.prog GV 34 [.float .f64 b] a K = K (.string (mkStr [110, 111, 110, 101])) a := by
  refine call_eq ?_ K
  rw [call_env Tryd.func34 rfl Tryd.ntmps34 rfl rfl (by simp)]
  have hf : FloatKind.f64.format = double := rfl
  have e : (double.order b b != some .eq) = true := by rw [h]; rfl
  simp -dsimp (maxSteps := 4000000) (disch := first | omega | assumption | (simp only [FB, Nat.reduceAdd]; done) | (simp only [LB]; omega)) only [EB, ↓reduceIte, WB, Nat.reduceSub, Nat.reduceAdd, Int.reduceEq, Int.reduceNe, Int.reduceLT, Int.reduceLE, Int.reduceAdd, Int.reduceSub, Int.reduceMul, Int.reduceNeg, Int.reduceToNat, Nat.reduceEqDiff, Nat.reduceLT, Nat.reduceLeDiff, Nat.reduceMul, List.replicate, reduceCtorEq, flt_neq, hf, e]
  exact ⟨(by first | trivial | rfl | omega), (by first | trivial | rfl | omega)⟩
theorem nan_neq {P : Program} {t : TypeId} {x y : Operand} : binA P .neq t x y nanV nanV = some (.bool true) := rfl
theorem same26n (a : AW) (K) : WCall Tryd.prog GV 26 [nanV, nanV] a K = K (.bool true) a := by
  refine call_eq ?_ K
  rw [call_env Tryd.func26 rfl Tryd.ntmps26 rfl rfl (by simp)]
  simp -dsimp (maxSteps := 4000000) (disch := first | omega | assumption | (simp only [FB, Nat.reduceAdd]; done) | (simp only [LB]; omega)) only [EB, ↓reduceIte, WB, Nat.reduceSub, Nat.reduceAdd, Int.reduceEq, Int.reduceNe, Int.reduceLT, Int.reduceLE, Int.reduceAdd, Int.reduceSub, Int.reduceMul, Int.reduceNeg, Int.reduceToNat, Nat.reduceEqDiff, Nat.reduceLT, Nat.reduceLeDiff, Nat.reduceMul, List.replicate, reduceCtorEq, nan_neq]
  exact ⟨(by first | trivial | rfl | omega), (by first | trivial | rfl | omega)⟩
theorem same26b (b : Nat) (hb : b < 18446744073709551616) (a : AW) (K) : WCall Tryd.prog GV 26 [.float .f64 b, .float .f64 b] a K = K (.bool true) a := by
  refine call_eq ?_ K
  rw [call_env Tryd.func26 rfl Tryd.ntmps26 rfl rfl (by simp)]
  have hf : FloatKind.f64.format = double := rfl
  have cc := fun a K => compare28 b b hb hb a K
  have e0 : cmpZ (placeZ b) (placeZ b) = 0 := by unfold cmpZ; rw [if_neg (by omega), if_neg (by omega)]
  rw [e0] at cc
  cases h : (double.order b b != some .eq) with
  | true =>
    simp -dsimp (maxSteps := 4000000) (disch := first | omega | assumption | (simp only [FB, Nat.reduceAdd]; done) | (simp only [LB]; omega)) only [EB, ↓reduceIte, WB, Nat.reduceSub, Nat.reduceAdd, Int.reduceEq, Int.reduceNe, Int.reduceLT, Int.reduceLE, Int.reduceAdd, Int.reduceSub, Int.reduceMul, Int.reduceNeg, Int.reduceToNat, Nat.reduceEqDiff, Nat.reduceLT, Nat.reduceLeDiff, Nat.reduceMul, List.replicate, reduceCtorEq, flt_neq, hf, h]
    exact ⟨(by first | trivial | rfl | omega), (by first | trivial | rfl | omega)⟩
  | false =>
    simp -dsimp (maxSteps := 4000000) (disch := first | omega | assumption | (simp only [FB, Nat.reduceAdd]; done) | (simp only [LB]; omega)) only [EB, ↓reduceIte, WB, Nat.reduceSub, Nat.reduceAdd, Int.reduceEq, Int.reduceNe, Int.reduceLT, Int.reduceLE, Int.reduceAdd, Int.reduceSub, Int.reduceMul, Int.reduceNeg, Int.reduceToNat, Nat.reduceEqDiff, Nat.reduceLT, Nat.reduceLeDiff, Nat.reduceMul, List.replicate, reduceCtorEq, flt_neq, hf, h, cc, eq_self]
    exact ⟨(by first | trivial | rfl | omega), (by first | trivial | rfl | omega)⟩
/-- A marker, or bits that a word has. -/
def isB (v : Value) : Prop := v = nanV ∨ ∃ b, v = .float .f64 b ∧ b < 18446744073709551616
theorem same26 {v : Value} (h : isB v) (a : AW) (K) : WCall Tryd.prog GV 26 [v, v] a K = K (.bool true) a := by
  rcases h with rfl | ⟨b, rfl, hb⟩
  · exact same26n a K
  · exact same26b b hb a K
theorem div_lt {u v r : Nat} (h : double.div u v = some r) : r < 18446744073709551616 := by
  unfold Format.div at h
  obtain ⟨d, -, rfl⟩ := Option.map_eq_some_iff.1 h
  exact write_lt d
theorem arF_div (x y : Value) : isB (arF double.div x y) := by
  unfold arF
  split
  · split
    · rename_i h; exact .inr ⟨_, rfl, div_lt h⟩
    · exact .inl rfl
  · exact .inl rfl
theorem fill24 (x y : Int) (a : AW) (K) : WCall Tryd.prog GV 24 [.int .i64 x, .int .i64 y] a K = K (shareV y (IntKind.wrap .i64 (x - 24))) a := by
  refine call_eq ?_ K
  rw [call_env Tryd.func24 rfl Tryd.ntmps24 rfl rfl (by simp)]
  have hl := fun {bs : Nat} => leave_F (a := a) (bs := bs) (v := shareV y (IntKind.wrap .i64 (x - 24))) (arF_f _ _ _)
  simp -dsimp (maxSteps := 4000000) (disch := first | omega | assumption | (simp only [FB, Nat.reduceAdd]; done) | (simp only [LB]; omega)) only [EB, ↓reduceIte, WB, Nat.reduceSub, Nat.reduceAdd, Int.reduceEq, Int.reduceNe, Int.reduceLT, Int.reduceLE, Int.reduceAdd, Int.reduceSub, Int.reduceMul, Int.reduceNeg, Int.reduceToNat, Nat.reduceEqDiff, Nat.reduceLT, Nat.reduceLeDiff, Nat.reduceMul, List.replicate, reduceCtorEq, share23a, hl]
  exact ⟨(by first | trivial | rfl | omega), (by first | trivial | rfl | omega)⟩
theorem fill33 (x y : Int) (a : AW) (K) : WCall Tryd.prog GV 33 [.int .i64 x, .int .i64 y] a K = K (shareV y (IntKind.wrap .i64 (x - 24))) a := by
  refine call_eq ?_ K
  rw [call_env Tryd.func33 rfl Tryd.ntmps33 rfl rfl (by simp)]
  have hl := fun {bs : Nat} => leave_F (a := a) (bs := bs) (v := shareV y (IntKind.wrap .i64 (x - 24))) (arF_f _ _ _)
  simp -dsimp (maxSteps := 4000000) (disch := first | omega | assumption | (simp only [FB, Nat.reduceAdd]; done) | (simp only [LB]; omega)) only [EB, ↓reduceIte, WB, Nat.reduceSub, Nat.reduceAdd, Int.reduceEq, Int.reduceNe, Int.reduceLT, Int.reduceLE, Int.reduceAdd, Int.reduceSub, Int.reduceMul, Int.reduceNeg, Int.reduceToNat, Nat.reduceEqDiff, Nat.reduceLT, Nat.reduceLeDiff, Nat.reduceMul, List.replicate, reduceCtorEq, share27, hl]
  exact ⟨(by first | trivial | rfl | omega), (by first | trivial | rfl | omega)⟩
end Go.Proofs.YtnjhndfomjjkdaaDoorAM
