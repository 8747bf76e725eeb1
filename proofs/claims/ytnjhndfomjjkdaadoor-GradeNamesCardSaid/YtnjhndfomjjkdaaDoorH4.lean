/- Chapter 22: the text of a grade. -/
import Derived.Test.YtnjhndfomjjkdaaDoorH3
namespace Go.Proofs.YtnjhndfomjjkdaaDoorAM
open Go Go.RowKit Ieee
set_option linter.unusedVariables false
set_option linter.unusedSimpArgs false
set_option maxRecDepth 10000
set_option maxHeartbeats 4000000
set_option exponentiation.threshold 3000

def textL (n : Nat) : List UInt8 := if n = 0 then [110, 111, 116, 104, 105, 110, 103] else if n = 101 then [97, 108, 108] else dig (n - 1) ++ [37]
theorem num_cases {b : Nat} (hb : b < 18446744073709551616) (hn : isNum b) : (b ≤ 9218868437227405312 ∨ 9223372036854775808 ≤ b) ∧ double.order b b = some .eq ∧ ∃ w, double.mul b 4636737291354636288 = some w := by
  unfold isNum at hn
  obtain ⟨s, r, hr, eu, -, cu⟩ := read_cases b hb
  unfold Format.order at hn ⊢
  unfold Format.mul
  rw [read_hundred]
  rcases cu with ⟨hr2, m, p, k, e1, e2, -⟩ | ⟨hr2, e1⟩ | ⟨f, e1⟩
  · rw [e1]
    refine ⟨by cases s <;> simp at eu <;> omega, ?_, _, rfl⟩
    simp only [Datum.order, Option.some.injEq]
    exact cmp_int.2.1 rfl
  · rw [e1]
    refine ⟨by cases s <;> simp at eu <;> omega, ?_, _, rfl⟩
    cases s <;> rfl
  · rw [e1] at hn
    exact absurd rfl hn
theorem neg_order {b : Nat} (hb : b < 18446744073709551616) (h : 9223372036854775808 ≤ b) : double.order b 0 ≠ some .gt ∧ double.order b 4607182418800017408 ≠ some .gt ∧ double.order b 4607182418800017408 ≠ some .eq := by
  have hsw : ∀ c, double.order c b = (double.order b c).map Ordering.swap := fun c => order_swap _ _
  have h1 : pos b = 0 := by unfold pos; rw [if_neg (by omega)]
  have h2 : pos 4607182418800017408 = 4607182418800017408 := rfl
  refine ⟨fun e => ?_, fun e => ?_, fun e => ?_⟩
  · have := hsw 0
    rw [e] at this
    have := order_place 0 b (by decide) hb this
    unfold placeZ at this
    rw [if_pos (by decide), if_neg (by omega)] at this
    omega
  · have := hsw 4607182418800017408
    rw [e] at this
    have := pos_mono (by decide) hb (.inl this)
    omega
  · have := hsw 4607182418800017408
    rw [e] at this
    have := pos_mono (by decide) hb (.inr this)
    omega
section
variable {P : Program} {t : TypeId} {x y : Operand} {k : FloatKind} {u v r : Nat}
theorem flt_mul (h : k.format.mul u v = some r) : binA P .mul t x y (.float k u) (.float k v) = some (.float k r) := by
  have hn : nanBin .mul (.float k u) (.float k v) = none := by
    cases k with
    | f32 => rfl
    | f64 =>
      have h2 : Ieee.double.mul u v = some r := h
      show (if (Ieee.double.mul u v).isNone then some nanV else none) = none
      rw [h2]; rfl
  rw [binA_eq hn]
  have e : binA0 P .mul t x y (.float k u) (.float k v) = prunF P (Op.floatArith .mul k u v) := by cases k <;> rfl
  rw [e]; simp only [Op.floatArith, h]; rfl
theorem flt_add (h : k.format.add u v = some r) : binA P .add t x y (.float k u) (.float k v) = some (.float k r) := by
  have hn : nanBin .add (.float k u) (.float k v) = none := by
    cases k with
    | f32 => rfl
    | f64 =>
      have h2 : Ieee.double.add u v = some r := h
      show (if (Ieee.double.add u v).isNone then some nanV else none) = none
      rw [h2]; rfl
  rw [binA_eq hn]
  have e : binA0 P .add t x y (.float k u) (.float k v) = prunF P (Op.floatArith .add k u v) := by cases k <;> rfl
  rw [e]; simp only [Op.floatArith, h]; rfl
end
theorem kind_trunc {x} : kindO Tryd.prog (oper (.convert 22 3 x)) = .pure := by simp [kindO, oper, und22, und3]
theorem op_trunc {x t a K} : WOp Tryd.prog GW (.convert 22 3 x) t a K = WVal (evalA t x) fun v => WVal (convV Tryd.prog 22 3 v) fun r => K r a := op_conv kind_trunc
theorem conv_trunc {w : Nat} {n : Nat} (h : (double.read w).toInt .zero = some (n : Int)) (hn : n < 1000) : convV Tryd.prog 22 3 (.float .f64 w) = some (.int .i64 n) := by
  simp only [convV, flat, flatN, if_true, prunF]
  unfold convert
  rw [prun_underlying 22 _ und22, prun_underlying 3 _ und3]
  show (match prun Tryd.prog (Conv.floatToInt .f64 w .i64) with | some v => _ | none => _) = _
  have hd : (FloatKind.f64.decode w).toInt .zero = some (n : Int) := h
  unfold Conv.floatToInt
  rw [hd]
  simp only
  rw [if_pos (show IntKind.i64.min ≤ (n : Int) ∧ (n : Int) ≤ IntKind.i64.max from ⟨by show (-9223372036854775808 : Int) ≤ n; omega, by show (n : Int) ≤ 9223372036854775807; omega⟩)]
  rfl
theorem num35 (b : Nat) (h : double.order b b = some .eq) (a : AW) (K) : WCall Tryd.prog GW 35 [.float .f64 b] a K = K (.bool false) a := by
  refine call_eq ?_ K
  rw [call_env Tryd.func35 rfl Tryd.ntmps35 rfl rfl (by simp)]
  have hf : FloatKind.f64.format = double := rfl
  have e : (double.order b b != some .eq) = false := by rw [h]; rfl
  simp -dsimp (maxSteps := 4000000) (disch := first | omega | assumption | (simp only [FB, Nat.reduceAdd]; done) | (simp only [LB]; omega)) only [EB, ↓reduceIte, WB, Nat.reduceSub, Nat.reduceAdd, Int.reduceEq, Int.reduceNe, Int.reduceLT, Int.reduceLE, Int.reduceAdd, Int.reduceSub, Int.reduceMul, Int.reduceNeg, Int.reduceToNat, Nat.reduceEqDiff, Nat.reduceLT, Nat.reduceLeDiff, Nat.reduceMul, List.replicate, reduceCtorEq, flt_neq, hf, e]
  exact ⟨(by first | trivial | rfl | omega), (by first | trivial | rfl | omega)⟩
theorem dig_pct (n : Nat) : strA .add (mkStr (dig n)) (mkStr [37]) = some (.string (mkStr (dig n ++ [37]))) := str_add (by have := dig_len n; simp; omega)
theorem textL_at {k : Nat} (h : k < 100) : textL (k + 1) = dig k ++ [37] := by
  unfold textL
  rw [if_neg (by omega), if_neg (by omega), Nat.add_sub_cancel]
theorem text11 (b : Nat) (hb : b < 18446744073709551616) (hn : isNum b) (a : AW) (K) : WCall Tryd.prog GW 11 [.float .f64 b] a K = K (.string (mkStr (textL (levN (pos b))))) a := by
  refine call_eq ?_ K
  rw [call_env Tryd.func11 rfl Tryd.ntmps11 rfl rfl (by simp)]
  obtain ⟨hbc, heq, w, hw⟩ := num_cases hb hn
  have hf : FloatKind.f64.format = double := rfl
  have hm : FloatKind.f64.format.mul b 4636737291354636288 = some w := hw
  have n35 := fun a K => num35 b heq a K
  by_cases h1 : 4607182418800017408 ≤ pos b
  · have hlt : b < 9223372036854775808 := by
      rcases Nat.lt_or_ge b 9223372036854775808 with h | h
      · exact h
      · unfold pos at h1; rw [if_neg (by omega)] at h1; omega
    have hp : pos b = b := by unfold pos; rw [if_pos hlt]
    rw [hp] at h1
    have c1 : (double.order b 4607182418800017408 == some .gt || double.order b 4607182418800017408 == some .eq) = true := by
      rcases Nat.lt_or_ge b 9218868437227405312 with h | h
      · exact ge_of b _ h (by decide) h1
      · obtain rfl : b = 9218868437227405312 := by omega
        decide +kernel
    have hl : levN (pos b) = 101 := by rw [hp]; unfold levN; rw [if_pos h1]
    simp -dsimp (maxSteps := 4000000) (disch := first | omega | assumption | (simp only [FB, Nat.reduceAdd]; done) | (simp only [LB]; omega)) only [EB, ↓reduceIte, WB, Nat.reduceSub, Nat.reduceAdd, Int.reduceEq, Int.reduceNe, Int.reduceLT, Int.reduceLE, Int.reduceAdd, Int.reduceSub, Int.reduceMul, Int.reduceNeg, Int.reduceToNat, Nat.reduceEqDiff, Nat.reduceLT, Nat.reduceLeDiff, Nat.reduceMul, List.replicate, reduceCtorEq, flt_mul hm, n35, flt_geq, flt_gtr, hf, c1]
    rw [hl]
    exact ⟨(by first | trivial | rfl | omega), (by first | trivial | rfl | omega)⟩
  · have c1 : (double.order b 4607182418800017408 == some .gt || double.order b 4607182418800017408 == some .eq) = false := by
      rcases Nat.lt_or_ge b 9223372036854775808 with h | h
      · have hp : pos b = b := by unfold pos; rw [if_pos h]
        rw [hp] at h1
        rw [(order_nat b 4607182418800017408 (by omega) (by decide)).1 (by omega)]; rfl
      · obtain ⟨-, e2, e3⟩ := neg_order hb h
        rw [Bool.or_eq_false_iff, beq_eq_false_iff_ne, beq_eq_false_iff_ne]
        exact ⟨e2, e3⟩
    by_cases h0 : pos b = 0
    · have c2 : (double.order b 0 == some .gt) = false := by
        rw [beq_eq_false_iff_ne]
        rcases Nat.lt_or_ge b 9223372036854775808 with h | h
        · have hp : pos b = b := by unfold pos; rw [if_pos h]
          rw [hp] at h0
          subst h0
          decide
        · exact (neg_order hb h).1
      have hl : levN (pos b) = 0 := by rw [h0]; decide
      simp -dsimp (maxSteps := 4000000) (disch := first | omega | assumption | (simp only [FB, Nat.reduceAdd]; done) | (simp only [LB]; omega)) only [EB, ↓reduceIte, WB, Nat.reduceSub, Nat.reduceAdd, Int.reduceEq, Int.reduceNe, Int.reduceLT, Int.reduceLE, Int.reduceAdd, Int.reduceSub, Int.reduceMul, Int.reduceNeg, Int.reduceToNat, Nat.reduceEqDiff, Nat.reduceLT, Nat.reduceLeDiff, Nat.reduceMul, List.replicate, reduceCtorEq, flt_mul hm, n35, flt_geq, flt_gtr, hf, c1, c2]
      rw [hl]
      exact ⟨(by first | trivial | rfl | omega), (by first | trivial | rfl | omega)⟩
    · have hlt : b < 9223372036854775808 := by
        rcases Nat.lt_or_ge b 9223372036854775808 with h | h
        · exact h
        · unfold pos at h0; rw [if_neg (by omega)] at h0; omega
      have hp : pos b = b := by unfold pos; rw [if_pos hlt]
      rw [hp] at h1 h0
      have c2 : (double.order b 0 == some .gt) = true := by
        rw [(order_nat b 0 (by omega) (by decide)).2.2 (by omega)]; rfl
      have hw2 := mul_hundred b (by omega) (by omega)
      rw [hw] at hw2
      obtain rfl := Option.some.inj hw2
      have hcm := cent_mono (show 0 < b by omega) (show b ≤ 4607182418800017408 by omega)
      rw [cent_one] at hcm
      have lv : levN (pos b) = if 4636666922610458624 ≤ cent b then 100 else whole (cent b) + 1 := by
        rw [hp]; unfold levN; rw [if_neg h1, if_neg h0]
      rw [lv]
      by_cases h99 : 4636666922610458624 ≤ cent b
      · have c3 := ge_of (cent b) 4636666922610458624 (by omega) (by decide) h99
        have hi := fun a K => itoa36 99 (by decide) a K
        simp -dsimp (maxSteps := 4000000) (disch := first | omega | assumption | (simp only [FB, Nat.reduceAdd]; done) | (simp only [LB]; omega)) only [EB, ↓reduceIte, WB, Nat.reduceSub, Nat.reduceAdd, Int.reduceEq, Int.reduceNe, Int.reduceLT, Int.reduceLE, Int.reduceAdd, Int.reduceSub, Int.reduceMul, Int.reduceNeg, Int.reduceToNat, Nat.reduceEqDiff, Nat.reduceLT, Nat.reduceLeDiff, Nat.reduceMul, List.replicate, reduceCtorEq, flt_mul hm, n35, flt_geq, flt_gtr, hf, c1, c2, c3, show (99 : Int) = ((99 : Nat) : Int) from rfl, hi, dig_pct]
        rw [if_pos h99, textL_at (k := 99) (by decide)]
        exact ⟨(by first | trivial | rfl | omega), (by first | trivial | rfl | omega)⟩
      · have c3 : (double.order (cent b) 4636666922610458624 == some .gt || double.order (cent b) 4636666922610458624 == some .eq) = false := by
          rw [(order_nat (cent b) 4636666922610458624 (by omega) (by decide)).1 (by omega)]; rfl
        have h98 := whole_99 (w := cent b) (by omega)
        have hi := fun a K => itoa36 (whole (cent b)) (by omega) a K
        have hc := conv_trunc (to_whole (cent b) (by omega)) (by omega)
        simp -dsimp (maxSteps := 4000000) (disch := first | omega | assumption | (simp only [FB, Nat.reduceAdd]; done) | (simp only [LB]; omega)) only [EB, ↓reduceIte, WB, Nat.reduceSub, Nat.reduceAdd, Int.reduceEq, Int.reduceNe, Int.reduceLT, Int.reduceLE, Int.reduceAdd, Int.reduceSub, Int.reduceMul, Int.reduceNeg, Int.reduceToNat, Nat.reduceEqDiff, Nat.reduceLT, Nat.reduceLeDiff, Nat.reduceMul, List.replicate, reduceCtorEq, flt_mul hm, n35, flt_geq, flt_gtr, hf, c1, c2, c3, op_trunc, hc, hi, dig_pct]
        rw [if_neg h99, textL_at (by omega)]
        exact ⟨(by first | trivial | rfl | omega), (by first | trivial | rfl | omega)⟩
theorem dig_inj : ∀ i, i < 100 → ∀ j, j < 100 → dig i ++ [37] = dig j ++ [37] → i = j := by decide +kernel
theorem text_ne : ∀ k, k < 100 → dig k ++ [37] ≠ [110, 111, 116, 104, 105, 110, 103] ∧ dig k ++ [37] ≠ [97, 108, 108] := by decide +kernel
theorem conv_u64 {x t a K} : WOp Tryd.prog GW (.convert 3 27 x) t a K = WVal (evalA t x) fun v => WVal (convV Tryd.prog 3 27 v) fun r => K r a := op_conv_int und3 und27
theorem level13 (n : Nat) (hn : n ≤ 101) (a : AW) (K) : WCall Tryd.prog GW 13 [.string (mkStr (textL n))] a K = K (.int .i64 n) a := by
  refine call_eq ?_ K
  rw [call_env Tryd.func13 rfl Tryd.ntmps13 rfl rfl (by simp)]
  by_cases h0 : n = 0
  · subst h0
    simp -dsimp (maxSteps := 4000000) (disch := first | omega | assumption | (simp only [FB, Nat.reduceAdd]; done) | (simp only [LB]; omega)) only [EB, ↓reduceIte, WB, Nat.reduceSub, Nat.reduceAdd, Int.reduceEq, Int.reduceNe, Int.reduceLT, Int.reduceLE, Int.reduceAdd, Int.reduceSub, Int.reduceMul, Int.reduceNeg, Int.reduceToNat, Nat.reduceEqDiff, Nat.reduceLT, Nat.reduceLeDiff, Nat.reduceMul, List.replicate, reduceCtorEq, show textL 0 = [110, 111, 116, 104, 105, 110, 103] from rfl]
    exact ⟨(by first | trivial | rfl | omega), (by first | trivial | rfl | omega)⟩
  · by_cases h1 : n = 101
    · subst h1
      simp -dsimp (maxSteps := 4000000) (disch := first | omega | assumption | (simp only [FB, Nat.reduceAdd]; done) | (simp only [LB]; omega)) only [EB, ↓reduceIte, WB, Nat.reduceSub, Nat.reduceAdd, Int.reduceEq, Int.reduceNe, Int.reduceLT, Int.reduceLE, Int.reduceAdd, Int.reduceSub, Int.reduceMul, Int.reduceNeg, Int.reduceToNat, Nat.reduceEqDiff, Nat.reduceLT, Nat.reduceLeDiff, Nat.reduceMul, List.replicate, reduceCtorEq, show textL 101 = [97, 108, 108] from rfl, show ¬ ([97, 108, 108] : List UInt8) = [110, 111, 116, 104, 105, 110, 103] by decide]
      exact ⟨(by first | trivial | rfl | omega), (by first | trivial | rfl | omega)⟩
    · obtain ⟨k, rfl⟩ : ∃ k, n = k + 1 := ⟨n - 1, by omega⟩
      rw [textL_at (by omega)]
      obtain ⟨t1, t2⟩ := text_ne k (by omega)
      simp -dsimp (maxSteps := 4000000) (disch := first | omega | assumption | (simp only [FB, Nat.reduceAdd]; done) | (simp only [LB]; omega)) only [EB, ↓reduceIte, WB, Nat.reduceSub, Nat.reduceAdd, Int.reduceEq, Int.reduceNe, Int.reduceLT, Int.reduceLE, Int.reduceAdd, Int.reduceSub, Int.reduceMul, Int.reduceNeg, Int.reduceToNat, Nat.reduceEqDiff, Nat.reduceLT, Nat.reduceLeDiff, Nat.reduceMul, List.replicate, reduceCtorEq, decide_eq_false t1, decide_eq_false t2]
      refine loop_inv (fun r t w => ∃ i, ∃ e : Nat → Value, r = 100 - i ∧ i ≤ k ∧ w = ⟨a.next, a.heap, a.next, []⟩ ∧ t = TT 20 e ∧ e 0 = .string (mkStr (dig k ++ [37])) ∧ e 3 = .int .i64 (i : Nat)) ⟨0, _, rfl, by omega, rfl, rfl, rfl, rfl⟩ ?_
      rintro r t w ⟨i, e, rfl, hi, rfl, rfl, t0, t3⟩
      have hd := fun a K => dig12 i (by omega) a K
      by_cases he : i = k
      · subst he
        simp -dsimp (maxSteps := 4000000) (disch := first | omega | assumption | (simp only [FB, Nat.reduceAdd]; done) | (simp only [LB]; omega)) only [EB, ↓reduceIte, WB, Nat.reduceSub, Nat.reduceAdd, Int.reduceEq, Int.reduceNe, Int.reduceLT, Int.reduceLE, Int.reduceAdd, Int.reduceSub, Int.reduceMul, Int.reduceNeg, Int.reduceToNat, Nat.reduceEqDiff, Nat.reduceLT, Nat.reduceLeDiff, Nat.reduceMul, List.replicate, reduceCtorEq, t0, t3, show (i : Int) < 100 by omega, conv_u64, conv_int und3 und27, wrapu64, hd, dig_pct, wrap64]
        refine ⟨(by first | trivial | rfl | omega), (by first | trivial | rfl | omega)⟩
      · have hne : ¬ dig k ++ [37] = dig i ++ [37] := fun h => he (dig_inj k (by omega) i (by omega) h).symm
        simp -dsimp (maxSteps := 4000000) (disch := first | omega | assumption | (simp only [FB, Nat.reduceAdd]; done) | (simp only [LB]; omega)) only [EB, ↓reduceIte, WB, Nat.reduceSub, Nat.reduceAdd, Int.reduceEq, Int.reduceNe, Int.reduceLT, Int.reduceLE, Int.reduceAdd, Int.reduceSub, Int.reduceMul, Int.reduceNeg, Int.reduceToNat, Nat.reduceEqDiff, Nat.reduceLT, Nat.reduceLeDiff, Nat.reduceMul, List.replicate, reduceCtorEq, t0, t3, show (i : Int) < 100 by omega, conv_u64, conv_int und3 und27, wrapu64, hd, dig_pct, decide_eq_false hne, wrap64]
        refine ⟨trivial, 100 - (i + 1), by omega, i + 1, _, rfl, by omega, (by first | trivial | rfl | omega), rfl, ?_⟩
        simp only [ups_at, ↓reduceIte, Nat.reduceEqDiff]
        exact ⟨t0, (by first | trivial | rfl | omega)⟩
end Go.Proofs.YtnjhndfomjjkdaaDoorAM
