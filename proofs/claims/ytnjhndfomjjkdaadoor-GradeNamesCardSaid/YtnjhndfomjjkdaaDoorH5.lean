/- Chapter 22: GradeText. -/
import Derived.Test.YtnjhndfomjjkdaaDoorH4
namespace Go.Proofs.YtnjhndfomjjkdaaDoorAM
open Go Go.RowKit Ieee
set_option linter.unusedVariables false
set_option linter.unusedSimpArgs false
set_option maxRecDepth 10000
set_option maxHeartbeats 4000000
set_option exponentiation.threshold 3000

def halfOk (k : Nat) : Bool := match double.add (FloatKind.nearest .f64 (k : Int)) 4602678819172646912 with
  | some x => match double.div x 4636737291354636288 with
    | some g => decide (g < 18446744073709551616) && (double.order g g == some .eq) && (levN (pos g) == k + 1)
    | none => false
  | none => false
theorem half_all : (List.range 99).all halfOk = true := by decide +kernel
theorem half_at (k : Nat) (hk : k < 99) : ∃ x g, double.add (FloatKind.nearest .f64 (k : Int)) 4602678819172646912 = some x ∧ double.div x 4636737291354636288 = some g ∧ g < 18446744073709551616 ∧ isNum g ∧ levN (pos g) = k + 1 := by
  have h := List.all_eq_true.1 half_all k (List.mem_range.2 hk)
  unfold halfOk at h
  split at h
  · rename_i x hx
    split at h
    · rename_i g hg
      simp only [Bool.and_eq_true, decide_eq_true_eq, beq_iff_eq] at h
      exact ⟨x, g, hx, hg, h.1.1, by unfold isNum; rw [h.1.2]; simp, h.2⟩
    · cases h
  · cases h
theorem text_none : ∀ n, n < 102 → textL n ≠ [110, 111, 110, 101] := by decide +kernel
theorem opW_conv_flt {x t a K} : WOp Tryd.prog GW (.convert 3 22 x) t a K = WVal (evalA t x) fun v => WVal (convV Tryd.prog 3 22 v) fun r => K r a := op_conv (kind_conv_flt und3 und22)
def minF (u v : Nat) : Nat := match double.order u v with
  | some .lt => u
  | some .gt => v
  | _ => if (double.read u).neg then u else v
def maxF (u v : Nat) : Nat := match double.order u v with
  | some .lt => v
  | some .gt => u
  | _ => if (double.read u).neg then v else u
theorem min_flt {ts} {u v : Nat} (h : double.order u v ≠ none) : pureBuiltinA Tryd.prog .min ts [.float .f64 u, .float .f64 v] = some (.float .f64 (minF u v)) := by
  have hn : nanMM .min [.float .f64 u, .float .f64 v] = none := by
    show (if (double.order u v).isNone then some nanV else none) = none
    cases ho : double.order u v with
    | none => exact absurd ho h
    | some o => rfl
  rw [pureB_eq hn]
  have e : pureB0 Tryd.prog .min ts [.float .f64 u, .float .f64 v] = prunF Tryd.prog (Builtin.min2 (.float .f64 u) (.float .f64 v)) := by
    show prunF Tryd.prog (List.foldlM Builtin.min2 _ _) = _
    simp only [List.foldlM, bind_pure]
  rw [e]
  unfold Builtin.min2 minF
  have hf : FloatKind.f64.format.order u v = double.order u v := rfl
  simp only [hf]
  cases ho : double.order u v with
  | none => exact absurd ho h
  | some o => cases o <;> rfl
theorem max_flt {ts} {u v : Nat} (h : double.order u v ≠ none) : pureBuiltinA Tryd.prog .max ts [.float .f64 u, .float .f64 v] = some (.float .f64 (maxF u v)) := by
  have hn : nanMM .max [.float .f64 u, .float .f64 v] = none := by
    show (if (double.order u v).isNone then some nanV else none) = none
    cases ho : double.order u v with
    | none => exact absurd ho h
    | some o => rfl
  rw [pureB_eq hn]
  have e : pureB0 Tryd.prog .max ts [.float .f64 u, .float .f64 v] = prunF Tryd.prog (Builtin.max2 (.float .f64 u) (.float .f64 v)) := by
    show prunF Tryd.prog (List.foldlM Builtin.max2 _ _) = _
    simp only [List.foldlM, bind_pure]
  rw [e]
  unfold Builtin.max2 maxF
  have hf : FloatKind.f64.format.order u v = double.order u v := rfl
  simp only [hf]
  cases ho : double.order u v with
  | none => exact absurd ho h
  | some o => cases o <;> rfl
theorem order_some {u v : Nat} (hu : isNum u) (hv : isNum v) : double.order u v ≠ none := by
  unfold isNum Format.order at *
  cases hx : double.read u with
  | nan s f => rw [hx] at hu; exact absurd rfl hu
  | infinity s =>
    cases hy : double.read v with
    | nan s f => rw [hy] at hv; exact absurd rfl hv
    | infinity t => simp [Datum.order]
    | number t n j => simp [Datum.order]
  | number s m i =>
    cases hy : double.read v with
    | nan s f => rw [hy] at hv; exact absurd rfl hv
    | infinity t => simp [Datum.order]
    | number t n j => simp [Datum.order]
theorem min_max {u v : Nat} (hu : u < 18446744073709551616) (hv : v < 18446744073709551616) (nu : isNum u) (nv : isNum v) : (minF u v = u ∨ minF u v = v) ∧ (maxF u v = u ∨ maxF u v = v) ∧ pos (minF u v) ≤ pos (maxF u v) := by
  have hsw : double.order v u = (double.order u v).map Ordering.swap := order_swap _ _
  have ho := order_some nu nv
  unfold minF maxF
  cases h : double.order u v with
  | none => exact absurd h ho
  | some o =>
    rw [h] at hsw
    cases o with
    | lt => exact ⟨.inl rfl, .inr rfl, pos_mono hu hv (.inl h)⟩
    | gt => exact ⟨.inr rfl, .inl rfl, pos_mono hv hu (.inl hsw)⟩
    | eq =>
      simp only
      split
      · exact ⟨.inl rfl, .inr rfl, pos_mono hu hv (.inr h)⟩
      · exact ⟨.inr rfl, .inl rfl, pos_mono hv hu (.inr hsw)⟩
theorem nan35 (b : Nat) (h : double.order b b = none) (a : AW) (K) : WCall Tryd.prog GW 35 [.float .f64 b] a K = K (.bool true) a := by
  refine call_eq ?_ K
  rw [call_env Tryd.func35 rfl Tryd.ntmps35 rfl rfl (by simp)]
  have hf : FloatKind.f64.format = double := rfl
  have e : (double.order b b != some .eq) = true := by rw [h]; rfl
  simp -dsimp (maxSteps := 4000000) (disch := first | omega | assumption | (simp only [FB, Nat.reduceAdd]; done) | (simp only [LB]; omega)) only [EB, ↓reduceIte, WB, Nat.reduceSub, Nat.reduceAdd, Int.reduceEq, Int.reduceNe, Int.reduceLT, Int.reduceLE, Int.reduceAdd, Int.reduceSub, Int.reduceMul, Int.reduceNeg, Int.reduceToNat, Nat.reduceEqDiff, Nat.reduceLT, Nat.reduceLeDiff, Nat.reduceMul, List.replicate, reduceCtorEq, flt_neq, hf, e]
  exact ⟨(by first | trivial | rfl | omega), (by first | trivial | rfl | omega)⟩
theorem nan11 (b : Nat) (h : double.order b b = none) (a : AW) (K) : WCall Tryd.prog GW 11 [.float .f64 b] a K = K (.string (mkStr [110, 111, 110, 101])) a := by
  refine call_eq ?_ K
  rw [call_env Tryd.func11 rfl Tryd.ntmps11 rfl rfl (by simp)]
  have hm : ∀ {t : TypeId} {x y : Operand}, binA Tryd.prog .mul t x y (.float .f64 b) (.float .f64 4636737291354636288) = some nanV := fun {t x y} => by
    have hn : nanBin .mul (.float .f64 b) (.float .f64 4636737291354636288) = some nanV := by
      show (if (double.mul b 4636737291354636288).isNone then some nanV else none) = some nanV
      rw [(arith_nan (.inl h)).2.2.1]; rfl
    unfold binA; rw [hn]
  have n35 := fun a K => nan35 b h a K
  simp -dsimp (maxSteps := 4000000) (disch := first | omega | assumption | (simp only [FB, Nat.reduceAdd]; done) | (simp only [LB]; omega)) only [EB, ↓reduceIte, WB, Nat.reduceSub, Nat.reduceAdd, Int.reduceEq, Int.reduceNe, Int.reduceLT, Int.reduceLE, Int.reduceAdd, Int.reduceSub, Int.reduceMul, Int.reduceNeg, Int.reduceToNat, Nat.reduceEqDiff, Nat.reduceLT, Nat.reduceLeDiff, Nat.reduceMul, List.replicate, reduceCtorEq, hm, n35]
  exact ⟨(by first | trivial | rfl | omega), (by first | trivial | rfl | omega)⟩
theorem law3 (u v : Nat) (x : Int) (hu : u < 18446744073709551616) (hv : v < 18446744073709551616) (hx : -9223372036854775808 ≤ x ∧ x ≤ 9223372036854775807) (a : AW) (K) :
    WCall Tryd.prog GW 3 [.float .f64 u, .float .f64 v, .int .i64 x] a K = K (.bool true) a := by
  refine call_eq ?_ K
  rw [call_env Tryd.func3 rfl Tryd.ntmps3 rfl rfl (by simp)]
  have hpb := pickN_bd x 99 (by decide)
  obtain ⟨k, hk⟩ : ∃ k : Nat, pickN x 99 = k := ⟨(pickN x 99).toNat, by omega⟩
  have hp := fun a K => pick10 x 99 hx (by decide) a K
  rw [hk] at hp hpb
  obtain ⟨y, g, hy, hg, gb, gn, gl⟩ := half_at k (by omega)
  have hf : FloatKind.f64.format = double := rfl
  have e1 : FloatKind.f64.format.add (FloatKind.nearest .f64 (k : Int)) 4602678819172646912 = some y := hy
  have e2 : FloatKind.f64.format.div y 4636737291354636288 = some g := hg
  have c1 := fun a K => text11 g gb gn a K
  rw [gl, textL_at (by omega)] at c1
  have c2 := fun a K => dig12 k (by omega) a K
  have ee : ∀ {b : Nat} (hb : b < 18446744073709551616), isNum b → (double.order b b != some .eq) = false := fun hb hn => by rw [(num_cases hb hn).2.1]; rfl
  have en : ∀ {b : Nat}, ¬ isNum b → (double.order b b != some .eq) = true ∧ double.order b b = none := fun hn => by
    unfold isNum at hn
    have : double.order _ _ = none := Classical.not_not.1 hn
    rw [this]; exact ⟨rfl, rfl⟩
  by_cases nu : isNum u
  · have c3 := ee hu nu
    have c3' : (double.order u u == some .eq) = true := by rw [(num_cases hu nu).2.1]; rfl
    by_cases nv : isNum v
    · have c4 := ee hv nv
      obtain ⟨m1, m2, m3⟩ := min_max hu hv nu nv
      have hmb : minF u v < 18446744073709551616 ∧ isNum (minF u v) := by rcases m1 with e | e <;> rw [e] <;> constructor <;> assumption
      have hxb : maxF u v < 18446744073709551616 ∧ isNum (maxF u v) := by rcases m2 with e | e <;> rw [e] <;> constructor <;> assumption
      have l1 := levN_le (pos (minF u v))
      have l2 := levN_le (pos (maxF u v))
      have l3 := levN_mono m3
      have d1 := fun a K => text11 (minF u v) hmb.1 hmb.2 a K
      have d2 := fun a K => text11 (maxF u v) hxb.1 hxb.2 a K
      have d3 := fun a K => level13 _ l1 a K
      have d4 := fun a K => level13 _ l2 a K
      have o := order_some nu nv
      simp -dsimp (maxSteps := 4000000) (disch := first | omega | assumption | (simp only [FB, Nat.reduceAdd]; done) | (simp only [LB]; omega)) only [EB, ↓reduceIte, WB, Nat.reduceSub, Nat.reduceAdd, Int.reduceEq, Int.reduceNe, Int.reduceLT, Int.reduceLE, Int.reduceAdd, Int.reduceSub, Int.reduceMul, Int.reduceNeg, Int.reduceToNat, Nat.reduceEqDiff, Nat.reduceLT, Nat.reduceLeDiff, Nat.reduceMul, List.replicate, reduceCtorEq, livesW, hp, opW_conv_flt, conv_flt und3 und22, flt_add e1, flt_quo e2, c1, c2, conv_u64, conv_int und3 und27, wrapu64, dig_pct, flt_neq, hf, c3, c4, min_flt o, max_flt o, d1, d2, d3, d4, show (0 : Int) ≤ (levN (pos (minF u v)) : Int) by omega, show (levN (pos (maxF u v)) : Int) ≤ 101 by omega, show (levN (pos (minF u v)) : Int) ≤ (levN (pos (maxF u v)) : Int) by omega]
      exact ⟨(by first | trivial | rfl | omega), (by first | trivial | rfl | omega)⟩
    · obtain ⟨c4, -⟩ := en nv
      have d1 := fun a K => text11 u hu nu a K
      have d2 := text_none _ (Nat.lt_succ_of_le (levN_le (pos u)))
      simp -dsimp (maxSteps := 4000000) (disch := first | omega | assumption | (simp only [FB, Nat.reduceAdd]; done) | (simp only [LB]; omega)) only [EB, ↓reduceIte, WB, Nat.reduceSub, Nat.reduceAdd, Int.reduceEq, Int.reduceNe, Int.reduceLT, Int.reduceLE, Int.reduceAdd, Int.reduceSub, Int.reduceMul, Int.reduceNeg, Int.reduceToNat, Nat.reduceEqDiff, Nat.reduceLT, Nat.reduceLeDiff, Nat.reduceMul, List.replicate, reduceCtorEq, livesW, hp, opW_conv_flt, conv_flt und3 und22, flt_add e1, flt_quo e2, c1, c2, conv_u64, conv_int und3 und27, wrapu64, dig_pct, flt_neq, flt_eql, hf, c3, c3', c4, d1, decide_eq_false d2]
      exact ⟨(by first | trivial | rfl | omega), (by first | trivial | rfl | omega)⟩
  · obtain ⟨c3, c3n⟩ := en nu
    simp -dsimp (maxSteps := 4000000) (disch := first | omega | assumption | (simp only [FB, Nat.reduceAdd]; done) | (simp only [LB]; omega)) only [EB, ↓reduceIte, WB, Nat.reduceSub, Nat.reduceAdd, Int.reduceEq, Int.reduceNe, Int.reduceLT, Int.reduceLE, Int.reduceAdd, Int.reduceSub, Int.reduceMul, Int.reduceNeg, Int.reduceToNat, Nat.reduceEqDiff, Nat.reduceLT, Nat.reduceLeDiff, Nat.reduceMul, List.replicate, reduceCtorEq, livesW, hp, opW_conv_flt, conv_flt und3 und22, flt_add e1, flt_quo e2, c1, c2, conv_u64, conv_int und3 und27, wrapu64, dig_pct, flt_neq, flt_eql, hf, c3, nan11 u c3n]
    exact ⟨(by first | trivial | rfl | omega), (by first | trivial | rfl | omega)⟩
end Go.Proofs.YtnjhndfomjjkdaaDoorAM
