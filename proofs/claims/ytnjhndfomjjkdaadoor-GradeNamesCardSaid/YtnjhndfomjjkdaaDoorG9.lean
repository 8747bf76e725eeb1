/- Chapter 22: a share, the bar. -/
import Derived.Test.YtnjhndfomjjkdaaDoorG8
namespace Go.Proofs.YtnjhndfomjjkdaaDoorAM
open Go Go.RowKit
set_option linter.unusedVariables false
set_option linter.unusedSimpArgs false
set_option maxRecDepth 10000
set_option maxHeartbeats 4000000

section
variable {P : Program} {t : TypeId} {x y : Operand} {k : FloatKind} {u v r : Nat}
theorem flt_quo (h : k.format.div u v = some r) : binA P .quo t x y (.float k u) (.float k v) = some (.float k r) := by
  have hn : nanBin .quo (.float k u) (.float k v) = none := by
    cases k with
    | f32 => rfl
    | f64 =>
      have h2 : Ieee.double.div u v = some r := h
      show (if (Ieee.double.div u v).isNone then some nanV else none) = none
      rw [h2]; rfl
  rw [binA_eq hn]
  have e : binA0 P .quo t x y (.float k u) (.float k v) = prunF P (Op.floatArith .quo k u v) := by cases k <;> rfl
  rw [e]; simp only [Op.floatArith, h]; rfl
theorem flt_sub (h : k.format.sub u v = some r) : binA P .sub t x y (.float k u) (.float k v) = some (.float k r) := by
  have hn : nanBin .sub (.float k u) (.float k v) = none := by
    cases k with
    | f32 => rfl
    | f64 =>
      have h2 : Ieee.double.sub u v = some r := h
      show (if (Ieee.double.sub u v).isNone then some nanV else none) = none
      rw [h2]; rfl
  rw [binA_eq hn]
  have e : binA0 P .sub t x y (.float k u) (.float k v) = prunF P (Op.floatArith .sub k u v) := by cases k <;> rfl
  rw [e]; simp only [Op.floatArith, h]; rfl
end
theorem kind_conv_flt {s d x j k} (hs : Tryd.prog.underlying s = some (.int j)) (hd : Tryd.prog.underlying d = some (.float k)) : kindO Tryd.prog (oper (.convert s d x)) = .pure := by
  simp [kindO, oper, hs, hd]
theorem op_conv_flt {s d x j k t a K} (hs : Tryd.prog.underlying s = some (.int j)) (hd : Tryd.prog.underlying d = some (.float k)) : WOp Tryd.prog GV (.convert s d x) t a K = WVal (evalA t x) fun v => WVal (convV Tryd.prog s d v) fun r => K r a := op_conv (kind_conv_flt hs hd)
theorem conv_flt {s d j k} {n : Int} (hs : Tryd.prog.underlying s = some (.int j)) (hd : Tryd.prog.underlying d = some (.float k)) : convV Tryd.prog s d (.int j n) = some (.float k (k.nearest n)) := by
  simp only [convV, flat, flatN, if_true, prunF]
  unfold convert
  rw [prun_underlying s _ hs, prun_underlying d _ hd]
  rfl
theorem near_nat (N : Nat) : FloatKind.nearest .f64 (N : Int) = Ieee.double.nearest false N 0 := by
  show Ieee.double.nearest (decide ((N : Int) < 0)) (N : Int).natAbs 0 = _
  rw [show decide ((N : Int) < 0) = false by simp]; rfl
theorem share23 (N P r : Nat) (h : Ieee.double.div (Ieee.double.nearest false N 0) (Ieee.double.nearest false P 0) = some r) (a : AW) (K) : WCall Tryd.prog GV 23 [.int .i64 N, .int .i64 P] a K = K (.float .f64 r) a := by
  refine call_eq ?_ K
  rw [call_env Tryd.func23 rfl Tryd.ntmps23 rfl rfl (by simp)]
  have hq : FloatKind.f64.format.div (FloatKind.nearest .f64 (N : Int)) (FloatKind.nearest .f64 (P : Int)) = some r := by rw [near_nat, near_nat]; exact h
  simp -dsimp (maxSteps := 4000000) (disch := first | omega | assumption | (simp only [FB, Nat.reduceAdd]; done) | (simp only [LB]; omega)) only [EB, ↓reduceIte, WB, Nat.reduceSub, Nat.reduceAdd, Int.reduceEq, Int.reduceNe, Int.reduceLT, Int.reduceLE, Int.reduceAdd, Int.reduceSub, Int.reduceMul, Int.reduceNeg, Int.reduceToNat, Nat.reduceEqDiff, Nat.reduceLT, Nat.reduceLeDiff, Nat.reduceMul, List.replicate, reduceCtorEq, op_conv_flt und3 und22, conv_flt und3 und22, flt_quo hq]
  exact ⟨(by first | trivial | rfl | omega), (by first | trivial | rfl | omega)⟩
theorem ge_zero (g : Nat) (hg : g < 9218868437227405312) : (Ieee.double.order g 0 == some .gt || Ieee.double.order g 0 == some .eq) = true := by
  have h := order_nat g 0 hg (by decide)
  rcases Nat.eq_zero_or_pos g with h0 | h0
  · rw [h.2.1 h0]; rfl
  · rw [h.2.2 h0]; rfl
theorem le_of (g u : Nat) (hg : g < 9218868437227405312) (hu : u < 9218868437227405312) (h : g ≤ u) : (Ieee.double.order g u == some .lt || Ieee.double.order g u == some .eq) = true := by
  have h1 := order_nat g u hg hu
  rcases Nat.lt_or_ge g u with h0 | h0
  · rw [h1.1 h0]; rfl
  · rw [h1.2.1 (by omega)]; rfl
theorem ge_of (g u : Nat) (hg : g < 9218868437227405312) (hu : u < 9218868437227405312) (h : u ≤ g) : (Ieee.double.order g u == some .gt || Ieee.double.order g u == some .eq) = true := by
  have h1 := order_nat g u hg hu
  rcases Nat.lt_or_ge u g with h0 | h0
  · rw [h1.2.2 h0]; rfl
  · rw [h1.2.1 (by omega)]; rfl
theorem bar18 (g : Nat) (hg : g ≤ 4607182418800017408) (a : AW) (K) : WCall Tryd.prog GV 18 [.float .f64 g] a K = K (.int .i64 0) a := by
  refine call_eq ?_ K
  rw [call_env Tryd.func18 rfl Tryd.ntmps18 rfl rfl (by simp)]
  have c := compare14 g 0 (by omega) (by decide)
  have e : ∃ z : Int, cmpZ (placeZ g) (placeZ 0) = z ∧ 0 ≤ z := by
    refine ⟨_, rfl, ?_⟩
    unfold cmpZ placeZ
    rw [if_pos (by omega : g < 9223372036854775808), if_pos (by decide : 0 < 9223372036854775808)]
    repeat' split
    all_goals omega
  obtain ⟨z, hz, h0⟩ := e
  rw [hz] at c
  have hlt : FloatKind.f64.format = Ieee.double := rfl
  simp -dsimp (maxSteps := 4000000) (disch := first | omega | assumption | (simp only [FB, Nat.reduceAdd]; done) | (simp only [LB]; omega)) only [EB, ↓reduceIte, WB, Nat.reduceSub, Nat.reduceAdd, Int.reduceEq, Int.reduceNe, Int.reduceLT, Int.reduceLE, Int.reduceAdd, Int.reduceSub, Int.reduceMul, Int.reduceNeg, Int.reduceToNat, Nat.reduceEqDiff, Nat.reduceLT, Nat.reduceLeDiff, Nat.reduceMul, List.replicate, reduceCtorEq, c, flt_geq, flt_leq, hlt, ge_zero g (by omega), le_of g 4607182418800017408 (by omega) (by decide) hg, h0]
  exact ⟨(by first | trivial | rfl | omega), (by first | trivial | rfl | omega)⟩
end Go.Proofs.YtnjhndfomjjkdaaDoorAM
