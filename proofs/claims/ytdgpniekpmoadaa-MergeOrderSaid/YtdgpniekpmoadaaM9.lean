/- Chapter 26: MergeCalls. -/
import Derived.Test.YtdgpniekpmoadaaM8
namespace Go.Proofs.YtdgpniekpmoadaaAM
open Go Go.RowKit
set_option linter.unusedVariables false
set_option linter.unusedSimpArgs false
set_option maxRecDepth 10000
set_option maxHeartbeats 4000000

theorem bool_eql {x y : Operand} {b : Bool} : binA Try.prog .eql 4 x y (.bool b) (.bool b) = some (.bool true) := by cases b <;> rfl
theorem calls7 (v u : Value) (ps : List Pr) (l : List Or') (s : List UInt8) (hps : ps.length ≤ 140737488355328) (hl : l.length ≤ 140737488355328) (hx : ∀ x ∈ ps, x.key.length ≤ 140737488355328 ∧ x.val.length ≤ 140737488355328) (hpg : ∀ o ∈ l, 0 ≤ o.page ∧ o.page ≤ 4294967295) (a : AW) (m : Nat) (hm : m ≤ a.next) (hv : RV encPr 2 a.heap m v ps) (hu : RV encO 4 a.heap m u l) (K : Value → AW → Prop) :
    WCall Try.prog GV 7 [v, u, .string (mkStr s)] a K = K (.bool true) a := by
  refine call_eq ?_ K
  rw [call_env Try.func7 rfl Try.ntmps7 rfl rfl (by simp)]
  have hli := fun K => light12 v u ps l hps hl hx ⟨a.next, a.heap, a.next, []⟩ m hm hv hu K
  by_cases hB : lightB ps l
  · rw [decide_eq_true hB] at hli
    by_cases h2 : (200 : Int) < s.length
    · simp -dsimp (maxSteps := 4000000) (disch := first | omega | assumption | (simp only [FB, Nat.reduceAdd]; done) | (simp only [LB]; omega)) only [EB, ↓reduceIte, WB, Nat.reduceSub, Nat.reduceAdd, Int.reduceEq, Int.reduceNe, Int.reduceLT, Int.reduceLE, Int.reduceAdd, Int.reduceSub, Int.reduceMul, Int.reduceNeg, Int.reduceToNat, Nat.reduceEqDiff, Nat.reduceLT, Nat.reduceLeDiff, Nat.reduceMul, List.replicate, reduceCtorEq, TB, NB, MB, lives8, hli, h2]
      exact ⟨(by first | trivial | rfl | omega), (by first | trivial | rfl | omega)⟩
    · obtain ⟨⟨b1, b2⟩, b3, b4⟩ := hB
      obtain ⟨po, co, hue⟩ := hu.len
      simp -dsimp (maxSteps := 4000000) (disch := first | omega | assumption | (simp only [FB, Nat.reduceAdd]; done) | (simp only [LB]; omega)) only [EB, ↓reduceIte, WB, Nat.reduceSub, Nat.reduceAdd, Int.reduceEq, Int.reduceNe, Int.reduceLT, Int.reduceLE, Int.reduceAdd, Int.reduceSub, Int.reduceMul, Int.reduceNeg, Int.reduceToNat, Nat.reduceEqDiff, Nat.reduceLT, Nat.reduceLeDiff, Nat.reduceMul, List.replicate, reduceCtorEq, TB, NB, MB, lives8, hli, h2]
      refine loop_inv (fun r t w => ∃ i n, ∃ e : Nat → Value, r = l.length - i ∧ i ≤ l.length ∧ w = ⟨n, a.heap, a.next, []⟩ ∧ a.next ≤ n ∧ t = TT 110 e ∧ e 0 = v ∧ e 1 = u ∧ e 2 = .string (mkStr s) ∧ e 7 = .int .i64 i) ⟨0, a.next, _, rfl, by omega, rfl, Nat.le_refl _, rfl, rfl, rfl, rfl, rfl⟩ ?_
      rintro r t w ⟨i, n, e, rfl, hi, rfl, hn, rfl, t0, t1, t2, t7⟩
      by_cases hlt : i < l.length
      · have hu2 := hu
        rw [hue] at hu2
        obtain ⟨b, o, sp, rw0, cc, he, hlk, hbn, hle, hat, -⟩ := hu2.at encO_len hlt
        subst he
        subst hue
        have hpi := hpg l[i] (List.getElem_mem hlt)
        have hki := (b4 l[i] (List.getElem_mem hlt)).1
        have k1 := fun a K => key10 l[i] hpi (by omega) a K
        have k2 := fun a K => key20 l[i] hpi (by omega) a K
        simp -dsimp (maxSteps := 4000000) (disch := first | omega | assumption | (simp only [FB, Nat.reduceAdd]; done) | (simp only [LB]; omega)) only [EB, ↓reduceIte, WB, Nat.reduceSub, Nat.reduceAdd, Int.reduceEq, Int.reduceNe, Int.reduceLT, Int.reduceLE, Int.reduceAdd, Int.reduceSub, Int.reduceMul, Int.reduceNeg, Int.reduceToNat, Nat.reduceEqDiff, Nat.reduceLT, Nat.reduceLeDiff, Nat.reduceMul, List.replicate, reduceCtorEq, TB, NB, MB, t0, t1, t2, t7, show (i : Int) < l.length by omega]
        refine code_draw [(0, 1), (0, 5), (0, 6), (0, 7), (0, 8), (1, 5), (1, 6), (1, 7), (1, 8), (2, 5), (2, 6), (2, 7), (2, 8), (3, 5), (3, 6), (3, 7), (3, 8), (4, 5), (4, 6), (4, 7), (4, 8), (5, 6)] (by decide +kernel) (by decide +kernel) ?_
        simp -dsimp (maxSteps := 4000000) (disch := first | omega | assumption | (simp only [FB, Nat.reduceAdd]; done) | (simp only [LB]; omega)) only [EB, ↓reduceIte, WB, Nat.reduceSub, Nat.reduceAdd, Int.reduceEq, Int.reduceNe, Int.reduceLT, Int.reduceLE, Int.reduceAdd, Int.reduceSub, Int.reduceMul, Int.reduceNeg, Int.reduceToNat, Nat.reduceEqDiff, Nat.reduceLT, Nat.reduceLeDiff, Nat.reduceMul, List.replicate, reduceCtorEq, RB, Nat.reduceEqDiff, TB, NB, MB, t0, t1, t2, t7, hlk, hat, k1, k2, show b < n + 1 by omega, show ¬ n + 1 ≤ b by omega, wrap64]
        refine ⟨l.length - (i + 1), by omega, i + 1, n + 1, _, rfl, by omega, (by first | trivial | rfl | omega), by omega, rfl, ?_⟩
        simp only [ups_at, ↓reduceIte, Nat.reduceEqDiff]
        exact ⟨t0, (by first | trivial | rfl | omega), t2, (by first | trivial | rfl | omega)⟩
      · obtain rfl : i = l.length := by omega
        have hpg2 : ∀ o ∈ l, (0 ≤ o.page ∧ o.page ≤ 4294967295) ∧ o.key.length ≤ 100000000 := fun o ho => ⟨hpg o ho, by have := (b4 o ho).1; omega⟩
        have htk : ∀ p ∈ ps, p.key.length ≤ 100000000 := fun p hp => by have := lightP_mem ps hp; omega
        have hlu : ∀ w, lenA (.slice po l.length w) = some l.length := fun _ => rfl
        subst hue
        simp -dsimp (maxSteps := 4000000) (disch := first | omega | assumption | (simp only [FB, Nat.reduceAdd]; done) | (simp only [LB]; omega)) only [EB, ↓reduceIte, WB, Nat.reduceSub, Nat.reduceAdd, Int.reduceEq, Int.reduceNe, Int.reduceLT, Int.reduceLE, Int.reduceAdd, Int.reduceSub, Int.reduceMul, Int.reduceNeg, Int.reduceToNat, Nat.reduceEqDiff, Nat.reduceLT, Nat.reduceLeDiff, Nat.reduceMul, List.replicate, reduceCtorEq, TB, NB, MB, t0, t1, t2, t7, show ¬ (l.length : Int) < l.length by omega]
        refine own14 v ps (by omega) ⟨n, a.heap, a.next, []⟩ m (by simp only; omega) hv _ fun v1 n1 h1 x1 x2 x3 x4 => ?_
        simp only at x1 x2 x3 x4
        simp -dsimp (maxSteps := 4000000) (disch := first | omega | assumption | (simp only [FB, Nat.reduceAdd]; done) | (simp only [LB]; omega)) only [EB, ↓reduceIte, WB, Nat.reduceSub, Nat.reduceAdd, Int.reduceEq, Int.reduceNe, Int.reduceLT, Int.reduceLE, Int.reduceAdd, Int.reduceSub, Int.reduceMul, Int.reduceNeg, Int.reduceToNat, Nat.reduceEqDiff, Nat.reduceLT, Nat.reduceLeDiff, Nat.reduceMul, List.replicate, reduceCtorEq, TB, NB, MB, t0, t1, t2, t7]
        have hu1 : RV encO 4 h1 m (.slice po l.length co) l := hu.keep (Nat.le_refl _) fun j hj => x4 j (by omega)
        have hu1' : RV encO 4 h1 n1 (.slice po l.length co) l := hu1.keep (by omega) fun _ _ => rfl
        refine merge13 v1 _ ps l (by omega) (by omega) htk hpg2 ⟨n1, h1, a.next, []⟩ n1 (Nat.le_refl _) x3.rv hu1' _ fun v2 n2 h2' y1 y2 y3 y4 => ?_
        simp only at y1 y2 y3 y4
        simp -dsimp (maxSteps := 4000000) (disch := first | omega | assumption | (simp only [FB, Nat.reduceAdd]; done) | (simp only [LB]; omega)) only [EB, ↓reduceIte, WB, Nat.reduceSub, Nat.reduceAdd, Int.reduceEq, Int.reduceNe, Int.reduceLT, Int.reduceLE, Int.reduceAdd, Int.reduceSub, Int.reduceMul, Int.reduceNeg, Int.reduceToNat, Nat.reduceEqDiff, Nat.reduceLT, Nat.reduceLeDiff, Nat.reduceMul, List.replicate, reduceCtorEq, TB, NB, MB, t0, t1, t2, t7]
        have hv2 : RV encPr 2 h2' m v ps := hv.keep (Nat.le_refl _) fun j hj => by rw [y4 j (by omega), x4 j (by omega)]
        have hu2 : RV encO 4 h2' m (.slice po l.length co) l := hu1.keep (Nat.le_refl _) fun j hj => y4 j (by omega)
        refine merge21 v _ ps l (by omega) (by omega) hpg2 ⟨n2, h2', a.next, []⟩ m (by simp only; omega) hv2 hu2 _ fun v3 n3 h3 z1 z2 z3 => ?_
        simp only at z1 z2 z3
        have hv3 : RV encPr 2 h3 m v ps := hv2.keep (Nat.le_refl _) fun j hj => z3 j (by omega)
        have hw3 : RV encPr 2 h3 n3 v2 (outM (keptA ps l)) := y3.rv.keep (by omega) fun j hj => z3 j (by omega)
        have hlen := outM_len (keptA ps l)
        have hk1 := keptO_len (keptT ps) l
        have hk2 := keptT_len ps
        have hka : keptA ps l = keptO (keptT ps) l := rfl
        have f1 := fun K => same15 v2 v3 _ _ (by rw [hlen, hka]; omega) ⟨n3, h3, a.next, []⟩ n3 (Nat.le_refl _) hw3 z2 K
        have f2 := fun K => sorted18 v ps hps ⟨n3, h3, a.next, []⟩ m (by simp only; omega) hv3 K
        have f3 := fun K => sorted23 v ps hps ⟨n3, h3, a.next, []⟩ m (by simp only; omega) hv3 K
        have f4 := read11 s (by omega)
        have f5 := read22 s (by omega)
        rw [decide_eq_true rfl] at f1
        unfold readV at f4 f5
        by_cases h6 : 6 ≤ s.length ∧ s.length ≤ 40
        · rw [if_pos h6] at f4 f5
          cases hsb : sortB ps <;>
          · rw [hsb] at f2 f3
            simp -dsimp (maxSteps := 4000000) (disch := first | omega | assumption | (simp only [FB, Nat.reduceAdd]; done) | (simp only [LB]; omega)) only [EB, ↓reduceIte, WB, Nat.reduceSub, Nat.reduceAdd, Int.reduceEq, Int.reduceNe, Int.reduceLT, Int.reduceLE, Int.reduceAdd, Int.reduceSub, Int.reduceMul, Int.reduceNeg, Int.reduceToNat, Nat.reduceEqDiff, Nat.reduceLT, Nat.reduceLeDiff, Nat.reduceMul, List.replicate, reduceCtorEq, TB, NB, MB, t0, t1, t2, t7, f4, f5, f1, f2, f3, bool_eql]
            exact ⟨(by first | trivial | rfl | omega), (by first | trivial | rfl | omega)⟩
        · rw [if_neg h6] at f4 f5
          cases hsb : sortB ps <;>
          · rw [hsb] at f2 f3
            simp -dsimp (maxSteps := 4000000) (disch := first | omega | assumption | (simp only [FB, Nat.reduceAdd]; done) | (simp only [LB]; omega)) only [EB, ↓reduceIte, WB, Nat.reduceSub, Nat.reduceAdd, Int.reduceEq, Int.reduceNe, Int.reduceLT, Int.reduceLE, Int.reduceAdd, Int.reduceSub, Int.reduceMul, Int.reduceNeg, Int.reduceToNat, Nat.reduceEqDiff, Nat.reduceLT, Nat.reduceLeDiff, Nat.reduceMul, List.replicate, reduceCtorEq, TB, NB, MB, t0, t1, t2, t7, f4, f5, f1, f2, f3, bool_eql]
            exact ⟨(by first | trivial | rfl | omega), (by first | trivial | rfl | omega)⟩
  · rw [decide_eq_false hB] at hli
    simp -dsimp (maxSteps := 4000000) (disch := first | omega | assumption | (simp only [FB, Nat.reduceAdd]; done) | (simp only [LB]; omega)) only [EB, ↓reduceIte, WB, Nat.reduceSub, Nat.reduceAdd, Int.reduceEq, Int.reduceNe, Int.reduceLT, Int.reduceLE, Int.reduceAdd, Int.reduceSub, Int.reduceMul, Int.reduceNeg, Int.reduceToNat, Nat.reduceEqDiff, Nat.reduceLT, Nat.reduceLeDiff, Nat.reduceMul, List.replicate, reduceCtorEq, TB, NB, MB, lives8, hli]
    exact ⟨(by first | trivial | rfl | omega), (by first | trivial | rfl | omega)⟩
end Go.Proofs.YtdgpniekpmoadaaAM
