/- Chapter 13: BuildParts answers true. -/
import Derived.Test.YtijmlgccaicblaaC6
namespace Go.Proofs.YtijmlgccaicblaaAM
open Go Go.RowKit
set_option linter.unusedVariables false
set_option linter.unusedSimpArgs false
set_option maxRecDepth 10000
set_option maxHeartbeats 4000000

theorem cutL_last {room : Int} {l : List Int} (h : cutL room l ≠ []) : lastIs l.length 0 (cutL room l) := by
  by_cases hc : cutIn room l
  · by_cases h0 : l = []
    · rw [h0, cutL_nil] at h; exact absurd rfl h
    · rw [cutL_ok hc h0]; exact last_app _ _ _
  · rw [cutL_bad hc] at h; exact absurd rfl h
theorem branchesF_small (size : Int) (k : List Fk) : (branchesF size k).1.length ≤ k.length + 1 ∧ (branchesF size k).1.flatten.length ≤ k.length := by
  unfold branchesF
  by_cases h : mayF k = true ∧ goodSz size
  · rw [if_pos h]
    unfold partsF
    by_cases hE : cutL (room size) (k.map fun x => (fsz x : Int)) = []
    · rw [if_pos hE]; simp
    · rw [if_neg hE]
      have h1 := upTo_cut hE
      have h2 := cutL_last hE
      have h3 := cutL_len (room size) (k.map fun x => (fsz x : Int))
      rw [List.length_map] at h1 h2 h3
      rw [cutAt_len, cutAt_flat k _ 0 h1 h2, List.drop_zero]
      exact ⟨h3, Nat.le_refl _⟩
  · rw [if_neg h]; simp
theorem leavesI_small (size : Int) (l : List It) : (leavesI size l).1.length ≤ l.length + 1 ∧ (leavesI size l).1.flatten.length ≤ l.length := by
  rcases leavesI_cases size l with ⟨_, h⟩ | ⟨_, _, _, E, h1, _, h2, h3, h4⟩
  · rw [h]; simp
  · rw [h4, cutAt_len, cutAt_flat l _ 0 h1 h2, List.drop_zero]; exact ⟨h3, Nat.le_refl _⟩
theorem law5 (room_ size : Int) (vs v vk : Value) (sizes : List Int) (l : List It) (k : List Fk) (hls : sizes.length ≤ 140737488355328) (hll : l.length ≤ 140737488355328) (hlk : k.length ≤ 140737488355328) (hro : room_ ≤ 9223372036854775807) (hx : ∀ x ∈ l, x.key.length ≤ 140737488355328 ∧ x.val.length ≤ 140737488355328) (a : AW) (hvs : RV encN 1 a.heap a.next vs sizes) (hv : RV encI 5 a.heap a.next v l) (hvk : RV encF 2 a.heap a.next vk k) :
    WCall Try.prog GV 5 [vs, .int .i64 room_, .int .i64 size, v, vk] a fun r _ => r = .bool true := by
  rw [call_env Try.func5 rfl Try.ntmps5 rfl rfl (by simp)]
  obtain ⟨ps, cs, rfl⟩ := hvs.len
  obtain ⟨pp, c, rfl⟩ := hv.len
  obtain ⟨pk, ck, rfl⟩ := hvk.len
  have hlt : ∀ K : Value → AW → Prop, WCall Try.prog GV 14 [.slice pp l.length c, .int .i64 100, .int .i64 4000] ⟨a.next, a.heap, a.next, []⟩ K = K (.bool (decide (l.length ≤ 100 ∧ lightI l ≤ 4000))) ⟨a.next, a.heap, a.next, []⟩ := fun K => light14 (.slice pp l.length c) l 100 4000 (by omega) (by omega) hll hx ⟨a.next, a.heap, a.next, []⟩ a.next (Nat.le_refl _) hv K
  by_cases c0 : (100 : Int) < sizes.length
  · simp -dsimp (maxSteps := 4000000) (disch := first | omega | assumption | (simp only [FB, Nat.reduceAdd]; done) | (simp only [LB]; omega)) only [EB, ↓reduceIte, WB, Nat.reduceSub, Nat.reduceAdd, Int.reduceEq, Int.reduceNe, Int.reduceLT, Int.reduceLE, Int.reduceAdd, Int.reduceSub, Int.reduceMul, Int.reduceNeg, Int.reduceToNat, Nat.reduceEqDiff, Nat.reduceLT, Nat.reduceLeDiff, Nat.reduceMul, List.replicate, reduceCtorEq, TB, NB, lives9, c0, leave_fst flat_bool]
  by_cases c1 : l.length ≤ 100 ∧ lightI l ≤ 4000
  · by_cases c2 : (100 : Int) < k.length
    · simp -dsimp (maxSteps := 4000000) (disch := first | omega | assumption | (simp only [FB, Nat.reduceAdd]; done) | (simp only [LB]; omega)) only [EB, ↓reduceIte, WB, Nat.reduceSub, Nat.reduceAdd, Int.reduceEq, Int.reduceNe, Int.reduceLT, Int.reduceLE, Int.reduceAdd, Int.reduceSub, Int.reduceMul, Int.reduceNeg, Int.reduceToNat, Nat.reduceEqDiff, Nat.reduceLT, Nat.reduceLeDiff, Nat.reduceMul, List.replicate, reduceCtorEq, TB, NB, lives9, c0, hlt, decide_eq_true c1, c2, leave_fst flat_bool]
    · simp -dsimp (maxSteps := 4000000) (disch := first | omega | assumption | (simp only [FB, Nat.reduceAdd]; done) | (simp only [LB]; omega)) only [EB, ↓reduceIte, WB, Nat.reduceSub, Nat.reduceAdd, Int.reduceEq, Int.reduceNe, Int.reduceLT, Int.reduceLE, Int.reduceAdd, Int.reduceSub, Int.reduceMul, Int.reduceNeg, Int.reduceToNat, Nat.reduceEqDiff, Nat.reduceLT, Nat.reduceLeDiff, Nat.reduceMul, List.replicate, reduceCtorEq, TB, NB, lives9, c0, hlt, decide_eq_true c1, c2]
      have I := fun e : Nat → Value => e 0 = .slice ps sizes.length cs ∧ e 1 = .int .i64 room_ ∧ e 2 = .int .i64 size ∧ e 3 = .slice pp l.length c ∧ e 4 = .slice pk k.length ck
      refine loop_inv (fun r t w => ∃ i, ∃ e : Nat → Value, r = sizes.length - i ∧ i ≤ sizes.length ∧ w = ⟨a.next, a.heap, a.next, []⟩ ∧ t = TT 150 e ∧ e 0 = .slice ps sizes.length cs ∧ e 1 = .int .i64 room_ ∧ e 2 = .int .i64 size ∧ e 3 = .slice pp l.length c ∧ e 4 = .slice pk k.length ck ∧ e 11 = .int .i64 i) ⟨0, _, rfl, by omega, rfl, rfl, rfl, rfl, rfl, rfl, rfl, rfl⟩ ?_
      rintro r t w ⟨i, e, rfl, hi, rfl, rfl, t0, t1, t2, t3, t4, t11⟩
      by_cases hlti : i < sizes.length
      · obtain ⟨b, o, sp, rw0, cc, rfl, hlk1, hbn, hle, hat, hkk⟩ := hvs.at encN_len hlti
        have hx1 : cc[o + i]? = some (.int .i64 sizes[i]) := by have := hkk 0 (by omega); simpa [encN] using this
        by_cases hbig : (1099511627776 : Int) < sizes[i]
        · simp -dsimp (maxSteps := 4000000) (disch := first | omega | assumption | (simp only [FB, Nat.reduceAdd]; done) | (simp only [LB]; omega)) only [EB, ↓reduceIte, WB, Nat.reduceSub, Nat.reduceAdd, Int.reduceEq, Int.reduceNe, Int.reduceLT, Int.reduceLE, Int.reduceAdd, Int.reduceSub, Int.reduceMul, Int.reduceNeg, Int.reduceToNat, Nat.reduceEqDiff, Nat.reduceLT, Nat.reduceLeDiff, Nat.reduceMul, List.replicate, reduceCtorEq, TB, NB, t0, t1, t2, t3, t4, t11, show (i : Int) < sizes.length by omega, hlk1, hx1, hbig, leave_fst flat_bool]
        · simp -dsimp (maxSteps := 4000000) (disch := first | omega | assumption | (simp only [FB, Nat.reduceAdd]; done) | (simp only [LB]; omega)) only [EB, ↓reduceIte, WB, Nat.reduceSub, Nat.reduceAdd, Int.reduceEq, Int.reduceNe, Int.reduceLT, Int.reduceLE, Int.reduceAdd, Int.reduceSub, Int.reduceMul, Int.reduceNeg, Int.reduceToNat, Nat.reduceEqDiff, Nat.reduceLT, Nat.reduceLeDiff, Nat.reduceMul, List.replicate, reduceCtorEq, TB, NB, t0, t1, t2, t3, t4, t11, show (i : Int) < sizes.length by omega, hlk1, hx1, hbig, wrap64]
          refine ⟨trivial, sizes.length - (i + 1), by omega, i + 1, _, rfl, by omega, (by first | trivial | rfl | omega), rfl, ?_⟩
          simp only [ups_at, ↓reduceIte, Nat.reduceEqDiff]; exact ⟨t0, t1, t2, t3, t4, (by first | trivial | rfl | omega)⟩
      · obtain rfl : i = sizes.length := by omega
        simp -dsimp (maxSteps := 4000000) (disch := first | omega | assumption | (simp only [FB, Nat.reduceAdd]; done) | (simp only [LB]; omega)) only [EB, ↓reduceIte, WB, Nat.reduceSub, Nat.reduceAdd, Int.reduceEq, Int.reduceNe, Int.reduceLT, Int.reduceLE, Int.reduceAdd, Int.reduceSub, Int.reduceMul, Int.reduceNeg, Int.reduceToNat, Nat.reduceEqDiff, Nat.reduceLT, Nat.reduceLeDiff, Nat.reduceMul, List.replicate, reduceCtorEq, TB, NB, t0, t1, t2, t3, t4, t11, show ¬ (sizes.length : Int) < sizes.length by omega]
        refine loop_inv (fun r t w => ∃ i, ∃ e : Nat → Value, r = k.length - i ∧ i ≤ k.length ∧ w = ⟨a.next, a.heap, a.next, []⟩ ∧ t = TT 150 e ∧ e 0 = .slice ps sizes.length cs ∧ e 1 = .int .i64 room_ ∧ e 2 = .int .i64 size ∧ e 3 = .slice pp l.length c ∧ e 4 = .slice pk k.length ck ∧ e 12 = .int .i64 i) ⟨0, _, rfl, by omega, rfl, rfl, by simp only [ups_at, ↓reduceIte, Nat.reduceEqDiff]; exact t0, by simp only [ups_at, ↓reduceIte, Nat.reduceEqDiff]; exact t1, by simp only [ups_at, ↓reduceIte, Nat.reduceEqDiff]; exact t2, by simp only [ups_at, ↓reduceIte, Nat.reduceEqDiff]; exact t3, by simp only [ups_at, ↓reduceIte, Nat.reduceEqDiff]; exact t4, rfl⟩ ?_
        clear t0 t1 t2 t3 t4 t11
        rintro r t w ⟨i, e, rfl, hi, rfl, rfl, t0, t1, t2, t3, t4, t12⟩
        by_cases hlti : i < k.length
        · obtain ⟨b, o, sp, rw0, cc, rfl, hlk1, hbn, hle, hat, hkk⟩ := hvk.at encF_len hlti
          have hx1 : cc[o + i * 2]? = some (.string (mkStr k[i].key)) := by have := hkk 0 (by omega); simpa [encF] using this
          by_cases hbig : (100 : Int) < k[i].key.length
          · simp -dsimp (maxSteps := 4000000) (disch := first | omega | assumption | (simp only [FB, Nat.reduceAdd]; done) | (simp only [LB]; omega)) only [EB, ↓reduceIte, WB, Nat.reduceSub, Nat.reduceAdd, Int.reduceEq, Int.reduceNe, Int.reduceLT, Int.reduceLE, Int.reduceAdd, Int.reduceSub, Int.reduceMul, Int.reduceNeg, Int.reduceToNat, Nat.reduceEqDiff, Nat.reduceLT, Nat.reduceLeDiff, Nat.reduceMul, List.replicate, reduceCtorEq, TB, NB, t0, t1, t2, t3, t4, t12, show (i : Int) < k.length by omega, hlk1, hx1, hbig, leave_fst flat_bool]
          · simp -dsimp (maxSteps := 4000000) (disch := first | omega | assumption | (simp only [FB, Nat.reduceAdd]; done) | (simp only [LB]; omega)) only [EB, ↓reduceIte, WB, Nat.reduceSub, Nat.reduceAdd, Int.reduceEq, Int.reduceNe, Int.reduceLT, Int.reduceLE, Int.reduceAdd, Int.reduceSub, Int.reduceMul, Int.reduceNeg, Int.reduceToNat, Nat.reduceEqDiff, Nat.reduceLT, Nat.reduceLeDiff, Nat.reduceMul, List.replicate, reduceCtorEq, TB, NB, t0, t1, t2, t3, t4, t12, show (i : Int) < k.length by omega, hlk1, hx1, hbig, wrap64]
            refine ⟨trivial, k.length - (i + 1), by omega, i + 1, _, rfl, by omega, (by first | trivial | rfl | omega), rfl, ?_⟩
            simp only [ups_at, ↓reduceIte, Nat.reduceEqDiff]; exact ⟨t0, t1, t2, t3, t4, (by first | trivial | rfl | omega)⟩
        · obtain rfl : i = k.length := by omega
          have hsm1 := leavesI_small size l
          have hsm2 := branchesF_small size k
          simp -dsimp (maxSteps := 4000000) (disch := first | omega | assumption | (simp only [FB, Nat.reduceAdd]; done) | (simp only [LB]; omega)) only [EB, ↓reduceIte, WB, Nat.reduceSub, Nat.reduceAdd, Int.reduceEq, Int.reduceNe, Int.reduceLT, Int.reduceLE, Int.reduceAdd, Int.reduceSub, Int.reduceMul, Int.reduceNeg, Int.reduceToNat, Nat.reduceEqDiff, Nat.reduceLT, Nat.reduceLeDiff, Nat.reduceMul, List.replicate, reduceCtorEq, TB, NB, t0, t1, t2, t3, t4, t12, show ¬ (k.length : Int) < k.length by omega]
          refine leaves15 size (.slice pp l.length c) l (by omega) ⟨a.next, a.heap, a.next, []⟩ a.next (Nat.le_refl _) hv _ fun v1 n1 h1 a1 a2 a3 => ?_
          simp only at a1 a3
          simp -dsimp (maxSteps := 4000000) (disch := first | omega | assumption | (simp only [FB, Nat.reduceAdd]; done) | (simp only [LB]; omega)) only [EB, ↓reduceIte, WB, Nat.reduceSub, Nat.reduceAdd, Int.reduceEq, Int.reduceNe, Int.reduceLT, Int.reduceLE, Int.reduceAdd, Int.reduceSub, Int.reduceMul, Int.reduceNeg, Int.reduceToNat, Nat.reduceEqDiff, Nat.reduceLT, Nat.reduceLeDiff, Nat.reduceMul, List.replicate, reduceCtorEq, TB, NB, t2, t3]
          refine refleaves23 size (.slice pp l.length c) l (by omega) ⟨n1, h1, a.next, []⟩ a.next (by simp only; omega) (hv.keep (Nat.le_refl _) fun j hj => a3 j hj) _ fun v2 n2 h2 b1 b2 b3 => ?_
          simp only at b1 b3
          simp -dsimp (maxSteps := 4000000) (disch := first | omega | assumption | (simp only [FB, Nat.reduceAdd]; done) | (simp only [LB]; omega)) only [EB, ↓reduceIte, WB, Nat.reduceSub, Nat.reduceAdd, Int.reduceEq, Int.reduceNe, Int.reduceLT, Int.reduceLE, Int.reduceAdd, Int.reduceSub, Int.reduceMul, Int.reduceNeg, Int.reduceToNat, Nat.reduceEqDiff, Nat.reduceLT, Nat.reduceLeDiff, Nat.reduceMul, List.replicate, reduceCtorEq, TB, NB, t2, t4]
          refine branches24 size (.slice pk k.length ck) k (by omega) ⟨n2, h2, a.next, []⟩ a.next (by simp only; omega) (hvk.keep (Nat.le_refl _) fun j hj => by rw [b3 j (by omega), a3 j hj]) _ fun v3 n3 h3 c1 c2 c3 => ?_
          simp only at c1 c3
          simp -dsimp (maxSteps := 4000000) (disch := first | omega | assumption | (simp only [FB, Nat.reduceAdd]; done) | (simp only [LB]; omega)) only [EB, ↓reduceIte, WB, Nat.reduceSub, Nat.reduceAdd, Int.reduceEq, Int.reduceNe, Int.reduceLT, Int.reduceLE, Int.reduceAdd, Int.reduceSub, Int.reduceMul, Int.reduceNeg, Int.reduceToNat, Nat.reduceEqDiff, Nat.reduceLT, Nat.reduceLeDiff, Nat.reduceMul, List.replicate, reduceCtorEq, TB, NB, t2, t4]
          refine refbranches25 size (.slice pk k.length ck) k (by omega) ⟨n3, h3, a.next, []⟩ a.next (by simp only; omega) (hvk.keep (Nat.le_refl _) fun j hj => by rw [c3 j (by omega), b3 j (by omega), a3 j hj]) _ fun v4 n4 h4 d1 d2 d3 => ?_
          simp only at d1 d3
          simp -dsimp (maxSteps := 4000000) (disch := first | omega | assumption | (simp only [FB, Nat.reduceAdd]; done) | (simp only [LB]; omega)) only [EB, ↓reduceIte, WB, Nat.reduceSub, Nat.reduceAdd, Int.reduceEq, Int.reduceNe, Int.reduceLT, Int.reduceLE, Int.reduceAdd, Int.reduceSub, Int.reduceMul, Int.reduceNeg, Int.reduceToNat, Nat.reduceEqDiff, Nat.reduceLT, Nat.reduceLeDiff, Nat.reduceMul, List.replicate, reduceCtorEq, TB, NB, ]
          refine flat19 v1 _ (by omega) (by omega) ⟨n4, h4, a.next, []⟩ n1 (by simp only; omega) (a2.keep (Nat.le_refl _) fun j hj => by rw [d3 j (by omega), c3 j (by omega), b3 j (by omega)]) _ fun u1 u2 n5 h5 e1 e2 e3 e4 => ?_
          simp only at e1 e4
          simp -dsimp (maxSteps := 4000000) (disch := first | omega | assumption | (simp only [FB, Nat.reduceAdd]; done) | (simp only [LB]; omega)) only [EB, ↓reduceIte, WB, Nat.reduceSub, Nat.reduceAdd, Int.reduceEq, Int.reduceNe, Int.reduceLT, Int.reduceLE, Int.reduceAdd, Int.reduceSub, Int.reduceMul, Int.reduceNeg, Int.reduceToNat, Nat.reduceEqDiff, Nat.reduceLT, Nat.reduceLeDiff, Nat.reduceMul, List.replicate, reduceCtorEq, TB, NB, ]
          refine flat19 v2 _ (by omega) (by omega) ⟨n5, h5, a.next, []⟩ n2 (by simp only; omega) (b2.keep (Nat.le_refl _) fun j hj => by rw [e4 j (by omega), d3 j (by omega), c3 j (by omega)]) _ fun u3 u4 n6 h6 f1 f2 f3 f4 => ?_
          simp only at f1 f4
          simp -dsimp (maxSteps := 4000000) (disch := first | omega | assumption | (simp only [FB, Nat.reduceAdd]; done) | (simp only [LB]; omega)) only [EB, ↓reduceIte, WB, Nat.reduceSub, Nat.reduceAdd, Int.reduceEq, Int.reduceNe, Int.reduceLT, Int.reduceLE, Int.reduceAdd, Int.reduceSub, Int.reduceMul, Int.reduceNeg, Int.reduceToNat, Nat.reduceEqDiff, Nat.reduceLT, Nat.reduceLeDiff, Nat.reduceMul, List.replicate, reduceCtorEq, TB, NB, ]
          refine flat26 v3 _ (by omega) (by omega) ⟨n6, h6, a.next, []⟩ n3 (by simp only; omega) (c2.keep (Nat.le_refl _) fun j hj => by rw [f4 j (by omega), e4 j (by omega), d3 j (by omega)]) _ fun u5 u6 n7 h7 g1 g2 g3 g4 => ?_
          simp only at g1 g4
          simp -dsimp (maxSteps := 4000000) (disch := first | omega | assumption | (simp only [FB, Nat.reduceAdd]; done) | (simp only [LB]; omega)) only [EB, ↓reduceIte, WB, Nat.reduceSub, Nat.reduceAdd, Int.reduceEq, Int.reduceNe, Int.reduceLT, Int.reduceLE, Int.reduceAdd, Int.reduceSub, Int.reduceMul, Int.reduceNeg, Int.reduceToNat, Nat.reduceEqDiff, Nat.reduceLT, Nat.reduceLeDiff, Nat.reduceMul, List.replicate, reduceCtorEq, TB, NB, ]
          refine flat26 v4 _ (by omega) (by omega) ⟨n7, h7, a.next, []⟩ n4 (by simp only; omega) (d2.keep (Nat.le_refl _) fun j hj => by rw [g4 j (by omega), f4 j (by omega), e4 j (by omega)]) _ fun u7 u8 n8 h8 i1 i2 i3 i4 => ?_
          simp only at i1 i4
          simp -dsimp (maxSteps := 4000000) (disch := first | omega | assumption | (simp only [FB, Nat.reduceAdd]; done) | (simp only [LB]; omega)) only [EB, ↓reduceIte, WB, Nat.reduceSub, Nat.reduceAdd, Int.reduceEq, Int.reduceNe, Int.reduceLT, Int.reduceLE, Int.reduceAdd, Int.reduceSub, Int.reduceMul, Int.reduceNeg, Int.reduceToNat, Nat.reduceEqDiff, Nat.reduceLT, Nat.reduceLeDiff, Nat.reduceMul, List.replicate, reduceCtorEq, TB, NB, t0]
          have hs8 : RV encN 1 h8 n8 (.slice ps sizes.length cs) sizes := hvs.keep (by omega) fun j hj => by rw [i4 j (by omega), g4 j (by omega), f4 j (by omega), e4 j (by omega), d3 j (by omega), c3 j (by omega), b3 j (by omega), a3 j hj]
          refine own12 (.slice ps sizes.length cs) sizes (by omega) ⟨n8, h8, a.next, []⟩ n8 (Nat.le_refl _) hs8 _ fun w1 n9 h9 j1 j2 j3 j4 => ?_
          simp only at j1 j4
          simp -dsimp (maxSteps := 4000000) (disch := first | omega | assumption | (simp only [FB, Nat.reduceAdd]; done) | (simp only [LB]; omega)) only [EB, ↓reduceIte, WB, Nat.reduceSub, Nat.reduceAdd, Int.reduceEq, Int.reduceNe, Int.reduceLT, Int.reduceLE, Int.reduceAdd, Int.reduceSub, Int.reduceMul, Int.reduceNeg, Int.reduceToNat, Nat.reduceEqDiff, Nat.reduceLT, Nat.reduceLeDiff, Nat.reduceMul, List.replicate, reduceCtorEq, TB, NB, t1]
          refine cut11 w1 sizes room_ (by omega) hro ⟨n9, h9, a.next, []⟩ n9 (Nat.le_refl _) j3.rv _ fun w2 n10 h10 k1 k2 k3 k4 => ?_
          simp only at k1 k4
          simp -dsimp (maxSteps := 4000000) (disch := first | omega | assumption | (simp only [FB, Nat.reduceAdd]; done) | (simp only [LB]; omega)) only [EB, ↓reduceIte, WB, Nat.reduceSub, Nat.reduceAdd, Int.reduceEq, Int.reduceNe, Int.reduceLT, Int.reduceLE, Int.reduceAdd, Int.reduceSub, Int.reduceMul, Int.reduceNeg, Int.reduceToNat, Nat.reduceEqDiff, Nat.reduceLT, Nat.reduceLeDiff, Nat.reduceMul, List.replicate, reduceCtorEq, TB, NB, t0, t1]
          refine refcut27 (.slice ps sizes.length cs) sizes room_ (by omega) hro ⟨n10, h10, a.next, []⟩ n8 (by simp only; omega) (hs8.keep (Nat.le_refl _) fun j hj => by rw [k4 j (by omega), j4 j (by omega)]) _ fun w3 n11 h11 l1 l2 l3 l4 => ?_
          simp only at l1 l4
          have hcl := cutL_len room_ sizes
          have hsame := fun K => same13 w2 w3 _ _ (by omega) ⟨n11, h11, a.next, []⟩ n11 (Nat.le_refl _) (k3.rv.keep l1 fun j hj => l4 j (by omega)) l3.rv K
          have q1 : RV encI 5 h11 n11 u1 (leavesI size l).1.flatten := e2.keep (by omega) fun j hj => by rw [l4 j (by omega), k4 j (by omega), j4 j (by omega), i4 j (by omega), g4 j (by omega), f4 j (by omega)]
          have q3 : RV encI 5 h11 n11 u3 (leavesI size l).1.flatten := f2.keep (by omega) fun j hj => by rw [l4 j (by omega), k4 j (by omega), j4 j (by omega), i4 j (by omega), g4 j (by omega)]
          have q2 : RV encN 1 h11 n11 u2 (endsOf (leavesI size l).1) := e3.keep (by omega) fun j hj => by rw [l4 j (by omega), k4 j (by omega), j4 j (by omega), i4 j (by omega), g4 j (by omega), f4 j (by omega)]
          have q4 : RV encN 1 h11 n11 u4 (endsOf (leavesI size l).1) := f3.keep (by omega) fun j hj => by rw [l4 j (by omega), k4 j (by omega), j4 j (by omega), i4 j (by omega), g4 j (by omega)]
          have q5 : RV encF 2 h11 n11 u5 (branchesF size k).1.flatten := g2.keep (by omega) fun j hj => by rw [l4 j (by omega), k4 j (by omega), j4 j (by omega), i4 j (by omega)]
          have q7 : RV encF 2 h11 n11 u7 (branchesF size k).1.flatten := i2.keep (by omega) fun j hj => by rw [l4 j (by omega), k4 j (by omega), j4 j (by omega)]
          have q6 : RV encN 1 h11 n11 u6 (endsOf (branchesF size k).1) := g3.keep (by omega) fun j hj => by rw [l4 j (by omega), k4 j (by omega), j4 j (by omega), i4 j (by omega)]
          have q8 : RV encN 1 h11 n11 u8 (endsOf (branchesF size k).1) := i3.keep (by omega) fun j hj => by rw [l4 j (by omega), k4 j (by omega), j4 j (by omega)]
          have s1 := fun K => same20 u1 u3 _ _ (by omega) ⟨n11, h11, a.next, []⟩ n11 (Nat.le_refl _) q1 q3 K
          have s2 := fun K => same13 u2 u4 _ _ (by rw [endsOf_len]; omega) ⟨n11, h11, a.next, []⟩ n11 (Nat.le_refl _) q2 q4 K
          have s3 := fun K => same28 u5 u7 _ _ (by omega) ⟨n11, h11, a.next, []⟩ n11 (Nat.le_refl _) q5 q7 K
          have s4 := fun K => same13 u6 u8 _ _ (by rw [endsOf_len]; omega) ⟨n11, h11, a.next, []⟩ n11 (Nat.le_refl _) q6 q8 K
          simp -dsimp (maxSteps := 4000000) (disch := first | omega | assumption | (simp only [FB, Nat.reduceAdd]; done) | (simp only [LB]; omega)) only [EB, ↓reduceIte, WB, Nat.reduceSub, Nat.reduceAdd, Int.reduceEq, Int.reduceNe, Int.reduceLT, Int.reduceLE, Int.reduceAdd, Int.reduceSub, Int.reduceMul, Int.reduceNeg, Int.reduceToNat, Nat.reduceEqDiff, Nat.reduceLT, Nat.reduceLeDiff, Nat.reduceMul, List.replicate, reduceCtorEq, TB, NB, hsame, s1, s2, s3, s4, decide_true, leave_fst flat_bool]
  · simp -dsimp (maxSteps := 4000000) (disch := first | omega | assumption | (simp only [FB, Nat.reduceAdd]; done) | (simp only [LB]; omega)) only [EB, ↓reduceIte, WB, Nat.reduceSub, Nat.reduceAdd, Int.reduceEq, Int.reduceNe, Int.reduceLT, Int.reduceLE, Int.reduceAdd, Int.reduceSub, Int.reduceMul, Int.reduceNeg, Int.reduceToNat, Nat.reduceEqDiff, Nat.reduceLT, Nat.reduceLeDiff, Nat.reduceMul, List.replicate, reduceCtorEq, TB, NB, lives9, c0, hlt, decide_eq_false c1, leave_fst flat_bool]
end Go.Proofs.YtijmlgccaicblaaAM
