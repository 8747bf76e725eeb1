/- Chapter 22: GradeMore answers true. -/
import Derived.Test.YtnjhndfomjjkdaaDoorG11
namespace Go.Proofs.YtnjhndfomjjkdaaDoorAM
open Go Go.RowKit
set_option linter.unusedVariables false
set_option linter.unusedSimpArgs false
set_option maxRecDepth 10000
set_option maxHeartbeats 4000000

theorem grade_top {N P g : Nat} (h : isGrade N P g) : g ≤ 4607182418800017408 := by
  rcases h with ⟨_, rfl⟩ | ⟨_, r, _, _, rfl⟩
  · exact Nat.le_refl _
  · exact grade_le r
theorem grade_more {N N' P g g' : Nat} (h : isGrade N P g) (h' : isGrade N' P g') (hN : N ≤ N') : g' ≤ g := by
  rcases h with ⟨_, rfl⟩ | ⟨h0, r, _, hq, rfl⟩
  · exact grade_top h'
  · rcases h' with ⟨h1, rfl⟩ | ⟨_, r', _, hq', rfl⟩
    · omega
    · exact grade_anti (quot_more hq hq' hN)
theorem grade_wide {N P P' g g' : Nat} (h : isGrade N P g) (h' : isGrade N P' g') (hP : P ≤ P') : g ≤ g' := by
  rcases h' with ⟨_, rfl⟩ | ⟨h0, r, _, hq, rfl⟩
  · exact grade_top h
  · rcases h with ⟨h1, rfl⟩ | ⟨_, r', _, hq', rfl⟩
    · omega
    · exact grade_anti (quot_wide hq' hq hP)
theorem grade_low {N P g : Nat} (h : isGrade N P g) (hN : 0 < N) (hP : P ≤ 4294967296) : g < 4607182418800017408 := by
  rcases h with ⟨h0, rfl⟩ | ⟨_, r, _, hq, rfl⟩
  · omega
  · exact grade_lt (quot_low hq hN hP)
theorem sl32 : slOk Tryd.prog 32 3 = true := by decide +kernel
theorem law5 (v : Value) (l : List Find) (x : Find) (P M : Int) (hll : l.length ≤ 140737488355328) (a : AW) (m : Nat) (ham : m ≤ a.next) (hv : ListV encF a.heap m v l) :
    WCall Tryd.prog GV 5 [v, .agg #[.int .i64 x.kind, .int .u32 x.page, .int .u32 x.other], .int .i64 P, .int .i64 M] a fun r _ => r = .bool true := by
  rw [call_env Tryd.func5 rfl Tryd.ntmps5 rfl rfl (by simp)]
  have hlt : FloatKind.f64.format = Ieee.double := rfl
  obtain ⟨p, c, rfl⟩ := hv.len
  by_cases c1 : 60 < l.length
  · simp -dsimp (maxSteps := 4000000) (disch := first | omega | assumption | (simp only [FB, Nat.reduceAdd]; done) | (simp only [LB]; omega)) only [EB, ↓reduceIte, WB, Nat.reduceSub, Nat.reduceAdd, Int.reduceEq, Int.reduceNe, Int.reduceLT, Int.reduceLE, Int.reduceAdd, Int.reduceSub, Int.reduceMul, Int.reduceNeg, Int.reduceToNat, Nat.reduceEqDiff, Nat.reduceLT, Nat.reduceLeDiff, Nat.reduceMul, List.replicate, reduceCtorEq, lives9, op_len und32 rfl, show (60 : Int) < l.length by omega, leave_fst flat_bool]
  · by_cases c2 : P < 1
    · simp -dsimp (maxSteps := 4000000) (disch := first | omega | assumption | (simp only [FB, Nat.reduceAdd]; done) | (simp only [LB]; omega)) only [EB, ↓reduceIte, WB, Nat.reduceSub, Nat.reduceAdd, Int.reduceEq, Int.reduceNe, Int.reduceLT, Int.reduceLE, Int.reduceAdd, Int.reduceSub, Int.reduceMul, Int.reduceNeg, Int.reduceToNat, Nat.reduceEqDiff, Nat.reduceLT, Nat.reduceLeDiff, Nat.reduceMul, List.replicate, reduceCtorEq, lives9, op_len und32 rfl, show ¬ (60 : Int) < l.length by omega, c2, leave_fst flat_bool]
    · by_cases c3 : 1073741824 < P
      · simp -dsimp (maxSteps := 4000000) (disch := first | omega | assumption | (simp only [FB, Nat.reduceAdd]; done) | (simp only [LB]; omega)) only [EB, ↓reduceIte, WB, Nat.reduceSub, Nat.reduceAdd, Int.reduceEq, Int.reduceNe, Int.reduceLT, Int.reduceLE, Int.reduceAdd, Int.reduceSub, Int.reduceMul, Int.reduceNeg, Int.reduceToNat, Nat.reduceEqDiff, Nat.reduceLT, Nat.reduceLeDiff, Nat.reduceMul, List.replicate, reduceCtorEq, lives9, op_len und32 rfl, show ¬ (60 : Int) < l.length by omega, c2, c3, leave_fst flat_bool]
      · by_cases c4 : M < 0
        · simp -dsimp (maxSteps := 4000000) (disch := first | omega | assumption | (simp only [FB, Nat.reduceAdd]; done) | (simp only [LB]; omega)) only [EB, ↓reduceIte, WB, Nat.reduceSub, Nat.reduceAdd, Int.reduceEq, Int.reduceNe, Int.reduceLT, Int.reduceLE, Int.reduceAdd, Int.reduceSub, Int.reduceMul, Int.reduceNeg, Int.reduceToNat, Nat.reduceEqDiff, Nat.reduceLT, Nat.reduceLeDiff, Nat.reduceMul, List.replicate, reduceCtorEq, lives9, op_len und32 rfl, show ¬ (60 : Int) < l.length by omega, c2, c3, c4, leave_fst flat_bool]
        · by_cases c5 : 1073741824 < M
          · simp -dsimp (maxSteps := 4000000) (disch := first | omega | assumption | (simp only [FB, Nat.reduceAdd]; done) | (simp only [LB]; omega)) only [EB, ↓reduceIte, WB, Nat.reduceSub, Nat.reduceAdd, Int.reduceEq, Int.reduceNe, Int.reduceLT, Int.reduceLE, Int.reduceAdd, Int.reduceSub, Int.reduceMul, Int.reduceNeg, Int.reduceToNat, Nat.reduceEqDiff, Nat.reduceLT, Nat.reduceLeDiff, Nat.reduceMul, List.replicate, reduceCtorEq, lives9, op_len und32 rfl, show ¬ (60 : Int) < l.length by omega, c2, c3, c4, c5, leave_fst flat_bool]
          · obtain ⟨Pn, rfl⟩ : ∃ Pn : Nat, P = Pn := ⟨P.toNat, by omega⟩
            obtain ⟨Mn, rfl⟩ : ∃ Mn : Nat, M = Mn := ⟨M.toNat, by omega⟩
            simp -dsimp (maxSteps := 4000000) (disch := first | omega | assumption | (simp only [FB, Nat.reduceAdd]; done) | (simp only [LB]; omega)) only [EB, ↓reduceIte, WB, Nat.reduceSub, Nat.reduceAdd, Int.reduceEq, Int.reduceNe, Int.reduceLT, Int.reduceLE, Int.reduceAdd, Int.reduceSub, Int.reduceMul, Int.reduceNeg, Int.reduceToNat, Nat.reduceEqDiff, Nat.reduceLT, Nat.reduceLeDiff, Nat.reduceMul, List.replicate, reduceCtorEq, lives9, op_len und32 rfl, show ¬ (60 : Int) < l.length by omega, c2, c3, c4, c5]
            have hv0 : ListV encF ((a.next, Blk.cells [.int .i64 x.kind, .int .u32 x.page, .int .u32 x.other] true) :: a.heap) (a.next + 1) (.slice p l.length c) l := hv.keep (by omega) fun j hj => look_miss (by omega)
            refine grade15 _ l (by omega) Pn (by omega) _ hv0 _ fun g1 hg1 => ?_
            simp -dsimp (maxSteps := 4000000) (disch := first | omega | assumption | (simp only [FB, Nat.reduceAdd]; done) | (simp only [LB]; omega)) only [EB, ↓reduceIte, WB, Nat.reduceSub, Nat.reduceAdd, Int.reduceEq, Int.reduceNe, Int.reduceLT, Int.reduceLE, Int.reduceAdd, Int.reduceSub, Int.reduceMul, Int.reduceNeg, Int.reduceToNat, Nat.reduceEqDiff, Nat.reduceLT, Nat.reduceLeDiff, Nat.reduceMul, List.replicate, reduceCtorEq, ]
            refine code_draw [(0, 2), (0, 3), (0, 5), (1, 2), (1, 3), (1, 5), (2, 5), (3, 5), (4, 5)] (by decide +kernel) (by decide +kernel) ?_
            simp -dsimp (maxSteps := 4000000) (disch := first | omega | assumption | (simp only [FB, Nat.reduceAdd]; done) | (simp only [LB]; omega)) only [EB, ↓reduceIte, WB, Nat.reduceSub, Nat.reduceAdd, Int.reduceEq, Int.reduceNe, Int.reduceLT, Int.reduceLE, Int.reduceAdd, Int.reduceSub, Int.reduceMul, Int.reduceNeg, Int.reduceToNat, Nat.reduceEqDiff, Nat.reduceLT, Nat.reduceLeDiff, Nat.reduceMul, List.replicate, reduceCtorEq, RB, Nat.reduceEqDiff, ]
            have hv1 := hv0.keep (Nat.le_succ (a.next + 1)) fun _ _ => rfl
            refine own16 _ l (by omega) hv1 _ fun sp h1 hsp hb1 hk1 => ?_
            have hx1 : look a.next h1 = some (.cells [.int .i64 x.kind, .int .u32 x.page, .int .u32 x.other] true) := by rw [hk1 _ (by omega)]; exact look_self
            simp -dsimp (maxSteps := 4000000) (disch := first | omega | assumption | (simp only [FB, Nat.reduceAdd]; done) | (simp only [LB]; omega)) only [EB, ↓reduceIte, WB, Nat.reduceSub, Nat.reduceAdd, Int.reduceEq, Int.reduceNe, Int.reduceLT, Int.reduceLE, Int.reduceAdd, Int.reduceSub, Int.reduceMul, Int.reduceNeg, Int.reduceToNat, Nat.reduceEqDiff, Nat.reduceLT, Nat.reduceLeDiff, Nat.reduceMul, List.replicate, reduceCtorEq, RB, Nat.reduceEqDiff, load_agg agg35 size35, hx1, buildSl1 sl32]
            obtain ⟨h2, d2, e2, hb2, hk2, hd2⟩ := copy_app (q := (a.next + 1).succ) (n := (a.next + 1).succ + 2) (bs := (a.next + 1).succ + 2) (d := []) (m := (a.next + 1).succ + 1) (h := ((a.next + 1).succ + 1, Blk.cells [.int .i64 x.kind, .int .u32 x.page, .int .u32 x.other] true) :: h1) (x := x) hsp (by rw [look_miss (by omega)]; exact hb1) (by omega) look_self (.inr trivial)
            rw [e2]
            have hv2 : ListV encF h2 ((a.next + 1).succ + 2 + 1) (.slice (some ⟨(a.next + 1).succ + 2, 0, some 4⟩) (l ++ [x]).length (l ++ [x]).length) (l ++ [x]) := .inr ⟨_, _, _, true, rfl, hb2, by omega⟩
            have hsA : soilAll [] a.next (soilW ((a.next + 1).succ + 2) [] (a.next + 1).succ) = [] := by simp [soilAll, soilW]; omega
            have hwr : IntKind.wrap .i64 ((Pn : Int) + Mn) = ((Pn + Mn : Nat) : Int) := by rw [wrap64] <;> omega
            have hv3 : ListV encF h2 ((a.next + 1).succ + 3) (.slice p l.length c) l := hv.keep (by omega) fun j hj => by
              rw [hk2 j (by omega) (by omega), look_miss (by omega), hk1 j (by omega), look_miss (by omega)]
            rcases hd2 with rfl | rfl
            · simp -dsimp (maxSteps := 4000000) (disch := first | omega | assumption | (simp only [FB, Nat.reduceAdd]; done) | (simp only [LB]; omega)) only [EB, ↓reduceIte, WB, Nat.reduceSub, Nat.reduceAdd, Int.reduceEq, Int.reduceNe, Int.reduceLT, Int.reduceLE, Int.reduceAdd, Int.reduceSub, Int.reduceMul, Int.reduceNeg, Int.reduceToNat, Nat.reduceEqDiff, Nat.reduceLT, Nat.reduceLeDiff, Nat.reduceMul, List.replicate, reduceCtorEq, RB, Nat.reduceEqDiff, ]
              refine grade15 _ (l ++ [x]) (by simp; omega) Pn (by omega) _ hv2 _ fun g2 hg2 => ?_
              simp -dsimp (maxSteps := 4000000) (disch := first | omega | assumption | (simp only [FB, Nat.reduceAdd]; done) | (simp only [LB]; omega)) only [EB, ↓reduceIte, WB, Nat.reduceSub, Nat.reduceAdd, Int.reduceEq, Int.reduceNe, Int.reduceLT, Int.reduceLE, Int.reduceAdd, Int.reduceSub, Int.reduceMul, Int.reduceNeg, Int.reduceToNat, Nat.reduceEqDiff, Nat.reduceLT, Nat.reduceLeDiff, Nat.reduceMul, List.replicate, reduceCtorEq, RB, Nat.reduceEqDiff, hsA]
              rw [hwr]
              refine grade15 _ l (by omega) (Pn + Mn) (by omega) _ hv3 _ fun g3 hg3 => ?_
              simp -dsimp (maxSteps := 4000000) (disch := first | omega | assumption | (simp only [FB, Nat.reduceAdd]; done) | (simp only [LB]; omega)) only [EB, ↓reduceIte, WB, Nat.reduceSub, Nat.reduceAdd, Int.reduceEq, Int.reduceNe, Int.reduceLT, Int.reduceLE, Int.reduceAdd, Int.reduceSub, Int.reduceMul, Int.reduceNeg, Int.reduceToNat, Nat.reduceEqDiff, Nat.reduceLT, Nat.reduceLeDiff, Nat.reduceMul, List.replicate, reduceCtorEq, ]
              refine loop_inv (fun k t w => ∃ i : Nat, ∃ e, k = l.length - i ∧ i ≤ l.length ∧ w = ⟨(a.next + 1).succ + 3, h2, a.next, []⟩ ∧ t = TT 101 e ∧ e 0 = .slice p l.length c ∧ e 9 = .float .f64 g1 ∧ e 10 = .float .f64 g2 ∧ e 11 = .float .f64 g3 ∧ e 12 = .int .i64 (weightL (l.take i)) ∧ e 13 = .int .i64 i) ⟨0, _, rfl, by omega, rfl, rfl, rfl, rfl, rfl, rfl, rfl, rfl⟩ ?_
              rintro k t w ⟨i, e, hk, hi, rfl, rfl, e0, e9, e10, e11, e12, e13⟩
              have hN := weightL_le (l.take i)
              rw [List.length_take] at hN
              by_cases hlti : i < l.length
              · obtain ⟨b, sp', cap, rw0, e00, hb, hbn⟩ := hv3.at hlti
                cases e00
                have hat := encF_at l i hlti
                have hle : i * 3 < (l.flatMap encF).length := by rw [encF_len]; omega
                have hst := weightL_take hlti
                have hw3 := weight_le l[i].kind
                have h0 : (l.flatMap encF)[i * 3]? = some (.int .i64 l[i].kind) := by
                  have := congrArg (fun z => z[0]?) hat
                  simpa [encF, List.getElem?_take_of_lt, List.getElem?_drop] using this
                simp -dsimp (maxSteps := 4000000) (disch := first | omega | assumption | (simp only [FB, Nat.reduceAdd]; done) | (simp only [LB]; omega)) only [EB, ↓reduceIte, WB, Nat.reduceSub, Nat.reduceAdd, Int.reduceEq, Int.reduceNe, Int.reduceLT, Int.reduceLE, Int.reduceAdd, Int.reduceSub, Int.reduceMul, Int.reduceNeg, Int.reduceToNat, Nat.reduceEqDiff, Nat.reduceLT, Nat.reduceLeDiff, Nat.reduceMul, List.replicate, reduceCtorEq, e0, e9, e10, e11, e12, e13, op_len und32 rfl, show ((i : Int) < l.length) by omega, indexAddr_slice und32 size35, op_fa fo35_0, load_one agg3, hb, h0, weight17, wrap64]
                refine ⟨trivial, l.length - (i + 1), by omega, i + 1, _, rfl, by omega, trivial, rfl, ?_⟩
                simp only [ups_at, ↓reduceIte, Nat.reduceEqDiff]
                refine ⟨e0, e9, e10, e11, ?_, (by first | trivial | rfl | omega)⟩
                rw [hst]; congr 1
              · have hi2 : i = l.length := by omega
                subst hi2
                rw [List.take_length] at e12
                have f1 := grade_top hg1
                have f2 := grade_top hg2
                have f3 := grade_top hg3
                have fN : weightL l ≤ weightL (l ++ [x]) := by unfold weightL; rw [List.map_append, List.sum_append]; omega
                have fM := grade_more hg1 hg2 fN
                have fW := grade_wide hg1 hg3 (by omega)
                have o1 := ge_zero g1 (by omega)
                have o2 := le_of g1 4607182418800017408 (by omega) (by decide) f1
                have o3 := le_of g2 g1 (by omega) (by omega) fM
                have o4 := ge_of g3 g1 (by omega) (by omega) fW
                have hnl : ¬ ((l.length : Int) < l.length) := by omega
                by_cases hz : weightL l = 0
                · have hone : g1 = 4607182418800017408 := by
                    rcases hg1 with ⟨_, h⟩ | ⟨h, _⟩
                    · exact h
                    · omega
                  have o5 : (Ieee.double.order g1 4607182418800017408 == some .eq) = true := by rw [(order_nat g1 _ (by omega) (by decide)).2.1 hone]; rfl
                  have e12' : e 12 = .int .i64 0 := by rw [e12, hz]; rfl
                  simp -dsimp (maxSteps := 4000000) (disch := first | omega | assumption | (simp only [FB, Nat.reduceAdd]; done) | (simp only [LB]; omega)) only [EB, ↓reduceIte, WB, Nat.reduceSub, Nat.reduceAdd, Int.reduceEq, Int.reduceNe, Int.reduceLT, Int.reduceLE, Int.reduceAdd, Int.reduceSub, Int.reduceMul, Int.reduceNeg, Int.reduceToNat, Nat.reduceEqDiff, Nat.reduceLT, Nat.reduceLeDiff, Nat.reduceMul, List.replicate, reduceCtorEq, e0, e9, e10, e11, e12', e13, op_len und32 rfl, hnl, flt_geq, flt_leq, flt_eql, flt_lss, hlt, o1, o2, o3, o4, o5, bar18 g1 f1, eq_self, Bool.or_true, Bool.true_or, Bool.or_false, leave_fst flat_bool]
                · have hl0 := grade_low hg1 (by omega) (by omega)
                  have o5 : (Ieee.double.order g1 4607182418800017408 == some .lt) = true := by rw [(order_nat g1 _ (by omega) (by decide)).1 hl0]; rfl
                  have o6 : (Ieee.double.order g1 4607182418800017408 == some .eq) = false := by rw [(order_nat g1 _ (by omega) (by decide)).1 hl0]; rfl
                  simp -dsimp (maxSteps := 4000000) (disch := first | omega | assumption | (simp only [FB, Nat.reduceAdd]; done) | (simp only [LB]; omega)) only [EB, ↓reduceIte, WB, Nat.reduceSub, Nat.reduceAdd, Int.reduceEq, Int.reduceNe, Int.reduceLT, Int.reduceLE, Int.reduceAdd, Int.reduceSub, Int.reduceMul, Int.reduceNeg, Int.reduceToNat, Nat.reduceEqDiff, Nat.reduceLT, Nat.reduceLeDiff, Nat.reduceMul, List.replicate, reduceCtorEq, e0, e9, e10, e11, e12, e13, op_len und32 rfl, hnl, show ((0 : Int) < weightL l) by omega, show ¬ ((weightL l : Int) = 0) by omega, flt_geq, flt_leq, flt_eql, flt_lss, hlt, o1, o2, o3, o4, o5, o6, bar18 g1 f1, eq_self, Bool.or_true, Bool.true_or, Bool.or_false, leave_fst flat_bool]
            · simp -dsimp (maxSteps := 4000000) (disch := first | omega | assumption | (simp only [FB, Nat.reduceAdd]; done) | (simp only [LB]; omega)) only [EB, ↓reduceIte, WB, Nat.reduceSub, Nat.reduceAdd, Int.reduceEq, Int.reduceNe, Int.reduceLT, Int.reduceLE, Int.reduceAdd, Int.reduceSub, Int.reduceMul, Int.reduceNeg, Int.reduceToNat, Nat.reduceEqDiff, Nat.reduceLT, Nat.reduceLeDiff, Nat.reduceMul, List.replicate, reduceCtorEq, RB, Nat.reduceEqDiff, ]
              refine grade15 _ (l ++ [x]) (by simp; omega) Pn (by omega) _ hv2 _ fun g2 hg2 => ?_
              simp -dsimp (maxSteps := 4000000) (disch := first | omega | assumption | (simp only [FB, Nat.reduceAdd]; done) | (simp only [LB]; omega)) only [EB, ↓reduceIte, WB, Nat.reduceSub, Nat.reduceAdd, Int.reduceEq, Int.reduceNe, Int.reduceLT, Int.reduceLE, Int.reduceAdd, Int.reduceSub, Int.reduceMul, Int.reduceNeg, Int.reduceToNat, Nat.reduceEqDiff, Nat.reduceLT, Nat.reduceLeDiff, Nat.reduceMul, List.replicate, reduceCtorEq, RB, Nat.reduceEqDiff, hsA]
              rw [hwr]
              refine grade15 _ l (by omega) (Pn + Mn) (by omega) _ hv3 _ fun g3 hg3 => ?_
              simp -dsimp (maxSteps := 4000000) (disch := first | omega | assumption | (simp only [FB, Nat.reduceAdd]; done) | (simp only [LB]; omega)) only [EB, ↓reduceIte, WB, Nat.reduceSub, Nat.reduceAdd, Int.reduceEq, Int.reduceNe, Int.reduceLT, Int.reduceLE, Int.reduceAdd, Int.reduceSub, Int.reduceMul, Int.reduceNeg, Int.reduceToNat, Nat.reduceEqDiff, Nat.reduceLT, Nat.reduceLeDiff, Nat.reduceMul, List.replicate, reduceCtorEq, ]
              refine loop_inv (fun k t w => ∃ i : Nat, ∃ e, k = l.length - i ∧ i ≤ l.length ∧ w = ⟨(a.next + 1).succ + 3, h2, a.next, []⟩ ∧ t = TT 101 e ∧ e 0 = .slice p l.length c ∧ e 9 = .float .f64 g1 ∧ e 10 = .float .f64 g2 ∧ e 11 = .float .f64 g3 ∧ e 12 = .int .i64 (weightL (l.take i)) ∧ e 13 = .int .i64 i) ⟨0, _, rfl, by omega, rfl, rfl, rfl, rfl, rfl, rfl, rfl, rfl⟩ ?_
              rintro k t w ⟨i, e, hk, hi, rfl, rfl, e0, e9, e10, e11, e12, e13⟩
              have hN := weightL_le (l.take i)
              rw [List.length_take] at hN
              by_cases hlti : i < l.length
              · obtain ⟨b, sp', cap, rw0, e00, hb, hbn⟩ := hv3.at hlti
                cases e00
                have hat := encF_at l i hlti
                have hle : i * 3 < (l.flatMap encF).length := by rw [encF_len]; omega
                have hst := weightL_take hlti
                have hw3 := weight_le l[i].kind
                have h0 : (l.flatMap encF)[i * 3]? = some (.int .i64 l[i].kind) := by
                  have := congrArg (fun z => z[0]?) hat
                  simpa [encF, List.getElem?_take_of_lt, List.getElem?_drop] using this
                simp -dsimp (maxSteps := 4000000) (disch := first | omega | assumption | (simp only [FB, Nat.reduceAdd]; done) | (simp only [LB]; omega)) only [EB, ↓reduceIte, WB, Nat.reduceSub, Nat.reduceAdd, Int.reduceEq, Int.reduceNe, Int.reduceLT, Int.reduceLE, Int.reduceAdd, Int.reduceSub, Int.reduceMul, Int.reduceNeg, Int.reduceToNat, Nat.reduceEqDiff, Nat.reduceLT, Nat.reduceLeDiff, Nat.reduceMul, List.replicate, reduceCtorEq, e0, e9, e10, e11, e12, e13, op_len und32 rfl, show ((i : Int) < l.length) by omega, indexAddr_slice und32 size35, op_fa fo35_0, load_one agg3, hb, h0, weight17, wrap64]
                refine ⟨trivial, l.length - (i + 1), by omega, i + 1, _, rfl, by omega, trivial, rfl, ?_⟩
                simp only [ups_at, ↓reduceIte, Nat.reduceEqDiff]
                refine ⟨e0, e9, e10, e11, ?_, (by first | trivial | rfl | omega)⟩
                rw [hst]; congr 1
              · have hi2 : i = l.length := by omega
                subst hi2
                rw [List.take_length] at e12
                have f1 := grade_top hg1
                have f2 := grade_top hg2
                have f3 := grade_top hg3
                have fN : weightL l ≤ weightL (l ++ [x]) := by unfold weightL; rw [List.map_append, List.sum_append]; omega
                have fM := grade_more hg1 hg2 fN
                have fW := grade_wide hg1 hg3 (by omega)
                have o1 := ge_zero g1 (by omega)
                have o2 := le_of g1 4607182418800017408 (by omega) (by decide) f1
                have o3 := le_of g2 g1 (by omega) (by omega) fM
                have o4 := ge_of g3 g1 (by omega) (by omega) fW
                have hnl : ¬ ((l.length : Int) < l.length) := by omega
                by_cases hz : weightL l = 0
                · have hone : g1 = 4607182418800017408 := by
                    rcases hg1 with ⟨_, h⟩ | ⟨h, _⟩
                    · exact h
                    · omega
                  have o5 : (Ieee.double.order g1 4607182418800017408 == some .eq) = true := by rw [(order_nat g1 _ (by omega) (by decide)).2.1 hone]; rfl
                  have e12' : e 12 = .int .i64 0 := by rw [e12, hz]; rfl
                  simp -dsimp (maxSteps := 4000000) (disch := first | omega | assumption | (simp only [FB, Nat.reduceAdd]; done) | (simp only [LB]; omega)) only [EB, ↓reduceIte, WB, Nat.reduceSub, Nat.reduceAdd, Int.reduceEq, Int.reduceNe, Int.reduceLT, Int.reduceLE, Int.reduceAdd, Int.reduceSub, Int.reduceMul, Int.reduceNeg, Int.reduceToNat, Nat.reduceEqDiff, Nat.reduceLT, Nat.reduceLeDiff, Nat.reduceMul, List.replicate, reduceCtorEq, e0, e9, e10, e11, e12', e13, op_len und32 rfl, hnl, flt_geq, flt_leq, flt_eql, flt_lss, hlt, o1, o2, o3, o4, o5, bar18 g1 f1, eq_self, Bool.or_true, Bool.true_or, Bool.or_false, leave_fst flat_bool]
                · have hl0 := grade_low hg1 (by omega) (by omega)
                  have o5 : (Ieee.double.order g1 4607182418800017408 == some .lt) = true := by rw [(order_nat g1 _ (by omega) (by decide)).1 hl0]; rfl
                  have o6 : (Ieee.double.order g1 4607182418800017408 == some .eq) = false := by rw [(order_nat g1 _ (by omega) (by decide)).1 hl0]; rfl
                  simp -dsimp (maxSteps := 4000000) (disch := first | omega | assumption | (simp only [FB, Nat.reduceAdd]; done) | (simp only [LB]; omega)) only [EB, ↓reduceIte, WB, Nat.reduceSub, Nat.reduceAdd, Int.reduceEq, Int.reduceNe, Int.reduceLT, Int.reduceLE, Int.reduceAdd, Int.reduceSub, Int.reduceMul, Int.reduceNeg, Int.reduceToNat, Nat.reduceEqDiff, Nat.reduceLT, Nat.reduceLeDiff, Nat.reduceMul, List.replicate, reduceCtorEq, e0, e9, e10, e11, e12, e13, op_len und32 rfl, hnl, show ((0 : Int) < weightL l) by omega, show ¬ ((weightL l : Int) = 0) by omega, flt_geq, flt_leq, flt_eql, flt_lss, hlt, o1, o2, o3, o4, o5, o6, bar18 g1 f1, eq_self, Bool.or_true, Bool.true_or, Bool.or_false, leave_fst flat_bool]
end Go.Proofs.YtnjhndfomjjkdaaDoorAM
