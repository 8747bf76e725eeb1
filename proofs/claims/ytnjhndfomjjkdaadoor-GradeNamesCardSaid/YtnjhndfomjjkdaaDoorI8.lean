/- Chapter 22: GradeMeans answers true. -/
import Derived.Test.YtnjhndfomjjkdaaDoorI7
import Derived.Test.YtnjhndfomjjkdaaDoorG13
namespace Go.Proofs.YtnjhndfomjjkdaaDoorAM
open Go Go.RowKit Ieee
set_option linter.unusedVariables false
set_option linter.unusedSimpArgs false
set_option maxRecDepth 10000
set_option maxHeartbeats 4000000

theorem max_nan {ts} {u v : Nat} (h : double.order u v = none) : pureBuiltinA Tryd.prog .max ts [.float .f64 u, .float .f64 v] = some nanV := by
  have hn : nanMM .max [.float .f64 u, .float .f64 v] = some nanV := by
    show (if (double.order u v).isNone then some nanV else none) = some nanV
    rw [h]; rfl
  unfold pureBuiltinA; rw [hn]
theorem min_nan {ts} {u v : Nat} (h : double.order u v = none) : pureBuiltinA Tryd.prog .min ts [.float .f64 u, .float .f64 v] = some nanV := by
  have hn : nanMM .min [.float .f64 u, .float .f64 v] = some nanV := by
    show (if (double.order u v).isNone then some nanV else none) = some nanV
    rw [h]; rfl
  unfold pureBuiltinA; rw [hn]
theorem sl42 : slOk Tryd.prog 42 1 = true := by decide +kernel
theorem mean_num (b : Nat) (hb : b < 18446744073709551616) (hn : isNum b) : ∃ r, meanV [b] = .float .f64 r ∧ double.order r b = some .eq := by
  obtain ⟨x, r, e1, e2, e3⟩ := mean_one b hb hn
  refine ⟨r, ?_, e3⟩
  have h1 : FloatKind.nearest .f64 (([b] : List Nat).length : Int) = 4607182418800017408 := by show FloatKind.nearest .f64 1 = _; decide +kernel
  have h2 : sumV [b] ([b] : List Nat).length = .float .f64 x := by
    show arF double.add (.float .f64 0) (.float .f64 b) = _
    unfold arF
    simp only [e1]
  unfold meanV
  rw [h1, h2]
  unfold arF
  simp only [e2]
theorem bar_zero {b : Nat} (h : barV b = 0) : b ≤ 4607182418800017408 := by
  unfold barV at h; split at h
  · assumption
  · cases h
theorem pass_mono {u v : Nat} (hm : barV (minF u v) = 0) (hx : barV (maxF u v) = 0) (ho : double.order u v ≠ none) : placeZ (minF u v) ≤ placeZ (maxF u v) := by
  have h1 := bar_zero hm
  have h2 := bar_zero hx
  have hp : ∀ b : Nat, b ≤ 4607182418800017408 → placeZ b = b := fun b h => by unfold placeZ; rw [if_pos (by omega)]
  rw [hp _ h1, hp _ h2]
  have hboth : u ≤ 4607182418800017408 ∧ v ≤ 4607182418800017408 := by
    revert h1 h2
    unfold minF maxF
    cases h : double.order u v with
    | none => exact absurd h ho
    | some o =>
      cases o with
      | lt => exact fun a b => ⟨a, b⟩
      | gt => exact fun a b => ⟨b, a⟩
      | eq =>
        simp only
        split
        · exact fun a b => ⟨a, b⟩
        · exact fun a b => ⟨b, a⟩
  obtain ⟨o1, o2, o3⟩ := order_nat u v (by omega) (by omega)
  unfold minF maxF
  rcases Nat.lt_trichotomy u v with h | h | h
  · rw [o1 h]; simp only; omega
  · rw [o2 h]; simp only; split <;> omega
  · rw [o3 h]; simp only; omega
theorem minF_or (u v : Nat) : (minF u v = u ∨ minF u v = v) ∧ (maxF u v = u ∨ maxF u v = v) := by
  unfold minF maxF
  split
  · exact ⟨.inl rfl, .inr rfl⟩
  · exact ⟨.inr rfl, .inl rfl⟩
  · split
    · exact ⟨.inl rfl, .inr rfl⟩
    · exact ⟨.inr rfl, .inl rfl⟩
theorem ListV.mono_n {α : Type} {enc : α → List Value} {h : List (Nat × Blk)} {n m : Nat} {v : Value} {xs : List α} (hv : ListV enc h n v xs) (hm : n ≤ m) : ListV enc h m v xs := hv.keep hm fun _ _ => rfl
theorem law6 (v w : Value) (l : List Nat) (f : List Find) (P : Int) (x y : Nat) (hx : x < 18446744073709551616) (hy : y < 18446744073709551616) (hok : okB l) (hll : l.length ≤ 140737488355328) (hlf : f.length ≤ 140737488355328) (a : AW)
    (hv : ListV encB a.heap a.next v l) (hw : ListV encF a.heap a.next w f) :
    WCall Tryd.prog GV 6 [v, w, .int .i64 P, .float .f64 x, .float .f64 y] a fun r _ => r = .bool true := by
  rw [call_env Tryd.func6 rfl Tryd.ntmps6 rfl rfl (by simp)]
  have hf : FloatKind.f64.format = double := rfl
  obtain ⟨p, c, rfl⟩ := hv.len
  obtain ⟨q, d, rfl⟩ := hw.len
  by_cases c1 : 60 < l.length
  · simp -dsimp (maxSteps := 4000000) (disch := first | omega | assumption | (simp only [FB, Nat.reduceAdd]; done) | (simp only [LB]; omega)) only [EB, ↓reduceIte, WB, Nat.reduceSub, Nat.reduceAdd, Int.reduceEq, Int.reduceNe, Int.reduceLT, Int.reduceLE, Int.reduceAdd, Int.reduceSub, Int.reduceMul, Int.reduceNeg, Int.reduceToNat, Nat.reduceEqDiff, Nat.reduceLT, Nat.reduceLeDiff, Nat.reduceMul, List.replicate, reduceCtorEq, lives9, op_len und42 rfl, op_len und32 rfl, show (60 : Int) < l.length by omega, leave_fst flat_bool]
  · by_cases c2 : 60 < f.length
    · simp -dsimp (maxSteps := 4000000) (disch := first | omega | assumption | (simp only [FB, Nat.reduceAdd]; done) | (simp only [LB]; omega)) only [EB, ↓reduceIte, WB, Nat.reduceSub, Nat.reduceAdd, Int.reduceEq, Int.reduceNe, Int.reduceLT, Int.reduceLE, Int.reduceAdd, Int.reduceSub, Int.reduceMul, Int.reduceNeg, Int.reduceToNat, Nat.reduceEqDiff, Nat.reduceLT, Nat.reduceLeDiff, Nat.reduceMul, List.replicate, reduceCtorEq, lives9, op_len und42 rfl, op_len und32 rfl, show ¬ (60 : Int) < l.length by omega, show (60 : Int) < f.length by omega, leave_fst flat_bool]
    · have hbd := least_bd l l.length
      have hle := least_is l l.length
      obtain ⟨k0, hk0⟩ : ∃ k, k = leastI l l.length := ⟨_, rfl⟩
      have c19 := fun K => least19 (.slice p l.length c) l (by omega) hok ⟨a.next, a.heap, a.next, []⟩ hv K
      rw [← hk0] at hbd hle c19
      have hempty : (k0 < 0) = ((l.length : Int) = 0) := by
        apply propext; constructor
        · intro h
          rcases Nat.eq_zero_or_pos l.length with h0 | h0
          · omega
          · have := hbd.2.2 (by omega); omega
        · intro h; omega
      have hbeq : (!decide (decide (k0 < 0) = decide ((l.length : Int) = 0))) = false := by
        simp only [hempty, decide_true, Bool.not_true]
      simp -dsimp (maxSteps := 4000000) (disch := first | omega | assumption | (simp only [FB, Nat.reduceAdd]; done) | (simp only [LB]; omega)) only [EB, ↓reduceIte, WB, Nat.reduceSub, Nat.reduceAdd, Int.reduceEq, Int.reduceNe, Int.reduceLT, Int.reduceLE, Int.reduceAdd, Int.reduceSub, Int.reduceMul, Int.reduceNeg, Int.reduceToNat, Nat.reduceEqDiff, Nat.reduceLT, Nat.reduceLeDiff, Nat.reduceMul, List.replicate, reduceCtorEq, lives9, op_len und42 rfl, op_len und32 rfl, show ¬ (60 : Int) < l.length by omega, show ¬ (60 : Int) < f.length by omega, c19, show ¬ k0 < -1 by omega, show ¬ (l.length : Int) ≤ k0 by omega, bin_neq_bool und4, hbeq]
      refine loop_inv (fun k t w => ∃ i n : Nat, ∃ e, k = l.length - i ∧ i ≤ l.length ∧ a.next ≤ n ∧ w = ⟨n, a.heap, a.next, []⟩ ∧ t = TT 125 e ∧ e 0 = .slice p l.length c ∧ e 1 = .slice q f.length d ∧ e 2 = .int .i64 P ∧ e 3 = .float .f64 x ∧ e 4 = .float .f64 y ∧ e 11 = .int .i64 k0 ∧ e 12 = .int .i64 i) ⟨0, a.next, _, rfl, by omega, Nat.le_refl _, rfl, rfl, rfl, rfl, rfl, rfl, rfl, rfl, rfl⟩ ?_
      rintro k t w ⟨i, n, e, hk, hi, hn, rfl, rfl, e0, e1, e2, e3, e4, e11, e12⟩
      by_cases hlti : i < l.length
      · obtain ⟨b, sp, cap, rw0, ev, hb, hbn⟩ := hv.at hlti
        cases ev
        obtain ⟨kn, rfl⟩ : ∃ kn : Nat, k0 = kn := ⟨k0.toNat, by have := hbd.2.2 (by omega); omega⟩
        have hkl : kn < l.length := by omega
        have a1 := encB_at hlti
        have a2 := encB_at1 hlti
        have a3 := encB_at0 hlti
        have b1 := encB_at hkl
        have b2 := encB_at1 hkl
        have b3 := encB_at0 hkl
        have cc := fun a K => compare14 (l.getD i 0) (l.getD kn 0) (hok i) (hok kn) a K
        obtain ⟨h1, h2⟩ := hle i hlti
        rw [Int.toNat_natCast] at h1 h2
        obtain ⟨z, hz⟩ : ∃ z, z = cmpZ (placeZ (l.getD i 0)) (placeZ (l.getD kn 0)) := ⟨_, rfl⟩
        have hz0 : ¬ z < 0 := by rw [hz]; unfold cmpZ; split <;> (try split) <;> omega
        have hz1 : z = 0 → ¬ (i : Int) < kn := by
          intro h; rw [hz] at h
          have : placeZ (l.getD kn 0) = placeZ (l.getD i 0) := by unfold cmpZ at h; split at h <;> (try split at h) <;> omega
          have := h2 this; omega
        rw [← hz] at cc
        simp -dsimp (maxSteps := 4000000) (disch := first | omega | assumption | (simp only [FB, Nat.reduceAdd]; done) | (simp only [LB]; omega)) only [EB, ↓reduceIte, WB, Nat.reduceSub, Nat.reduceAdd, Int.reduceEq, Int.reduceNe, Int.reduceLT, Int.reduceLE, Int.reduceAdd, Int.reduceSub, Int.reduceMul, Int.reduceNeg, Int.reduceToNat, Nat.reduceEqDiff, Nat.reduceLT, Nat.reduceLeDiff, Nat.reduceMul, List.replicate, reduceCtorEq, e0, e11, e12, op_len und42 rfl, show ((i : Int) < l.length) by omega]
        refine code_draw [(0, 1), (0, 4), (0, 5), (0, 6), (0, 7), (1, 4), (1, 5), (1, 6), (1, 7), (2, 4), (2, 5), (2, 6), (2, 7), (3, 4), (3, 5), (3, 6), (3, 7), (4, 5)] (by decide +kernel) (by decide +kernel) ?_
        simp -dsimp (maxSteps := 4000000) (disch := first | omega | assumption | (simp only [FB, Nat.reduceAdd]; done) | (simp only [LB]; omega)) only [EB, ↓reduceIte, WB, Nat.reduceSub, Nat.reduceAdd, Int.reduceEq, Int.reduceNe, Int.reduceLT, Int.reduceLE, Int.reduceAdd, Int.reduceSub, Int.reduceMul, Int.reduceNeg, Int.reduceToNat, Nat.reduceEqDiff, Nat.reduceLT, Nat.reduceLeDiff, Nat.reduceMul, List.replicate, reduceCtorEq, RB, Nat.reduceEqDiff, e0, e11, e12, show ((i : Int) < l.length) by omega, show ((kn : Int) < l.length) by omega, indexAddr_slice und42 size22, load_one agg22, hb, a1, a2, a3, b1, b2, b3, cc, wrap64]
        by_cases hzz : z = 0
        · simp -dsimp (maxSteps := 4000000) (disch := first | omega | assumption | (simp only [FB, Nat.reduceAdd]; done) | (simp only [LB]; omega)) only [EB, ↓reduceIte, WB, Nat.reduceSub, Nat.reduceAdd, Int.reduceEq, Int.reduceNe, Int.reduceLT, Int.reduceLE, Int.reduceAdd, Int.reduceSub, Int.reduceMul, Int.reduceNeg, Int.reduceToNat, Nat.reduceEqDiff, Nat.reduceLT, Nat.reduceLeDiff, Nat.reduceMul, List.replicate, reduceCtorEq, e0, e11, e12, hz0, hzz, hz1 hzz, eq_self, wrap64]
          refine ⟨trivial, l.length - (i + 1), by omega, i + 1, _, _, rfl, by omega, Nat.le_succ_of_le hn, rfl, rfl, ?_⟩
          simp only [ups_at, ↓reduceIte, Nat.reduceEqDiff]
          exact ⟨e0, e1, e2, e3, e4, e11, (by first | trivial | rfl | omega)⟩
        · simp -dsimp (maxSteps := 4000000) (disch := first | omega | assumption | (simp only [FB, Nat.reduceAdd]; done) | (simp only [LB]; omega)) only [EB, ↓reduceIte, WB, Nat.reduceSub, Nat.reduceAdd, Int.reduceEq, Int.reduceNe, Int.reduceLT, Int.reduceLE, Int.reduceAdd, Int.reduceSub, Int.reduceMul, Int.reduceNeg, Int.reduceToNat, Nat.reduceEqDiff, Nat.reduceLT, Nat.reduceLeDiff, Nat.reduceMul, List.replicate, reduceCtorEq, e0, e11, e12, hz0, hzz, wrap64]
          refine ⟨trivial, l.length - (i + 1), by omega, i + 1, _, _, rfl, by omega, Nat.le_succ_of_le hn, rfl, rfl, ?_⟩
          simp only [ups_at, ↓reduceIte, Nat.reduceEqDiff]
          exact ⟨e0, e1, e2, e3, e4, e11, (by first | trivial | rfl | omega)⟩
      · obtain rfl : i = l.length := by omega
        have hm1 : ListV encB ((n, Blk.cells [Value.float .f64 x] true) :: a.heap) (n + 1) (.slice (some ⟨n, 0, some 0⟩) 1 1) [x] := .inr ⟨_, _, _, true, rfl, look_self, by omega⟩
        have cm := fun K => mean21 _ [x] (by simp) ⟨n + 1, (n, Blk.cells [Value.float .f64 x] true) :: a.heap, a.next, []⟩ hm1 K
        have hlt : ¬ ((l.length : Int) < l.length) := by omega
        cases ho : double.order x y with
        | some o =>
          have hne : double.order x y ≠ none := by rw [ho]; simp
          have hnx : isNum x := fun h => hne (order_nan (.inl h))
          obtain ⟨r, er, eo⟩ := mean_num x hx hnx
          rw [er] at cm
          have h5 : (double.order x x != some .eq) = false := by rw [(num_cases hx hnx).2.1]; rfl
          have h6 : (double.order r x == some .eq) = true := by rw [eo]; rfl
          obtain ⟨o1, o2⟩ := minF_or x y
          have bm : minF x y < 18446744073709551616 := by rcases o1 with e | e <;> rw [e] <;> assumption
          have bx : maxF x y < 18446744073709551616 := by rcases o2 with e | e <;> rw [e] <;> assumption
          have p1 := fun K => pass20 (.slice q f.length d) f (by omega) P (maxF x y) bx ⟨n, a.heap, a.next, []⟩ (hw.mono_n hn) K
          have p2 := fun K => pass20 (.slice q f.length d) f (by omega) P (minF x y) bm ⟨n, a.heap, a.next, []⟩ (hw.mono_n hn) K
          unfold passV at p1 p2
          have hmono := fun h1 h2 => pass_mono (u := x) (v := y) h1 h2 hne
          have hc1 : ∀ g u w : Int, u ≤ w → 0 ≤ cmpZ g w → 0 ≤ cmpZ g u := by
            intro g u w h1 h2; unfold cmpZ at *; split at h2 <;> (try split at h2) <;> (repeat' split) <;> omega
          rcases bar_cases (maxF x y) with hb1 | hb1 <;> rcases bar_cases (minF x y) with hb2 | hb2
          · rw [hb1] at p1
            rw [hb2] at p2
            by_cases hh : 0 ≤ cmpZ (placeZ (gradeB (weightL f) P)) (placeZ (maxF x y))
            · have hh2 := hc1 _ _ _ (hmono hb2 hb1) hh
              rw [decide_eq_true hh] at p1
              rw [decide_eq_true hh2] at p2
              simp -dsimp (maxSteps := 4000000) (disch := first | omega | assumption | (simp only [FB, Nat.reduceAdd]; done) | (simp only [LB]; omega)) only [EB, ↓reduceIte, WB, Nat.reduceSub, Nat.reduceAdd, Int.reduceEq, Int.reduceNe, Int.reduceLT, Int.reduceLE, Int.reduceAdd, Int.reduceSub, Int.reduceMul, Int.reduceNeg, Int.reduceToNat, Nat.reduceEqDiff, Nat.reduceLT, Nat.reduceLeDiff, Nat.reduceMul, List.replicate, reduceCtorEq, e0, e1, e2, e3, e4, e11, e12, op_len und42 rfl, hlt, max_flt hne, min_flt hne, p1, p2, buildSl1 sl42, cm, eq_self, flt_neq, flt_eql, hf, h5, h6, Bool.true_and, leave_fst flat_bool]
            · rw [decide_eq_false hh] at p1
              simp -dsimp (maxSteps := 4000000) (disch := first | omega | assumption | (simp only [FB, Nat.reduceAdd]; done) | (simp only [LB]; omega)) only [EB, ↓reduceIte, WB, Nat.reduceSub, Nat.reduceAdd, Int.reduceEq, Int.reduceNe, Int.reduceLT, Int.reduceLE, Int.reduceAdd, Int.reduceSub, Int.reduceMul, Int.reduceNeg, Int.reduceToNat, Nat.reduceEqDiff, Nat.reduceLT, Nat.reduceLeDiff, Nat.reduceMul, List.replicate, reduceCtorEq, e0, e1, e2, e3, e4, e11, e12, op_len und42 rfl, hlt, max_flt hne, min_flt hne, p1, p2, buildSl1 sl42, cm, eq_self, flt_neq, flt_eql, hf, h5, h6, Bool.true_and, leave_fst flat_bool]
          · rw [hb1] at p1
            rw [hb2] at p2
            simp -dsimp (maxSteps := 4000000) (disch := first | omega | assumption | (simp only [FB, Nat.reduceAdd]; done) | (simp only [LB]; omega)) only [EB, ↓reduceIte, WB, Nat.reduceSub, Nat.reduceAdd, Int.reduceEq, Int.reduceNe, Int.reduceLT, Int.reduceLE, Int.reduceAdd, Int.reduceSub, Int.reduceMul, Int.reduceNeg, Int.reduceToNat, Nat.reduceEqDiff, Nat.reduceLT, Nat.reduceLeDiff, Nat.reduceMul, List.replicate, reduceCtorEq, e0, e1, e2, e3, e4, e11, e12, op_len und42 rfl, hlt, max_flt hne, min_flt hne, p1, p2, buildSl1 sl42, cm, eq_self, flt_neq, flt_eql, hf, h5, h6, Bool.true_and, Bool.false_and, leave_fst flat_bool]
          · rw [hb1] at p1
            rw [hb2] at p2
            simp -dsimp (maxSteps := 4000000) (disch := first | omega | assumption | (simp only [FB, Nat.reduceAdd]; done) | (simp only [LB]; omega)) only [EB, ↓reduceIte, WB, Nat.reduceSub, Nat.reduceAdd, Int.reduceEq, Int.reduceNe, Int.reduceLT, Int.reduceLE, Int.reduceAdd, Int.reduceSub, Int.reduceMul, Int.reduceNeg, Int.reduceToNat, Nat.reduceEqDiff, Nat.reduceLT, Nat.reduceLeDiff, Nat.reduceMul, List.replicate, reduceCtorEq, e0, e1, e2, e3, e4, e11, e12, op_len und42 rfl, hlt, max_flt hne, min_flt hne, p1, p2, buildSl1 sl42, cm, eq_self, flt_neq, flt_eql, hf, h5, h6, Bool.true_and, Bool.false_and, leave_fst flat_bool]
          · rw [hb1] at p1
            rw [hb2] at p2
            simp -dsimp (maxSteps := 4000000) (disch := first | omega | assumption | (simp only [FB, Nat.reduceAdd]; done) | (simp only [LB]; omega)) only [EB, ↓reduceIte, WB, Nat.reduceSub, Nat.reduceAdd, Int.reduceEq, Int.reduceNe, Int.reduceLT, Int.reduceLE, Int.reduceAdd, Int.reduceSub, Int.reduceMul, Int.reduceNeg, Int.reduceToNat, Nat.reduceEqDiff, Nat.reduceLT, Nat.reduceLeDiff, Nat.reduceMul, List.replicate, reduceCtorEq, e0, e1, e2, e3, e4, e11, e12, op_len und42 rfl, hlt, max_flt hne, min_flt hne, p1, p2, buildSl1 sl42, cm, eq_self, flt_neq, flt_eql, hf, h5, h6, Bool.true_and, Bool.false_and, leave_fst flat_bool]
        | none =>
          have p1 := fun K => pass20n (.slice q f.length d) P ⟨n, a.heap, a.next, []⟩ K
          by_cases hnx : isNum x
          · obtain ⟨r, er, eo⟩ := mean_num x hx hnx
            rw [er] at cm
            have h5 : (double.order x x != some .eq) = false := by rw [(num_cases hx hnx).2.1]; rfl
            have h6 : (double.order r x == some .eq) = true := by rw [eo]; rfl
            simp -dsimp (maxSteps := 4000000) (disch := first | omega | assumption | (simp only [FB, Nat.reduceAdd]; done) | (simp only [LB]; omega)) only [EB, ↓reduceIte, WB, Nat.reduceSub, Nat.reduceAdd, Int.reduceEq, Int.reduceNe, Int.reduceLT, Int.reduceLE, Int.reduceAdd, Int.reduceSub, Int.reduceMul, Int.reduceNeg, Int.reduceToNat, Nat.reduceEqDiff, Nat.reduceLT, Nat.reduceLeDiff, Nat.reduceMul, List.replicate, reduceCtorEq, e0, e1, e2, e3, e4, e11, e12, op_len und42 rfl, hlt, max_nan ho, min_nan ho, p1, buildSl1 sl42, cm, eq_self, flt_neq, flt_eql, hf, h5, h6, leave_fst flat_bool]
          · have h5 : (double.order x x != some .eq) = true := by
              have : double.order x x = none := Classical.not_not.1 hnx
              rw [this]; rfl
            simp -dsimp (maxSteps := 4000000) (disch := first | omega | assumption | (simp only [FB, Nat.reduceAdd]; done) | (simp only [LB]; omega)) only [EB, ↓reduceIte, WB, Nat.reduceSub, Nat.reduceAdd, Int.reduceEq, Int.reduceNe, Int.reduceLT, Int.reduceLE, Int.reduceAdd, Int.reduceSub, Int.reduceMul, Int.reduceNeg, Int.reduceToNat, Nat.reduceEqDiff, Nat.reduceLT, Nat.reduceLeDiff, Nat.reduceMul, List.replicate, reduceCtorEq, e0, e1, e2, e3, e4, e11, e12, op_len und42 rfl, hlt, max_nan ho, min_nan ho, p1, buildSl1 sl42, cm, eq_self, flt_neq, flt_eql, hf, h5, leave_fst flat_bool]
end Go.Proofs.YtnjhndfomjjkdaaDoorAM
