/- Chapter 22: lists of floats: the least, the mean. -/
import Derived.Test.YtnjhndfomjjkdaaDoorI4
namespace Go.Proofs.YtnjhndfomjjkdaaDoorAM
open Go Go.RowKit Ieee
set_option linter.unusedVariables false
set_option linter.unusedSimpArgs false
set_option maxRecDepth 10000
set_option maxHeartbeats 4000000

theorem und42 : Tryd.prog.underlying 42 = some (.slice 22) := rfl
theorem size22 : typeSize Tryd.prog 22 = some 1 := rfl
theorem agg22 : aggB Tryd.prog 22 = some false := rfl
def encB (b : Nat) : List Value := [.float .f64 b]
theorem encB_map (l : List Nat) : l.flatMap encB = l.map (Value.float .f64) := by
  induction l with
  | nil => rfl
  | cons x l ih => rw [List.flatMap_cons, ih]; rfl
theorem encB_at {l : List Nat} {i : Nat} (h : i < l.length) : (l.flatMap encB)[i]? = some (.float .f64 (l.getD i 0)) := by
  rw [encB_map, List.getElem?_map, List.getElem?_eq_getElem h, List.getD_eq_getElem?_getD, List.getElem?_eq_getElem h]; rfl
theorem encB_at1 {l : List Nat} {i : Nat} (h : i < l.length) : (l.flatMap encB)[i * 1]? = some (.float .f64 (l.getD i 0)) := by rw [Nat.mul_one]; exact encB_at h
theorem encB_at0 {l : List Nat} {i : Nat} (h : i < l.length) : (l.flatMap encB)[0 + i * 1]? = some (.float .f64 (l.getD i 0)) := by rw [Nat.zero_add]; exact encB_at1 h
/-- The place of the first least of the first numbers. -/
def leastI (l : List Nat) : Nat → Int
  | 0 => -1
  | i + 1 => if leastI l i < 0 ∨ cmpZ (placeZ (l.getD i 0)) (placeZ (l.getD (leastI l i).toNat 0)) < 0 then i else leastI l i
theorem least_bd (l : List Nat) : ∀ i, -1 ≤ leastI l i ∧ leastI l i < i ∧ (i ≠ 0 → 0 ≤ leastI l i)
  | 0 => ⟨by show (-1 : Int) ≤ -1; omega, by show (-1 : Int) < ((0 : Nat) : Int); omega, fun h => absurd rfl h⟩
  | i + 1 => by
    have ih := least_bd l i
    unfold leastI
    split
    · omega
    · omega
theorem least_is (l : List Nat) : ∀ i, ∀ j, j < i → placeZ (l.getD (leastI l i).toNat 0) ≤ placeZ (l.getD j 0) ∧ (placeZ (l.getD (leastI l i).toNat 0) = placeZ (l.getD j 0) → leastI l i ≤ j)
  | 0 => fun j hj => by omega
  | i + 1 => fun j hj => by
    have ih := least_is l i
    have hbd := least_bd l i
    unfold leastI
    split
    · rename_i h
      rcases h with h | h
      · obtain rfl : i = 0 := by omega
        obtain rfl : j = 0 := by omega
        exact ⟨by simp, fun _ => by simp⟩
      · have hlt : placeZ (l.getD i 0) < placeZ (l.getD (leastI l i).toNat 0) := by unfold cmpZ at h; split at h <;> (try split at h) <;> omega
        rw [Int.toNat_natCast]
        rcases Nat.lt_or_ge j i with hji | hji
        · have := ih j hji
          exact ⟨by omega, fun e => by omega⟩
        · obtain rfl : j = i := by omega
          exact ⟨Int.le_refl _, fun _ => Int.le_refl _⟩
    · rename_i h
      have hle : placeZ (l.getD (leastI l i).toNat 0) ≤ placeZ (l.getD i 0) := by
        have h2 : ¬ cmpZ (placeZ (l.getD i 0)) (placeZ (l.getD (leastI l i).toNat 0)) < 0 := fun hh => h (.inr hh)
        unfold cmpZ at h2; split at h2 <;> (try split at h2) <;> omega
      rcases Nat.lt_or_ge j i with hji | hji
      · exact ih j hji
      · obtain rfl : j = i := by omega
        exact ⟨hle, fun _ => by omega⟩
def okB (l : List Nat) : Prop := ∀ i, l.getD i 0 < 18446744073709551616
theorem least19 (v : Value) (l : List Nat) (hl : l.length ≤ 1000000) (hok : okB l) (a : AW) (hv : ListV encB a.heap a.next v l) (K) : WCall Tryd.prog GV 19 [v] a K = K (.int .i64 (leastI l l.length)) a := by
  refine call_eq ?_ K
  rw [call_env Tryd.func19 rfl Tryd.ntmps19 rfl rfl (by simp)]
  obtain ⟨p, c, rfl⟩ := hv.len
  simp -dsimp (maxSteps := 4000000) (disch := first | omega | assumption | (simp only [FB, Nat.reduceAdd]; done) | (simp only [LB]; omega)) only [EB, ↓reduceIte, WB, Nat.reduceSub, Nat.reduceAdd, Int.reduceEq, Int.reduceNe, Int.reduceLT, Int.reduceLE, Int.reduceAdd, Int.reduceSub, Int.reduceMul, Int.reduceNeg, Int.reduceToNat, Nat.reduceEqDiff, Nat.reduceLT, Nat.reduceLeDiff, Nat.reduceMul, List.replicate, reduceCtorEq, op_len und42 rfl]
  refine loop_inv (fun k t w => ∃ i : Nat, ∃ e, k = l.length - i ∧ i ≤ l.length ∧ w = ⟨a.next, a.heap, a.next, []⟩ ∧ t = TT 27 e ∧ e 0 = .slice p l.length c ∧ e 6 = .slice p l.length c ∧ e 7 = .int .i64 l.length ∧ e 8 = .int .i64 i ∧ e 3 = .int .i64 (leastI l i)) ⟨0, _, rfl, by omega, rfl, rfl, rfl, rfl, rfl, rfl, rfl⟩ ?_
  rintro k t w ⟨i, e, hk, hi, rfl, rfl, e0, e6, e7, e8, e3⟩
  have hbd := least_bd l i
  by_cases hlti : i < l.length
  · obtain ⟨b, sp, cap, rw0, ev, hb, hbn⟩ := hv.at hlti
    cases ev
    have a1 := encB_at hlti
    have a2 := encB_at1 hlti
    have a3 := encB_at0 hlti
    have e8' : e 8 = .int .i64 (i : Int) := e8
    by_cases hneg : leastI l i < 0
    · have en : leastI l (i + 1) = i := by show (if _ ∨ _ then (i : Int) else _) = _; rw [if_pos (.inl hneg)]
      simp -dsimp (maxSteps := 4000000) (disch := first | omega | assumption | (simp only [FB, Nat.reduceAdd]; done) | (simp only [LB]; omega)) only [EB, ↓reduceIte, WB, Nat.reduceSub, Nat.reduceAdd, Int.reduceEq, Int.reduceNe, Int.reduceLT, Int.reduceLE, Int.reduceAdd, Int.reduceSub, Int.reduceMul, Int.reduceNeg, Int.reduceToNat, Nat.reduceEqDiff, Nat.reduceLT, Nat.reduceLeDiff, Nat.reduceMul, List.replicate, reduceCtorEq, e0, e6, e7, e8', e3, hneg, show ((i : Int) < l.length) by omega, indexAddr_slice und42 size22, load_one agg22, hb, a1, a2, a3, wrap64]
      refine ⟨trivial, l.length - (i + 1), by omega, i + 1, _, rfl, by omega, (by first | trivial | rfl | omega), rfl, ?_⟩
      simp only [ups_at, ↓reduceIte, Nat.reduceEqDiff]
      rw [en]
      exact ⟨e0, e6, e7, (by first | trivial | rfl | omega)⟩
    · obtain ⟨kn, hkn⟩ : ∃ kn : Nat, leastI l i = kn := ⟨(leastI l i).toNat, by omega⟩
      rw [hkn] at e3 hneg hbd
      have hkl : kn < l.length := by omega
      have b1 := encB_at hkl
      have b2 := encB_at1 hkl
      have b3 := encB_at0 hkl
      have cc := fun a K => compare14 (l.getD i 0) (l.getD kn 0) (hok i) (hok kn) a K
      by_cases hc : cmpZ (placeZ (l.getD i 0)) (placeZ (l.getD kn 0)) < 0
      · have en : leastI l (i + 1) = i := by show (if _ ∨ _ then (i : Int) else _) = _; rw [if_pos (.inr (by rw [hkn, Int.toNat_natCast]; exact hc))]
        simp -dsimp (maxSteps := 4000000) (disch := first | omega | assumption | (simp only [FB, Nat.reduceAdd]; done) | (simp only [LB]; omega)) only [EB, ↓reduceIte, WB, Nat.reduceSub, Nat.reduceAdd, Int.reduceEq, Int.reduceNe, Int.reduceLT, Int.reduceLE, Int.reduceAdd, Int.reduceSub, Int.reduceMul, Int.reduceNeg, Int.reduceToNat, Nat.reduceEqDiff, Nat.reduceLT, Nat.reduceLeDiff, Nat.reduceMul, List.replicate, reduceCtorEq, e0, e6, e7, e8', e3, hneg, hc, show ((i : Int) < l.length) by omega, show ((kn : Int) < l.length) by omega, indexAddr_slice und42 size22, load_one agg22, hb, a1, a2, a3, b1, b2, b3, cc, wrap64]
        refine ⟨trivial, l.length - (i + 1), by omega, i + 1, _, rfl, by omega, (by first | trivial | rfl | omega), rfl, ?_⟩
        simp only [ups_at, ↓reduceIte, Nat.reduceEqDiff]
        rw [en]
        exact ⟨e0, e6, e7, (by first | trivial | rfl | omega)⟩
      · have en : leastI l (i + 1) = kn := by show (if _ ∨ _ then (i : Int) else _) = _; rw [hkn, if_neg (by rw [Int.toNat_natCast]; omega)]
        simp -dsimp (maxSteps := 4000000) (disch := first | omega | assumption | (simp only [FB, Nat.reduceAdd]; done) | (simp only [LB]; omega)) only [EB, ↓reduceIte, WB, Nat.reduceSub, Nat.reduceAdd, Int.reduceEq, Int.reduceNe, Int.reduceLT, Int.reduceLE, Int.reduceAdd, Int.reduceSub, Int.reduceMul, Int.reduceNeg, Int.reduceToNat, Nat.reduceEqDiff, Nat.reduceLT, Nat.reduceLeDiff, Nat.reduceMul, List.replicate, reduceCtorEq, e0, e6, e7, e8', e3, hneg, hc, show ((i : Int) < l.length) by omega, show ((kn : Int) < l.length) by omega, indexAddr_slice und42 size22, load_one agg22, hb, a1, a2, a3, b1, b2, b3, cc, wrap64]
        refine ⟨trivial, l.length - (i + 1), by omega, i + 1, _, rfl, by omega, (by first | trivial | rfl | omega), rfl, ?_⟩
        simp only [ups_at, ↓reduceIte, Nat.reduceEqDiff]
        rw [en]
        exact ⟨e0, e6, e7, (by first | trivial | rfl | omega)⟩
  · obtain rfl : i = l.length := by omega
    simp -dsimp (maxSteps := 4000000) (disch := first | omega | assumption | (simp only [FB, Nat.reduceAdd]; done) | (simp only [LB]; omega)) only [EB, ↓reduceIte, WB, Nat.reduceSub, Nat.reduceAdd, Int.reduceEq, Int.reduceNe, Int.reduceLT, Int.reduceLE, Int.reduceAdd, Int.reduceSub, Int.reduceMul, Int.reduceNeg, Int.reduceToNat, Nat.reduceEqDiff, Nat.reduceLT, Nat.reduceLeDiff, Nat.reduceMul, List.replicate, reduceCtorEq, e0, e6, e7, e8, e3, show ¬ ((l.length : Int) < l.length) by omega]
    exact ⟨(by first | trivial | rfl | omega), (by first | trivial | rfl | omega)⟩
theorem least32 (v : Value) (l : List Nat) (hl : l.length ≤ 1000000) (hok : okB l) (a : AW) (hv : ListV encB a.heap a.next v l) (K) : WCall Tryd.prog GV 32 [v] a K = K (.int .i64 (leastI l l.length)) a := by
  refine call_eq ?_ K
  rw [call_env Tryd.func32 rfl Tryd.ntmps32 rfl rfl (by simp)]
  obtain ⟨p, c, rfl⟩ := hv.len
  simp -dsimp (maxSteps := 4000000) (disch := first | omega | assumption | (simp only [FB, Nat.reduceAdd]; done) | (simp only [LB]; omega)) only [EB, ↓reduceIte, WB, Nat.reduceSub, Nat.reduceAdd, Int.reduceEq, Int.reduceNe, Int.reduceLT, Int.reduceLE, Int.reduceAdd, Int.reduceSub, Int.reduceMul, Int.reduceNeg, Int.reduceToNat, Nat.reduceEqDiff, Nat.reduceLT, Nat.reduceLeDiff, Nat.reduceMul, List.replicate, reduceCtorEq, op_len und42 rfl]
  refine loop_inv (fun k t w => ∃ i n : Nat, ∃ e, k = l.length - i ∧ i ≤ l.length ∧ a.next ≤ n ∧ w = ⟨n, a.heap, a.next, []⟩ ∧ t = TT 27 e ∧ e 0 = .slice p l.length c ∧ e 4 = .int .i64 i ∧ e 3 = .int .i64 (leastI l i)) ⟨0, a.next, _, rfl, by omega, Nat.le_refl _, rfl, rfl, rfl, rfl, rfl⟩ ?_
  rintro k t w ⟨i, n, e, hk, hi, hn, rfl, rfl, e0, e4, e3⟩
  have hbd := least_bd l i
  by_cases hlti : i < l.length
  · obtain ⟨b, sp, cap, rw0, ev, hb, hbn⟩ := hv.at hlti
    cases ev
    have a1 := encB_at hlti
    have a2 := encB_at1 hlti
    have a3 := encB_at0 hlti
    by_cases hneg : leastI l i < 0
    · have en : leastI l (i + 1) = i := by show (if _ ∨ _ then (i : Int) else _) = _; rw [if_pos (.inl hneg)]
      simp -dsimp (maxSteps := 4000000) (disch := first | omega | assumption | (simp only [FB, Nat.reduceAdd]; done) | (simp only [LB]; omega)) only [EB, ↓reduceIte, WB, Nat.reduceSub, Nat.reduceAdd, Int.reduceEq, Int.reduceNe, Int.reduceLT, Int.reduceLE, Int.reduceAdd, Int.reduceSub, Int.reduceMul, Int.reduceNeg, Int.reduceToNat, Nat.reduceEqDiff, Nat.reduceLT, Nat.reduceLeDiff, Nat.reduceMul, List.replicate, reduceCtorEq, e0, e4, e3, op_len und42 rfl, show ((i : Int) < l.length) by omega]
      refine code_draw [(3, 4), (3, 7), (3, 8), (3, 9), (3, 10), (4, 7), (4, 8), (4, 9), (4, 10), (5, 7), (5, 8), (5, 9), (5, 10), (6, 7), (6, 8), (6, 9), (6, 10), (7, 8)] (by decide +kernel) (by decide +kernel) ?_
      simp -dsimp (maxSteps := 4000000) (disch := first | omega | assumption | (simp only [FB, Nat.reduceAdd]; done) | (simp only [LB]; omega)) only [EB, ↓reduceIte, WB, Nat.reduceSub, Nat.reduceAdd, Int.reduceEq, Int.reduceNe, Int.reduceLT, Int.reduceLE, Int.reduceAdd, Int.reduceSub, Int.reduceMul, Int.reduceNeg, Int.reduceToNat, Nat.reduceEqDiff, Nat.reduceLT, Nat.reduceLeDiff, Nat.reduceMul, List.replicate, reduceCtorEq, RB, Nat.reduceEqDiff, e0, e4, e3, hneg, show ((i : Int) < l.length) by omega, indexAddr_slice und42 size22, load_one agg22, hb, a1, a2, a3, wrap64]
      refine ⟨l.length - (i + 1), by omega, i + 1, _, _, rfl, by omega, Nat.le_succ_of_le hn, rfl, rfl, ?_⟩
      simp only [ups_at, ↓reduceIte, Nat.reduceEqDiff]
      rw [en]
      exact ⟨e0, (by first | trivial | rfl | omega)⟩
    · obtain ⟨kn, hkn⟩ : ∃ kn : Nat, leastI l i = kn := ⟨(leastI l i).toNat, by omega⟩
      rw [hkn] at e3 hneg hbd
      have hkl : kn < l.length := by omega
      have b1 := encB_at hkl
      have b2 := encB_at1 hkl
      have b3 := encB_at0 hkl
      have cc := fun a K => compare28 (l.getD i 0) (l.getD kn 0) (hok i) (hok kn) a K
      by_cases hc : cmpZ (placeZ (l.getD i 0)) (placeZ (l.getD kn 0)) < 0
      · have en : leastI l (i + 1) = i := by show (if _ ∨ _ then (i : Int) else _) = _; rw [if_pos (.inr (by rw [hkn, Int.toNat_natCast]; exact hc))]
        simp -dsimp (maxSteps := 4000000) (disch := first | omega | assumption | (simp only [FB, Nat.reduceAdd]; done) | (simp only [LB]; omega)) only [EB, ↓reduceIte, WB, Nat.reduceSub, Nat.reduceAdd, Int.reduceEq, Int.reduceNe, Int.reduceLT, Int.reduceLE, Int.reduceAdd, Int.reduceSub, Int.reduceMul, Int.reduceNeg, Int.reduceToNat, Nat.reduceEqDiff, Nat.reduceLT, Nat.reduceLeDiff, Nat.reduceMul, List.replicate, reduceCtorEq, e0, e4, e3, op_len und42 rfl, show ((i : Int) < l.length) by omega]
        refine code_draw [(3, 4), (3, 7), (3, 8), (3, 9), (3, 10), (4, 7), (4, 8), (4, 9), (4, 10), (5, 7), (5, 8), (5, 9), (5, 10), (6, 7), (6, 8), (6, 9), (6, 10), (7, 8)] (by decide +kernel) (by decide +kernel) ?_
        simp -dsimp (maxSteps := 4000000) (disch := first | omega | assumption | (simp only [FB, Nat.reduceAdd]; done) | (simp only [LB]; omega)) only [EB, ↓reduceIte, WB, Nat.reduceSub, Nat.reduceAdd, Int.reduceEq, Int.reduceNe, Int.reduceLT, Int.reduceLE, Int.reduceAdd, Int.reduceSub, Int.reduceMul, Int.reduceNeg, Int.reduceToNat, Nat.reduceEqDiff, Nat.reduceLT, Nat.reduceLeDiff, Nat.reduceMul, List.replicate, reduceCtorEq, RB, Nat.reduceEqDiff, e0, e4, e3, hneg, hc, show ((i : Int) < l.length) by omega, show ((kn : Int) < l.length) by omega, indexAddr_slice und42 size22, load_one agg22, hb, a1, a2, a3, b1, b2, b3, cc, wrap64]
        refine ⟨l.length - (i + 1), by omega, i + 1, _, _, rfl, by omega, Nat.le_succ_of_le hn, rfl, rfl, ?_⟩
        simp only [ups_at, ↓reduceIte, Nat.reduceEqDiff]
        rw [en]
        exact ⟨e0, (by first | trivial | rfl | omega)⟩
      · have en : leastI l (i + 1) = kn := by show (if _ ∨ _ then (i : Int) else _) = _; rw [hkn, if_neg (by rw [Int.toNat_natCast]; omega)]
        simp -dsimp (maxSteps := 4000000) (disch := first | omega | assumption | (simp only [FB, Nat.reduceAdd]; done) | (simp only [LB]; omega)) only [EB, ↓reduceIte, WB, Nat.reduceSub, Nat.reduceAdd, Int.reduceEq, Int.reduceNe, Int.reduceLT, Int.reduceLE, Int.reduceAdd, Int.reduceSub, Int.reduceMul, Int.reduceNeg, Int.reduceToNat, Nat.reduceEqDiff, Nat.reduceLT, Nat.reduceLeDiff, Nat.reduceMul, List.replicate, reduceCtorEq, e0, e4, e3, op_len und42 rfl, show ((i : Int) < l.length) by omega]
        refine code_draw [(3, 4), (3, 7), (3, 8), (3, 9), (3, 10), (4, 7), (4, 8), (4, 9), (4, 10), (5, 7), (5, 8), (5, 9), (5, 10), (6, 7), (6, 8), (6, 9), (6, 10), (7, 8)] (by decide +kernel) (by decide +kernel) ?_
        simp -dsimp (maxSteps := 4000000) (disch := first | omega | assumption | (simp only [FB, Nat.reduceAdd]; done) | (simp only [LB]; omega)) only [EB, ↓reduceIte, WB, Nat.reduceSub, Nat.reduceAdd, Int.reduceEq, Int.reduceNe, Int.reduceLT, Int.reduceLE, Int.reduceAdd, Int.reduceSub, Int.reduceMul, Int.reduceNeg, Int.reduceToNat, Nat.reduceEqDiff, Nat.reduceLT, Nat.reduceLeDiff, Nat.reduceMul, List.replicate, reduceCtorEq, RB, Nat.reduceEqDiff, e0, e4, e3, hneg, hc, show ((i : Int) < l.length) by omega, show ((kn : Int) < l.length) by omega, indexAddr_slice und42 size22, load_one agg22, hb, a1, a2, a3, b1, b2, b3, cc, wrap64]
        refine ⟨l.length - (i + 1), by omega, i + 1, _, _, rfl, by omega, Nat.le_succ_of_le hn, rfl, rfl, ?_⟩
        simp only [ups_at, ↓reduceIte, Nat.reduceEqDiff]
        rw [en]
        exact ⟨e0, (by first | trivial | rfl | omega)⟩
  · obtain rfl : i = l.length := by omega
    simp -dsimp (maxSteps := 4000000) (disch := first | omega | assumption | (simp only [FB, Nat.reduceAdd]; done) | (simp only [LB]; omega)) only [EB, ↓reduceIte, WB, Nat.reduceSub, Nat.reduceAdd, Int.reduceEq, Int.reduceNe, Int.reduceLT, Int.reduceLE, Int.reduceAdd, Int.reduceSub, Int.reduceMul, Int.reduceNeg, Int.reduceToNat, Nat.reduceEqDiff, Nat.reduceLT, Nat.reduceLeDiff, Nat.reduceMul, List.replicate, reduceCtorEq, e0, e4, e3, op_len und42 rfl, show ¬ ((l.length : Int) < l.length) by omega]
    exact ⟨(by first | trivial | rfl | omega), (by first | trivial | rfl | omega)⟩
/-- The sum of the first numbers, the mean of all. -/
def sumV (l : List Nat) : Nat → Value
  | 0 => .float .f64 0
  | i + 1 => arF double.add (sumV l i) (.float .f64 (l.getD i 0))
theorem sumV_f (l : List Nat) : ∀ i, isF (sumV l i)
  | 0 => .inr ⟨_, rfl⟩
  | i + 1 => arF_f _ _ _
def meanV (l : List Nat) : Value := arF double.div (sumV l l.length) (.float .f64 (FloatKind.nearest .f64 (l.length : Int)))
theorem mean21 (v : Value) (l : List Nat) (hl : l.length ≤ 1000000) (a : AW) (hv : ListV encB a.heap a.next v l) (K) : WCall Tryd.prog GV 21 [v] a K = K (meanV l) a := by
  refine call_eq ?_ K
  rw [call_env Tryd.func21 rfl Tryd.ntmps21 rfl rfl (by simp)]
  obtain ⟨p, c, rfl⟩ := hv.len
  simp -dsimp (maxSteps := 4000000) (disch := first | omega | assumption | (simp only [FB, Nat.reduceAdd]; done) | (simp only [LB]; omega)) only [EB, ↓reduceIte, WB, Nat.reduceSub, Nat.reduceAdd, Int.reduceEq, Int.reduceNe, Int.reduceLT, Int.reduceLE, Int.reduceAdd, Int.reduceSub, Int.reduceMul, Int.reduceNeg, Int.reduceToNat, Nat.reduceEqDiff, Nat.reduceLT, Nat.reduceLeDiff, Nat.reduceMul, List.replicate, reduceCtorEq, op_len und42 rfl]
  refine loop_inv (fun k t w => ∃ i : Nat, ∃ e, k = l.length - i ∧ i ≤ l.length ∧ w = ⟨a.next, a.heap, a.next, []⟩ ∧ t = TT 21 e ∧ e 0 = .slice p l.length c ∧ e 6 = .slice p l.length c ∧ e 7 = .int .i64 l.length ∧ e 8 = .int .i64 i ∧ e 3 = sumV l i) ⟨0, _, rfl, by omega, rfl, rfl, rfl, rfl, rfl, rfl, rfl⟩ ?_
  rintro k t w ⟨i, e, hk, hi, rfl, rfl, e0, e6, e7, e8, e3⟩
  by_cases hlti : i < l.length
  · obtain ⟨b, sp, cap, rw0, ev, hb, hbn⟩ := hv.at hlti
    cases ev
    have a1 := encB_at hlti
    have a2 := encB_at1 hlti
    have a3 := encB_at0 hlti
    have hq : ∀ {t : TypeId} {x y : Operand}, binA Tryd.prog .add t x y (sumV l i) (.float .f64 (l.getD i 0)) = some (sumV l (i + 1)) := bin_addF (sumV_f l i) (.inr ⟨_, rfl⟩)
    simp -dsimp (maxSteps := 4000000) (disch := first | omega | assumption | (simp only [FB, Nat.reduceAdd]; done) | (simp only [LB]; omega)) only [EB, ↓reduceIte, WB, Nat.reduceSub, Nat.reduceAdd, Int.reduceEq, Int.reduceNe, Int.reduceLT, Int.reduceLE, Int.reduceAdd, Int.reduceSub, Int.reduceMul, Int.reduceNeg, Int.reduceToNat, Nat.reduceEqDiff, Nat.reduceLT, Nat.reduceLeDiff, Nat.reduceMul, List.replicate, reduceCtorEq, e0, e6, e7, e8, e3, show ((i : Int) < l.length) by omega, indexAddr_slice und42 size22, load_one agg22, hb, a1, a2, a3, hq, wrap64]
    refine ⟨trivial, l.length - (i + 1), by omega, i + 1, _, rfl, by omega, (by first | trivial | rfl | omega), rfl, ?_⟩
    simp only [ups_at, ↓reduceIte, Nat.reduceEqDiff]
    exact ⟨e0, e6, e7, (by first | trivial | rfl | omega)⟩
  · obtain rfl : i = l.length := by omega
    have hq : ∀ {t : TypeId} {x y : Operand}, binA Tryd.prog .quo t x y (sumV l l.length) (.float .f64 (FloatKind.nearest .f64 (l.length : Int))) = some (meanV l) := bin_quoF (sumV_f l _) (.inr ⟨_, rfl⟩)
    have hl2 := fun {bs : Nat} => leave_F (a := a) (bs := bs) (v := meanV l) (arF_f _ _ _)
    simp -dsimp (maxSteps := 4000000) (disch := first | omega | assumption | (simp only [FB, Nat.reduceAdd]; done) | (simp only [LB]; omega)) only [EB, ↓reduceIte, WB, Nat.reduceSub, Nat.reduceAdd, Int.reduceEq, Int.reduceNe, Int.reduceLT, Int.reduceLE, Int.reduceAdd, Int.reduceSub, Int.reduceMul, Int.reduceNeg, Int.reduceToNat, Nat.reduceEqDiff, Nat.reduceLT, Nat.reduceLeDiff, Nat.reduceMul, List.replicate, reduceCtorEq, e0, e6, e7, e8, e3, show ¬ ((l.length : Int) < l.length) by omega, op_len und42 rfl, op_conv_flt und3 und22, conv_flt und3 und22, hq, hl2]
    exact ⟨(by first | trivial | rfl | omega), (by first | trivial | rfl | omega)⟩
theorem mean31 (v : Value) (l : List Nat) (hl : l.length ≤ 1000000) (a : AW) (hv : ListV encB a.heap a.next v l) (K) : WCall Tryd.prog GV 31 [v] a K = K (meanV l) a := by
  refine call_eq ?_ K
  rw [call_env Tryd.func31 rfl Tryd.ntmps31 rfl rfl (by simp)]
  obtain ⟨p, c, rfl⟩ := hv.len
  simp -dsimp (maxSteps := 4000000) (disch := first | omega | assumption | (simp only [FB, Nat.reduceAdd]; done) | (simp only [LB]; omega)) only [EB, ↓reduceIte, WB, Nat.reduceSub, Nat.reduceAdd, Int.reduceEq, Int.reduceNe, Int.reduceLT, Int.reduceLE, Int.reduceAdd, Int.reduceSub, Int.reduceMul, Int.reduceNeg, Int.reduceToNat, Nat.reduceEqDiff, Nat.reduceLT, Nat.reduceLeDiff, Nat.reduceMul, List.replicate, reduceCtorEq, ]
  refine loop_inv (fun k t w => ∃ i : Nat, ∃ e, k = l.length - i ∧ i ≤ l.length ∧ w = ⟨a.next, a.heap, a.next, []⟩ ∧ t = TT 22 e ∧ e 0 = .slice p l.length c ∧ e 4 = .int .i64 i ∧ e 3 = sumV l i) ⟨0, _, rfl, by omega, rfl, rfl, rfl, rfl, rfl⟩ ?_
  rintro k t w ⟨i, e, hk, hi, rfl, rfl, e0, e4, e3⟩
  by_cases hlti : i < l.length
  · obtain ⟨b, sp, cap, rw0, ev, hb, hbn⟩ := hv.at hlti
    cases ev
    have a1 := encB_at hlti
    have a2 := encB_at1 hlti
    have a3 := encB_at0 hlti
    have hq : ∀ {t : TypeId} {x y : Operand}, binA Tryd.prog .add t x y (sumV l i) (.float .f64 (l.getD i 0)) = some (sumV l (i + 1)) := bin_addF (sumV_f l i) (.inr ⟨_, rfl⟩)
    simp -dsimp (maxSteps := 4000000) (disch := first | omega | assumption | (simp only [FB, Nat.reduceAdd]; done) | (simp only [LB]; omega)) only [EB, ↓reduceIte, WB, Nat.reduceSub, Nat.reduceAdd, Int.reduceEq, Int.reduceNe, Int.reduceLT, Int.reduceLE, Int.reduceAdd, Int.reduceSub, Int.reduceMul, Int.reduceNeg, Int.reduceToNat, Nat.reduceEqDiff, Nat.reduceLT, Nat.reduceLeDiff, Nat.reduceMul, List.replicate, reduceCtorEq, e0, e4, e3, op_len und42 rfl, show ((i : Int) < l.length) by omega, indexAddr_slice und42 size22, load_one agg22, hb, a1, a2, a3, hq, wrap64]
    refine ⟨trivial, l.length - (i + 1), by omega, i + 1, _, rfl, by omega, (by first | trivial | rfl | omega), rfl, ?_⟩
    simp only [ups_at, ↓reduceIte, Nat.reduceEqDiff]
    exact ⟨e0, (by first | trivial | rfl | omega)⟩
  · obtain rfl : i = l.length := by omega
    have hq : ∀ {t : TypeId} {x y : Operand}, binA Tryd.prog .quo t x y (sumV l l.length) (.float .f64 (FloatKind.nearest .f64 (l.length : Int))) = some (meanV l) := bin_quoF (sumV_f l _) (.inr ⟨_, rfl⟩)
    have hl2 := fun {bs : Nat} => leave_F (a := a) (bs := bs) (v := meanV l) (arF_f _ _ _)
    simp -dsimp (maxSteps := 4000000) (disch := first | omega | assumption | (simp only [FB, Nat.reduceAdd]; done) | (simp only [LB]; omega)) only [EB, ↓reduceIte, WB, Nat.reduceSub, Nat.reduceAdd, Int.reduceEq, Int.reduceNe, Int.reduceLT, Int.reduceLE, Int.reduceAdd, Int.reduceSub, Int.reduceMul, Int.reduceNeg, Int.reduceToNat, Nat.reduceEqDiff, Nat.reduceLT, Nat.reduceLeDiff, Nat.reduceMul, List.replicate, reduceCtorEq, e0, e4, e3, op_len und42 rfl, show ¬ ((l.length : Int) < l.length) by omega, op_conv_flt und3 und22, conv_flt und3 und22, hq, hl2]
    exact ⟨(by first | trivial | rfl | omega), (by first | trivial | rfl | omega)⟩
end Go.Proofs.YtnjhndfomjjkdaaDoorAM
