/- Chapter 3: DeviceFuses answers true. -/
import Derived.Test.YtgdmgolmeeigdaaD6
import Derived.Test.YtgdmgolmeeigdaaAI
namespace Go.Proofs.YtgdmgolmeeigdaaAM
open Go Go.RowKit
set_option linter.unusedVariables false
set_option linter.unusedSimpArgs false
set_option maxRecDepth 10000
set_option maxHeartbeats 4000000

theorem DevS.fuse {h : List (Nat × Blk)} {n b q : Nat} {S : Nat → Prop} {D : Dv} (hd : DevS h n b q S D) (v : Int) (hv : v ≤ 9223372036854775807) :
    ∃ (pv : Value) (fs : List Value), fs.length = D.ops.length ∧ (pv = .slice none 0 0 ∧ fs = [] ∨ pv = .slice (some ⟨q, 0, some 2⟩) fs.length fs.length) ∧ look b h = some (.cells (devC D.s D.c D.im D.du pv D.f D.o) true) ∧ DevS (putAt b (.cells (devC D.s D.c D.im D.du pv (max v (-1)) D.o) true) h) n b q S { D with f := max v (-1) } := by
  obtain ⟨⟨pv, fs, hb, hp, hfl, hrep⟩, hbq, hbS, hqS, ⟨hbn, hqn, hSn⟩, hfu, hno0, him, hdu, hop⟩ := hd
  refine ⟨pv, fs, hfl, ?_, hb, ⟨⟨pv, fs, ?_, ?_, hfl, fun i fv o e1 e2 => (hrep i fv o e1 e2).keep (fun j hj => hj) fun j hj => ?_⟩, hbq, hbS, hqS, ⟨hbn, hqn, hSn⟩, ?_, hno0, him, hdu, hop⟩⟩
  · rcases hp with hp | ⟨e, _⟩
    · exact .inl hp
    · exact .inr e
  · rw [look_wput_self, hb]; rfl
  · rcases hp with hp | ⟨e1, e2, e3⟩
    · exact .inl hp
    · exact .inr ⟨e1, e2, by rw [look_wput_ne (Ne.symm hbq)]; exact e3⟩
  · rw [look_wput_ne (show j ≠ b by intro e; subst e; exact hbS hj)]
  · simp only; omega
theorem und43 : Try.prog.underlying 43 = some (.slice 31) := rfl
theorem agg31 : aggB Try.prog 31 = some false := rfl
theorem size31 : typeSize Try.prog 31 = some 1 := rfl
theorem flat_encU (xs : List Int) : xs.flatMap (fun x => [Value.int .u32 x]) = xs.map (.int .u32) := by
  induction xs with
  | nil => rfl
  | cons x xs ih => rw [List.flatMap_cons, ih]; rfl
abbrev encU (x : Int) : List Value := [.int .u32 x]
theorem leave_fst {b0 w : AW} {v : Value} (hv : flat v = true) : (leaveA b0 [v] w).1 = [v] := by
  unfold leaveA
  split
  · have : [v].filter (fun v => !flat v) = [] := by simp [hv]
    rw [this]
  · rfl
theorem law5 (fuse : Int) (hf : -9223372036854775808 ≤ fuse) (v : Value) (xs : List Int) (hxs : ∀ x ∈ xs, 0 ≤ x ∧ x ≤ 4294967295) (a : AW) (m : Nat) (ham : a.next = m + 1) (hv : ListV encU a.heap m v xs) :
    WCall Try.prog GV 5 [.int .i64 fuse, v] a fun v _ => v = .bool true := by
  rw [call_body' Try.func5 rfl Try.ntmps5 rfl rfl]
  obtain ⟨p, cp, rfl⟩ := hv.len
  by_cases hl : (30 : Int) < xs.length
  · simp -dsimp (maxSteps := 4000000) (disch := first | omega | assumption | (simp only [FB, Nat.reduceAdd]; done) | (simp only [LB]; omega)) only [WB, Nat.reduceSub, Nat.reduceAdd, Int.reduceEq, Int.reduceNe, Int.reduceLT, Int.reduceLE, Int.reduceAdd, Int.reduceSub, Int.reduceMul, Int.reduceNeg, Int.reduceToNat, Nat.reduceEqDiff, Nat.reduceLT, Nat.reduceLeDiff, Nat.reduceMul, List.replicate, reduceCtorEq, op_len und9 rfl, lives9, hl, op_len und43 rfl]
  obtain ⟨fu, hfu, hfu2⟩ : ∃ m : Nat, pick fuse 32 = m ∧ m < 32 := by
    have h1 := Int.emod_nonneg fuse (show (32 : Int) ≠ 0 by omega)
    have h2 := Int.emod_lt_of_pos fuse (show (0 : Int) < 32 by omega)
    exact ⟨(pick fuse 32).toNat, by unfold pick; omega, by unfold pick; omega⟩
  have hnew := new11 [] (by simp) 20 (by omega) (by simp)
  simp -dsimp (maxSteps := 4000000) (disch := first | omega | assumption | (simp only [FB, Nat.reduceAdd]; done) | (simp only [LB]; omega)) only [WB, Nat.reduceSub, Nat.reduceAdd, Int.reduceEq, Int.reduceNe, Int.reduceLT, Int.reduceLE, Int.reduceAdd, Int.reduceSub, Int.reduceMul, Int.reduceNeg, Int.reduceToNat, Nat.reduceEqDiff, Nat.reduceLT, Nat.reduceLeDiff, Nat.reduceMul, List.replicate, reduceCtorEq, op_len und9 rfl, lives9, hl, op_len und43 rfl, pick10, hfu, hnew, neq25, eql25]
  obtain ⟨pv, fs, hfl, hpv, hb0, hd0⟩ := (dev_new ((a.next, .cells (devC 128 20 [] [] (.slice none 0 0) (-1) 0) true) :: a.heap) (a.next + 1) a.next m 20 [] (by simp) look_self (by omega) (by omega) (by omega)).fuse (fu : Int) (by omega)
  obtain rfl : fs = [] := List.length_eq_zero_iff.1 hfl
  obtain rfl : pv = .slice none 0 0 := by
    rcases hpv with ⟨e, _⟩ | e
    · exact e
    · simp only [devC] at hb0; rw [look_self] at hb0; rw [e] at hb0; simp [devC] at hb0
  rw [fuse23 _ hb0 (by omega), soilW_own (by omega)]
  simp only at hd0 ⊢
  rw [show max (fu : Int) (-1) = fu by omega] at hd0 ⊢
  generalize hh1 : putAt a.next _ _ = h1 at hd0 ⊢
  have hk1 : ∀ j, j < a.next → look j h1 = look j a.heap := by
    intro j hj
    rw [← hh1, look_wput_ne (by omega), look_miss (by omega)]
  simp -dsimp (maxSteps := 4000000) (disch := first | omega | assumption | (simp only [FB, Nat.reduceAdd]; done) | (simp only [LB]; omega)) only [WB, Nat.reduceSub, Nat.reduceAdd, Int.reduceEq, Int.reduceNe, Int.reduceLT, Int.reduceLE, Int.reduceAdd, Int.reduceSub, Int.reduceMul, Int.reduceNeg, Int.reduceToNat, Nat.reduceEqDiff, Nat.reduceLT, Nat.reduceLeDiff, Nat.reduceMul, List.replicate, reduceCtorEq, op_len und9 rfl, ]
  have hq0 : ∃ b sp cap rw, 0 < xs.length → Value.slice p xs.length cp = .slice (some ⟨b, 0, sp⟩) xs.length cap ∧ look b a.heap = some (.cells (xs.map (.int .u32)) rw) ∧ b < m := by
    rcases hv with ⟨_, h⟩ | ⟨b, sp, cap, rw, h⟩
    · exact ⟨0, none, 0, true, fun h' => by rw [h] at h'; simp at h'⟩
    · exact ⟨b, sp, cap, rw, fun _ => by rw [flat_encU] at h; exact h⟩
  obtain ⟨b, sp, cap, rw, hq⟩ := hq0
  refine loop_inv (fun k t w => ∃ i dn n q : Nat, ∃ h d S D, k = xs.length - i ∧ i ≤ xs.length ∧ dn ≤ i ∧ dn ≤ fu ∧ w = ⟨n, h, a.next, d⟩ ∧ DevS h n a.next q S D ∧ a.next < n ∧ m ≤ q ∧ (∀ j, j < m → look j h = look j a.heap) ∧ D.s = 128 ∧ D.c = 20 ∧ D.f = (fu : Int) - dn ∧ D.o = dn ∧ D.ops.length = dn ∧
    t.length = 96 ∧ getT t 0 = .int .i64 fu ∧ getT t 1 = .slice p xs.length cp ∧ getT t 5 = .pointer (some ⟨a.next, 0, none⟩) ∧ getT t 7 = .int .i64 dn ∧ getT t 8 = .int .i64 i) ⟨0, 0, _, m, h1, [], _, _, rfl, by omega, by omega, by omega, rfl, hd0, by omega, by omega, fun j hj => hk1 j (by omega), rfl, rfl, by simp only; omega, rfl, rfl, rfl, rfl, rfl, rfl, rfl, rfl⟩ ?_
  rintro k t w ⟨i, dn, n, q, h, d, S, D, hk, hi, hdn, hdf, rfl, hd, hn, hmq, hlo, hDs, hDc, hDf, hDo, hDl, ht, h0, h1', h5, h7, h8⟩
  obtain ⟨g, rfl⟩ : ∃ g : Nat → Value, t = [g 0, g 1, g 2, g 3, g 4, g 5, g 6, g 7, g 8, g 9, g 10, g 11, g 12, g 13, g 14, g 15, g 16, g 17, g 18, g 19, g 20, g 21, g 22, g 23, g 24, g 25, g 26, g 27, g 28, g 29, g 30, g 31, g 32, g 33, g 34, g 35, g 36, g 37, g 38, g 39, g 40, g 41, g 42, g 43, g 44, g 45, g 46, g 47, g 48, g 49, g 50, g 51, g 52, g 53, g 54, g 55, g 56, g 57, g 58, g 59, g 60, g 61, g 62, g 63, g 64, g 65, g 66, g 67, g 68, g 69, g 70, g 71, g 72, g 73, g 74, g 75, g 76, g 77, g 78, g 79, g 80, g 81, g 82, g 83, g 84, g 85, g 86, g 87, g 88, g 89, g 90, g 91, g 92, g 93, g 94, g 95] := ⟨getT t, expand ht⟩
  simp only [getT_zero, getT_succ] at h0 h1' h5 h7 h8
  obtain ⟨pv, fs, hb, hpd, hfl, hrep⟩ := hd.st
  have hbn := hd.lt.1
  by_cases hlt : i < xs.length
  · obtain ⟨e, hqb, hqn⟩ := hq (by omega)
    cases e
    have hqb2 := hlo b hqn
    rw [hqb] at hqb2
    have hxi : xs[i]? = some xs[i] := List.getElem?_eq_getElem hlt
    have hx1 := hxs xs[i] (List.getElem_mem hlt)
    obtain ⟨x, hx⟩ : ∃ x, x = xs[i] := ⟨_, rfl⟩
    rw [← hx] at hxi hx1
    have h20 : 0 ≤ x.tmod 20 ∧ x.tmod 20 < 20 := by rw [Int.tmod_eq_emod_of_nonneg hx1.1]; omega
    have t128 := times12 [122] 128 (by omega) (by simp)
    rw [show ((128 : Nat) : Int) = 128 by rfl] at t128
    simp -dsimp (maxSteps := 4000000) (disch := first | omega | assumption | (simp only [FB, Nat.reduceAdd]; done) | (simp only [LB]; omega)) only [WB, Nat.reduceSub, Nat.reduceAdd, Int.reduceEq, Int.reduceNe, Int.reduceLT, Int.reduceLE, Int.reduceAdd, Int.reduceSub, Int.reduceMul, Int.reduceNeg, Int.reduceToNat, Nat.reduceEqDiff, Nat.reduceLT, Nat.reduceLeDiff, Nat.reduceMul, List.replicate, reduceCtorEq, op_len und9 rfl, h0, h1', h5, h7, h8, show ((i : Int) < xs.length) by omega, image18 hb, op_len und43 rfl]
    refine code_draw [(0, 1), (0, 2), (0, 3), (0, 4), (0, 5), (0, 6), (1, 2), (1, 6), (2, 6), (3, 6), (4, 6), (5, 6)] (by decide +kernel) (by decide +kernel) ?_
    simp -dsimp (maxSteps := 4000000) (disch := first | omega | assumption | (simp only [FB, Nat.reduceAdd]; done) | (simp only [LB]; omega)) only [WB, Nat.reduceSub, Nat.reduceAdd, Int.reduceEq, Int.reduceNe, Int.reduceLT, Int.reduceLE, Int.reduceAdd, Int.reduceSub, Int.reduceMul, Int.reduceNeg, Int.reduceToNat, Nat.reduceEqDiff, Nat.reduceLT, Nat.reduceLeDiff, Nat.reduceMul, List.replicate, reduceCtorEq, RB, Nat.reduceEqDiff, op_len und9 rfl, h0, h1', h5, h7, h8, indexAddr_slice und43 size31, load_one agg31, hqb2, List.getElem?_map, hxi, t128, wrapu32]
    have hd' : DevS h (n + 1) a.next q S D := hd.more (by omega) (fun j hj => rfl) (fun j hj => hj) (fun j hj => .inl hj)
    refine write13 D (rep 128 [122]) (x.tmod 20) (by omega) hDs (by rw [rep_len]; rfl) (by omega) (by omega) (by omega) hd' _ ?_ ?_
    · intro hf0
      simp -dsimp (maxSteps := 4000000) (disch := first | omega | assumption | (simp only [FB, Nat.reduceAdd]; done) | (simp only [LB]; omega)) only [WB, Nat.reduceSub, Nat.reduceAdd, Int.reduceEq, Int.reduceNe, Int.reduceLT, Int.reduceLE, Int.reduceAdd, Int.reduceSub, Int.reduceMul, Int.reduceNeg, Int.reduceToNat, Nat.reduceEqDiff, Nat.reduceLT, Nat.reduceLeDiff, Nat.reduceMul, List.replicate, reduceCtorEq, RB, Nat.reduceEqDiff, op_len und9 rfl, bin_neq_bool und4, wrap64, show ¬ (dn : Int) < fu by omega, image18 hb]
      exact ⟨xs.length - (i + 1), by omega, i + 1, dn, n + 1, q, h, d, S, D, rfl, by omega, by omega, hdf, rfl, hd', by omega, hmq, hlo, hDs, hDc, hDf, hDo, hDl, rfl, (by first | trivial | rfl | omega)⟩
    · intro hf0 n' h' q' d' S' hsd hq' hS' hn' hd2 hout
      simp -dsimp (maxSteps := 4000000) (disch := first | omega | assumption | (simp only [FB, Nat.reduceAdd]; done) | (simp only [LB]; omega)) only [WB, Nat.reduceSub, Nat.reduceAdd, Int.reduceEq, Int.reduceNe, Int.reduceLT, Int.reduceLE, Int.reduceAdd, Int.reduceSub, Int.reduceMul, Int.reduceNeg, Int.reduceToNat, Nat.reduceEqDiff, Nat.reduceLT, Nat.reduceLeDiff, Nat.reduceMul, List.replicate, reduceCtorEq, RB, Nat.reduceEqDiff, op_len und9 rfl, bin_neq_bool und4, wrap64, show (dn : Int) < fu by omega]
      refine ⟨xs.length - (i + 1), by omega, i + 1, dn + 1, n', q', h', _, S', _, rfl, by omega, by omega, by omega, rfl, hd2, by omega, by omega, fun j hj => ?_, hDs, hDc, ?_, ?_, ?_, ?_⟩
      · rw [hout j (by omega) (by omega) (by omega), hlo j hj]
      · simp only; rw [if_pos (by omega)]; omega
      · simp only; omega
      · simp only [List.length_append, hDl]; rfl
      · exact ⟨(by first | trivial | rfl | omega), (by first | trivial | rfl | omega)⟩
  · obtain ⟨pp, cc, rfl⟩ : ∃ pp cc, pv = .slice pp fs.length cc := by
      rcases hpd with ⟨rfl, rfl⟩ | ⟨rfl, _⟩
      · exact ⟨none, 0, rfl⟩
      · exact ⟨_, _, rfl⟩
    have hfd : ((fs.length : Nat) : Int) = dn := by omega
    simp -dsimp (maxSteps := 4000000) (disch := first | omega | assumption | (simp only [FB, Nat.reduceAdd]; done) | (simp only [LB]; omega)) only [WB, Nat.reduceSub, Nat.reduceAdd, Int.reduceEq, Int.reduceNe, Int.reduceLT, Int.reduceLE, Int.reduceAdd, Int.reduceSub, Int.reduceMul, Int.reduceNeg, Int.reduceToNat, Nat.reduceEqDiff, Nat.reduceLT, Nat.reduceLeDiff, Nat.reduceMul, List.replicate, reduceCtorEq, op_len und9 rfl, h0, h1', h5, h7, h8, show ¬ ((i : Int) < xs.length) by omega, ops24 hb, eq_self, hDo, hfd, pending21 hb, op_len und43 rfl]
    obtain ⟨pv2, fs2, hfl2, hpv2, hb2, hdz⟩ := hd.fuse (-1) (by omega)
    rw [fuse23 _ hb2 hbn, soilW_own (Nat.le_refl _)]
    generalize putAt a.next _ _ = h2 at hdz ⊢
    simp -dsimp (maxSteps := 4000000) (disch := first | omega | assumption | (simp only [FB, Nat.reduceAdd]; done) | (simp only [LB]; omega)) only [WB, Nat.reduceSub, Nat.reduceAdd, Int.reduceEq, Int.reduceNe, Int.reduceLT, Int.reduceLE, Int.reduceAdd, Int.reduceSub, Int.reduceMul, Int.reduceNeg, Int.reduceToNat, Nat.reduceEqDiff, Nat.reduceLT, Nat.reduceLeDiff, Nat.reduceMul, List.replicate, reduceCtorEq, op_len und9 rfl, ]
    refine sync22 _ (by simp only; omega) hdz _ (fun h => by simp at h) ?_
    intro _ h3 d3 hsd3 hd3 hout3
    obtain ⟨pv3, fs3, hb3, hpd3, hfl3, hrep3⟩ := hd3.st
    simp only at hb3
    simp -dsimp (maxSteps := 4000000) (disch := first | omega | assumption | (simp only [FB, Nat.reduceAdd]; done) | (simp only [LB]; omega)) only [WB, Nat.reduceSub, Nat.reduceAdd, Int.reduceEq, Int.reduceNe, Int.reduceLT, Int.reduceLE, Int.reduceAdd, Int.reduceSub, Int.reduceMul, Int.reduceNeg, Int.reduceToNat, Nat.reduceEqDiff, Nat.reduceLT, Nat.reduceLeDiff, Nat.reduceMul, List.replicate, reduceCtorEq, op_len und9 rfl, image18 hb3, durable19 hb3, ops24 hb3, eq_self, wrap64, hDo, leave_fst flat_bool, one_one]
end Go.Proofs.YtgdmgolmeeigdaaAM
