/- Chapter 3: DeviceWhole answers true. -/
import Derived.Test.YtgdmgolmeeigdaaD12
namespace Go.Proofs.YtgdmgolmeeigdaaAM
open Go Go.RowKit
set_option linter.unusedVariables false
set_option linter.unusedSimpArgs false
set_option maxRecDepth 10000
set_option maxHeartbeats 4000000

theorem law3 (pages : Int) (hpg : -9223372036854775808 ≤ pages) (v u : Value) (xs ks : List Int) (hxs : ∀ x ∈ xs, -9223372036854775808 ≤ x ∧ x ≤ 9223372036854775807) (hks : ∀ x ∈ ks, -9223372036854775808 ≤ x ∧ x ≤ 9223372036854775807) (a : AW) (m : Nat) (ham : a.next = m + 1) (hv : ListV encI a.heap m v xs) (hu : ListV encI a.heap m u ks) :
    WCall Try.prog GV 3 [.int .i64 pages, v, u] a fun v _ => v = .bool true := by
  rw [call_env Try.func3 rfl Try.ntmps3 rfl rfl (by simp)]
  obtain ⟨p, cp, rfl⟩ := hv.len
  obtain ⟨pu, cu, rfl⟩ := hu.len
  obtain ⟨P, hP, hP2⟩ : ∃ m : Nat, pick pages 10 = m ∧ m < 10 := by
    have h1 := Int.emod_nonneg pages (show (10 : Int) ≠ 0 by omega)
    have h2 := Int.emod_lt_of_pos pages (show (0 : Int) < 10 by omega)
    exact ⟨(pick pages 10).toNat, by unfold pick; omega, by unfold pick; omega⟩
  by_cases hl : (20 : Int) < xs.length
  · simp -dsimp (maxSteps := 4000000) (disch := first | omega | assumption | (simp only [FB, Nat.reduceAdd]; done) | (simp only [LB]; omega)) only [EB, ↓reduceIte, WB, Nat.reduceSub, Nat.reduceAdd, Int.reduceEq, Int.reduceNe, Int.reduceLT, Int.reduceLE, Int.reduceAdd, Int.reduceSub, Int.reduceMul, Int.reduceNeg, Int.reduceToNat, Nat.reduceEqDiff, Nat.reduceLT, Nat.reduceLeDiff, Nat.reduceMul, List.replicate, reduceCtorEq, op_len und9 rfl, lives9, hl, op_len und22 rfl, pick10, hP, wrap64]
  by_cases hl2 : (100 : Int) < ks.length
  · simp -dsimp (maxSteps := 4000000) (disch := first | omega | assumption | (simp only [FB, Nat.reduceAdd]; done) | (simp only [LB]; omega)) only [EB, ↓reduceIte, WB, Nat.reduceSub, Nat.reduceAdd, Int.reduceEq, Int.reduceNe, Int.reduceLT, Int.reduceLE, Int.reduceAdd, Int.reduceSub, Int.reduceMul, Int.reduceNeg, Int.reduceToNat, Nat.reduceEqDiff, Nat.reduceLT, Nat.reduceLeDiff, Nat.reduceMul, List.replicate, reduceCtorEq, op_len und9 rfl, lives9, hl, hl2, op_len und22 rfl, pick10, hP, wrap64]
  have t0 := times12 [46] (128 * (P + 2)) (by omega) (by simp)
  rw [show ((128 * (P + 2) : Nat) : Int) = 128 * (2 + (P : Int)) by omega] at t0
  have him : (rep (128 * (P + 2)) [46]).length = 128 * (P + 2) := by rw [rep_len]; simp
  have hnew := new11 (rep (128 * (P + 2)) [46]) (by omega) 12 (by omega) (by rw [him]; omega)
  simp -dsimp (maxSteps := 4000000) (disch := first | omega | assumption | (simp only [FB, Nat.reduceAdd]; done) | (simp only [LB]; omega)) only [EB, ↓reduceIte, WB, Nat.reduceSub, Nat.reduceAdd, Int.reduceEq, Int.reduceNe, Int.reduceLT, Int.reduceLE, Int.reduceAdd, Int.reduceSub, Int.reduceMul, Int.reduceNeg, Int.reduceToNat, Nat.reduceEqDiff, Nat.reduceLT, Nat.reduceLeDiff, Nat.reduceMul, List.replicate, reduceCtorEq, op_len und9 rfl, lives9, hl, hl2, op_len und22 rfl, pick10, hP, wrap64, t0, hnew, neq25, eql25]
  have hbig : (rep (128 * (P + 2)) [46]).length ≤ 1000000 := by omega
  have hpk : ∀ x ∈ xs, 0 ≤ pick x 12 ∧ pick x 12 < 12 := by
    intro x hx
    have h1 := Int.emod_nonneg x (show (12 : Int) ≠ 0 by omega)
    have h2 := Int.emod_lt_of_pos x (show (0 : Int) < 12 by omega)
    exact ⟨by unfold pick; omega, by unfold pick; omega⟩
  have hd0 := dev_new ((a.next, .cells (devC 128 12 (rep (128 * (P + 2)) [46]) (rep (128 * (P + 2)) [46]) (.slice none 0 0) (-1) 0) true) :: a.heap) (a.next + 1) a.next m 12 (rep (128 * (P + 2)) [46]) hbig look_self (by omega) (by omega) (by omega)
  have hk0 : ∀ j, j < m → look j ((a.next, Blk.cells (devC 128 12 (rep (128 * (P + 2)) [46]) (rep (128 * (P + 2)) [46]) (.slice none 0 0) (-1) 0) true) :: a.heap) = look j a.heap := fun j hj => look_miss (by omega)
  have hI : rep (128 * (P + 2)) [46] = ex (List.replicate (P + 2) 46) := by rw [ex_rep, rep_one]
  generalize rep (128 * (P + 2)) [46] = I0 at *
  refine loop_inv (fun k t w => ∃ i n q : Nat, ∃ h d S im, ∃ e : Nat → Value, k = xs.length - i ∧ i ≤ xs.length ∧ w = ⟨n, h, a.next, d⟩ ∧ DevS h n a.next q S ⟨128, 12, im, I0, (opsF 0 xs).take i, -1, i⟩ ∧ a.next < n ∧ m ≤ q ∧ (∀ j, j < m → look j h = look j a.heap) ∧
    t = TT 117 e ∧ e 0 = .int .i64 (2 + P) ∧ e 1 = .slice p xs.length cp ∧ e 2 = .slice pu ks.length cu ∧ e 7 = .pointer (some ⟨a.next, 0, none⟩) ∧ e 9 = .int .i64 i) ⟨0, _, m, _, [], _, I0, _, rfl, by omega, rfl, hd0, by omega, by omega, hk0, rfl, rfl, rfl, rfl, rfl, rfl⟩ ?_
  rintro k t w ⟨i, n, q, h, d, S, im, e, hk, hi, rfl, hd, hn, hmq, hlo, rfl, h0, h1, h2, h7, h9⟩
  have hbn := hd.lt.1
  have hvw : ListV encI h m (.slice p xs.length cp) xs := hv.keep (Nat.le_refl _) hlo
  have huw : ListV encI h m (.slice pu ks.length cu) ks := hu.keep (Nat.le_refl _) hlo
  by_cases hlt : i < xs.length
  · obtain ⟨b, sp, cap, rw, q1, hqb, hqn⟩ := hvw.at hlt
    rw [flat_encI] at hqb
    have hxi : xs[i]? = some xs[i] := List.getElem?_eq_getElem hlt
    have hx1 := hpk xs[i] (List.getElem_mem hlt)
    have hxb := hxs xs[i] (List.getElem_mem hlt)
    obtain ⟨x, hx⟩ : ∃ x, x = xs[i] := ⟨_, rfl⟩
    rw [← hx] at hxi hx1 hxb
    obtain ⟨pn, hpn⟩ : ∃ pn : Nat, pick x 12 = pn := ⟨(pick x 12).toNat, by omega⟩
    have t128 := times12 [letter i] 128 (by omega) (by simp)
    rw [show ((128 : Nat) : Int) = 128 by rfl] at t128
    have hlet := letters i (by omega)
    simp -dsimp (maxSteps := 4000000) (disch := first | omega | assumption | (simp only [FB, Nat.reduceAdd]; done) | (simp only [LB]; omega)) only [EB, ↓reduceIte, WB, Nat.reduceSub, Nat.reduceAdd, Int.reduceEq, Int.reduceNe, Int.reduceLT, Int.reduceLE, Int.reduceAdd, Int.reduceSub, Int.reduceMul, Int.reduceNeg, Int.reduceToNat, Nat.reduceEqDiff, Nat.reduceLT, Nat.reduceLeDiff, Nat.reduceMul, List.replicate, reduceCtorEq, op_len und9 rfl, h0, h1, h2, h7, h9, show ((i : Int) < xs.length) by omega, op_len und22 rfl]
    refine code_draw [(0, 1), (0, 2), (0, 3), (0, 4), (0, 5), (0, 6), (0, 7), (0, 8), (0, 9), (0, 10), (0, 11), (1, 2), (1, 7), (1, 8), (1, 9), (1, 10), (2, 7), (2, 8), (2, 9), (2, 10), (3, 7), (3, 8), (3, 9), (3, 10), (4, 7), (4, 8), (4, 9), (4, 10), (5, 7), (5, 8), (5, 9), (5, 10), (6, 7), (6, 8), (6, 9), (6, 10), (6, 11), (7, 8), (7, 9)] (by decide +kernel) (by decide +kernel) ?_
    simp -dsimp (maxSteps := 4000000) (disch := first | omega | assumption | (simp only [FB, Nat.reduceAdd]; done) | (simp only [LB]; omega)) only [EB, ↓reduceIte, WB, Nat.reduceSub, Nat.reduceAdd, Int.reduceEq, Int.reduceNe, Int.reduceLT, Int.reduceLE, Int.reduceAdd, Int.reduceSub, Int.reduceMul, Int.reduceNeg, Int.reduceToNat, Nat.reduceEqDiff, Nat.reduceLT, Nat.reduceLeDiff, Nat.reduceMul, List.replicate, reduceCtorEq, RB, Nat.reduceEqDiff, op_len und9 rfl, h0, h1, h2, h7, h9, q1, indexAddr_slice und22 size3, load_one agg3, hqb, List.getElem?_map, hxi, pick10, hpn, note_convI und3 und31, op_conv_int und3 und31, conv_int und3 und31, wrapu32, wrap64, slice_str_both und9, show ((i : Int) + 1).toNat = i + 1 by omega, hlet, t128]
    have hd' := hd.more (h' := h) (n' := n + 1) (S' := S) (by omega) (fun j hj => rfl) (fun j hj => hj) (fun j hj => .inl hj)
    have hol : ((opsF 0 xs).take i).length < 100000 := by rw [List.length_take, opsF_len]; omega
    refine write13 _ (rep 128 [letter i]) pn (by omega) rfl (by rw [rep_len]; rfl) (by simp only; omega) (by simp only; omega) hol hd' _ (fun h => by simp at h) ?_
    intro _ n' h' q' d' S' hsd hq' hS' hn' hd2 hout
    have hd3 : DevS h' n' a.next q' S' ⟨128, 12, (DOp.wr (128 * pn) (rep 128 [letter i])).act im, I0, (opsF 0 xs).take (i + 1), -1, ((i + 1 : Nat) : Int)⟩ := by
      rw [opsF_take hxi]; unfold wrOp; rw [hpn]; exact hd2
    simp -dsimp (maxSteps := 4000000) (disch := first | omega | assumption | (simp only [FB, Nat.reduceAdd]; done) | (simp only [LB]; omega)) only [EB, ↓reduceIte, WB, Nat.reduceSub, Nat.reduceAdd, Int.reduceEq, Int.reduceNe, Int.reduceLT, Int.reduceLE, Int.reduceAdd, Int.reduceSub, Int.reduceMul, Int.reduceNeg, Int.reduceToNat, Nat.reduceEqDiff, Nat.reduceLT, Nat.reduceLeDiff, Nat.reduceMul, List.replicate, reduceCtorEq, RB, Nat.reduceEqDiff, op_len und9 rfl, h9, wrap64]
    refine ⟨xs.length - (i + 1), by omega, i + 1, n', q', h', _, S', _, _, rfl, by omega, rfl, hd3, by omega, by omega, fun j hj => ?_, rfl, ?_⟩
    · rw [hout j (by omega) (by omega) (by omega), hlo j hj]
    · simp only [ups_at, ↓reduceIte, Nat.reduceEqDiff]; exact ⟨h0, h1, h2, h7, rfl⟩
  · simp -dsimp (maxSteps := 4000000) (disch := first | omega | assumption | (simp only [FB, Nat.reduceAdd]; done) | (simp only [LB]; omega)) only [EB, ↓reduceIte, WB, Nat.reduceSub, Nat.reduceAdd, Int.reduceEq, Int.reduceNe, Int.reduceLT, Int.reduceLE, Int.reduceAdd, Int.reduceSub, Int.reduceMul, Int.reduceNeg, Int.reduceToNat, Nat.reduceEqDiff, Nat.reduceLT, Nat.reduceLeDiff, Nat.reduceMul, List.replicate, reduceCtorEq, op_len und9 rfl, h0, h1, h2, h7, h9, show ¬ ((i : Int) < xs.length) by omega, op_len und22 rfl]
    have hi2 : i = xs.length := by omega
    subst hi2
    rw [List.take_of_length_le (by rw [opsF_len]; omega)] at hd
    refine own15 _ ks (by omega) (huw.keep (by omega) fun j hj => rfl) _ ?_
    intro v2 n2 h2' hv2 hn2 hk2
    have hd2 : DevS h2' n2 a.next q S _ := hd.more hn2 hk2 (fun j hj => hj) (fun j hj => .inl hj)
    simp -dsimp (maxSteps := 4000000) (disch := first | omega | assumption | (simp only [FB, Nat.reduceAdd]; done) | (simp only [LB]; omega)) only [EB, ↓reduceIte, WB, Nat.reduceSub, Nat.reduceAdd, Int.reduceEq, Int.reduceNe, Int.reduceLT, Int.reduceLE, Int.reduceAdd, Int.reduceSub, Int.reduceMul, Int.reduceNeg, Int.reduceToNat, Nat.reduceEqDiff, Nat.reduceLT, Nat.reduceLeDiff, Nat.reduceMul, List.replicate, reduceCtorEq, op_len und9 rfl, h7]
    refine crash14 _ ks v2 (by omega) (by simp only [opsF_len]; omega) hd2 hv2 _ ?_
    intro h3 hd3 hk3
    rw [soilW_own (Nat.le_refl _)]
    simp only at hd3
    simp -dsimp (maxSteps := 4000000) (disch := first | omega | assumption | (simp only [FB, Nat.reduceAdd]; done) | (simp only [LB]; omega)) only [EB, ↓reduceIte, WB, Nat.reduceSub, Nat.reduceAdd, Int.reduceEq, Int.reduceNe, Int.reduceLT, Int.reduceLE, Int.reduceAdd, Int.reduceSub, Int.reduceMul, Int.reduceNeg, Int.reduceToNat, Nat.reduceEqDiff, Nat.reduceLT, Nat.reduceLeDiff, Nat.reduceMul, List.replicate, reduceCtorEq, op_len und9 rfl, ]
    rw [hI, crash_ex] at hd3
    obtain ⟨T, hT⟩ : ∃ T, T = crashS ks 0 xs (List.replicate (P + 2) 46) := ⟨_, rfl⟩
    have hTl : T.length ≤ 12 := by rw [hT]; exact crashS_len ks 0 xs _ (by rw [List.length_replicate]; omega) (fun x hx => by have := hpk x hx; omega)
    have hsg : ∀ nn : Nat, T.getD nn 0 = signF ks nn 0 xs (if nn < P + 2 then 46 else 0) := by
      intro nn
      rw [hT, crash_sign ks nn 0 xs _ (fun x hx => (hpk x hx).1)]
      congr 1
      simp only [List.getD, List.getElem?_replicate]
      split <;> rfl
    rw [← hT] at hd3
    have hxl := ex_len T
    obtain ⟨pv3, fs3, hb3, -, hfl3, -⟩ := hd3.st
    simp only at hb3
    have hbn3 := hd3.lt.1
    have hlo3 : ∀ j, j < m → look j h3 = look j a.heap := fun j hj => by rw [hk3 j (by omega), hk2 j (by omega), hlo j hj]
    clear hd3 hd2 hd hd0
    refine loop_inv (fun k t w => ∃ nn n4 : Nat, ∃ h4, ∃ e : Nat → Value, k = T.length - nn ∧ nn ≤ T.length ∧ w = ⟨n4, h4, a.next, d⟩ ∧ look a.next h4 = some (.cells (devC 128 12 (ex T) (ex T) pv3 (-1) xs.length) true) ∧ a.next < n4 ∧ (∀ j, j < m → look j h4 = look j a.heap) ∧
      t = TT 117 e ∧ e 0 = .int .i64 (2 + P) ∧ e 1 = .slice p xs.length cp ∧ e 2 = .slice pu ks.length cu ∧ e 7 = .pointer (some ⟨a.next, 0, none⟩) ∧ e 10 = .int .i64 nn) ⟨0, n2, h3, _, rfl, by omega, rfl, hb3, hbn3, hlo3, rfl, by simp only [ups_at, ↓reduceIte, Nat.reduceEqDiff]; exact ⟨h0, h1, h2, h7, rfl⟩⟩ ?_
    rintro k t w ⟨nn, n4, h4, e, hk, hi, rfl, hb4, hn4, hlo4, rfl, h0, h1, h2, h7, h10⟩
    have hpg := fun K => pages16 (K := K) (n := n4) (bs := a.next) (d := d) (by omega) hb4 hn4
    have hdv : 128 * T.length / 128 = T.length := by omega
    simp only [hxl, hdv] at hpg
    have hvw4 : ListV encI h4 n4 (.slice p xs.length cp) xs := hv.keep (by omega) hlo4
    have huw4 : ListV encI h4 n4 (.slice pu ks.length cu) ks := hu.keep (by omega) hlo4
    by_cases hlt : nn < T.length
    · have hrd := fun K => read17 (K := K) (n := n4) (bs := a.next) (d := d) (nn : Int) (by omega) (by omega) hb4 hn4
      simp only [hxl, hdv, Int.toNat_natCast, ex_page T nn hlt, show (nn : Int) < T.length by omega, if_true] at hrd
      have t128 := times12 [T.getD nn 0] 128 (by omega) (by simp)
      rw [show ((128 : Nat) : Int) = 128 by rfl, rep_one] at t128
      have hs0 := hsg nn
      by_cases hp2 : (nn : Int) < 2 + P
      · rw [if_pos (by omega)] at hs0
        simp -dsimp (maxSteps := 4000000) (disch := first | omega | assumption | (simp only [FB, Nat.reduceAdd]; done) | (simp only [LB]; omega)) only [EB, ↓reduceIte, WB, Nat.reduceSub, Nat.reduceAdd, Int.reduceEq, Int.reduceNe, Int.reduceLT, Int.reduceLE, Int.reduceAdd, Int.reduceSub, Int.reduceMul, Int.reduceNeg, Int.reduceToNat, Nat.reduceEqDiff, Nat.reduceLT, Nat.reduceLeDiff, Nat.reduceMul, List.replicate, reduceCtorEq, op_len und9 rfl, h0, h1, h2, h7, h10, hpg, show ((nn : Int) < T.length) by omega, op_conv_int und3 und31, conv_int und3 und31, wrapu32, hrd, hp2]
        refine loopI xs ks (by omega) nn (by omega) (fun x hx => (hxs x hx).1) 46 hvw4 huw4 _ (by simp only [ups_at, ↓reduceIte, Nat.reduceEqDiff]; exact h1) (by simp only [ups_at, ↓reduceIte, Nat.reduceEqDiff]; exact h2) (by simp only [ups_at, ↓reduceIte, Nat.reduceEqDiff]; exact h10) (by simp only [ups_at, ↓reduceIte, Nat.reduceEqDiff]; rfl) (by simp only [ups_at, ↓reduceIte, Nat.reduceEqDiff]) _ fun e2 ge g13 => ?_
        rw [← hs0] at g13
        have g0 := ge 0 (by omega)
        have g1 := ge 1 (by omega)
        have g2 := ge 2 (by omega)
        have g7 := ge 7 (by omega)
        have g10 := ge 10 (by omega)
        have g11 := ge 11 (by omega)
        simp only [ups_at, ↓reduceIte, Nat.reduceEqDiff, h0, h1, h2, h7, h10] at g0 g1 g2 g7 g10 g11
        simp -dsimp (maxSteps := 4000000) (disch := first | omega | assumption | (simp only [FB, Nat.reduceAdd]; done) | (simp only [LB]; omega)) only [EB, ↓reduceIte, WB, Nat.reduceSub, Nat.reduceAdd, Int.reduceEq, Int.reduceNe, Int.reduceLT, Int.reduceLE, Int.reduceAdd, Int.reduceSub, Int.reduceMul, Int.reduceNeg, Int.reduceToNat, Nat.reduceEqDiff, Nat.reduceLT, Nat.reduceLeDiff, Nat.reduceMul, List.replicate, reduceCtorEq, op_len und9 rfl, g0, g1, g2, g7, g10, g11, g13, buildSl1 sl37, op_ofBytes und37 und9 und5]
        rw [readBytes_at (l := [T.getD nn 0]) (rw := true) (by simp only [get_mk, look_self]; rfl) (by simp)]
        simp -dsimp (maxSteps := 4000000) (disch := first | omega | assumption | (simp only [FB, Nat.reduceAdd]; done) | (simp only [LB]; omega)) only [EB, ↓reduceIte, WB, Nat.reduceSub, Nat.reduceAdd, Int.reduceEq, Int.reduceNe, Int.reduceLT, Int.reduceLE, Int.reduceAdd, Int.reduceSub, Int.reduceMul, Int.reduceNeg, Int.reduceToNat, Nat.reduceEqDiff, Nat.reduceLT, Nat.reduceLeDiff, Nat.reduceMul, List.replicate, reduceCtorEq, op_len und9 rfl, t128, eq_self, g10, wrap64]
        refine ⟨trivial, T.length - (nn + 1), by omega, nn + 1, n4 + 1, _, _, rfl, by omega, rfl, ?_, by omega, fun j hj => ?_, rfl, ?_⟩
        · rw [look_miss (by omega)]; exact hb4
        · rw [look_miss (by omega), hlo4 j hj]
        · simp only [ups_at, ↓reduceIte, Nat.reduceEqDiff]; exact ⟨g0, g1, g2, g7, rfl⟩
      · rw [if_neg (by omega)] at hs0
        simp -dsimp (maxSteps := 4000000) (disch := first | omega | assumption | (simp only [FB, Nat.reduceAdd]; done) | (simp only [LB]; omega)) only [EB, ↓reduceIte, WB, Nat.reduceSub, Nat.reduceAdd, Int.reduceEq, Int.reduceNe, Int.reduceLT, Int.reduceLE, Int.reduceAdd, Int.reduceSub, Int.reduceMul, Int.reduceNeg, Int.reduceToNat, Nat.reduceEqDiff, Nat.reduceLT, Nat.reduceLeDiff, Nat.reduceMul, List.replicate, reduceCtorEq, op_len und9 rfl, h0, h1, h2, h7, h10, hpg, show ((nn : Int) < T.length) by omega, op_conv_int und3 und31, conv_int und3 und31, wrapu32, hrd, hp2]
        refine loopI xs ks (by omega) nn (by omega) (fun x hx => (hxs x hx).1) 0 hvw4 huw4 _ (by simp only [ups_at, ↓reduceIte, Nat.reduceEqDiff]; exact h1) (by simp only [ups_at, ↓reduceIte, Nat.reduceEqDiff]; exact h2) (by simp only [ups_at, ↓reduceIte, Nat.reduceEqDiff]; exact h10) (by simp only [ups_at, ↓reduceIte, Nat.reduceEqDiff]; rfl) (by simp only [ups_at, ↓reduceIte, Nat.reduceEqDiff]) _ fun e2 ge g13 => ?_
        rw [← hs0] at g13
        have g0 := ge 0 (by omega)
        have g1 := ge 1 (by omega)
        have g2 := ge 2 (by omega)
        have g7 := ge 7 (by omega)
        have g10 := ge 10 (by omega)
        have g11 := ge 11 (by omega)
        simp only [ups_at, ↓reduceIte, Nat.reduceEqDiff, h0, h1, h2, h7, h10] at g0 g1 g2 g7 g10 g11
        simp -dsimp (maxSteps := 4000000) (disch := first | omega | assumption | (simp only [FB, Nat.reduceAdd]; done) | (simp only [LB]; omega)) only [EB, ↓reduceIte, WB, Nat.reduceSub, Nat.reduceAdd, Int.reduceEq, Int.reduceNe, Int.reduceLT, Int.reduceLE, Int.reduceAdd, Int.reduceSub, Int.reduceMul, Int.reduceNeg, Int.reduceToNat, Nat.reduceEqDiff, Nat.reduceLT, Nat.reduceLeDiff, Nat.reduceMul, List.replicate, reduceCtorEq, op_len und9 rfl, g0, g1, g2, g7, g10, g11, g13, buildSl1 sl37, op_ofBytes und37 und9 und5]
        rw [readBytes_at (l := [T.getD nn 0]) (rw := true) (by simp only [get_mk, look_self]; rfl) (by simp)]
        simp -dsimp (maxSteps := 4000000) (disch := first | omega | assumption | (simp only [FB, Nat.reduceAdd]; done) | (simp only [LB]; omega)) only [EB, ↓reduceIte, WB, Nat.reduceSub, Nat.reduceAdd, Int.reduceEq, Int.reduceNe, Int.reduceLT, Int.reduceLE, Int.reduceAdd, Int.reduceSub, Int.reduceMul, Int.reduceNeg, Int.reduceToNat, Nat.reduceEqDiff, Nat.reduceLT, Nat.reduceLeDiff, Nat.reduceMul, List.replicate, reduceCtorEq, op_len und9 rfl, t128, eq_self, g10, wrap64]
        refine ⟨trivial, T.length - (nn + 1), by omega, nn + 1, n4 + 1, _, _, rfl, by omega, rfl, ?_, by omega, fun j hj => ?_, rfl, ?_⟩
        · rw [look_miss (by omega)]; exact hb4
        · rw [look_miss (by omega), hlo4 j hj]
        · simp only [ups_at, ↓reduceIte, Nat.reduceEqDiff]; exact ⟨g0, g1, g2, g7, rfl⟩
    · simp -dsimp (maxSteps := 4000000) (disch := first | omega | assumption | (simp only [FB, Nat.reduceAdd]; done) | (simp only [LB]; omega)) only [EB, ↓reduceIte, WB, Nat.reduceSub, Nat.reduceAdd, Int.reduceEq, Int.reduceNe, Int.reduceLT, Int.reduceLE, Int.reduceAdd, Int.reduceSub, Int.reduceMul, Int.reduceNeg, Int.reduceToNat, Nat.reduceEqDiff, Nat.reduceLT, Nat.reduceLeDiff, Nat.reduceMul, List.replicate, reduceCtorEq, op_len und9 rfl, h0, h1, h2, h7, h10, hpg, show ¬ ((nn : Int) < T.length) by omega, leave_fst flat_bool]
end Go.Proofs.YtgdmgolmeeigdaaAM
