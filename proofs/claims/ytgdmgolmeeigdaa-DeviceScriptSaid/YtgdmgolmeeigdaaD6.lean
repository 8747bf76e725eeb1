/- Chapter 3: DeviceGrows answers true. -/
import Derived.Test.YtgdmgolmeeigdaaD5
namespace Go.Proofs.YtgdmgolmeeigdaaAM
open Go Go.RowKit
set_option linter.unusedVariables false
set_option linter.unusedSimpArgs false
set_option maxRecDepth 10000
set_option maxHeartbeats 4000000

theorem sl37 : slOk Try.prog 37 1 = true := by decide +kernel
theorem dev_new (h : List (Nat × Blk)) (n b q : Nat) (c : Int) (im : List UInt8) (him : im.length ≤ 1000000) (hb : look b h = some (.cells (devC 128 c im im (.slice none 0 0) (-1) 0) true)) (hbq : b ≠ q) (hbn : b < n) (hqn : q < n) : DevS h n b q (fun _ => False) ⟨128, c, im, im, [], -1, 0⟩ :=
  ⟨⟨_, [], hb, .inl ⟨rfl, rfl⟩, rfl, fun i fv o e => by simp at e⟩, hbq, fun h => h, fun h => h, ⟨hbn, hqn, fun j h => h.elim⟩, by simp only; omega, by simp only; omega, him, him, fun o h => by simp at h⟩
theorem rep_one (n : Nat) (x : UInt8) : rep n [x] = List.replicate n x := by
  induction n with
  | zero => rfl
  | succ n ih => rw [rep_succ, ih, List.replicate_succ]; rfl
theorem law4 (im : List UInt8) (page sign pages : Int) (hp : -9223372036854775808 ≤ page) (hs : 0 ≤ sign ∧ sign ≤ 255) (hp2 : -9223372036854775808 ≤ pages) (a : AW) :
    WCall Try.prog GV 4 [.string (mkStr im), .int .i64 page, .int .u8 sign, .int .i64 pages] a fun v _ => v = .bool true := by
  rw [call_body' Try.func4 rfl Try.ntmps4 rfl rfl]
  by_cases hl : (1500 : Int) < im.length
  · simp -dsimp (maxSteps := 4000000) (disch := first | omega | assumption | (simp only [FB, Nat.reduceAdd]; done) | (simp only [LB]; omega)) only [WB, Nat.reduceSub, Nat.reduceAdd, Int.reduceEq, Int.reduceNe, Int.reduceLT, Int.reduceLE, Int.reduceAdd, Int.reduceSub, Int.reduceMul, Int.reduceNeg, Int.reduceToNat, Nat.reduceEqDiff, Nat.reduceLT, Nat.reduceLeDiff, Nat.reduceMul, List.replicate, reduceCtorEq, op_len und9 rfl, lives9, hl]
  obtain ⟨bb, rfl⟩ : ∃ bb : UInt8, sign = (bb.toNat : Int) := ⟨UInt8.ofNat sign.toNat, by simp; omega⟩
  obtain ⟨pg, hpg, hpg2⟩ : ∃ m : Nat, pick page 20 = m ∧ m < 20 := by
    have h1 := Int.emod_nonneg page (show (20 : Int) ≠ 0 by omega)
    have h2 := Int.emod_lt_of_pos page (show (0 : Int) < 20 by omega)
    exact ⟨(pick page 20).toNat, by unfold pick; omega, by unfold pick; omega⟩
  obtain ⟨pn, hpn, hpn2⟩ : ∃ m : Nat, pick pages 21 = m ∧ m < 21 := by
    have h1 := Int.emod_nonneg pages (show (21 : Int) ≠ 0 by omega)
    have h2 := Int.emod_lt_of_pos pages (show (0 : Int) < 21 by omega)
    exact ⟨(pick pages 21).toNat, by unfold pick; omega, by unfold pick; omega⟩
  have t128 := times12 [bb] 128 (by omega) (by simp)
  rw [show ((128 : Nat) : Int) = 128 by rfl] at t128
  simp -dsimp (maxSteps := 4000000) (disch := first | omega | assumption | (simp only [FB, Nat.reduceAdd]; done) | (simp only [LB]; omega)) only [WB, Nat.reduceSub, Nat.reduceAdd, Int.reduceEq, Int.reduceNe, Int.reduceLT, Int.reduceLE, Int.reduceAdd, Int.reduceSub, Int.reduceMul, Int.reduceNeg, Int.reduceToNat, Nat.reduceEqDiff, Nat.reduceLT, Nat.reduceLeDiff, Nat.reduceMul, List.replicate, reduceCtorEq, op_len und9 rfl, lives9, hl, pick10, hpg, hpn, new11 im (by omega) 20 (by omega) (by omega), neq25, eql25, buildSl1 sl37, op_ofBytes und37 und9 und5]
  rw [readBytes_at (l := [bb]) (rw := true) (by simp only [get_mk, look_self]; rfl) (by simp)]
  simp -dsimp (maxSteps := 4000000) (disch := first | omega | assumption | (simp only [FB, Nat.reduceAdd]; done) | (simp only [LB]; omega)) only [WB, Nat.reduceSub, Nat.reduceAdd, Int.reduceEq, Int.reduceNe, Int.reduceLT, Int.reduceLE, Int.reduceAdd, Int.reduceSub, Int.reduceMul, Int.reduceNeg, Int.reduceToNat, Nat.reduceEqDiff, Nat.reduceLT, Nat.reduceLeDiff, Nat.reduceMul, List.replicate, reduceCtorEq, op_len und9 rfl, t128, op_conv_int und3 und31, conv_int und3 und31, wrapu32]
  have hbl : (rep 128 [bb]).length = 128 := by rw [rep_len]; rfl
  refine write13 ⟨128, 20, im, im, [], -1, 0⟩ (rep 128 [bb]) pg (by omega) rfl hbl (by simp only; omega) (by simp only; omega) (by simp) (dev_new _ _ a.next (a.next + 1) 20 im (by omega) (by simp -dsimp (maxSteps := 4000000) (disch := first | omega | assumption | (simp only [FB, Nat.reduceAdd]; done) | (simp only [LB]; omega)) only [WB, Nat.reduceSub, Nat.reduceAdd, Int.reduceEq, Int.reduceNe, Int.reduceLT, Int.reduceLE, Int.reduceAdd, Int.reduceSub, Int.reduceMul, Int.reduceNeg, Int.reduceToNat, Nat.reduceEqDiff, Nat.reduceLT, Nat.reduceLeDiff, Nat.reduceMul, List.replicate, reduceCtorEq, op_len und9 rfl, ]) (by omega) (by omega) (by omega)) _ (fun h => by simp at h) ?_
  intro _ n1 h1 q1 d1 S1 hsd hq1 hS1 hn1 hd1 hout1
  obtain rfl : d1 = [] := hsd.1 (by omega) (by omega)
  simp only [Int.toNat_natCast, List.nil_append] at hd1
  obtain ⟨pv, fs, hb, hpd, hfl, hrep⟩ := hd1.st
  have hb1n := hd1.lt.1
  simp only at hb
  have e3 : max 0 (128 * (pg : Int) + 128 - (im.length : Int)) = ((128 * pg + 128 - im.length : Nat) : Int) := by omega
  have tz := times12 [0] (128 * pg + 128 - im.length) (by omega) (by simp)
  have hG : im ++ rep (128 * pg + 128 - im.length) [0] = grow (128 * pg + 128) im := by rw [rep_one]; rfl
  have hGl := grow_len (128 * pg + 128) im
  have hl1 : im.length + (rep (128 * pg + 128 - im.length) [0]).length ≤ 140737488355328 := by rw [rep_len]; simp; omega
  obtain ⟨G, hGd⟩ : ∃ G, G = grow (128 * pg + 128) im := ⟨_, rfl⟩
  rw [← hGd] at hG hGl
  have hact : (DOp.wr (128 * pg) (rep 128 [bb])).act im = G.take (128 * pg) ++ rep 128 [bb] ++ G.drop (128 * pg + 128) := by
    show List.take (128 * pg) (grow (128 * pg + (rep 128 [bb]).length) im) ++ rep 128 [bb] ++ List.drop (128 * pg + (rep 128 [bb]).length) (grow (128 * pg + (rep 128 [bb]).length) im) = _
    rw [hbl, ← hGd]
  have hl2 : (G.take (128 * pg)).length + (rep 128 [bb]).length ≤ 140737488355328 := by rw [List.length_take]; omega
  have hl3 : (G.take (128 * pg) ++ rep 128 [bb]).length + (G.drop (128 * pg + 128)).length ≤ 140737488355328 := by rw [List.length_append, List.length_take, List.length_drop]; omega
  have n1e : (128 * (pg : Int)).toNat = 128 * pg := by omega
  have n2e : (128 * (pg : Int) + 128).toNat = 128 * pg + 128 := by omega
  rw [hact] at hb hd1
  obtain ⟨Wn, hW⟩ : ∃ W, W = G.take (128 * pg) ++ rep 128 [bb] ++ G.drop (128 * pg + 128) := ⟨_, rfl⟩
  have hWl : Wn.length = G.length := by rw [hW]; simp only [List.length_append, List.length_take, List.length_drop, hbl]; omega
  rw [← hW] at hb hd1
  simp -dsimp (maxSteps := 4000000) (disch := first | omega | assumption | (simp only [FB, Nat.reduceAdd]; done) | (simp only [LB]; omega)) only [WB, Nat.reduceSub, Nat.reduceAdd, Int.reduceEq, Int.reduceNe, Int.reduceLT, Int.reduceLE, Int.reduceAdd, Int.reduceSub, Int.reduceMul, Int.reduceNeg, Int.reduceToNat, Nat.reduceEqDiff, Nat.reduceLT, Nat.reduceLeDiff, Nat.reduceMul, List.replicate, reduceCtorEq, op_len und9 rfl, wrap64, e3, tz, str_add hl1, hG]
  refine code_draw [(0, 1), (0, 3), (0, 5), (0, 6), (0, 7), (0, 8), (1, 3), (1, 5), (1, 6), (1, 7), (1, 8), (2, 3), (2, 5), (2, 6), (2, 7), (2, 8), (3, 5), (3, 6), (3, 7), (3, 8), (4, 5), (4, 6), (4, 7), (4, 8), (5, 6), (5, 7)] (by decide +kernel) (by decide +kernel) ?_
  simp -dsimp (maxSteps := 4000000) (disch := first | omega | assumption | (simp only [FB, Nat.reduceAdd]; done) | (simp only [LB]; omega)) only [WB, Nat.reduceSub, Nat.reduceAdd, Int.reduceEq, Int.reduceNe, Int.reduceLT, Int.reduceLE, Int.reduceAdd, Int.reduceSub, Int.reduceMul, Int.reduceNeg, Int.reduceToNat, Nat.reduceEqDiff, Nat.reduceLT, Nat.reduceLeDiff, Nat.reduceMul, List.replicate, reduceCtorEq, RB, Nat.reduceEqDiff, op_len und9 rfl, slice_str_hi und9, slice_str_lo und9, wrap64, hGl, n1e, n2e, str_add hl2, str_add hl3, ← hW]
  simp -dsimp (maxSteps := 4000000) (disch := first | omega | assumption | (simp only [FB, Nat.reduceAdd]; done) | (simp only [LB]; omega)) only [WB, Nat.reduceSub, Nat.reduceAdd, Int.reduceEq, Int.reduceNe, Int.reduceLT, Int.reduceLE, Int.reduceAdd, Int.reduceSub, Int.reduceMul, Int.reduceNeg, Int.reduceToNat, Nat.reduceEqDiff, Nat.reduceLT, Nat.reduceLeDiff, Nat.reduceMul, List.replicate, reduceCtorEq, op_len und9 rfl, image18 hb, durable19 hb, eq_self, op_conv_int und3 und31, conv_int und3 und31, wrapu32]
  refine trunc20 _ pn (by omega) rfl (by simp only; omega) (by simp only; omega) (by simp) (hd1.more (n' := n1 + 1) (by omega) (fun j hj => rfl) (fun j h => h) (fun j h => .inl h)) _ (fun h => by simp at h) ?_
  intro _ n2 h2 q2 d2 S2 hsd2 hq2 hS2 hn2 hd2 hout2
  obtain rfl : d2 = [] := hsd2.1 (by omega) (by omega)
  simp only [Int.toNat_natCast] at hd2
  obtain ⟨pv2, fs2, hb2, hpd2, hfl2, hrep2⟩ := hd2.st
  have hb2n := hd2.lt.1
  simp only at hb2
  have hk2 : fs2.length = 2 := by rw [hfl2]; rfl
  obtain rfl : pv2 = .slice (some ⟨q2, 0, some 2⟩) fs2.length fs2.length := by
    rcases hpd2 with ⟨_, e⟩ | ⟨e, _, _⟩
    · rw [e] at hk2; simp at hk2
    · exact e
  have hkI : ((fs2.length : Nat) : Int) = 2 := by rw [hk2]; rfl
  have htk : List.take (min (Wn.length : Int) (128 * (pn : Int))).toNat Wn = (DOp.tr (128 * pn)).act Wn := by
    show _ = List.take (128 * pn) Wn
    by_cases h : 128 * pn ≤ Wn.length
    · rw [show (min (Wn.length : Int) (128 * (pn : Int))).toNat = 128 * pn by omega]
    · rw [List.take_of_length_le (by omega), List.take_of_length_le (by omega)]
  simp -dsimp (maxSteps := 4000000) (disch := first | omega | assumption | (simp only [FB, Nat.reduceAdd]; done) | (simp only [LB]; omega)) only [WB, Nat.reduceSub, Nat.reduceAdd, Int.reduceEq, Int.reduceNe, Int.reduceLT, Int.reduceLE, Int.reduceAdd, Int.reduceSub, Int.reduceMul, Int.reduceNeg, Int.reduceToNat, Nat.reduceEqDiff, Nat.reduceLT, Nat.reduceLeDiff, Nat.reduceMul, List.replicate, reduceCtorEq, op_len und9 rfl, ]
  refine code_draw [(3, 5), (3, 6), (3, 7), (3, 8), (3, 9), (3, 10), (3, 11), (4, 5), (4, 6), (4, 7), (4, 8), (4, 9), (4, 10), (4, 11), (5, 6), (5, 7), (5, 8), (5, 9), (5, 10), (6, 8), (6, 9), (7, 8), (7, 9), (25, 27), (26, 27)] (by decide +kernel) (by decide +kernel) ?_
  simp -dsimp (maxSteps := 4000000) (disch := first | omega | assumption | (simp only [FB, Nat.reduceAdd]; done) | (simp only [LB]; omega)) only [WB, Nat.reduceSub, Nat.reduceAdd, Int.reduceEq, Int.reduceNe, Int.reduceLT, Int.reduceLE, Int.reduceAdd, Int.reduceSub, Int.reduceMul, Int.reduceNeg, Int.reduceToNat, Nat.reduceEqDiff, Nat.reduceLT, Nat.reduceLeDiff, Nat.reduceMul, List.replicate, reduceCtorEq, RB, Nat.reduceEqDiff, op_len und9 rfl, image18 hb2, pending21 hb2, eq_self, wrap64, slice_str_hi und9, note_len und9 rfl, htk, hkI]
  refine sync22 _ (by simp only; omega) (hd2.more (n' := n2 + 1) (by omega) (fun j hj => rfl) (fun j h => h) (fun j h => .inl h)) _ (fun h => by simp at h) ?_
  intro _ h3 d3 hsd3 hd3 hout3
  obtain ⟨pv3, fs3, hb3, hpd3, hfl3, hrep3⟩ := hd3.st
  simp only at hb3
  have hk3 : fs3.length = 0 := by rw [hfl3]; rfl
  obtain rfl : fs3 = [] := List.length_eq_zero_iff.1 hk3
  obtain rfl : pv3 = .slice none 0 0 := by
    rcases hpd3 with ⟨e, _⟩ | ⟨_, e, _⟩
    · exact e
    · exact absurd rfl e
  have hsoil : soilAll [] a.next d3 = [] := soil_from (hsd3.2.2 (fun j => a.next ≤ j) (Nat.le_refl _) (by simp only at *; omega) fromU_nil)
  simp -dsimp (maxSteps := 4000000) (disch := first | omega | assumption | (simp only [FB, Nat.reduceAdd]; done) | (simp only [LB]; omega)) only [WB, Nat.reduceSub, Nat.reduceAdd, Int.reduceEq, Int.reduceNe, Int.reduceLT, Int.reduceLE, Int.reduceAdd, Int.reduceSub, Int.reduceMul, Int.reduceNeg, Int.reduceToNat, Nat.reduceEqDiff, Nat.reduceLT, Nat.reduceLeDiff, Nat.reduceMul, List.replicate, reduceCtorEq, RB, Nat.reduceEqDiff, op_len und9 rfl, image18 hb3, durable19 hb3, pending21 hb3, eq_self, wrap64]
  simp -dsimp (maxSteps := 4000000) (disch := first | omega | assumption | (simp only [FB, Nat.reduceAdd]; done) | (simp only [LB]; omega)) only [WB, Nat.reduceSub, Nat.reduceAdd, Int.reduceEq, Int.reduceNe, Int.reduceLT, Int.reduceLE, Int.reduceAdd, Int.reduceSub, Int.reduceMul, Int.reduceNeg, Int.reduceToNat, Nat.reduceEqDiff, Nat.reduceLT, Nat.reduceLeDiff, Nat.reduceMul, List.replicate, reduceCtorEq, op_len und9 rfl, hsoil, zero3]
  rfl
end Go.Proofs.YtgdmgolmeeigdaaAM
