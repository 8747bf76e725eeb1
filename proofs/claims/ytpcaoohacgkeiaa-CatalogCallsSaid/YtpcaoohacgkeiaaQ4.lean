/- Chapter 6: lost and found. -/
import Derived.Test.YtpcaoohacgkeiaaQ3
namespace Go.Proofs.YtpcaoohacgkeiaaAM
open Go Go.RowKit
set_option linter.unusedVariables false
set_option linter.unusedSimpArgs false
set_option maxRecDepth 10000
set_option maxHeartbeats 4000000

theorem srt_of_may {size : Int} {l : List Bkt} (h : mayP size l) : Srt l := srt_adj fun j hj => (h.1 (j + 1) hj).2 (by omega)
theorem one_of_may {size : Int} {l : List Bkt} (h : mayP size l) (b : Bkt) (hb : b ∈ l) : oneOk b := by
  obtain ⟨j, hj, rfl⟩ := List.mem_iff_getElem.1 hb
  exact (h.1 j hj).1
theorem ok_at {l : List Bkt} (h : Srt l) (ho : ∀ b ∈ l, oneOk b) (j : Nat) : okAt l j := fun hj =>
  ⟨ho _ (List.getElem_mem hj), fun h0 => by
    have := adj_srt h (j - 1) (by omega)
    simpa [show j - 1 + 1 = j by omega] using this⟩
theorem del_del {s : List UInt8} {l : List Bkt} (h : Srt l) : delB (delB l s) s = delB l s := del_none fun c hc => ((del_mem h).1 hc).2
/-- A bucket for what is lost, put in again. -/
theorem lost_may {size : Int} {l : List Bkt} (h : mayP size l) {b : Bkt} (hb : oneOk b) (hn : b.name = lostN) : mayP size (putB b (delB l lostN)) ∧ delB (putB b (delB l lostN)) lostN = delB l lostN := by
  have hs := srt_of_may h
  have hd := del_srt (s := lostN) hs
  have e : delB (putB b (delB l lostN)) lostN = delB l lostN := by rw [← hn, del_put (hn ▸ hd), del_del hs]
  refine ⟨⟨ok_at (put_srt b hd) fun c hc => ?_, h.2.1, ?_⟩, e⟩
  · rcases (put_mem hd).1 hc with rfl | ⟨hc, _⟩
    · exact hb
    · exact one_of_may h c ((del_mem hs).1 hc).1
  · rw [e]; exact h.2.2
theorem pickN_bd (x m : Int) (hm : 1 ≤ m) : 0 ≤ pickN x m ∧ pickN x m < m := by
  unfold pickN
  have hlo := Int.lt_tmod_of_pos x (show 0 < m by omega)
  have hhi := Int.tmod_lt_of_pos x (show 0 < m by omega)
  rw [if_neg (by omega)]
  split <;> omega
theorem mul_lost : (mkStr lostN : ByteArray) = mkStr [108, 111, 115, 116, 43, 102, 111, 117, 110, 100] := rfl
theorem law6 (size : Int) (v : Value) (l : List Bkt) (r k : Int) (hll : l.length ≤ 5000000000000) (hnm : ∀ b ∈ l, b.name.length ≤ 140737488355328) (hsz : -9223372036854775808 ≤ size ∧ size ≤ 9223372036854775807) (hr : 0 ≤ r ∧ r ≤ 4294967295) (hk : -9223372036854775808 ≤ k ∧ k ≤ 9223372036854775807) (a : AW) (m : Nat) (hm : m ≤ a.next) (hv : RV encB 3 a.heap m v l) :
    WCall Try.prog GV 6 [.int .i64 size, v, .int .u32 r, .int .i64 k] a fun r _ => r = .bool true := by
  rw [call_env Try.func6 rfl Try.ntmps6 rfl rfl (by simp)]
  obtain ⟨pp, c, rfl⟩ := hv.len
  have hpc := fun K => page10 size 2 0 (.slice pp l.length c) l hll hnm ⟨a.next, a.heap, a.next, []⟩ m hm hv K
  obtain ⟨X, hX⟩ : ∃ X, X = pageB size 2 0 l := ⟨_, rfl⟩
  simp only [encP, ← hX] at hpc
  have hv0 : RV encB 3 ((a.next, Blk.cells (encP X.1) true) :: a.heap) m (.slice pp l.length c) l := hv.keep (Nat.le_refl _) fun j hj => look_miss (by omega)
  have hlt := fun K => light9 (.slice pp l.length c) l (by omega) ⟨a.next + 1, (a.next, Blk.cells (encP X.1) true) :: a.heap, a.next, []⟩ m (by simp only; omega) hv0 K
  simp only [encP] at hlt hv0
  by_cases c1 : l.length ≤ 60 ∧ lightN l ≤ 1000
  · by_cases h0 : X.2 = 0
    · have hmay := (pageB_ok (hX ▸ h0)).1
      have hd := pickN_bd k 1000 (by omega)
      have hp28 := fun a K => pick28 k 1000 hk (by omega) a K
      have hr0 : 0 ≤ r.tmod 1000 := Int.tmod_nonneg _ hr.1
      have hr1 : r.tmod 1000 < 1000 := Int.tmod_lt_of_pos _ (by omega)
      have hw : IntKind.u32.wrap (2 + r.tmod 1000) = 2 + r.tmod 1000 := wrapu32 (by omega) (by omega)
      obtain ⟨b, hb⟩ : ∃ b : Bkt, b = ⟨lostN, 2 + r.tmod 1000, 1 + pickN k 1000⟩ := ⟨_, rfl⟩
      have hbc : ([.string (mkStr [108, 111, 115, 116, 43, 102, 111, 117, 110, 100]), .int .u32 (2 + r.tmod 1000), .int .i64 (1 + pickN k 1000)] : List Value) = encB b := by rw [hb]; rfl
      have hbn : b.name = lostN := by rw [hb]
      have hbo : oneOk b := by rw [hb]; exact ⟨⟨by show 1 ≤ lostN.length; decide, by show lostN.length ≤ 16; decide⟩, .inr ⟨⟨by simp only; omega, by simp only; omega⟩, by simp only; omega, by simp only; omega⟩⟩
      obtain ⟨hmay2, hdl2⟩ := lost_may hmay hbo hbn
      have hsrt := srt_of_may hmay
      simp -dsimp (maxSteps := 4000000) (disch := first | omega | assumption | (simp only [FB, Nat.reduceAdd]; done) | (simp only [LB]; omega)) only [EB, ↓reduceIte, WB, Nat.reduceSub, Nat.reduceAdd, Int.reduceEq, Int.reduceNe, Int.reduceLT, Int.reduceLE, Int.reduceAdd, Int.reduceSub, Int.reduceMul, Int.reduceNeg, Int.reduceToNat, Nat.reduceEqDiff, Nat.reduceLT, Nat.reduceLeDiff, Nat.reduceMul, List.replicate, reduceCtorEq, TB, NB, lives8, hpc, hlt, decide_eq_true c1, h0, hp28, wrap64, hw]
      refine own15 (.slice pp l.length c) l (by omega) ⟨a.next + 2, _, a.next, []⟩ m (by simp only; omega) (hv0.keep (Nat.le_refl _) fun j hj => look_miss (show j ≠ a.next + 1 by omega)) _ fun v1 n1 h1 x1 x2 x3 x4 => ?_
      simp only at x1 x2 x3 x4
      simp -dsimp (maxSteps := 4000000) (disch := first | omega | assumption | (simp only [FB, Nat.reduceAdd]; done) | (simp only [LB]; omega)) only [EB, ↓reduceIte, WB, Nat.reduceSub, Nat.reduceAdd, Int.reduceEq, Int.reduceNe, Int.reduceLT, Int.reduceLE, Int.reduceAdd, Int.reduceSub, Int.reduceMul, Int.reduceNeg, Int.reduceToNat, Nat.reduceEqDiff, Nat.reduceLT, Nat.reduceLeDiff, Nat.reduceMul, List.replicate, reduceCtorEq, TB, NB, ]
      refine del18 v1 l (by omega) lostN ⟨n1, h1, a.next, []⟩ n1 (Nat.le_refl _) x3.rv _ fun v2 n2 h2 y1 y2 y3 y4 => ?_
      simp only at y1 y2 y3 y4
      simp -dsimp (maxSteps := 4000000) (disch := first | omega | assumption | (simp only [FB, Nat.reduceAdd]; done) | (simp only [LB]; omega)) only [EB, ↓reduceIte, WB, Nat.reduceSub, Nat.reduceAdd, Int.reduceEq, Int.reduceNe, Int.reduceLT, Int.reduceLE, Int.reduceAdd, Int.reduceSub, Int.reduceMul, Int.reduceNeg, Int.reduceToNat, Nat.reduceEqDiff, Nat.reduceLT, Nat.reduceLeDiff, Nat.reduceMul, List.replicate, reduceCtorEq, TB, NB, ]
      refine code_draw [(0, 2), (1, 2)] (by decide +kernel) (by decide +kernel) ?_
      simp -dsimp (maxSteps := 4000000) (disch := first | omega | assumption | (simp only [FB, Nat.reduceAdd]; done) | (simp only [LB]; omega)) only [EB, ↓reduceIte, WB, Nat.reduceSub, Nat.reduceAdd, Int.reduceEq, Int.reduceNe, Int.reduceLT, Int.reduceLE, Int.reduceAdd, Int.reduceSub, Int.reduceMul, Int.reduceNeg, Int.reduceToNat, Nat.reduceEqDiff, Nat.reduceLT, Nat.reduceLeDiff, Nat.reduceMul, List.replicate, reduceCtorEq, RB, Nat.reduceEqDiff, TB, NB, ]
      have hdlen : (delB l lostN).length ≤ 60 := by have := List.length_eraseIdx_le l (fidx (nameIs lostN) l); unfold delB; omega
      refine own15 v2 (delB l lostN) (by omega) ⟨n2 + 1, h2, n2 + 1, []⟩ n2 (by simp only; omega) y3.rv _ fun v3 n3 h3 z1 z2 z3 z4 => ?_
      simp only at z1 z2 z3 z4
      have hb2 : look (a.next + 1) h2 = some (.cells [.string (mkStr [108, 111, 115, 116, 43, 102, 111, 117, 110, 100]), .int .u32 (2 + r.tmod 1000), .int .i64 (1 + pickN k 1000)] true) := by
        rw [y4 _ (by omega), x4 _ (by omega)]; exact look_self
      have hb3 : look (a.next + 1) h3 = some (.cells [.string (mkStr [108, 111, 115, 116, 43, 102, 111, 117, 110, 100]), .int .u32 (2 + r.tmod 1000), .int .i64 (1 + pickN k 1000)] true) := by
        rw [z4 _ (by omega)]; exact hb2
      simp -dsimp (maxSteps := 4000000) (disch := first | omega | assumption | (simp only [FB, Nat.reduceAdd]; done) | (simp only [LB]; omega)) only [EB, ↓reduceIte, WB, Nat.reduceSub, Nat.reduceAdd, Int.reduceEq, Int.reduceNe, Int.reduceLT, Int.reduceLE, Int.reduceAdd, Int.reduceSub, Int.reduceMul, Int.reduceNeg, Int.reduceToNat, Nat.reduceEqDiff, Nat.reduceLT, Nat.reduceLeDiff, Nat.reduceMul, List.replicate, reduceCtorEq, RB, Nat.reduceEqDiff, TB, NB, hb3]
      refine set17 v3 (delB l lostN) (by omega) ⟨lostN, 2 + r.tmod 1000, 1 + pickN k 1000⟩ ⟨n3, h3, n3, []⟩ n3 (Nat.le_refl _) z3.rv _ fun v4 n4 h4 u1 u2 u3 u4 => ?_
      simp only at u1 u2 u3 u4
      rw [← hb, setB_put b (del_srt hsrt)] at u3
      simp -dsimp (maxSteps := 4000000) (disch := first | omega | assumption | (simp only [FB, Nat.reduceAdd]; done) | (simp only [LB]; omega)) only [EB, ↓reduceIte, WB, Nat.reduceSub, Nat.reduceAdd, Int.reduceEq, Int.reduceNe, Int.reduceLT, Int.reduceLE, Int.reduceAdd, Int.reduceSub, Int.reduceMul, Int.reduceNeg, Int.reduceToNat, Nat.reduceEqDiff, Nat.reduceLT, Nat.reduceLeDiff, Nat.reduceMul, List.replicate, reduceCtorEq, RB, Nat.reduceEqDiff, TB, NB, ]
      obtain ⟨kk, hkk⟩ : ∃ kk, kk = putB b (delB l lostN) := ⟨_, rfl⟩
      rw [← hkk] at u3 hmay2 hdl2
      obtain ⟨pq, cq, rfl⟩ := u3.len
      have hklen : kk.length ≤ 61 := by rw [hkk]; have := put_len b (delB l lostN); omega
      obtain ⟨Y, hY⟩ : ∃ Y, Y = pageB size 2 0 kk := ⟨_, rfl⟩
      have hpc2 := fun K => page10 size 2 0 (.slice pq kk.length cq) kk (by omega) (fun c hc => by have := (one_of_may hmay2 c hc).1.2; omega) ⟨n4, h4, a.next, []⟩ n4 (Nat.le_refl _) u3.rv K
      have hY0 : Y.2 = 0 := by rw [hY]; unfold pageB; rw [if_pos ⟨mayB_true hmay2, by decide, by decide⟩]
      have hof := of_page (hY ▸ hY0)
      rw [← hY] at hof
      have hfit := may_fit hmay2
      simp only [encP, ← hY] at hpc2
      simp -dsimp (maxSteps := 4000000) (disch := first | omega | assumption | (simp only [FB, Nat.reduceAdd]; done) | (simp only [LB]; omega)) only [EB, ↓reduceIte, WB, Nat.reduceSub, Nat.reduceAdd, Int.reduceEq, Int.reduceNe, Int.reduceLT, Int.reduceLE, Int.reduceAdd, Int.reduceSub, Int.reduceMul, Int.reduceNeg, Int.reduceToNat, Nat.reduceEqDiff, Nat.reduceLT, Nat.reduceLeDiff, Nat.reduceMul, List.replicate, reduceCtorEq, TB, NB, hpc2, hY0]
      refine of11 Y.1 (by omega) (by omega) (by omega) ⟨n4 + 1, _, a.next, []⟩ _ (fun l1 hl1 v5 n5 h5 w1 w2 w3 w4 => ?_) (fun hnone => ?_)
      · rw [hof.1] at hl1
        cases hl1
        simp only at w1 w2 w4
        have hv4 : RV encB 3 h5 n5 (.slice pq kk.length cq) kk := u3.rv.keep (by omega) fun j hj => by rw [w4 j (by omega), look_miss (by omega)]
        obtain ⟨i, hi, hfi, hkx⟩ : ∃ i, ∃ hi : i < kk.length, findB kk b.name = (i, true) ∧ kk[i] = b := by
          have := find_put (b := b) (del_srt (s := lostN) hsrt)
          rw [← hkk] at this; exact this
        rw [hbn] at hfi
        have hfd := fun K => find16 (.slice pq kk.length cq) kk (by omega) lostN ⟨n5, h5, a.next, []⟩ n5 (Nat.le_refl _) hv4 K
        simp only [hfi] at hfd
        simp only [lostN] at hfd
        simp -dsimp (maxSteps := 4000000) (disch := first | omega | assumption | (simp only [FB, Nat.reduceAdd]; done) | (simp only [LB]; omega)) only [EB, ↓reduceIte, WB, Nat.reduceSub, Nat.reduceAdd, Int.reduceEq, Int.reduceNe, Int.reduceLT, Int.reduceLE, Int.reduceAdd, Int.reduceSub, Int.reduceMul, Int.reduceNeg, Int.reduceToNat, Nat.reduceEqDiff, Nat.reduceLT, Nat.reduceLeDiff, Nat.reduceMul, List.replicate, reduceCtorEq, TB, NB, hfd]
        refine code_draw [(3, 4), (15, 16), (15, 17), (21, 22), (21, 25), (22, 25), (23, 25), (24, 25), (29, 32), (30, 32), (31, 32)] (by decide +kernel) (by decide +kernel) ?_
        simp -dsimp (maxSteps := 4000000) (disch := first | omega | assumption | (simp only [FB, Nat.reduceAdd]; done) | (simp only [LB]; omega)) only [EB, ↓reduceIte, WB, Nat.reduceSub, Nat.reduceAdd, Int.reduceEq, Int.reduceNe, Int.reduceLT, Int.reduceLE, Int.reduceAdd, Int.reduceSub, Int.reduceMul, Int.reduceNeg, Int.reduceToNat, Nat.reduceEqDiff, Nat.reduceLT, Nat.reduceLeDiff, Nat.reduceMul, List.replicate, reduceCtorEq, RB, Nat.reduceEqDiff, TB, NB, ]
        obtain ⟨bb, o, sp, rw0, cc, rfl, hlk, hbn2, hle, hat, -⟩ := hv4.at encB_len hi
        have hsm := fun K => same12 v5 _ kk kk (by omega) ⟨n5 + 1, h5, n5 + 1, []⟩ n5 (by simp only; omega) w3.rv hv4 K
        have hb5 : look (a.next + 1) h5 = some (.cells [.string (mkStr [108, 111, 115, 116, 43, 102, 111, 117, 110, 100]), .int .u32 (2 + r.tmod 1000), .int .i64 (1 + pickN k 1000)] true) := by
          rw [w4 _ (by omega), look_miss (by omega), u4 _ (by omega)]; exact hb3
        have hsk : ∀ x y, binA Try.prog .eql 36 x y (.agg (encB kk[i]).toArray) (.agg #[.string (mkStr [108, 111, 115, 116, 43, 102, 111, 117, 110, 100]), .int .u32 (2 + r.tmod 1000), .int .i64 (1 + pickN k 1000)]) = some (.bool true) := by
          intro x y
          rw [hkx]
          have := eql36 (x := x) (y := y) (b := b) (b' := b)
          rw [decide_eq_true rfl] at this
          rw [← this, hb]; rfl
        simp -dsimp (maxSteps := 4000000) (disch := first | omega | assumption | (simp only [FB, Nat.reduceAdd]; done) | (simp only [LB]; omega)) only [EB, ↓reduceIte, WB, Nat.reduceSub, Nat.reduceAdd, Int.reduceEq, Int.reduceNe, Int.reduceLT, Int.reduceLE, Int.reduceAdd, Int.reduceSub, Int.reduceMul, Int.reduceNeg, Int.reduceToNat, Nat.reduceEqDiff, Nat.reduceLT, Nat.reduceLeDiff, Nat.reduceMul, List.replicate, reduceCtorEq, RB, Nat.reduceEqDiff, TB, NB, hsm, hlk, hat, hb5, show (0 : Int) ≤ (i : Int) by omega, show (i : Int) < kk.length by omega, hsk]
        refine own15 _ kk (by omega) ⟨n5 + 1, h5, n5 + 1, []⟩ n5 (by simp only; omega) hv4 _ fun v6 n6 h6 p1 p2 p3 p4 => ?_
        simp only at p1 p2 p3 p4
        simp -dsimp (maxSteps := 4000000) (disch := first | omega | assumption | (simp only [FB, Nat.reduceAdd]; done) | (simp only [LB]; omega)) only [EB, ↓reduceIte, WB, Nat.reduceSub, Nat.reduceAdd, Int.reduceEq, Int.reduceNe, Int.reduceLT, Int.reduceLE, Int.reduceAdd, Int.reduceSub, Int.reduceMul, Int.reduceNeg, Int.reduceToNat, Nat.reduceEqDiff, Nat.reduceLT, Nat.reduceLeDiff, Nat.reduceMul, List.replicate, reduceCtorEq, RB, Nat.reduceEqDiff, TB, NB, ]
        refine del18 v6 kk (by omega) lostN ⟨n6, h6, n6, []⟩ n6 (Nat.le_refl _) p3.rv _ fun v7 n7 h7 q1 q2 q3 q4 => ?_
        simp only at q1 q2 q3 q4
        rw [hdl2] at q3
        have hv2 : RV encB 3 h7 n7 v2 (delB l lostN) := y3.rv.keep (by omega) fun j hj => by
          rw [q4 j (by omega), p4 j (by omega), w4 j (by omega), look_miss (by omega), u4 j (by omega), z4 j (by omega)]
        have hsm2 := fun bs K => same12 v7 v2 (delB l lostN) (delB l lostN) (by omega) ⟨n7, h7, bs, []⟩ n7 (Nat.le_refl _) q3.rv hv2 K
        simp -dsimp (maxSteps := 4000000) (disch := first | omega | assumption | (simp only [FB, Nat.reduceAdd]; done) | (simp only [LB]; omega)) only [EB, ↓reduceIte, WB, Nat.reduceSub, Nat.reduceAdd, Int.reduceEq, Int.reduceNe, Int.reduceLT, Int.reduceLE, Int.reduceAdd, Int.reduceSub, Int.reduceMul, Int.reduceNeg, Int.reduceToNat, Nat.reduceEqDiff, Nat.reduceLT, Nat.reduceLeDiff, Nat.reduceMul, List.replicate, reduceCtorEq, RB, Nat.reduceEqDiff, TB, NB, hsm2, decide_true]
      · rw [hof.1] at hnone; cases hnone
    · simp -dsimp (maxSteps := 4000000) (disch := first | omega | assumption | (simp only [FB, Nat.reduceAdd]; done) | (simp only [LB]; omega)) only [EB, ↓reduceIte, WB, Nat.reduceSub, Nat.reduceAdd, Int.reduceEq, Int.reduceNe, Int.reduceLT, Int.reduceLE, Int.reduceAdd, Int.reduceSub, Int.reduceMul, Int.reduceNeg, Int.reduceToNat, Nat.reduceEqDiff, Nat.reduceLT, Nat.reduceLeDiff, Nat.reduceMul, List.replicate, reduceCtorEq, TB, NB, lives8, hpc, hlt, decide_eq_true c1, h0, leave_fst flat_bool]
  · simp -dsimp (maxSteps := 4000000) (disch := first | omega | assumption | (simp only [FB, Nat.reduceAdd]; done) | (simp only [LB]; omega)) only [EB, ↓reduceIte, WB, Nat.reduceSub, Nat.reduceAdd, Int.reduceEq, Int.reduceNe, Int.reduceLT, Int.reduceLE, Int.reduceAdd, Int.reduceSub, Int.reduceMul, Int.reduceNeg, Int.reduceToNat, Nat.reduceEqDiff, Nat.reduceLT, Nat.reduceLeDiff, Nat.reduceMul, List.replicate, reduceCtorEq, TB, NB, lives8, hpc, hlt, decide_eq_false c1, leave_fst flat_bool]
theorem law6r (size : Int) (v : Value) (l : List Bkt) (r k : Int) (hll : l.length ≤ 5000000000000) (hs : -9223372036854775808 ≤ size ∧ size ≤ 9223372036854775807) (hr : 0 ≤ r ∧ r ≤ 4294967295) (hk : -9223372036854775808 ≤ k ∧ k ≤ 9223372036854775807) (a : AW) (m : Nat) (hm : m ≤ a.next) (hv : SliceR BktR 3 l a.heap m [v]) :
    WCall Try.prog GV 6 [.int .i64 size, v, .int .u32 r, .int .i64 k] a fun r _ => r = .bool true := by
  obtain ⟨h1, h2⟩ := SliceR.rv encB_len hv
  exact law6 size v l r k hll (fun b hb => (h2 b hb).1) hs hr hk a m hm h1
end Go.Proofs.YtpcaoohacgkeiaaAM
