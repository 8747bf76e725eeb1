/- Chapter 6: what the chapter's reference does, small functions. -/
import Derived.Test.YtpcaoohacgkeiaaQ5
namespace Go.Proofs.YtpcaoohacgkeiaaAM
open Go Go.RowKit
set_option linter.unusedVariables false
set_option linter.unusedSimpArgs false
set_option maxRecDepth 10000
set_option maxHeartbeats 4000000

theorem good57 (x : Int) (a : AW) (K) : WCall Try.prog GV 57 [.int .i64 x] a K = K (.bool (decide (goodSz x))) a := by
  rw [call_body' Try.func57 rfl Try.ntmps57 rfl rfl]
  by_cases h1 : 128 ≤ x <;> by_cases h2 : x ≤ 4096 <;> by_cases h3 : x.tmod 64 = 0 <;> simp -dsimp (maxSteps := 4000000) (disch := first | omega | assumption | (simp only [FB, Nat.reduceAdd]; done) | (simp only [LB]; omega)) only [WB, Nat.reduceSub, Nat.reduceAdd, Int.reduceEq, Int.reduceNe, Int.reduceLT, Int.reduceLE, Int.reduceAdd, Int.reduceSub, Int.reduceMul, Int.reduceNeg, Int.reduceToNat, Nat.reduceEqDiff, Nat.reduceLT, Nat.reduceLeDiff, Nat.reduceMul, List.replicate, reduceCtorEq, TB, NB, h1, h2, h3] <;> simp [goodSz, h1, h2, h3]
theorem room58 (x : Int) (a : AW) (K) : WCall Try.prog GV 58 [.int .i64 x] a K = K (.int .i64 (room x)) a := by
  rw [call_body' Try.func58 rfl Try.ntmps58 rfl rfl]
  by_cases h : goodSz x
  · have h' := h
    simp only [goodSz] at h'
    simp -dsimp (maxSteps := 4000000) (disch := first | omega | assumption | (simp only [FB, Nat.reduceAdd]; done) | (simp only [LB]; omega)) only [WB, Nat.reduceSub, Nat.reduceAdd, Int.reduceEq, Int.reduceNe, Int.reduceLT, Int.reduceLE, Int.reduceAdd, Int.reduceSub, Int.reduceMul, Int.reduceNeg, Int.reduceToNat, Nat.reduceEqDiff, Nat.reduceLT, Nat.reduceLeDiff, Nat.reduceMul, List.replicate, reduceCtorEq, TB, NB, good57, h, wrap64]
    simp [room, h]
  · simp -dsimp (maxSteps := 4000000) (disch := first | omega | assumption | (simp only [FB, Nat.reduceAdd]; done) | (simp only [LB]; omega)) only [WB, Nat.reduceSub, Nat.reduceAdd, Int.reduceEq, Int.reduceNe, Int.reduceLT, Int.reduceLE, Int.reduceAdd, Int.reduceSub, Int.reduceMul, Int.reduceNeg, Int.reduceToNat, Nat.reduceEqDiff, Nat.reduceLT, Nat.reduceLeDiff, Nat.reduceMul, List.replicate, reduceCtorEq, TB, NB, good57, h]
    simp [room, h]
theorem number43 (n : Int) (a : AW) (K) : WCall Try.prog GV 43 [.int .u32 n] a K = K (.bool (decide (numOk n))) a := by
  rw [call_body' Try.func43 rfl Try.ntmps43 rfl rfl]
  by_cases h1 : 2 ≤ n <;> by_cases h2 : n ≤ 2147483647 <;> simp -dsimp (maxSteps := 4000000) (disch := first | omega | assumption | (simp only [FB, Nat.reduceAdd]; done) | (simp only [LB]; omega)) only [WB, Nat.reduceSub, Nat.reduceAdd, Int.reduceEq, Int.reduceNe, Int.reduceLT, Int.reduceLE, Int.reduceAdd, Int.reduceSub, Int.reduceMul, Int.reduceNeg, Int.reduceToNat, Nat.reduceEqDiff, Nat.reduceLT, Nat.reduceLeDiff, Nat.reduceMul, List.replicate, reduceCtorEq, TB, NB, h1, h2] <;> simp [numOk, h1, h2]
theorem name25 (s : List UInt8) (a : AW) (K) : WCall Try.prog GV 25 [.string (mkStr s)] a K = K (.bool (decide (nameOk s))) a := by
  rw [call_body' Try.func25 rfl Try.ntmps25 rfl rfl]
  by_cases h1 : (1 : Int) ≤ s.length <;> by_cases h2 : (s.length : Int) ≤ 16 <;> simp -dsimp (maxSteps := 4000000) (disch := first | omega | assumption | (simp only [FB, Nat.reduceAdd]; done) | (simp only [LB]; omega)) only [WB, Nat.reduceSub, Nat.reduceAdd, Int.reduceEq, Int.reduceNe, Int.reduceLT, Int.reduceLE, Int.reduceAdd, Int.reduceSub, Int.reduceMul, Int.reduceNeg, Int.reduceToNat, Nat.reduceEqDiff, Nat.reduceLT, Nat.reduceLeDiff, Nat.reduceMul, List.replicate, reduceCtorEq, TB, NB, h1, h2]
  · rw [decide_eq_true (show nameOk s from ⟨by omega, by omega⟩)]
  · rw [decide_eq_false (show ¬ nameOk s from fun h => h2 (by have := h.2; omega))]
  · rw [decide_eq_false (show ¬ nameOk s from fun h => h1 (by have := h.1; omega))]
  · rw [decide_eq_false (show ¬ nameOk s from fun h => h1 (by have := h.1; omega))]
theorem one50 (b : Bkt) (hb : b.name.length ≤ 140737488355328) (a : AW) (K) : WCall Try.prog GV 50 [.agg (encB b).toArray] a K = K (.int .i64 (9 + b.name.length : Nat)) a := by
  rw [call_env Try.func50 rfl Try.ntmps50 rfl rfl (by simp), encB]
  simp -dsimp (maxSteps := 4000000) (disch := first | omega | assumption | (simp only [FB, Nat.reduceAdd]; done) | (simp only [LB]; omega)) only [EB, ↓reduceIte, WB, Nat.reduceSub, Nat.reduceAdd, Int.reduceEq, Int.reduceNe, Int.reduceLT, Int.reduceLE, Int.reduceAdd, Int.reduceSub, Int.reduceMul, Int.reduceNeg, Int.reduceToNat, Nat.reduceEqDiff, Nat.reduceLT, Nat.reduceLeDiff, Nat.reduceMul, List.replicate, reduceCtorEq, TB, NB, wrap64]
  rw [show ((9 + b.name.length : Nat) : Int) = 9 + (b.name.length : Int) by omega]
theorem put44 (v : Value) (l : List UInt8) (N k : Nat) (hk1 : 1 ≤ k) (hk8 : k ≤ 8) (hl : l.length ≤ 100000) (a : AW) (m : Nat) (hm : m ≤ a.next) (hv : RV encU 1 a.heap m v l) (K : Value → AW → Prop)
    (hK : ∀ v' n' h', a.next ≤ n' → n' ≤ a.next + 1 → OwnS encU 1 h' n' a.next v' (l ++ le N k) → (∀ j, j < a.next → look j h' = look j a.heap) → K v' ⟨n', h', a.base, a.dirty⟩) :
    WCall Try.prog GV 44 [v, .int .u64 N, .int .i64 k] a K := by
  rw [call_env Try.func44 rfl Try.ntmps44 rfl rfl (by simp)]
  obtain ⟨p, c, rfl⟩ := hv.len
  have hv0 : RV encU 1 ((a.next, Blk.cells [] true) :: a.heap) m (.slice p l.length c) l := hv.keep (Nat.le_refl _) fun j hj => look_miss (by omega)
  simp -dsimp (maxSteps := 4000000) (disch := first | omega | assumption | (simp only [FB, Nat.reduceAdd]; done) | (simp only [LB]; omega)) only [EB, ↓reduceIte, WB, Nat.reduceSub, Nat.reduceAdd, Int.reduceEq, Int.reduceNe, Int.reduceLT, Int.reduceLE, Int.reduceAdd, Int.reduceSub, Int.reduceMul, Int.reduceNeg, Int.reduceToNat, Nat.reduceEqDiff, Nat.reduceLT, Nat.reduceLeDiff, Nat.reduceMul, List.replicate, reduceCtorEq, TB, NB, ]
  obtain ⟨v1, q1, n1, h1, e1, o1, g1, g2, g3, g4, g5⟩ := append_mine (E := Try.prog) (t0 := 53) (t1 := 53) (bs := a.next) (d := []) app53 encU_len encU_one (OwnS.made (n := a.next + 1) (h := (a.next, Blk.cells [] true) :: a.heap) look_self (Nat.lt_succ_self _)) (by omega) (by omega) hv0 (by simp only [List.length_nil]; omega)
  rw [e1]
  have hk1' : (1 : Int) ≤ k := by omega
  have hk8' : (k : Int) ≤ 8 := by omega
  simp -dsimp (maxSteps := 4000000) (disch := first | omega | assumption | (simp only [FB, Nat.reduceAdd]; done) | (simp only [LB]; omega)) only [EB, ↓reduceIte, WB, Nat.reduceSub, Nat.reduceAdd, Int.reduceEq, Int.reduceNe, Int.reduceLT, Int.reduceLE, Int.reduceAdd, Int.reduceSub, Int.reduceMul, Int.reduceNeg, Int.reduceToNat, Nat.reduceEqDiff, Nat.reduceLT, Nat.reduceLeDiff, Nat.reduceMul, List.replicate, reduceCtorEq, TB, NB, hk1', hk8', show ¬ ((k : Int) < 1) by omega, show ¬ (8 : Int) < k by omega]
  rw [List.nil_append] at o1
  refine loop_inv (fun r t w => ∃ i n h q v, ∃ e : Nat → Value, r = k - i ∧ i ≤ k ∧ w = ⟨n, h, a.next, []⟩ ∧ t = TT 34 e ∧ OwnS encU 1 h n q v (l ++ le N i) ∧ a.next ≤ q ∧ a.next ≤ n ∧ (∀ j, j < a.next → look j h = look j a.heap) ∧ e 1 = .int .u64 N ∧ e 7 = v ∧ e 2 = .int .i64 k ∧ e 8 = .int .i64 i) ⟨0, n1, h1, q1, v1, _, rfl, by omega, rfl, rfl, by simpa [le] using o1, g3, by omega, fun j hj => by rw [g5 j (by omega) (by omega), look_miss (by omega)], rfl, rfl, rfl, rfl⟩ ?_
  rintro r t w ⟨i, n, h, q, v, e, rfl, hi, rfl, rfl, o, hq, hn, hh, t1, t7, t2, t8⟩
  by_cases hlt : i < k
  · have hsh := byte_shr N i (by omega)
    simp -dsimp (maxSteps := 4000000) (disch := first | omega | assumption | (simp only [FB, Nat.reduceAdd]; done) | (simp only [LB]; omega)) only [EB, ↓reduceIte, WB, Nat.reduceSub, Nat.reduceAdd, Int.reduceEq, Int.reduceNe, Int.reduceLT, Int.reduceLE, Int.reduceAdd, Int.reduceSub, Int.reduceMul, Int.reduceNeg, Int.reduceToNat, Nat.reduceEqDiff, Nat.reduceLT, Nat.reduceLeDiff, Nat.reduceMul, List.replicate, reduceCtorEq, TB, NB, t1, t7, t2, t8, show (i : Int) < k by omega, wrap64, wrapu64, bin_shr, hsh]
    have ho : OwnS encU 1 ((n, Blk.cells [Value.int IntKind.u8 (byteAt N i).toNat] true) :: h) (n + 1) q v (l ++ le N i) := o.keep (by omega) fun hq2 => look_miss (by omega)
    obtain ⟨v2, q2, n2, h2, e2, o2, f1, f2, f3, f4, f5⟩ := append_mine (E := Try.prog) (t0 := 53) (t1 := 53) (bs := a.next) (d := []) app53 encU_len encU_one ho (by omega) (by omega) (RV.one (n := n + 1) (x := byteAt N i) encU_len look_self (by omega)) (by simp only [List.length_append, le_len, List.length_cons, List.length_nil]; omega)
    rw [e2]
    simp -dsimp (maxSteps := 4000000) (disch := first | omega | assumption | (simp only [FB, Nat.reduceAdd]; done) | (simp only [LB]; omega)) only [EB, ↓reduceIte, WB, Nat.reduceSub, Nat.reduceAdd, Int.reduceEq, Int.reduceNe, Int.reduceLT, Int.reduceLE, Int.reduceAdd, Int.reduceSub, Int.reduceMul, Int.reduceNeg, Int.reduceToNat, Nat.reduceEqDiff, Nat.reduceLT, Nat.reduceLeDiff, Nat.reduceMul, List.replicate, reduceCtorEq, TB, NB, t8, wrap64]
    refine ⟨trivial, k - (i + 1), by omega, i + 1, n2, h2, q2, v2, _, rfl, by omega, rfl, rfl, by rw [le_succ, ← List.append_assoc]; exact o2, f3, by omega, fun j hj => by rw [f5 j (by omega) (by omega), look_miss (by omega), hh j hj], ?_⟩
    simp only [ups_at, ↓reduceIte, Nat.reduceEqDiff]
    exact ⟨t1, trivial, t2, (by first | trivial | rfl | omega)⟩
  · simp -dsimp (maxSteps := 4000000) (disch := first | omega | assumption | (simp only [FB, Nat.reduceAdd]; done) | (simp only [LB]; omega)) only [EB, ↓reduceIte, WB, Nat.reduceSub, Nat.reduceAdd, Int.reduceEq, Int.reduceNe, Int.reduceLT, Int.reduceLE, Int.reduceAdd, Int.reduceSub, Int.reduceMul, Int.reduceNeg, Int.reduceToNat, Nat.reduceEqDiff, Nat.reduceLT, Nat.reduceLeDiff, Nat.reduceMul, List.replicate, reduceCtorEq, TB, NB, t1, t7, t2, t8, show ¬ (i : Int) < k by omega]
    obtain rfl : i = k := by omega
    exact leave_own encU_flat o hq fun v' n' h' x1 x2 x3 x4 _ => hK v' n' h' x1 x2 x3 x4
theorem readBytes_rv {h : List (Nat × Blk)} {m N bs : Nat} {d : List Nat} {v : Value} {l : List UInt8} (hv : RV encU 1 h m v l) : readBytes v ⟨N, h, bs, d⟩ = some (.string (mkStr l)) := by
  rcases hv with ⟨rfl, rfl⟩ | ⟨b, o, sp, cap, rw0, c, rfl, hb, hbm, hc, ht, hsp⟩
  · exact readBytes_nil
  · have hg : (⟨N, h, bs, d⟩ : AW).get b = some (.cells c rw0) := hb
    simp only [Nat.mul_one] at hc ht
    simp only [readBytes, hg, cellsAt, hc, if_true, Option.bind_some, ht, encU_map, bytes_map]
    rfl
theorem RV.block_lt {α : Type} {enc : α → List Value} {z : Nat} {h : List (Nat × Blk)} {m N : Nat} {v : Value} {l : List α} (hv : RV enc z h m v l) (hm : m ≤ N) (h0 : 0 < N) : blockOf v < N := by
  rcases hv with ⟨rfl, rfl⟩ | ⟨b, o, sp, cap, rw0, c, rfl, hb, hbm, hc, ht, hsp⟩
  · exact h0
  · exact Nat.lt_of_lt_of_le hbm hm
theorem body45 (size : Int) (v : Value) (l : List UInt8) (hl : l.length ≤ 1000000) (a : AW) (m : Nat) (hm : m ≤ a.next) (hv : RV encU 1 a.heap m v l) (K : Value → AW → Prop) :
    WCall Try.prog GV 45 [.int .i64 size, v] a K = K (.tuple #[.string (mkStr (bodyOf size l).1), .int .i64 (bodyOf size l).2]) a := by
  refine call_eq ?_ K
  rw [call_env Try.func45 rfl Try.ntmps45 rfl rfl (by simp)]
  obtain ⟨p, c, rfl⟩ := hv.len
  by_cases hg : goodSz size
  · have hg' := hg
    simp only [goodSz] at hg'
    have hr : room size = size - 24 := by unfold room; rw [if_pos hg]
    by_cases hle : (l.length : Int) ≤ size - 24
    · simp -dsimp (maxSteps := 4000000) (disch := first | omega | assumption | (simp only [FB, Nat.reduceAdd]; done) | (simp only [LB]; omega)) only [EB, ↓reduceIte, WB, Nat.reduceSub, Nat.reduceAdd, Int.reduceEq, Int.reduceNe, Int.reduceLT, Int.reduceLE, Int.reduceAdd, Int.reduceSub, Int.reduceMul, Int.reduceNeg, Int.reduceToNat, Nat.reduceEqDiff, Nat.reduceLT, Nat.reduceLeDiff, Nat.reduceMul, List.replicate, reduceCtorEq, TB, NB, good57, room58, hg, hr, show ¬ size - 24 < (l.length : Int) by omega]
      refine code_draw [(0, 2), (0, 3), (0, 4), (0, 5), (0, 6), (0, 7), (0, 8), (1, 2), (1, 3), (1, 4), (1, 5), (1, 6), (1, 7), (1, 8), (2, 4), (2, 5), (3, 4), (3, 5)] (by decide +kernel) (by decide +kernel) ?_
      have hrb := fun N bs d => readBytes_rv (N := N) (bs := bs) (d := d) hv
      have hbl : blockOf (.slice p l.length c) < a.next + 1 := hv.block_lt (by omega) (by omega)
      simp -dsimp (maxSteps := 4000000) (disch := first | omega | assumption | (simp only [FB, Nat.reduceAdd]; done) | (simp only [LB]; omega)) only [EB, ↓reduceIte, WB, Nat.reduceSub, Nat.reduceAdd, Int.reduceEq, Int.reduceNe, Int.reduceLT, Int.reduceLE, Int.reduceAdd, Int.reduceSub, Int.reduceMul, Int.reduceNeg, Int.reduceToNat, Nat.reduceEqDiff, Nat.reduceLT, Nat.reduceLeDiff, Nat.reduceMul, List.replicate, reduceCtorEq, RB, Nat.reduceEqDiff, TB, NB, room58, hr, wrap64, makeSl_at elem53 z5 rfl (by decide), zero_bytes2, hrb, hbl]
      obtain ⟨s, hs⟩ : ∃ s : Nat, (size - 24 - (l.length : Int)).toNat = s := ⟨_, rfl⟩
      rw [hs, readBytes_at (l := List.replicate s 0) (rw := true) (by rw [get_mk]; exact look_self) (by simp)]
      simp -dsimp (maxSteps := 4000000) (disch := first | omega | assumption | (simp only [FB, Nat.reduceAdd]; done) | (simp only [LB]; omega)) only [EB, ↓reduceIte, WB, Nat.reduceSub, Nat.reduceAdd, Int.reduceEq, Int.reduceNe, Int.reduceLT, Int.reduceLE, Int.reduceAdd, Int.reduceSub, Int.reduceMul, Int.reduceNeg, Int.reduceToNat, Nat.reduceEqDiff, Nat.reduceLT, Nat.reduceLeDiff, Nat.reduceMul, List.replicate, reduceCtorEq, RB, Nat.reduceEqDiff, TB, NB, show blockOf (.slice (some ⟨a.next + 1, 0, some 0⟩) s s) = a.next + 1 from rfl, show a.next + 1 < a.next + 2 by omega]
      have hb : bodyOf size l = (zerosTo l (size.toNat - 24), 0) := by unfold bodyOf; rw [if_pos hg, if_pos hle]
      rw [hb]
      simp only [zerosTo, show size.toNat - 24 - l.length = s by omega]
    · simp -dsimp (maxSteps := 4000000) (disch := first | omega | assumption | (simp only [FB, Nat.reduceAdd]; done) | (simp only [LB]; omega)) only [EB, ↓reduceIte, WB, Nat.reduceSub, Nat.reduceAdd, Int.reduceEq, Int.reduceNe, Int.reduceLT, Int.reduceLE, Int.reduceAdd, Int.reduceSub, Int.reduceMul, Int.reduceNeg, Int.reduceToNat, Nat.reduceEqDiff, Nat.reduceLT, Nat.reduceLeDiff, Nat.reduceMul, List.replicate, reduceCtorEq, TB, NB, good57, room58, hg, hr, show size - 24 < (l.length : Int) by omega]
      have hb : bodyOf size l = ([], 3) := by unfold bodyOf; rw [if_pos hg, if_neg hle]
      rw [hb]
      exact ⟨rfl, trivial⟩
  · simp -dsimp (maxSteps := 4000000) (disch := first | omega | assumption | (simp only [FB, Nat.reduceAdd]; done) | (simp only [LB]; omega)) only [EB, ↓reduceIte, WB, Nat.reduceSub, Nat.reduceAdd, Int.reduceEq, Int.reduceNe, Int.reduceLT, Int.reduceLE, Int.reduceAdd, Int.reduceSub, Int.reduceMul, Int.reduceNeg, Int.reduceToNat, Nat.reduceEqDiff, Nat.reduceLT, Nat.reduceLeDiff, Nat.reduceMul, List.replicate, reduceCtorEq, TB, NB, good57, room58, hg]
    simp [bodyOf, hg]
end Go.Proofs.YtpcaoohacgkeiaaAM
