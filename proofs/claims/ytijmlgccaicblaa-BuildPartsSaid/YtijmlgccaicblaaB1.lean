/- Chapter 13: numbers as bytes, and a page's body. -/
import Derived.Test.YtijmlgccaicblaaB0
namespace Go.Proofs.YtijmlgccaicblaaAM
open Go Go.RowKit
set_option linter.unusedVariables false
set_option linter.unusedSimpArgs false
set_option maxRecDepth 10000
set_option maxHeartbeats 4000000

theorem put56 (v : Value) (l : List UInt8) (N k : Nat) (hk1 : 1 ≤ k) (hk8 : k ≤ 8) (hl : l.length ≤ 100000) (a : AW) (m : Nat) (hm : m ≤ a.next) (hv : RV encU 1 a.heap m v l) (K : Value → AW → Prop)
    (hK : ∀ v' n' h', a.next ≤ n' → n' ≤ a.next + 1 → OwnS encU 1 h' n' a.next v' (l ++ le N k) → (∀ j, j < a.next → look j h' = look j a.heap) → K v' ⟨n', h', a.base, a.dirty⟩) :
    WCall Try.prog GV 56 [v, .int .u64 N, .int .i64 k] a K := by
  rw [call_env Try.func56 rfl Try.ntmps56 rfl rfl (by simp)]
  obtain ⟨p, c, rfl⟩ := hv.len
  simp -dsimp (maxSteps := 4000000) (disch := first | omega | assumption | (simp only [FB, Nat.reduceAdd]; done) | (simp only [LB]; omega)) only [EB, ↓reduceIte, WB, Nat.reduceSub, Nat.reduceAdd, Int.reduceEq, Int.reduceNe, Int.reduceLT, Int.reduceLE, Int.reduceAdd, Int.reduceSub, Int.reduceMul, Int.reduceNeg, Int.reduceToNat, Nat.reduceEqDiff, Nat.reduceLT, Nat.reduceLeDiff, Nat.reduceMul, List.replicate, reduceCtorEq, TB, NB, wrap64, makeSl_at elem104 z5 rfl (by decide), zero_bytes2]
  have e8 : ((l.length : Int) + 8).toNat = l.length + 8 := by omega
  rw [e8]
  have ho0 : OwnS encU 1 ((a.next, Blk.cells ((List.replicate (l.length + 8) (0 : UInt8)).map u8) true) :: a.heap) (a.next + 1) a.next (.slice (some ⟨a.next, 0, some 0⟩) 0 (l.length + 8)) [] :=
    .inr ⟨some 0, l.length + 8, _, rfl, look_self, by simp, by simp, by simp, .inl rfl, by omega, fun _ => all_u8 _⟩
  have hv0 : RV encU 1 ((a.next, Blk.cells ((List.replicate (l.length + 8) (0 : UInt8)).map u8) true) :: a.heap) m (.slice p l.length c) l := hv.keep (Nat.le_refl _) fun j hj => look_miss (by omega)
  obtain ⟨v1, q1, n1, h1, e1, o1, g1, g2, g3, g4, g5⟩ := append_mine (E := Try.prog) (t0 := 104) (t1 := 104) (bs := a.next) (d := []) app104 encU_len encU_one ho0 (by omega) (by omega) hv0 (by simp only [List.length_nil]; omega)
  rw [e1]
  have hk1' : (1 : Int) ≤ k := by omega
  have hk8' : (k : Int) ≤ 8 := by omega
  simp -dsimp (maxSteps := 4000000) (disch := first | omega | assumption | (simp only [FB, Nat.reduceAdd]; done) | (simp only [LB]; omega)) only [EB, ↓reduceIte, WB, Nat.reduceSub, Nat.reduceAdd, Int.reduceEq, Int.reduceNe, Int.reduceLT, Int.reduceLE, Int.reduceAdd, Int.reduceSub, Int.reduceMul, Int.reduceNeg, Int.reduceToNat, Nat.reduceEqDiff, Nat.reduceLT, Nat.reduceLeDiff, Nat.reduceMul, List.replicate, reduceCtorEq, TB, NB, hk1', hk8', show ¬ ((k : Int) < 1) by omega, show ¬ (8 : Int) < k by omega]
  rw [List.nil_append] at o1
  refine loop_inv (fun r t w => ∃ i n h q v, ∃ e : Nat → Value, r = k - i ∧ i ≤ k ∧ w = ⟨n, h, a.next, []⟩ ∧ t = TT 36 e ∧ OwnS encU 1 h n q v (l ++ le N i) ∧ a.next ≤ q ∧ a.next ≤ n ∧ (∀ j, j < a.next → look j h = look j a.heap) ∧ e 1 = .int .u64 N ∧ e 7 = v ∧ e 22 = .int .i64 k ∧ e 23 = .int .i64 i) ⟨0, n1, h1, q1, v1, _, rfl, by omega, rfl, rfl, by simpa [le] using o1, g3, by omega, fun j hj => by rw [g5 j (by omega) (by omega), look_miss (by omega)], rfl, rfl, rfl, rfl⟩ ?_
  rintro r t w ⟨i, n, h, q, v, e, rfl, hi, rfl, rfl, o, hq, hn, hh, t1, t7, t22, t23⟩
  by_cases hlt : i < k
  · have hsh := byte_shr N i (by omega)
    simp -dsimp (maxSteps := 4000000) (disch := first | omega | assumption | (simp only [FB, Nat.reduceAdd]; done) | (simp only [LB]; omega)) only [EB, ↓reduceIte, WB, Nat.reduceSub, Nat.reduceAdd, Int.reduceEq, Int.reduceNe, Int.reduceLT, Int.reduceLE, Int.reduceAdd, Int.reduceSub, Int.reduceMul, Int.reduceNeg, Int.reduceToNat, Nat.reduceEqDiff, Nat.reduceLT, Nat.reduceLeDiff, Nat.reduceMul, List.replicate, reduceCtorEq, TB, NB, t1, t7, t22, t23, show (i : Int) < k by omega, wrap64, bin_shr, hsh]
    have ho : OwnS encU 1 ((n, Blk.cells [Value.int IntKind.u8 (byteAt N i).toNat] true) :: h) (n + 1) q v (l ++ le N i) := o.keep (by omega) fun hq2 => look_miss (by omega)
    obtain ⟨v2, q2, n2, h2, e2, o2, f1, f2, f3, f4, f5⟩ := append_mine (E := Try.prog) (t0 := 104) (t1 := 104) (bs := a.next) (d := []) app104 encU_len encU_one ho (by omega) (by omega) (RV.one (n := n + 1) (x := byteAt N i) encU_len look_self (by omega)) (by simp only [List.length_append, le_len, List.length_cons, List.length_nil]; omega)
    rw [e2]
    simp -dsimp (maxSteps := 4000000) (disch := first | omega | assumption | (simp only [FB, Nat.reduceAdd]; done) | (simp only [LB]; omega)) only [EB, ↓reduceIte, WB, Nat.reduceSub, Nat.reduceAdd, Int.reduceEq, Int.reduceNe, Int.reduceLT, Int.reduceLE, Int.reduceAdd, Int.reduceSub, Int.reduceMul, Int.reduceNeg, Int.reduceToNat, Nat.reduceEqDiff, Nat.reduceLT, Nat.reduceLeDiff, Nat.reduceMul, List.replicate, reduceCtorEq, TB, NB, t23, wrap64]
    refine ⟨trivial, k - (i + 1), by omega, i + 1, n2, h2, q2, v2, _, rfl, by omega, rfl, rfl, by rw [le_succ, ← List.append_assoc]; exact o2, f3, by omega, fun j hj => by rw [f5 j (by omega) (by omega), look_miss (by omega), hh j hj], ?_⟩
    simp only [ups_at, ↓reduceIte, Nat.reduceEqDiff]
    exact ⟨t1, trivial, t22, (by first | trivial | rfl | omega)⟩
  · simp -dsimp (maxSteps := 4000000) (disch := first | omega | assumption | (simp only [FB, Nat.reduceAdd]; done) | (simp only [LB]; omega)) only [EB, ↓reduceIte, WB, Nat.reduceSub, Nat.reduceAdd, Int.reduceEq, Int.reduceNe, Int.reduceLT, Int.reduceLE, Int.reduceAdd, Int.reduceSub, Int.reduceMul, Int.reduceNeg, Int.reduceToNat, Nat.reduceEqDiff, Nat.reduceLT, Nat.reduceLeDiff, Nat.reduceMul, List.replicate, reduceCtorEq, TB, NB, t1, t7, t22, t23, show ¬ (i : Int) < k by omega]
    obtain rfl : i = k := by omega
    exact leave_own encU_flat o hq fun v' n' h' x1 x2 x3 x4 _ => hK v' n' h' x1 x2 x3 x4
/-- A page's body, out of its bytes. -/
def bodyOf (size : Int) (l : List UInt8) : List UInt8 × Int := if goodSz size then (if (l.length : Int) ≤ size - 24 then (zerosTo l (size.toNat - 24), 0) else ([], 3)) else ([], 2)
theorem body58 (size : Int) (v : Value) (l : List UInt8) (hl : l.length ≤ 1000000) (a : AW) (m : Nat) (hm : m ≤ a.next) (hv : RV encU 1 a.heap m v l) (K : Value → AW → Prop) :
    WCall Try.prog GV 58 [.int .i64 size, v] a K = K (.tuple #[.string (mkStr (bodyOf size l).1), .int .i64 (bodyOf size l).2]) a := by
  refine call_eq ?_ K
  rw [call_env Try.func58 rfl Try.ntmps58 rfl rfl (by simp)]
  obtain ⟨p, c, rfl⟩ := hv.len
  by_cases hg : goodSz size
  · have hg' := hg
    simp only [goodSz] at hg'
    have hr : room size = size - 24 := by unfold room; rw [if_pos hg]
    by_cases hle : (l.length : Int) ≤ size - 24
    · simp -dsimp (maxSteps := 4000000) (disch := first | omega | assumption | (simp only [FB, Nat.reduceAdd]; done) | (simp only [LB]; omega)) only [EB, ↓reduceIte, WB, Nat.reduceSub, Nat.reduceAdd, Int.reduceEq, Int.reduceNe, Int.reduceLT, Int.reduceLE, Int.reduceAdd, Int.reduceSub, Int.reduceMul, Int.reduceNeg, Int.reduceToNat, Nat.reduceEqDiff, Nat.reduceLT, Nat.reduceLeDiff, Nat.reduceMul, List.replicate, reduceCtorEq, TB, NB, good38, room40, hg, hr, show ¬ size - 24 < (l.length : Int) by omega, makeSl_at elem104 z5 rfl (by decide), zero_bytes2]
      obtain ⟨s, hs⟩ : ∃ s : Nat, (size - 24).toNat = s := ⟨_, rfl⟩
      rw [hs]
      have hv0 : RV encU 1 ((a.next, Blk.cells ((List.replicate s (0 : UInt8)).map u8) true) :: a.heap) m (.slice p l.length c) l := hv.keep (Nat.le_refl _) fun j hj => look_miss (by omega)
      rw [copy_rv (p := ⟨a.next, 0, some 0⟩) elem104 encU_len encU_one look_self hv0 (by omega) (by simp)]
      rw [encU_map, List.take_zero, List.nil_append, List.map_replicate, List.drop_replicate, soilW_past (Nat.le_refl _), put_self, Nat.zero_add, Nat.mul_one, ← List.map_replicate, ← List.map_append]
      simp -dsimp (maxSteps := 4000000) (disch := first | omega | assumption | (simp only [FB, Nat.reduceAdd]; done) | (simp only [LB]; omega)) only [EB, ↓reduceIte, WB, Nat.reduceSub, Nat.reduceAdd, Int.reduceEq, Int.reduceNe, Int.reduceLT, Int.reduceLE, Int.reduceAdd, Int.reduceSub, Int.reduceMul, Int.reduceNeg, Int.reduceToNat, Nat.reduceEqDiff, Nat.reduceLT, Nat.reduceLeDiff, Nat.reduceMul, List.replicate, reduceCtorEq, TB, NB, ]
      rw [readBytes_at (l := l ++ List.replicate (s - l.length) 0) (rw := true) (by rw [get_mk]; exact look_self) (by simp only [List.length_append, List.length_replicate]; omega)]
      simp -dsimp (maxSteps := 4000000) (disch := first | omega | assumption | (simp only [FB, Nat.reduceAdd]; done) | (simp only [LB]; omega)) only [EB, ↓reduceIte, WB, Nat.reduceSub, Nat.reduceAdd, Int.reduceEq, Int.reduceNe, Int.reduceLT, Int.reduceLE, Int.reduceAdd, Int.reduceSub, Int.reduceMul, Int.reduceNeg, Int.reduceToNat, Nat.reduceEqDiff, Nat.reduceLT, Nat.reduceLeDiff, Nat.reduceMul, List.replicate, reduceCtorEq, TB, NB, ]
      have hb : bodyOf size l = (zerosTo l s, 0) := by unfold bodyOf; rw [if_pos hg, if_pos hle, show size.toNat - 24 = s by omega]
      rw [hb]
      refine ⟨?_, trivial⟩
      simp only [List.drop_zero, zerosTo]
    · simp -dsimp (maxSteps := 4000000) (disch := first | omega | assumption | (simp only [FB, Nat.reduceAdd]; done) | (simp only [LB]; omega)) only [EB, ↓reduceIte, WB, Nat.reduceSub, Nat.reduceAdd, Int.reduceEq, Int.reduceNe, Int.reduceLT, Int.reduceLE, Int.reduceAdd, Int.reduceSub, Int.reduceMul, Int.reduceNeg, Int.reduceToNat, Nat.reduceEqDiff, Nat.reduceLT, Nat.reduceLeDiff, Nat.reduceMul, List.replicate, reduceCtorEq, TB, NB, good38, room40, hg, hr, show size - 24 < (l.length : Int) by omega]
      have hb : bodyOf size l = ([], 3) := by unfold bodyOf; rw [if_pos hg, if_neg hle]
      rw [hb]
      exact ⟨rfl, trivial⟩
  · simp -dsimp (maxSteps := 4000000) (disch := first | omega | assumption | (simp only [FB, Nat.reduceAdd]; done) | (simp only [LB]; omega)) only [EB, ↓reduceIte, WB, Nat.reduceSub, Nat.reduceAdd, Int.reduceEq, Int.reduceNe, Int.reduceLT, Int.reduceLE, Int.reduceAdd, Int.reduceSub, Int.reduceMul, Int.reduceNeg, Int.reduceToNat, Nat.reduceEqDiff, Nat.reduceLT, Nat.reduceLeDiff, Nat.reduceMul, List.replicate, reduceCtorEq, TB, NB, good38, room40, hg]
    simp [bodyOf, hg]
end Go.Proofs.YtijmlgccaicblaaAM
