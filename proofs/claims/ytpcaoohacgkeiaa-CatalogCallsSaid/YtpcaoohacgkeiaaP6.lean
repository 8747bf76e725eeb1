/- Chapter 6: reading numbers and bytes. -/
import Derived.Test.YtpcaoohacgkeiaaP5
namespace Go.Proofs.YtpcaoohacgkeiaaAM
open Go Go.RowKit
set_option linter.unusedVariables false
set_option linter.unusedSimpArgs false
set_option maxRecDepth 10000
set_option maxHeartbeats 4000000

theorem new33 (s : List UInt8) (a : AW) (K : Value → AW → Prop) : WCall Try.prog GV 33 [.string (mkStr s)] a K = K (.pointer (some ⟨a.next, 0, none⟩)) ⟨a.next + 1, (a.next, .cells [.string (mkStr s)] true) :: a.heap, a.base, a.dirty⟩ := by
  refine call_eq ?_ K
  rw [call_env Try.func33 rfl Try.ntmps33 rfl rfl (by simp)]
  simp -dsimp (maxSteps := 4000000) (disch := first | omega | assumption | (simp only [FB, Nat.reduceAdd]; done) | (simp only [LB]; omega)) only [EB, ↓reduceIte, WB, Nat.reduceSub, Nat.reduceAdd, Int.reduceEq, Int.reduceNe, Int.reduceLT, Int.reduceLE, Int.reduceAdd, Int.reduceSub, Int.reduceMul, Int.reduceNeg, Int.reduceToNat, Nat.reduceEqDiff, Nat.reduceLT, Nat.reduceLeDiff, Nat.reduceMul, List.replicate, reduceCtorEq, TB, NB, ]
  rw [leave_freshPtr (p := ⟨a.next, 0, none⟩) (Nat.le_refl _) look_self rfl]
  exact ⟨rfl, rfl⟩
theorem take54 (q : Nat) (s : List UInt8) (n : Nat) (hn : n ≤ 1000000) (hs : s.length ≤ 1000000) (a : AW) (hq : look q a.heap = some (.cells [.string (mkStr s)] true)) (hqn : q < a.next) (K : Value → AW → Prop) :
    WCall Try.prog GV 54 [.pointer (some ⟨q, 0, none⟩), .int .i64 n] a K = if s.length < n then K (.tuple #[.string (mkStr []), .int .i64 7]) a else
      K (.tuple #[.string (mkStr (s.take n)), .int .i64 0]) ⟨a.next, putAt q (.cells [.string (mkStr (s.drop n))] true) a.heap, a.base, soilW a.base a.dirty q⟩ := by
  by_cases h : s.length < n
  · rw [if_pos h]
    refine call_eq ?_ K
    rw [call_env Try.func54 rfl Try.ntmps54 rfl rfl (by simp)]
    simp -dsimp (maxSteps := 4000000) (disch := first | omega | assumption | (simp only [FB, Nat.reduceAdd]; done) | (simp only [LB]; omega)) only [EB, ↓reduceIte, WB, Nat.reduceSub, Nat.reduceAdd, Int.reduceEq, Int.reduceNe, Int.reduceLT, Int.reduceLE, Int.reduceAdd, Int.reduceSub, Int.reduceMul, Int.reduceNeg, Int.reduceToNat, Nat.reduceEqDiff, Nat.reduceLT, Nat.reduceLeDiff, Nat.reduceMul, List.replicate, reduceCtorEq, TB, NB, hq, show (s.length : Int) < n by omega]
    exact ⟨trivial, trivial⟩
  · rw [if_neg h]
    refine call_eq ?_ K
    rw [call_env Try.func54 rfl Try.ntmps54 rfl rfl (by simp)]
    simp -dsimp (maxSteps := 4000000) (disch := first | omega | assumption | (simp only [FB, Nat.reduceAdd]; done) | (simp only [LB]; omega)) only [EB, ↓reduceIte, WB, Nat.reduceSub, Nat.reduceAdd, Int.reduceEq, Int.reduceNe, Int.reduceLT, Int.reduceLE, Int.reduceAdd, Int.reduceSub, Int.reduceMul, Int.reduceNeg, Int.reduceToNat, Nat.reduceEqDiff, Nat.reduceLT, Nat.reduceLeDiff, Nat.reduceMul, List.replicate, reduceCtorEq, TB, NB, hq, show ¬ (s.length : Int) < n by omega, write_soil]
    have hso : soilW a.next [] q = [q] := by unfold soilW; rw [if_pos hqn]; rfl
    simp only [hso, leave_soiled]
    exact ⟨(by first | trivial | rfl | omega), (by first | trivial | rfl | omega)⟩
theorem und57 : Try.prog.underlying 57 = some (.pointer 73) := rfl
theorem number34 (q : Nat) (s : List UInt8) (n : Nat) (hn1 : 1 ≤ n) (hn : n ≤ 8) (hs : s.length ≤ 1000000) (a : AW) (hq : look q a.heap = some (.cells [.string (mkStr s)] true)) (hqn : q < a.next) (K : Value → AW → Prop) :
    WCall Try.prog GV 34 [.pointer (some ⟨q, 0, none⟩), .int .i64 n] a K = if s.length < n then K (.tuple #[.int .u64 0, .int .i64 7]) a else
      K (.tuple #[.int .u64 (leVal (s.take n)), .int .i64 0]) ⟨a.next, putAt q (.cells [.string (mkStr (s.drop n))] true) a.heap, a.base, soilW a.base a.dirty q⟩ := by
  have hn1' : (1 : Int) ≤ n := by omega
  have ht := fun K => take54 q s n (by omega) hs ⟨a.next, a.heap, a.next, []⟩ hq hqn K
  by_cases h : s.length < n
  · rw [if_pos h]
    simp only [h, if_true] at ht
    refine call_eq ?_ K
    rw [call_env Try.func34 rfl Try.ntmps34 rfl rfl (by simp)]
    simp -dsimp (maxSteps := 4000000) (disch := first | omega | assumption | (simp only [FB, Nat.reduceAdd]; done) | (simp only [LB]; omega)) only [EB, ↓reduceIte, WB, Nat.reduceSub, Nat.reduceAdd, Int.reduceEq, Int.reduceNe, Int.reduceLT, Int.reduceLE, Int.reduceAdd, Int.reduceSub, Int.reduceMul, Int.reduceNeg, Int.reduceToNat, Nat.reduceEqDiff, Nat.reduceLT, Nat.reduceLeDiff, Nat.reduceMul, List.replicate, reduceCtorEq, TB, NB, eql_ptr und57, show ¬ (n : Int) < 1 by omega, show ¬ (8 : Int) < n by omega, ht]
    refine loop_inv (fun r t w => ∃ e : Nat → Value, r = 0 ∧ w = ⟨a.next, a.heap, a.next, []⟩ ∧ t = TT 41 e ∧ e 4 = .int .u64 0 ∧ e 5 = .int .i64 7 ∧ e 25 = .int .i64 0 ∧ e 26 = .int .i64 0) ⟨_, rfl, rfl, rfl, rfl, rfl, rfl, rfl⟩ ?_
    rintro r t w ⟨e, rfl, rfl, rfl, t4, t5, t25, t26⟩
    simp -dsimp (maxSteps := 4000000) (disch := first | omega | assumption | (simp only [FB, Nat.reduceAdd]; done) | (simp only [LB]; omega)) only [EB, ↓reduceIte, WB, Nat.reduceSub, Nat.reduceAdd, Int.reduceEq, Int.reduceNe, Int.reduceLT, Int.reduceLE, Int.reduceAdd, Int.reduceSub, Int.reduceMul, Int.reduceNeg, Int.reduceToNat, Nat.reduceEqDiff, Nat.reduceLT, Nat.reduceLeDiff, Nat.reduceMul, List.replicate, reduceCtorEq, TB, NB, t4, t5, t25, t26, show ¬ (0 : Int) < 0 by omega]
    exact ⟨(by first | trivial | rfl | omega), (by first | trivial | rfl | omega)⟩
  · rw [if_neg h]
    simp only [h, if_false] at ht
    refine call_eq ?_ K
    rw [call_env Try.func34 rfl Try.ntmps34 rfl rfl (by simp)]
    have hso : soilW a.next [] q = [q] := by unfold soilW; rw [if_pos hqn]; rfl
    have htl : (s.take n).length = n := by rw [List.length_take]; omega
    rw [hso] at ht
    simp -dsimp (maxSteps := 4000000) (disch := first | omega | assumption | (simp only [FB, Nat.reduceAdd]; done) | (simp only [LB]; omega)) only [EB, ↓reduceIte, WB, Nat.reduceSub, Nat.reduceAdd, Int.reduceEq, Int.reduceNe, Int.reduceLT, Int.reduceLE, Int.reduceAdd, Int.reduceSub, Int.reduceMul, Int.reduceNeg, Int.reduceToNat, Nat.reduceEqDiff, Nat.reduceLT, Nat.reduceLeDiff, Nat.reduceMul, List.replicate, reduceCtorEq, TB, NB, eql_ptr und57, show ¬ (n : Int) < 1 by omega, show ¬ (8 : Int) < n by omega, ht]
    obtain ⟨u, hu⟩ : ∃ u, u = s.take n := ⟨_, rfl⟩
    rw [← hu] at htl ⊢
    refine loop_inv (fun r t w => ∃ i, ∃ e : Nat → Value, r = n - i ∧ i ≤ n ∧ w = ⟨a.next, putAt q (Blk.cells [Value.string (mkStr (s.drop n))] true) a.heap, a.next, [q]⟩ ∧ t = TT 41 e ∧ e 4 = .int .u64 (leVal (u.take i)) ∧ e 5 = .int .i64 0 ∧ e 6 = .string (mkStr u) ∧ e 25 = .int .i64 n ∧ e 26 = .int .i64 i) ⟨0, _, rfl, by omega, rfl, rfl, rfl, rfl, rfl, by simp only [ups_at, ↓reduceIte, Nat.reduceEqDiff]; rw [htl], rfl⟩ ?_
    rintro r t w ⟨i, e, rfl, hi, rfl, rfl, t4, t5, t6, t25, t26⟩
    by_cases hlt : i < n
    · have hlt2 : leVal (u.take i) < 256 ^ i := by
        have := leVal_lt (u.take i)
        rwa [List.length_take, Nat.min_eq_left (by omega)] at this
      have hor := or_step (leVal (u.take i)) (u.getD i 0).toNat i (by omega) hlt2 (u.getD i 0).toNat_lt
      rw [← leVal_take u i (by omega)] at hor
      have hb := (u.getD i 0).toNat_lt
      simp -dsimp (maxSteps := 4000000) (disch := first | omega | assumption | (simp only [FB, Nat.reduceAdd]; done) | (simp only [LB]; omega)) only [EB, ↓reduceIte, WB, Nat.reduceSub, Nat.reduceAdd, Int.reduceEq, Int.reduceNe, Int.reduceLT, Int.reduceLE, Int.reduceAdd, Int.reduceSub, Int.reduceMul, Int.reduceNeg, Int.reduceToNat, Nat.reduceEqDiff, Nat.reduceLT, Nat.reduceLeDiff, Nat.reduceMul, List.replicate, reduceCtorEq, TB, NB, t4, t5, t6, t25, t26, show (i : Int) < n by omega, wrap64, wrapu64, bin_shl, bin_or, Int.toNat_natCast]
      rw [hor]
      refine ⟨trivial, n - (i + 1), by omega, i + 1, _, rfl, by omega, (by first | trivial | rfl | omega), rfl, ?_⟩
      simp only [ups_at, ↓reduceIte, Nat.reduceEqDiff]
      exact ⟨trivial, t5, t6, t25, (by first | trivial | rfl | omega)⟩
    · obtain rfl : i = n := by omega
      rw [List.take_of_length_le (by omega)] at t4
      simp -dsimp (maxSteps := 4000000) (disch := first | omega | assumption | (simp only [FB, Nat.reduceAdd]; done) | (simp only [LB]; omega)) only [EB, ↓reduceIte, WB, Nat.reduceSub, Nat.reduceAdd, Int.reduceEq, Int.reduceNe, Int.reduceLT, Int.reduceLE, Int.reduceAdd, Int.reduceSub, Int.reduceMul, Int.reduceNeg, Int.reduceToNat, Nat.reduceEqDiff, Nat.reduceLT, Nat.reduceLeDiff, Nat.reduceMul, List.replicate, reduceCtorEq, TB, NB, t4, t5, t6, t25, t26, show ¬ (i : Int) < i by omega]
      simp only [leave_soiled]
      exact ⟨(by first | trivial | rfl | omega), (by first | trivial | rfl | omega)⟩
theorem bytes35 (q : Nat) (s : List UInt8) (n : Nat) (hn : n ≤ 1000000) (hs : s.length ≤ 1000000) (a : AW) (hq : look q a.heap = some (.cells [.string (mkStr s)] true)) (hqn : q < a.next) (K : Value → AW → Prop) :
    WCall Try.prog GV 35 [.pointer (some ⟨q, 0, none⟩), .int .i64 n] a K = if s.length < n then K (.tuple #[.string (mkStr []), .int .i64 7]) a else
      K (.tuple #[.string (mkStr (s.take n)), .int .i64 0]) ⟨a.next, putAt q (.cells [.string (mkStr (s.drop n))] true) a.heap, a.base, soilW a.base a.dirty q⟩ := by
  have ht := fun K => take54 q s n (by omega) hs ⟨a.next, a.heap, a.next, []⟩ hq hqn K
  by_cases h : s.length < n
  · rw [if_pos h]
    simp only [h, if_true] at ht
    refine call_eq ?_ K
    rw [call_env Try.func35 rfl Try.ntmps35 rfl rfl (by simp)]
    simp -dsimp (maxSteps := 4000000) (disch := first | omega | assumption | (simp only [FB, Nat.reduceAdd]; done) | (simp only [LB]; omega)) only [EB, ↓reduceIte, WB, Nat.reduceSub, Nat.reduceAdd, Int.reduceEq, Int.reduceNe, Int.reduceLT, Int.reduceLE, Int.reduceAdd, Int.reduceSub, Int.reduceMul, Int.reduceNeg, Int.reduceToNat, Nat.reduceEqDiff, Nat.reduceLT, Nat.reduceLeDiff, Nat.reduceMul, List.replicate, reduceCtorEq, TB, NB, eql_ptr und57, show ¬ (n : Int) < 0 by omega, ht]
    exact ⟨(by first | trivial | rfl | omega), (by first | trivial | rfl | omega)⟩
  · rw [if_neg h]
    simp only [h, if_false] at ht
    refine call_eq ?_ K
    rw [call_env Try.func35 rfl Try.ntmps35 rfl rfl (by simp)]
    have hso : soilW a.next [] q = [q] := by unfold soilW; rw [if_pos hqn]; rfl
    rw [hso] at ht
    simp -dsimp (maxSteps := 4000000) (disch := first | omega | assumption | (simp only [FB, Nat.reduceAdd]; done) | (simp only [LB]; omega)) only [EB, ↓reduceIte, WB, Nat.reduceSub, Nat.reduceAdd, Int.reduceEq, Int.reduceNe, Int.reduceLT, Int.reduceLE, Int.reduceAdd, Int.reduceSub, Int.reduceMul, Int.reduceNeg, Int.reduceToNat, Nat.reduceEqDiff, Nat.reduceLT, Nat.reduceLeDiff, Nat.reduceMul, List.replicate, reduceCtorEq, TB, NB, eql_ptr und57, show ¬ (n : Int) < 0 by omega, ht]
    simp only [leave_soiled]
    exact ⟨(by first | trivial | rfl | omega), (by first | trivial | rfl | omega)⟩
end Go.Proofs.YtpcaoohacgkeiaaAM
