/- Chapter 3: small functions. -/
import Derived.Test.YtgdmgolmeeigdaaProg
import Derived.Test.YtgdmgolmeeigdaaAME
import Derived.KernelRfl
namespace Go.Proofs.YtgdmgolmeeigdaaAM
open Go Go.RowKit
set_option linter.unusedVariables false
set_option linter.unusedSimpArgs false
set_option maxRecDepth 10000
set_option maxHeartbeats 4000000

theorem und3 : Try.prog.underlying 3 = some (.int .i64) := rfl
theorem und4 : Try.prog.underlying 4 = some .bool := rfl
theorem und5 : Try.prog.underlying 5 = some (.int .u8) := rfl
theorem und9 : Try.prog.underlying 9 = some .string := rfl
theorem und31 : Try.prog.underlying 31 = some (.int .u32) := rfl
theorem und65 : Try.prog.underlying 65 = some (.int .u64) := rfl
theorem und26 : Try.prog.underlying 26 = some (.int .i64) := rfl
theorem und37 : Try.prog.underlying 37 = some (.slice 5) := rfl
theorem und62 : Try.prog.underlying 62 = some (.slice 68) := rfl
theorem und25 : Try.prog.underlying 25 = some (.pointer 64) := rfl
theorem size3 : typeSize Try.prog 3 = some 1 := rfl
theorem size9 : typeSize Try.prog 9 = some 1 := rfl
theorem size62 : typeSize Try.prog 62 = some 1 := rfl
theorem size64 : typeSize Try.prog 64 = some 7 := rfl
theorem agg3 : aggB Try.prog 3 = some false := rfl
theorem agg9 : aggB Try.prog 9 = some false := rfl
theorem agg62 : aggB Try.prog 62 = some false := rfl
theorem agg64 : aggB Try.prog 64 = some true := rfl
theorem agg68 : aggB Try.prog 68 = some false := rfl
theorem mixed : Try.prog.follows .mixedOrders = true := by kernel_rfl
theorem plain : plainNames Try.prog = true := by kernel_rfl
/-- What is known of calls that ask nothing: the chapter's example. -/
def kLives : Known := ⟨9, #[], .bool true⟩
theorem lives_holds : kLives.Holds Try.prog :=
  known_more mixed plain (l := []) (by intro k hk; cases hk) Try.func9 (by kernel_rfl) (n := 10000) rfl rfl (by kernel_rfl)
def GV : Gives := memo [kLives]
theorem known_all : ∀ k ∈ [kLives], k.Holds Try.prog := by
  intro k hk
  simp only [List.mem_singleton] at hk
  subst hk
  exact lives_holds
theorem lives9 (a : AW) (K) : WCall Try.prog GV 9 [] a K = K (.bool true) a := call_given rfl
def goodSz (x : Int) : Prop := 128 ≤ x ∧ x ≤ 4096 ∧ x.tmod 64 = 0
instance (x : Int) : Decidable (goodSz x) := by unfold goodSz; exact inferInstance
theorem good28 (x : Int) (a : AW) (K) : WCall Try.prog GV 28 [.int .i64 x] a K = K (.bool (decide (goodSz x))) a := by
  rw [call_body' Try.func28 rfl Try.ntmps28 rfl rfl]
  by_cases h1 : 128 ≤ x <;> by_cases h2 : x ≤ 4096 <;> by_cases h3 : x.tmod 64 = 0 <;> simp -dsimp (maxSteps := 4000000) (disch := first | omega | assumption | (simp only [FB, Nat.reduceAdd]; done) | (simp only [LB]; omega)) only [WB, Nat.reduceSub, Nat.reduceAdd, Int.reduceEq, Int.reduceNe, Int.reduceLT, Int.reduceLE, Int.reduceAdd, Int.reduceSub, Int.reduceMul, Int.reduceNeg, Int.reduceToNat, Nat.reduceEqDiff, Nat.reduceLT, Nat.reduceLeDiff, Nat.reduceMul, List.replicate, reduceCtorEq, op_len und9 rfl, h1, h2, h3] <;> simp [goodSz, h1, h2, h3]
def pick (n m : Int) : Int := n % m
theorem pick10 (n m : Int) (h1 : 1 ≤ m) (h2 : m ≤ 9223372036854775807) (hn : -9223372036854775808 ≤ n) (a : AW) (K) : WCall Try.prog GV 10 [.int .i64 n, .int .i64 m] a K = K (.int .i64 (pick n m)) a := by
  rw [call_body' Try.func10 rfl Try.ntmps10 rfl rfl]
  have hm := Int.emod_nonneg n (show m ≠ 0 by omega)
  have hm2 := Int.emod_lt_of_pos n (show 0 < m by omega)
  by_cases h : n.tmod m < 0
  · have : n.tmod m + m = n % m := by
      rcases Int.lt_or_le n 0 with h0 | h0
      · rw [Int.tmod_eq_emod] at h ⊢
        split at h <;> split <;> omega
      · rw [Int.tmod_eq_emod_of_nonneg h0] at h; omega
    simp -dsimp (maxSteps := 4000000) (disch := first | omega | assumption | (simp only [FB, Nat.reduceAdd]; done) | (simp only [LB]; omega)) only [WB, Nat.reduceSub, Nat.reduceAdd, Int.reduceEq, Int.reduceNe, Int.reduceLT, Int.reduceLE, Int.reduceAdd, Int.reduceSub, Int.reduceMul, Int.reduceNeg, Int.reduceToNat, Nat.reduceEqDiff, Nat.reduceLT, Nat.reduceLeDiff, Nat.reduceMul, List.replicate, reduceCtorEq, op_len und9 rfl, show ¬ m < 1 by omega, h, this, wrap64, pick]
  · have : n.tmod m = n % m := by
      rcases Int.lt_or_le n 0 with h0 | h0
      · rw [Int.tmod_eq_emod] at h ⊢
        split at h <;> split <;> omega
      · rw [Int.tmod_eq_emod_of_nonneg h0]
    simp -dsimp (maxSteps := 4000000) (disch := first | omega | assumption | (simp only [FB, Nat.reduceAdd]; done) | (simp only [LB]; omega)) only [WB, Nat.reduceSub, Nat.reduceAdd, Int.reduceEq, Int.reduceNe, Int.reduceLT, Int.reduceLE, Int.reduceAdd, Int.reduceSub, Int.reduceMul, Int.reduceNeg, Int.reduceToNat, Nat.reduceEqDiff, Nat.reduceLT, Nat.reduceLeDiff, Nat.reduceMul, List.replicate, reduceCtorEq, op_len und9 rfl, show ¬ m < 1 by omega, h, this, wrap64, pick, show ¬ n % m < 0 by omega]
/-- Bytes so many times. -/
def rep (n : Nat) (l : List UInt8) : List UInt8 := (List.replicate n l).flatten
theorem rep_succ (n : Nat) (l : List UInt8) : rep (n + 1) l = l ++ rep n l := by simp [rep, List.replicate_succ]
theorem rep_two (n : Nat) (l : List UInt8) : rep n (l ++ l) = rep (2 * n) l := by
  induction n with
  | zero => rfl
  | succ n ih => rw [rep_succ, ih, show 2 * (n + 1) = 2 * n + 1 + 1 by omega, rep_succ, rep_succ, List.append_assoc]
theorem rep_len (n : Nat) (l : List UInt8) : (rep n l).length = n * l.length := by
  induction n with
  | zero => simp [rep]
  | succ n ih => rw [rep_succ, List.length_append, ih, Nat.add_mul]; omega
theorem times12 (l : List UInt8) (n : Nat) (hb : n ≤ 1000000) (hl : l.length ≤ 10000) (a : AW) (K) : WCall Try.prog GV 12 [.string (mkStr l), .int .i64 n] a K = K (.string (mkStr (rep n l))) a := by
  refine call_eq ?_ K
  rw [call_body' Try.func12 rfl Try.ntmps12 rfl rfl]
  simp -dsimp (maxSteps := 4000000) (disch := first | omega | assumption | (simp only [FB, Nat.reduceAdd]; done) | (simp only [LB]; omega)) only [WB, Nat.reduceSub, Nat.reduceAdd, Int.reduceEq, Int.reduceNe, Int.reduceLT, Int.reduceLE, Int.reduceAdd, Int.reduceSub, Int.reduceMul, Int.reduceNeg, Int.reduceToNat, Nat.reduceEqDiff, Nat.reduceLT, Nat.reduceLeDiff, Nat.reduceMul, List.replicate, reduceCtorEq, op_len und9 rfl, ]
  refine loop_inv (fun k t w => ∃ m : Nat, ∃ u o : List UInt8, k = m ∧ m ≤ n ∧ o ++ rep m u = rep n l ∧ (m = 0 ∨ u.length * m ≤ 10000000000) ∧ o.length ≤ 10000000000 ∧ u.length ≤ 20000000000 ∧ w = ⟨a.next, a.heap, a.next, []⟩ ∧ t.length = 20 ∧ getT t 0 = .string (mkStr u) ∧ getT t 1 = .int .i64 m ∧ getT t 5 = .string (mkStr o)) ⟨n, l, [], rfl, Nat.le_refl _, rfl, .inr ?_, by simp, by omega, rfl, rfl, rfl, rfl, rfl⟩ ?_
  · have := Nat.mul_le_mul hl hb; omega
  rintro k t w ⟨m, u, o, rfl, hmn, hr, hu, ho, hul, rfl, ht, t0, t1, t5⟩
  obtain ⟨g, rfl⟩ : ∃ g : Nat → Value, t = [g 0, g 1, g 2, g 3, g 4, g 5, g 6, g 7, g 8, g 9, g 10, g 11, g 12, g 13, g 14, g 15, g 16, g 17, g 18, g 19] := ⟨getT t, expand ht⟩
  simp only [getT_zero, getT_succ] at t0 t1 t5
  have hol : o.length + k * u.length = n * l.length := by
    have := congrArg List.length hr
    rwa [List.length_append, rep_len, rep_len] at this
  have hnl : n * l.length ≤ 10000000000 := by
    have := Nat.mul_le_mul hb hl; omega
  by_cases h0 : k = 0
  · subst h0
    have ho0 : o = rep n l := by simpa [rep] using hr
    simp -dsimp (maxSteps := 4000000) (disch := first | omega | assumption | (simp only [FB, Nat.reduceAdd]; done) | (simp only [LB]; omega)) only [WB, Nat.reduceSub, Nat.reduceAdd, Int.reduceEq, Int.reduceNe, Int.reduceLT, Int.reduceLE, Int.reduceAdd, Int.reduceSub, Int.reduceMul, Int.reduceNeg, Int.reduceToNat, Nat.reduceEqDiff, Nat.reduceLT, Nat.reduceLeDiff, Nat.reduceMul, List.replicate, reduceCtorEq, op_len und9 rfl, t0, t1, t5, Int.natCast_zero]
    simp [ho0]
  · have hum : u.length ≤ 10000000000 := by
      rcases hu with h | h
      · exact absurd h h0
      · have : u.length * 1 ≤ u.length * k := Nat.mul_le_mul_left _ (by omega)
        omega
    have e1 : (k : Int).tdiv 2 = ((k / 2 : Nat) : Int) := by rw [Int.tdiv_eq_ediv_of_nonneg (by omega)]; omega
    have e2 : (k : Int).tmod 2 = ((k % 2 : Nat) : Int) := by rw [Int.tmod_eq_emod_of_nonneg (by omega)]; omega
    have hkl : 1 * u.length ≤ k * u.length := Nat.mul_le_mul_right _ (by omega)
    have hhalf : (k / 2) * (u.length + u.length) ≤ k * u.length := by
      have : (k / 2 * 2) * u.length ≤ k * u.length := Nat.mul_le_mul_right _ (by omega)
      rw [Nat.mul_assoc] at this
      have e : 2 * u.length = u.length + u.length := by omega
      rwa [e] at this
    by_cases hodd : k % 2 = 1
    · simp -dsimp (maxSteps := 4000000) (disch := first | omega | assumption | (simp only [FB, Nat.reduceAdd]; done) | (simp only [LB]; omega)) only [WB, Nat.reduceSub, Nat.reduceAdd, Int.reduceEq, Int.reduceNe, Int.reduceLT, Int.reduceLE, Int.reduceAdd, Int.reduceSub, Int.reduceMul, Int.reduceNeg, Int.reduceToNat, Nat.reduceEqDiff, Nat.reduceLT, Nat.reduceLeDiff, Nat.reduceMul, List.replicate, reduceCtorEq, op_len und9 rfl, t0, t1, t5, show (0 : Int) < (k : Int) by omega, e1, e2, hodd, show (((1 : Nat) : Int) = 1) by rfl, str_add (show o.length + u.length ≤ 140737488355328 by omega), str_add (show u.length + u.length ≤ 140737488355328 by omega), wrap64, eq_self]
      refine ⟨(by first | trivial | rfl | omega), k / 2, by omega, k / 2, u ++ u, o ++ u, rfl, by omega, ?_, ?_, ?_, ?_, (by first | trivial | rfl | omega), (by first | trivial | rfl | omega), (by first | trivial | rfl | omega), (by first | trivial | rfl | omega), (by first | trivial | rfl | omega)⟩
      · rw [rep_two, List.append_assoc, ← rep_succ, show 2 * (k / 2) + 1 = k by omega]; exact hr
      · right; rw [List.length_append, Nat.mul_comm]; omega
      · rw [List.length_append]; omega
      · rw [List.length_append]; omega
    · simp -dsimp (maxSteps := 4000000) (disch := first | omega | assumption | (simp only [FB, Nat.reduceAdd]; done) | (simp only [LB]; omega)) only [WB, Nat.reduceSub, Nat.reduceAdd, Int.reduceEq, Int.reduceNe, Int.reduceLT, Int.reduceLE, Int.reduceAdd, Int.reduceSub, Int.reduceMul, Int.reduceNeg, Int.reduceToNat, Nat.reduceEqDiff, Nat.reduceLT, Nat.reduceLeDiff, Nat.reduceMul, List.replicate, reduceCtorEq, op_len und9 rfl, t0, t1, t5, show (0 : Int) < (k : Int) by omega, e1, e2, show k % 2 = 0 by omega, Int.natCast_zero, str_add (show u.length + u.length ≤ 140737488355328 by omega), wrap64, eq_self]
      refine ⟨(by first | trivial | rfl | omega), k / 2, by omega, k / 2, u ++ u, o, rfl, by omega, ?_, ?_, ho, ?_, (by first | trivial | rfl | omega), (by first | trivial | rfl | omega), (by first | trivial | rfl | omega), (by first | trivial | rfl | omega), (by first | trivial | rfl | omega)⟩
      · rw [rep_two, show 2 * (k / 2) = k by omega]; exact hr
      · right; rw [List.length_append, Nat.mul_comm]; omega
      · rw [List.length_append]; omega
end Go.Proofs.YtgdmgolmeeigdaaAM
