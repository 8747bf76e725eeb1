/- Chapter 3: both devices made; how much is asked. -/
import Derived.Test.YtgdmgolmeeigdaaD18
namespace Go.Proofs.YtgdmgolmeeigdaaAM
open Go Go.RowKit
set_option linter.unusedVariables false
set_option linter.unusedSimpArgs false
set_option maxRecDepth 10000
set_option maxHeartbeats 4000000

theorem size54 : typeSize Try.prog 54 = some 5 := rfl
theorem und46 : Try.prog.underlying 46 = some (.slice 54) := rfl
theorem und22' : Try.prog.underlying 22 = some (.slice 3) := rfl
theorem agg54 : aggB Try.prog 54 = some true := rfl
theorem agg22 : aggB Try.prog 22 = some false := rfl
theorem fo54_0 : fldOff Try.prog 54 0 = some 0 := rfl
theorem fo54_1 : fldOff Try.prog 54 1 = some 1 := rfl
theorem fo54_2 : fldOff Try.prog 54 2 = some 2 := rfl
theorem fo54_3 : fldOff Try.prog 54 3 = some 3 := rfl
theorem fo54_4 : fldOff Try.prog 54 4 = some 4 := rfl
def newBad (s c : Int) : Prop := ¬ goodSz s ∨ c < 2 ∨ 1048576 < c
theorem new11_bad (s c : Int) (hb : newBad s c) (im : List UInt8) (a : AW) (K) : WCall Try.prog GV 11 [.int .i64 s, .int .i64 c, .string (mkStr im)] a K = K (.tuple #[.pointer none, .int .i64 2]) a := by
  refine call_eq ?_ K
  rw [call_env Try.func11 rfl Try.ntmps11 rfl rfl (by simp)]
  by_cases h1 : goodSz s
  · by_cases h2 : c < 2
    · simp -dsimp (maxSteps := 4000000) (disch := first | omega | assumption | (simp only [FB, Nat.reduceAdd]; done) | (simp only [LB]; omega)) only [EB, ↓reduceIte, WB, Nat.reduceSub, Nat.reduceAdd, Int.reduceEq, Int.reduceNe, Int.reduceLT, Int.reduceLE, Int.reduceAdd, Int.reduceSub, Int.reduceMul, Int.reduceNeg, Int.reduceToNat, Nat.reduceEqDiff, Nat.reduceLT, Nat.reduceLeDiff, Nat.reduceMul, List.replicate, reduceCtorEq, op_len und9 rfl, good28, h1, h2]
      exact ⟨(by first | trivial | rfl | omega), (by first | trivial | rfl | omega)⟩
    · have h3 : 1048576 < c := by rcases hb with h | h | h; exact absurd h1 h; exact absurd h h2; exact h
      simp -dsimp (maxSteps := 4000000) (disch := first | omega | assumption | (simp only [FB, Nat.reduceAdd]; done) | (simp only [LB]; omega)) only [EB, ↓reduceIte, WB, Nat.reduceSub, Nat.reduceAdd, Int.reduceEq, Int.reduceNe, Int.reduceLT, Int.reduceLE, Int.reduceAdd, Int.reduceSub, Int.reduceMul, Int.reduceNeg, Int.reduceToNat, Nat.reduceEqDiff, Nat.reduceLT, Nat.reduceLeDiff, Nat.reduceMul, List.replicate, reduceCtorEq, op_len und9 rfl, good28, h1, h2, h3]
      exact ⟨(by first | trivial | rfl | omega), (by first | trivial | rfl | omega)⟩
  · simp -dsimp (maxSteps := 4000000) (disch := first | omega | assumption | (simp only [FB, Nat.reduceAdd]; done) | (simp only [LB]; omega)) only [EB, ↓reduceIte, WB, Nat.reduceSub, Nat.reduceAdd, Int.reduceEq, Int.reduceNe, Int.reduceLT, Int.reduceLE, Int.reduceAdd, Int.reduceSub, Int.reduceMul, Int.reduceNeg, Int.reduceToNat, Nat.reduceEqDiff, Nat.reduceLT, Nat.reduceLeDiff, Nat.reduceMul, List.replicate, reduceCtorEq, op_len und9 rfl, good28, h1]
    exact ⟨(by first | trivial | rfl | omega), (by first | trivial | rfl | omega)⟩
theorem new11_full (im : List UInt8) (him : im.length ≤ 1000000) (c : Int) (hc : 2 ≤ c ∧ c ≤ 1048576) (hle : c < ((im.length / 128 : Nat) : Int)) (a : AW) (K) : WCall Try.prog GV 11 [.int .i64 128, .int .i64 c, .string (mkStr im)] a K = K (.tuple #[.pointer none, .int .i64 9]) a := by
  refine call_eq ?_ K
  rw [call_env Try.func11 rfl Try.ntmps11 rfl rfl (by simp)]
  have e1 : (im.length : Int).tdiv 128 = ((im.length / 128 : Nat) : Int) := by rw [Int.tdiv_eq_ediv_of_nonneg (by omega)]; omega
  simp -dsimp (maxSteps := 4000000) (disch := first | omega | assumption | (simp only [FB, Nat.reduceAdd]; done) | (simp only [LB]; omega)) only [EB, ↓reduceIte, WB, Nat.reduceSub, Nat.reduceAdd, Int.reduceEq, Int.reduceNe, Int.reduceLT, Int.reduceLE, Int.reduceAdd, Int.reduceSub, Int.reduceMul, Int.reduceNeg, Int.reduceToNat, Nat.reduceEqDiff, Nat.reduceLT, Nat.reduceLeDiff, Nat.reduceMul, List.replicate, reduceCtorEq, op_len und9 rfl, good28, show goodSz 128 by decide, show ¬ c < 2 by omega, show ¬ 1048576 < c by omega, op_len und9 rfl, e1, wrap64, hle]
  exact ⟨(by first | trivial | rfl | omega), (by first | trivial | rfl | omega)⟩
theorem new26_bad (s c : Int) (hb : newBad s c) (im : List UInt8) (a : AW) (K) : WCall Try.prog GV 26 [.int .i64 s, .int .i64 c, .string (mkStr im)] a K = K (.tuple #[.pointer none, .int .i64 2]) a := by
  refine call_eq ?_ K
  rw [call_env Try.func26 rfl Try.ntmps26 rfl rfl (by simp)]
  by_cases h1 : goodSz s
  · by_cases h2 : c < 2
    · simp -dsimp (maxSteps := 4000000) (disch := first | omega | assumption | (simp only [FB, Nat.reduceAdd]; done) | (simp only [LB]; omega)) only [EB, ↓reduceIte, WB, Nat.reduceSub, Nat.reduceAdd, Int.reduceEq, Int.reduceNe, Int.reduceLT, Int.reduceLE, Int.reduceAdd, Int.reduceSub, Int.reduceMul, Int.reduceNeg, Int.reduceToNat, Nat.reduceEqDiff, Nat.reduceLT, Nat.reduceLeDiff, Nat.reduceMul, List.replicate, reduceCtorEq, op_len und9 rfl, good29, h1, h2]
      exact ⟨(by first | trivial | rfl | omega), (by first | trivial | rfl | omega)⟩
    · have h3 : 1048576 < c := by rcases hb with h | h | h; exact absurd h1 h; exact absurd h h2; exact h
      simp -dsimp (maxSteps := 4000000) (disch := first | omega | assumption | (simp only [FB, Nat.reduceAdd]; done) | (simp only [LB]; omega)) only [EB, ↓reduceIte, WB, Nat.reduceSub, Nat.reduceAdd, Int.reduceEq, Int.reduceNe, Int.reduceLT, Int.reduceLE, Int.reduceAdd, Int.reduceSub, Int.reduceMul, Int.reduceNeg, Int.reduceToNat, Nat.reduceEqDiff, Nat.reduceLT, Nat.reduceLeDiff, Nat.reduceMul, List.replicate, reduceCtorEq, op_len und9 rfl, good29, h1, h2, h3]
      exact ⟨(by first | trivial | rfl | omega), (by first | trivial | rfl | omega)⟩
  · simp -dsimp (maxSteps := 4000000) (disch := first | omega | assumption | (simp only [FB, Nat.reduceAdd]; done) | (simp only [LB]; omega)) only [EB, ↓reduceIte, WB, Nat.reduceSub, Nat.reduceAdd, Int.reduceEq, Int.reduceNe, Int.reduceLT, Int.reduceLE, Int.reduceAdd, Int.reduceSub, Int.reduceMul, Int.reduceNeg, Int.reduceToNat, Nat.reduceEqDiff, Nat.reduceLT, Nat.reduceLeDiff, Nat.reduceMul, List.replicate, reduceCtorEq, op_len und9 rfl, good29, h1]
    exact ⟨(by first | trivial | rfl | omega), (by first | trivial | rfl | omega)⟩
theorem new26_full (im : List UInt8) (him : im.length ≤ 1000000) (c : Int) (hc : 2 ≤ c ∧ c ≤ 1048576) (hle : c < ((im.length / 128 : Nat) : Int)) (a : AW) (K) : WCall Try.prog GV 26 [.int .i64 128, .int .i64 c, .string (mkStr im)] a K = K (.tuple #[.pointer none, .int .i64 9]) a := by
  refine call_eq ?_ K
  rw [call_env Try.func26 rfl Try.ntmps26 rfl rfl (by simp)]
  have e1 : (im.length : Int).tdiv 128 = ((im.length / 128 : Nat) : Int) := by rw [Int.tdiv_eq_ediv_of_nonneg (by omega)]; omega
  simp -dsimp (maxSteps := 4000000) (disch := first | omega | assumption | (simp only [FB, Nat.reduceAdd]; done) | (simp only [LB]; omega)) only [EB, ↓reduceIte, WB, Nat.reduceSub, Nat.reduceAdd, Int.reduceEq, Int.reduceNe, Int.reduceLT, Int.reduceLE, Int.reduceAdd, Int.reduceSub, Int.reduceMul, Int.reduceNeg, Int.reduceToNat, Nat.reduceEqDiff, Nat.reduceLT, Nat.reduceLeDiff, Nat.reduceMul, List.replicate, reduceCtorEq, op_len und9 rfl, good29, show goodSz 128 by decide, show ¬ c < 2 by omega, show ¬ 1048576 < c by omega, op_len und9 rfl, e1, wrap64, hle]
  exact ⟨(by first | trivial | rfl | omega), (by first | trivial | rfl | omega)⟩
theorem build60 {a b f : Int} {c d : List UInt8} : buildA Try.prog 60 [(0, .int .i64 a), (1, .int .i64 b), (2, .string (mkStr c)), (4, .string (mkStr d)), (5, .int .i64 f)] = some (.agg (refC a b c (.slice none 0 0) d f 0).toArray) := rfl
theorem new26 (im : List UInt8) (him : im.length ≤ 1000000) (c : Int) (hc : 2 ≤ c ∧ c ≤ 1048576) (hle : ((im.length / 128 : Nat) : Int) ≤ c) (a : AW) (K) :
    WCall Try.prog GV 26 [.int .i64 128, .int .i64 c, .string (mkStr im)] a K = K (.tuple #[.pointer (some ⟨a.next, 0, none⟩), .int .i64 0]) ⟨a.next + 1, (a.next, .cells (refC 128 c im (.slice none 0 0) im (-1) 0) true) :: a.heap, a.base, a.dirty⟩ := by
  refine call_eq ?_ K
  rw [call_env Try.func26 rfl Try.ntmps26 rfl rfl (by simp)]
  have e1 : (im.length : Int).tdiv 128 = ((im.length / 128 : Nat) : Int) := by rw [Int.tdiv_eq_ediv_of_nonneg (by omega)]; omega
  simp -dsimp (maxSteps := 4000000) (disch := first | omega | assumption | (simp only [FB, Nat.reduceAdd]; done) | (simp only [LB]; omega)) only [EB, ↓reduceIte, WB, Nat.reduceSub, Nat.reduceAdd, Int.reduceEq, Int.reduceNe, Int.reduceLT, Int.reduceLE, Int.reduceAdd, Int.reduceSub, Int.reduceMul, Int.reduceNeg, Int.reduceToNat, Nat.reduceEqDiff, Nat.reduceLT, Nat.reduceLeDiff, Nat.reduceMul, List.replicate, reduceCtorEq, op_len und9 rfl, good29, show goodSz 128 by decide, show ¬ c < 2 by omega, show ¬ 1048576 < c by omega, op_len und9 rfl, e1, wrap64, show ¬ c < ((im.length / 128 : Nat) : Int) by omega]
  simp -dsimp (maxSteps := 4000000) (disch := first | omega | assumption | (simp only [FB, Nat.reduceAdd]; done) | (simp only [LB]; omega)) only [EB, ↓reduceIte, WB, Nat.reduceSub, Nat.reduceAdd, Int.reduceEq, Int.reduceNe, Int.reduceLT, Int.reduceLE, Int.reduceAdd, Int.reduceSub, Int.reduceMul, Int.reduceNeg, Int.reduceToNat, Nat.reduceEqDiff, Nat.reduceLT, Nat.reduceLeDiff, Nat.reduceMul, List.replicate, reduceCtorEq, op_len und9 rfl, build60]
  rw [leave_freshPtr2 rfl (Nat.le_refl _) look_self rfl]
  simp -dsimp (maxSteps := 4000000) (disch := first | omega | assumption | (simp only [FB, Nat.reduceAdd]; done) | (simp only [LB]; omega)) only [EB, ↓reduceIte, WB, Nat.reduceSub, Nat.reduceAdd, Int.reduceEq, Int.reduceNe, Int.reduceLT, Int.reduceLE, Int.reduceAdd, Int.reduceSub, Int.reduceMul, Int.reduceNeg, Int.reduceToNat, Nat.reduceEqDiff, Nat.reduceLT, Nat.reduceLeDiff, Nat.reduceMul, List.replicate, reduceCtorEq, op_len und9 rfl, ]
  exact ⟨(by first | trivial | rfl | omega), (by first | trivial | rfl | omega)⟩
/-- How an act is read. -/
def ActR : Rep0 Act := fun x h n ac => ∃ v, ac = [.int .i64 x.kind, .int .u32 x.n, .string (mkStr x.block), v, .int .i64 x.at_] ∧ ListV encI h n v x.keep ∧ -9223372036854775808 ≤ x.kind ∧ (0 ≤ x.n ∧ x.n ≤ 4294967295) ∧ x.at_ ≤ 9223372036854775807 ∧ x.keep.length ≤ 17592186043904
theorem act_keeps : KeepsR ActR := by
  rintro x h n ac h' n' ⟨v, e, hv, h1, h2, h3⟩ hn hl
  exact ⟨v, e, hv.keep hn hl, h1, h2, h3⟩
def lightN (l : List Act) : Nat := (l.map fun a => min a.block.length 300 + min a.keep.length 100).sum
def lightB (im : List UInt8) (l : List Act) : Bool := decide (im.length ≤ 1500) && (decide (l.length ≤ 30) && decide (lightN l ≤ 3000))
theorem lightN_le (l : List Act) : lightN l ≤ 400 * l.length := by
  induction l with
  | nil => simp [lightN]
  | cons a l ih => simp only [lightN, List.map_cons, List.sum_cons, List.length_cons] at *; omega
theorem light25 (im : List UInt8) (him : im.length ≤ 9223372036854775807) (l : List Act) (hll : l.length ≤ 140737488355328) (v : Value) (a : AW) (hv : SliceR ActR 5 l a.heap a.next [v]) (K) : WCall Try.prog GV 25 [.string (mkStr im), v] a K = K (.bool (lightB im l)) a := by
  refine call_eq ?_ K
  rw [call_env Try.func25 rfl Try.ntmps25 rfl rfl (by simp)]
  obtain ⟨p, c, rfl⟩ := hv.len
  simp -dsimp (maxSteps := 4000000) (disch := first | omega | assumption | (simp only [FB, Nat.reduceAdd]; done) | (simp only [LB]; omega)) only [EB, ↓reduceIte, WB, Nat.reduceSub, Nat.reduceAdd, Int.reduceEq, Int.reduceNe, Int.reduceLT, Int.reduceLE, Int.reduceAdd, Int.reduceSub, Int.reduceMul, Int.reduceNeg, Int.reduceToNat, Nat.reduceEqDiff, Nat.reduceLT, Nat.reduceLeDiff, Nat.reduceMul, List.replicate, reduceCtorEq, op_len und9 rfl, ]
  refine loop_inv (fun k t w => ∃ i n : Nat, ∃ e, k = l.length - i ∧ i ≤ l.length ∧ a.next ≤ n ∧ w = ⟨n, a.heap, a.next, []⟩ ∧ t = TT 42 e ∧ e 0 = .string (mkStr im) ∧ e 1 = .slice p l.length c ∧ e 5 = .int .i64 (lightN (l.take i)) ∧ e 6 = .int .i64 i) ⟨0, a.next, _, rfl, by omega, Nat.le_refl _, rfl, rfl, rfl, rfl, rfl, rfl⟩ ?_
  rintro k t w ⟨i, n, e, hk, hi, hn, rfl, rfl, e0, e1, e5, e6⟩
  have hN := lightN_le (l.take i)
  rw [List.length_take] at hN
  by_cases hlt : i < l.length
  · have hli : l[i]? = some l[i] := List.getElem?_eq_getElem hlt
    obtain ⟨q, fl, ac, rfl0, hqn, hq, hl5, hle, hat, htk, ⟨kv, rfl, hkv, hb⟩⟩ := hv.elem hli
    cases rfl0
    obtain ⟨kp, kc, rfl⟩ := hkv.len
    have h2 := hat 2 (by omega)
    have h3 := hat 3 (by omega)
    simp only [List.getElem?_cons_succ, List.getElem?_cons_zero] at h2 h3
    have hst : lightN (l.take (i + 1)) = lightN (l.take i) + (min l[i].block.length 300 + min l[i].keep.length 100) := by
      unfold lightN; rw [List.take_add_one, hli]; simp only [Option.toList_some, List.map_append, List.map_cons, List.map_nil, List.sum_append, List.sum_cons, List.sum_nil, Nat.add_zero]
    simp -dsimp (maxSteps := 4000000) (disch := first | omega | assumption | (simp only [FB, Nat.reduceAdd]; done) | (simp only [LB]; omega)) only [EB, ↓reduceIte, WB, Nat.reduceSub, Nat.reduceAdd, Int.reduceEq, Int.reduceNe, Int.reduceLT, Int.reduceLE, Int.reduceAdd, Int.reduceSub, Int.reduceMul, Int.reduceNeg, Int.reduceToNat, Nat.reduceEqDiff, Nat.reduceLT, Nat.reduceLeDiff, Nat.reduceMul, List.replicate, reduceCtorEq, op_len und9 rfl, e0, e1, e5, e6, op_len und46 rfl, show ((i : Int) < l.length) by omega]
    refine code_draw [(0, 1), (0, 2), (0, 3), (0, 4), (0, 5), (0, 6), (0, 7), (0, 9), (0, 10), (0, 11), (0, 12), (0, 13), (0, 14), (0, 15), (1, 2), (1, 9), (1, 10), (1, 11), (1, 12), (1, 13), (1, 14), (1, 15), (2, 9), (2, 10), (2, 11), (2, 12), (2, 13), (2, 14), (2, 15), (3, 9), (3, 10), (3, 11), (3, 12), (3, 13), (3, 14), (3, 15), (4, 9), (4, 10), (4, 11), (4, 12), (4, 13), (4, 14), (4, 15), (5, 9), (5, 10), (5, 11), (5, 12), (5, 13), (5, 14), (5, 15), (6, 9), (6, 10), (6, 11), (6, 12), (6, 13), (6, 14), (6, 15), (7, 9), (7, 10), (7, 11), (7, 12), (7, 13), (7, 14), (7, 15), (8, 9), (8, 10), (8, 11), (8, 12), (8, 13), (8, 14), (8, 15), (9, 10)] (by decide +kernel) (by decide +kernel) ?_
    simp -dsimp (maxSteps := 4000000) (disch := first | omega | assumption | (simp only [FB, Nat.reduceAdd]; done) | (simp only [LB]; omega)) only [EB, ↓reduceIte, WB, Nat.reduceSub, Nat.reduceAdd, Int.reduceEq, Int.reduceNe, Int.reduceLT, Int.reduceLE, Int.reduceAdd, Int.reduceSub, Int.reduceMul, Int.reduceNeg, Int.reduceToNat, Nat.reduceEqDiff, Nat.reduceLT, Nat.reduceLeDiff, Nat.reduceMul, List.replicate, reduceCtorEq, RB, Nat.reduceEqDiff, op_len und9 rfl, e0, e1, e5, e6, indexAddr_slice und46 size54, op_fa fo54_2, op_fa fo54_3, load_one agg9, load_one agg22, hq, h2, h3, note_len und9 rfl, note_len und22 rfl, op_len und22 rfl, wrap64]
    refine ⟨l.length - (i + 1), by omega, i + 1, n + 1, _, rfl, by omega, by omega, rfl, rfl, ?_⟩
    simp only [ups_at, ↓reduceIte, Nat.reduceEqDiff]
    refine ⟨e0, e1, ?_, (by first | trivial | rfl | omega)⟩
    rw [hst]; congr 1; omega
  · have hi2 : i = l.length := by omega
    subst hi2
    rw [List.take_length] at e5
    by_cases c1 : (im.length : Int) ≤ 1500
    · by_cases c2 : (l.length : Int) ≤ 30
      · simp -dsimp (maxSteps := 4000000) (disch := first | omega | assumption | (simp only [FB, Nat.reduceAdd]; done) | (simp only [LB]; omega)) only [EB, ↓reduceIte, WB, Nat.reduceSub, Nat.reduceAdd, Int.reduceEq, Int.reduceNe, Int.reduceLT, Int.reduceLE, Int.reduceAdd, Int.reduceSub, Int.reduceMul, Int.reduceNeg, Int.reduceToNat, Nat.reduceEqDiff, Nat.reduceLT, Nat.reduceLeDiff, Nat.reduceMul, List.replicate, reduceCtorEq, op_len und9 rfl, e0, e1, e5, e6, op_len und46 rfl, op_len und9 rfl, show ¬ ((l.length : Int) < l.length) by omega, c1, c2]
        refine ⟨?_, trivial⟩
        unfold lightB
        rw [decide_eq_true (show im.length ≤ 1500 by omega), decide_eq_true (show l.length ≤ 30 by omega), Bool.true_and, Bool.true_and]
        congr 1
        exact decide_eq_decide.2 (by omega)
      · simp -dsimp (maxSteps := 4000000) (disch := first | omega | assumption | (simp only [FB, Nat.reduceAdd]; done) | (simp only [LB]; omega)) only [EB, ↓reduceIte, WB, Nat.reduceSub, Nat.reduceAdd, Int.reduceEq, Int.reduceNe, Int.reduceLT, Int.reduceLE, Int.reduceAdd, Int.reduceSub, Int.reduceMul, Int.reduceNeg, Int.reduceToNat, Nat.reduceEqDiff, Nat.reduceLT, Nat.reduceLeDiff, Nat.reduceMul, List.replicate, reduceCtorEq, op_len und9 rfl, e0, e1, e5, e6, op_len und46 rfl, op_len und9 rfl, show ¬ ((l.length : Int) < l.length) by omega, c1, c2]
        refine ⟨?_, trivial⟩
        unfold lightB
        rw [decide_eq_false (show ¬ l.length ≤ 30 by omega), Bool.false_and, Bool.and_false]
    · simp -dsimp (maxSteps := 4000000) (disch := first | omega | assumption | (simp only [FB, Nat.reduceAdd]; done) | (simp only [LB]; omega)) only [EB, ↓reduceIte, WB, Nat.reduceSub, Nat.reduceAdd, Int.reduceEq, Int.reduceNe, Int.reduceLT, Int.reduceLE, Int.reduceAdd, Int.reduceSub, Int.reduceMul, Int.reduceNeg, Int.reduceToNat, Nat.reduceEqDiff, Nat.reduceLT, Nat.reduceLeDiff, Nat.reduceMul, List.replicate, reduceCtorEq, op_len und9 rfl, e0, e1, e5, e6, op_len und46 rfl, op_len und9 rfl, show ¬ ((l.length : Int) < l.length) by omega, c1]
      refine ⟨?_, trivial⟩
      unfold lightB
      rw [decide_eq_false (show ¬ im.length ≤ 1500 by omega), Bool.false_and]
end Go.Proofs.YtgdmgolmeeigdaaAM
