/- Chapter 3: lists of numbers. -/
import Derived.Test.YtgdmgolmeeigdaaD7
namespace Go.Proofs.YtgdmgolmeeigdaaAM
open Go Go.RowKit
set_option linter.unusedVariables false
set_option linter.unusedSimpArgs false
set_option maxRecDepth 10000
set_option maxHeartbeats 4000000

abbrev encI (x : Int) : List Value := [.int .i64 x]
theorem flat_encI (xs : List Int) : xs.flatMap (fun x => [Value.int .i64 x]) = xs.map (.int .i64) := by
  induction xs with
  | nil => rfl
  | cons x xs ih => rw [List.flatMap_cons, ih]; rfl
def idx (xs : List Int) (x : Int) : Int := if x ∈ xs then (xs.idxOf x : Int) else -1
theorem idx_at : ∀ {xs : List Int} {x : Int} {i : Nat}, xs[i]? = some x → (∀ j, j < i → xs[j]? ≠ some x) → idx xs x = i
  | [], x, i, h, _ => by simp at h
  | y :: ys, x, 0, h, _ => by
    simp at h; subst h
    simp [idx]
  | y :: ys, x, i + 1, h, hn => by
    have hy : y ≠ x := by
      intro e; exact hn 0 (by omega) (by simp [e])
    have ih := idx_at (xs := ys) (x := x) (i := i) (by simpa using h) (fun j hj => by have := hn (j + 1) (by omega); simpa using this)
    unfold idx at ih ⊢
    have hm : x ∈ ys := List.mem_of_getElem? (by simpa using h)
    rw [if_pos hm] at ih
    rw [if_pos (List.mem_cons_of_mem _ hm), List.idxOf_cons]
    simp only [beq_iff_eq, hy, if_false, cond_false, show (y == x) = false by simpa using hy]
    omega
theorem idx_not {xs : List Int} {x : Int} (h : ∀ j, j < xs.length → xs[j]? ≠ some x) : idx xs x = -1 := by
  unfold idx
  rw [if_neg]
  intro hm
  obtain ⟨j, hj, e⟩ := List.getElem_of_mem hm
  exact h j hj (by rw [List.getElem?_eq_getElem hj, e])
theorem idx_pos {xs : List Int} {x : Int} : decide (0 ≤ idx xs x) = decide (x ∈ xs) := by
  unfold idx
  by_cases h : x ∈ xs
  · simp [h]
  · simp [h]
theorem und22 : Try.prog.underlying 22 = some (.slice 3) := rfl
/-- A list that is read, its block at hand. -/
theorem ListV.at {α : Type} {enc : α → List Value} {h : List (Nat × Blk)} {n : Nat} {p : Option Addr} {cp : Nat} {xs : List α} (hv : ListV enc h n (.slice p xs.length cp) xs) {i : Nat} (hi : i < xs.length) :
    ∃ b sp cap rw, Value.slice p xs.length cp = .slice (some ⟨b, 0, sp⟩) xs.length cap ∧ look b h = some (.cells (xs.flatMap enc) rw) ∧ b < n := by
  rcases hv with ⟨_, h⟩ | h
  · rw [h] at hi; simp at hi
  · exact h
theorem index45 (v : Value) (xs : List Int) (x : Int) (a : AW) (hv : ListV encI a.heap a.next v xs) (hl : xs.length ≤ 17592186043904) (K) : WCall Try.prog GV 45 [v, .int .i64 x] a K = K (.int .i64 (idx xs x)) a := by
  refine call_eq ?_ K
  rw [call_body' Try.func45 rfl Try.ntmps45 rfl rfl]
  obtain ⟨p, cp, rfl⟩ := hv.len
  simp -dsimp (maxSteps := 4000000) (disch := first | omega | assumption | (simp only [FB, Nat.reduceAdd]; done) | (simp only [LB]; omega)) only [WB, Nat.reduceSub, Nat.reduceAdd, Int.reduceEq, Int.reduceNe, Int.reduceLT, Int.reduceLE, Int.reduceAdd, Int.reduceSub, Int.reduceMul, Int.reduceNeg, Int.reduceToNat, Nat.reduceEqDiff, Nat.reduceLT, Nat.reduceLeDiff, Nat.reduceMul, List.replicate, reduceCtorEq, op_len und9 rfl, op_len und22 rfl]
  refine loop_inv (fun k t w => ∃ i : Nat, k = xs.length - i ∧ i ≤ xs.length ∧ (∀ j, j < i → xs[j]? ≠ some x) ∧ w = ⟨a.next, a.heap, a.next, []⟩ ∧ t.length = 19 ∧ getT t 0 = .slice p xs.length cp ∧ getT t 1 = .int .i64 x ∧ getT t 7 = .int .i64 xs.length ∧ getT t 8 = .int .i64 i) ⟨0, rfl, by omega, fun j hj => by omega, rfl, rfl, rfl, rfl, rfl, rfl⟩ ?_
  rintro k t w ⟨i, hk, hi, hn, rfl, ht, h0, h1, h7, h8⟩
  obtain ⟨g, rfl⟩ : ∃ g : Nat → Value, t = [g 0, g 1, g 2, g 3, g 4, g 5, g 6, g 7, g 8, g 9, g 10, g 11, g 12, g 13, g 14, g 15, g 16, g 17, g 18] := ⟨getT t, expand ht⟩
  simp only [getT_zero, getT_succ] at h0 h1 h7 h8
  by_cases hlt : i < xs.length
  · obtain ⟨b, sp, cap, rw, e, hb, hbn⟩ := hv.at hlt
    cases e
    rw [flat_encI] at hb
    have hxi : xs[i]? = some xs[i] := List.getElem?_eq_getElem hlt
    by_cases he : x = xs[i]
    · have hid := idx_at (xs := xs) (x := x) (i := i) (by rw [hxi, ← he]) hn
      simp -dsimp (maxSteps := 4000000) (disch := first | omega | assumption | (simp only [FB, Nat.reduceAdd]; done) | (simp only [LB]; omega)) only [WB, Nat.reduceSub, Nat.reduceAdd, Int.reduceEq, Int.reduceNe, Int.reduceLT, Int.reduceLE, Int.reduceAdd, Int.reduceSub, Int.reduceMul, Int.reduceNeg, Int.reduceToNat, Nat.reduceEqDiff, Nat.reduceLT, Nat.reduceLeDiff, Nat.reduceMul, List.replicate, reduceCtorEq, op_len und9 rfl, h0, h1, h7, h8, show ((i : Int) < xs.length) by omega, indexAddr_slice und22 size3, load_one agg3, hb, List.getElem?_map, hxi, he, eq_self]
      rw [← he, hid]; exact ⟨rfl, trivial⟩
    · simp -dsimp (maxSteps := 4000000) (disch := first | omega | assumption | (simp only [FB, Nat.reduceAdd]; done) | (simp only [LB]; omega)) only [WB, Nat.reduceSub, Nat.reduceAdd, Int.reduceEq, Int.reduceNe, Int.reduceLT, Int.reduceLE, Int.reduceAdd, Int.reduceSub, Int.reduceMul, Int.reduceNeg, Int.reduceToNat, Nat.reduceEqDiff, Nat.reduceLT, Nat.reduceLeDiff, Nat.reduceMul, List.replicate, reduceCtorEq, op_len und9 rfl, h0, h1, h7, h8, show ((i : Int) < xs.length) by omega, indexAddr_slice und22 size3, load_one agg3, hb, List.getElem?_map, hxi, he, wrap64, eq_self]
      refine ⟨trivial, xs.length - (i + 1), by omega, i + 1, rfl, by omega, fun j hj => ?_, trivial, trivial, trivial, trivial, trivial, (by first | trivial | rfl | omega)⟩
      by_cases hji : j = i
      · subst hji; rw [hxi]; intro e; exact he (by simpa using e.symm)
      · exact hn j (by omega)
  · have hid := idx_not (xs := xs) (x := x) fun j hj => hn j (by omega)
    simp -dsimp (maxSteps := 4000000) (disch := first | omega | assumption | (simp only [FB, Nat.reduceAdd]; done) | (simp only [LB]; omega)) only [WB, Nat.reduceSub, Nat.reduceAdd, Int.reduceEq, Int.reduceNe, Int.reduceLT, Int.reduceLE, Int.reduceAdd, Int.reduceSub, Int.reduceMul, Int.reduceNeg, Int.reduceToNat, Nat.reduceEqDiff, Nat.reduceLT, Nat.reduceLeDiff, Nat.reduceMul, List.replicate, reduceCtorEq, op_len und9 rfl, h0, h1, h7, h8, show ¬ ((i : Int) < xs.length) by omega, hid, eq_self]
    exact ⟨trivial, trivial⟩
theorem contains35 (v : Value) (xs : List Int) (x : Int) (a : AW) (hv : ListV encI a.heap a.next v xs) (hl : xs.length ≤ 17592186043904) (K) : WCall Try.prog GV 35 [v, .int .i64 x] a K = K (.bool (decide (x ∈ xs))) a := by
  refine call_eq ?_ K
  rw [call_body' Try.func35 rfl Try.ntmps35 rfl rfl]
  simp -dsimp (maxSteps := 4000000) (disch := first | omega | assumption | (simp only [FB, Nat.reduceAdd]; done) | (simp only [LB]; omega)) only [WB, Nat.reduceSub, Nat.reduceAdd, Int.reduceEq, Int.reduceNe, Int.reduceLT, Int.reduceLE, Int.reduceAdd, Int.reduceSub, Int.reduceMul, Int.reduceNeg, Int.reduceToNat, Nat.reduceEqDiff, Nat.reduceLT, Nat.reduceLeDiff, Nat.reduceMul, List.replicate, reduceCtorEq, op_len und9 rfl, index45 v xs x ⟨a.next, a.heap, a.next, []⟩ hv hl, idx_pos]
  simp
theorem elem22 : elemCells Try.prog 22 = some (3, 1) := rfl
theorem app22 : appOk Try.prog 22 22 1 = true := by decide +kernel
theorem app22B : appOkB 8 Try.prog 22 22 1 = true := by decide +kernel
theorem own15 (v : Value) (xs : List Int) (hl : xs.length ≤ 17592186043904) {h : List (Nat × Blk)} {n bs : Nat} {d : List Nat} (hv : ListV encI h n v xs) (K : Value → AW → Prop)
    (hK : ∀ v' n' h', ListV encI h' n' v' xs → n ≤ n' → (∀ j, j < n → look j h' = look j h) → K v' ⟨n', h', bs, d⟩) : WCall Try.prog GV 15 [v] ⟨n, h, bs, d⟩ K := by
  rw [call_body' Try.func15 rfl Try.ntmps15 rfl rfl]
  obtain ⟨p, cp, rfl⟩ := hv.len
  simp -dsimp (maxSteps := 4000000) (disch := first | omega | assumption | (simp only [FB, Nat.reduceAdd]; done) | (simp only [LB]; omega)) only [WB, Nat.reduceSub, Nat.reduceAdd, Int.reduceEq, Int.reduceNe, Int.reduceLT, Int.reduceLE, Int.reduceAdd, Int.reduceSub, Int.reduceMul, Int.reduceNeg, Int.reduceToNat, Nat.reduceEqDiff, Nat.reduceLT, Nat.reduceLeDiff, Nat.reduceMul, List.replicate, reduceCtorEq, op_len und9 rfl, buildSl0 elem22]
  obtain ⟨b, sp, n', h', e, hb, h1, h2, h3⟩ := app_ownB (E := Try.prog) (t0 := 22) (t1 := 22) (z := 1) (y := 2) (bs := n) (d := []) app22 app22B rfl (fun x => rfl) (fun x => rfl) hv (Nat.le_refl _) (by omega) (by omega)
  rw [e]
  simp -dsimp (maxSteps := 4000000) (disch := first | omega | assumption | (simp only [FB, Nat.reduceAdd]; done) | (simp only [LB]; omega)) only [WB, Nat.reduceSub, Nat.reduceAdd, Int.reduceEq, Int.reduceNe, Int.reduceLT, Int.reduceLE, Int.reduceAdd, Int.reduceSub, Int.reduceMul, Int.reduceNeg, Int.reduceToNat, Nat.reduceEqDiff, Nat.reduceLT, Nat.reduceLeDiff, Nat.reduceMul, List.replicate, reduceCtorEq, op_len und9 rfl, ]
  have hall : (xs.flatMap encI).all flat = true := by
    rw [List.all_eq_true]
    intro u hu
    obtain ⟨x, _, hx⟩ := List.mem_flatMap.1 hu
    simp at hx; rw [hx]; rfl
  rw [leave_fresh (p := ⟨b, 0, sp⟩) (by simpa using h1) hb hall]
  exact hK _ _ _ (.inr ⟨n, sp, _, true, rfl, look_self, Nat.lt_succ_self _⟩) (Nat.le_succ _) (fun j hj => look_miss (Nat.ne_of_lt hj))
end Go.Proofs.YtgdmgolmeeigdaaAM
