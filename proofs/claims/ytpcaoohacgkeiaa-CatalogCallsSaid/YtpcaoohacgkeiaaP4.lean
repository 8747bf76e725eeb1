/- Chapter 6: which catalogs may be. -/
import Derived.Test.YtpcaoohacgkeiaaP3
namespace Go.Proofs.YtpcaoohacgkeiaaAM
open Go Go.RowKit
set_option linter.unusedVariables false
set_option linter.unusedSimpArgs false
set_option maxRecDepth 10000
set_option maxHeartbeats 4000000

def lostN : List UInt8 := [108, 111, 115, 116, 43, 102, 111, 117, 110, 100]
def okAt (l : List Bkt) (j : Nat) : Prop := ∀ h : j < l.length, oneOk l[j] ∧ (∀ h0 : 0 < j, Op.bytesLess (l[j - 1]'(by omega)).name l[j].name = true)
def mayP (size : Int) (l : List Bkt) : Prop := (∀ j, okAt l j) ∧ goodSz size ∧ (sizeB (delB l lostN) : Int) ≤ size - 24 - 19
noncomputable def mayB (size : Int) (l : List Bkt) : Bool := @decide (mayP size l) (Classical.propDecidable _)
theorem mayB_true {size : Int} {l : List Bkt} (h : mayP size l) : mayB size l = true := by unfold mayB; simp [h]
theorem mayB_false {size : Int} {l : List Bkt} (h : ¬ mayP size l) : mayB size l = false := by unfold mayB; simp [h]
theorem mem_erase {l : List Bkt} {i : Nat} {b : Bkt} (h : b ∈ l.eraseIdx i) : b ∈ l := List.mem_of_mem_eraseIdx h
theorem sizeB_small (l : List Bkt) (h : ∀ b ∈ l, b.name.length ≤ 16) : sizeB l ≤ l.length * 25 := by
  induction l with
  | nil => simp [sizeB]
  | cons b l ih =>
    have h1 := h b (by simp)
    have h2 := ih fun x hx => h x (by simp [hx])
    simp only [sizeB, List.map_cons, List.sum_cons, List.length_cons] at *
    omega
theorem may29 (size : Int) (v : Value) (l : List Bkt) (hl : l.length ≤ 5000000000000) (hn : ∀ b ∈ l, b.name.length ≤ 140737488355328) (a : AW) (m : Nat) (hm : m ≤ a.next) (hv : RV encB 3 a.heap m v l) (K : Value → AW → Prop) :
    WCall Try.prog GV 29 [.int .i64 size, v] a K = K (.bool (mayB size l)) a := by
  refine call_eq ?_ K
  rw [call_env Try.func29 rfl Try.ntmps29 rfl rfl (by simp)]
  obtain ⟨pp, c, rfl⟩ := hv.len
  simp -dsimp (maxSteps := 4000000) (disch := first | omega | assumption | (simp only [FB, Nat.reduceAdd]; done) | (simp only [LB]; omega)) only [EB, ↓reduceIte, WB, Nat.reduceSub, Nat.reduceAdd, Int.reduceEq, Int.reduceNe, Int.reduceLT, Int.reduceLE, Int.reduceAdd, Int.reduceSub, Int.reduceMul, Int.reduceNeg, Int.reduceToNat, Nat.reduceEqDiff, Nat.reduceLT, Nat.reduceLeDiff, Nat.reduceMul, List.replicate, reduceCtorEq, TB, NB, ]
  refine loop_inv (fun r t w => ∃ i n h, ∃ e : Nat → Value, r = l.length - i ∧ i ≤ l.length ∧ w = ⟨n, h, a.next, []⟩ ∧ a.next ≤ n ∧ (∀ j, j < a.next → look j h = look j a.heap) ∧ t = TT 44 e ∧ (∀ j, j < i → okAt l j) ∧ e 0 = .int .i64 size ∧ e 1 = .slice pp l.length c ∧ e 7 = .slice pp l.length c ∧ e 8 = .int .i64 l.length ∧ e 9 = .int .i64 i) ⟨0, a.next, a.heap, _, rfl, by omega, rfl, Nat.le_refl _, fun _ _ => rfl, rfl, fun j hj => absurd hj (by omega), rfl, rfl, rfl, rfl, rfl⟩ ?_
  rintro r t w ⟨i, n, h, e, rfl, hi, rfl, hn1, hh, rfl, hok, t0, t1, t7, t8, t9⟩
  by_cases hlt : i < l.length
  · obtain ⟨b, o, sp, rw0, cc, e1, hlk, hbn, hle, hat, -⟩ := hv.at encB_len hlt
    subst e1
    have hlk' : look b h = some (.cells cc rw0) := by rw [hh b (by omega)]; exact hlk
    have h1' := fun a K => one51 l[i] a K
    simp only [encB] at h1'
    have hbad : ¬ okAt l i → mayB size l = false := fun h => mayB_false fun hm => h (hm.1 i)
    by_cases h1 : oneOk l[i]
    · by_cases h0 : 0 < i
      · obtain ⟨b2, o2, sp2, rw2, cc2, e2, hlk2, hbn2, hle2, -, hk2⟩ := hv.at encB_len (i := i - 1) (by omega)
        cases e2
        rw [hlk] at hlk2
        cases hlk2
        have hn0 : cc[o + (i - 1) * 3]? = some (.string (mkStr l[i - 1].name)) := by have := hk2 0 (by omega); simpa [encB] using this
        by_cases h2 : Op.bytesLess l[i - 1].name l[i].name = true
        · simp -dsimp (maxSteps := 4000000) (disch := first | omega | assumption | (simp only [FB, Nat.reduceAdd]; done) | (simp only [LB]; omega)) only [EB, ↓reduceIte, WB, Nat.reduceSub, Nat.reduceAdd, Int.reduceEq, Int.reduceNe, Int.reduceLT, Int.reduceLE, Int.reduceAdd, Int.reduceSub, Int.reduceMul, Int.reduceNeg, Int.reduceToNat, Nat.reduceEqDiff, Nat.reduceLT, Nat.reduceLeDiff, Nat.reduceMul, List.replicate, reduceCtorEq, TB, NB, t0, t1, t7, t8, t9, show (i : Int) < l.length by omega, hlk', hat, encB]
          refine code_draw [(7, 8), (7, 9), (7, 13), (7, 14), (8, 13), (8, 14), (9, 13), (9, 14), (10, 13), (10, 14), (11, 13), (11, 14), (12, 13), (12, 14)] (by decide +kernel) (by decide +kernel) ?_
          simp -dsimp (maxSteps := 4000000) (disch := first | omega | assumption | (simp only [FB, Nat.reduceAdd]; done) | (simp only [LB]; omega)) only [EB, ↓reduceIte, WB, Nat.reduceSub, Nat.reduceAdd, Int.reduceEq, Int.reduceNe, Int.reduceLT, Int.reduceLE, Int.reduceAdd, Int.reduceSub, Int.reduceMul, Int.reduceNeg, Int.reduceToNat, Nat.reduceEqDiff, Nat.reduceLT, Nat.reduceLeDiff, Nat.reduceMul, List.replicate, reduceCtorEq, RB, Nat.reduceEqDiff, TB, NB, h1', h1, t1, t9, show (0 : Int) < i by omega, wrap64, show ((i : Int) - 1).toNat = i - 1 by omega, hlk', hn0, h2, show b ≠ n by omega]
          refine ⟨l.length - (i + 1), by omega, i + 1, n + 2, _, _, rfl, by omega, rfl, by omega, fun j hj => ?_, rfl, fun j hj => ?_, ?_⟩
          · rw [look_miss (by omega), hh j hj]
          · rcases Nat.lt_or_ge j i with hji | hji
            · exact hok j hji
            · obtain rfl : j = i := by omega
              exact fun _ => ⟨h1, fun _ => h2⟩
          · simp only [ups_at, ↓reduceIte, Nat.reduceEqDiff]; exact ⟨t0, t1, t7, t8, (by first | trivial | rfl | omega)⟩
        · simp -dsimp (maxSteps := 4000000) (disch := first | omega | assumption | (simp only [FB, Nat.reduceAdd]; done) | (simp only [LB]; omega)) only [EB, ↓reduceIte, WB, Nat.reduceSub, Nat.reduceAdd, Int.reduceEq, Int.reduceNe, Int.reduceLT, Int.reduceLE, Int.reduceAdd, Int.reduceSub, Int.reduceMul, Int.reduceNeg, Int.reduceToNat, Nat.reduceEqDiff, Nat.reduceLT, Nat.reduceLeDiff, Nat.reduceMul, List.replicate, reduceCtorEq, TB, NB, t0, t1, t7, t8, t9, show (i : Int) < l.length by omega, hlk', hat, encB]
          refine code_draw [(7, 8), (7, 9), (7, 13), (7, 14), (8, 13), (8, 14), (9, 13), (9, 14), (10, 13), (10, 14), (11, 13), (11, 14), (12, 13), (12, 14)] (by decide +kernel) (by decide +kernel) ?_
          have h2' : Op.bytesLess l[i - 1].name l[i].name = false := by simpa using h2
          simp -dsimp (maxSteps := 4000000) (disch := first | omega | assumption | (simp only [FB, Nat.reduceAdd]; done) | (simp only [LB]; omega)) only [EB, ↓reduceIte, WB, Nat.reduceSub, Nat.reduceAdd, Int.reduceEq, Int.reduceNe, Int.reduceLT, Int.reduceLE, Int.reduceAdd, Int.reduceSub, Int.reduceMul, Int.reduceNeg, Int.reduceToNat, Nat.reduceEqDiff, Nat.reduceLT, Nat.reduceLeDiff, Nat.reduceMul, List.replicate, reduceCtorEq, RB, Nat.reduceEqDiff, TB, NB, h1', h1, t1, t9, show (0 : Int) < i by omega, wrap64, show ((i : Int) - 1).toNat = i - 1 by omega, hlk', hn0, h2', show b ≠ n by omega]
          rw [hbad fun h => h2 ((h hlt).2 h0)]
      · simp -dsimp (maxSteps := 4000000) (disch := first | omega | assumption | (simp only [FB, Nat.reduceAdd]; done) | (simp only [LB]; omega)) only [EB, ↓reduceIte, WB, Nat.reduceSub, Nat.reduceAdd, Int.reduceEq, Int.reduceNe, Int.reduceLT, Int.reduceLE, Int.reduceAdd, Int.reduceSub, Int.reduceMul, Int.reduceNeg, Int.reduceToNat, Nat.reduceEqDiff, Nat.reduceLT, Nat.reduceLeDiff, Nat.reduceMul, List.replicate, reduceCtorEq, TB, NB, t0, t1, t7, t8, t9, show (i : Int) < l.length by omega, hlk', hat, encB]
        refine code_draw [(7, 8), (7, 9), (7, 13), (7, 14), (8, 13), (8, 14), (9, 13), (9, 14), (10, 13), (10, 14), (11, 13), (11, 14), (12, 13), (12, 14)] (by decide +kernel) (by decide +kernel) ?_
        simp -dsimp (maxSteps := 4000000) (disch := first | omega | assumption | (simp only [FB, Nat.reduceAdd]; done) | (simp only [LB]; omega)) only [EB, ↓reduceIte, WB, Nat.reduceSub, Nat.reduceAdd, Int.reduceEq, Int.reduceNe, Int.reduceLT, Int.reduceLE, Int.reduceAdd, Int.reduceSub, Int.reduceMul, Int.reduceNeg, Int.reduceToNat, Nat.reduceEqDiff, Nat.reduceLT, Nat.reduceLeDiff, Nat.reduceMul, List.replicate, reduceCtorEq, RB, Nat.reduceEqDiff, TB, NB, h1', h1, t1, t9, show ¬ (0 : Int) < i by omega, wrap64, hlk']
        refine ⟨l.length - (i + 1), by omega, i + 1, n + 2, _, _, rfl, by omega, rfl, by omega, fun j hj => ?_, rfl, fun j hj => ?_, ?_⟩
        · rw [look_miss (by omega), hh j hj]
        · obtain rfl : j = i := by omega
          exact fun _ => ⟨h1, fun h0' => absurd h0' h0⟩
        · simp only [ups_at, ↓reduceIte, Nat.reduceEqDiff]; exact ⟨t0, t1, t7, t8, (by first | trivial | rfl | omega)⟩
    · simp -dsimp (maxSteps := 4000000) (disch := first | omega | assumption | (simp only [FB, Nat.reduceAdd]; done) | (simp only [LB]; omega)) only [EB, ↓reduceIte, WB, Nat.reduceSub, Nat.reduceAdd, Int.reduceEq, Int.reduceNe, Int.reduceLT, Int.reduceLE, Int.reduceAdd, Int.reduceSub, Int.reduceMul, Int.reduceNeg, Int.reduceToNat, Nat.reduceEqDiff, Nat.reduceLT, Nat.reduceLeDiff, Nat.reduceMul, List.replicate, reduceCtorEq, TB, NB, t0, t1, t7, t8, t9, show (i : Int) < l.length by omega, hlk', hat, encB]
      refine code_draw [(7, 8), (7, 9), (7, 13), (7, 14), (8, 13), (8, 14), (9, 13), (9, 14), (10, 13), (10, 14), (11, 13), (11, 14), (12, 13), (12, 14)] (by decide +kernel) (by decide +kernel) ?_
      simp -dsimp (maxSteps := 4000000) (disch := first | omega | assumption | (simp only [FB, Nat.reduceAdd]; done) | (simp only [LB]; omega)) only [EB, ↓reduceIte, WB, Nat.reduceSub, Nat.reduceAdd, Int.reduceEq, Int.reduceNe, Int.reduceLT, Int.reduceLE, Int.reduceAdd, Int.reduceSub, Int.reduceMul, Int.reduceNeg, Int.reduceToNat, Nat.reduceEqDiff, Nat.reduceLT, Nat.reduceLeDiff, Nat.reduceMul, List.replicate, reduceCtorEq, RB, Nat.reduceEqDiff, TB, NB, h1', h1, t1, t9, wrap64, hlk']
      rw [hbad fun h => h1 (h hlt).1]
  · obtain rfl : i = l.length := by omega
    have hall : ∀ j, okAt l j := fun j hj => hok j hj hj
    have hvn : RV encB 3 h n (.slice pp l.length c) l := hv.keep (by omega) fun j hj => hh j (by omega)
    by_cases hg : goodSz size
    · have hr : room size = size - 24 := by unfold room; rw [if_pos hg]
      have hg' := hg
      simp only [goodSz] at hg'
      simp -dsimp (maxSteps := 4000000) (disch := first | omega | assumption | (simp only [FB, Nat.reduceAdd]; done) | (simp only [LB]; omega)) only [EB, ↓reduceIte, WB, Nat.reduceSub, Nat.reduceAdd, Int.reduceEq, Int.reduceNe, Int.reduceLT, Int.reduceLE, Int.reduceAdd, Int.reduceSub, Int.reduceMul, Int.reduceNeg, Int.reduceToNat, Nat.reduceEqDiff, Nat.reduceLT, Nat.reduceLeDiff, Nat.reduceMul, List.replicate, reduceCtorEq, TB, NB, t0, t1, t7, t8, t9, show ¬ (l.length : Int) < l.length by omega, good52, hg]
      refine del18 _ l (by omega) lostN ⟨n, h, a.next, []⟩ n (Nat.le_refl _) hvn _ fun v' n' h' x1 x2 x3 x4 => ?_
      have hdl : (delB l lostN).length ≤ 5000000000000 := by have := List.length_eraseIdx_le l (fidx (nameIs lostN) l); unfold delB; omega
      have hdn : sizeB (delB l lostN) ≤ 4611686018427387904 := by
        have := sizeB_small (delB l lostN) fun b hb => by
          obtain ⟨i, hi, rfl⟩ := List.mem_iff_getElem.1 (mem_erase hb)
          exact (hall i hi).1.1.2
        omega
      have hsz := fun bs d K => sizeOf23 v' (delB l lostN) hdl hdn ⟨n', h', bs, d⟩ n' (Nat.le_refl _) x3.rv K
      by_cases hs : (sizeB (delB l lostN) : Int) ≤ size - 24 - 19
      · simp -dsimp (maxSteps := 4000000) (disch := first | omega | assumption | (simp only [FB, Nat.reduceAdd]; done) | (simp only [LB]; omega)) only [EB, ↓reduceIte, WB, Nat.reduceSub, Nat.reduceAdd, Int.reduceEq, Int.reduceNe, Int.reduceLT, Int.reduceLE, Int.reduceAdd, Int.reduceSub, Int.reduceMul, Int.reduceNeg, Int.reduceToNat, Nat.reduceEqDiff, Nat.reduceLT, Nat.reduceLeDiff, Nat.reduceMul, List.replicate, reduceCtorEq, TB, NB, t0, hsz, good52, room53, hg, hr, wrap64, hs]
        rw [mayB_true ⟨hall, hg, hs⟩]
        exact ⟨(by first | trivial | rfl | omega), (by first | trivial | rfl | omega)⟩
      · simp -dsimp (maxSteps := 4000000) (disch := first | omega | assumption | (simp only [FB, Nat.reduceAdd]; done) | (simp only [LB]; omega)) only [EB, ↓reduceIte, WB, Nat.reduceSub, Nat.reduceAdd, Int.reduceEq, Int.reduceNe, Int.reduceLT, Int.reduceLE, Int.reduceAdd, Int.reduceSub, Int.reduceMul, Int.reduceNeg, Int.reduceToNat, Nat.reduceEqDiff, Nat.reduceLT, Nat.reduceLeDiff, Nat.reduceMul, List.replicate, reduceCtorEq, TB, NB, t0, hsz, good52, room53, hg, hr, wrap64, hs]
        rw [mayB_false fun h => hs h.2.2]
        exact ⟨(by first | trivial | rfl | omega), (by first | trivial | rfl | omega)⟩
    · simp -dsimp (maxSteps := 4000000) (disch := first | omega | assumption | (simp only [FB, Nat.reduceAdd]; done) | (simp only [LB]; omega)) only [EB, ↓reduceIte, WB, Nat.reduceSub, Nat.reduceAdd, Int.reduceEq, Int.reduceNe, Int.reduceLT, Int.reduceLE, Int.reduceAdd, Int.reduceSub, Int.reduceMul, Int.reduceNeg, Int.reduceToNat, Nat.reduceEqDiff, Nat.reduceLT, Nat.reduceLeDiff, Nat.reduceMul, List.replicate, reduceCtorEq, TB, NB, t0, t1, t7, t8, t9, show ¬ (l.length : Int) < l.length by omega, good52, hg]
      rw [mayB_false fun h => hg h.2.1]
      exact ⟨rfl, trivial⟩
end Go.Proofs.YtpcaoohacgkeiaaAM
