/- Chapter 6: CatalogBack answers true. -/
import Derived.Test.YtpcaoohacgkeiaaP8
namespace Go.Proofs.YtpcaoohacgkeiaaAM
open Go Go.RowKit
set_option linter.unusedVariables false
set_option linter.unusedSimpArgs false
set_option maxRecDepth 10000
set_option maxHeartbeats 4000000

theorem pageB_two (size n tx : Int) (l : List Bkt) : (pageB size n tx l).2 = 0 ∨ pageB size n tx l = (noPage, 2) := by
  unfold pageB; split
  · exact .inl rfl
  · exact .inr rfl
theorem sizeB_ge (l : List Bkt) : l.length * 9 ≤ sizeB l := by
  induction l with
  | nil => simp
  | cons b l ih => simp only [sizeB, List.map_cons, List.sum_cons, List.length_cons] at *; omega
theorem law3 (size n tx : Int) (v : Value) (l : List Bkt) (p : Pg) (hll : l.length ≤ 140737488355328) (hnm : ∀ b ∈ l, b.name.length ≤ 140737488355328) (hsz : -9223372036854775808 ≤ size ∧ size ≤ 9223372036854775807) (hc1 : -9223372036854775808 ≤ p.count) (hc2 : p.count ≤ 9223372036854775807) (a : AW) (m : Nat) (hm : m ≤ a.next) (hv : RV encB 3 a.heap m v l) :
    WCall Try.prog GV 3 [.int .i64 size, .int .u32 n, .int .u64 tx, v, .agg (encP p).toArray] a fun r _ => r = .bool true := by
  rw [call_env Try.func3 rfl Try.ntmps3 rfl rfl (by simp)]
  obtain ⟨pp, c, rfl⟩ := hv.len
  have hv0 : RV encB 3 ((a.next, Blk.cells (encP p) true) :: a.heap) m (.slice pp l.length c) l := hv.keep (Nat.le_refl _) fun j hj => look_miss (by omega)
  have hlt := fun K => light9 (.slice pp l.length c) l hll ⟨a.next + 1, (a.next, Blk.cells (encP p) true) :: a.heap, a.next, []⟩ m (by simp only; omega) hv0 K
  simp only [encP] at hlt
  by_cases c1 : l.length ≤ 60 ∧ lightN l ≤ 1000
  · by_cases c2 : (4200 : Int) < p.body.length
    · simp -dsimp (maxSteps := 4000000) (disch := first | omega | assumption | (simp only [FB, Nat.reduceAdd]; done) | (simp only [LB]; omega)) only [EB, ↓reduceIte, WB, Nat.reduceSub, Nat.reduceAdd, Int.reduceEq, Int.reduceNe, Int.reduceLT, Int.reduceLE, Int.reduceAdd, Int.reduceSub, Int.reduceMul, Int.reduceNeg, Int.reduceToNat, Nat.reduceEqDiff, Nat.reduceLT, Nat.reduceLeDiff, Nat.reduceMul, List.replicate, reduceCtorEq, TB, NB, lives8, hlt, decide_eq_true c1, c2, encP, leave_fst flat_bool]
    · have hpc := fun K => page10 size n tx (.slice pp l.length c) l (by omega) hnm ⟨a.next + 1, (a.next, Blk.cells (encP p) true) :: a.heap, a.next, []⟩ m (by simp only; omega) hv0 K
      obtain ⟨X, hX⟩ : ∃ X, X = pageB size n tx l := ⟨_, rfl⟩
      simp only [encP, ← hX] at hpc
      by_cases h0 : X.2 = 0
      · simp -dsimp (maxSteps := 4000000) (disch := first | omega | assumption | (simp only [FB, Nat.reduceAdd]; done) | (simp only [LB]; omega)) only [EB, ↓reduceIte, WB, Nat.reduceSub, Nat.reduceAdd, Int.reduceEq, Int.reduceNe, Int.reduceLT, Int.reduceLE, Int.reduceAdd, Int.reduceSub, Int.reduceMul, Int.reduceNeg, Int.reduceToNat, Nat.reduceEqDiff, Nat.reduceLT, Nat.reduceLeDiff, Nat.reduceMul, List.replicate, reduceCtorEq, TB, NB, lives8, hlt, decide_eq_true c1, c2, encP, hpc, h0]
        have hrt : ofB X.1 = some l ∧ (X.1.body.length : Int) = size - 24 ∧ X.1.count = l.length := by rw [hX] at h0 ⊢; exact of_page h0
        have hfit := may_fit (pageB_ok (hX ▸ h0)).1
        refine of11 X.1 (by omega) (by omega) (by omega) ⟨a.next + 2, _, a.next, []⟩ _ (fun l1 hl1 v1 n1 h1 x1 x2 x3 x4 => ?_) (fun hnone => ?_)
        · rw [hrt.1] at hl1
          cases hl1
          simp only at x1 x2 x4
          have hb1 : look (a.next + 1) h1 = some (.cells [.int .i64 X.1.kind, .int .i64 X.1.count, .int .u32 X.1.page, .int .u32 X.1.link, .int .u64 X.1.tx, .string (mkStr X.1.body)] true) := by rw [x4 _ (by omega)]; exact look_self
          have hb0 : look a.next h1 = some (.cells [.int .i64 p.kind, .int .i64 p.count, .int .u32 p.page, .int .u32 p.link, .int .u64 p.tx, .string (mkStr p.body)] true) := by rw [x4 _ (by omega), look_miss (by omega)]; exact look_self
          have hv1 : RV encB 3 h1 n1 (.slice pp l.length c) l := hv0.keep (by omega) fun j hj => by rw [x4 j (by omega), look_miss (by omega)]; rfl
          have hsm := fun K => same12 v1 (.slice pp l.length c) l l (by omega) ⟨n1, h1, a.next, []⟩ n1 (Nat.le_refl _) x3.rv hv1 K
          simp -dsimp (maxSteps := 4000000) (disch := first | omega | assumption | (simp only [FB, Nat.reduceAdd]; done) | (simp only [LB]; omega)) only [EB, ↓reduceIte, WB, Nat.reduceSub, Nat.reduceAdd, Int.reduceEq, Int.reduceNe, Int.reduceLT, Int.reduceLE, Int.reduceAdd, Int.reduceSub, Int.reduceMul, Int.reduceNeg, Int.reduceToNat, Nat.reduceEqDiff, Nat.reduceLT, Nat.reduceLeDiff, Nat.reduceMul, List.replicate, reduceCtorEq, TB, NB, hsm, hb1, hb0, hrt.2.1, wrap64]
          refine of11 p (by omega) hc1 hc2 ⟨n1, h1, a.next, []⟩ _ (fun l2 hl2 v2 n2 h2 z1 z2 z3 z4 => ?_) (fun hnone => ?_)
          · have hpg : look a.next h2 = some (.cells (encP p) true) := by rw [z4 a.next (by simp only; omega)]; exact hb0
            simp only at z1 z2
            have hmo := of_more hl2
            have hmp := (pageB_ok (by rw [hmo])).1
            have hfit := may_fit hmp
            have hsl : l2.length * 9 ≤ sizeB l2 := sizeB_ge l2
            have hpc2 := fun K => page10 (p.body.length + 24) p.page p.tx v2 l2 (by omega) (fun b hb => by
              obtain ⟨i, hi, rfl⟩ := List.mem_iff_getElem.1 hb
              have := (hmp.1 i hi).1.1.2
              omega) ⟨n2, h2, a.next, []⟩ n2 (Nat.le_refl _) z3.rv K
            have heq : ∀ x y, binA Try.prog .eql 26 x y (.agg #[.int .i64 p.kind, .int .i64 p.count, .int .u32 p.page, .int .u32 p.link, .int .u64 p.tx, .string (mkStr p.body)]) (.agg #[.int .i64 p.kind, .int .i64 p.count, .int .u32 p.page, .int .u32 p.link, .int .u64 p.tx, .string (mkStr p.body)]) = some (.bool (decide (p = p))) := fun x y => eql26
            simp only [encP, hmo] at hpc2 hpg
            simp -dsimp (maxSteps := 4000000) (disch := first | omega | assumption | (simp only [FB, Nat.reduceAdd]; done) | (simp only [LB]; omega)) only [EB, ↓reduceIte, WB, Nat.reduceSub, Nat.reduceAdd, Int.reduceEq, Int.reduceNe, Int.reduceLT, Int.reduceLE, Int.reduceAdd, Int.reduceSub, Int.reduceMul, Int.reduceNeg, Int.reduceToNat, Nat.reduceEqDiff, Nat.reduceLT, Nat.reduceLeDiff, Nat.reduceMul, List.replicate, reduceCtorEq, TB, NB, hpg, wrap64, hpc2, heq, show a.next ≠ n2 by omega, leave_fst flat_bool]
          · simp -dsimp (maxSteps := 4000000) (disch := first | omega | assumption | (simp only [FB, Nat.reduceAdd]; done) | (simp only [LB]; omega)) only [EB, ↓reduceIte, WB, Nat.reduceSub, Nat.reduceAdd, Int.reduceEq, Int.reduceNe, Int.reduceLT, Int.reduceLE, Int.reduceAdd, Int.reduceSub, Int.reduceMul, Int.reduceNeg, Int.reduceToNat, Nat.reduceEqDiff, Nat.reduceLT, Nat.reduceLeDiff, Nat.reduceMul, List.replicate, reduceCtorEq, TB, NB, leave_fst flat_bool]
            rfl
        · rw [hrt.1] at hnone; cases hnone
      · simp -dsimp (maxSteps := 4000000) (disch := first | omega | assumption | (simp only [FB, Nat.reduceAdd]; done) | (simp only [LB]; omega)) only [EB, ↓reduceIte, WB, Nat.reduceSub, Nat.reduceAdd, Int.reduceEq, Int.reduceNe, Int.reduceLT, Int.reduceLE, Int.reduceAdd, Int.reduceSub, Int.reduceMul, Int.reduceNeg, Int.reduceToNat, Nat.reduceEqDiff, Nat.reduceLT, Nat.reduceLeDiff, Nat.reduceMul, List.replicate, reduceCtorEq, TB, NB, lives8, hlt, decide_eq_true c1, c2, encP, hpc, h0]
        refine of11 p (by omega) hc1 hc2 ⟨a.next + 2, _, a.next, []⟩ _ (fun l2 hl2 v2 n2 h2 z1 z2 z3 z4 => ?_) (fun hnone => ?_)
        · have hpg : look a.next h2 = some (.cells (encP p) true) := by rw [z4 a.next (by simp only; omega)]; exact (look_miss (by omega)).trans look_self
          simp only at z1 z2
          have hmo := of_more hl2
          have hmp := (pageB_ok (by rw [hmo])).1
          have hfit := may_fit hmp
          have hsl : l2.length * 9 ≤ sizeB l2 := sizeB_ge l2
          have hpc2 := fun K => page10 (p.body.length + 24) p.page p.tx v2 l2 (by omega) (fun b hb => by
            obtain ⟨i, hi, rfl⟩ := List.mem_iff_getElem.1 hb
            have := (hmp.1 i hi).1.1.2
            omega) ⟨n2, h2, a.next, []⟩ n2 (Nat.le_refl _) z3.rv K
          have heq : ∀ x y, binA Try.prog .eql 26 x y (.agg #[.int .i64 p.kind, .int .i64 p.count, .int .u32 p.page, .int .u32 p.link, .int .u64 p.tx, .string (mkStr p.body)]) (.agg #[.int .i64 p.kind, .int .i64 p.count, .int .u32 p.page, .int .u32 p.link, .int .u64 p.tx, .string (mkStr p.body)]) = some (.bool (decide (p = p))) := fun x y => eql26
          simp only [encP, hmo] at hpc2 hpg
          simp -dsimp (maxSteps := 4000000) (disch := first | omega | assumption | (simp only [FB, Nat.reduceAdd]; done) | (simp only [LB]; omega)) only [EB, ↓reduceIte, WB, Nat.reduceSub, Nat.reduceAdd, Int.reduceEq, Int.reduceNe, Int.reduceLT, Int.reduceLE, Int.reduceAdd, Int.reduceSub, Int.reduceMul, Int.reduceNeg, Int.reduceToNat, Nat.reduceEqDiff, Nat.reduceLT, Nat.reduceLeDiff, Nat.reduceMul, List.replicate, reduceCtorEq, TB, NB, hpg, wrap64, hpc2, heq, show a.next ≠ n2 by omega, leave_fst flat_bool]
        · simp -dsimp (maxSteps := 4000000) (disch := first | omega | assumption | (simp only [FB, Nat.reduceAdd]; done) | (simp only [LB]; omega)) only [EB, ↓reduceIte, WB, Nat.reduceSub, Nat.reduceAdd, Int.reduceEq, Int.reduceNe, Int.reduceLT, Int.reduceLE, Int.reduceAdd, Int.reduceSub, Int.reduceMul, Int.reduceNeg, Int.reduceToNat, Nat.reduceEqDiff, Nat.reduceLT, Nat.reduceLeDiff, Nat.reduceMul, List.replicate, reduceCtorEq, TB, NB, leave_fst flat_bool]
          rfl
  · simp -dsimp (maxSteps := 4000000) (disch := first | omega | assumption | (simp only [FB, Nat.reduceAdd]; done) | (simp only [LB]; omega)) only [EB, ↓reduceIte, WB, Nat.reduceSub, Nat.reduceAdd, Int.reduceEq, Int.reduceNe, Int.reduceLT, Int.reduceLE, Int.reduceAdd, Int.reduceSub, Int.reduceMul, Int.reduceNeg, Int.reduceToNat, Nat.reduceEqDiff, Nat.reduceLT, Nat.reduceLeDiff, Nat.reduceMul, List.replicate, reduceCtorEq, TB, NB, lives8, hlt, decide_eq_false c1, encP, leave_fst flat_bool]
end Go.Proofs.YtpcaoohacgkeiaaAM
