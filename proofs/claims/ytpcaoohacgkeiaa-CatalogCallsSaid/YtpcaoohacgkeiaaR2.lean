/- Chapter 6: the reference's May. -/
import Derived.Test.YtpcaoohacgkeiaaR1
namespace Go.Proofs.YtpcaoohacgkeiaaAM
open Go Go.RowKit
set_option linter.unusedVariables false
set_option linter.unusedSimpArgs false
set_option maxRecDepth 10000
set_option maxHeartbeats 4000000

def sizeX (l : List Bkt) : Nat := (l.map fun b => if b.name = lostN then 0 else 9 + b.name.length).sum
theorem sizeX_take (l : List Bkt) (i : Nat) (h : i < l.length) : sizeX (l.take (i + 1)) = sizeX (l.take i) + (if l[i].name = lostN then 0 else 9 + l[i].name.length) := by
  unfold sizeX
  rw [List.take_add_one, List.getElem?_eq_getElem h]
  simp only [Option.toList_some, List.map_append, List.map_cons, List.map_nil, List.sum_append, List.sum_cons, List.sum_nil, Nat.add_zero]
theorem sizeX_le (l : List Bkt) : sizeX l ≤ sizeB l := by
  induction l with
  | nil => simp [sizeX, sizeB]
  | cons b l ih =>
    simp only [sizeX, sizeB, List.map_cons, List.sum_cons] at *
    split <;> omega
theorem sizeX_del : ∀ {l : List Bkt}, Srt l → sizeX l = sizeB (delB l lostN)
  | [], _ => rfl
  | c :: l, h => by
    obtain ⟨h1, h2⟩ := List.pairwise_cons.1 h
    have ih := sizeX_del h2
    have e1 : sizeX (c :: l) = (if c.name = lostN then 0 else 9 + c.name.length) + sizeX l := by simp [sizeX]
    rw [e1, delB_cons, ih]
    by_cases hc : c.name = lostN
    · rw [if_pos hc, if_pos hc, del_none fun d hd e => bl_ne (h1 d hd) (hc.trans e.symm)]; omega
    · rw [if_neg hc, if_neg hc]; simp [sizeB]
theorem one50x (s : List UInt8) (p q : Int) (hs : s.length ≤ 140737488355328) (a : AW) (K) : WCall Try.prog GV 50 [.agg #[.string (mkStr s), .int .u32 p, .int .i64 q]] a K = K (.int .i64 (9 + s.length : Nat)) a := one50 ⟨s, p, q⟩ hs a K
theorem no0 : ¬ numOk 0 := by decide
theorem six (r k : Int) : (r = 0 ∧ k = 0) ∨ (r = 0 ∧ ¬ k = 0) ∨ (¬ r = 0 ∧ ¬ numOk r) ∨ (¬ r = 0 ∧ numOk r ∧ ¬ 1 ≤ k) ∨ (¬ r = 0 ∧ numOk r ∧ 1 ≤ k ∧ ¬ k ≤ 2147483647) ∨ (¬ r = 0 ∧ numOk r ∧ 1 ≤ k ∧ k ≤ 2147483647) := by
  by_cases h1 : r = 0 <;> by_cases h2 : k = 0 <;> by_cases h3 : numOk r <;> by_cases h4 : 1 ≤ k <;> by_cases h5 : k ≤ 2147483647 <;> simp [h1, h2, h3, h4, h5]
theorem may42 (size : Int) (v : Value) (l : List Bkt) (hl : l.length ≤ 9000) (hn : ∀ b ∈ l, b.name.length ≤ 140737488355328) (hsl : sizeB l ≤ 4611686018427387904) (a : AW) (m : Nat) (hm : m ≤ a.next) (hv : RV encB 3 a.heap m v l) (K : Value → AW → Prop) :
    WCall Try.prog GV 42 [.int .i64 size, v] a K = K (.bool (mayB size l)) a := by
  refine call_eq ?_ K
  rw [call_env Try.func42 rfl Try.ntmps42 rfl rfl (by simp)]
  obtain ⟨pp, c, rfl⟩ := hv.len
  simp -dsimp (maxSteps := 4000000) (disch := first | omega | assumption | (simp only [FB, Nat.reduceAdd]; done) | (simp only [LB]; omega)) only [EB, ↓reduceIte, WB, Nat.reduceSub, Nat.reduceAdd, Int.reduceEq, Int.reduceNe, Int.reduceLT, Int.reduceLE, Int.reduceAdd, Int.reduceSub, Int.reduceMul, Int.reduceNeg, Int.reduceToNat, Nat.reduceEqDiff, Nat.reduceLT, Nat.reduceLeDiff, Nat.reduceMul, List.replicate, reduceCtorEq, TB, NB, ]
  refine loop_inv (fun r t w => ∃ i n h, ∃ e : Nat → Value, r = l.length - i ∧ i ≤ l.length ∧ w = ⟨n, h, a.next, []⟩ ∧ a.next ≤ n ∧ (∀ j, j < a.next → look j h = look j a.heap) ∧ t = TT 84 e ∧ (∀ j, j < i → okAt l j) ∧ e 0 = .int .i64 size ∧ e 1 = .slice pp l.length c ∧ e 5 = .int .i64 (sizeX (l.take i)) ∧ e 6 = .int .i64 i) ⟨0, a.next, a.heap, _, rfl, by omega, rfl, Nat.le_refl _, fun _ _ => rfl, rfl, fun j h => absurd h (by omega), rfl, rfl, rfl, rfl⟩ ?_
  rintro r t w ⟨i, n, h, e, rfl, hi, rfl, hn1, hh, rfl, hok, t0, t1, t5, t6⟩
  by_cases hlt : i < l.length
  · obtain ⟨b, o, sp, rw0, cc, rfl, hlk, hbn, hle, hat, -⟩ := hv.at encB_len hlt
    have hlk' : look b h = some (.cells cc rw0) := by rw [hh b (by omega)]; exact hlk
    have hbad : ¬ okAt l i → mayB size l = false := fun h => mayB_false fun hm => h (hm.1 i)
    have hstep := sizeX_take l i hlt
    have hx1 := sizeX_le (l.take (i + 1))
    have hx2 := sizeB_upto l (i + 1)
    have hnl : l[i].name.length ≤ 140737488355328 := hn _ (List.getElem_mem hlt)
    have h50 := fun a K => one50 l[i] (hn _ (List.getElem_mem hlt)) a K
    have h50' := h50
    simp only [encB] at h50'
    have hprev : ∀ (h0 : 0 < i), cc[o + (i - 1) * 3]? = some (.string (mkStr l[i - 1].name)) := by
      intro h0
      obtain ⟨b2, o2, sp2, rw2, cc2, e2, hlk2, hbn2, hle2, -, hk2⟩ := hv.at encB_len (i := i - 1) (by omega)
      cases e2
      rw [hlk] at hlk2
      cases hlk2
      have := hk2 0 (by omega); simpa [encB] using this
    by_cases hnm : nameOk l[i].name
    · rcases six l[i].root l[i].keys with ⟨r0, k0⟩ | ⟨r0, k0⟩ | ⟨r0, n0⟩ | ⟨r0, n0, k1⟩ | ⟨r0, n0, k1, k2⟩ | ⟨r0, n0, k1, k2⟩
      · have hone : oneOk l[i] := ⟨hnm, .inl ⟨r0, k0⟩⟩
        by_cases h0 : 0 < i
        · by_cases h2 : Op.bytesLess l[i - 1].name l[i].name = true
          · by_cases hlo : l[i].name = lostN
            · rw [if_pos hlo] at hstep
              have hlo2 : l[i].name = [108, 111, 115, 116, 43, 102, 111, 117, 110, 100] := hlo
              simp -dsimp (maxSteps := 4000000) (disch := first | omega | assumption | (simp only [FB, Nat.reduceAdd]; done) | (simp only [LB]; omega)) only [EB, ↓reduceIte, WB, Nat.reduceSub, Nat.reduceAdd, Int.reduceEq, Int.reduceNe, Int.reduceLT, Int.reduceLE, Int.reduceAdd, Int.reduceSub, Int.reduceMul, Int.reduceNeg, Int.reduceToNat, Nat.reduceEqDiff, Nat.reduceLT, Nat.reduceLeDiff, Nat.reduceMul, List.replicate, reduceCtorEq, TB, NB, t0, t1, t5, t6, show (i : Int) < l.length by omega, show (0 : Int) ≤ (i : Int) by omega, hlk', hat, encB, number43, r0, k0, decide_eq_false no0]
              refine code_draw [(16, 17), (16, 18), (16, 22), (16, 23), (17, 22), (17, 23), (18, 22), (18, 23), (19, 22), (19, 23), (20, 22), (20, 23), (21, 22), (21, 23)] (by decide +kernel) (by decide +kernel) ?_
              simp -dsimp (maxSteps := 4000000) (disch := first | omega | assumption | (simp only [FB, Nat.reduceAdd]; done) | (simp only [LB]; omega)) only [EB, ↓reduceIte, WB, Nat.reduceSub, Nat.reduceAdd, Int.reduceEq, Int.reduceNe, Int.reduceLT, Int.reduceLE, Int.reduceAdd, Int.reduceSub, Int.reduceMul, Int.reduceNeg, Int.reduceToNat, Nat.reduceEqDiff, Nat.reduceLT, Nat.reduceLeDiff, Nat.reduceMul, List.replicate, reduceCtorEq, RB, Nat.reduceEqDiff, TB, NB, t0, t1, t5, t6, name25, decide_eq_true hnm, hlk', wrap64, show b ≠ n by omega, show (0 : Int) < i by omega, show ((i : Int) - 1).toNat = i - 1 by omega, hprev h0, show (0 : Int) ≤ (i : Int) - 1 by omega, show (i : Int) - 1 < l.length by omega, h2, decide_eq_true hlo2]
              refine ⟨l.length - (i + 1), by omega, i + 1, n + 2, _, _, rfl, by omega, rfl, by omega, fun j hj => ?_, rfl, fun j hj => ?_, ?_⟩
              · rw [look_miss (by omega), hh j hj]
              · rcases Nat.lt_or_ge j i with hji | hji
                · exact hok j hji
                · obtain rfl : j = i := by omega
                  exact fun _ => ⟨hone, fun _ => h2⟩
              · simp only [ups_at, ↓reduceIte, Nat.reduceEqDiff]; exact ⟨t0, t1, by rw [hstep]; exact t5, (by first | trivial | rfl | omega)⟩
            · rw [if_neg hlo] at hstep
              have hlo2 : ¬ l[i].name = [108, 111, 115, 116, 43, 102, 111, 117, 110, 100] := hlo
              simp -dsimp (maxSteps := 4000000) (disch := first | omega | assumption | (simp only [FB, Nat.reduceAdd]; done) | (simp only [LB]; omega)) only [EB, ↓reduceIte, WB, Nat.reduceSub, Nat.reduceAdd, Int.reduceEq, Int.reduceNe, Int.reduceLT, Int.reduceLE, Int.reduceAdd, Int.reduceSub, Int.reduceMul, Int.reduceNeg, Int.reduceToNat, Nat.reduceEqDiff, Nat.reduceLT, Nat.reduceLeDiff, Nat.reduceMul, List.replicate, reduceCtorEq, TB, NB, t0, t1, t5, t6, show (i : Int) < l.length by omega, show (0 : Int) ≤ (i : Int) by omega, hlk', hat, encB, number43, r0, k0, decide_eq_false no0]
              refine code_draw [(16, 17), (16, 18), (16, 22), (16, 23), (17, 22), (17, 23), (18, 22), (18, 23), (19, 22), (19, 23), (20, 22), (20, 23), (21, 22), (21, 23)] (by decide +kernel) (by decide +kernel) ?_
              simp -dsimp (maxSteps := 4000000) (disch := first | omega | assumption | (simp only [FB, Nat.reduceAdd]; done) | (simp only [LB]; omega)) only [EB, ↓reduceIte, WB, Nat.reduceSub, Nat.reduceAdd, Int.reduceEq, Int.reduceNe, Int.reduceLT, Int.reduceLE, Int.reduceAdd, Int.reduceSub, Int.reduceMul, Int.reduceNeg, Int.reduceToNat, Nat.reduceEqDiff, Nat.reduceLT, Nat.reduceLeDiff, Nat.reduceMul, List.replicate, reduceCtorEq, RB, Nat.reduceEqDiff, TB, NB, t0, t1, t5, t6, name25, decide_eq_true hnm, hlk', wrap64, show b ≠ n by omega, show (0 : Int) < i by omega, show ((i : Int) - 1).toNat = i - 1 by omega, hprev h0, show (0 : Int) ≤ (i : Int) - 1 by omega, show (i : Int) - 1 < l.length by omega, h2, decide_eq_false hlo2, one50x]
              refine ⟨l.length - (i + 1), by omega, i + 1, n + 2, _, _, rfl, by omega, rfl, by omega, fun j hj => ?_, rfl, fun j hj => ?_, ?_⟩
              · rw [look_miss (by omega), hh j hj]
              · rcases Nat.lt_or_ge j i with hji | hji
                · exact hok j hji
                · obtain rfl : j = i := by omega
                  exact fun _ => ⟨hone, fun _ => h2⟩
              · simp only [ups_at, ↓reduceIte, Nat.reduceEqDiff]; exact ⟨t0, t1, by rw [hstep]; congr 1, (by first | trivial | rfl | omega)⟩
          · have h2' : Op.bytesLess l[i - 1].name l[i].name = false := by simpa using h2
            simp -dsimp (maxSteps := 4000000) (disch := first | omega | assumption | (simp only [FB, Nat.reduceAdd]; done) | (simp only [LB]; omega)) only [EB, ↓reduceIte, WB, Nat.reduceSub, Nat.reduceAdd, Int.reduceEq, Int.reduceNe, Int.reduceLT, Int.reduceLE, Int.reduceAdd, Int.reduceSub, Int.reduceMul, Int.reduceNeg, Int.reduceToNat, Nat.reduceEqDiff, Nat.reduceLT, Nat.reduceLeDiff, Nat.reduceMul, List.replicate, reduceCtorEq, TB, NB, t0, t1, t5, t6, show (i : Int) < l.length by omega, show (0 : Int) ≤ (i : Int) by omega, hlk', hat, encB, number43, r0, k0, decide_eq_false no0]
            refine code_draw [(16, 17), (16, 18), (16, 22), (16, 23), (17, 22), (17, 23), (18, 22), (18, 23), (19, 22), (19, 23), (20, 22), (20, 23), (21, 22), (21, 23)] (by decide +kernel) (by decide +kernel) ?_
            simp -dsimp (maxSteps := 4000000) (disch := first | omega | assumption | (simp only [FB, Nat.reduceAdd]; done) | (simp only [LB]; omega)) only [EB, ↓reduceIte, WB, Nat.reduceSub, Nat.reduceAdd, Int.reduceEq, Int.reduceNe, Int.reduceLT, Int.reduceLE, Int.reduceAdd, Int.reduceSub, Int.reduceMul, Int.reduceNeg, Int.reduceToNat, Nat.reduceEqDiff, Nat.reduceLT, Nat.reduceLeDiff, Nat.reduceMul, List.replicate, reduceCtorEq, RB, Nat.reduceEqDiff, TB, NB, t0, t1, t5, t6, name25, decide_eq_true hnm, hlk', wrap64, show b ≠ n by omega, show (0 : Int) < i by omega, show ((i : Int) - 1).toNat = i - 1 by omega, hprev h0, show (0 : Int) ≤ (i : Int) - 1 by omega, show (i : Int) - 1 < l.length by omega, h2']
            rw [hbad fun h => h2 ((h hlt).2 h0)]
        · by_cases hlo : l[i].name = lostN
          · rw [if_pos hlo] at hstep
            have hlo2 : l[i].name = [108, 111, 115, 116, 43, 102, 111, 117, 110, 100] := hlo
            simp -dsimp (maxSteps := 4000000) (disch := first | omega | assumption | (simp only [FB, Nat.reduceAdd]; done) | (simp only [LB]; omega)) only [EB, ↓reduceIte, WB, Nat.reduceSub, Nat.reduceAdd, Int.reduceEq, Int.reduceNe, Int.reduceLT, Int.reduceLE, Int.reduceAdd, Int.reduceSub, Int.reduceMul, Int.reduceNeg, Int.reduceToNat, Nat.reduceEqDiff, Nat.reduceLT, Nat.reduceLeDiff, Nat.reduceMul, List.replicate, reduceCtorEq, TB, NB, t0, t1, t5, t6, show (i : Int) < l.length by omega, show (0 : Int) ≤ (i : Int) by omega, hlk', hat, encB, number43, r0, k0, decide_eq_false no0]
            refine code_draw [(16, 17), (16, 18), (16, 22), (16, 23), (17, 22), (17, 23), (18, 22), (18, 23), (19, 22), (19, 23), (20, 22), (20, 23), (21, 22), (21, 23)] (by decide +kernel) (by decide +kernel) ?_
            simp -dsimp (maxSteps := 4000000) (disch := first | omega | assumption | (simp only [FB, Nat.reduceAdd]; done) | (simp only [LB]; omega)) only [EB, ↓reduceIte, WB, Nat.reduceSub, Nat.reduceAdd, Int.reduceEq, Int.reduceNe, Int.reduceLT, Int.reduceLE, Int.reduceAdd, Int.reduceSub, Int.reduceMul, Int.reduceNeg, Int.reduceToNat, Nat.reduceEqDiff, Nat.reduceLT, Nat.reduceLeDiff, Nat.reduceMul, List.replicate, reduceCtorEq, RB, Nat.reduceEqDiff, TB, NB, t0, t1, t5, t6, name25, decide_eq_true hnm, hlk', wrap64, show b ≠ n by omega, show ¬ (0 : Int) < i by omega, decide_eq_true hlo2]
            refine ⟨l.length - (i + 1), by omega, i + 1, n + 2, _, _, rfl, by omega, rfl, by omega, fun j hj => ?_, rfl, fun j hj => ?_, ?_⟩
            · rw [look_miss (by omega), hh j hj]
            · rcases Nat.lt_or_ge j i with hji | hji
              · exact hok j hji
              · obtain rfl : j = i := by omega
                exact fun _ => ⟨hone, fun h0' => absurd h0' h0⟩
            · simp only [ups_at, ↓reduceIte, Nat.reduceEqDiff]; exact ⟨t0, t1, by rw [hstep]; exact t5, (by first | trivial | rfl | omega)⟩
          · rw [if_neg hlo] at hstep
            have hlo2 : ¬ l[i].name = [108, 111, 115, 116, 43, 102, 111, 117, 110, 100] := hlo
            simp -dsimp (maxSteps := 4000000) (disch := first | omega | assumption | (simp only [FB, Nat.reduceAdd]; done) | (simp only [LB]; omega)) only [EB, ↓reduceIte, WB, Nat.reduceSub, Nat.reduceAdd, Int.reduceEq, Int.reduceNe, Int.reduceLT, Int.reduceLE, Int.reduceAdd, Int.reduceSub, Int.reduceMul, Int.reduceNeg, Int.reduceToNat, Nat.reduceEqDiff, Nat.reduceLT, Nat.reduceLeDiff, Nat.reduceMul, List.replicate, reduceCtorEq, TB, NB, t0, t1, t5, t6, show (i : Int) < l.length by omega, show (0 : Int) ≤ (i : Int) by omega, hlk', hat, encB, number43, r0, k0, decide_eq_false no0]
            refine code_draw [(16, 17), (16, 18), (16, 22), (16, 23), (17, 22), (17, 23), (18, 22), (18, 23), (19, 22), (19, 23), (20, 22), (20, 23), (21, 22), (21, 23)] (by decide +kernel) (by decide +kernel) ?_
            simp -dsimp (maxSteps := 4000000) (disch := first | omega | assumption | (simp only [FB, Nat.reduceAdd]; done) | (simp only [LB]; omega)) only [EB, ↓reduceIte, WB, Nat.reduceSub, Nat.reduceAdd, Int.reduceEq, Int.reduceNe, Int.reduceLT, Int.reduceLE, Int.reduceAdd, Int.reduceSub, Int.reduceMul, Int.reduceNeg, Int.reduceToNat, Nat.reduceEqDiff, Nat.reduceLT, Nat.reduceLeDiff, Nat.reduceMul, List.replicate, reduceCtorEq, RB, Nat.reduceEqDiff, TB, NB, t0, t1, t5, t6, name25, decide_eq_true hnm, hlk', wrap64, show b ≠ n by omega, show ¬ (0 : Int) < i by omega, decide_eq_false hlo2, one50x]
            refine ⟨l.length - (i + 1), by omega, i + 1, n + 2, _, _, rfl, by omega, rfl, by omega, fun j hj => ?_, rfl, fun j hj => ?_, ?_⟩
            · rw [look_miss (by omega), hh j hj]
            · rcases Nat.lt_or_ge j i with hji | hji
              · exact hok j hji
              · obtain rfl : j = i := by omega
                exact fun _ => ⟨hone, fun h0' => absurd h0' h0⟩
            · simp only [ups_at, ↓reduceIte, Nat.reduceEqDiff]; exact ⟨t0, t1, by rw [hstep]; congr 1, (by first | trivial | rfl | omega)⟩
      · have hno : ¬ oneOk l[i] := fun h => by rcases h.2 with ⟨x1, x2⟩ | ⟨x1, x2, x3⟩ <;> first | contradiction | omega | (rw [r0] at x1; exact no0 x1)
        simp -dsimp (maxSteps := 4000000) (disch := first | omega | assumption | (simp only [FB, Nat.reduceAdd]; done) | (simp only [LB]; omega)) only [EB, ↓reduceIte, WB, Nat.reduceSub, Nat.reduceAdd, Int.reduceEq, Int.reduceNe, Int.reduceLT, Int.reduceLE, Int.reduceAdd, Int.reduceSub, Int.reduceMul, Int.reduceNeg, Int.reduceToNat, Nat.reduceEqDiff, Nat.reduceLT, Nat.reduceLeDiff, Nat.reduceMul, List.replicate, reduceCtorEq, TB, NB, t0, t1, t5, t6, show (i : Int) < l.length by omega, show (0 : Int) ≤ (i : Int) by omega, hlk', hat, encB, number43, r0, k0, decide_eq_false no0]
        refine code_draw [(16, 17), (16, 18), (16, 22), (16, 23), (17, 22), (17, 23), (18, 22), (18, 23), (19, 22), (19, 23), (20, 22), (20, 23), (21, 22), (21, 23)] (by decide +kernel) (by decide +kernel) ?_
        simp -dsimp (maxSteps := 4000000) (disch := first | omega | assumption | (simp only [FB, Nat.reduceAdd]; done) | (simp only [LB]; omega)) only [EB, ↓reduceIte, WB, Nat.reduceSub, Nat.reduceAdd, Int.reduceEq, Int.reduceNe, Int.reduceLT, Int.reduceLE, Int.reduceAdd, Int.reduceSub, Int.reduceMul, Int.reduceNeg, Int.reduceToNat, Nat.reduceEqDiff, Nat.reduceLT, Nat.reduceLeDiff, Nat.reduceMul, List.replicate, reduceCtorEq, RB, Nat.reduceEqDiff, TB, NB, t0, t1, t5, t6, name25, decide_eq_true hnm]
        rw [hbad fun h => hno (h hlt).1]
      · have hno : ¬ oneOk l[i] := fun h => by rcases h.2 with ⟨x1, x2⟩ | ⟨x1, x2, x3⟩ <;> first | contradiction | omega | (rw [r0] at x1; exact no0 x1)
        simp -dsimp (maxSteps := 4000000) (disch := first | omega | assumption | (simp only [FB, Nat.reduceAdd]; done) | (simp only [LB]; omega)) only [EB, ↓reduceIte, WB, Nat.reduceSub, Nat.reduceAdd, Int.reduceEq, Int.reduceNe, Int.reduceLT, Int.reduceLE, Int.reduceAdd, Int.reduceSub, Int.reduceMul, Int.reduceNeg, Int.reduceToNat, Nat.reduceEqDiff, Nat.reduceLT, Nat.reduceLeDiff, Nat.reduceMul, List.replicate, reduceCtorEq, TB, NB, t0, t1, t5, t6, show (i : Int) < l.length by omega, show (0 : Int) ≤ (i : Int) by omega, hlk', hat, encB, number43, r0, decide_eq_false n0]
        refine code_draw [(16, 17), (16, 18), (16, 22), (16, 23), (17, 22), (17, 23), (18, 22), (18, 23), (19, 22), (19, 23), (20, 22), (20, 23), (21, 22), (21, 23)] (by decide +kernel) (by decide +kernel) ?_
        simp -dsimp (maxSteps := 4000000) (disch := first | omega | assumption | (simp only [FB, Nat.reduceAdd]; done) | (simp only [LB]; omega)) only [EB, ↓reduceIte, WB, Nat.reduceSub, Nat.reduceAdd, Int.reduceEq, Int.reduceNe, Int.reduceLT, Int.reduceLE, Int.reduceAdd, Int.reduceSub, Int.reduceMul, Int.reduceNeg, Int.reduceToNat, Nat.reduceEqDiff, Nat.reduceLT, Nat.reduceLeDiff, Nat.reduceMul, List.replicate, reduceCtorEq, RB, Nat.reduceEqDiff, TB, NB, t0, t1, t5, t6, name25, decide_eq_true hnm]
        rw [hbad fun h => hno (h hlt).1]
      · have hno : ¬ oneOk l[i] := fun h => by rcases h.2 with ⟨x1, x2⟩ | ⟨x1, x2, x3⟩ <;> first | contradiction | omega | (rw [r0] at x1; exact no0 x1)
        simp -dsimp (maxSteps := 4000000) (disch := first | omega | assumption | (simp only [FB, Nat.reduceAdd]; done) | (simp only [LB]; omega)) only [EB, ↓reduceIte, WB, Nat.reduceSub, Nat.reduceAdd, Int.reduceEq, Int.reduceNe, Int.reduceLT, Int.reduceLE, Int.reduceAdd, Int.reduceSub, Int.reduceMul, Int.reduceNeg, Int.reduceToNat, Nat.reduceEqDiff, Nat.reduceLT, Nat.reduceLeDiff, Nat.reduceMul, List.replicate, reduceCtorEq, TB, NB, t0, t1, t5, t6, show (i : Int) < l.length by omega, show (0 : Int) ≤ (i : Int) by omega, hlk', hat, encB, number43, r0, decide_eq_true n0, k1]
        refine code_draw [(16, 17), (16, 18), (16, 22), (16, 23), (17, 22), (17, 23), (18, 22), (18, 23), (19, 22), (19, 23), (20, 22), (20, 23), (21, 22), (21, 23)] (by decide +kernel) (by decide +kernel) ?_
        simp -dsimp (maxSteps := 4000000) (disch := first | omega | assumption | (simp only [FB, Nat.reduceAdd]; done) | (simp only [LB]; omega)) only [EB, ↓reduceIte, WB, Nat.reduceSub, Nat.reduceAdd, Int.reduceEq, Int.reduceNe, Int.reduceLT, Int.reduceLE, Int.reduceAdd, Int.reduceSub, Int.reduceMul, Int.reduceNeg, Int.reduceToNat, Nat.reduceEqDiff, Nat.reduceLT, Nat.reduceLeDiff, Nat.reduceMul, List.replicate, reduceCtorEq, RB, Nat.reduceEqDiff, TB, NB, t0, t1, t5, t6, name25, decide_eq_true hnm]
        rw [hbad fun h => hno (h hlt).1]
      · have hno : ¬ oneOk l[i] := fun h => by rcases h.2 with ⟨x1, x2⟩ | ⟨x1, x2, x3⟩ <;> first | contradiction | omega | (rw [r0] at x1; exact no0 x1)
        simp -dsimp (maxSteps := 4000000) (disch := first | omega | assumption | (simp only [FB, Nat.reduceAdd]; done) | (simp only [LB]; omega)) only [EB, ↓reduceIte, WB, Nat.reduceSub, Nat.reduceAdd, Int.reduceEq, Int.reduceNe, Int.reduceLT, Int.reduceLE, Int.reduceAdd, Int.reduceSub, Int.reduceMul, Int.reduceNeg, Int.reduceToNat, Nat.reduceEqDiff, Nat.reduceLT, Nat.reduceLeDiff, Nat.reduceMul, List.replicate, reduceCtorEq, TB, NB, t0, t1, t5, t6, show (i : Int) < l.length by omega, show (0 : Int) ≤ (i : Int) by omega, hlk', hat, encB, number43, r0, decide_eq_true n0, k1, k2]
        refine code_draw [(16, 17), (16, 18), (16, 22), (16, 23), (17, 22), (17, 23), (18, 22), (18, 23), (19, 22), (19, 23), (20, 22), (20, 23), (21, 22), (21, 23)] (by decide +kernel) (by decide +kernel) ?_
        simp -dsimp (maxSteps := 4000000) (disch := first | omega | assumption | (simp only [FB, Nat.reduceAdd]; done) | (simp only [LB]; omega)) only [EB, ↓reduceIte, WB, Nat.reduceSub, Nat.reduceAdd, Int.reduceEq, Int.reduceNe, Int.reduceLT, Int.reduceLE, Int.reduceAdd, Int.reduceSub, Int.reduceMul, Int.reduceNeg, Int.reduceToNat, Nat.reduceEqDiff, Nat.reduceLT, Nat.reduceLeDiff, Nat.reduceMul, List.replicate, reduceCtorEq, RB, Nat.reduceEqDiff, TB, NB, t0, t1, t5, t6, name25, decide_eq_true hnm]
        rw [hbad fun h => hno (h hlt).1]
      · have hone : oneOk l[i] := ⟨hnm, .inr ⟨n0, k1, k2⟩⟩
        by_cases h0 : 0 < i
        · by_cases h2 : Op.bytesLess l[i - 1].name l[i].name = true
          · by_cases hlo : l[i].name = lostN
            · rw [if_pos hlo] at hstep
              have hlo2 : l[i].name = [108, 111, 115, 116, 43, 102, 111, 117, 110, 100] := hlo
              simp -dsimp (maxSteps := 4000000) (disch := first | omega | assumption | (simp only [FB, Nat.reduceAdd]; done) | (simp only [LB]; omega)) only [EB, ↓reduceIte, WB, Nat.reduceSub, Nat.reduceAdd, Int.reduceEq, Int.reduceNe, Int.reduceLT, Int.reduceLE, Int.reduceAdd, Int.reduceSub, Int.reduceMul, Int.reduceNeg, Int.reduceToNat, Nat.reduceEqDiff, Nat.reduceLT, Nat.reduceLeDiff, Nat.reduceMul, List.replicate, reduceCtorEq, TB, NB, t0, t1, t5, t6, show (i : Int) < l.length by omega, show (0 : Int) ≤ (i : Int) by omega, hlk', hat, encB, number43, r0, decide_eq_true n0, k1, k2]
              refine code_draw [(16, 17), (16, 18), (16, 22), (16, 23), (17, 22), (17, 23), (18, 22), (18, 23), (19, 22), (19, 23), (20, 22), (20, 23), (21, 22), (21, 23)] (by decide +kernel) (by decide +kernel) ?_
              simp -dsimp (maxSteps := 4000000) (disch := first | omega | assumption | (simp only [FB, Nat.reduceAdd]; done) | (simp only [LB]; omega)) only [EB, ↓reduceIte, WB, Nat.reduceSub, Nat.reduceAdd, Int.reduceEq, Int.reduceNe, Int.reduceLT, Int.reduceLE, Int.reduceAdd, Int.reduceSub, Int.reduceMul, Int.reduceNeg, Int.reduceToNat, Nat.reduceEqDiff, Nat.reduceLT, Nat.reduceLeDiff, Nat.reduceMul, List.replicate, reduceCtorEq, RB, Nat.reduceEqDiff, TB, NB, t0, t1, t5, t6, name25, decide_eq_true hnm, hlk', wrap64, show b ≠ n by omega, show (0 : Int) < i by omega, show ((i : Int) - 1).toNat = i - 1 by omega, hprev h0, show (0 : Int) ≤ (i : Int) - 1 by omega, show (i : Int) - 1 < l.length by omega, h2, decide_eq_true hlo2]
              refine ⟨l.length - (i + 1), by omega, i + 1, n + 2, _, _, rfl, by omega, rfl, by omega, fun j hj => ?_, rfl, fun j hj => ?_, ?_⟩
              · rw [look_miss (by omega), hh j hj]
              · rcases Nat.lt_or_ge j i with hji | hji
                · exact hok j hji
                · obtain rfl : j = i := by omega
                  exact fun _ => ⟨hone, fun _ => h2⟩
              · simp only [ups_at, ↓reduceIte, Nat.reduceEqDiff]; exact ⟨t0, t1, by rw [hstep]; exact t5, (by first | trivial | rfl | omega)⟩
            · rw [if_neg hlo] at hstep
              have hlo2 : ¬ l[i].name = [108, 111, 115, 116, 43, 102, 111, 117, 110, 100] := hlo
              simp -dsimp (maxSteps := 4000000) (disch := first | omega | assumption | (simp only [FB, Nat.reduceAdd]; done) | (simp only [LB]; omega)) only [EB, ↓reduceIte, WB, Nat.reduceSub, Nat.reduceAdd, Int.reduceEq, Int.reduceNe, Int.reduceLT, Int.reduceLE, Int.reduceAdd, Int.reduceSub, Int.reduceMul, Int.reduceNeg, Int.reduceToNat, Nat.reduceEqDiff, Nat.reduceLT, Nat.reduceLeDiff, Nat.reduceMul, List.replicate, reduceCtorEq, TB, NB, t0, t1, t5, t6, show (i : Int) < l.length by omega, show (0 : Int) ≤ (i : Int) by omega, hlk', hat, encB, number43, r0, decide_eq_true n0, k1, k2]
              refine code_draw [(16, 17), (16, 18), (16, 22), (16, 23), (17, 22), (17, 23), (18, 22), (18, 23), (19, 22), (19, 23), (20, 22), (20, 23), (21, 22), (21, 23)] (by decide +kernel) (by decide +kernel) ?_
              simp -dsimp (maxSteps := 4000000) (disch := first | omega | assumption | (simp only [FB, Nat.reduceAdd]; done) | (simp only [LB]; omega)) only [EB, ↓reduceIte, WB, Nat.reduceSub, Nat.reduceAdd, Int.reduceEq, Int.reduceNe, Int.reduceLT, Int.reduceLE, Int.reduceAdd, Int.reduceSub, Int.reduceMul, Int.reduceNeg, Int.reduceToNat, Nat.reduceEqDiff, Nat.reduceLT, Nat.reduceLeDiff, Nat.reduceMul, List.replicate, reduceCtorEq, RB, Nat.reduceEqDiff, TB, NB, t0, t1, t5, t6, name25, decide_eq_true hnm, hlk', wrap64, show b ≠ n by omega, show (0 : Int) < i by omega, show ((i : Int) - 1).toNat = i - 1 by omega, hprev h0, show (0 : Int) ≤ (i : Int) - 1 by omega, show (i : Int) - 1 < l.length by omega, h2, decide_eq_false hlo2, one50x]
              refine ⟨l.length - (i + 1), by omega, i + 1, n + 2, _, _, rfl, by omega, rfl, by omega, fun j hj => ?_, rfl, fun j hj => ?_, ?_⟩
              · rw [look_miss (by omega), hh j hj]
              · rcases Nat.lt_or_ge j i with hji | hji
                · exact hok j hji
                · obtain rfl : j = i := by omega
                  exact fun _ => ⟨hone, fun _ => h2⟩
              · simp only [ups_at, ↓reduceIte, Nat.reduceEqDiff]; exact ⟨t0, t1, by rw [hstep]; congr 1, (by first | trivial | rfl | omega)⟩
          · have h2' : Op.bytesLess l[i - 1].name l[i].name = false := by simpa using h2
            simp -dsimp (maxSteps := 4000000) (disch := first | omega | assumption | (simp only [FB, Nat.reduceAdd]; done) | (simp only [LB]; omega)) only [EB, ↓reduceIte, WB, Nat.reduceSub, Nat.reduceAdd, Int.reduceEq, Int.reduceNe, Int.reduceLT, Int.reduceLE, Int.reduceAdd, Int.reduceSub, Int.reduceMul, Int.reduceNeg, Int.reduceToNat, Nat.reduceEqDiff, Nat.reduceLT, Nat.reduceLeDiff, Nat.reduceMul, List.replicate, reduceCtorEq, TB, NB, t0, t1, t5, t6, show (i : Int) < l.length by omega, show (0 : Int) ≤ (i : Int) by omega, hlk', hat, encB, number43, r0, decide_eq_true n0, k1, k2]
            refine code_draw [(16, 17), (16, 18), (16, 22), (16, 23), (17, 22), (17, 23), (18, 22), (18, 23), (19, 22), (19, 23), (20, 22), (20, 23), (21, 22), (21, 23)] (by decide +kernel) (by decide +kernel) ?_
            simp -dsimp (maxSteps := 4000000) (disch := first | omega | assumption | (simp only [FB, Nat.reduceAdd]; done) | (simp only [LB]; omega)) only [EB, ↓reduceIte, WB, Nat.reduceSub, Nat.reduceAdd, Int.reduceEq, Int.reduceNe, Int.reduceLT, Int.reduceLE, Int.reduceAdd, Int.reduceSub, Int.reduceMul, Int.reduceNeg, Int.reduceToNat, Nat.reduceEqDiff, Nat.reduceLT, Nat.reduceLeDiff, Nat.reduceMul, List.replicate, reduceCtorEq, RB, Nat.reduceEqDiff, TB, NB, t0, t1, t5, t6, name25, decide_eq_true hnm, hlk', wrap64, show b ≠ n by omega, show (0 : Int) < i by omega, show ((i : Int) - 1).toNat = i - 1 by omega, hprev h0, show (0 : Int) ≤ (i : Int) - 1 by omega, show (i : Int) - 1 < l.length by omega, h2']
            rw [hbad fun h => h2 ((h hlt).2 h0)]
        · by_cases hlo : l[i].name = lostN
          · rw [if_pos hlo] at hstep
            have hlo2 : l[i].name = [108, 111, 115, 116, 43, 102, 111, 117, 110, 100] := hlo
            simp -dsimp (maxSteps := 4000000) (disch := first | omega | assumption | (simp only [FB, Nat.reduceAdd]; done) | (simp only [LB]; omega)) only [EB, ↓reduceIte, WB, Nat.reduceSub, Nat.reduceAdd, Int.reduceEq, Int.reduceNe, Int.reduceLT, Int.reduceLE, Int.reduceAdd, Int.reduceSub, Int.reduceMul, Int.reduceNeg, Int.reduceToNat, Nat.reduceEqDiff, Nat.reduceLT, Nat.reduceLeDiff, Nat.reduceMul, List.replicate, reduceCtorEq, TB, NB, t0, t1, t5, t6, show (i : Int) < l.length by omega, show (0 : Int) ≤ (i : Int) by omega, hlk', hat, encB, number43, r0, decide_eq_true n0, k1, k2]
            refine code_draw [(16, 17), (16, 18), (16, 22), (16, 23), (17, 22), (17, 23), (18, 22), (18, 23), (19, 22), (19, 23), (20, 22), (20, 23), (21, 22), (21, 23)] (by decide +kernel) (by decide +kernel) ?_
            simp -dsimp (maxSteps := 4000000) (disch := first | omega | assumption | (simp only [FB, Nat.reduceAdd]; done) | (simp only [LB]; omega)) only [EB, ↓reduceIte, WB, Nat.reduceSub, Nat.reduceAdd, Int.reduceEq, Int.reduceNe, Int.reduceLT, Int.reduceLE, Int.reduceAdd, Int.reduceSub, Int.reduceMul, Int.reduceNeg, Int.reduceToNat, Nat.reduceEqDiff, Nat.reduceLT, Nat.reduceLeDiff, Nat.reduceMul, List.replicate, reduceCtorEq, RB, Nat.reduceEqDiff, TB, NB, t0, t1, t5, t6, name25, decide_eq_true hnm, hlk', wrap64, show b ≠ n by omega, show ¬ (0 : Int) < i by omega, decide_eq_true hlo2]
            refine ⟨l.length - (i + 1), by omega, i + 1, n + 2, _, _, rfl, by omega, rfl, by omega, fun j hj => ?_, rfl, fun j hj => ?_, ?_⟩
            · rw [look_miss (by omega), hh j hj]
            · rcases Nat.lt_or_ge j i with hji | hji
              · exact hok j hji
              · obtain rfl : j = i := by omega
                exact fun _ => ⟨hone, fun h0' => absurd h0' h0⟩
            · simp only [ups_at, ↓reduceIte, Nat.reduceEqDiff]; exact ⟨t0, t1, by rw [hstep]; exact t5, (by first | trivial | rfl | omega)⟩
          · rw [if_neg hlo] at hstep
            have hlo2 : ¬ l[i].name = [108, 111, 115, 116, 43, 102, 111, 117, 110, 100] := hlo
            simp -dsimp (maxSteps := 4000000) (disch := first | omega | assumption | (simp only [FB, Nat.reduceAdd]; done) | (simp only [LB]; omega)) only [EB, ↓reduceIte, WB, Nat.reduceSub, Nat.reduceAdd, Int.reduceEq, Int.reduceNe, Int.reduceLT, Int.reduceLE, Int.reduceAdd, Int.reduceSub, Int.reduceMul, Int.reduceNeg, Int.reduceToNat, Nat.reduceEqDiff, Nat.reduceLT, Nat.reduceLeDiff, Nat.reduceMul, List.replicate, reduceCtorEq, TB, NB, t0, t1, t5, t6, show (i : Int) < l.length by omega, show (0 : Int) ≤ (i : Int) by omega, hlk', hat, encB, number43, r0, decide_eq_true n0, k1, k2]
            refine code_draw [(16, 17), (16, 18), (16, 22), (16, 23), (17, 22), (17, 23), (18, 22), (18, 23), (19, 22), (19, 23), (20, 22), (20, 23), (21, 22), (21, 23)] (by decide +kernel) (by decide +kernel) ?_
            simp -dsimp (maxSteps := 4000000) (disch := first | omega | assumption | (simp only [FB, Nat.reduceAdd]; done) | (simp only [LB]; omega)) only [EB, ↓reduceIte, WB, Nat.reduceSub, Nat.reduceAdd, Int.reduceEq, Int.reduceNe, Int.reduceLT, Int.reduceLE, Int.reduceAdd, Int.reduceSub, Int.reduceMul, Int.reduceNeg, Int.reduceToNat, Nat.reduceEqDiff, Nat.reduceLT, Nat.reduceLeDiff, Nat.reduceMul, List.replicate, reduceCtorEq, RB, Nat.reduceEqDiff, TB, NB, t0, t1, t5, t6, name25, decide_eq_true hnm, hlk', wrap64, show b ≠ n by omega, show ¬ (0 : Int) < i by omega, decide_eq_false hlo2, one50x]
            refine ⟨l.length - (i + 1), by omega, i + 1, n + 2, _, _, rfl, by omega, rfl, by omega, fun j hj => ?_, rfl, fun j hj => ?_, ?_⟩
            · rw [look_miss (by omega), hh j hj]
            · rcases Nat.lt_or_ge j i with hji | hji
              · exact hok j hji
              · obtain rfl : j = i := by omega
                exact fun _ => ⟨hone, fun h0' => absurd h0' h0⟩
            · simp only [ups_at, ↓reduceIte, Nat.reduceEqDiff]; exact ⟨t0, t1, by rw [hstep]; congr 1, (by first | trivial | rfl | omega)⟩
    · have hno : ¬ oneOk l[i] := fun h => hnm h.1
      rcases six l[i].root l[i].keys with ⟨r0, k0⟩ | ⟨r0, k0⟩ | ⟨r0, n0⟩ | ⟨r0, n0, k1⟩ | ⟨r0, n0, k1, k2⟩ | ⟨r0, n0, k1, k2⟩
      · simp -dsimp (maxSteps := 4000000) (disch := first | omega | assumption | (simp only [FB, Nat.reduceAdd]; done) | (simp only [LB]; omega)) only [EB, ↓reduceIte, WB, Nat.reduceSub, Nat.reduceAdd, Int.reduceEq, Int.reduceNe, Int.reduceLT, Int.reduceLE, Int.reduceAdd, Int.reduceSub, Int.reduceMul, Int.reduceNeg, Int.reduceToNat, Nat.reduceEqDiff, Nat.reduceLT, Nat.reduceLeDiff, Nat.reduceMul, List.replicate, reduceCtorEq, TB, NB, t0, t1, t5, t6, show (i : Int) < l.length by omega, show (0 : Int) ≤ (i : Int) by omega, hlk', hat, encB, number43, r0, k0, decide_eq_false no0]
        refine code_draw [(16, 17), (16, 18), (16, 22), (16, 23), (17, 22), (17, 23), (18, 22), (18, 23), (19, 22), (19, 23), (20, 22), (20, 23), (21, 22), (21, 23)] (by decide +kernel) (by decide +kernel) ?_
        simp -dsimp (maxSteps := 4000000) (disch := first | omega | assumption | (simp only [FB, Nat.reduceAdd]; done) | (simp only [LB]; omega)) only [EB, ↓reduceIte, WB, Nat.reduceSub, Nat.reduceAdd, Int.reduceEq, Int.reduceNe, Int.reduceLT, Int.reduceLE, Int.reduceAdd, Int.reduceSub, Int.reduceMul, Int.reduceNeg, Int.reduceToNat, Nat.reduceEqDiff, Nat.reduceLT, Nat.reduceLeDiff, Nat.reduceMul, List.replicate, reduceCtorEq, RB, Nat.reduceEqDiff, TB, NB, t0, t1, t5, t6, name25, decide_eq_false hnm]
        rw [hbad fun h => hno (h hlt).1]
      · simp -dsimp (maxSteps := 4000000) (disch := first | omega | assumption | (simp only [FB, Nat.reduceAdd]; done) | (simp only [LB]; omega)) only [EB, ↓reduceIte, WB, Nat.reduceSub, Nat.reduceAdd, Int.reduceEq, Int.reduceNe, Int.reduceLT, Int.reduceLE, Int.reduceAdd, Int.reduceSub, Int.reduceMul, Int.reduceNeg, Int.reduceToNat, Nat.reduceEqDiff, Nat.reduceLT, Nat.reduceLeDiff, Nat.reduceMul, List.replicate, reduceCtorEq, TB, NB, t0, t1, t5, t6, show (i : Int) < l.length by omega, show (0 : Int) ≤ (i : Int) by omega, hlk', hat, encB, number43, r0, k0, decide_eq_false no0]
        refine code_draw [(16, 17), (16, 18), (16, 22), (16, 23), (17, 22), (17, 23), (18, 22), (18, 23), (19, 22), (19, 23), (20, 22), (20, 23), (21, 22), (21, 23)] (by decide +kernel) (by decide +kernel) ?_
        simp -dsimp (maxSteps := 4000000) (disch := first | omega | assumption | (simp only [FB, Nat.reduceAdd]; done) | (simp only [LB]; omega)) only [EB, ↓reduceIte, WB, Nat.reduceSub, Nat.reduceAdd, Int.reduceEq, Int.reduceNe, Int.reduceLT, Int.reduceLE, Int.reduceAdd, Int.reduceSub, Int.reduceMul, Int.reduceNeg, Int.reduceToNat, Nat.reduceEqDiff, Nat.reduceLT, Nat.reduceLeDiff, Nat.reduceMul, List.replicate, reduceCtorEq, RB, Nat.reduceEqDiff, TB, NB, t0, t1, t5, t6, name25, decide_eq_false hnm]
        rw [hbad fun h => hno (h hlt).1]
      · simp -dsimp (maxSteps := 4000000) (disch := first | omega | assumption | (simp only [FB, Nat.reduceAdd]; done) | (simp only [LB]; omega)) only [EB, ↓reduceIte, WB, Nat.reduceSub, Nat.reduceAdd, Int.reduceEq, Int.reduceNe, Int.reduceLT, Int.reduceLE, Int.reduceAdd, Int.reduceSub, Int.reduceMul, Int.reduceNeg, Int.reduceToNat, Nat.reduceEqDiff, Nat.reduceLT, Nat.reduceLeDiff, Nat.reduceMul, List.replicate, reduceCtorEq, TB, NB, t0, t1, t5, t6, show (i : Int) < l.length by omega, show (0 : Int) ≤ (i : Int) by omega, hlk', hat, encB, number43, r0, decide_eq_false n0]
        refine code_draw [(16, 17), (16, 18), (16, 22), (16, 23), (17, 22), (17, 23), (18, 22), (18, 23), (19, 22), (19, 23), (20, 22), (20, 23), (21, 22), (21, 23)] (by decide +kernel) (by decide +kernel) ?_
        simp -dsimp (maxSteps := 4000000) (disch := first | omega | assumption | (simp only [FB, Nat.reduceAdd]; done) | (simp only [LB]; omega)) only [EB, ↓reduceIte, WB, Nat.reduceSub, Nat.reduceAdd, Int.reduceEq, Int.reduceNe, Int.reduceLT, Int.reduceLE, Int.reduceAdd, Int.reduceSub, Int.reduceMul, Int.reduceNeg, Int.reduceToNat, Nat.reduceEqDiff, Nat.reduceLT, Nat.reduceLeDiff, Nat.reduceMul, List.replicate, reduceCtorEq, RB, Nat.reduceEqDiff, TB, NB, t0, t1, t5, t6, name25, decide_eq_false hnm]
        rw [hbad fun h => hno (h hlt).1]
      · simp -dsimp (maxSteps := 4000000) (disch := first | omega | assumption | (simp only [FB, Nat.reduceAdd]; done) | (simp only [LB]; omega)) only [EB, ↓reduceIte, WB, Nat.reduceSub, Nat.reduceAdd, Int.reduceEq, Int.reduceNe, Int.reduceLT, Int.reduceLE, Int.reduceAdd, Int.reduceSub, Int.reduceMul, Int.reduceNeg, Int.reduceToNat, Nat.reduceEqDiff, Nat.reduceLT, Nat.reduceLeDiff, Nat.reduceMul, List.replicate, reduceCtorEq, TB, NB, t0, t1, t5, t6, show (i : Int) < l.length by omega, show (0 : Int) ≤ (i : Int) by omega, hlk', hat, encB, number43, r0, decide_eq_true n0, k1]
        refine code_draw [(16, 17), (16, 18), (16, 22), (16, 23), (17, 22), (17, 23), (18, 22), (18, 23), (19, 22), (19, 23), (20, 22), (20, 23), (21, 22), (21, 23)] (by decide +kernel) (by decide +kernel) ?_
        simp -dsimp (maxSteps := 4000000) (disch := first | omega | assumption | (simp only [FB, Nat.reduceAdd]; done) | (simp only [LB]; omega)) only [EB, ↓reduceIte, WB, Nat.reduceSub, Nat.reduceAdd, Int.reduceEq, Int.reduceNe, Int.reduceLT, Int.reduceLE, Int.reduceAdd, Int.reduceSub, Int.reduceMul, Int.reduceNeg, Int.reduceToNat, Nat.reduceEqDiff, Nat.reduceLT, Nat.reduceLeDiff, Nat.reduceMul, List.replicate, reduceCtorEq, RB, Nat.reduceEqDiff, TB, NB, t0, t1, t5, t6, name25, decide_eq_false hnm]
        rw [hbad fun h => hno (h hlt).1]
      · simp -dsimp (maxSteps := 4000000) (disch := first | omega | assumption | (simp only [FB, Nat.reduceAdd]; done) | (simp only [LB]; omega)) only [EB, ↓reduceIte, WB, Nat.reduceSub, Nat.reduceAdd, Int.reduceEq, Int.reduceNe, Int.reduceLT, Int.reduceLE, Int.reduceAdd, Int.reduceSub, Int.reduceMul, Int.reduceNeg, Int.reduceToNat, Nat.reduceEqDiff, Nat.reduceLT, Nat.reduceLeDiff, Nat.reduceMul, List.replicate, reduceCtorEq, TB, NB, t0, t1, t5, t6, show (i : Int) < l.length by omega, show (0 : Int) ≤ (i : Int) by omega, hlk', hat, encB, number43, r0, decide_eq_true n0, k1, k2]
        refine code_draw [(16, 17), (16, 18), (16, 22), (16, 23), (17, 22), (17, 23), (18, 22), (18, 23), (19, 22), (19, 23), (20, 22), (20, 23), (21, 22), (21, 23)] (by decide +kernel) (by decide +kernel) ?_
        simp -dsimp (maxSteps := 4000000) (disch := first | omega | assumption | (simp only [FB, Nat.reduceAdd]; done) | (simp only [LB]; omega)) only [EB, ↓reduceIte, WB, Nat.reduceSub, Nat.reduceAdd, Int.reduceEq, Int.reduceNe, Int.reduceLT, Int.reduceLE, Int.reduceAdd, Int.reduceSub, Int.reduceMul, Int.reduceNeg, Int.reduceToNat, Nat.reduceEqDiff, Nat.reduceLT, Nat.reduceLeDiff, Nat.reduceMul, List.replicate, reduceCtorEq, RB, Nat.reduceEqDiff, TB, NB, t0, t1, t5, t6, name25, decide_eq_false hnm]
        rw [hbad fun h => hno (h hlt).1]
      · simp -dsimp (maxSteps := 4000000) (disch := first | omega | assumption | (simp only [FB, Nat.reduceAdd]; done) | (simp only [LB]; omega)) only [EB, ↓reduceIte, WB, Nat.reduceSub, Nat.reduceAdd, Int.reduceEq, Int.reduceNe, Int.reduceLT, Int.reduceLE, Int.reduceAdd, Int.reduceSub, Int.reduceMul, Int.reduceNeg, Int.reduceToNat, Nat.reduceEqDiff, Nat.reduceLT, Nat.reduceLeDiff, Nat.reduceMul, List.replicate, reduceCtorEq, TB, NB, t0, t1, t5, t6, show (i : Int) < l.length by omega, show (0 : Int) ≤ (i : Int) by omega, hlk', hat, encB, number43, r0, decide_eq_true n0, k1, k2]
        refine code_draw [(16, 17), (16, 18), (16, 22), (16, 23), (17, 22), (17, 23), (18, 22), (18, 23), (19, 22), (19, 23), (20, 22), (20, 23), (21, 22), (21, 23)] (by decide +kernel) (by decide +kernel) ?_
        simp -dsimp (maxSteps := 4000000) (disch := first | omega | assumption | (simp only [FB, Nat.reduceAdd]; done) | (simp only [LB]; omega)) only [EB, ↓reduceIte, WB, Nat.reduceSub, Nat.reduceAdd, Int.reduceEq, Int.reduceNe, Int.reduceLT, Int.reduceLE, Int.reduceAdd, Int.reduceSub, Int.reduceMul, Int.reduceNeg, Int.reduceToNat, Nat.reduceEqDiff, Nat.reduceLT, Nat.reduceLeDiff, Nat.reduceMul, List.replicate, reduceCtorEq, RB, Nat.reduceEqDiff, TB, NB, t0, t1, t5, t6, name25, decide_eq_false hnm]
        rw [hbad fun h => hno (h hlt).1]
  · obtain rfl : i = l.length := by omega
    have hall : ∀ j, okAt l j := fun j hj => hok j hj hj
    have hsrt : Srt l := srt_adj fun j hj => (hall (j + 1) hj).2 (by omega)
    rw [List.take_length, sizeX_del hsrt] at t5
    have hx1 := sizeX_le l
    rw [sizeX_del hsrt] at hx1
    by_cases hg : goodSz size
    · have hr : room size = size - 24 := by unfold room; rw [if_pos hg]
      have hg' := hg
      simp only [goodSz] at hg'
      by_cases hs : (sizeB (delB l lostN) : Int) ≤ size - 24 - 19
      · simp -dsimp (maxSteps := 4000000) (disch := first | omega | assumption | (simp only [FB, Nat.reduceAdd]; done) | (simp only [LB]; omega)) only [EB, ↓reduceIte, WB, Nat.reduceSub, Nat.reduceAdd, Int.reduceEq, Int.reduceNe, Int.reduceLT, Int.reduceLE, Int.reduceAdd, Int.reduceSub, Int.reduceMul, Int.reduceNeg, Int.reduceToNat, Nat.reduceEqDiff, Nat.reduceLT, Nat.reduceLeDiff, Nat.reduceMul, List.replicate, reduceCtorEq, TB, NB, t0, t1, t5, t6, show ¬ (l.length : Int) < l.length by omega, good57, room58, hg, hr, wrap64, hs]
        rw [mayB_true ⟨hall, hg, hs⟩]
        exact ⟨(by first | trivial | rfl | omega), (by first | trivial | rfl | omega)⟩
      · simp -dsimp (maxSteps := 4000000) (disch := first | omega | assumption | (simp only [FB, Nat.reduceAdd]; done) | (simp only [LB]; omega)) only [EB, ↓reduceIte, WB, Nat.reduceSub, Nat.reduceAdd, Int.reduceEq, Int.reduceNe, Int.reduceLT, Int.reduceLE, Int.reduceAdd, Int.reduceSub, Int.reduceMul, Int.reduceNeg, Int.reduceToNat, Nat.reduceEqDiff, Nat.reduceLT, Nat.reduceLeDiff, Nat.reduceMul, List.replicate, reduceCtorEq, TB, NB, t0, t1, t5, t6, show ¬ (l.length : Int) < l.length by omega, good57, room58, hg, hr, wrap64, hs]
        rw [mayB_false fun h => hs h.2.2]
        exact ⟨(by first | trivial | rfl | omega), (by first | trivial | rfl | omega)⟩
    · simp -dsimp (maxSteps := 4000000) (disch := first | omega | assumption | (simp only [FB, Nat.reduceAdd]; done) | (simp only [LB]; omega)) only [EB, ↓reduceIte, WB, Nat.reduceSub, Nat.reduceAdd, Int.reduceEq, Int.reduceNe, Int.reduceLT, Int.reduceLE, Int.reduceAdd, Int.reduceSub, Int.reduceMul, Int.reduceNeg, Int.reduceToNat, Nat.reduceEqDiff, Nat.reduceLT, Nat.reduceLeDiff, Nat.reduceMul, List.replicate, reduceCtorEq, TB, NB, t0, t1, t5, t6, show ¬ (l.length : Int) < l.length by omega, good57, hg]
      rw [mayB_false fun h => hg h.2.1]
      exact ⟨rfl, trivial⟩
end Go.Proofs.YtpcaoohacgkeiaaAM
