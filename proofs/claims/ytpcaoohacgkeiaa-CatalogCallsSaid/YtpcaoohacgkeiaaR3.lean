/- Chapter 6: the reference's Page. -/
import Derived.Test.YtpcaoohacgkeiaaR2
namespace Go.Proofs.YtpcaoohacgkeiaaAM
open Go Go.RowKit
set_option linter.unusedVariables false
set_option linter.unusedSimpArgs false
set_option maxRecDepth 10000
set_option maxHeartbeats 4000000

theorem page20 (size n tx : Int) (v : Value) (l : List Bkt) (hl : l.length ≤ 9000) (hsl : sizeB l ≤ 4611686018427387904) (hnm : ∀ b ∈ l, b.name.length ≤ 140737488355328) (a : AW) (m : Nat) (hm : m ≤ a.next) (hv : RV encB 3 a.heap m v l) (K : Value → AW → Prop) :
    WCall Try.prog GV 20 [.int .i64 size, .int .u32 n, .int .u64 tx, v] a K = K (.tuple #[.agg (encP (pageB size n tx l).1).toArray, .int .i64 (pageB size n tx l).2]) a := by
  refine call_eq ?_ K
  rw [call_env Try.func20 rfl Try.ntmps20 rfl rfl (by simp)]
  obtain ⟨pp, c, rfl⟩ := hv.len
  have hv0 : RV encB 3 ((a.next, Blk.cells (encP noPage) true) :: a.heap) m (.slice pp l.length c) l := hv.keep (Nat.le_refl _) fun j hj => look_miss (by omega)
  have hmay := fun K => may42 size (.slice pp l.length c) l hl hnm hsl ⟨a.next + 1, (a.next, Blk.cells (encP noPage) true) :: a.heap, a.next, []⟩ m (by simp only; omega) hv0 K
  simp only [encP, noPage] at hmay
  by_cases h1 : mayB size l = true
  · by_cases h2 : numOk n
    · by_cases h3 : tx ≤ 4611686018427387904
      · have hb : pageB size n tx l = (⟨2, l.length, n, 0, tx, zerosTo (codeL l) (size.toNat - 24)⟩, 0) := by unfold pageB; rw [if_pos ⟨h1, h2, h3⟩]
        simp -dsimp (maxSteps := 4000000) (disch := first | omega | assumption | (simp only [FB, Nat.reduceAdd]; done) | (simp only [LB]; omega)) only [EB, ↓reduceIte, WB, Nat.reduceSub, Nat.reduceAdd, Int.reduceEq, Int.reduceNe, Int.reduceLT, Int.reduceLE, Int.reduceAdd, Int.reduceSub, Int.reduceMul, Int.reduceNeg, Int.reduceToNat, Nat.reduceEqDiff, Nat.reduceLT, Nat.reduceLeDiff, Nat.reduceMul, List.replicate, reduceCtorEq, TB, NB, hmay, h1, h2, h3, number43, show ¬ (4611686018427387904 : Int) < tx by omega]
        have hmp : mayP size l := by
          apply Classical.byContradiction
          intro h; rw [mayB_false h] at h1; cases h1
        have hfit := may_fit hmp
        refine loop_inv (fun r t w => ∃ i n1 h q v, ∃ e : Nat → Value, r = l.length - i ∧ i ≤ l.length ∧ w = ⟨n1, h, a.next, []⟩ ∧ a.next + 1 ≤ n1 ∧ (∀ j, j < a.next → look j h = look j a.heap) ∧ look a.next h = some (.cells (encP noPage) true) ∧ t = TT 78 e ∧ OwnS encU 1 h n1 q v (codeL (l.take i)) ∧ a.next + 1 ≤ q ∧
          e 0 = .int .i64 size ∧ e 1 = .int .u32 n ∧ e 2 = .int .u64 tx ∧ e 3 = .slice pp l.length c ∧ e 8 = .pointer (some ⟨a.next, 0, none⟩) ∧ e 10 = v ∧ e 11 = .int .i64 i)
          ⟨0, a.next + 1, _, a.next + 1, _, _, rfl, by omega, rfl, Nat.le_refl _, fun j hj => look_miss (by omega), look_self, rfl, OwnS.nil, Nat.le_refl _, rfl, rfl, rfl, rfl, rfl, rfl, rfl⟩ ?_
        rintro r t w ⟨i, n1, h, q, vb, e, rfl, hi, rfl, hn1, hh, hpg, rfl, ho, hq, t0, t1, t2, t3, t8, t10, t11⟩
        have hcl : (codeL (l.take i)).length ≤ 4096 := by rw [codeL_len]; have := sizeB_mono l i; omega
        by_cases hlt : i < l.length
        · obtain ⟨b, o, sp, rw0, cc, rfl, hlk, hbn, hle, hat, -⟩ := hv.at encB_len hlt
          have hlk' : look b h = some (.cells cc rw0) := by rw [hh b (by omega)]; exact hlk
          have hone := (hmp.1 i hlt).1
          obtain ⟨⟨hnm1, hnm2⟩, hrk⟩ := hone
          have hroot : 0 ≤ l[i].root ∧ l[i].root ≤ 2147483647 ∧ 0 ≤ l[i].keys ∧ l[i].keys ≤ 2147483647 := by
            rcases hrk with ⟨h1, h2⟩ | ⟨⟨h1, h2⟩, h3, h4⟩ <;> omega
          obtain ⟨R, hR⟩ : ∃ R : Nat, l[i].root = R := ⟨l[i].root.toNat, by omega⟩
          obtain ⟨Q, hQ⟩ : ∃ Q : Nat, l[i].keys = Q := ⟨l[i].keys.toNat, by omega⟩
          obtain ⟨b9, o9, sp9, rw9, cc9, e9, hlk9, -, -, -, hk⟩ := hv.at encB_len hlt
          cases e9
          rw [hlk] at hlk9
          cases hlk9
          have hn0 : cc[o + i * 3]? = some (.string (mkStr l[i].name)) := by have := hk 0 (by omega); simpa [encB] using this
          have hn1' : cc[o + (i * 3 + 1)]? = some (.int .u32 R) := by have := hk 1 (by omega); rw [← hR, ← Nat.add_assoc]; simpa [encB] using this
          have hn2 : cc[o + (i * 3 + 2)]? = some (.int .i64 Q) := by have := hk 2 (by omega); rw [← hQ, ← Nat.add_assoc]; simpa [encB] using this
          have hnl : l[i].name.length ≤ 16 := hnm2
          have hil : (i : Int) < l.length := by omega
          have hi0 : (0 : Int) ≤ (i : Int) := by omega
          simp -dsimp (maxSteps := 4000000) (disch := first | omega | assumption | (simp only [FB, Nat.reduceAdd]; done) | (simp only [LB]; omega)) only [EB, ↓reduceIte, WB, Nat.reduceSub, Nat.reduceAdd, Int.reduceEq, Int.reduceNe, Int.reduceLT, Int.reduceLE, Int.reduceAdd, Int.reduceSub, Int.reduceMul, Int.reduceNeg, Int.reduceToNat, Nat.reduceEqDiff, Nat.reduceLT, Nat.reduceLeDiff, Nat.reduceMul, List.replicate, reduceCtorEq, TB, NB, t0, t1, t2, t3, t8, t10, t11, hil, hi0, hlk', hn0, wrapu64]
          refine put44 vb (codeL (l.take i)) l[i].name.length 1 (by omega) (by omega) (by omega) ⟨n1, h, a.next, []⟩ n1 (Nat.le_refl _) ho.rv _ fun v1 n2 h2 y1 y2 y3 y4 => ?_
          simp only at y1 y2 y3 y4
          have hl2 : look b h2 = some (.cells cc rw0) := by rw [y4 b (by omega)]; exact hlk'
          obtain ⟨v3, q3, n3, h3, e3, o3, f1, f2, f3, f4, f5⟩ := append_mineS (E := Try.prog) (t0 := 53) (t1 := 9) (bs := a.next) (d := []) (ys := l[i].name) (by decide +kernel) y3 (by omega) (by omega) (by rw [List.length_append, le_len]; omega)
          simp -dsimp (maxSteps := 4000000) (disch := first | omega | assumption | (simp only [FB, Nat.reduceAdd]; done) | (simp only [LB]; omega)) only [EB, ↓reduceIte, WB, Nat.reduceSub, Nat.reduceAdd, Int.reduceEq, Int.reduceNe, Int.reduceLT, Int.reduceLE, Int.reduceAdd, Int.reduceSub, Int.reduceMul, Int.reduceNeg, Int.reduceToNat, Nat.reduceEqDiff, Nat.reduceLT, Nat.reduceLeDiff, Nat.reduceMul, List.replicate, reduceCtorEq, TB, NB, t3, t11, hil, hi0, hl2, hn0, e3]
          have hl3 : look b h3 = some (.cells cc rw0) := by rw [f5 b (by omega) (by omega)]; exact hl2
          simp -dsimp (maxSteps := 4000000) (disch := first | omega | assumption | (simp only [FB, Nat.reduceAdd]; done) | (simp only [LB]; omega)) only [EB, ↓reduceIte, WB, Nat.reduceSub, Nat.reduceAdd, Int.reduceEq, Int.reduceNe, Int.reduceLT, Int.reduceLE, Int.reduceAdd, Int.reduceSub, Int.reduceMul, Int.reduceNeg, Int.reduceToNat, Nat.reduceEqDiff, Nat.reduceLT, Nat.reduceLeDiff, Nat.reduceMul, List.replicate, reduceCtorEq, TB, NB, t3, t11, hil, hi0, hl3, hn1', wrapu64]
          refine put44 v3 _ R 4 (by omega) (by omega) (by simp only [List.length_append, le_len]; omega) ⟨n3, h3, a.next, []⟩ n3 (Nat.le_refl _) o3.rv _ fun v4 n4 h4 z1 z2 z3 z4 => ?_
          simp only at z1 z2 z3 z4
          have hl4 : look b h4 = some (.cells cc rw0) := by rw [z4 b (by omega)]; exact hl3
          simp -dsimp (maxSteps := 4000000) (disch := first | omega | assumption | (simp only [FB, Nat.reduceAdd]; done) | (simp only [LB]; omega)) only [EB, ↓reduceIte, WB, Nat.reduceSub, Nat.reduceAdd, Int.reduceEq, Int.reduceNe, Int.reduceLT, Int.reduceLE, Int.reduceAdd, Int.reduceSub, Int.reduceMul, Int.reduceNeg, Int.reduceToNat, Nat.reduceEqDiff, Nat.reduceLT, Nat.reduceLeDiff, Nat.reduceMul, List.replicate, reduceCtorEq, TB, NB, t3, t11, hil, hi0, hl4, hn2, wrapu64]
          refine put44 v4 _ Q 4 (by omega) (by omega) (by simp only [List.length_append, le_len]; omega) ⟨n4, h4, a.next, []⟩ n4 (Nat.le_refl _) z3.rv _ fun v5 n5 h5 u1 u2 u3 u4 => ?_
          simp only at u1 u2 u3 u4
          have hcd : codeL (l.take (i + 1)) = codeL (l.take i) ++ le l[i].name.length 1 ++ l[i].name ++ le R 4 ++ le Q 4 := by
            rw [codeL_take l i hlt, codeB, hR, hQ]
            simp only [Int.toNat_natCast, List.append_assoc]
          simp -dsimp (maxSteps := 4000000) (disch := first | omega | assumption | (simp only [FB, Nat.reduceAdd]; done) | (simp only [LB]; omega)) only [EB, ↓reduceIte, WB, Nat.reduceSub, Nat.reduceAdd, Int.reduceEq, Int.reduceNe, Int.reduceLT, Int.reduceLE, Int.reduceAdd, Int.reduceSub, Int.reduceMul, Int.reduceNeg, Int.reduceToNat, Nat.reduceEqDiff, Nat.reduceLT, Nat.reduceLeDiff, Nat.reduceMul, List.replicate, reduceCtorEq, TB, NB, t11, wrap64]
          refine ⟨trivial, l.length - (i + 1), by omega, i + 1, n5, h5, n4, v5, _, rfl, by omega, (by first | trivial | rfl | omega), by omega, fun j hj => ?_, ?_, rfl, by rw [hcd]; exact u3, by omega, ?_⟩
          · rw [u4 j (by omega), z4 j (by omega), f5 j (by omega) (by omega), y4 j (by omega), hh j hj]
          · rw [u4 _ (by omega), z4 _ (by omega), f5 _ (by omega) (by omega), y4 _ (by omega), hpg]
          · simp only [ups_at, ↓reduceIte, Nat.reduceEqDiff]
            exact ⟨t0, t1, t2, t3, t8, trivial, (by first | trivial | rfl | omega)⟩
        · obtain rfl : i = l.length := by omega
          rw [List.take_length] at ho hcl
          have hbd : bodyOf size (codeL l) = (zerosTo (codeL l) (size.toNat - 24), 0) := by
            unfold bodyOf
            rw [if_pos hmp.2.1, if_pos (by rw [codeL_len]; omega)]
          have hbody := fun K => body45 size vb (codeL l) (by omega) ⟨n1, h, a.next, []⟩ n1 (Nat.le_refl _) ho.rv K
          simp only [hbd] at hbody
          simp -dsimp (maxSteps := 4000000) (disch := first | omega | assumption | (simp only [FB, Nat.reduceAdd]; done) | (simp only [LB]; omega)) only [EB, ↓reduceIte, WB, Nat.reduceSub, Nat.reduceAdd, Int.reduceEq, Int.reduceNe, Int.reduceLT, Int.reduceLE, Int.reduceAdd, Int.reduceSub, Int.reduceMul, Int.reduceNeg, Int.reduceToNat, Nat.reduceEqDiff, Nat.reduceLT, Nat.reduceLeDiff, Nat.reduceMul, List.replicate, reduceCtorEq, TB, NB, t0, t1, t2, t3, t8, t10, t11, show ¬ (l.length : Int) < l.length by omega, hbody, hpg, encP, noPage, hb]
          exact ⟨(by first | trivial | rfl | omega), (by first | trivial | rfl | omega)⟩
      · have hb : pageB size n tx l = (noPage, 2) := by unfold pageB; rw [if_neg fun h => h3 h.2.2]
        simp -dsimp (maxSteps := 4000000) (disch := first | omega | assumption | (simp only [FB, Nat.reduceAdd]; done) | (simp only [LB]; omega)) only [EB, ↓reduceIte, WB, Nat.reduceSub, Nat.reduceAdd, Int.reduceEq, Int.reduceNe, Int.reduceLT, Int.reduceLE, Int.reduceAdd, Int.reduceSub, Int.reduceMul, Int.reduceNeg, Int.reduceToNat, Nat.reduceEqDiff, Nat.reduceLT, Nat.reduceLeDiff, Nat.reduceMul, List.replicate, reduceCtorEq, TB, NB, hmay, h1, h2, h3, number43, show (4611686018427387904 : Int) < tx by omega, hb, encP, noPage]
        exact ⟨(by first | trivial | rfl | omega), (by first | trivial | rfl | omega)⟩
    · have hb : pageB size n tx l = (noPage, 2) := by unfold pageB; rw [if_neg fun h => h2 h.2.1]
      simp -dsimp (maxSteps := 4000000) (disch := first | omega | assumption | (simp only [FB, Nat.reduceAdd]; done) | (simp only [LB]; omega)) only [EB, ↓reduceIte, WB, Nat.reduceSub, Nat.reduceAdd, Int.reduceEq, Int.reduceNe, Int.reduceLT, Int.reduceLE, Int.reduceAdd, Int.reduceSub, Int.reduceMul, Int.reduceNeg, Int.reduceToNat, Nat.reduceEqDiff, Nat.reduceLT, Nat.reduceLeDiff, Nat.reduceMul, List.replicate, reduceCtorEq, TB, NB, hmay, h1, h2, number43, hb, encP, noPage]
      exact ⟨(by first | trivial | rfl | omega), (by first | trivial | rfl | omega)⟩
  · have hb : pageB size n tx l = (noPage, 2) := by unfold pageB; rw [if_neg fun h => h1 h.1]
    have h1' : mayB size l = false := by simpa using h1
    simp -dsimp (maxSteps := 4000000) (disch := first | omega | assumption | (simp only [FB, Nat.reduceAdd]; done) | (simp only [LB]; omega)) only [EB, ↓reduceIte, WB, Nat.reduceSub, Nat.reduceAdd, Int.reduceEq, Int.reduceNe, Int.reduceLT, Int.reduceLE, Int.reduceAdd, Int.reduceSub, Int.reduceMul, Int.reduceNeg, Int.reduceToNat, Nat.reduceEqDiff, Nat.reduceLT, Nat.reduceLeDiff, Nat.reduceMul, List.replicate, reduceCtorEq, TB, NB, hmay, h1', hb, encP, noPage]
    exact ⟨(by first | trivial | rfl | omega), (by first | trivial | rfl | omega)⟩
end Go.Proofs.YtpcaoohacgkeiaaAM
