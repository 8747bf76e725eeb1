/- Chapter 6: the reference's Of. -/
import Derived.Test.YtpcaoohacgkeiaaR3
namespace Go.Proofs.YtpcaoohacgkeiaaAM
open Go Go.RowKit
set_option linter.unusedVariables false
set_option linter.unusedSimpArgs false
set_option maxRecDepth 10000
set_option maxHeartbeats 4000000

theorem same49 (x y : Pg) (a : AW) (K) : WCall Try.prog GV 49 [.agg (encP x).toArray, .agg (encP y).toArray] a K = K (.bool (decide (x = y))) a := by
  rw [call_env Try.func49 rfl Try.ntmps49 rfl rfl (by simp)]
  have h : ∀ p q, binA Try.prog .eql 26 p q (.agg (encP x).toArray) (.agg (encP y).toArray) = some (.bool (decide (x = y))) := fun p q => eql26
  simp only [encP] at h ⊢
  simp -dsimp (maxSteps := 4000000) (disch := first | omega | assumption | (simp only [FB, Nat.reduceAdd]; done) | (simp only [LB]; omega)) only [EB, ↓reduceIte, WB, Nat.reduceSub, Nat.reduceAdd, Int.reduceEq, Int.reduceNe, Int.reduceLT, Int.reduceLE, Int.reduceAdd, Int.reduceSub, Int.reduceMul, Int.reduceNeg, Int.reduceToNat, Nat.reduceEqDiff, Nat.reduceLT, Nat.reduceLeDiff, Nat.reduceMul, List.replicate, reduceCtorEq, TB, NB, h]
/-- What is no row is no page. -/
theorem of_bad {p : Pg} {c : Nat} {s : List UInt8} {l : List Bkt} (hdec : decB p.count.toNat p.body = (decB (c + 1) s).map (l ++ ·))
    (h : s.length < 1 ∨ (numR s 1).2.length < (numR s 1).1 ∨ (bytR (numR s 1).2 (numR s 1).1).2.length < 4 ∨ (rdB s).2.length < 4) : ofB p = none := by
  by_cases h4 : (rdB s).2.length < 4
  · unfold ofB
    rw [hdec, decB, if_pos h4]; rfl
  · have h3 : ¬ (bytR (numR s 1).2 (numR s 1).1).2.length < 4 := fun h3 => h4 (by
      have : (rdB s).2 = (numR (bytR (numR s 1).2 (numR s 1).1).2 4).2 := rfl
      rw [this, numR, if_pos h3]; exact h3)
    have h1 : ¬ s.length < 1 := fun h1 => h3 (by
      have e : numR s 1 = (0, s) := by rw [numR, if_pos h1]
      rw [e]
      simp only [bytR, Nat.not_lt_zero, if_false, List.drop_zero]
      omega)
    have h2 : (numR s 1).2.length < (numR s 1).1 := by
      rcases h with h | h | h | h
      · exact absurd h h1
      · exact h
      · exact absurd h h3
      · exact absurd h h4
    have hnm : (rdB s).1.name = [] := by
      have : (rdB s).1.name = (bytR (numR s 1).2 (numR s 1).1).1 := rfl
      rw [this, bytR, if_pos h2]
    unfold ofB
    rw [hdec, decB, if_neg h4]
    cases hd : decB c ((rdB s).2.drop 4) with
    | none => rfl
    | some k =>
      simp only [Option.map_some]
      rw [if_neg]
      intro hpg
      have hm := (pageB_ok (by rw [hpg])).1
      have := (one_of_may hm (rdB s).1 (by simp)).1.1
      rw [hnm] at this
      simp at this
theorem of21 (p : Pg) (hb : p.body.length ≤ 5000) (hc1 : -9223372036854775808 ≤ p.count) (hc2 : p.count ≤ 9223372036854775807) (a : AW) (K : Value → AW → Prop)
    (hK1 : ∀ l, ofB p = some l → ∀ v' n' h', a.next ≤ n' → n' ≤ a.next + 1 → OwnS encB 3 h' n' a.next v' l → (∀ j, j < a.next → look j h' = look j a.heap) → K (.tuple #[v', .int .i64 0]) ⟨n', h', a.base, a.dirty⟩)
    (hK2 : ofB p = none → K (.tuple #[.slice none 0 0, .int .i64 4]) a) :
    WCall Try.prog GV 21 [.agg (encP p).toArray] a K := by
  rw [call_env Try.func21 rfl Try.ntmps21 rfl rfl (by simp), encP]
  simp -dsimp (maxSteps := 4000000) (disch := first | omega | assumption | (simp only [FB, Nat.reduceAdd]; done) | (simp only [LB]; omega)) only [EB, ↓reduceIte, WB, Nat.reduceSub, Nat.reduceAdd, Int.reduceEq, Int.reduceNe, Int.reduceLT, Int.reduceLE, Int.reduceAdd, Int.reduceSub, Int.reduceMul, Int.reduceNeg, Int.reduceToNat, Nat.reduceEqDiff, Nat.reduceLT, Nat.reduceLeDiff, Nat.reduceMul, List.replicate, reduceCtorEq, TB, NB, new46]
  refine loop_inv (fun r t w => ∃ i n h q v s l, ∃ e : Nat → Value, r = p.count.toNat - i ∧ i ≤ p.count.toNat ∧ w = ⟨n, h, a.next, []⟩ ∧ a.next + 2 ≤ n ∧ (∀ j, j < a.next → look j h = look j a.heap) ∧ look a.next h = some (.cells (encP p) true) ∧ look (a.next + 1) h = some (.cells [.string (mkStr s)] true) ∧ t = TT 93 e ∧ OwnS encB 3 h n q v l ∧ a.next + 2 ≤ q ∧
    decB p.count.toNat p.body = (decB (p.count.toNat - i) s).map (l ++ ·) ∧ l.length * 5 + s.length ≤ p.body.length ∧ (∀ b ∈ l, b.name.length ≤ 5000) ∧
    e 1 = .pointer (some ⟨a.next, 0, none⟩) ∧ e 4 = .pointer (some ⟨a.next + 1, 0, none⟩) ∧ e 5 = v ∧ e 6 = .int .i64 i)
    ⟨0, a.next + 2, _, a.next + 2, _, p.body, [], _, rfl, by omega, rfl, Nat.le_refl _, fun j hj => by rw [look_miss (by omega), look_miss (by omega)], by rw [look_miss (by omega)]; exact look_self, look_self, rfl, OwnS.nil, Nat.le_refl _, by cases decB (p.count.toNat - 0) p.body <;> simp, by simp, by simp, rfl, rfl, rfl, rfl⟩ ?_
  rintro r t w ⟨i, n, h, q, v, s, l, e, rfl, hi, rfl, hn, hh, hpg, hrd, rfl, ho, hq, hdec, hlen, hnm, t1, t4, t5, t6⟩
  by_cases hlt : (i : Int) < p.count
  · have hpg2 : look a.next h = some (.cells [.int .i64 p.kind, .int .i64 p.count, .int .u32 p.page, .int .u32 p.link, .int .u64 p.tx, .string (mkStr p.body)] true) := hpg
    simp -dsimp (maxSteps := 4000000) (disch := first | omega | assumption | (simp only [FB, Nat.reduceAdd]; done) | (simp only [LB]; omega)) only [EB, ↓reduceIte, WB, Nat.reduceSub, Nat.reduceAdd, Int.reduceEq, Int.reduceNe, Int.reduceLT, Int.reduceLE, Int.reduceAdd, Int.reduceSub, Int.reduceMul, Int.reduceNeg, Int.reduceToNat, Nat.reduceEqDiff, Nat.reduceLT, Nat.reduceLeDiff, Nat.reduceMul, List.replicate, reduceCtorEq, TB, NB, t1, t4, t5, t6, hlt, hpg2]
    refine number47c (a.next + 1) s 1 (by omega) (by omega) (by omega) ⟨n, h, a.next, []⟩ hrd (by simp only; omega) (by simp only; omega) _ fun h1 x1 y1 => ?_
    have l1 := numR_len s 1
    have b1 := numR_lt s 1
    simp -dsimp (maxSteps := 4000000) (disch := first | omega | assumption | (simp only [FB, Nat.reduceAdd]; done) | (simp only [LB]; omega)) only [EB, ↓reduceIte, WB, Nat.reduceSub, Nat.reduceAdd, Int.reduceEq, Int.reduceNe, Int.reduceLT, Int.reduceLE, Int.reduceAdd, Int.reduceSub, Int.reduceMul, Int.reduceNeg, Int.reduceToNat, Nat.reduceEqDiff, Nat.reduceLT, Nat.reduceLeDiff, Nat.reduceMul, List.replicate, reduceCtorEq, TB, NB, t4, wrap64]
    have l2 := bytR_len (numR s 1).2 (numR s 1).1
    refine bytes48c (a.next + 1) _ (numR s 1).1 (by omega) (by omega) ⟨n, h1, a.next, []⟩ x1 (by simp only; omega) (by simp only; omega) _ fun h2 x2 y2 => ?_
    simp -dsimp (maxSteps := 4000000) (disch := first | omega | assumption | (simp only [FB, Nat.reduceAdd]; done) | (simp only [LB]; omega)) only [EB, ↓reduceIte, WB, Nat.reduceSub, Nat.reduceAdd, Int.reduceEq, Int.reduceNe, Int.reduceLT, Int.reduceLE, Int.reduceAdd, Int.reduceSub, Int.reduceMul, Int.reduceNeg, Int.reduceToNat, Nat.reduceEqDiff, Nat.reduceLT, Nat.reduceLeDiff, Nat.reduceMul, List.replicate, reduceCtorEq, TB, NB, t4]
    refine number47c (a.next + 1) _ 4 (by omega) (by omega) (by omega) ⟨n, h2, a.next, []⟩ x2 (by simp only; omega) (by simp only; omega) _ fun h3 x3 y3 => ?_
    have l3 := numR_len (bytR (numR s 1).2 (numR s 1).1).2 4
    have b3 := numR_lt (bytR (numR s 1).2 (numR s 1).1).2 4
    simp -dsimp (maxSteps := 4000000) (disch := first | omega | assumption | (simp only [FB, Nat.reduceAdd]; done) | (simp only [LB]; omega)) only [EB, ↓reduceIte, WB, Nat.reduceSub, Nat.reduceAdd, Int.reduceEq, Int.reduceNe, Int.reduceLT, Int.reduceLE, Int.reduceAdd, Int.reduceSub, Int.reduceMul, Int.reduceNeg, Int.reduceToNat, Nat.reduceEqDiff, Nat.reduceLT, Nat.reduceLeDiff, Nat.reduceMul, List.replicate, reduceCtorEq, TB, NB, t4]
    refine number47c (a.next + 1) _ 4 (by omega) (by omega) (by omega) ⟨n, h3, a.next, []⟩ x3 (by simp only; omega) (by simp only; omega) _ fun h4 x4 y4 => ?_
    have b4 := numR_lt (numR (bytR (numR s 1).2 (numR s 1).1).2 4).2 4
    have hci : p.count.toNat - i = (p.count.toNat - (i + 1)) + 1 := by omega
    rw [hci] at hdec
    by_cases g1 : s.length < 1
    · simp only [g1, if_true]
      simp -dsimp (maxSteps := 4000000) (disch := first | omega | assumption | (simp only [FB, Nat.reduceAdd]; done) | (simp only [LB]; omega)) only [EB, ↓reduceIte, WB, Nat.reduceSub, Nat.reduceAdd, Int.reduceEq, Int.reduceNe, Int.reduceLT, Int.reduceLE, Int.reduceAdd, Int.reduceSub, Int.reduceMul, Int.reduceNeg, Int.reduceToNat, Nat.reduceEqDiff, Nat.reduceLT, Nat.reduceLeDiff, Nat.reduceMul, List.replicate, reduceCtorEq, TB, NB, t5]
      rw [leave_flat rfl]
      exact hK2 (of_bad hdec (.inl g1))
    · by_cases g2 : (numR s 1).2.length < (numR s 1).1
      · simp only [g1, g2, if_true, if_false]
        simp -dsimp (maxSteps := 4000000) (disch := first | omega | assumption | (simp only [FB, Nat.reduceAdd]; done) | (simp only [LB]; omega)) only [EB, ↓reduceIte, WB, Nat.reduceSub, Nat.reduceAdd, Int.reduceEq, Int.reduceNe, Int.reduceLT, Int.reduceLE, Int.reduceAdd, Int.reduceSub, Int.reduceMul, Int.reduceNeg, Int.reduceToNat, Nat.reduceEqDiff, Nat.reduceLT, Nat.reduceLeDiff, Nat.reduceMul, List.replicate, reduceCtorEq, TB, NB, t5]
        rw [leave_flat rfl]
        exact hK2 (of_bad hdec (.inr (.inl g2)))
      · by_cases g3 : (bytR (numR s 1).2 (numR s 1).1).2.length < 4
        · simp only [g1, g2, g3, if_true, if_false]
          simp -dsimp (maxSteps := 4000000) (disch := first | omega | assumption | (simp only [FB, Nat.reduceAdd]; done) | (simp only [LB]; omega)) only [EB, ↓reduceIte, WB, Nat.reduceSub, Nat.reduceAdd, Int.reduceEq, Int.reduceNe, Int.reduceLT, Int.reduceLE, Int.reduceAdd, Int.reduceSub, Int.reduceMul, Int.reduceNeg, Int.reduceToNat, Nat.reduceEqDiff, Nat.reduceLT, Nat.reduceLeDiff, Nat.reduceMul, List.replicate, reduceCtorEq, TB, NB, t5]
          rw [leave_flat rfl]
          exact hK2 (of_bad hdec (.inr (.inr (.inl g3))))
        · by_cases hs : (rdB s).2.length < 4
          · have hs' : (numR (bytR (numR s 1).2 (numR s 1).1).2 4).2.length < 4 := hs
            simp only [g1, g2, g3, hs', if_true, if_false]
            simp -dsimp (maxSteps := 4000000) (disch := first | omega | assumption | (simp only [FB, Nat.reduceAdd]; done) | (simp only [LB]; omega)) only [EB, ↓reduceIte, WB, Nat.reduceSub, Nat.reduceAdd, Int.reduceEq, Int.reduceNe, Int.reduceLT, Int.reduceLE, Int.reduceAdd, Int.reduceSub, Int.reduceMul, Int.reduceNeg, Int.reduceToNat, Nat.reduceEqDiff, Nat.reduceLT, Nat.reduceLeDiff, Nat.reduceMul, List.replicate, reduceCtorEq, TB, NB, t5]
            rw [leave_flat rfl]
            exact hK2 (of_bad hdec (.inr (.inr (.inr hs))))
          · have hs' : ¬ (numR (bytR (numR s 1).2 (numR s 1).1).2 4).2.length < 4 := hs
            simp only [g1, g2, g3, hs', if_false]
            simp -dsimp (maxSteps := 4000000) (disch := first | omega | assumption | (simp only [FB, Nat.reduceAdd]; done) | (simp only [LB]; omega)) only [EB, ↓reduceIte, WB, Nat.reduceSub, Nat.reduceAdd, Int.reduceEq, Int.reduceNe, Int.reduceLT, Int.reduceLE, Int.reduceAdd, Int.reduceSub, Int.reduceMul, Int.reduceNeg, Int.reduceToNat, Nat.reduceEqDiff, Nat.reduceLT, Nat.reduceLeDiff, Nat.reduceMul, List.replicate, reduceCtorEq, TB, NB, t5, wrap64, wrapu32]
            have hcell : look n ((n, Blk.cells (encB (rdB s).1) true) :: h4) = some (.cells (encB (rdB s).1) true) := look_self
            have ho4 : OwnS encB 3 ((n, Blk.cells (encB (rdB s).1) true) :: h4) (n + 1) q v l := ho.keep (by omega) fun hqn => by
              rw [look_miss (by omega), y4 q (by omega), y3 q (by omega), y2 q (by omega), y1 q (by omega)]
            have hll : l.length ≤ 1000 := by omega
            obtain ⟨v2, q2, n2, h6, e2, o2, f1, f2, f3, f4, f5⟩ := append_mine (E := Try.prog) (t0 := 24) (t1 := 24) (bs := a.next) (d := []) app24 encB_len encB_one ho4 (by omega) (by omega) (RV.one (n := n + 1) (x := (rdB s).1) encB_len hcell (by omega)) (by simp only [List.length_cons, List.length_nil]; omega)
            have e2' := e2
            simp only [encB, rdB] at e2'
            rw [e2']
            simp -dsimp (maxSteps := 4000000) (disch := first | omega | assumption | (simp only [FB, Nat.reduceAdd]; done) | (simp only [LB]; omega)) only [EB, ↓reduceIte, WB, Nat.reduceSub, Nat.reduceAdd, Int.reduceEq, Int.reduceNe, Int.reduceLT, Int.reduceLE, Int.reduceAdd, Int.reduceSub, Int.reduceMul, Int.reduceNeg, Int.reduceToNat, Nat.reduceEqDiff, Nat.reduceLT, Nat.reduceLeDiff, Nat.reduceMul, List.replicate, reduceCtorEq, TB, NB, t6, wrap64]
            have hrl := rdB_len s hs
            refine ⟨trivial, p.count.toNat - (i + 1), by omega, i + 1, n2, h6, q2, v2, (rdB s).2.drop 4, l ++ [(rdB s).1], _, rfl, by omega, rfl, by omega, fun j hj => ?_, ?_, ?_, rfl, o2, by omega, ?_, ?_, ?_, ?_⟩
            · rw [f5 j (by omega) (by omega), look_miss (by omega), y4 j (by omega), y3 j (by omega), y2 j (by omega), y1 j (by omega), hh j hj]
            · rw [f5 _ (by omega) (by omega), look_miss (by omega), y4 _ (by omega), y3 _ (by omega), y2 _ (by omega), y1 _ (by omega), hpg]
            · rw [f5 _ (by omega) (by omega), look_miss (by omega), x4, numR, if_neg hs']; rfl
            · rw [hdec]; exact dec_step _ _ _ hs
            · simp only [List.length_append, List.length_cons, List.length_nil]; omega
            · intro b hb'
              rcases List.mem_append.1 hb' with hb' | hb'
              · exact hnm b hb'
              · simp only [List.mem_singleton] at hb'
                subst hb'
                simp only [rdB]; omega
            · simp only [ups_at, ↓reduceIte, Nat.reduceEqDiff]
              exact ⟨t1, t4, trivial, (by first | trivial | rfl | omega)⟩
  · have hi2 : p.count.toNat - i = 0 := by omega
    rw [hi2] at hdec
    have hdec' : decB p.count.toNat p.body = some l := by rw [hdec]; simp [decB]
    have hszl : sizeB l ≤ 4611686018427387904 := by
      have h9 := sizeB_le l (fun b hb' => by have := hnm b hb'; omega)
      have h8 : l.length ≤ 1000 := by omega
      omega
    have hpc := fun K => page20 (p.body.length + 24) p.page p.tx v l (by omega) hszl (fun b hb' => by have := hnm b hb'; omega) ⟨n, h, a.next, []⟩ n (Nat.le_refl _) ho.rv K
    have hpg2 : look a.next h = some (.cells [.int .i64 p.kind, .int .i64 p.count, .int .u32 p.page, .int .u32 p.link, .int .u64 p.tx, .string (mkStr p.body)] true) := hpg
    obtain ⟨X, hX⟩ : ∃ X, X = pageB (p.body.length + 24) p.page p.tx l := ⟨_, rfl⟩
    rw [← hX] at hpc
    have hofn : X ≠ (p, 0) → ofB p = none := fun hne => by
      unfold ofB; rw [hdec']; simp only; rw [if_neg (by rw [← hX]; exact hne)]
    have hneq := fun a K => same49 X.1 p a K
    simp only [encP] at hpc hneq
    by_cases h2 : X.2 = 0
    · by_cases h1 : X.1 = p
      · have hof : ofB p = some l := by
          unfold ofB; rw [hdec']; simp only; rw [if_pos (by rw [← hX, ← h1, ← h2])]
        simp -dsimp (maxSteps := 4000000) (disch := first | omega | assumption | (simp only [FB, Nat.reduceAdd]; done) | (simp only [LB]; omega)) only [EB, ↓reduceIte, WB, Nat.reduceSub, Nat.reduceAdd, Int.reduceEq, Int.reduceNe, Int.reduceLT, Int.reduceLE, Int.reduceAdd, Int.reduceSub, Int.reduceMul, Int.reduceNeg, Int.reduceToNat, Nat.reduceEqDiff, Nat.reduceLT, Nat.reduceLeDiff, Nat.reduceMul, List.replicate, reduceCtorEq, TB, NB, t1, t4, t5, t6, hlt, hpg2, wrap64, hpc, h2, hneq, decide_eq_true h1, show a.next ≠ n by omega]
        exact leave_own2 encB_flat rfl (ho.keep (by omega) fun hq' => by first | exact look_miss (by omega) | rfl) (by omega) fun v' n' h' x1 x2 x3 x4 _ => hK1 l hof v' n' h' x1 x2 x3 x4
      · simp -dsimp (maxSteps := 4000000) (disch := first | omega | assumption | (simp only [FB, Nat.reduceAdd]; done) | (simp only [LB]; omega)) only [EB, ↓reduceIte, WB, Nat.reduceSub, Nat.reduceAdd, Int.reduceEq, Int.reduceNe, Int.reduceLT, Int.reduceLE, Int.reduceAdd, Int.reduceSub, Int.reduceMul, Int.reduceNeg, Int.reduceToNat, Nat.reduceEqDiff, Nat.reduceLT, Nat.reduceLeDiff, Nat.reduceMul, List.replicate, reduceCtorEq, TB, NB, t1, t4, t5, t6, hlt, hpg2, wrap64, hpc, h2, hneq, decide_eq_false h1, show a.next ≠ n by omega]
        rw [leave_flat rfl]
        exact hK2 (hofn fun e => h1 (by rw [e]))
    · simp -dsimp (maxSteps := 4000000) (disch := first | omega | assumption | (simp only [FB, Nat.reduceAdd]; done) | (simp only [LB]; omega)) only [EB, ↓reduceIte, WB, Nat.reduceSub, Nat.reduceAdd, Int.reduceEq, Int.reduceNe, Int.reduceLT, Int.reduceLE, Int.reduceAdd, Int.reduceSub, Int.reduceMul, Int.reduceNeg, Int.reduceToNat, Nat.reduceEqDiff, Nat.reduceLT, Nat.reduceLeDiff, Nat.reduceMul, List.replicate, reduceCtorEq, TB, NB, t1, t4, t5, t6, hlt, hpg2, wrap64, hpc, h2, show a.next ≠ n by omega]
      rw [leave_flat rfl]
      exact hK2 (hofn fun e => h2 (by rw [e]))
end Go.Proofs.YtpcaoohacgkeiaaAM
