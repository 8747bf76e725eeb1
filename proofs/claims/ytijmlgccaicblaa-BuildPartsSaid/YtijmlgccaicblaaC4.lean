/- Chapter 13: the reference's Cut and May; copies and equal lists of numbers. -/
import Derived.Test.YtijmlgccaicblaaC3
namespace Go.Proofs.YtijmlgccaicblaaAM
open Go Go.RowKit
set_option linter.unusedVariables false
set_option linter.unusedSimpArgs false
set_option maxRecDepth 10000
set_option maxHeartbeats 4000000

theorem refcut27 (v : Value) (l : List Int) (room : Int) (hl : l.length ≤ 100000) (hr : room ≤ 9223372036854775807) (a : AW) (m : Nat) (hm : m ≤ a.next) (hv : RV encN 1 a.heap m v l) (K : Value → AW → Prop)
    (hK : ∀ v' n' h', a.next ≤ n' → n' ≤ a.next + 1 → OwnS encN 1 h' n' a.next v' (cutL room l) → (∀ j, j < a.next → look j h' = look j a.heap) → K v' ⟨n', h', a.base, a.dirty⟩) :
    WCall Try.prog GV 27 [v, .int .i64 room] a K := by
  rw [call_env Try.func27 rfl Try.ntmps27 rfl rfl (by simp)]
  obtain ⟨p, c, rfl⟩ := hv.len
  simp -dsimp (maxSteps := 4000000) (disch := first | omega | assumption | (simp only [FB, Nat.reduceAdd]; done) | (simp only [LB]; omega)) only [EB, ↓reduceIte, WB, Nat.reduceSub, Nat.reduceAdd, Int.reduceEq, Int.reduceNe, Int.reduceLT, Int.reduceLE, Int.reduceAdd, Int.reduceSub, Int.reduceMul, Int.reduceNeg, Int.reduceToNat, Nat.reduceEqDiff, Nat.reduceLT, Nat.reduceLeDiff, Nat.reduceMul, List.replicate, reduceCtorEq, TB, NB, ]
  refine loop_inv (fun r t w => ∃ i n h q v s out, ∃ e : Nat → Value, r = l.length - i ∧ i ≤ l.length ∧ w = ⟨n, h, a.next, []⟩ ∧ a.next ≤ n ∧ (∀ j, j < a.next → look j h = look j a.heap) ∧ t = TT 54 e ∧ OwnS encN 1 h n q v out ∧ a.next ≤ q ∧ out.length ≤ i ∧ (∀ j (hj : j < l.length), j < i → 0 ≤ l[j] ∧ l[j] ≤ room) ∧ cutGo room l 0 0 = out ++ cutGo room (l.drop i) i s ∧ 0 ≤ s ∧ (s = 0 ∨ s ≤ room) ∧
    e 0 = .slice p l.length c ∧ e 1 = .int .i64 room ∧ e 5 = v ∧ e 6 = .int .i64 s ∧ e 7 = .int .i64 i)
    ⟨0, a.next, a.heap, a.next, _, 0, [], _, rfl, by omega, rfl, Nat.le_refl _, fun _ _ => rfl, rfl, OwnS.nil, Nat.le_refl _, Nat.le_refl _, fun j _ h => absurd h (by omega), rfl, Int.le_refl _, .inl rfl, rfl, rfl, rfl, rfl, rfl⟩ ?_
  rintro r t w ⟨i, n, h, q, vo, s, out, e, rfl, hi, rfl, hn, hh, rfl, ho, hq, hol, hin, hcut, hs0, hs1, t0, t1, t5, t6, t7⟩
  by_cases hlt : i < l.length
  · obtain ⟨b, o, sp, rw0, cc, rfl, hlk, hbn, hle, hat, hkk⟩ := hv.at encN_len hlt
    have hlk' : look b h = some (.cells cc rw0) := by rw [hh b (by omega)]; exact hlk
    have hx : cc[o + i]? = some (.int .i64 l[i]) := by have := hkk 0 (by omega); simpa [encN] using this
    have hdr : l.drop i = l[i] :: l.drop (i + 1) := List.drop_eq_getElem_cons hlt
    by_cases h1 : l[i] < 0
    · simp -dsimp (maxSteps := 4000000) (disch := first | omega | assumption | (simp only [FB, Nat.reduceAdd]; done) | (simp only [LB]; omega)) only [EB, ↓reduceIte, WB, Nat.reduceSub, Nat.reduceAdd, Int.reduceEq, Int.reduceNe, Int.reduceLT, Int.reduceLE, Int.reduceAdd, Int.reduceSub, Int.reduceMul, Int.reduceNeg, Int.reduceToNat, Nat.reduceEqDiff, Nat.reduceLT, Nat.reduceLeDiff, Nat.reduceMul, List.replicate, reduceCtorEq, TB, NB, t0, t1, t5, t6, t7, show (i : Int) < l.length by omega, hlk', hx, h1]
      have hb : cutL room l = [] := cutL_bad fun hc => by have := (hc l[i] (List.getElem_mem hlt)).1; omega
      rw [hb] at hK
      exact hK _ a.next a.heap (Nat.le_refl _) (by omega) OwnS.nil fun _ _ => rfl
    · by_cases h2 : room < l[i]
      · simp -dsimp (maxSteps := 4000000) (disch := first | omega | assumption | (simp only [FB, Nat.reduceAdd]; done) | (simp only [LB]; omega)) only [EB, ↓reduceIte, WB, Nat.reduceSub, Nat.reduceAdd, Int.reduceEq, Int.reduceNe, Int.reduceLT, Int.reduceLE, Int.reduceAdd, Int.reduceSub, Int.reduceMul, Int.reduceNeg, Int.reduceToNat, Nat.reduceEqDiff, Nat.reduceLT, Nat.reduceLeDiff, Nat.reduceMul, List.replicate, reduceCtorEq, TB, NB, t0, t1, t5, t6, t7, show (i : Int) < l.length by omega, hlk', hx, h1, h2]
        have hb : cutL room l = [] := cutL_bad fun hc => by have := (hc l[i] (List.getElem_mem hlt)).2; omega
        rw [hb] at hK
        exact hK _ a.next a.heap (Nat.le_refl _) (by omega) OwnS.nil fun _ _ => rfl
      · have hin' : ∀ j (hj : j < l.length), j < i + 1 → 0 ≤ l[j] ∧ l[j] ≤ room := fun j hj hji => by
          rcases Nat.lt_or_ge j i with h3 | h3
          · exact hin j hj h3
          · obtain rfl : j = i := by omega
            omega
        by_cases h3 : room - s < l[i]
        · simp -dsimp (maxSteps := 4000000) (disch := first | omega | assumption | (simp only [FB, Nat.reduceAdd]; done) | (simp only [LB]; omega)) only [EB, ↓reduceIte, WB, Nat.reduceSub, Nat.reduceAdd, Int.reduceEq, Int.reduceNe, Int.reduceLT, Int.reduceLE, Int.reduceAdd, Int.reduceSub, Int.reduceMul, Int.reduceNeg, Int.reduceToNat, Nat.reduceEqDiff, Nat.reduceLT, Nat.reduceLeDiff, Nat.reduceMul, List.replicate, reduceCtorEq, TB, NB, t0, t1, t5, t6, t7, show (i : Int) < l.length by omega, hlk', hx, h1, h2, show room - l[i] < s by omega, wrap64]
          have ho' : OwnS encN 1 ((n, Blk.cells [Value.int IntKind.i64 i] true) :: h) (n + 1) q vo out := ho.keep (by omega) fun hq2 => look_miss (by omega)
          obtain ⟨v2, q2, n2, h2', e2, o2, f1, f2, f3, f4, f5⟩ := append_mine (E := Try.prog) (t0 := 25) (t1 := 25) (bs := a.next) (d := []) app25 encN_len encN_one ho' (by omega) (by omega) (RV.one (n := n + 1) (x := (i : Int)) encN_len look_self (by omega)) (by simp only [List.length_cons, List.length_nil]; omega)
          rw [e2]
          have hlk2 : look b h2' = some (.cells cc rw0) := by rw [f5 b (by omega) (by omega), look_miss (by omega)]; exact hlk'
          simp -dsimp (maxSteps := 4000000) (disch := first | omega | assumption | (simp only [FB, Nat.reduceAdd]; done) | (simp only [LB]; omega)) only [EB, ↓reduceIte, WB, Nat.reduceSub, Nat.reduceAdd, Int.reduceEq, Int.reduceNe, Int.reduceLT, Int.reduceLE, Int.reduceAdd, Int.reduceSub, Int.reduceMul, Int.reduceNeg, Int.reduceToNat, Nat.reduceEqDiff, Nat.reduceLT, Nat.reduceLeDiff, Nat.reduceMul, List.replicate, reduceCtorEq, TB, NB, t0, t7, hlk2, hx, wrap64]
          refine ⟨trivial, l.length - (i + 1), by omega, i + 1, n2, h2', q2, v2, l[i], out ++ [(i : Int)], _, rfl, by omega, rfl, by omega, fun j hj => by rw [f5 j (by omega) (by omega), look_miss (by omega), hh j hj], rfl, o2, f3, by simp; omega, hin', ?_, by omega, by omega, ?_⟩
          · rw [hcut, hdr, cutGo, if_pos h3, List.append_assoc]; rfl
          · simp only [ups_at, ↓reduceIte, Nat.reduceEqDiff]
            exact ⟨t0, t1, trivial, by simp, (by first | trivial | rfl | omega)⟩
        · simp -dsimp (maxSteps := 4000000) (disch := first | omega | assumption | (simp only [FB, Nat.reduceAdd]; done) | (simp only [LB]; omega)) only [EB, ↓reduceIte, WB, Nat.reduceSub, Nat.reduceAdd, Int.reduceEq, Int.reduceNe, Int.reduceLT, Int.reduceLE, Int.reduceAdd, Int.reduceSub, Int.reduceMul, Int.reduceNeg, Int.reduceToNat, Nat.reduceEqDiff, Nat.reduceLT, Nat.reduceLeDiff, Nat.reduceMul, List.replicate, reduceCtorEq, TB, NB, t0, t1, t5, t6, t7, show (i : Int) < l.length by omega, hlk', hx, h1, h2, show ¬ room - l[i] < s by omega, wrap64]
          refine ⟨trivial, l.length - (i + 1), by omega, i + 1, n, h, q, vo, s + l[i], out, _, rfl, by omega, rfl, by omega, hh, rfl, ho, hq, by omega, hin', ?_, by omega, by omega, ?_⟩
          · rw [hcut, hdr, cutGo, if_neg h3]
          · simp only [ups_at, ↓reduceIte, Nat.reduceEqDiff]
            exact ⟨t0, t1, t5, (by first | trivial | rfl | omega), (by first | trivial | rfl | omega)⟩
  · obtain rfl : i = l.length := by omega
    have hci : cutIn room l := fun x hx => by
      obtain ⟨j, hj, rfl⟩ := List.mem_iff_getElem.1 hx
      exact hin j hj hj
    rw [List.drop_length] at hcut
    simp only [cutGo, List.append_nil] at hcut
    by_cases h0 : 0 < l.length
    · simp -dsimp (maxSteps := 4000000) (disch := first | omega | assumption | (simp only [FB, Nat.reduceAdd]; done) | (simp only [LB]; omega)) only [EB, ↓reduceIte, WB, Nat.reduceSub, Nat.reduceAdd, Int.reduceEq, Int.reduceNe, Int.reduceLT, Int.reduceLE, Int.reduceAdd, Int.reduceSub, Int.reduceMul, Int.reduceNeg, Int.reduceToNat, Nat.reduceEqDiff, Nat.reduceLT, Nat.reduceLeDiff, Nat.reduceMul, List.replicate, reduceCtorEq, TB, NB, t0, t1, t5, t6, t7, show ¬ (l.length : Int) < l.length by omega, show (0 : Int) < l.length by omega]
      have ho' : OwnS encN 1 ((n, Blk.cells [Value.int IntKind.i64 l.length] true) :: h) (n + 1) q vo out := ho.keep (by omega) fun hq2 => look_miss (by omega)
      obtain ⟨v2, q2, n2, h2', e2, o2, f1, f2, f3, f4, f5⟩ := append_mine (E := Try.prog) (t0 := 25) (t1 := 25) (bs := a.next) (d := []) app25 encN_len encN_one ho' (by omega) (by omega) (RV.one (n := n + 1) (x := (l.length : Int)) encN_len look_self (by omega)) (by simp only [List.length_cons, List.length_nil]; omega)
      rw [e2]
      simp -dsimp (maxSteps := 4000000) (disch := first | omega | assumption | (simp only [FB, Nat.reduceAdd]; done) | (simp only [LB]; omega)) only [EB, ↓reduceIte, WB, Nat.reduceSub, Nat.reduceAdd, Int.reduceEq, Int.reduceNe, Int.reduceLT, Int.reduceLE, Int.reduceAdd, Int.reduceSub, Int.reduceMul, Int.reduceNeg, Int.reduceToNat, Nat.reduceEqDiff, Nat.reduceLT, Nat.reduceLeDiff, Nat.reduceMul, List.replicate, reduceCtorEq, TB, NB, ]
      have hb : cutL room l = out ++ [(l.length : Int)] := by rw [cutL_ok hci (by intro h; rw [h] at h0; simp at h0), hcut]
      rw [hb] at hK
      exact leave_own (a := a) encN_flat o2 f3 fun v' n' h' x1 x2 x3 x4 _ => hK v' n' h' x1 x2 x3 x4
    · simp -dsimp (maxSteps := 4000000) (disch := first | omega | assumption | (simp only [FB, Nat.reduceAdd]; done) | (simp only [LB]; omega)) only [EB, ↓reduceIte, WB, Nat.reduceSub, Nat.reduceAdd, Int.reduceEq, Int.reduceNe, Int.reduceLT, Int.reduceLE, Int.reduceAdd, Int.reduceSub, Int.reduceMul, Int.reduceNeg, Int.reduceToNat, Nat.reduceEqDiff, Nat.reduceLT, Nat.reduceLeDiff, Nat.reduceMul, List.replicate, reduceCtorEq, TB, NB, t0, t1, t5, t6, t7, show ¬ (l.length : Int) < l.length by omega, show ¬ (0 : Int) < l.length by omega]
      have hl0 : l = [] := List.eq_nil_of_length_eq_zero (by omega)
      have hb : cutL room l = out := by
        have : out = [] := by rw [← hcut, hl0]; rfl
        rw [hl0, this, cutL_nil]
      rw [hb] at hK
      exact leave_own (a := a) encN_flat ho hq fun v' n' h' x1 x2 x3 x4 _ => hK v' n' h' x1 x2 x3 x4
theorem may43 (v : Value) (l : List It) (hl : l.length ≤ 5000000000000) (a : AW) (m : Nat) (hm : m ≤ a.next) (hv : RV encI 5 a.heap m v l) (K : Value → AW → Prop) :
    WCall Try.prog GV 43 [v] a K = K (.bool (mayI l)) a := by
  refine call_eq ?_ K
  rw [call_env Try.func43 rfl Try.ntmps43 rfl rfl (by simp)]
  obtain ⟨pp, c, rfl⟩ := hv.len
  simp -dsimp (maxSteps := 4000000) (disch := first | omega | assumption | (simp only [FB, Nat.reduceAdd]; done) | (simp only [LB]; omega)) only [EB, ↓reduceIte, WB, Nat.reduceSub, Nat.reduceAdd, Int.reduceEq, Int.reduceNe, Int.reduceLT, Int.reduceLE, Int.reduceAdd, Int.reduceSub, Int.reduceMul, Int.reduceNeg, Int.reduceToNat, Nat.reduceEqDiff, Nat.reduceLT, Nat.reduceLeDiff, Nat.reduceMul, List.replicate, reduceCtorEq, TB, NB, ]
  refine loop_inv (fun r t w => ∃ i n, ∃ e : Nat → Value, r = l.length - i ∧ i ≤ l.length ∧ w = ⟨n, a.heap, a.next, []⟩ ∧ a.next ≤ n ∧ t = TT 37 e ∧ (∀ j, j < i → okI l j) ∧ e 0 = .slice pp l.length c ∧ e 3 = .int .i64 i) ⟨0, a.next, _, rfl, by omega, rfl, Nat.le_refl _, rfl, fun j hj => absurd hj (by omega), rfl, rfl⟩ ?_
  rintro r t w ⟨i, n, e, rfl, hi, rfl, hn1, rfl, hok, t0, t3⟩
  by_cases hlt : i < l.length
  · obtain ⟨b, o, sp, rw0, cc, e1, hlk', hbn, hle, hat, hkk⟩ := hv.at encI_len hlt
    subst e1
    have hkey : cc[o + i * 5]? = some (.string (mkStr l[i].key)) := by have := hkk 0 (by omega); simpa [encI] using this
    have h1' := fun a K => may60 l[i] a K
    have hbad : ¬ okI l i → mayI l = false := fun h => mayI_false fun hm => h (hm.1 i)
    by_cases h1 : itOk l[i]
    · by_cases h0 : 0 < i
      · obtain ⟨b2, o2, sp2, rw2, cc2, e2, hlk2, hbn2, hle2, -, hk2⟩ := hv.at encI_len (i := i - 1) (by omega)
        cases e2
        rw [hlk'] at hlk2
        cases hlk2
        have hn0 : cc[o + (i - 1) * 5]? = some (.string (mkStr l[i - 1].key)) := by have := hk2 0 (by omega); simpa [encI] using this
        by_cases h2 : Op.bytesLess l[i - 1].key l[i].key = true
        · simp -dsimp (maxSteps := 4000000) (disch := first | omega | assumption | (simp only [FB, Nat.reduceAdd]; done) | (simp only [LB]; omega)) only [EB, ↓reduceIte, WB, Nat.reduceSub, Nat.reduceAdd, Int.reduceEq, Int.reduceNe, Int.reduceLT, Int.reduceLE, Int.reduceAdd, Int.reduceSub, Int.reduceMul, Int.reduceNeg, Int.reduceToNat, Nat.reduceEqDiff, Nat.reduceLT, Nat.reduceLeDiff, Nat.reduceMul, List.replicate, reduceCtorEq, TB, NB, t0, t3, show (i : Int) < l.length by omega]
          refine code_draw [(0, 1), (10, 11), (10, 12), (10, 16), (10, 17), (10, 18), (10, 19), (10, 20), (11, 16), (11, 17), (11, 18), (11, 19), (11, 20), (12, 16), (12, 17), (12, 18), (12, 19), (12, 20), (13, 16), (13, 17), (13, 18), (13, 19), (13, 20), (14, 16), (14, 17), (14, 18), (14, 19), (14, 20), (15, 16), (15, 17), (15, 18), (15, 19), (15, 20), (16, 17)] (by decide +kernel) (by decide +kernel) ?_
          simp -dsimp (maxSteps := 4000000) (disch := first | omega | assumption | (simp only [FB, Nat.reduceAdd]; done) | (simp only [LB]; omega)) only [EB, ↓reduceIte, WB, Nat.reduceSub, Nat.reduceAdd, Int.reduceEq, Int.reduceNe, Int.reduceLT, Int.reduceLE, Int.reduceAdd, Int.reduceSub, Int.reduceMul, Int.reduceNeg, Int.reduceToNat, Nat.reduceEqDiff, Nat.reduceLT, Nat.reduceLeDiff, Nat.reduceMul, List.replicate, reduceCtorEq, RB, Nat.reduceEqDiff, TB, NB, h1', h1, hat, t0, t3, show (0 : Int) < i by omega, wrap64, show ((i : Int) - 1).toNat = i - 1 by omega, hlk', hn0, hkey, h2, show b < n + 1 by omega]
          refine ⟨l.length - (i + 1), by omega, i + 1, n + 1, _, rfl, by omega, (by first | trivial | rfl | omega), by omega, rfl, fun j hj => ?_, ?_⟩
          · rcases Nat.lt_or_ge j i with hji | hji
            · exact hok j hji
            · obtain rfl : j = i := by omega
              exact fun _ => ⟨h1, fun _ => h2⟩
          · simp only [ups_at, ↓reduceIte, Nat.reduceEqDiff]; exact ⟨t0, (by first | trivial | rfl | omega)⟩
        · simp -dsimp (maxSteps := 4000000) (disch := first | omega | assumption | (simp only [FB, Nat.reduceAdd]; done) | (simp only [LB]; omega)) only [EB, ↓reduceIte, WB, Nat.reduceSub, Nat.reduceAdd, Int.reduceEq, Int.reduceNe, Int.reduceLT, Int.reduceLE, Int.reduceAdd, Int.reduceSub, Int.reduceMul, Int.reduceNeg, Int.reduceToNat, Nat.reduceEqDiff, Nat.reduceLT, Nat.reduceLeDiff, Nat.reduceMul, List.replicate, reduceCtorEq, TB, NB, t0, t3, show (i : Int) < l.length by omega]
          refine code_draw [(0, 1), (10, 11), (10, 12), (10, 16), (10, 17), (10, 18), (10, 19), (10, 20), (11, 16), (11, 17), (11, 18), (11, 19), (11, 20), (12, 16), (12, 17), (12, 18), (12, 19), (12, 20), (13, 16), (13, 17), (13, 18), (13, 19), (13, 20), (14, 16), (14, 17), (14, 18), (14, 19), (14, 20), (15, 16), (15, 17), (15, 18), (15, 19), (15, 20), (16, 17)] (by decide +kernel) (by decide +kernel) ?_
          have h2' : Op.bytesLess l[i - 1].key l[i].key = false := by simpa using h2
          simp -dsimp (maxSteps := 4000000) (disch := first | omega | assumption | (simp only [FB, Nat.reduceAdd]; done) | (simp only [LB]; omega)) only [EB, ↓reduceIte, WB, Nat.reduceSub, Nat.reduceAdd, Int.reduceEq, Int.reduceNe, Int.reduceLT, Int.reduceLE, Int.reduceAdd, Int.reduceSub, Int.reduceMul, Int.reduceNeg, Int.reduceToNat, Nat.reduceEqDiff, Nat.reduceLT, Nat.reduceLeDiff, Nat.reduceMul, List.replicate, reduceCtorEq, RB, Nat.reduceEqDiff, TB, NB, h1', h1, hat, t0, t3, show (0 : Int) < i by omega, wrap64, show ((i : Int) - 1).toNat = i - 1 by omega, hlk', hn0, hkey, h2', show b < n + 1 by omega]
          rw [hbad fun h => h2 ((h hlt).2 h0)]
      · simp -dsimp (maxSteps := 4000000) (disch := first | omega | assumption | (simp only [FB, Nat.reduceAdd]; done) | (simp only [LB]; omega)) only [EB, ↓reduceIte, WB, Nat.reduceSub, Nat.reduceAdd, Int.reduceEq, Int.reduceNe, Int.reduceLT, Int.reduceLE, Int.reduceAdd, Int.reduceSub, Int.reduceMul, Int.reduceNeg, Int.reduceToNat, Nat.reduceEqDiff, Nat.reduceLT, Nat.reduceLeDiff, Nat.reduceMul, List.replicate, reduceCtorEq, TB, NB, t0, t3, show (i : Int) < l.length by omega]
        refine code_draw [(0, 1), (10, 11), (10, 12), (10, 16), (10, 17), (10, 18), (10, 19), (10, 20), (11, 16), (11, 17), (11, 18), (11, 19), (11, 20), (12, 16), (12, 17), (12, 18), (12, 19), (12, 20), (13, 16), (13, 17), (13, 18), (13, 19), (13, 20), (14, 16), (14, 17), (14, 18), (14, 19), (14, 20), (15, 16), (15, 17), (15, 18), (15, 19), (15, 20), (16, 17)] (by decide +kernel) (by decide +kernel) ?_
        simp -dsimp (maxSteps := 4000000) (disch := first | omega | assumption | (simp only [FB, Nat.reduceAdd]; done) | (simp only [LB]; omega)) only [EB, ↓reduceIte, WB, Nat.reduceSub, Nat.reduceAdd, Int.reduceEq, Int.reduceNe, Int.reduceLT, Int.reduceLE, Int.reduceAdd, Int.reduceSub, Int.reduceMul, Int.reduceNeg, Int.reduceToNat, Nat.reduceEqDiff, Nat.reduceLT, Nat.reduceLeDiff, Nat.reduceMul, List.replicate, reduceCtorEq, RB, Nat.reduceEqDiff, TB, NB, h1', h1, hat, t0, t3, show ¬ (0 : Int) < i by omega, wrap64, hlk', show b < n + 1 by omega]
        refine ⟨l.length - (i + 1), by omega, i + 1, n + 1, _, rfl, by omega, (by first | trivial | rfl | omega), by omega, rfl, fun j hj => ?_, ?_⟩
        · obtain rfl : j = i := by omega
          exact fun _ => ⟨h1, fun h0' => absurd h0' h0⟩
        · simp only [ups_at, ↓reduceIte, Nat.reduceEqDiff]; exact ⟨t0, (by first | trivial | rfl | omega)⟩
    · simp -dsimp (maxSteps := 4000000) (disch := first | omega | assumption | (simp only [FB, Nat.reduceAdd]; done) | (simp only [LB]; omega)) only [EB, ↓reduceIte, WB, Nat.reduceSub, Nat.reduceAdd, Int.reduceEq, Int.reduceNe, Int.reduceLT, Int.reduceLE, Int.reduceAdd, Int.reduceSub, Int.reduceMul, Int.reduceNeg, Int.reduceToNat, Nat.reduceEqDiff, Nat.reduceLT, Nat.reduceLeDiff, Nat.reduceMul, List.replicate, reduceCtorEq, TB, NB, t0, t3, show (i : Int) < l.length by omega]
      refine code_draw [(0, 1), (10, 11), (10, 12), (10, 16), (10, 17), (10, 18), (10, 19), (10, 20), (11, 16), (11, 17), (11, 18), (11, 19), (11, 20), (12, 16), (12, 17), (12, 18), (12, 19), (12, 20), (13, 16), (13, 17), (13, 18), (13, 19), (13, 20), (14, 16), (14, 17), (14, 18), (14, 19), (14, 20), (15, 16), (15, 17), (15, 18), (15, 19), (15, 20), (16, 17)] (by decide +kernel) (by decide +kernel) ?_
      simp -dsimp (maxSteps := 4000000) (disch := first | omega | assumption | (simp only [FB, Nat.reduceAdd]; done) | (simp only [LB]; omega)) only [EB, ↓reduceIte, WB, Nat.reduceSub, Nat.reduceAdd, Int.reduceEq, Int.reduceNe, Int.reduceLT, Int.reduceLE, Int.reduceAdd, Int.reduceSub, Int.reduceMul, Int.reduceNeg, Int.reduceToNat, Nat.reduceEqDiff, Nat.reduceLT, Nat.reduceLeDiff, Nat.reduceMul, List.replicate, reduceCtorEq, RB, Nat.reduceEqDiff, TB, NB, h1', h1, hat, t0, t3, wrap64, hlk', show b < n + 1 by omega]
      rw [hbad fun h => h1 (h hlt).1]
  · obtain rfl : i = l.length := by omega
    have hall : ∀ j, okI l j := fun j hj => hok j hj hj
    by_cases h0 : 0 < l.length
    · simp -dsimp (maxSteps := 4000000) (disch := first | omega | assumption | (simp only [FB, Nat.reduceAdd]; done) | (simp only [LB]; omega)) only [EB, ↓reduceIte, WB, Nat.reduceSub, Nat.reduceAdd, Int.reduceEq, Int.reduceNe, Int.reduceLT, Int.reduceLE, Int.reduceAdd, Int.reduceSub, Int.reduceMul, Int.reduceNeg, Int.reduceToNat, Nat.reduceEqDiff, Nat.reduceLT, Nat.reduceLeDiff, Nat.reduceMul, List.replicate, reduceCtorEq, TB, NB, t0, t3, show ¬ (l.length : Int) < l.length by omega, show (0 : Int) < l.length by omega]
      rw [mayI_true ⟨hall, h0⟩]
      exact ⟨(by first | trivial | rfl | omega), (by first | trivial | rfl | omega)⟩
    · simp -dsimp (maxSteps := 4000000) (disch := first | omega | assumption | (simp only [FB, Nat.reduceAdd]; done) | (simp only [LB]; omega)) only [EB, ↓reduceIte, WB, Nat.reduceSub, Nat.reduceAdd, Int.reduceEq, Int.reduceNe, Int.reduceLT, Int.reduceLE, Int.reduceAdd, Int.reduceSub, Int.reduceMul, Int.reduceNeg, Int.reduceToNat, Nat.reduceEqDiff, Nat.reduceLT, Nat.reduceLeDiff, Nat.reduceMul, List.replicate, reduceCtorEq, TB, NB, t0, t3, show ¬ (l.length : Int) < l.length by omega, show ¬ (0 : Int) < l.length by omega]
      rw [mayI_false fun h => h0 h.2]
      exact ⟨(by first | trivial | rfl | omega), (by first | trivial | rfl | omega)⟩
theorem may47 (v : Value) (l : List Fk) (hl : l.length ≤ 5000000000000) (a : AW) (m : Nat) (hm : m ≤ a.next) (hv : RV encF 2 a.heap m v l) (K : Value → AW → Prop) :
    WCall Try.prog GV 47 [v] a K = K (.bool (mayF l)) a := by
  refine call_eq ?_ K
  rw [call_env Try.func47 rfl Try.ntmps47 rfl rfl (by simp)]
  obtain ⟨pp, c, rfl⟩ := hv.len
  simp -dsimp (maxSteps := 4000000) (disch := first | omega | assumption | (simp only [FB, Nat.reduceAdd]; done) | (simp only [LB]; omega)) only [EB, ↓reduceIte, WB, Nat.reduceSub, Nat.reduceAdd, Int.reduceEq, Int.reduceNe, Int.reduceLT, Int.reduceLE, Int.reduceAdd, Int.reduceSub, Int.reduceMul, Int.reduceNeg, Int.reduceToNat, Nat.reduceEqDiff, Nat.reduceLT, Nat.reduceLeDiff, Nat.reduceMul, List.replicate, reduceCtorEq, TB, NB, ]
  refine loop_inv (fun r t w => ∃ i n, ∃ e : Nat → Value, r = l.length - i ∧ i ≤ l.length ∧ w = ⟨n, a.heap, a.next, []⟩ ∧ a.next ≤ n ∧ t = TT 47 e ∧ (∀ j, j < i → okF l j) ∧ e 0 = .slice pp l.length c ∧ e 3 = .int .i64 i) ⟨0, a.next, _, rfl, by omega, rfl, Nat.le_refl _, rfl, fun j hj => absurd hj (by omega), rfl, rfl⟩ ?_
  rintro r t w ⟨i, n, e, rfl, hi, rfl, hn1, rfl, hok, t0, t3⟩
  by_cases hlt : i < l.length
  · obtain ⟨b, o, sp, rw0, cc, e1, hlk', hbn, hle, hat, hkk⟩ := hv.at encF_len hlt
    subst e1
    have hkey : cc[o + i * 2]? = some (.string (mkStr l[i].key)) := by have := hkk 0 (by omega); simpa [encF] using this
    have hch : cc[o + (i * 2 + 1)]? = some (.int .u32 l[i].child) := by have := hkk 1 (by omega); rw [← Nat.add_assoc]; simpa [encF] using this
    have hbad : ¬ okF l i → mayF l = false := fun h => mayF_false fun hm => h (hm.1 i)
    by_cases h1k : l[i].key.length ≤ 40
    · by_cases h1n : numOk l[i].child
      · have h1 : fkOk l[i] := ⟨h1k, h1n⟩
        by_cases h0 : 0 < i
        · obtain ⟨b2, o2, sp2, rw2, cc2, e2, hlk2, hbn2, hle2, -, hk2⟩ := hv.at encF_len (i := i - 1) (by omega)
          cases e2
          rw [hlk'] at hlk2
          cases hlk2
          have hn0 : cc[o + (i - 1) * 2]? = some (.string (mkStr l[i - 1].key)) := by have := hk2 0 (by omega); simpa [encF] using this
          by_cases h2 : Op.bytesLess l[i - 1].key l[i].key = true
          · simp -dsimp (maxSteps := 4000000) (disch := first | omega | assumption | (simp only [FB, Nat.reduceAdd]; done) | (simp only [LB]; omega)) only [EB, ↓reduceIte, WB, Nat.reduceSub, Nat.reduceAdd, Int.reduceEq, Int.reduceNe, Int.reduceLT, Int.reduceLE, Int.reduceAdd, Int.reduceSub, Int.reduceMul, Int.reduceNeg, Int.reduceToNat, Nat.reduceEqDiff, Nat.reduceLT, Nat.reduceLeDiff, Nat.reduceMul, List.replicate, reduceCtorEq, TB, NB, t0, t3, show (i : Int) < l.length by omega]
            refine code_draw [(0, 1), (8, 9), (20, 21), (20, 22), (20, 26), (20, 27), (20, 28), (20, 29), (20, 30), (21, 26), (21, 27), (21, 28), (21, 29), (21, 30), (22, 26), (22, 27), (22, 28), (22, 29), (22, 30), (23, 26), (23, 27), (23, 28), (23, 29), (23, 30), (24, 26), (24, 27), (24, 28), (24, 29), (24, 30), (25, 26), (25, 27), (25, 28), (25, 29), (25, 30), (26, 27)] (by decide +kernel) (by decide +kernel) ?_
            simp -dsimp (maxSteps := 4000000) (disch := first | omega | assumption | (simp only [FB, Nat.reduceAdd]; done) | (simp only [LB]; omega)) only [EB, ↓reduceIte, WB, Nat.reduceSub, Nat.reduceAdd, Int.reduceEq, Int.reduceNe, Int.reduceLT, Int.reduceLE, Int.reduceAdd, Int.reduceSub, Int.reduceMul, Int.reduceNeg, Int.reduceToNat, Nat.reduceEqDiff, Nat.reduceLT, Nat.reduceLeDiff, Nat.reduceMul, List.replicate, reduceCtorEq, RB, Nat.reduceEqDiff, TB, NB, key22, number63, h1k, h1n, t0, t3, show (0 : Int) < i by omega, wrap64, show ((i : Int) - 1).toNat = i - 1 by omega, hlk', hn0, hkey, hch, h2, show b < n + 1 by omega]
            refine ⟨l.length - (i + 1), by omega, i + 1, n + 1, _, rfl, by omega, (by first | trivial | rfl | omega), by omega, rfl, fun j hj => ?_, ?_⟩
            · rcases Nat.lt_or_ge j i with hji | hji
              · exact hok j hji
              · obtain rfl : j = i := by omega
                exact fun _ => ⟨h1, fun _ => h2⟩
            · simp only [ups_at, ↓reduceIte, Nat.reduceEqDiff]; exact ⟨t0, (by first | trivial | rfl | omega)⟩
          · simp -dsimp (maxSteps := 4000000) (disch := first | omega | assumption | (simp only [FB, Nat.reduceAdd]; done) | (simp only [LB]; omega)) only [EB, ↓reduceIte, WB, Nat.reduceSub, Nat.reduceAdd, Int.reduceEq, Int.reduceNe, Int.reduceLT, Int.reduceLE, Int.reduceAdd, Int.reduceSub, Int.reduceMul, Int.reduceNeg, Int.reduceToNat, Nat.reduceEqDiff, Nat.reduceLT, Nat.reduceLeDiff, Nat.reduceMul, List.replicate, reduceCtorEq, TB, NB, t0, t3, show (i : Int) < l.length by omega]
            refine code_draw [(0, 1), (8, 9), (20, 21), (20, 22), (20, 26), (20, 27), (20, 28), (20, 29), (20, 30), (21, 26), (21, 27), (21, 28), (21, 29), (21, 30), (22, 26), (22, 27), (22, 28), (22, 29), (22, 30), (23, 26), (23, 27), (23, 28), (23, 29), (23, 30), (24, 26), (24, 27), (24, 28), (24, 29), (24, 30), (25, 26), (25, 27), (25, 28), (25, 29), (25, 30), (26, 27)] (by decide +kernel) (by decide +kernel) ?_
            have h2' : Op.bytesLess l[i - 1].key l[i].key = false := by simpa using h2
            simp -dsimp (maxSteps := 4000000) (disch := first | omega | assumption | (simp only [FB, Nat.reduceAdd]; done) | (simp only [LB]; omega)) only [EB, ↓reduceIte, WB, Nat.reduceSub, Nat.reduceAdd, Int.reduceEq, Int.reduceNe, Int.reduceLT, Int.reduceLE, Int.reduceAdd, Int.reduceSub, Int.reduceMul, Int.reduceNeg, Int.reduceToNat, Nat.reduceEqDiff, Nat.reduceLT, Nat.reduceLeDiff, Nat.reduceMul, List.replicate, reduceCtorEq, RB, Nat.reduceEqDiff, TB, NB, key22, number63, h1k, h1n, t0, t3, show (0 : Int) < i by omega, wrap64, show ((i : Int) - 1).toNat = i - 1 by omega, hlk', hn0, hkey, hch, h2', show b < n + 1 by omega]
            rw [hbad fun h => h2 ((h hlt).2 h0)]
        · simp -dsimp (maxSteps := 4000000) (disch := first | omega | assumption | (simp only [FB, Nat.reduceAdd]; done) | (simp only [LB]; omega)) only [EB, ↓reduceIte, WB, Nat.reduceSub, Nat.reduceAdd, Int.reduceEq, Int.reduceNe, Int.reduceLT, Int.reduceLE, Int.reduceAdd, Int.reduceSub, Int.reduceMul, Int.reduceNeg, Int.reduceToNat, Nat.reduceEqDiff, Nat.reduceLT, Nat.reduceLeDiff, Nat.reduceMul, List.replicate, reduceCtorEq, TB, NB, t0, t3, show (i : Int) < l.length by omega]
          refine code_draw [(0, 1), (8, 9), (20, 21), (20, 22), (20, 26), (20, 27), (20, 28), (20, 29), (20, 30), (21, 26), (21, 27), (21, 28), (21, 29), (21, 30), (22, 26), (22, 27), (22, 28), (22, 29), (22, 30), (23, 26), (23, 27), (23, 28), (23, 29), (23, 30), (24, 26), (24, 27), (24, 28), (24, 29), (24, 30), (25, 26), (25, 27), (25, 28), (25, 29), (25, 30), (26, 27)] (by decide +kernel) (by decide +kernel) ?_
          simp -dsimp (maxSteps := 4000000) (disch := first | omega | assumption | (simp only [FB, Nat.reduceAdd]; done) | (simp only [LB]; omega)) only [EB, ↓reduceIte, WB, Nat.reduceSub, Nat.reduceAdd, Int.reduceEq, Int.reduceNe, Int.reduceLT, Int.reduceLE, Int.reduceAdd, Int.reduceSub, Int.reduceMul, Int.reduceNeg, Int.reduceToNat, Nat.reduceEqDiff, Nat.reduceLT, Nat.reduceLeDiff, Nat.reduceMul, List.replicate, reduceCtorEq, RB, Nat.reduceEqDiff, TB, NB, key22, number63, h1k, h1n, t0, t3, show ¬ (0 : Int) < i by omega, wrap64, hlk', hkey, hch, show b < n + 1 by omega]
          refine ⟨l.length - (i + 1), by omega, i + 1, n + 1, _, rfl, by omega, (by first | trivial | rfl | omega), by omega, rfl, fun j hj => ?_, ?_⟩
          · obtain rfl : j = i := by omega
            exact fun _ => ⟨h1, fun h0' => absurd h0' h0⟩
          · simp only [ups_at, ↓reduceIte, Nat.reduceEqDiff]; exact ⟨t0, (by first | trivial | rfl | omega)⟩
      · simp -dsimp (maxSteps := 4000000) (disch := first | omega | assumption | (simp only [FB, Nat.reduceAdd]; done) | (simp only [LB]; omega)) only [EB, ↓reduceIte, WB, Nat.reduceSub, Nat.reduceAdd, Int.reduceEq, Int.reduceNe, Int.reduceLT, Int.reduceLE, Int.reduceAdd, Int.reduceSub, Int.reduceMul, Int.reduceNeg, Int.reduceToNat, Nat.reduceEqDiff, Nat.reduceLT, Nat.reduceLeDiff, Nat.reduceMul, List.replicate, reduceCtorEq, TB, NB, t0, t3, show (i : Int) < l.length by omega]
        refine code_draw [(0, 1), (8, 9), (20, 21), (20, 22), (20, 26), (20, 27), (20, 28), (20, 29), (20, 30), (21, 26), (21, 27), (21, 28), (21, 29), (21, 30), (22, 26), (22, 27), (22, 28), (22, 29), (22, 30), (23, 26), (23, 27), (23, 28), (23, 29), (23, 30), (24, 26), (24, 27), (24, 28), (24, 29), (24, 30), (25, 26), (25, 27), (25, 28), (25, 29), (25, 30), (26, 27)] (by decide +kernel) (by decide +kernel) ?_
        simp -dsimp (maxSteps := 4000000) (disch := first | omega | assumption | (simp only [FB, Nat.reduceAdd]; done) | (simp only [LB]; omega)) only [EB, ↓reduceIte, WB, Nat.reduceSub, Nat.reduceAdd, Int.reduceEq, Int.reduceNe, Int.reduceLT, Int.reduceLE, Int.reduceAdd, Int.reduceSub, Int.reduceMul, Int.reduceNeg, Int.reduceToNat, Nat.reduceEqDiff, Nat.reduceLT, Nat.reduceLeDiff, Nat.reduceMul, List.replicate, reduceCtorEq, RB, Nat.reduceEqDiff, TB, NB, key22, number63, h1k, h1n, t0, t3, wrap64, hlk', hkey, hch, show b < n + 1 by omega]
        rw [hbad fun h => h1n (h hlt).1.2]
    · simp -dsimp (maxSteps := 4000000) (disch := first | omega | assumption | (simp only [FB, Nat.reduceAdd]; done) | (simp only [LB]; omega)) only [EB, ↓reduceIte, WB, Nat.reduceSub, Nat.reduceAdd, Int.reduceEq, Int.reduceNe, Int.reduceLT, Int.reduceLE, Int.reduceAdd, Int.reduceSub, Int.reduceMul, Int.reduceNeg, Int.reduceToNat, Nat.reduceEqDiff, Nat.reduceLT, Nat.reduceLeDiff, Nat.reduceMul, List.replicate, reduceCtorEq, TB, NB, t0, t3, show (i : Int) < l.length by omega]
      refine code_draw [(0, 1), (8, 9), (20, 21), (20, 22), (20, 26), (20, 27), (20, 28), (20, 29), (20, 30), (21, 26), (21, 27), (21, 28), (21, 29), (21, 30), (22, 26), (22, 27), (22, 28), (22, 29), (22, 30), (23, 26), (23, 27), (23, 28), (23, 29), (23, 30), (24, 26), (24, 27), (24, 28), (24, 29), (24, 30), (25, 26), (25, 27), (25, 28), (25, 29), (25, 30), (26, 27)] (by decide +kernel) (by decide +kernel) ?_
      simp -dsimp (maxSteps := 4000000) (disch := first | omega | assumption | (simp only [FB, Nat.reduceAdd]; done) | (simp only [LB]; omega)) only [EB, ↓reduceIte, WB, Nat.reduceSub, Nat.reduceAdd, Int.reduceEq, Int.reduceNe, Int.reduceLT, Int.reduceLE, Int.reduceAdd, Int.reduceSub, Int.reduceMul, Int.reduceNeg, Int.reduceToNat, Nat.reduceEqDiff, Nat.reduceLT, Nat.reduceLeDiff, Nat.reduceMul, List.replicate, reduceCtorEq, RB, Nat.reduceEqDiff, TB, NB, key22, h1k, t0, t3, wrap64, hlk', hkey, show b < n + 1 by omega]
      rw [hbad fun h => h1k (h hlt).1.1]
  · obtain rfl : i = l.length := by omega
    have hall : ∀ j, okF l j := fun j hj => hok j hj hj
    by_cases h0 : 0 < l.length
    · simp -dsimp (maxSteps := 4000000) (disch := first | omega | assumption | (simp only [FB, Nat.reduceAdd]; done) | (simp only [LB]; omega)) only [EB, ↓reduceIte, WB, Nat.reduceSub, Nat.reduceAdd, Int.reduceEq, Int.reduceNe, Int.reduceLT, Int.reduceLE, Int.reduceAdd, Int.reduceSub, Int.reduceMul, Int.reduceNeg, Int.reduceToNat, Nat.reduceEqDiff, Nat.reduceLT, Nat.reduceLeDiff, Nat.reduceMul, List.replicate, reduceCtorEq, TB, NB, t0, t3, show ¬ (l.length : Int) < l.length by omega, show (0 : Int) < l.length by omega]
      rw [mayF_true ⟨hall, h0⟩]
      exact ⟨(by first | trivial | rfl | omega), (by first | trivial | rfl | omega)⟩
    · simp -dsimp (maxSteps := 4000000) (disch := first | omega | assumption | (simp only [FB, Nat.reduceAdd]; done) | (simp only [LB]; omega)) only [EB, ↓reduceIte, WB, Nat.reduceSub, Nat.reduceAdd, Int.reduceEq, Int.reduceNe, Int.reduceLT, Int.reduceLE, Int.reduceAdd, Int.reduceSub, Int.reduceMul, Int.reduceNeg, Int.reduceToNat, Nat.reduceEqDiff, Nat.reduceLT, Nat.reduceLeDiff, Nat.reduceMul, List.replicate, reduceCtorEq, TB, NB, t0, t3, show ¬ (l.length : Int) < l.length by omega, show ¬ (0 : Int) < l.length by omega]
      rw [mayF_false fun h => h0 h.2]
      exact ⟨(by first | trivial | rfl | omega), (by first | trivial | rfl | omega)⟩
theorem own12 (v : Value) (l : List Int) (hl : l.length ≤ 1000000) (a : AW) (m : Nat) (hm : m ≤ a.next) (hv : RV encN 1 a.heap m v l) (K : Value → AW → Prop)
    (hK : ∀ v' n' h', a.next ≤ n' → n' ≤ a.next + 1 → OwnS encN 1 h' n' a.next v' l → (∀ j, j < a.next → look j h' = look j a.heap) → K v' ⟨n', h', a.base, a.dirty⟩) :
    WCall Try.prog GV 12 [v] a K := by
  rw [call_env Try.func12 rfl Try.ntmps12 rfl rfl (by simp)]
  have hv1 : RV encN 1 ((a.next, Blk.cells [] true) :: a.heap) m v l := hv.keep (Nat.le_refl _) fun j hj => look_miss (by omega)
  simp -dsimp (maxSteps := 4000000) (disch := first | omega | assumption | (simp only [FB, Nat.reduceAdd]; done) | (simp only [LB]; omega)) only [EB, ↓reduceIte, WB, Nat.reduceSub, Nat.reduceAdd, Int.reduceEq, Int.reduceNe, Int.reduceLT, Int.reduceLE, Int.reduceAdd, Int.reduceSub, Int.reduceMul, Int.reduceNeg, Int.reduceToNat, Nat.reduceEqDiff, Nat.reduceLT, Nat.reduceLeDiff, Nat.reduceMul, List.replicate, reduceCtorEq, TB, NB, ]
  obtain ⟨v2, q2, n2, h2, e2, o2, f1, f2, f3, f4, f5⟩ := append_mine (E := Try.prog) (t0 := 25) (t1 := 25) (bs := a.next) (d := []) app25 encN_len encN_one (OwnS.made (n := a.next + 1) (h := (a.next, Blk.cells [] true) :: a.heap) look_self (Nat.lt_succ_self _)) (Nat.le_refl _) (by omega) hv1 (by simpa using hl)
  rw [e2]
  simp -dsimp (maxSteps := 4000000) (disch := first | omega | assumption | (simp only [FB, Nat.reduceAdd]; done) | (simp only [LB]; omega)) only [EB, ↓reduceIte, WB, Nat.reduceSub, Nat.reduceAdd, Int.reduceEq, Int.reduceNe, Int.reduceLT, Int.reduceLE, Int.reduceAdd, Int.reduceSub, Int.reduceMul, Int.reduceNeg, Int.reduceToNat, Nat.reduceEqDiff, Nat.reduceLT, Nat.reduceLeDiff, Nat.reduceMul, List.replicate, reduceCtorEq, TB, NB, ]
  exact leave_own (a := a) encN_flat o2 f3 fun v' n' h' x1 x2 x3 x4 _ => hK v' n' h' x1 x2 x3 fun j hj => x4 j hj
theorem same13 (v u : Value) (l k : List Int) (hl : l.length ≤ 1000000) (a : AW) (m : Nat) (hm : m ≤ a.next) (hv : RV encN 1 a.heap m v l) (hu : RV encN 1 a.heap m u k) (K : Value → AW → Prop) :
    WCall Try.prog GV 13 [v, u] a K = K (.bool (decide (l = k))) a := by
  refine call_eq ?_ K
  rw [call_env Try.func13 rfl Try.ntmps13 rfl rfl (by simp)]
  obtain ⟨p, c, rfl⟩ := hv.len
  obtain ⟨p', c', rfl⟩ := hu.len
  by_cases hlen : l.length = k.length
  · simp -dsimp (maxSteps := 4000000) (disch := first | omega | assumption | (simp only [FB, Nat.reduceAdd]; done) | (simp only [LB]; omega)) only [EB, ↓reduceIte, WB, Nat.reduceSub, Nat.reduceAdd, Int.reduceEq, Int.reduceNe, Int.reduceLT, Int.reduceLE, Int.reduceAdd, Int.reduceSub, Int.reduceMul, Int.reduceNeg, Int.reduceToNat, Nat.reduceEqDiff, Nat.reduceLT, Nat.reduceLeDiff, Nat.reduceMul, List.replicate, reduceCtorEq, TB, NB, hlen]
    refine loop_inv (fun r t w => ∃ i n, ∃ e : Nat → Value, r = l.length - i ∧ i ≤ l.length ∧ w = ⟨n, a.heap, a.next, []⟩ ∧ a.next ≤ n ∧ t = TT 26 e ∧ (∀ j (h1 : j < l.length) (h2 : j < k.length), j < i → l[j] = k[j]) ∧ e 0 = .slice p k.length c ∧ e 1 = .slice p' k.length c' ∧ e 5 = .int .i64 i) ⟨0, a.next, _, rfl, by omega, rfl, Nat.le_refl _, rfl, fun j _ _ h => absurd h (by omega), rfl, rfl, rfl⟩ ?_
    rintro r t w ⟨i, n, e, rfl, hi, rfl, hn, rfl, hb, t0, t1, t5⟩
    by_cases hlt : i < l.length
    · have hlt2 : i < k.length := by omega
      obtain ⟨b, o, sp, rw0, cc, rfl, hlk, hbn, hle, hat, hk2⟩ := hv.at encN_len hlt
      obtain ⟨b', o', sp', rw0', cc', rfl, hlk', hbn', hle', hat', hk2'⟩ := hu.at encN_len hlt2
      have hx1 : cc[o + i]? = some (.int .i64 l[i]) := by have := hk2 0 (by omega); simpa [encN] using this
      have hx2 : cc'[o' + i]? = some (.int .i64 k[i]) := by have := hk2' 0 (by omega); simpa [encN] using this
      by_cases he : l[i] = k[i]
      · simp -dsimp (maxSteps := 4000000) (disch := first | omega | assumption | (simp only [FB, Nat.reduceAdd]; done) | (simp only [LB]; omega)) only [EB, ↓reduceIte, WB, Nat.reduceSub, Nat.reduceAdd, Int.reduceEq, Int.reduceNe, Int.reduceLT, Int.reduceLE, Int.reduceAdd, Int.reduceSub, Int.reduceMul, Int.reduceNeg, Int.reduceToNat, Nat.reduceEqDiff, Nat.reduceLT, Nat.reduceLeDiff, Nat.reduceMul, List.replicate, reduceCtorEq, TB, NB, t0, t1, t5, show (i : Int) < k.length by omega]
        refine code_draw [(0, 1), (0, 4), (0, 5), (0, 6), (0, 7), (1, 4), (1, 5), (1, 6), (1, 7), (2, 4), (2, 5), (2, 6), (2, 7), (3, 4), (3, 5), (3, 6), (3, 7), (4, 5)] (by decide +kernel) (by decide +kernel) ?_
        simp -dsimp (maxSteps := 4000000) (disch := first | omega | assumption | (simp only [FB, Nat.reduceAdd]; done) | (simp only [LB]; omega)) only [EB, ↓reduceIte, WB, Nat.reduceSub, Nat.reduceAdd, Int.reduceEq, Int.reduceNe, Int.reduceLT, Int.reduceLE, Int.reduceAdd, Int.reduceSub, Int.reduceMul, Int.reduceNeg, Int.reduceToNat, Nat.reduceEqDiff, Nat.reduceLT, Nat.reduceLeDiff, Nat.reduceMul, List.replicate, reduceCtorEq, RB, Nat.reduceEqDiff, TB, NB, t0, t1, t5, hlk, hlk', hx1, hx2, neq3, decide_eq_true he, wrap64, show b < n + 1 by omega, show b' < n + 1 by omega]
        refine ⟨l.length - (i + 1), by omega, i + 1, n + 1, _, rfl, by omega, (by first | trivial | rfl | omega), by omega, rfl, fun j h1 h2' hj => ?_, ?_⟩
        · have h2 : j < k.length := by omega
          rcases Nat.lt_or_ge j i with h | h
          · exact hb j h1 h2 h
          · obtain rfl : j = i := by omega
            exact he
        · simp only [ups_at, ↓reduceIte, Nat.reduceEqDiff]; exact ⟨t0, t1, (by first | trivial | rfl | omega)⟩
      · simp -dsimp (maxSteps := 4000000) (disch := first | omega | assumption | (simp only [FB, Nat.reduceAdd]; done) | (simp only [LB]; omega)) only [EB, ↓reduceIte, WB, Nat.reduceSub, Nat.reduceAdd, Int.reduceEq, Int.reduceNe, Int.reduceLT, Int.reduceLE, Int.reduceAdd, Int.reduceSub, Int.reduceMul, Int.reduceNeg, Int.reduceToNat, Nat.reduceEqDiff, Nat.reduceLT, Nat.reduceLeDiff, Nat.reduceMul, List.replicate, reduceCtorEq, TB, NB, t0, t1, t5, show (i : Int) < k.length by omega]
        refine code_draw [(0, 1), (0, 4), (0, 5), (0, 6), (0, 7), (1, 4), (1, 5), (1, 6), (1, 7), (2, 4), (2, 5), (2, 6), (2, 7), (3, 4), (3, 5), (3, 6), (3, 7), (4, 5)] (by decide +kernel) (by decide +kernel) ?_
        simp -dsimp (maxSteps := 4000000) (disch := first | omega | assumption | (simp only [FB, Nat.reduceAdd]; done) | (simp only [LB]; omega)) only [EB, ↓reduceIte, WB, Nat.reduceSub, Nat.reduceAdd, Int.reduceEq, Int.reduceNe, Int.reduceLT, Int.reduceLE, Int.reduceAdd, Int.reduceSub, Int.reduceMul, Int.reduceNeg, Int.reduceToNat, Nat.reduceEqDiff, Nat.reduceLT, Nat.reduceLeDiff, Nat.reduceMul, List.replicate, reduceCtorEq, RB, Nat.reduceEqDiff, TB, NB, t0, t1, t5, hlk, hlk', hx1, hx2, neq3, decide_eq_false he, wrap64, show b < n + 1 by omega, show b' < n + 1 by omega]
        rw [decide_eq_false fun h => he (by subst h; rfl)]
    · have hi2 : i = l.length := by omega
      have hlk : l = k := List.ext_getElem hlen fun j h1 h2 => hb j h1 h2 (by omega)
      simp -dsimp (maxSteps := 4000000) (disch := first | omega | assumption | (simp only [FB, Nat.reduceAdd]; done) | (simp only [LB]; omega)) only [EB, ↓reduceIte, WB, Nat.reduceSub, Nat.reduceAdd, Int.reduceEq, Int.reduceNe, Int.reduceLT, Int.reduceLE, Int.reduceAdd, Int.reduceSub, Int.reduceMul, Int.reduceNeg, Int.reduceToNat, Nat.reduceEqDiff, Nat.reduceLT, Nat.reduceLeDiff, Nat.reduceMul, List.replicate, reduceCtorEq, TB, NB, t0, t1, t5, show ¬ (i : Int) < k.length by omega]
      rw [decide_eq_true hlk]
      exact ⟨(by first | trivial | rfl | omega), (by first | trivial | rfl | omega)⟩
  · simp -dsimp (maxSteps := 4000000) (disch := first | omega | assumption | (simp only [FB, Nat.reduceAdd]; done) | (simp only [LB]; omega)) only [EB, ↓reduceIte, WB, Nat.reduceSub, Nat.reduceAdd, Int.reduceEq, Int.reduceNe, Int.reduceLT, Int.reduceLE, Int.reduceAdd, Int.reduceSub, Int.reduceMul, Int.reduceNeg, Int.reduceToNat, Nat.reduceEqDiff, Nat.reduceLT, Nat.reduceLeDiff, Nat.reduceMul, List.replicate, reduceCtorEq, TB, NB, show ¬ (l.length : Int) = k.length by omega]
    rw [decide_eq_false fun h => hlen (by rw [h])]
    exact ⟨(by first | trivial | rfl | omega), (by first | trivial | rfl | omega)⟩
end Go.Proofs.YtijmlgccaicblaaAM
