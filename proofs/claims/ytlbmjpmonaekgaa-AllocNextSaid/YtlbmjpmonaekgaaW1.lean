/- Chapter 14: AllocCopies. -/
import Derived.Test.YtlbmjpmonaekgaaW0
namespace Go.Proofs.YtlbmjpmonaekgaaAM
open Go Go.RowKit
set_option linter.unusedVariables false
set_option linter.unusedSimpArgs false
set_option maxRecDepth 10000
set_option maxHeartbeats 4000000

theorem lives9 (a : AW) (K) : WCall Try.prog GE 9 [] a K = K (.bool true) a := by
  refine call_given ?_
  rfl
theorem law8 (v0 v1 v2 : Value) (bs : List Bool) (xs ys : List Int) (a : AW) (h0 : RowG evB a.heap a.next v0 bs) (h1 : RowG ev64 a.heap a.next v1 xs) (h2 : RowG ev64 a.heap a.next v2 ys) :
    WCall Try.prog GE 8 [v0, v1, v2] a fun r _ => r = .bool true := by
  rw [call_env Try.func8 rfl Try.ntmps8 rfl rfl (by simp)]
  obtain ⟨p0, c0, rfl, r0⟩ := h0
  obtain ⟨p1, c1, rfl, r1⟩ := h1
  obtain ⟨p2, c2, rfl, r2⟩ := h2
  obtain ⟨B, hB⟩ : ∃ B, B = bs.length := ⟨_, rfl⟩
  obtain ⟨X, hX⟩ : ∃ X, X = xs.length := ⟨_, rfl⟩
  obtain ⟨Y, hY⟩ : ∃ Y, Y = ys.length := ⟨_, rfl⟩
  rw [← hB, ← hX, ← hY]
  by_cases b1 : (30 : Int) < B
  · simp -dsimp (maxSteps := 4000000) (disch := first | omega | assumption | (simp only [FB, Nat.reduceAdd]; done) | (simp only [LB]; omega)) only [EB, ↓reduceIte, WB, Nat.reduceSub, Nat.reduceAdd, Int.reduceEq, Int.reduceNe, Int.reduceLT, Int.reduceLE, Int.reduceAdd, Int.reduceSub, Int.reduceMul, Int.reduceNeg, Int.reduceToNat, Nat.reduceEqDiff, Nat.reduceLT, Nat.reduceLeDiff, Nat.reduceMul, List.replicate, reduceCtorEq, TB, NB, MB, lives9, b1]
  by_cases b2 : (60 : Int) < X
  · simp -dsimp (maxSteps := 4000000) (disch := first | omega | assumption | (simp only [FB, Nat.reduceAdd]; done) | (simp only [LB]; omega)) only [EB, ↓reduceIte, WB, Nat.reduceSub, Nat.reduceAdd, Int.reduceEq, Int.reduceNe, Int.reduceLT, Int.reduceLE, Int.reduceAdd, Int.reduceSub, Int.reduceMul, Int.reduceNeg, Int.reduceToNat, Nat.reduceEqDiff, Nat.reduceLT, Nat.reduceLeDiff, Nat.reduceMul, List.replicate, reduceCtorEq, TB, NB, MB, lives9, b1, b2]
  by_cases b3 : (60 : Int) < Y
  · simp -dsimp (maxSteps := 4000000) (disch := first | omega | assumption | (simp only [FB, Nat.reduceAdd]; done) | (simp only [LB]; omega)) only [EB, ↓reduceIte, WB, Nat.reduceSub, Nat.reduceAdd, Int.reduceEq, Int.reduceNe, Int.reduceLT, Int.reduceLE, Int.reduceAdd, Int.reduceSub, Int.reduceMul, Int.reduceNeg, Int.reduceToNat, Nat.reduceEqDiff, Nat.reduceLT, Nat.reduceLeDiff, Nat.reduceMul, List.replicate, reduceCtorEq, TB, NB, MB, lives9, b1, b2, b3]
  simp -dsimp (maxSteps := 4000000) (disch := first | omega | assumption | (simp only [FB, Nat.reduceAdd]; done) | (simp only [LB]; omega)) only [EB, ↓reduceIte, WB, Nat.reduceSub, Nat.reduceAdd, Int.reduceEq, Int.reduceNe, Int.reduceLT, Int.reduceLE, Int.reduceAdd, Int.reduceSub, Int.reduceMul, Int.reduceNeg, Int.reduceToNat, Nat.reduceEqDiff, Nat.reduceLT, Nat.reduceLeDiff, Nat.reduceMul, List.replicate, reduceCtorEq, TB, NB, MB, lives9, b1, b2, b3]
  refine loop_inv (fun k t w => ∃ (i n : Nat) (h : List (Nat × Blk)) (v : Value), ∃ e, k = B - i ∧ i ≤ B ∧ a.next ≤ n ∧ w = ⟨n, h, a.next, []⟩ ∧ OutG encN 2 h n a.next v (freesB (bs.take i) 0) ∧ (∀ j, j < a.next → look j h = look j a.heap) ∧ t = TT 151 e ∧ e 0 = .slice p0 B c0 ∧ e 1 = .slice p1 X c1 ∧ e 2 = .slice p2 Y c2 ∧ e 7 = v ∧ e 8 = .int .i64 i)
    ⟨0, a.next, a.heap, _, _, rfl, Nat.zero_le _, Nat.le_refl _, rfl, .inl ⟨rfl, rfl⟩, fun _ _ => rfl, rfl, rfl, rfl, rfl, rfl, rfl⟩ ?_
  rintro k t w ⟨i, n, h, v, e, rfl, hi, hn, rfl, ho, hout, rfl, e0, e1, e2, e7, e8⟩
  by_cases hin : i < B
  · have hml : i < bs.length := by omega
    obtain ⟨bk, o, sp, rw_, cc, hbn, rfl, hbk, hat⟩ := r0 (by intro e; rw [e] at hB; simp at hB; omega)
    have hc : cc[o + i]? = some (.bool bs[i]) := hat _ hml
    have hbk2 := (hout bk hbn).trans hbk
    have htk : bs.take (i + 1) = bs.take i ++ [bs[i]] := by rw [List.take_add_one, List.getElem?_eq_getElem hml]; rfl
    have hti : (bs.take i).length = i := by rw [List.length_take]; omega
    have hfr := frees_app (bs.take i) bs[i] 0
    rw [hti, Nat.zero_add] at hfr
    cases hx : bs[i] with
    | true =>
      rw [hx, if_pos rfl] at hfr
      have hw1 := wrapu32 (n := (i : Int)) (by omega) (by omega)
      have hw2 := wrapu32 (n := ((i + 2 : Nat) : Int)) (by omega) (by omega)
      have hi2 : (i : Int) + 2 = ((i + 2 : Nat) : Int) := by omega
      obtain ⟨up, uc, rfl⟩ := ho.shape
      have hfl := frees_len (bs.take i) 0
      rw [hti] at hfl
      have ho2 : OutG encN 2 ((n, Blk.cells [Value.int .u32 ((i + 2 : Nat) : Int)] true) :: h) (n + 1) a.next (.slice up (freesB (bs.take i) 0).length uc) (freesB (bs.take i) 0) := ho.keep (by omega) fun j h1 h2 => look_miss (by omega)
      obtain ⟨v', h2, d2, q1, q2, q3, q4⟩ := app_one (E := Try.prog) (bs := a.next) (d := []) (q := ⟨n, 0, some 0⟩) (cq := 1) (x := ((i + 2 : Nat) : Int)) app25 rfl encN_len encN_one ho2 (by omega) (by rw [look_self]; rfl) (by omega)
      have hd2 : d2 = [] := by
        rcases q4 with h | ⟨b, hb1, hb2, _, _⟩
        · exact h
        · omega
      subst hd2
      simp -dsimp (maxSteps := 4000000) (disch := first | omega | assumption | (simp only [FB, Nat.reduceAdd]; done) | (simp only [LB]; omega)) only [EB, ↓reduceIte, WB, Nat.reduceSub, Nat.reduceAdd, Int.reduceEq, Int.reduceNe, Int.reduceLT, Int.reduceLE, Int.reduceAdd, Int.reduceSub, Int.reduceMul, Int.reduceNeg, Int.reduceToNat, Nat.reduceEqDiff, Nat.reduceLT, Nat.reduceLeDiff, Nat.reduceMul, List.replicate, reduceCtorEq, TB, NB, MB, e0, e1, e2, e7, e8, show (i : Int) < B by omega, indexAddr_slice und22 size4, load_one agg4, hbk2, hc, hx, op_conv_int und3 und27, conv_int und3 und27, hw1, hw2, hi2, buildSl1 sl25, q1, wrap64]
      refine ⟨trivial, B - (i + 1), by omega, i + 1, n + 2, h2, v', _, rfl, by omega, by omega, rfl, by rw [htk, hx, hfr]; exact q2, fun j hj => ?_, rfl, ?_⟩
      · rw [q3 j hj, look_miss (by omega)]; exact hout j hj
      · simp only [ups_at, ↓reduceIte, Nat.reduceEqDiff]
        exact ⟨e0, e1, e2, (by first | trivial | rfl | omega), (by first | trivial | rfl | omega)⟩
    | false =>
      rw [hx] at hfr
      simp only [Bool.false_eq_true, if_false, List.append_nil] at hfr
      simp -dsimp (maxSteps := 4000000) (disch := first | omega | assumption | (simp only [FB, Nat.reduceAdd]; done) | (simp only [LB]; omega)) only [EB, ↓reduceIte, WB, Nat.reduceSub, Nat.reduceAdd, Int.reduceEq, Int.reduceNe, Int.reduceLT, Int.reduceLE, Int.reduceAdd, Int.reduceSub, Int.reduceMul, Int.reduceNeg, Int.reduceToNat, Nat.reduceEqDiff, Nat.reduceLT, Nat.reduceLeDiff, Nat.reduceMul, List.replicate, reduceCtorEq, TB, NB, MB, e0, e1, e2, e7, e8, show (i : Int) < B by omega, indexAddr_slice und22 size4, load_one agg4, hbk2, hc, hx, wrap64]
      refine ⟨trivial, B - (i + 1), by omega, i + 1, n, h, v, _, rfl, by omega, hn, rfl, by rw [htk, hx, hfr]; exact ho, hout, rfl, ?_⟩
      simp only [ups_at, ↓reduceIte, Nat.reduceEqDiff]
      exact ⟨e0, e1, e2, e7, (by first | trivial | rfl | omega)⟩
  obtain rfl : i = B := by omega
  have htk : bs.take i = bs := by rw [hB]; exact List.take_length
  rw [htk] at ho
  have hbl : (freesB bs 0).length ≤ 30 := by have := frees_len bs 0; omega
  have hrv : RV encN 1 h n v (freesB bs 0) := by
    rcases ho with ⟨rfl, h⟩ | ⟨b, rfl, hne, hb', hl1, hl2⟩
    · exact .inl ⟨rfl, h⟩
    · exact .inr ⟨b, 0, some 2, _, _, _, rfl, hb', hl2, by simp [encN_map], by rw [List.drop_zero, Nat.mul_one, List.take_of_length_le (by simp [encN_map])], .inr (.inr rfl), Nat.le_refl _⟩
  have hw1 := wrapu32 (n := (i : Int)) (by omega) (by omega)
  have hw2 := wrapu32 (n := (i : Int) + 2) (by omega) (by omega)
  simp -dsimp (maxSteps := 4000000) (disch := first | omega | assumption | (simp only [FB, Nat.reduceAdd]; done) | (simp only [LB]; omega)) only [EB, ↓reduceIte, WB, Nat.reduceSub, Nat.reduceAdd, Int.reduceEq, Int.reduceNe, Int.reduceLT, Int.reduceLE, Int.reduceAdd, Int.reduceSub, Int.reduceMul, Int.reduceNeg, Int.reduceToNat, Nat.reduceEqDiff, Nat.reduceLT, Nat.reduceLeDiff, Nat.reduceMul, List.replicate, reduceCtorEq, TB, NB, MB, e0, e1, e2, e7, e8, Int.lt_irrefl, op_conv_int und3 und27, conv_int und3 und27, hw1, hw2]
  refine new10 v (freesB bs 0) (by omega) _ _ ⟨n, h, a.next, []⟩ hrv _ (fun hno => ?_) (fun _ p t g b h1 n1 hA k1 k2 k3 k4 hout1 => ?_)
  · have hok := frees_ok bs 60 (by omega) (by omega)
    rw [← hB] at hok
    rw [hok] at hno
    cases hno
  simp only at k1 k2 k3 k4 hout1
  have hlt1 := hA.lt
  have hlow1 : ∀ j, j < a.next → look j h1 = look j a.heap := fun j hj => (hout1 j (by omega)).trans (hout j hj)
  simp -dsimp (maxSteps := 4000000) (disch := first | omega | assumption | (simp only [FB, Nat.reduceAdd]; done) | (simp only [LB]; omega)) only [EB, ↓reduceIte, WB, Nat.reduceSub, Nat.reduceAdd, Int.reduceEq, Int.reduceNe, Int.reduceLT, Int.reduceLE, Int.reduceAdd, Int.reduceSub, Int.reduceMul, Int.reduceNeg, Int.reduceToNat, Nat.reduceEqDiff, Nat.reduceLT, Nat.reduceLeDiff, Nat.reduceMul, List.replicate, reduceCtorEq, TB, NB, MB, e0, e1, e2]
  refine call26 (a := ⟨n1, h1, a.next, []⟩) (m := a.next) hA (by simp only; omega) (v := .slice p1 X c1) (xs := xs) ⟨p1, c1, by rw [hX], fun hne => by
    obtain ⟨bk, o, sp, rw_, cc, z1, z2, z3, z4⟩ := r1 hne
    exact ⟨bk, o, sp, rw_, cc, z1, z2, (hlow1 bk z1).trans z3, z4⟩⟩ (by omega) (by simp only [Al.len, List.length_nil]; omega) _ fun a2 b2 ha2 => ?_
  obtain ⟨n2, h2, rfl, hA2, l2, k5, k6, hout2⟩ := ha2.own hA rfl (by simp only; omega) ⟨by simp only; omega, by simp only; omega, by simp only; omega, by simp only; omega⟩
  simp only at l2 k5 k6 hout2
  obtain ⟨s1, hs1⟩ : ∃ s1, s1 = xs.foldl stepS ⟨freesB bs 0, [], [], (i : Int) + 2, 60⟩ := ⟨_, rfl⟩
  rw [← hs1] at hA2
  have hl1 : s1.len ≤ 200 := by
    have := run_len ⟨freesB bs 0, [], [], (i : Int) + 2, 60⟩ xs
    rw [← hs1] at this
    simp only [Al.len, List.length_nil] at this ⊢
    omega
  simp -dsimp (maxSteps := 4000000) (disch := first | omega | assumption | (simp only [FB, Nat.reduceAdd]; done) | (simp only [LB]; omega)) only [EB, ↓reduceIte, WB, Nat.reduceSub, Nat.reduceAdd, Int.reduceEq, Int.reduceNe, Int.reduceLT, Int.reduceLE, Int.reduceAdd, Int.reduceSub, Int.reduceMul, Int.reduceNeg, Int.reduceToNat, Nat.reduceEqDiff, Nat.reduceLT, Nat.reduceLeDiff, Nat.reduceMul, List.replicate, reduceCtorEq, TB, NB, MB, e0, e1, e2]
  refine copy27 (a := ⟨n2, h2, a.next, []⟩) hA2 (by omega) _ fun p' t' g' b' h3 n3 hA3 m1 m2 m3 m4 hout3 => ?_
  simp only at m1 m2 m3 m4 hout3
  have hlt2 := hA2.lt
  have hlt3 := hA3.lt
  have hO3 : AllocIs h3 n3 p t g b2 s1 := hA2.keep (by omega) fun j hj => hout3 j (by omega)
  have e20 := fun K => left20 (a := ⟨n3, h3, a.next, []⟩) hO3 (by omega) K
  have e15 := fun K => pages15 (a := ⟨n3, h3, a.next, []⟩) hO3 K
  simp -dsimp (maxSteps := 4000000) (disch := first | omega | assumption | (simp only [FB, Nat.reduceAdd]; done) | (simp only [LB]; omega)) only [EB, ↓reduceIte, WB, Nat.reduceSub, Nat.reduceAdd, Int.reduceEq, Int.reduceNe, Int.reduceLT, Int.reduceLE, Int.reduceAdd, Int.reduceSub, Int.reduceMul, Int.reduceNeg, Int.reduceToNat, Nat.reduceEqDiff, Nat.reduceLT, Nat.reduceLeDiff, Nat.reduceMul, List.replicate, reduceCtorEq, TB, NB, MB, e0, e1, e2, e20, e15]
  refine freeK (a := ⟨n3, h3, a.next, []⟩) hO3 (by omega) fun vF n4 h4 rF l4 o4 => ?_
  simp only at rF l4 o4
  have hO4 := hO3.keep l4 fun j hj => o4 j (by omega)
  have hC4 := hA3.keep l4 fun j hj => o4 j (by omega)
  simp -dsimp (maxSteps := 4000000) (disch := first | omega | assumption | (simp only [FB, Nat.reduceAdd]; done) | (simp only [LB]; omega)) only [EB, ↓reduceIte, WB, Nat.reduceSub, Nat.reduceAdd, Int.reduceEq, Int.reduceNe, Int.reduceLT, Int.reduceLE, Int.reduceAdd, Int.reduceSub, Int.reduceMul, Int.reduceNeg, Int.reduceToNat, Nat.reduceEqDiff, Nat.reduceLT, Nat.reduceLeDiff, Nat.reduceMul, List.replicate, reduceCtorEq, TB, NB, MB, ]
  refine takenK (a := ⟨n4, h4, a.next, []⟩) hO4 (by omega) fun vT n5 h5 rT l5 o5 => ?_
  simp only at rT l5 o5
  have hO5 := hO4.keep l5 fun j hj => o5 j (by omega)
  have hC5 := hC4.keep l5 fun j hj => o5 j (by omega)
  have rF5 := rF.keep l5 fun j _ hj => o5 j hj
  have f20 := fun K => left20 (a := ⟨n5, h5, a.next, []⟩) hC5 (by omega) K
  have f15 := fun K => pages15 (a := ⟨n5, h5, a.next, []⟩) hC5 K
  simp -dsimp (maxSteps := 4000000) (disch := first | omega | assumption | (simp only [FB, Nat.reduceAdd]; done) | (simp only [LB]; omega)) only [EB, ↓reduceIte, WB, Nat.reduceSub, Nat.reduceAdd, Int.reduceEq, Int.reduceNe, Int.reduceLT, Int.reduceLE, Int.reduceAdd, Int.reduceSub, Int.reduceMul, Int.reduceNeg, Int.reduceToNat, Nat.reduceEqDiff, Nat.reduceLT, Nat.reduceLeDiff, Nat.reduceMul, List.replicate, reduceCtorEq, TB, NB, MB, f20, f15, eq_self]
  refine freeK (a := ⟨n5, h5, a.next, []⟩) hC5 (by omega) fun vG n6 h6 rG l6 o6 => ?_
  simp only at rG l6 o6
  have hO6 := hO5.keep l6 fun j hj => o6 j (by omega)
  have hC6 := hC5.keep l6 fun j hj => o6 j (by omega)
  have rF6 := rF5.keep l6 fun j _ hj => o6 j hj
  have rT6 := rT.keep l6 fun j _ hj => o6 j hj
  have hnl : (srtU (s1.now ++ s1.gave)).length ≤ 60000 := by rw [srtU_len, List.length_append]; unfold Al.len at hl1; omega
  have htl : (srtU s1.taken).length ≤ 60000 := by rw [srtU_len]; unfold Al.len at hl1; omega
  have g24 := fun K => same24 (a := ⟨n6, h6, a.next, []⟩) rG.rowR rF6.rowR hnl hnl K
  simp -dsimp (maxSteps := 4000000) (disch := first | omega | assumption | (simp only [FB, Nat.reduceAdd]; done) | (simp only [LB]; omega)) only [EB, ↓reduceIte, WB, Nat.reduceSub, Nat.reduceAdd, Int.reduceEq, Int.reduceNe, Int.reduceLT, Int.reduceLE, Int.reduceAdd, Int.reduceSub, Int.reduceMul, Int.reduceNeg, Int.reduceToNat, Nat.reduceEqDiff, Nat.reduceLT, Nat.reduceLeDiff, Nat.reduceMul, List.replicate, reduceCtorEq, TB, NB, MB, g24, eq_self, decide_true]
  refine takenK (a := ⟨n6, h6, a.next, []⟩) hC6 (by omega) fun vU n7 h7 rU l7 o7 => ?_
  simp only at rU l7 o7
  have hO7 := hO6.keep l7 fun j hj => o7 j (by omega)
  have hC7 := hC6.keep l7 fun j hj => o7 j (by omega)
  have rF7 := rF6.keep l7 fun j _ hj => o7 j hj
  have rT7 := rT6.keep l7 fun j _ hj => o7 j hj
  have g24' := fun K => same24 (a := ⟨n7, h7, a.next, []⟩) rU.rowR rT7.rowR htl htl K
  have hlow7 : ∀ j, j < a.next → look j h7 = look j a.heap := fun j hj => by
    rw [o7 j (by omega), o6 j (by omega), o5 j (by omega), o4 j (by omega), hout3 j (by omega), hout2 j (by omega) (by omega) (by omega) (by omega) (by omega)]; exact hlow1 j hj
  simp -dsimp (maxSteps := 4000000) (disch := first | omega | assumption | (simp only [FB, Nat.reduceAdd]; done) | (simp only [LB]; omega)) only [EB, ↓reduceIte, WB, Nat.reduceSub, Nat.reduceAdd, Int.reduceEq, Int.reduceNe, Int.reduceLT, Int.reduceLE, Int.reduceAdd, Int.reduceSub, Int.reduceMul, Int.reduceNeg, Int.reduceToNat, Nat.reduceEqDiff, Nat.reduceLT, Nat.reduceLeDiff, Nat.reduceMul, List.replicate, reduceCtorEq, TB, NB, MB, e0, e1, e2, g24', eq_self, decide_true]
  refine call26 (a := ⟨n7, h7, a.next, []⟩) (m := a.next) hC7 (by simp only; omega) (v := .slice p2 Y c2) (xs := ys) ⟨p2, c2, by rw [hY], fun hne => by
    obtain ⟨bk, o, sp, rw_, cc, z1, z2, z3, z4⟩ := r2 hne
    exact ⟨bk, o, sp, rw_, cc, z1, z2, (hlow7 bk z1).trans z3, z4⟩⟩ (by omega) (by omega) _ fun a8 b8 ha8 => ?_
  obtain ⟨n8, h8, rfl, hC8, l8, k8, k8', o8⟩ := ha8.own hC7 rfl (by simp only; omega) ⟨by simp only; omega, by simp only; omega, by simp only; omega, by simp only; omega⟩
  simp only at l8 k8 k8' o8
  obtain ⟨s2, hs2⟩ : ∃ s2, s2 = ys.foldl stepS s1 := ⟨_, rfl⟩
  rw [← hs2] at hC8
  have hl2 : s2.len ≤ 400 := by
    have := run_len s1 ys
    rw [← hs2] at this
    omega
  have hO8 := hO7.keep l8 fun j hj => o8 j (by omega) (by omega) (by omega) (by omega) (by omega)
  have rF8 := rF7.keep l8 fun j y1 y2 => o8 j (by omega) (by omega) (by omega) (by omega) (by omega)
  have rT8 := rT7.keep l8 fun j y1 y2 => o8 j (by omega) (by omega) (by omega) (by omega) (by omega)
  have q20 := fun K => left20 (a := ⟨n8, h8, a.next, []⟩) hO8 (by omega) K
  have q15 := fun K => pages15 (a := ⟨n8, h8, a.next, []⟩) hO8 K
  simp -dsimp (maxSteps := 4000000) (disch := first | omega | assumption | (simp only [FB, Nat.reduceAdd]; done) | (simp only [LB]; omega)) only [EB, ↓reduceIte, WB, Nat.reduceSub, Nat.reduceAdd, Int.reduceEq, Int.reduceNe, Int.reduceLT, Int.reduceLE, Int.reduceAdd, Int.reduceSub, Int.reduceMul, Int.reduceNeg, Int.reduceToNat, Nat.reduceEqDiff, Nat.reduceLT, Nat.reduceLeDiff, Nat.reduceMul, List.replicate, reduceCtorEq, TB, NB, MB, q20, q15, eq_self]
  refine freeK (a := ⟨n8, h8, a.next, []⟩) hO8 (by omega) fun vH n9 h9 rH l9 o9 => ?_
  simp only at rH l9 o9
  have hO9 := hO8.keep l9 fun j hj => o9 j (by have := hO8.lt; omega)
  have hC9 := hC8.keep l9 fun j hj => o9 j (by have := hC8.lt; omega)
  have rF9 := rF8.keep l9 fun j _ hj => o9 j hj
  have rT9 := rT8.keep l9 fun j _ hj => o9 j hj
  have q24 := fun K => same24 (a := ⟨n9, h9, a.next, []⟩) rH.rowR rF9.rowR hnl hnl K
  simp -dsimp (maxSteps := 4000000) (disch := first | omega | assumption | (simp only [FB, Nat.reduceAdd]; done) | (simp only [LB]; omega)) only [EB, ↓reduceIte, WB, Nat.reduceSub, Nat.reduceAdd, Int.reduceEq, Int.reduceNe, Int.reduceLT, Int.reduceLE, Int.reduceAdd, Int.reduceSub, Int.reduceMul, Int.reduceNeg, Int.reduceToNat, Nat.reduceEqDiff, Nat.reduceLT, Nat.reduceLeDiff, Nat.reduceMul, List.replicate, reduceCtorEq, TB, NB, MB, q24, eq_self, decide_true]
  refine takenK (a := ⟨n9, h9, a.next, []⟩) hO9 (by omega) fun vI n10 h10 rI l10 o10 => ?_
  simp only at rI l10 o10
  have hO10 := hO9.keep l10 fun j hj => o10 j (by have := hO9.lt; omega)
  have hC10 := hC9.keep l10 fun j hj => o10 j (by have := hC9.lt; omega)
  have rT10 := rT9.keep l10 fun j _ hj => o10 j hj
  have q24' := fun K => same24 (a := ⟨n10, h10, a.next, []⟩) rI.rowR rT10.rowR htl htl K
  have hlow10 : ∀ j, j < a.next → look j h10 = look j a.heap := fun j hj => by
    rw [o10 j (by omega), o9 j (by omega), o8 j (by omega) (by omega) (by omega) (by omega) (by omega)]; exact hlow7 j hj
  simp -dsimp (maxSteps := 4000000) (disch := first | omega | assumption | (simp only [FB, Nat.reduceAdd]; done) | (simp only [LB]; omega)) only [EB, ↓reduceIte, WB, Nat.reduceSub, Nat.reduceAdd, Int.reduceEq, Int.reduceNe, Int.reduceLT, Int.reduceLE, Int.reduceAdd, Int.reduceSub, Int.reduceMul, Int.reduceNeg, Int.reduceToNat, Nat.reduceEqDiff, Nat.reduceLT, Nat.reduceLeDiff, Nat.reduceMul, List.replicate, reduceCtorEq, TB, NB, MB, e0, e1, e2, q24', eq_self, decide_true]
  refine call26 (a := ⟨n10, h10, a.next, []⟩) (m := a.next) hO10 (by simp only; omega) (v := .slice p2 Y c2) (xs := ys) ⟨p2, c2, by rw [hY], fun hne => by
    obtain ⟨bk, o, sp, rw_, cc, z1, z2, z3, z4⟩ := r2 hne
    exact ⟨bk, o, sp, rw_, cc, z1, z2, (hlow10 bk z1).trans z3, z4⟩⟩ (by omega) (by omega) _ fun a11 b11 ha11 => ?_
  obtain ⟨n11, h11, rfl, hO11, l11, k11, k11', o11⟩ := ha11.own hO10 rfl (by simp only; omega) ⟨by simp only; omega, by simp only; omega, by simp only; omega, by simp only; omega⟩
  simp only at l11 k11 k11' o11
  rw [← hs2] at hO11
  have hC11 := hC10.keep l11 fun j hj => o11 j (by have := hC10.lt; omega) (by omega) (by omega) (by omega) (by omega)
  have u20 := fun K => left20 (a := ⟨n11, h11, a.next, []⟩) hO11 (by omega) K
  have u20' := fun K => left20 (a := ⟨n11, h11, a.next, []⟩) hC11 (by omega) K
  have u15 := fun K => pages15 (a := ⟨n11, h11, a.next, []⟩) hO11 K
  have u15' := fun K => pages15 (a := ⟨n11, h11, a.next, []⟩) hC11 K
  simp -dsimp (maxSteps := 4000000) (disch := first | omega | assumption | (simp only [FB, Nat.reduceAdd]; done) | (simp only [LB]; omega)) only [EB, ↓reduceIte, WB, Nat.reduceSub, Nat.reduceAdd, Int.reduceEq, Int.reduceNe, Int.reduceLT, Int.reduceLE, Int.reduceAdd, Int.reduceSub, Int.reduceMul, Int.reduceNeg, Int.reduceToNat, Nat.reduceEqDiff, Nat.reduceLT, Nat.reduceLeDiff, Nat.reduceMul, List.replicate, reduceCtorEq, TB, NB, MB, u20, u20', u15, u15', eq_self]
  have hnl2 : (srtU (s2.now ++ s2.gave)).length ≤ 60000 := by rw [srtU_len, List.length_append]; unfold Al.len at hl2; omega
  have htl2 : (srtU s2.taken).length ≤ 60000 := by rw [srtU_len]; unfold Al.len at hl2; omega
  refine freeK (a := ⟨n11, h11, a.next, []⟩) hO11 (by omega) fun w1 n12 h12 p1 l12 o12 => ?_
  simp only at p1 l12 o12
  have hO12 := hO11.keep l12 fun j hj => o12 j (by have := hO11.lt; omega)
  have hC12 := hC11.keep l12 fun j hj => o12 j (by have := hC11.lt; omega)
  simp -dsimp (maxSteps := 4000000) (disch := first | omega | assumption | (simp only [FB, Nat.reduceAdd]; done) | (simp only [LB]; omega)) only [EB, ↓reduceIte, WB, Nat.reduceSub, Nat.reduceAdd, Int.reduceEq, Int.reduceNe, Int.reduceLT, Int.reduceLE, Int.reduceAdd, Int.reduceSub, Int.reduceMul, Int.reduceNeg, Int.reduceToNat, Nat.reduceEqDiff, Nat.reduceLT, Nat.reduceLeDiff, Nat.reduceMul, List.replicate, reduceCtorEq, TB, NB, MB, ]
  refine freeK (a := ⟨n12, h12, a.next, []⟩) hC12 (by omega) fun w2 n13 h13 p2' l13 o13 => ?_
  simp only at p2' l13 o13
  have hO13 := hO12.keep l13 fun j hj => o13 j (by have := hO12.lt; omega)
  have hC13 := hC12.keep l13 fun j hj => o13 j (by have := hC12.lt; omega)
  have p13 := p1.keep l13 fun j _ hj => o13 j hj
  have v24 := fun K => same24 (a := ⟨n13, h13, a.next, []⟩) p13.rowR p2'.rowR hnl2 hnl2 K
  simp -dsimp (maxSteps := 4000000) (disch := first | omega | assumption | (simp only [FB, Nat.reduceAdd]; done) | (simp only [LB]; omega)) only [EB, ↓reduceIte, WB, Nat.reduceSub, Nat.reduceAdd, Int.reduceEq, Int.reduceNe, Int.reduceLT, Int.reduceLE, Int.reduceAdd, Int.reduceSub, Int.reduceMul, Int.reduceNeg, Int.reduceToNat, Nat.reduceEqDiff, Nat.reduceLT, Nat.reduceLeDiff, Nat.reduceMul, List.replicate, reduceCtorEq, TB, NB, MB, v24, eq_self, decide_true]
  refine takenK (a := ⟨n13, h13, a.next, []⟩) hO13 (by omega) fun w3 n14 h14 p3 l14 o14 => ?_
  simp only at p3 l14 o14
  have hC14 := hC13.keep l14 fun j hj => o14 j (by have := hC13.lt; omega)
  simp -dsimp (maxSteps := 4000000) (disch := first | omega | assumption | (simp only [FB, Nat.reduceAdd]; done) | (simp only [LB]; omega)) only [EB, ↓reduceIte, WB, Nat.reduceSub, Nat.reduceAdd, Int.reduceEq, Int.reduceNe, Int.reduceLT, Int.reduceLE, Int.reduceAdd, Int.reduceSub, Int.reduceMul, Int.reduceNeg, Int.reduceToNat, Nat.reduceEqDiff, Nat.reduceLT, Nat.reduceLeDiff, Nat.reduceMul, List.replicate, reduceCtorEq, TB, NB, MB, ]
  refine takenK (a := ⟨n14, h14, a.next, []⟩) hC14 (by omega) fun w4 n15 h15 p4 l15 o15 => ?_
  simp only at p4 l15 o15
  have p15 := p3.keep l15 fun j _ hj => o15 j hj
  have v24' := fun K => same24 (a := ⟨n15, h15, a.next, []⟩) p15.rowR p4.rowR htl2 htl2 K
  simp -dsimp (maxSteps := 4000000) (disch := first | omega | assumption | (simp only [FB, Nat.reduceAdd]; done) | (simp only [LB]; omega)) only [EB, ↓reduceIte, WB, Nat.reduceSub, Nat.reduceAdd, Int.reduceEq, Int.reduceNe, Int.reduceLT, Int.reduceLE, Int.reduceAdd, Int.reduceSub, Int.reduceMul, Int.reduceNeg, Int.reduceToNat, Nat.reduceEqDiff, Nat.reduceLT, Nat.reduceLeDiff, Nat.reduceMul, List.replicate, reduceCtorEq, TB, NB, MB, v24', eq_self, decide_true]
end Go.Proofs.YtlbmjpmonaekgaaAM
