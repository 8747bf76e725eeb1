/- Chapter 14: AllocNext. -/
import Derived.Test.YtlbmjpmonaekgaaW3
namespace Go.Proofs.YtlbmjpmonaekgaaAM
open Go Go.RowKit
set_option linter.unusedVariables false
set_option linter.unusedSimpArgs false
set_option maxRecDepth 10000
set_option maxHeartbeats 4000000

theorem law6 (v0 v1 v2 : Value) (bs : List Bool) (xs ys : List Int) (a : AW) (h0 : RowG evB a.heap a.next v0 bs) (h1 : RowG ev64 a.heap a.next v1 xs) (h2 : RowG ev64 a.heap a.next v2 ys) :
    WCall Try.prog GE 6 [v0, v1, v2] a fun r _ => r = .bool true := by
  rw [call_env Try.func6 rfl Try.ntmps6 rfl rfl (by simp)]
  obtain ⟨p0, c0, rfl, r0⟩ := h0
  obtain ⟨p1, c1, rfl, r1⟩ := h1
  obtain ⟨p2, c2, rfl, r2⟩ := h2
  obtain ⟨B, hB⟩ : ∃ B, B = bs.length := ⟨_, rfl⟩
  obtain ⟨X, hX⟩ : ∃ X, X = xs.length := ⟨_, rfl⟩
  obtain ⟨Y, hY⟩ : ∃ Y, Y = ys.length := ⟨_, rfl⟩
  rw [← hB, ← hX, ← hY]
  by_cases b1 : (30 : Int) < B
  · simp -dsimp (maxSteps := 4000000) (disch := first | omega | assumption | (simp only [FB, Nat.reduceAdd]; done) | (simp only [LB]; omega)) only [EB, ↓reduceIte, WB, Nat.reduceSub, Nat.reduceAdd, Int.reduceEq, Int.reduceNe, Int.reduceLT, Int.reduceLE, Int.reduceAdd, Int.reduceSub, Int.reduceMul, Int.reduceNeg, Int.reduceToNat, Nat.reduceEqDiff, Nat.reduceLT, Nat.reduceLeDiff, Nat.reduceMul, List.replicate, reduceCtorEq, TB, NB, MB, lives9, b1]
  by_cases b2 : (60 : Int) < X
  · simp -dsimp (maxSteps := 4000000) (disch := first | omega | assumption | (simp only [FB, Nat.reduceAdd]; done) | (simp only [LB]; omega)) only [EB, ↓reduceIte, WB, Nat.reduceSub, Nat.reduceAdd, Int.reduceEq, Int.reduceNe, Int.reduceLT, Int.reduceLE, Int.reduceAdd, Int.reduceSub, Int.reduceMul, Int.reduceNeg, Int.reduceToNat, Nat.reduceEqDiff, Nat.reduceLT, Nat.reduceLeDiff, Nat.reduceMul, List.replicate, reduceCtorEq, TB, NB, MB, lives9, b1, b2]
  by_cases b3 : (60 : Int) < Y
  · simp -dsimp (maxSteps := 4000000) (disch := first | omega | assumption | (simp only [FB, Nat.reduceAdd]; done) | (simp only [LB]; omega)) only [EB, ↓reduceIte, WB, Nat.reduceSub, Nat.reduceAdd, Int.reduceEq, Int.reduceNe, Int.reduceLT, Int.reduceLE, Int.reduceAdd, Int.reduceSub, Int.reduceMul, Int.reduceNeg, Int.reduceToNat, Nat.reduceEqDiff, Nat.reduceLT, Nat.reduceLeDiff, Nat.reduceMul, List.replicate, reduceCtorEq, TB, NB, MB, lives9, b1, b2, b3]
  simp -dsimp (maxSteps := 4000000) (disch := first | omega | assumption | (simp only [FB, Nat.reduceAdd]; done) | (simp only [LB]; omega)) only [EB, ↓reduceIte, WB, Nat.reduceSub, Nat.reduceAdd, Int.reduceEq, Int.reduceNe, Int.reduceLT, Int.reduceLE, Int.reduceAdd, Int.reduceSub, Int.reduceMul, Int.reduceNeg, Int.reduceToNat, Nat.reduceEqDiff, Nat.reduceLT, Nat.reduceLeDiff, Nat.reduceMul, List.replicate, reduceCtorEq, TB, NB, MB, lives9, b1, b2, b3]
  refine loop_inv (fun k t w => ∃ (i n : Nat) (h : List (Nat × Blk)) (v : Value), ∃ e, k = B - i ∧ i ≤ B ∧ a.next ≤ n ∧ w = ⟨n, h, a.next, []⟩ ∧ OutG encN 2 h n a.next v (freesB (bs.take i) 0) ∧ (∀ j, j < a.next → look j h = look j a.heap) ∧ t = TT 140 e ∧ e 0 = .slice p0 B c0 ∧ e 1 = .slice p1 X c1 ∧ e 2 = .slice p2 Y c2 ∧ e 7 = v ∧ e 8 = .int .i64 i)
    ⟨0, a.next, a.heap, _, _, rfl, Nat.zero_le _, Nat.le_refl _, rfl, .inl ⟨rfl, rfl⟩, fun _ _ => rfl, rfl, rfl, rfl, rfl, rfl, rfl⟩ ?_
  rintro k t w ⟨i, n, h, v, e, rfl, hi, hn, rfl, ho, hout, rfl, e0, e1, e2, e7, e8⟩
  by_cases hin : i < B
  · have hml : i < bs.length := by omega
    obtain ⟨bk, o, sp, rw_, cc, hbn, rfl, hbk, hat⟩ := r0 (by intro e; rw [e] at hB; simp at hB; omega)
    have hc : cc[o + i]? = some (.bool bs[i]) := hat _ hml
    have hbk2 := (hout bk hbn).trans hbk
    have htk : bs.take (i + 1) = bs.take i ++ [bs[i]] := by rw [List.take_add_one, List.getElem?_eq_getElem hml]; rfl
    have hti : (bs.take i).length = i := by rw [List.length_take]; omega
    have hfr := frees_app (bs.take i) bs[i] 0
    rw [hti, Nat.zero_add] at hfr
    cases hx : bs[i] with
    | true =>
      rw [hx, if_pos rfl] at hfr
      have hw1 := wrapu32 (n := (i : Int)) (by omega) (by omega)
      have hw2 := wrapu32 (n := ((i + 2 : Nat) : Int)) (by omega) (by omega)
      have hi2 : (i : Int) + 2 = ((i + 2 : Nat) : Int) := by omega
      obtain ⟨up, uc, rfl⟩ := ho.shape
      have hfl := frees_len (bs.take i) 0
      rw [hti] at hfl
      have ho2 : OutG encN 2 ((n, Blk.cells [Value.int .u32 ((i + 2 : Nat) : Int)] true) :: h) (n + 1) a.next (.slice up (freesB (bs.take i) 0).length uc) (freesB (bs.take i) 0) := ho.keep (by omega) fun j h1 h2 => look_miss (by omega)
      obtain ⟨v', h2, d2, q1, q2, q3, q4⟩ := app_one (E := Try.prog) (bs := a.next) (d := []) (q := ⟨n, 0, some 0⟩) (cq := 1) (x := ((i + 2 : Nat) : Int)) app25 rfl encN_len encN_one ho2 (by omega) (by rw [look_self]; rfl) (by omega)
      have hd2 : d2 = [] := by
        rcases q4 with h | ⟨b, hb1, hb2, _, _⟩
        · exact h
        · omega
      subst hd2
      simp -dsimp (maxSteps := 4000000) (disch := first | omega | assumption | (simp only [FB, Nat.reduceAdd]; done) | (simp only [LB]; omega)) only [EB, ↓reduceIte, WB, Nat.reduceSub, Nat.reduceAdd, Int.reduceEq, Int.reduceNe, Int.reduceLT, Int.reduceLE, Int.reduceAdd, Int.reduceSub, Int.reduceMul, Int.reduceNeg, Int.reduceToNat, Nat.reduceEqDiff, Nat.reduceLT, Nat.reduceLeDiff, Nat.reduceMul, List.replicate, reduceCtorEq, TB, NB, MB, e0, e1, e2, e7, e8, show (i : Int) < B by omega, indexAddr_slice und22 size4, load_one agg4, hbk2, hc, hx, op_conv_int und3 und27, conv_int und3 und27, hw1, hw2, hi2, buildSl1 sl25, q1, wrap64]
      refine ⟨trivial, B - (i + 1), by omega, i + 1, n + 2, h2, v', _, rfl, by omega, by omega, rfl, by rw [htk, hx, hfr]; exact q2, fun j hj => ?_, rfl, ?_⟩
      · rw [q3 j hj, look_miss (by omega)]; exact hout j hj
      · simp only [ups_at, ↓reduceIte, Nat.reduceEqDiff]
        exact ⟨e0, e1, e2, (by first | trivial | rfl | omega), (by first | trivial | rfl | omega)⟩
    | false =>
      rw [hx] at hfr
      simp only [Bool.false_eq_true, if_false, List.append_nil] at hfr
      simp -dsimp (maxSteps := 4000000) (disch := first | omega | assumption | (simp only [FB, Nat.reduceAdd]; done) | (simp only [LB]; omega)) only [EB, ↓reduceIte, WB, Nat.reduceSub, Nat.reduceAdd, Int.reduceEq, Int.reduceNe, Int.reduceLT, Int.reduceLE, Int.reduceAdd, Int.reduceSub, Int.reduceMul, Int.reduceNeg, Int.reduceToNat, Nat.reduceEqDiff, Nat.reduceLT, Nat.reduceLeDiff, Nat.reduceMul, List.replicate, reduceCtorEq, TB, NB, MB, e0, e1, e2, e7, e8, show (i : Int) < B by omega, indexAddr_slice und22 size4, load_one agg4, hbk2, hc, hx, wrap64]
      refine ⟨trivial, B - (i + 1), by omega, i + 1, n, h, v, _, rfl, by omega, hn, rfl, by rw [htk, hx, hfr]; exact ho, hout, rfl, ?_⟩
      simp only [ups_at, ↓reduceIte, Nat.reduceEqDiff]
      exact ⟨e0, e1, e2, e7, (by first | trivial | rfl | omega)⟩
  obtain rfl : i = B := by omega
  have htk : bs.take i = bs := by rw [hB]; exact List.take_length
  rw [htk] at ho
  have hbl : (freesB bs 0).length ≤ 30 := by have := frees_len bs 0; omega
  have hrv : RV encN 1 h n v (freesB bs 0) := by
    rcases ho with ⟨rfl, h⟩ | ⟨b, rfl, hne, hb', hl1, hl2⟩
    · exact .inl ⟨rfl, h⟩
    · exact .inr ⟨b, 0, some 2, _, _, _, rfl, hb', hl2, by simp [encN_map], by rw [List.drop_zero, Nat.mul_one, List.take_of_length_le (by simp [encN_map])], .inr (.inr rfl), Nat.le_refl _⟩
  have hw1 := wrapu32 (n := (i : Int)) (by omega) (by omega)
  have hw2 := wrapu32 (n := (i : Int) + 2) (by omega) (by omega)
  simp -dsimp (maxSteps := 4000000) (disch := first | omega | assumption | (simp only [FB, Nat.reduceAdd]; done) | (simp only [LB]; omega)) only [EB, ↓reduceIte, WB, Nat.reduceSub, Nat.reduceAdd, Int.reduceEq, Int.reduceNe, Int.reduceLT, Int.reduceLE, Int.reduceAdd, Int.reduceSub, Int.reduceMul, Int.reduceNeg, Int.reduceToNat, Nat.reduceEqDiff, Nat.reduceLT, Nat.reduceLeDiff, Nat.reduceMul, List.replicate, reduceCtorEq, TB, NB, MB, e0, e1, e2, e7, e8, Int.lt_irrefl, op_conv_int und3 und27, conv_int und3 und27, hw1, hw2]
  refine new10 v (freesB bs 0) (by omega) _ _ ⟨n, h, a.next, []⟩ hrv _ (fun hno => ?_) (fun _ p t g b h1 n1 hA k1 k2 k3 k4 hout1 => ?_)
  · have hok := frees_ok bs 60 (by omega) (by omega)
    rw [← hB] at hok
    rw [hok] at hno
    cases hno
  simp only at k1 k2 k3 k4 hout1
  have hlt1 := hA.lt
  have hlow1 : ∀ j, j < a.next → look j h1 = look j a.heap := fun j hj => (hout1 j (by omega)).trans (hout j hj)
  simp -dsimp (maxSteps := 4000000) (disch := first | omega | assumption | (simp only [FB, Nat.reduceAdd]; done) | (simp only [LB]; omega)) only [EB, ↓reduceIte, WB, Nat.reduceSub, Nat.reduceAdd, Int.reduceEq, Int.reduceNe, Int.reduceLT, Int.reduceLE, Int.reduceAdd, Int.reduceSub, Int.reduceMul, Int.reduceNeg, Int.reduceToNat, Nat.reduceEqDiff, Nat.reduceLT, Nat.reduceLeDiff, Nat.reduceMul, List.replicate, reduceCtorEq, TB, NB, MB, e0, e1, e2]
  refine call26 (a := ⟨n1, h1, a.next, []⟩) (m := a.next) hA (by simp only; omega) (v := .slice p1 X c1) (xs := xs) ⟨p1, c1, by rw [hX], fun hne => by
    obtain ⟨bk, o, sp, rw_, cc, z1, z2, z3, z4⟩ := r1 hne
    exact ⟨bk, o, sp, rw_, cc, z1, z2, (hlow1 bk z1).trans z3, z4⟩⟩ (by omega) (by simp only [Al.len, List.length_nil]; omega) _ fun a2 b2 ha2 => ?_
  obtain ⟨n2, h2, rfl, hA2, l2, k5, k6, hout2⟩ := ha2.own hA rfl (by simp only; omega) ⟨by simp only; omega, by simp only; omega, by simp only; omega, by simp only; omega⟩
  simp only at l2 k5 k6 hout2
  obtain ⟨s1, hs1⟩ : ∃ s1, s1 = xs.foldl stepS ⟨freesB bs 0, [], [], (i : Int) + 2, 60⟩ := ⟨_, rfl⟩
  rw [← hs1] at hA2
  have hl1 : s1.len ≤ 200 := by
    have := run_len ⟨freesB bs 0, [], [], (i : Int) + 2, 60⟩ xs
    rw [← hs1] at this
    simp only [Al.len, List.length_nil] at this ⊢
    omega
  have hlt2 := hA2.lt
  have hm1 : s1.most = 60 := by rw [hs1, run_most]
  have hgn1 : s1.gave.Nodup := hA2.gv.2
  have e15 := fun (n h) (hA : AllocIs h n p t g b2 s1) K => pages15 (a := ⟨n, h, a.next, []⟩) hA K
  simp -dsimp (maxSteps := 4000000) (disch := first | omega | assumption | (simp only [FB, Nat.reduceAdd]; done) | (simp only [LB]; omega)) only [EB, ↓reduceIte, WB, Nat.reduceSub, Nat.reduceAdd, Int.reduceEq, Int.reduceNe, Int.reduceLT, Int.reduceLE, Int.reduceAdd, Int.reduceSub, Int.reduceMul, Int.reduceNeg, Int.reduceToNat, Nat.reduceEqDiff, Nat.reduceLT, Nat.reduceLeDiff, Nat.reduceMul, List.replicate, reduceCtorEq, TB, NB, MB, e0, e1, e2]
  refine freeK (a := ⟨n2, h2, a.next, []⟩) hA2 (by omega) fun vF n3 h3 rF l3 o3 => ?_
  simp only at rF l3 o3
  have hO3 := hA2.keep l3 fun j hj => o3 j (by omega)
  have e15 := fun K => pages15 (a := ⟨n3, h3, a.next, []⟩) hO3 K
  simp -dsimp (maxSteps := 4000000) (disch := first | omega | assumption | (simp only [FB, Nat.reduceAdd]; done) | (simp only [LB]; omega)) only [EB, ↓reduceIte, WB, Nat.reduceSub, Nat.reduceAdd, Int.reduceEq, Int.reduceNe, Int.reduceLT, Int.reduceLE, Int.reduceAdd, Int.reduceSub, Int.reduceMul, Int.reduceNeg, Int.reduceToNat, Nat.reduceEqDiff, Nat.reduceLT, Nat.reduceLeDiff, Nat.reduceMul, List.replicate, reduceCtorEq, TB, NB, MB, e15]
  have hnl : (srtU (s1.now ++ s1.gave)).length ≤ 60000 := by rw [srtU_len, List.length_append]; unfold Al.len at hl1; omega
  have hfm1 := hA2.wf.fm
  refine new10 vF (srtU (s1.now ++ s1.gave)) hnl s1.first 60 ⟨n3, h3, a.next, []⟩ rF.rv _ (fun hno => ?_) (fun _ p' t' g' b' h4 n4 hC4 q1 q2 q3 q4 o4 => ?_)
  · rw [newOk_free hA2.wf hgn1 60 (by omega) (by omega)] at hno
    cases hno
  simp only at q1 q2 q3 q4 o4
  have hlt3 := hO3.lt
  have hlt4 := hC4.lt
  have hO4 : AllocIs h4 n4 p t g b2 s1 := hO3.keep (by omega) fun j hj => o4 j (by omega)
  have rF4 := rF.keep (n' := n4) (by omega) fun j _ hj => o4 j hj
  have f15 := fun K => pages15 (a := ⟨n4, h4, a.next, []⟩) hO4 K
  have f15' := fun K => pages15 (a := ⟨n4, h4, a.next, []⟩) hC4 K
  simp -dsimp (maxSteps := 4000000) (disch := first | omega | assumption | (simp only [FB, Nat.reduceAdd]; done) | (simp only [LB]; omega)) only [EB, ↓reduceIte, WB, Nat.reduceSub, Nat.reduceAdd, Int.reduceEq, Int.reduceNe, Int.reduceLT, Int.reduceLE, Int.reduceAdd, Int.reduceSub, Int.reduceMul, Int.reduceNeg, Int.reduceToNat, Nat.reduceEqDiff, Nat.reduceLT, Nat.reduceLeDiff, Nat.reduceMul, List.replicate, reduceCtorEq, TB, NB, MB, f15, f15', eq_self]
  have hlC : Al.len ⟨srtU (s1.now ++ s1.gave), [], [], s1.first, 60⟩ ≤ 200 := by
    simp only [Al.len, List.length_nil, srtU_len, List.length_append] at hl1 ⊢; omega
  refine takenK (a := ⟨n4, h4, a.next, []⟩) hC4 (by omega) fun vT n5 h5 rT l5 o5 => ?_
  simp only at rT l5 o5
  have hO5 := hO4.keep l5 fun j hj => o5 j (by omega)
  have hC5 := hC4.keep l5 fun j hj => o5 j (by omega)
  obtain ⟨pt, ct, rfl, -⟩ := rT.rowR
  have hz : (srtU ([] : List Int)).length = 0 := by rw [srtU_len]; rfl
  simp -dsimp (maxSteps := 4000000) (disch := first | omega | assumption | (simp only [FB, Nat.reduceAdd]; done) | (simp only [LB]; omega)) only [EB, ↓reduceIte, WB, Nat.reduceSub, Nat.reduceAdd, Int.reduceEq, Int.reduceNe, Int.reduceLT, Int.reduceLE, Int.reduceAdd, Int.reduceSub, Int.reduceMul, Int.reduceNeg, Int.reduceToNat, Nat.reduceEqDiff, Nat.reduceLT, Nat.reduceLeDiff, Nat.reduceMul, List.replicate, reduceCtorEq, TB, NB, MB, hz, Int.natCast_zero, eq_self]
  refine freeK (a := ⟨n5, h5, a.next, []⟩) hC5 (by omega) fun vG n6 h6 rG l6 o6 => ?_
  simp only [List.append_nil, srtU_twice] at rG l6 o6
  have hO6 := hO5.keep l6 fun j hj => o6 j (by omega)
  have hC6 := hC5.keep l6 fun j hj => o6 j (by omega)
  simp -dsimp (maxSteps := 4000000) (disch := first | omega | assumption | (simp only [FB, Nat.reduceAdd]; done) | (simp only [LB]; omega)) only [EB, ↓reduceIte, WB, Nat.reduceSub, Nat.reduceAdd, Int.reduceEq, Int.reduceNe, Int.reduceLT, Int.reduceLE, Int.reduceAdd, Int.reduceSub, Int.reduceMul, Int.reduceNeg, Int.reduceToNat, Nat.reduceEqDiff, Nat.reduceLT, Nat.reduceLeDiff, Nat.reduceMul, List.replicate, reduceCtorEq, TB, NB, MB, ]
  refine freeK (a := ⟨n6, h6, a.next, []⟩) hO6 (by omega) fun vH n7 h7 rH l7 o7 => ?_
  simp only at rH l7 o7
  have hO7 := hO6.keep l7 fun j hj => o7 j (by omega)
  have hC7 := hC6.keep l7 fun j hj => o7 j (by omega)
  have rG7 := rG.keep l7 fun j _ hj => o7 j hj
  have g24 := fun K => same24 (a := ⟨n7, h7, a.next, []⟩) rG7.rowR rH.rowR hnl hnl K
  have f20 := fun K => left20 (a := ⟨n7, h7, a.next, []⟩) hO7 (by omega) K
  have f20' := fun K => left20 (a := ⟨n7, h7, a.next, []⟩) hC7 (by omega) K
  have hlC2 : ¬ (((srtU (s1.now ++ s1.gave)).length : Int) + (60 - s1.first) < (s1.now.length : Int) + (60 - s1.first)) := by
    rw [srtU_len, List.length_append]; omega
  rw [hm1] at f20
  simp -dsimp (maxSteps := 4000000) (disch := first | omega | assumption | (simp only [FB, Nat.reduceAdd]; done) | (simp only [LB]; omega)) only [EB, ↓reduceIte, WB, Nat.reduceSub, Nat.reduceAdd, Int.reduceEq, Int.reduceNe, Int.reduceLT, Int.reduceLE, Int.reduceAdd, Int.reduceSub, Int.reduceMul, Int.reduceNeg, Int.reduceToNat, Nat.reduceEqDiff, Nat.reduceLT, Nat.reduceLeDiff, Nat.reduceMul, List.replicate, reduceCtorEq, TB, NB, MB, g24, eq_self, decide_true, f20, f20', hlC2]
  refine takenK (a := ⟨n7, h7, a.next, []⟩) hO7 (by omega) fun vT2 n8 h8 rT2 l8 o8 => ?_
  simp only at rT2 l8 o8
  have hC8 := hC7.keep l8 fun j hj => o8 j (by omega)
  have hlow8 : ∀ j, j < a.next → look j h8 = look j a.heap := fun j hj => by
    rw [o8 j (by omega), o7 j (by omega), o6 j (by omega), o5 j (by omega), o4 j (by omega), o3 j (by omega), hout2 j (by omega) (by omega) (by omega) (by omega) (by omega)]; exact hlow1 j hj
  have htl : (srtU s1.taken).length ≤ 60000 := by rw [srtU_len]; unfold Al.len at hl1; omega
  have hTf : ∀ x ∈ srtU s1.taken, x < s1.first := fun x hx => (hA2.wf.rt x (mem_srtU.1 hx)).2
  have hF0 : Fresh (srtU s1.taken) s1.first ⟨srtU (s1.now ++ s1.gave), [], [], s1.first, 60⟩ := by
    refine ⟨fun x hx hm => ?_, Int.le_refl _⟩
    have hm' := mem_srtU.1 hm
    rcases List.mem_append.1 (mem_srtU.1 hx) with hx | hx
    · exact hA2.wf.nt x hx hm'
    · exact hA2.wf.tg x hm' hx
  obtain ⟨pt2, ct2, rfl, -⟩ := rT2.rowR
  obtain ⟨T, hT⟩ : ∃ T, T = (srtU s1.taken).length := ⟨_, rfl⟩
  rw [← hT] at rT2 htl ⊢
  simp -dsimp (maxSteps := 4000000) (disch := first | omega | assumption | (simp only [FB, Nat.reduceAdd]; done) | (simp only [LB]; omega)) only [EB, ↓reduceIte, WB, Nat.reduceSub, Nat.reduceAdd, Int.reduceEq, Int.reduceNe, Int.reduceLT, Int.reduceLE, Int.reduceAdd, Int.reduceSub, Int.reduceMul, Int.reduceNeg, Int.reduceToNat, Nat.reduceEqDiff, Nat.reduceLT, Nat.reduceLeDiff, Nat.reduceMul, List.replicate, reduceCtorEq, TB, NB, MB, ]
  refine loop_inv (fun k t w => ∃ (j n : Nat) (h : List (Nat × Blk)) (b'' : Nat) (s' : Al), ∃ e, k = Y - j ∧ j ≤ Y ∧ n8 ≤ n ∧ w = ⟨n, h, a.next, []⟩ ∧ AllocIs h n p' t' g' b'' s' ∧ Fresh (srtU s1.taken) s1.first s' ∧ (b'' = b' ∨ n8 ≤ b'') ∧ s'.len ≤ 200 + j ∧ (∀ i, i < a.next → look i h = look i a.heap) ∧ RL h n7 n8 (.slice pt2 T ct2) (srtU s1.taken) ∧ t = TT 140 e ∧ e 2 = .slice p2 Y c2 ∧ e 11 = .pointer (some ⟨p', 0, none⟩) ∧ e 13 = .slice pt2 T ct2 ∧ e 14 = .int .i64 j)
    ⟨0, n8, h8, b', _, _, rfl, Nat.zero_le _, Nat.le_refl _, rfl, hC8, hF0, .inl rfl, by omega, hlow8, rT2, rfl, ?_⟩ ?_
  · simp only [ups_at, ↓reduceIte, Nat.reduceEqDiff]
    exact ⟨e2, (by first | trivial | rfl | omega), (by first | trivial | rfl | omega), (by first | trivial | rfl | omega)⟩
  rintro k t w ⟨j, n, h, b'', s', e, rfl, hj, hn8, rfl, hC, hF, hbb, hls, hlow, rT, rfl, e2, e11, e13, e14⟩
  by_cases hjY : j < Y
  · have hml : j < ys.length := by omega
    obtain ⟨bk, o, sp, rw_, cc, hbn, rfl, hbk, hat⟩ := r2 (by intro e; rw [e] at hY; simp at hY; omega)
    have hc : cc[o + j]? = some (.int .i64 ys[j]) := hat _ hml
    have hbk2 := (hlow bk hbn).trans hbk
    by_cases hge : 0 ≤ ys[j]
    · simp -dsimp (maxSteps := 4000000) (disch := first | omega | assumption | (simp only [FB, Nat.reduceAdd]; done) | (simp only [LB]; omega)) only [EB, ↓reduceIte, WB, Nat.reduceSub, Nat.reduceAdd, Int.reduceEq, Int.reduceNe, Int.reduceLT, Int.reduceLE, Int.reduceAdd, Int.reduceSub, Int.reduceMul, Int.reduceNeg, Int.reduceToNat, Nat.reduceEqDiff, Nat.reduceLT, Nat.reduceLeDiff, Nat.reduceMul, List.replicate, reduceCtorEq, TB, NB, MB, e2, e11, e13, e14, show (j : Int) < Y by omega, indexAddr_slice und23 size2, load_one agg2, hbk2, hc, hge, wrap64]
      refine ⟨trivial, Y - (j + 1), by omega, j + 1, n, h, b'', s', _, rfl, by omega, hn8, rfl, hC, hF, hbb, by omega, hlow, rT, rfl, ?_⟩
      simp only [ups_at, ↓reduceIte, Nat.reduceEqDiff]
      exact ⟨e2, e11, e13, (by first | trivial | rfl | omega)⟩
    · simp -dsimp (maxSteps := 4000000) (disch := first | omega | assumption | (simp only [FB, Nat.reduceAdd]; done) | (simp only [LB]; omega)) only [EB, ↓reduceIte, WB, Nat.reduceSub, Nat.reduceAdd, Int.reduceEq, Int.reduceNe, Int.reduceLT, Int.reduceLE, Int.reduceAdd, Int.reduceSub, Int.reduceMul, Int.reduceNeg, Int.reduceToNat, Nat.reduceEqDiff, Nat.reduceLT, Nat.reduceLeDiff, Nat.reduceMul, List.replicate, reduceCtorEq, TB, NB, MB, e2, e11, e13, e14, show (j : Int) < Y by omega, indexAddr_slice und23 size2, load_one agg2, hbk2, hc, hge]
      refine take12 (a := ⟨n, h, a.next, []⟩) hC (by omega) _ fun a9 b9 ha9 => ?_
      have hCl := hC.lt
      obtain ⟨n9, h9, rfl, hC9, l9, k9, k9', o9⟩ := ha9.own hC rfl (by simp only; omega) ⟨by simp only; omega, by simp only; omega, by simp only; omega, by simp only; omega⟩
      simp only at l9 k9 k9' o9
      have hlow9 : ∀ i, i < a.next → look i h9 = look i a.heap := fun i hi => by
        rw [o9 i (by omega) (by omega) (by omega) (by omega) (by omega)]; exact hlow i hi
      have rT9 := rT.keep (Nat.le_refl _) fun i y1 y2 => o9 i (by omega) (by omega) (by omega) (by omega) (by omega)
      obtain ⟨hF9, hcase⟩ := hF.take hTf
      have hlt9 := take_len s'
      generalize takeS s' = r at *
      obtain ⟨s9, x9, er9⟩ := r
      simp only at hC9 hF9 hcase hlt9
      rcases hcase with ⟨rfl, hx9⟩ | ⟨rfl, hnow, hfull, rfl⟩
      · simp -dsimp (maxSteps := 4000000) (disch := first | omega | assumption | (simp only [FB, Nat.reduceAdd]; done) | (simp only [LB]; omega)) only [EB, ↓reduceIte, WB, Nat.reduceSub, Nat.reduceAdd, Int.reduceEq, Int.reduceNe, Int.reduceLT, Int.reduceLE, Int.reduceAdd, Int.reduceSub, Int.reduceMul, Int.reduceNeg, Int.reduceToNat, Nat.reduceEqDiff, Nat.reduceLT, Nat.reduceLeDiff, Nat.reduceMul, List.replicate, reduceCtorEq, TB, NB, MB, e2, e11, e13, e14, eq_self]
        obtain ⟨po5, c5, e5, hrow5⟩ := rT9.rowR
        injection e5 with y1 y2 y3
        subst y1
        refine loop_inv (fun k t w => ∃ i : Nat, ∃ e, k = T - i ∧ i ≤ T ∧ w = ⟨n9, h9, a.next, []⟩ ∧ t = TT 140 e ∧ e 2 = .slice (some ⟨bk, o, sp⟩) Y c2 ∧ e 11 = .pointer (some ⟨p', 0, none⟩) ∧ e 13 = .slice pt2 T ct2 ∧ e 14 = .int .i64 j ∧ e 15 = .int .u32 x9 ∧ e 17 = .int .i64 i)
          ⟨0, _, rfl, Nat.zero_le _, rfl, rfl, ?_⟩ ?_
        · simp only [ups_at, ↓reduceIte, Nat.reduceEqDiff]
          exact ⟨e2, e11, e13, e14, (by first | trivial | rfl | omega), (by first | trivial | rfl | omega)⟩
        rintro k t w ⟨i, e', rfl, hi, rfl, rfl, f2, f11, f13, f14, f15, f17⟩
        by_cases hiT : i < T
        · have hml2 : i < (srtU s1.taken).length := by omega
          obtain ⟨bk5, o5', sp5, rw5, cc5, hbn5, rfl, hbk5, hat5⟩ := hrow5 (by intro e; rw [e] at hT; simp at hT; omega)
          have hc5 := hat5 _ hml2
          have hne5 : ¬ (srtU s1.taken)[i] = x9 := fun e => hx9 (e ▸ List.getElem_mem hml2)
          simp -dsimp (maxSteps := 4000000) (disch := first | omega | assumption | (simp only [FB, Nat.reduceAdd]; done) | (simp only [LB]; omega)) only [EB, ↓reduceIte, WB, Nat.reduceSub, Nat.reduceAdd, Int.reduceEq, Int.reduceNe, Int.reduceLT, Int.reduceLE, Int.reduceAdd, Int.reduceSub, Int.reduceMul, Int.reduceNeg, Int.reduceToNat, Nat.reduceEqDiff, Nat.reduceLT, Nat.reduceLeDiff, Nat.reduceMul, List.replicate, reduceCtorEq, TB, NB, MB, f2, f11, f13, f14, f15, f17, show (i : Int) < T by omega, indexAddr_slice und25 size27, load_one agg27, hbk5, hc5, hne5, wrap64]
          refine ⟨trivial, T - (i + 1), by omega, i + 1, _, rfl, by omega, trivial, rfl, ?_⟩
          simp only [ups_at, ↓reduceIte, Nat.reduceEqDiff]
          exact ⟨f2, f11, f13, f14, f15, (by first | trivial | rfl | omega)⟩
        · simp -dsimp (maxSteps := 4000000) (disch := first | omega | assumption | (simp only [FB, Nat.reduceAdd]; done) | (simp only [LB]; omega)) only [EB, ↓reduceIte, WB, Nat.reduceSub, Nat.reduceAdd, Int.reduceEq, Int.reduceNe, Int.reduceLT, Int.reduceLE, Int.reduceAdd, Int.reduceSub, Int.reduceMul, Int.reduceNeg, Int.reduceToNat, Nat.reduceEqDiff, Nat.reduceLT, Nat.reduceLeDiff, Nat.reduceMul, List.replicate, reduceCtorEq, TB, NB, MB, f2, f11, f13, f14, f15, f17, show ¬ (i : Int) < T by omega, wrap64]
          refine ⟨trivial, Y - (j + 1), by omega, j + 1, n9, h9, b9, s9, _, rfl, by omega, by omega, rfl, hC9, hF9, by omega, by omega, hlow9, rT9, rfl, ?_⟩
          simp only [ups_at, ↓reduceIte, Nat.reduceEqDiff]
          exact ⟨f2, f11, f13, (by first | trivial | rfl | omega)⟩
      · have e20 := fun K => left20 (a := ⟨n9, h9, a.next, []⟩) hC9 (by omega) K
        have hval : ((s9.now.length : Int) + (s9.most - s9.first)) = 0 := by
          have := hC9.wf.fm
          rw [hnow]
          simp only [List.length_nil]
          omega
        simp -dsimp (maxSteps := 4000000) (disch := first | omega | assumption | (simp only [FB, Nat.reduceAdd]; done) | (simp only [LB]; omega)) only [EB, ↓reduceIte, WB, Nat.reduceSub, Nat.reduceAdd, Int.reduceEq, Int.reduceNe, Int.reduceLT, Int.reduceLE, Int.reduceAdd, Int.reduceSub, Int.reduceMul, Int.reduceNeg, Int.reduceToNat, Nat.reduceEqDiff, Nat.reduceLT, Nat.reduceLeDiff, Nat.reduceMul, List.replicate, reduceCtorEq, TB, NB, MB, e2, e11, e13, e14, eq_self, e20, hval]
  · simp -dsimp (maxSteps := 4000000) (disch := first | omega | assumption | (simp only [FB, Nat.reduceAdd]; done) | (simp only [LB]; omega)) only [EB, ↓reduceIte, WB, Nat.reduceSub, Nat.reduceAdd, Int.reduceEq, Int.reduceNe, Int.reduceLT, Int.reduceLE, Int.reduceAdd, Int.reduceSub, Int.reduceMul, Int.reduceNeg, Int.reduceToNat, Nat.reduceEqDiff, Nat.reduceLT, Nat.reduceLeDiff, Nat.reduceMul, List.replicate, reduceCtorEq, TB, NB, MB, e2, e11, e13, e14, show ¬ (j : Int) < Y by omega]
end Go.Proofs.YtlbmjpmonaekgaaAM
