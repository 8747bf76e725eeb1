/- Chapter 26: the reference's Merge. -/
import Derived.Test.YtdgpniekpmoadaaM7
namespace Go.Proofs.YtdgpniekpmoadaaAM
open Go Go.RowKit
set_option linter.unusedVariables false
set_option linter.unusedSimpArgs false
set_option maxRecDepth 10000
set_option maxHeartbeats 4000000

theorem hasK_out {A : List Pr} (hn : (A.map (·.key)).Nodup) (k : List UInt8) : hasK (outM A) k = hasK A k := by
  rw [Bool.eq_iff_iff, hasK_iff, hasK_iff, List.mem_map, List.mem_map]
  constructor
  · rintro ⟨y, hy, e⟩; exact ⟨y, (outM_mem hn y).1 hy, e⟩
  · rintro ⟨y, hy, e⟩; exact ⟨y, (outM_mem hn y).2 hy, e⟩
theorem merge21 (v u : Value) (there : List Pr) (l : List Or') (hth : there.length ≤ 1000) (hll : l.length ≤ 1000) (hpg : ∀ o ∈ l, (0 ≤ o.page ∧ o.page ≤ 4294967295) ∧ o.key.length ≤ 100000000) (a : AW) (m : Nat) (hm : m ≤ a.next) (hv : RV encPr 2 a.heap m v there) (hu : RV encO 4 a.heap m u l) (K : Value → AW → Prop)
    (hK : ∀ v' n' h', a.next ≤ n' → RV encPr 2 h' n' v' (outM (keptA there l)) → (∀ j, j < a.next → look j h' = look j a.heap) → K (.tuple #[v', .int .i64 (((keptA there l).length : Int) - (keptT there).length)]) ⟨n', h', a.base, a.dirty⟩) :
    WCall Try.prog GV 21 [v, u] a K := by
  rw [call_env Try.func21 rfl Try.ntmps21 rfl rfl (by simp)]
  obtain ⟨pp, c, rfl⟩ := hv.len
  obtain ⟨po, co, rfl⟩ := hu.len
  simp -dsimp (maxSteps := 4000000) (disch := first | omega | assumption | (simp only [FB, Nat.reduceAdd]; done) | (simp only [LB]; omega)) only [EB, ↓reduceIte, WB, Nat.reduceSub, Nat.reduceAdd, Int.reduceEq, Int.reduceNe, Int.reduceLT, Int.reduceLE, Int.reduceAdd, Int.reduceSub, Int.reduceMul, Int.reduceNeg, Int.reduceToNat, Nat.reduceEqDiff, Nat.reduceLT, Nat.reduceLeDiff, Nat.reduceMul, List.replicate, reduceCtorEq, TB, NB, MB, ]
  refine loop_inv (fun r t w => ∃ i n h v, ∃ e : Nat → Value, r = there.length - i ∧ i ≤ there.length ∧ w = ⟨n, h, a.next, []⟩ ∧ a.next ≤ n ∧ (∀ j, j < a.next → look j h = look j a.heap) ∧ RV encPr 2 h n v (outM (keptT (there.take i))) ∧ t = TT 55 e ∧ e 0 = .slice pp there.length c ∧ e 1 = .slice po l.length co ∧ e 4 = .slice none 0 0 ∧ e 5 = .int .i64 0 ∧ e 6 = v ∧ e 7 = .int .i64 i)
    ⟨0, a.next, a.heap, _, _, rfl, by omega, rfl, Nat.le_refl _, fun _ _ => rfl, .inl ⟨rfl, rfl⟩, rfl, rfl, rfl, rfl, rfl, rfl, rfl⟩ ?_
  rintro r t w ⟨i, n, h, vo, e, rfl, hi, rfl, hn, hf, hr, rfl, t0, t1, t4, t5, t6, t7⟩
  by_cases hlt : i < there.length
  · obtain ⟨b, o, sp, rw0, cc, rfl, hlk, hbn, hle, hat, -⟩ := hv.at encPr_len hlt
    have hlk' : look b h = some (.cells cc rw0) := by rw [hf b (by omega)]; exact hlk
    have hsu := keptT_succ there i hlt
    have hkl := keptT_len (there.take i)
    rw [List.length_take] at hkl
    simp -dsimp (maxSteps := 4000000) (disch := first | omega | assumption | (simp only [FB, Nat.reduceAdd]; done) | (simp only [LB]; omega)) only [EB, ↓reduceIte, WB, Nat.reduceSub, Nat.reduceAdd, Int.reduceEq, Int.reduceNe, Int.reduceLT, Int.reduceLE, Int.reduceAdd, Int.reduceSub, Int.reduceMul, Int.reduceNeg, Int.reduceToNat, Nat.reduceEqDiff, Nat.reduceLT, Nat.reduceLeDiff, Nat.reduceMul, List.replicate, reduceCtorEq, TB, NB, MB, t0, t1, t4, t5, t6, t7, show (i : Int) < there.length by omega, hlk', hat]
    refine put28 vo _ there[i] (outM_srt (keptT_nodup _)) (by rw [outM_len]; omega) ⟨n, h, a.next, []⟩ n (Nat.le_refl _) hr _ fun v' n' h' y1 y2 y3 => ?_
    simp only at y1 y3
    rw [addS_out (keptT_nodup _), ← hsu] at y2
    simp -dsimp (maxSteps := 4000000) (disch := first | omega | assumption | (simp only [FB, Nat.reduceAdd]; done) | (simp only [LB]; omega)) only [EB, ↓reduceIte, WB, Nat.reduceSub, Nat.reduceAdd, Int.reduceEq, Int.reduceNe, Int.reduceLT, Int.reduceLE, Int.reduceAdd, Int.reduceSub, Int.reduceMul, Int.reduceNeg, Int.reduceToNat, Nat.reduceEqDiff, Nat.reduceLT, Nat.reduceLeDiff, Nat.reduceMul, List.replicate, reduceCtorEq, TB, NB, MB, t7, wrap64]
    refine ⟨trivial, there.length - (i + 1), by omega, i + 1, n', h', v', _, rfl, by omega, rfl, by omega, fun j hj => by rw [y3 j (by omega), hf j hj], y2, rfl, ?_⟩
    simp only [ups_at, ↓reduceIte, Nat.reduceEqDiff]
    exact ⟨t0, t1, t4, t5, (by first | trivial | rfl | omega)⟩
  · obtain rfl : i = there.length := by omega
    rw [List.take_length] at hr
    obtain ⟨T, hT⟩ : ∃ T, T = keptT there := ⟨_, rfl⟩
    have hTl := keptT_len there
    have hA : keptA there l = keptO T l := by rw [hT]; rfl
    have hTn : (T.map (·.key)).Nodup := by rw [hT]; exact keptT_nodup _
    rw [hA, ← hT] at hK
    rw [← hT] at hr hTl
    simp -dsimp (maxSteps := 4000000) (disch := first | omega | assumption | (simp only [FB, Nat.reduceAdd]; done) | (simp only [LB]; omega)) only [EB, ↓reduceIte, WB, Nat.reduceSub, Nat.reduceAdd, Int.reduceEq, Int.reduceNe, Int.reduceLT, Int.reduceLE, Int.reduceAdd, Int.reduceSub, Int.reduceMul, Int.reduceNeg, Int.reduceToNat, Nat.reduceEqDiff, Nat.reduceLT, Nat.reduceLeDiff, Nat.reduceMul, List.replicate, reduceCtorEq, TB, NB, MB, t0, t1, t4, t5, t6, t7, show ¬ (there.length : Int) < there.length by omega]
    refine loop_inv (fun r t w => ∃ i n h v, ∃ e : Nat → Value, r = l.length - i ∧ i ≤ l.length ∧ w = ⟨n, h, a.next, []⟩ ∧ a.next ≤ n ∧ (∀ j, j < a.next → look j h = look j a.heap) ∧ RV encPr 2 h n v (outM (keptO T (l.take i))) ∧ t = TT 55 e ∧ e 1 = .slice po l.length co ∧ e 4 = .slice none 0 0 ∧ e 5 = .int .i64 0 ∧ e 6 = v ∧ e 8 = .int .i64 (((keptO T (l.take i)).length : Int) - T.length) ∧ e 9 = .int .i64 i)
      ⟨0, n, h, vo, _, rfl, by omega, rfl, hn, hf, hr, rfl, by simp only [ups_at, ↓reduceIte, Nat.reduceEqDiff]; exact t1, by simp only [ups_at, ↓reduceIte, Nat.reduceEqDiff]; exact t4, by simp only [ups_at, ↓reduceIte, Nat.reduceEqDiff]; exact t5, by simp only [ups_at, ↓reduceIte, Nat.reduceEqDiff]; exact t6, by simp [ups_at, keptO], by simp [ups_at]⟩ ?_
    clear t0 t1 t4 t5 t6 t7 hr hf
    rintro r t w ⟨i, n, h, vo, e, rfl, hi, rfl, hn, hf, hr, rfl, t1, t4, t5, t6, t8, t9⟩
    have hkl := keptO_len T (l.take i)
    rw [List.length_take] at hkl
    by_cases hlt : i < l.length
    · obtain ⟨b, o, sp, rw0, cc, rfl, hlk, hbn, hle, hat, hkk⟩ := hu.at encO_len hlt
      have k3 : cc[o + (i * 4 + 3)]? = some (.string (mkStr l[i].val)) := by have := hkk 3 (by omega); rw [← Nat.add_assoc]; simpa [encO] using this
      have hlk' : look b h = some (.cells cc rw0) := by rw [hf b (by omega)]; exact hlk
      obtain ⟨hpi, hki⟩ := hpg l[i] (List.getElem_mem hlt)
      have hkey := fun a K => key20 l[i] hpi (by omega) a K
      have hsu := keptO_succ T l i hlt
      have hn1 := keptO_nodup (l.take i) hTn
      simp -dsimp (maxSteps := 4000000) (disch := first | omega | assumption | (simp only [FB, Nat.reduceAdd]; done) | (simp only [LB]; omega)) only [EB, ↓reduceIte, WB, Nat.reduceSub, Nat.reduceAdd, Int.reduceEq, Int.reduceNe, Int.reduceLT, Int.reduceLE, Int.reduceAdd, Int.reduceSub, Int.reduceMul, Int.reduceNeg, Int.reduceToNat, Nat.reduceEqDiff, Nat.reduceLT, Nat.reduceLeDiff, Nat.reduceMul, List.replicate, reduceCtorEq, TB, NB, MB, t1, t4, t5, t6, t8, t9, show (i : Int) < l.length by omega]
      refine code_draw [(0, 1), (0, 2), (0, 3), (0, 4), (0, 5), (0, 6), (0, 7), (0, 8), (0, 9), (0, 10), (0, 11), (1, 2), (1, 6), (1, 7), (1, 8), (1, 9), (1, 10), (2, 6), (2, 7), (2, 8), (2, 9), (2, 10), (3, 6), (3, 7), (3, 8), (3, 9), (3, 10), (4, 6), (4, 7), (4, 8), (4, 9), (4, 10), (5, 6), (5, 7), (5, 8), (5, 9), (5, 10), (6, 7), (14, 15), (15, 16)] (by decide +kernel) (by decide +kernel) ?_
      simp -dsimp (maxSteps := 4000000) (disch := first | omega | assumption | (simp only [FB, Nat.reduceAdd]; done) | (simp only [LB]; omega)) only [EB, ↓reduceIte, WB, Nat.reduceSub, Nat.reduceAdd, Int.reduceEq, Int.reduceNe, Int.reduceLT, Int.reduceLE, Int.reduceAdd, Int.reduceSub, Int.reduceMul, Int.reduceNeg, Int.reduceToNat, Nat.reduceEqDiff, Nat.reduceLT, Nat.reduceLeDiff, Nat.reduceMul, List.replicate, reduceCtorEq, RB, Nat.reduceEqDiff, TB, NB, MB, t1, t6, t9, hlk', hat, hkey, k3, show b < n + 1 by omega]
      refine put28 vo _ (orP l[i]) (outM_srt hn1) (by rw [outM_len]; omega) ⟨n + 1, h, n + 1, []⟩ n (by simp only; omega) hr _ fun v' n' h' y1 y2 y3 => ?_
      simp only at y1 y3
      rw [addS_out hn1, ← hsu] at y2
      have hal := keptO_succ T l i hlt
      rw [hasK_out hn1]
      cases hh : hasK (keptO T (l.take i)) (orP l[i]).key with
      | true =>
        rw [addP, if_pos hh] at hal
        simp -dsimp (maxSteps := 4000000) (disch := first | omega | assumption | (simp only [FB, Nat.reduceAdd]; done) | (simp only [LB]; omega)) only [EB, ↓reduceIte, WB, Nat.reduceSub, Nat.reduceAdd, Int.reduceEq, Int.reduceNe, Int.reduceLT, Int.reduceLE, Int.reduceAdd, Int.reduceSub, Int.reduceMul, Int.reduceNeg, Int.reduceToNat, Nat.reduceEqDiff, Nat.reduceLT, Nat.reduceLeDiff, Nat.reduceMul, List.replicate, reduceCtorEq, RB, Nat.reduceEqDiff, TB, NB, MB, Bool.not_true, show ¬ n + 1 ≤ b by omega]
        simp -dsimp (maxSteps := 4000000) (disch := first | omega | assumption | (simp only [FB, Nat.reduceAdd]; done) | (simp only [LB]; omega)) only [EB, ↓reduceIte, WB, Nat.reduceSub, Nat.reduceAdd, Int.reduceEq, Int.reduceNe, Int.reduceLT, Int.reduceLE, Int.reduceAdd, Int.reduceSub, Int.reduceMul, Int.reduceNeg, Int.reduceToNat, Nat.reduceEqDiff, Nat.reduceLT, Nat.reduceLeDiff, Nat.reduceMul, List.replicate, reduceCtorEq, TB, NB, MB, t9, wrap64]
        refine ⟨trivial, l.length - (i + 1), by omega, i + 1, n', h', v', _, rfl, by omega, rfl, by omega, fun j hj => by rw [y3 j (by omega), hf j hj], y2, rfl, ?_⟩
        simp only [ups_at, ↓reduceIte, Nat.reduceEqDiff]
        exact ⟨t1, t4, t5, trivial, by rw [hal]; exact t8, (by first | trivial | rfl | omega)⟩
      | false =>
        rw [addP, if_neg (by rw [hh]; simp)] at hal
        simp -dsimp (maxSteps := 4000000) (disch := first | omega | assumption | (simp only [FB, Nat.reduceAdd]; done) | (simp only [LB]; omega)) only [EB, ↓reduceIte, WB, Nat.reduceSub, Nat.reduceAdd, Int.reduceEq, Int.reduceNe, Int.reduceLT, Int.reduceLE, Int.reduceAdd, Int.reduceSub, Int.reduceMul, Int.reduceNeg, Int.reduceToNat, Nat.reduceEqDiff, Nat.reduceLT, Nat.reduceLeDiff, Nat.reduceMul, List.replicate, reduceCtorEq, RB, Nat.reduceEqDiff, TB, NB, MB, Bool.not_false, t8, wrap64, show ¬ n + 1 ≤ b by omega]
        simp -dsimp (maxSteps := 4000000) (disch := first | omega | assumption | (simp only [FB, Nat.reduceAdd]; done) | (simp only [LB]; omega)) only [EB, ↓reduceIte, WB, Nat.reduceSub, Nat.reduceAdd, Int.reduceEq, Int.reduceNe, Int.reduceLT, Int.reduceLE, Int.reduceAdd, Int.reduceSub, Int.reduceMul, Int.reduceNeg, Int.reduceToNat, Nat.reduceEqDiff, Nat.reduceLT, Nat.reduceLeDiff, Nat.reduceMul, List.replicate, reduceCtorEq, TB, NB, MB, t9, wrap64]
        refine ⟨trivial, l.length - (i + 1), by omega, i + 1, n', h', v', _, rfl, by omega, rfl, by omega, fun j hj => by rw [y3 j (by omega), hf j hj], y2, rfl, ?_⟩
        simp only [ups_at, ↓reduceIte, Nat.reduceEqDiff]
        refine ⟨t1, t4, t5, trivial, ?_, (by first | trivial | rfl | omega)⟩
        rw [hal, List.length_append, List.length_cons, List.length_nil]
        congr 1; omega
    · obtain rfl : i = l.length := by omega
      rw [List.take_length] at hr t8
      simp -dsimp (maxSteps := 4000000) (disch := first | omega | assumption | (simp only [FB, Nat.reduceAdd]; done) | (simp only [LB]; omega)) only [EB, ↓reduceIte, WB, Nat.reduceSub, Nat.reduceAdd, Int.reduceEq, Int.reduceNe, Int.reduceLT, Int.reduceLE, Int.reduceAdd, Int.reduceSub, Int.reduceMul, Int.reduceNeg, Int.reduceToNat, Nat.reduceEqDiff, Nat.reduceLT, Nat.reduceLeDiff, Nat.reduceMul, List.replicate, reduceCtorEq, TB, NB, MB, t1, t4, t5, t6, t8, t9, show ¬ (l.length : Int) < l.length by omega]
      exact back_rv2 (a := a) rfl hr hn hf hK
end Go.Proofs.YtdgpniekpmoadaaAM
