/- Chapter 6: two buckets set. -/
import Derived.Test.YtpcaoohacgkeiaaQ4
namespace Go.Proofs.YtpcaoohacgkeiaaAM
open Go Go.RowKit
set_option linter.unusedVariables false
set_option linter.unusedSimpArgs false
set_option maxRecDepth 10000
set_option maxHeartbeats 4000000

theorem law7 (v : Value) (l : List Bkt) (x y : Bkt) (hll : l.length ≤ 5000000000000) (hnm : ∀ b ∈ l, b.name.length ≤ 140737488355328) (a : AW) (m : Nat) (hm : m ≤ a.next) (hv : RV encB 3 a.heap m v l) :
    WCall Try.prog GV 7 [v, .agg (encB x).toArray, .agg (encB y).toArray] a fun r _ => r = .bool true := by
  rw [call_env Try.func7 rfl Try.ntmps7 rfl rfl (by simp)]
  obtain ⟨pp, c, rfl⟩ := hv.len
  obtain ⟨H2, hH2⟩ : ∃ H2, H2 = (a.next + 1, Blk.cells (encB y) true) :: (a.next, Blk.cells (encB x) true) :: a.heap := ⟨_, rfl⟩
  have hv0 : RV encB 3 H2 m (.slice pp l.length c) l := hv.keep (Nat.le_refl _) fun j hj => by rw [hH2, look_miss (by omega), look_miss (by omega)]
  have hlt := fun K => light9 (.slice pp l.length c) l (by omega) ⟨a.next + 2, H2, a.next, []⟩ m (by simp only; omega) hv0 K
  have hx0 : look a.next H2 = some (.cells (encB x) true) := by rw [hH2, look_miss (by omega)]; exact look_self
  have hy0 : look (a.next + 1) H2 = some (.cells (encB y) true) := by rw [hH2]; exact look_self
  simp only [encB] at hH2 hx0 hy0 ⊢
  by_cases c1 : l.length ≤ 60 ∧ lightN l ≤ 1000
  · by_cases c2 : (100 : Int) < x.name.length
    · simp -dsimp (maxSteps := 4000000) (disch := first | omega | assumption | (simp only [FB, Nat.reduceAdd]; done) | (simp only [LB]; omega)) only [EB, ↓reduceIte, WB, Nat.reduceSub, Nat.reduceAdd, Int.reduceEq, Int.reduceNe, Int.reduceLT, Int.reduceLE, Int.reduceAdd, Int.reduceSub, Int.reduceMul, Int.reduceNeg, Int.reduceToNat, Nat.reduceEqDiff, Nat.reduceLT, Nat.reduceLeDiff, Nat.reduceMul, List.replicate, reduceCtorEq, TB, NB, lives8, ← hH2, hlt, decide_eq_true c1, c2, hx0, hy0, leave_fst flat_bool]
    · by_cases c3 : (100 : Int) < y.name.length
      · simp -dsimp (maxSteps := 4000000) (disch := first | omega | assumption | (simp only [FB, Nat.reduceAdd]; done) | (simp only [LB]; omega)) only [EB, ↓reduceIte, WB, Nat.reduceSub, Nat.reduceAdd, Int.reduceEq, Int.reduceNe, Int.reduceLT, Int.reduceLE, Int.reduceAdd, Int.reduceSub, Int.reduceMul, Int.reduceNeg, Int.reduceToNat, Nat.reduceEqDiff, Nat.reduceLT, Nat.reduceLeDiff, Nat.reduceMul, List.replicate, reduceCtorEq, TB, NB, lives8, ← hH2, hlt, decide_eq_true c1, c2, c3, hx0, hy0, leave_fst flat_bool]
      · simp -dsimp (maxSteps := 4000000) (disch := first | omega | assumption | (simp only [FB, Nat.reduceAdd]; done) | (simp only [LB]; omega)) only [EB, ↓reduceIte, WB, Nat.reduceSub, Nat.reduceAdd, Int.reduceEq, Int.reduceNe, Int.reduceLT, Int.reduceLE, Int.reduceAdd, Int.reduceSub, Int.reduceMul, Int.reduceNeg, Int.reduceToNat, Nat.reduceEqDiff, Nat.reduceLT, Nat.reduceLeDiff, Nat.reduceMul, List.replicate, reduceCtorEq, TB, NB, lives8, ← hH2, hlt, decide_eq_true c1, c2, c3, hx0, hy0]
        refine loop_inv (fun r t w => ∃ i n, ∃ e : Nat → Value, r = l.length - i ∧ 1 ≤ i ∧ (i ≤ l.length ∨ i = 1) ∧ w = ⟨n, H2, a.next, []⟩ ∧ a.next + 2 ≤ n ∧ t = TT 151 e ∧ (∀ j (h : j + 1 < l.length), j + 1 < i → Op.bytesLess l[j].name l[j + 1].name = true) ∧ e 0 = .slice pp l.length c ∧ e 4 = .pointer (some ⟨a.next, 0, none⟩) ∧ e 5 = .pointer (some ⟨a.next + 1, 0, none⟩) ∧ e 7 = .int .i64 i) ⟨1, a.next + 2, _, rfl, by omega, .inr rfl, rfl, Nat.le_refl _, rfl, fun j _ h => absurd h (by omega), rfl, rfl, rfl, rfl⟩ ?_
        rintro r t w ⟨i, n, e, rfl, hi1, hi, rfl, hn, rfl, hb, t0, t4, t5, t7⟩
        by_cases hlt' : i < l.length
        · obtain ⟨b, o, sp, rw0, cc, rfl, hlk, hbn, hle, -, hk1⟩ := hv0.at encB_len hlt'
          obtain ⟨b2, o2, sp2, rw2, cc2, e2, hlk2, hbn2, hle2, -, hk2⟩ := hv0.at encB_len (i := i - 1) (by omega)
          cases e2
          rw [hlk] at hlk2
          cases hlk2
          have hn0 : cc[o + (i - 1) * 3]? = some (.string (mkStr l[i - 1].name)) := by have := hk2 0 (by omega); simpa [encB] using this
          have hn1 : cc[o + i * 3]? = some (.string (mkStr l[i].name)) := by have := hk1 0 (by omega); simpa [encB] using this
          by_cases h2 : Op.bytesLess l[i - 1].name l[i].name = true
          · simp -dsimp (maxSteps := 4000000) (disch := first | omega | assumption | (simp only [FB, Nat.reduceAdd]; done) | (simp only [LB]; omega)) only [EB, ↓reduceIte, WB, Nat.reduceSub, Nat.reduceAdd, Int.reduceEq, Int.reduceNe, Int.reduceLT, Int.reduceLE, Int.reduceAdd, Int.reduceSub, Int.reduceMul, Int.reduceNeg, Int.reduceToNat, Nat.reduceEqDiff, Nat.reduceLT, Nat.reduceLeDiff, Nat.reduceMul, List.replicate, reduceCtorEq, TB, NB, t0, t4, t5, t7, show (i : Int) < l.length by omega]
            refine code_draw [(0, 1), (0, 2), (0, 6), (0, 7), (0, 8), (0, 9), (0, 10), (1, 6), (1, 7), (1, 8), (1, 9), (1, 10), (2, 6), (2, 7), (2, 8), (2, 9), (2, 10), (3, 6), (3, 7), (3, 8), (3, 9), (3, 10), (4, 6), (4, 7), (4, 8), (4, 9), (4, 10), (5, 6), (5, 7), (5, 8), (5, 9), (5, 10), (6, 7)] (by decide +kernel) (by decide +kernel) ?_
            simp -dsimp (maxSteps := 4000000) (disch := first | omega | assumption | (simp only [FB, Nat.reduceAdd]; done) | (simp only [LB]; omega)) only [EB, ↓reduceIte, WB, Nat.reduceSub, Nat.reduceAdd, Int.reduceEq, Int.reduceNe, Int.reduceLT, Int.reduceLE, Int.reduceAdd, Int.reduceSub, Int.reduceMul, Int.reduceNeg, Int.reduceToNat, Nat.reduceEqDiff, Nat.reduceLT, Nat.reduceLeDiff, Nat.reduceMul, List.replicate, reduceCtorEq, RB, Nat.reduceEqDiff, TB, NB, t0, t4, t5, t7, wrap64, show ((i : Int) - 1).toNat = i - 1 by omega, hlk, hn0, hn1, h2, show (0 : Int) ≤ (i : Int) - 1 by omega, show (i : Int) - 1 < l.length by omega, show (i : Int) < l.length by omega]
            refine ⟨l.length - (i + 1), by omega, i + 1, n + 1, _, rfl, by omega, .inl (by omega), (by first | trivial | rfl | omega), by omega, rfl, fun j hj hji => ?_, ?_⟩
            · rcases Nat.lt_or_ge (j + 1) i with h | h
              · exact hb j hj h
              · obtain rfl : j = i - 1 := by omega
                simpa [show i - 1 + 1 = i by omega] using h2
            · simp only [ups_at, ↓reduceIte, Nat.reduceEqDiff]; exact ⟨t0, t4, t5, (by first | trivial | rfl | omega)⟩
          · have h2' : Op.bytesLess l[i - 1].name l[i].name = false := by simpa using h2
            simp -dsimp (maxSteps := 4000000) (disch := first | omega | assumption | (simp only [FB, Nat.reduceAdd]; done) | (simp only [LB]; omega)) only [EB, ↓reduceIte, WB, Nat.reduceSub, Nat.reduceAdd, Int.reduceEq, Int.reduceNe, Int.reduceLT, Int.reduceLE, Int.reduceAdd, Int.reduceSub, Int.reduceMul, Int.reduceNeg, Int.reduceToNat, Nat.reduceEqDiff, Nat.reduceLT, Nat.reduceLeDiff, Nat.reduceMul, List.replicate, reduceCtorEq, TB, NB, t0, t4, t5, t7, show (i : Int) < l.length by omega]
            refine code_draw [(0, 1), (0, 2), (0, 6), (0, 7), (0, 8), (0, 9), (0, 10), (1, 6), (1, 7), (1, 8), (1, 9), (1, 10), (2, 6), (2, 7), (2, 8), (2, 9), (2, 10), (3, 6), (3, 7), (3, 8), (3, 9), (3, 10), (4, 6), (4, 7), (4, 8), (4, 9), (4, 10), (5, 6), (5, 7), (5, 8), (5, 9), (5, 10), (6, 7)] (by decide +kernel) (by decide +kernel) ?_
            simp -dsimp (maxSteps := 4000000) (disch := first | omega | assumption | (simp only [FB, Nat.reduceAdd]; done) | (simp only [LB]; omega)) only [EB, ↓reduceIte, WB, Nat.reduceSub, Nat.reduceAdd, Int.reduceEq, Int.reduceNe, Int.reduceLT, Int.reduceLE, Int.reduceAdd, Int.reduceSub, Int.reduceMul, Int.reduceNeg, Int.reduceToNat, Nat.reduceEqDiff, Nat.reduceLT, Nat.reduceLeDiff, Nat.reduceMul, List.replicate, reduceCtorEq, RB, Nat.reduceEqDiff, TB, NB, t0, t4, t5, t7, wrap64, show ((i : Int) - 1).toNat = i - 1 by omega, hlk, hn0, hn1, h2', show (0 : Int) ≤ (i : Int) - 1 by omega, show (i : Int) - 1 < l.length by omega, show (i : Int) < l.length by omega, leave_fst flat_bool]
        · have hsrt : Srt l := srt_adj fun j hj => hb j hj (by omega)
          simp -dsimp (maxSteps := 4000000) (disch := first | omega | assumption | (simp only [FB, Nat.reduceAdd]; done) | (simp only [LB]; omega)) only [EB, ↓reduceIte, WB, Nat.reduceSub, Nat.reduceAdd, Int.reduceEq, Int.reduceNe, Int.reduceLT, Int.reduceLE, Int.reduceAdd, Int.reduceSub, Int.reduceMul, Int.reduceNeg, Int.reduceToNat, Nat.reduceEqDiff, Nat.reduceLT, Nat.reduceLeDiff, Nat.reduceMul, List.replicate, reduceCtorEq, TB, NB, t0, t4, t5, t7, show ¬ (i : Int) < l.length by omega]
          refine code_draw [(0, 2), (1, 2)] (by decide +kernel) (by decide +kernel) ?_
          simp -dsimp (maxSteps := 4000000) (disch := first | omega | assumption | (simp only [FB, Nat.reduceAdd]; done) | (simp only [LB]; omega)) only [EB, ↓reduceIte, WB, Nat.reduceSub, Nat.reduceAdd, Int.reduceEq, Int.reduceNe, Int.reduceLT, Int.reduceLE, Int.reduceAdd, Int.reduceSub, Int.reduceMul, Int.reduceNeg, Int.reduceToNat, Nat.reduceEqDiff, Nat.reduceLT, Nat.reduceLeDiff, Nat.reduceMul, List.replicate, reduceCtorEq, RB, Nat.reduceEqDiff, TB, NB, t0, t4, t5]
          refine own15 (.slice pp l.length c) l (by omega) ⟨n + 1, H2, n + 1, []⟩ m (by simp only; omega) hv0 _ fun v1 n1 h1 x1 x2 x3 x4 => ?_
          simp only at x1 x2 x3 x4
          have hx1 : look a.next h1 = some (.cells [.string (mkStr x.name), .int .u32 x.root, .int .i64 x.keys] true) := by rw [x4 _ (by omega)]; exact hx0
          have hy1 : look (a.next + 1) h1 = some (.cells [.string (mkStr y.name), .int .u32 y.root, .int .i64 y.keys] true) := by rw [x4 _ (by omega)]; exact hy0
          simp -dsimp (maxSteps := 4000000) (disch := first | omega | assumption | (simp only [FB, Nat.reduceAdd]; done) | (simp only [LB]; omega)) only [EB, ↓reduceIte, WB, Nat.reduceSub, Nat.reduceAdd, Int.reduceEq, Int.reduceNe, Int.reduceLT, Int.reduceLE, Int.reduceAdd, Int.reduceSub, Int.reduceMul, Int.reduceNeg, Int.reduceToNat, Nat.reduceEqDiff, Nat.reduceLT, Nat.reduceLeDiff, Nat.reduceMul, List.replicate, reduceCtorEq, RB, Nat.reduceEqDiff, TB, NB, t0, t4, t5, hx1]
          refine set17 v1 l (by omega) x ⟨n1, h1, n1, []⟩ n1 (Nat.le_refl _) x3.rv _ fun v2 n2 h2 y1 y2 y3 y4 => ?_
          simp only at y1 y2 y3 y4
          rw [setB_put x hsrt] at y3
          have hx2 : look a.next h2 = some (.cells [.string (mkStr x.name), .int .u32 x.root, .int .i64 x.keys] true) := by rw [y4 _ (by omega)]; exact hx1
          have hy2 : look (a.next + 1) h2 = some (.cells [.string (mkStr y.name), .int .u32 y.root, .int .i64 y.keys] true) := by rw [y4 _ (by omega)]; exact hy1
          have hvl2 : RV encB 3 h2 n2 (.slice pp l.length c) l := hv0.keep (by omega) fun j hj => by rw [y4 j (by omega), x4 j (by omega)]
          obtain ⟨i0, hi0, hfi, hix⟩ := find_put (b := x) hsrt
          have hsz := size_put x hsrt
          have hdp := del_put (b := x) hsrt
          have hpl := put_len x l
          have hps := put_srt x hsrt
          obtain ⟨nw, hnw⟩ : ∃ nw, nw = putB x l := ⟨_, rfl⟩
          simp only [← hnw] at y3 hi0 hfi hix hsz hdp hpl hps
          obtain ⟨pq, cq, rfl⟩ := y3.len
          have hv2 := y3.rv
          have hfd := fun bs K => find16 (.slice pq nw.length cq) nw (by omega) x.name ⟨n2, h2, bs, []⟩ n2 (Nat.le_refl _) hv2 K
          simp only [hfi] at hfd
          simp -dsimp (maxSteps := 4000000) (disch := first | omega | assumption | (simp only [FB, Nat.reduceAdd]; done) | (simp only [LB]; omega)) only [EB, ↓reduceIte, WB, Nat.reduceSub, Nat.reduceAdd, Int.reduceEq, Int.reduceNe, Int.reduceLT, Int.reduceLE, Int.reduceAdd, Int.reduceSub, Int.reduceMul, Int.reduceNeg, Int.reduceToNat, Nat.reduceEqDiff, Nat.reduceLT, Nat.reduceLeDiff, Nat.reduceMul, List.replicate, reduceCtorEq, RB, Nat.reduceEqDiff, TB, NB, t0, t4, t5, hx2]
          simp -dsimp (maxSteps := 4000000) (disch := first | omega | assumption | (simp only [FB, Nat.reduceAdd]; done) | (simp only [LB]; omega)) only [EB, ↓reduceIte, WB, Nat.reduceSub, Nat.reduceAdd, Int.reduceEq, Int.reduceNe, Int.reduceLT, Int.reduceLE, Int.reduceAdd, Int.reduceSub, Int.reduceMul, Int.reduceNeg, Int.reduceToNat, Nat.reduceEqDiff, Nat.reduceLT, Nat.reduceLeDiff, Nat.reduceMul, List.replicate, reduceCtorEq, TB, NB, hx2, hfd, t0, t4, t5]
          refine code_draw [(7, 8), (7, 9), (13, 14), (13, 17), (14, 17), (15, 17), (16, 17), (21, 23), (21, 24), (21, 25), (21, 29), (21, 30), (21, 31), (22, 23), (22, 24), (22, 25), (22, 29), (22, 30), (22, 31), (23, 24), (23, 25), (23, 29), (23, 30), (23, 31), (24, 29), (24, 30), (24, 31), (25, 29), (25, 30), (25, 31), (26, 29), (26, 30), (26, 31), (27, 29), (27, 30), (27, 31), (28, 29), (28, 30), (28, 31)] (by decide +kernel) (by decide +kernel) ?_
          obtain ⟨bb, o, sp, rw0, cc, rfl, hlk, hbn, hle, hat, -⟩ := hv2.at encB_len hi0
          have hsk : ∀ p q, binA Try.prog .neq 36 p q (.agg (encB nw[i0]).toArray) (.agg #[.string (mkStr x.name), .int .u32 x.root, .int .i64 x.keys]) = some (.bool false) := by
            intro p q
            rw [hix]
            have := neq36 (x := p) (y := q) (b := x) (b' := x)
            rw [decide_eq_true rfl] at this
            rw [show (false : Bool) = !true from rfl, ← this]; rfl
          have hsz1 : sizeB nw ≤ 4611686018427387904 := by
            have h9 := sizeB_le (delB l x.name) fun b hb => hnm b (mem_erase hb)
            have h8 := List.length_eraseIdx_le l (fidx (nameIs x.name) l)
            have h7 : (delB l x.name).length ≤ 60 := by unfold delB; omega
            omega
          have hs1 := fun K => sizeOf23 (.slice (some ⟨bb, o, sp⟩) nw.length cq) nw (by omega) hsz1 ⟨n2 + 1, h2, n2 + 1, []⟩ n2 (by simp only; omega) hv2 K
          simp -dsimp (maxSteps := 4000000) (disch := first | omega | assumption | (simp only [FB, Nat.reduceAdd]; done) | (simp only [LB]; omega)) only [EB, ↓reduceIte, WB, Nat.reduceSub, Nat.reduceAdd, Int.reduceEq, Int.reduceNe, Int.reduceLT, Int.reduceLE, Int.reduceAdd, Int.reduceSub, Int.reduceMul, Int.reduceNeg, Int.reduceToNat, Nat.reduceEqDiff, Nat.reduceLT, Nat.reduceLeDiff, Nat.reduceMul, List.replicate, reduceCtorEq, RB, Nat.reduceEqDiff, TB, NB, t0, t4, t5, hx2, hlk, hat, hsk, hs1, show ¬ (i0 : Int) < 0 by omega, show ¬ (nw.length : Int) ≤ (i0 : Int) by omega, show (0 : Int) ≤ (i0 : Int) by omega, show (i0 : Int) < nw.length by omega]
          refine del18 (.slice (some ⟨bb, o, sp⟩) nw.length cq) nw (by omega) x.name ⟨n2 + 1, h2, n2 + 1, []⟩ n2 (by simp only; omega) hv2 _ fun v3 n3 h3 z1 z2 z3 z4 => ?_
          simp only at z1 z2 z3 z4
          rw [hdp] at z3
          have hx3 : look a.next h3 = some (.cells [.string (mkStr x.name), .int .u32 x.root, .int .i64 x.keys] true) := by rw [z4 _ (by omega)]; exact hx2
          have hy3 : look (a.next + 1) h3 = some (.cells [.string (mkStr y.name), .int .u32 y.root, .int .i64 y.keys] true) := by rw [z4 _ (by omega)]; exact hy2
          have hdl : (delB l x.name).length ≤ 5000000000000 := by have := List.length_eraseIdx_le l (fidx (nameIs x.name) l); unfold delB; omega
          have hs2 := fun K => sizeOf23 v3 (delB l x.name) hdl (by omega) ⟨n3, h3, n3, []⟩ n3 (Nat.le_refl _) z3.rv K
          have hE : (sizeB nw : Int) = (sizeB (delB l x.name) : Int) + 9 + (x.name.length : Int) := by omega
          simp -dsimp (maxSteps := 4000000) (disch := first | omega | assumption | (simp only [FB, Nat.reduceAdd]; done) | (simp only [LB]; omega)) only [EB, ↓reduceIte, WB, Nat.reduceSub, Nat.reduceAdd, Int.reduceEq, Int.reduceNe, Int.reduceLT, Int.reduceLE, Int.reduceAdd, Int.reduceSub, Int.reduceMul, Int.reduceNeg, Int.reduceToNat, Nat.reduceEqDiff, Nat.reduceLT, Nat.reduceLeDiff, Nat.reduceMul, List.replicate, reduceCtorEq, RB, Nat.reduceEqDiff, TB, NB, hs2, hx3, wrap64, t0, t4, t5, hE]
          have hv3 : RV encB 3 h3 n3 (.slice (some ⟨bb, o, sp⟩) nw.length cq) nw := hv2.keep (by omega) fun j hj => z4 j (by omega)
          refine loop_inv (fun r t w => ∃ i n', ∃ e : Nat → Value, r = nw.length - i ∧ 1 ≤ i ∧ (i ≤ nw.length ∨ i = 1) ∧ w = ⟨n', h3, a.next, []⟩ ∧ n3 ≤ n' ∧ t = TT 151 e ∧ e 0 = .slice pp l.length c ∧ e 4 = .pointer (some ⟨a.next, 0, none⟩) ∧ e 5 = .pointer (some ⟨a.next + 1, 0, none⟩) ∧ e 8 = .slice (some ⟨bb, o, sp⟩) nw.length cq ∧ e 11 = .int .i64 i) ⟨1, n3, _, rfl, by omega, .inr rfl, rfl, Nat.le_refl _, rfl, t0, t4, t5, rfl, rfl⟩ ?_
          rintro r t w ⟨i, n', e', rfl, hi1, hi, rfl, hn', rfl, t0, t4, t5, t8, t11⟩
          by_cases hlt' : i < nw.length
          · have h2 := adj_srt hps (i - 1) (by omega)
            simp only [show i - 1 + 1 = i by omega] at h2
            obtain ⟨b1, o1, sp1, rw1, cc1, e1, hlk1, hbn1, hle1, -, hk1⟩ := hv3.at encB_len hlt'
            obtain ⟨b2, o2, sp2, rw2, cc2, e2, hlk2, hbn2, hle2, -, hk2⟩ := hv3.at encB_len (i := i - 1) (by omega)
            cases e1
            cases e2
            rw [hlk1] at hlk2
            cases hlk2
            have hn0 : cc1[o + (i - 1) * 3]? = some (.string (mkStr nw[i - 1].name)) := by have := hk2 0 (by omega); simpa [encB] using this
            have hn1 : cc1[o + i * 3]? = some (.string (mkStr nw[i].name)) := by have := hk1 0 (by omega); simpa [encB] using this
            simp -dsimp (maxSteps := 4000000) (disch := first | omega | assumption | (simp only [FB, Nat.reduceAdd]; done) | (simp only [LB]; omega)) only [EB, ↓reduceIte, WB, Nat.reduceSub, Nat.reduceAdd, Int.reduceEq, Int.reduceNe, Int.reduceLT, Int.reduceLE, Int.reduceAdd, Int.reduceSub, Int.reduceMul, Int.reduceNeg, Int.reduceToNat, Nat.reduceEqDiff, Nat.reduceLT, Nat.reduceLeDiff, Nat.reduceMul, List.replicate, reduceCtorEq, TB, NB, t0, t4, t5, t8, t11, show (i : Int) < nw.length by omega]
            refine code_draw [(0, 1), (0, 2), (0, 6), (0, 7), (0, 8), (0, 9), (0, 10), (1, 6), (1, 7), (1, 8), (1, 9), (1, 10), (2, 6), (2, 7), (2, 8), (2, 9), (2, 10), (3, 6), (3, 7), (3, 8), (3, 9), (3, 10), (4, 6), (4, 7), (4, 8), (4, 9), (4, 10), (5, 6), (5, 7), (5, 8), (5, 9), (5, 10), (6, 7)] (by decide +kernel) (by decide +kernel) ?_
            simp -dsimp (maxSteps := 4000000) (disch := first | omega | assumption | (simp only [FB, Nat.reduceAdd]; done) | (simp only [LB]; omega)) only [EB, ↓reduceIte, WB, Nat.reduceSub, Nat.reduceAdd, Int.reduceEq, Int.reduceNe, Int.reduceLT, Int.reduceLE, Int.reduceAdd, Int.reduceSub, Int.reduceMul, Int.reduceNeg, Int.reduceToNat, Nat.reduceEqDiff, Nat.reduceLT, Nat.reduceLeDiff, Nat.reduceMul, List.replicate, reduceCtorEq, RB, Nat.reduceEqDiff, TB, NB, t0, t4, t5, t8, t11, wrap64, show ((i : Int) - 1).toNat = i - 1 by omega, hlk1, hn0, hn1, h2, show (0 : Int) ≤ (i : Int) - 1 by omega, show (i : Int) - 1 < nw.length by omega, show (i : Int) < nw.length by omega]
            refine ⟨nw.length - (i + 1), by omega, i + 1, n' + 1, _, rfl, by omega, .inl (by omega), (by first | trivial | rfl | omega), by omega, rfl, ?_⟩
            simp only [ups_at, ↓reduceIte, Nat.reduceEqDiff]; exact ⟨t0, t4, t5, t8, (by first | trivial | rfl | omega)⟩
          · have hvl3 : RV encB 3 h3 n' (.slice pp l.length c) l := hvl2.keep (by omega) fun j hj => z4 j (by omega)
            have hvn3 : RV encB 3 h3 n' (.slice (some ⟨bb, o, sp⟩) nw.length cq) nw := hv3.keep (by omega) fun j hj => rfl
            have hnwl : nw.length ≤ 61 := by omega
            by_cases hxy : x.name = y.name
            · simp -dsimp (maxSteps := 4000000) (disch := first | omega | assumption | (simp only [FB, Nat.reduceAdd]; done) | (simp only [LB]; omega)) only [EB, ↓reduceIte, WB, Nat.reduceSub, Nat.reduceAdd, Int.reduceEq, Int.reduceNe, Int.reduceLT, Int.reduceLE, Int.reduceAdd, Int.reduceSub, Int.reduceMul, Int.reduceNeg, Int.reduceToNat, Nat.reduceEqDiff, Nat.reduceLT, Nat.reduceLeDiff, Nat.reduceMul, List.replicate, reduceCtorEq, TB, NB, t0, t4, t5, t8, t11, show ¬ (i : Int) < nw.length by omega, hx3, hy3, hxy]
              refine code_draw [(0, 1), (0, 3), (0, 5), (1, 3), (1, 5), (2, 3), (2, 5), (3, 5), (4, 5)] (by decide +kernel) (by decide +kernel) ?_
              simp -dsimp (maxSteps := 4000000) (disch := first | omega | assumption | (simp only [FB, Nat.reduceAdd]; done) | (simp only [LB]; omega)) only [EB, ↓reduceIte, WB, Nat.reduceSub, Nat.reduceAdd, Int.reduceEq, Int.reduceNe, Int.reduceLT, Int.reduceLE, Int.reduceAdd, Int.reduceSub, Int.reduceMul, Int.reduceNeg, Int.reduceToNat, Nat.reduceEqDiff, Nat.reduceLT, Nat.reduceLeDiff, Nat.reduceMul, List.replicate, reduceCtorEq, RB, Nat.reduceEqDiff, TB, NB, t0, t4, t5, t8, hy3]
              refine set17 _ nw (by omega) y ⟨n' + 1, h3, n' + 1, []⟩ n' (by simp only; omega) hvn3 _ fun v4 n4 h4 p1 p2 p3 p4 => ?_
              simp only at p1 p2 p3 p4
              rw [setB_put y hps] at p3
              simp -dsimp (maxSteps := 4000000) (disch := first | omega | assumption | (simp only [FB, Nat.reduceAdd]; done) | (simp only [LB]; omega)) only [EB, ↓reduceIte, WB, Nat.reduceSub, Nat.reduceAdd, Int.reduceEq, Int.reduceNe, Int.reduceLT, Int.reduceLE, Int.reduceAdd, Int.reduceSub, Int.reduceMul, Int.reduceNeg, Int.reduceToNat, Nat.reduceEqDiff, Nat.reduceLT, Nat.reduceLeDiff, Nat.reduceMul, List.replicate, reduceCtorEq, RB, Nat.reduceEqDiff, TB, NB, t0, t4, t5, t8]
              refine own15 _ l (by omega) ⟨n4, h4, n4, []⟩ n4 (Nat.le_refl _) (hvl3.keep (by omega) fun j hj => p4 j (by omega)) _ fun v5 n5 h5 q1 q2 q3 q4 => ?_
              simp only at q1 q2 q3 q4
              have hy5 : look (a.next + 1) h5 = some (.cells [.string (mkStr y.name), .int .u32 y.root, .int .i64 y.keys] true) := by rw [q4 _ (by omega), p4 _ (by omega)]; exact hy3
              simp -dsimp (maxSteps := 4000000) (disch := first | omega | assumption | (simp only [FB, Nat.reduceAdd]; done) | (simp only [LB]; omega)) only [EB, ↓reduceIte, WB, Nat.reduceSub, Nat.reduceAdd, Int.reduceEq, Int.reduceNe, Int.reduceLT, Int.reduceLE, Int.reduceAdd, Int.reduceSub, Int.reduceMul, Int.reduceNeg, Int.reduceToNat, Nat.reduceEqDiff, Nat.reduceLT, Nat.reduceLeDiff, Nat.reduceMul, List.replicate, reduceCtorEq, RB, Nat.reduceEqDiff, TB, NB, t0, t4, t5, t8, hy5]
              refine set17 v5 l (by omega) y ⟨n5, h5, n5, []⟩ n5 (Nat.le_refl _) q3.rv _ fun v6 n6 h6 r1 r2 r3 r4 => ?_
              simp only at r1 r2 r3 r4
              rw [setB_put y hsrt] at r3
              have heq : putB y nw = putB y l := by rw [hnw]; exact putB_same hsrt hxy
              rw [heq] at p3
              have hsm := fun K => same12 v4 v6 (putB y l) (putB y l) (by have := put_len y l; omega) ⟨n6, h6, n6, []⟩ n6 (Nat.le_refl _) (p3.rv.keep (by omega) fun j hj => by rw [r4 j (by omega), q4 j (by omega)]) r3.rv K
              simp -dsimp (maxSteps := 4000000) (disch := first | omega | assumption | (simp only [FB, Nat.reduceAdd]; done) | (simp only [LB]; omega)) only [EB, ↓reduceIte, WB, Nat.reduceSub, Nat.reduceAdd, Int.reduceEq, Int.reduceNe, Int.reduceLT, Int.reduceLE, Int.reduceAdd, Int.reduceSub, Int.reduceMul, Int.reduceNeg, Int.reduceToNat, Nat.reduceEqDiff, Nat.reduceLT, Nat.reduceLeDiff, Nat.reduceMul, List.replicate, reduceCtorEq, RB, Nat.reduceEqDiff, TB, NB, hsm, decide_true]
            · simp -dsimp (maxSteps := 4000000) (disch := first | omega | assumption | (simp only [FB, Nat.reduceAdd]; done) | (simp only [LB]; omega)) only [EB, ↓reduceIte, WB, Nat.reduceSub, Nat.reduceAdd, Int.reduceEq, Int.reduceNe, Int.reduceLT, Int.reduceLE, Int.reduceAdd, Int.reduceSub, Int.reduceMul, Int.reduceNeg, Int.reduceToNat, Nat.reduceEqDiff, Nat.reduceLT, Nat.reduceLeDiff, Nat.reduceMul, List.replicate, reduceCtorEq, TB, NB, t0, t4, t5, t8, t11, show ¬ (i : Int) < nw.length by omega, hx3, hy3, hxy]
              refine code_draw [(0, 2), (0, 4), (1, 2), (1, 4), (2, 4), (3, 4)] (by decide +kernel) (by decide +kernel) ?_
              simp -dsimp (maxSteps := 4000000) (disch := first | omega | assumption | (simp only [FB, Nat.reduceAdd]; done) | (simp only [LB]; omega)) only [EB, ↓reduceIte, WB, Nat.reduceSub, Nat.reduceAdd, Int.reduceEq, Int.reduceNe, Int.reduceLT, Int.reduceLE, Int.reduceAdd, Int.reduceSub, Int.reduceMul, Int.reduceNeg, Int.reduceToNat, Nat.reduceEqDiff, Nat.reduceLT, Nat.reduceLeDiff, Nat.reduceMul, List.replicate, reduceCtorEq, RB, Nat.reduceEqDiff, TB, NB, t0, t4, t5, t8]
              refine own15 _ l (by omega) ⟨n' + 1, h3, n' + 1, []⟩ n' (by simp only; omega) hvl3 _ fun v4 n4 h4 p1 p2 p3 p4 => ?_
              simp only at p1 p2 p3 p4
              have hy4 : look (a.next + 1) h4 = some (.cells [.string (mkStr y.name), .int .u32 y.root, .int .i64 y.keys] true) := by rw [p4 _ (by omega)]; exact hy3
              have hx4 : look a.next h4 = some (.cells [.string (mkStr x.name), .int .u32 x.root, .int .i64 x.keys] true) := by rw [p4 _ (by omega)]; exact hx3
              simp -dsimp (maxSteps := 4000000) (disch := first | omega | assumption | (simp only [FB, Nat.reduceAdd]; done) | (simp only [LB]; omega)) only [EB, ↓reduceIte, WB, Nat.reduceSub, Nat.reduceAdd, Int.reduceEq, Int.reduceNe, Int.reduceLT, Int.reduceLE, Int.reduceAdd, Int.reduceSub, Int.reduceMul, Int.reduceNeg, Int.reduceToNat, Nat.reduceEqDiff, Nat.reduceLT, Nat.reduceLeDiff, Nat.reduceMul, List.replicate, reduceCtorEq, RB, Nat.reduceEqDiff, TB, NB, t0, t4, t5, t8, hy4]
              refine set17 v4 l (by omega) y ⟨n4, h4, n4, []⟩ n4 (Nat.le_refl _) p3.rv _ fun v5 n5 h5 q1 q2 q3 q4 => ?_
              simp only at q1 q2 q3 q4
              rw [setB_put y hsrt] at q3
              have hx5 : look a.next h5 = some (.cells [.string (mkStr x.name), .int .u32 x.root, .int .i64 x.keys] true) := by rw [q4 _ (by omega)]; exact hx4
              have hpy := put_len y l
              simp -dsimp (maxSteps := 4000000) (disch := first | omega | assumption | (simp only [FB, Nat.reduceAdd]; done) | (simp only [LB]; omega)) only [EB, ↓reduceIte, WB, Nat.reduceSub, Nat.reduceAdd, Int.reduceEq, Int.reduceNe, Int.reduceLT, Int.reduceLE, Int.reduceAdd, Int.reduceSub, Int.reduceMul, Int.reduceNeg, Int.reduceToNat, Nat.reduceEqDiff, Nat.reduceLT, Nat.reduceLeDiff, Nat.reduceMul, List.replicate, reduceCtorEq, RB, Nat.reduceEqDiff, TB, NB, t0, t4, t5, t8, hx5]
              refine set17 v5 (putB y l) (by omega) x ⟨n5, h5, n5, []⟩ n5 (Nat.le_refl _) q3.rv _ fun v6 n6 h6 r1 r2 r3 r4 => ?_
              simp only at r1 r2 r3 r4
              rw [setB_put x (put_srt y hsrt)] at r3
              have hx6 : look a.next h6 = some (.cells [.string (mkStr x.name), .int .u32 x.root, .int .i64 x.keys] true) := by rw [r4 _ (by omega)]; exact hx5
              have hy6 : look (a.next + 1) h6 = some (.cells [.string (mkStr y.name), .int .u32 y.root, .int .i64 y.keys] true) := by rw [r4 _ (by omega), q4 _ (by omega)]; exact hy4
              have hvn6 : RV encB 3 h6 n6 (.slice (some ⟨bb, o, sp⟩) nw.length cq) nw := hvn3.keep (by omega) fun j hj => by rw [r4 j (by omega), q4 j (by omega), p4 j (by omega)]
              simp -dsimp (maxSteps := 4000000) (disch := first | omega | assumption | (simp only [FB, Nat.reduceAdd]; done) | (simp only [LB]; omega)) only [EB, ↓reduceIte, WB, Nat.reduceSub, Nat.reduceAdd, Int.reduceEq, Int.reduceNe, Int.reduceLT, Int.reduceLE, Int.reduceAdd, Int.reduceSub, Int.reduceMul, Int.reduceNeg, Int.reduceToNat, Nat.reduceEqDiff, Nat.reduceLT, Nat.reduceLeDiff, Nat.reduceMul, List.replicate, reduceCtorEq, RB, Nat.reduceEqDiff, TB, NB, t0, t4, t5, t8]
              refine code_draw [(0, 1), (0, 3), (0, 4), (1, 3), (1, 4), (2, 3), (2, 4)] (by decide +kernel) (by decide +kernel) ?_
              simp -dsimp (maxSteps := 4000000) (disch := first | omega | assumption | (simp only [FB, Nat.reduceAdd]; done) | (simp only [LB]; omega)) only [EB, ↓reduceIte, WB, Nat.reduceSub, Nat.reduceAdd, Int.reduceEq, Int.reduceNe, Int.reduceLT, Int.reduceLE, Int.reduceAdd, Int.reduceSub, Int.reduceMul, Int.reduceNeg, Int.reduceToNat, Nat.reduceEqDiff, Nat.reduceLT, Nat.reduceLeDiff, Nat.reduceMul, List.replicate, reduceCtorEq, RB, Nat.reduceEqDiff, TB, NB, t0, t4, t5, t8, hy6]
              refine set17 _ nw (by omega) y ⟨n6 + 1, h6, n6 + 1, []⟩ n6 (by simp only; omega) hvn6 _ fun v7 n7 h7 s1 s2 s3 s4 => ?_
              simp only at s1 s2 s3 s4
              rw [setB_put y hps] at s3
              have hy7 : look (a.next + 1) h7 = some (.cells [.string (mkStr y.name), .int .u32 y.root, .int .i64 y.keys] true) := by rw [s4 _ (by omega)]; exact hy6
              have hpn := put_len y nw
              simp -dsimp (maxSteps := 4000000) (disch := first | omega | assumption | (simp only [FB, Nat.reduceAdd]; done) | (simp only [LB]; omega)) only [EB, ↓reduceIte, WB, Nat.reduceSub, Nat.reduceAdd, Int.reduceEq, Int.reduceNe, Int.reduceLT, Int.reduceLE, Int.reduceAdd, Int.reduceSub, Int.reduceMul, Int.reduceNeg, Int.reduceToNat, Nat.reduceEqDiff, Nat.reduceLT, Nat.reduceLeDiff, Nat.reduceMul, List.replicate, reduceCtorEq, RB, Nat.reduceEqDiff, TB, NB, t0, t4, t5, t8, hy7]
              refine del18 v7 (putB y nw) (by omega) y.name ⟨n7, h7, n7, []⟩ n7 (Nat.le_refl _) s3.rv _ fun v8 n8 h8 u1 u2 u3 u4 => ?_
              simp only at u1 u2 u3 u4
              rw [del_put hps] at u3
              simp -dsimp (maxSteps := 4000000) (disch := first | omega | assumption | (simp only [FB, Nat.reduceAdd]; done) | (simp only [LB]; omega)) only [EB, ↓reduceIte, WB, Nat.reduceSub, Nat.reduceAdd, Int.reduceEq, Int.reduceNe, Int.reduceLT, Int.reduceLE, Int.reduceAdd, Int.reduceSub, Int.reduceMul, Int.reduceNeg, Int.reduceToNat, Nat.reduceEqDiff, Nat.reduceLT, Nat.reduceLeDiff, Nat.reduceMul, List.replicate, reduceCtorEq, RB, Nat.reduceEqDiff, TB, NB, t0, t4, t5, t8]
              have hy8 : look (a.next + 1) h8 = some (.cells [.string (mkStr y.name), .int .u32 y.root, .int .i64 y.keys] true) := by rw [u4 _ (by omega)]; exact hy7
              have hvn8 : RV encB 3 h8 n8 (.slice (some ⟨bb, o, sp⟩) nw.length cq) nw := hvn6.keep (by omega) fun j hj => by rw [u4 j (by omega), s4 j (by omega)]
              simp -dsimp (maxSteps := 4000000) (disch := first | omega | assumption | (simp only [FB, Nat.reduceAdd]; done) | (simp only [LB]; omega)) only [EB, ↓reduceIte, WB, Nat.reduceSub, Nat.reduceAdd, Int.reduceEq, Int.reduceNe, Int.reduceLT, Int.reduceLE, Int.reduceAdd, Int.reduceSub, Int.reduceMul, Int.reduceNeg, Int.reduceToNat, Nat.reduceEqDiff, Nat.reduceLT, Nat.reduceLeDiff, Nat.reduceMul, List.replicate, reduceCtorEq, TB, NB, t0, t4, t5, t8, hy8]
              refine set17 _ nw (by omega) y ⟨n8, h8, a.next, []⟩ n8 (Nat.le_refl _) hvn8 _ fun v9 n9 h9 w1 w2 w3 w4 => ?_
              simp only at w1 w2 w3 w4
              rw [setB_put y hps] at w3
              have heq : putB y nw = putB x (putB y l) := by rw [hnw]; exact put_swap hsrt hxy
              rw [heq] at w3
              have hpx := put_len x (putB y l)
              have hsm := fun K => same12 v9 v6 (putB x (putB y l)) (putB x (putB y l)) (by omega) ⟨n9, h9, a.next, []⟩ n9 (Nat.le_refl _) w3.rv (r3.rv.keep (by omega) fun j hj => by rw [w4 j (by omega), u4 j (by omega), s4 j (by omega)]) K
              have hy9 : look (a.next + 1) h9 = some (.cells [.string (mkStr y.name), .int .u32 y.root, .int .i64 y.keys] true) := by rw [w4 _ (by omega)]; exact hy8
              have hvn9 : RV encB 3 h9 n9 (.slice (some ⟨bb, o, sp⟩) nw.length cq) nw := hvn8.keep (by omega) fun j hj => w4 j (by omega)
              simp -dsimp (maxSteps := 4000000) (disch := first | omega | assumption | (simp only [FB, Nat.reduceAdd]; done) | (simp only [LB]; omega)) only [EB, ↓reduceIte, WB, Nat.reduceSub, Nat.reduceAdd, Int.reduceEq, Int.reduceNe, Int.reduceLT, Int.reduceLE, Int.reduceAdd, Int.reduceSub, Int.reduceMul, Int.reduceNeg, Int.reduceToNat, Nat.reduceEqDiff, Nat.reduceLT, Nat.reduceLeDiff, Nat.reduceMul, List.replicate, reduceCtorEq, TB, NB, t0, t4, t5, t8, hsm, decide_true, hy9]
              refine del18 _ nw (by omega) y.name ⟨n9, h9, a.next, []⟩ n9 (Nat.le_refl _) hvn9 _ fun v10 n10 h10 k1 k2 k3 k4 => ?_
              simp only at k1 k2 k3 k4
              have hdn : (delB nw y.name).length ≤ 61 := by have := List.length_eraseIdx_le nw (fidx (nameIs y.name) nw); unfold delB; omega
              have hsm2 := fun K => same12 v8 v10 (delB nw y.name) (delB nw y.name) (by omega) ⟨n10, h10, a.next, []⟩ n10 (Nat.le_refl _) (u3.rv.keep (by omega) fun j hj => by rw [k4 j (by omega), w4 j (by omega)]) k3.rv K
              simp -dsimp (maxSteps := 4000000) (disch := first | omega | assumption | (simp only [FB, Nat.reduceAdd]; done) | (simp only [LB]; omega)) only [EB, ↓reduceIte, WB, Nat.reduceSub, Nat.reduceAdd, Int.reduceEq, Int.reduceNe, Int.reduceLT, Int.reduceLE, Int.reduceAdd, Int.reduceSub, Int.reduceMul, Int.reduceNeg, Int.reduceToNat, Nat.reduceEqDiff, Nat.reduceLT, Nat.reduceLeDiff, Nat.reduceMul, List.replicate, reduceCtorEq, TB, NB, hsm2, decide_true, leave_fst flat_bool]
  · simp -dsimp (maxSteps := 4000000) (disch := first | omega | assumption | (simp only [FB, Nat.reduceAdd]; done) | (simp only [LB]; omega)) only [EB, ↓reduceIte, WB, Nat.reduceSub, Nat.reduceAdd, Int.reduceEq, Int.reduceNe, Int.reduceLT, Int.reduceLE, Int.reduceAdd, Int.reduceSub, Int.reduceMul, Int.reduceNeg, Int.reduceToNat, Nat.reduceEqDiff, Nat.reduceLT, Nat.reduceLeDiff, Nat.reduceMul, List.replicate, reduceCtorEq, TB, NB, lives8, ← hH2, hlt, decide_eq_false c1, leave_fst flat_bool]
theorem law7r (v : Value) (l : List Bkt) (s t : ByteArray) (p q r k : Int) (hll : l.length ≤ 5000000000000) (a : AW) (m : Nat) (hm : m ≤ a.next) (hv : SliceR BktR 3 l a.heap m [v]) :
    WCall Try.prog GV 7 [v, .agg #[.string (mkStr (strOf s)), .int .u32 p, .int .i64 q], .agg #[.string (mkStr (strOf t)), .int .u32 r, .int .i64 k]] a fun r _ => r = .bool true := by
  obtain ⟨h1, h2⟩ := SliceR.rv encB_len hv
  exact law7 v l ⟨strOf s, p, q⟩ ⟨strOf t, r, k⟩ hll (fun b hb => (h2 b hb).1) a m hm h1
end Go.Proofs.YtpcaoohacgkeiaaAM
