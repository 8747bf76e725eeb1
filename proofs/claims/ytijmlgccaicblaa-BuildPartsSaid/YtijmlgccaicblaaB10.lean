/- Chapter 13: BuildFull answers true. -/
import Derived.Test.YtijmlgccaicblaaB9
namespace Go.Proofs.YtijmlgccaicblaaAM
open Go Go.RowKit
set_option linter.unusedVariables false
set_option linter.unusedSimpArgs false
set_option maxRecDepth 10000
set_option maxHeartbeats 4000000

theorem law4 (size : Int) (v vc : Value) (l : List It) (cu : List Int) (hll : l.length ≤ 140737488355328) (hlc : cu.length ≤ 140737488355328) (hx : ∀ x ∈ l, x.key.length ≤ 140737488355328 ∧ x.val.length ≤ 140737488355328) (hcu : ∀ c ∈ cu, -9223372036854775808 ≤ c ∧ c ≤ 9223372036854775807) (a : AW) (m : Nat) (hm : m ≤ a.next) (hv : RV encI 5 a.heap m v l) (hvc : RV encN 1 a.heap m vc cu) :
    WCall Try.prog GV 4 [.int .i64 size, v, vc] a fun r _ => r = .bool true := by
  rw [call_env Try.func4 rfl Try.ntmps4 rfl rfl (by simp)]
  obtain ⟨pp, c, rfl⟩ := hv.len
  obtain ⟨pc, cc0, rfl⟩ := hvc.len
  have hlt : ∀ K : Value → AW → Prop, WCall Try.prog GV 14 [.slice pp l.length c, .int .i64 100, .int .i64 4000] ⟨a.next, a.heap, a.next, []⟩ K = K (.bool (decide (l.length ≤ 100 ∧ lightI l ≤ 4000))) ⟨a.next, a.heap, a.next, []⟩ := fun K => light14 (.slice pp l.length c) l 100 4000 (by omega) (by omega) hll hx ⟨a.next, a.heap, a.next, []⟩ m hm hv K
  by_cases c1 : l.length ≤ 100 ∧ lightI l ≤ 4000
  · by_cases c2 : (100 : Int) < cu.length
    · simp -dsimp (maxSteps := 4000000) (disch := first | omega | assumption | (simp only [FB, Nat.reduceAdd]; done) | (simp only [LB]; omega)) only [EB, ↓reduceIte, WB, Nat.reduceSub, Nat.reduceAdd, Int.reduceEq, Int.reduceNe, Int.reduceLT, Int.reduceLE, Int.reduceAdd, Int.reduceSub, Int.reduceMul, Int.reduceNeg, Int.reduceToNat, Nat.reduceEqDiff, Nat.reduceLT, Nat.reduceLeDiff, Nat.reduceMul, List.replicate, reduceCtorEq, TB, NB, lives9, hlt, decide_eq_true c1, c2, leave_fst flat_bool]
    · simp -dsimp (maxSteps := 4000000) (disch := first | omega | assumption | (simp only [FB, Nat.reduceAdd]; done) | (simp only [LB]; omega)) only [EB, ↓reduceIte, WB, Nat.reduceSub, Nat.reduceAdd, Int.reduceEq, Int.reduceNe, Int.reduceLT, Int.reduceLE, Int.reduceAdd, Int.reduceSub, Int.reduceMul, Int.reduceNeg, Int.reduceToNat, Nat.reduceEqDiff, Nat.reduceLT, Nat.reduceLeDiff, Nat.reduceMul, List.replicate, reduceCtorEq, TB, NB, lives9, hlt, decide_eq_true c1, c2]
      refine leaves15 size (.slice pp l.length c) l (by omega) ⟨a.next, a.heap, a.next, []⟩ m hm hv _ fun vp n1 h1 x1 x2 x3 => ?_
      simp only at x1 x3
      have hls := leavesI_cases size l
      obtain ⟨X, hX⟩ : ∃ X, X = leavesI size l := ⟨_, rfl⟩
      rw [← hX] at x2 hls ⊢
      rcases hls with ⟨e1, e2⟩ | ⟨e1, hmp, hgs, E, hup, hfp, hla, hEl, hps⟩
      · rw [e2] at x2
        obtain ⟨pq, cq, rfl⟩ := x2.len
        simp -dsimp (maxSteps := 4000000) (disch := first | omega | assumption | (simp only [FB, Nat.reduceAdd]; done) | (simp only [LB]; omega)) only [EB, ↓reduceIte, WB, Nat.reduceSub, Nat.reduceAdd, Int.reduceEq, Int.reduceNe, Int.reduceLT, Int.reduceLE, Int.reduceAdd, Int.reduceSub, Int.reduceMul, Int.reduceNeg, Int.reduceToNat, Nat.reduceEqDiff, Nat.reduceLT, Nat.reduceLeDiff, Nat.reduceMul, List.replicate, reduceCtorEq, TB, NB, show ¬ X.2 = 0 from e1, List.length_nil, Int.natCast_zero, leave_fst flat_bool]
      · rw [hps] at x2
        have hok := mayP_ok hmp
        have hbd := sizeI_bd l hok
        have hrs : room size = size - 24 := by unfold room; rw [if_pos hgs]
        have hgs' := hgs
        simp only [goodSz] at hgs'
        have hgood := parts_good l (room size) E 0 hup hfp
        have hflat := cutAt_flat l E 0 hup hla
        rw [List.drop_zero] at hflat
        have hcl := cutAt_len l E 0
        obtain ⟨ps, hpsd⟩ : ∃ ps, ps = cutAt l 0 E := ⟨_, rfl⟩
        rw [← hpsd] at x2 hgood hflat hcl
        have hpx : ∀ i (hi : i < ps.length), ∀ x ∈ ps[i], x ∈ l := fun i hi x hx => by
          rw [← hflat]; exact List.mem_flatten.2 ⟨_, List.getElem_mem hi, hx⟩
        have hokx : ∀ x ∈ l, x.key.length ≤ 140737488355328 ∧ x.val.length ≤ 140737488355328 := hx
        obtain ⟨pq, cq, rfl⟩ := x2.len
        simp -dsimp (maxSteps := 4000000) (disch := first | omega | assumption | (simp only [FB, Nat.reduceAdd]; done) | (simp only [LB]; omega)) only [EB, ↓reduceIte, WB, Nat.reduceSub, Nat.reduceAdd, Int.reduceEq, Int.reduceNe, Int.reduceLT, Int.reduceLE, Int.reduceAdd, Int.reduceSub, Int.reduceMul, Int.reduceNeg, Int.reduceToNat, Nat.reduceEqDiff, Nat.reduceLT, Nat.reduceLeDiff, Nat.reduceMul, List.replicate, reduceCtorEq, TB, NB, e1, room16, hrs]
        refine loop_inv (fun r t w => ∃ i n h, ∃ e : Nat → Value, r = ps.length - i ∧ i ≤ ps.length ∧ w = ⟨n, h, a.next, []⟩ ∧ n1 ≤ n ∧ (∀ j, j < n1 → look j h = look j h1) ∧ t = TT 157 e ∧ e 0 = .int .i64 size ∧ e 1 = .slice pp l.length c ∧ e 2 = .slice pc cu.length cc0 ∧ e 7 = .slice pq ps.length cq ∧ e 9 = .int .i64 (size - 24) ∧ e 10 = .int .i64 i)
          ⟨0, n1, h1, _, rfl, by omega, rfl, Nat.le_refl _, fun _ _ => rfl, rfl, rfl, rfl, rfl, rfl, rfl, rfl⟩ ?_
        rintro r t w ⟨i, n, h, e, rfl, hi, rfl, hn, hh, rfl, t0, t1, t2, t7, t9, t10⟩
        by_cases hlti : i < ps.length
        · obtain ⟨g1, g2, g3⟩ := hgood i hlti
          obtain ⟨b, o, sp, rw0, cc, pi_, ki, rfl, hlk, hbn, hx1, hr1⟩ := x2.at hlti
          have hlk' : look b h = some (.cells cc rw0) := by rw [hh b (by omega)]; exact hlk
          have hrk : RV encI 5 h n (.slice pi_ ps[i].length ki) ps[i] := hr1.keep (by omega) fun j hj => hh j (by omega)
          have hln : ps[i].length ≤ l.length := by
            rw [← hflat]
            have := take_flatten ps i hlti
            have := take_flatten_le ps (i + 1)
            have h3 := congrArg List.length (take_flatten ps i hlti)
            rw [List.length_append] at h3; omega
          have hsz := fun bs K => size17 (.slice pi_ ps[i].length ki) ps[i] (by omega) (by omega) (fun x hx' => hokx x (hpx i hlti x hx')) ⟨n + 1, h, bs, []⟩ n (by simp only; omega) hrk K
          have hsb : (sizeI ps[i] : Int) ≤ size - 24 := by omega
          by_cases hl2 : i + 1 < ps.length
          · obtain ⟨g4, g5⟩ := g3 hl2
            obtain ⟨b2, o2, sp2, rw2, cc2, pj, kj, e2, hlk2, hbn2, hx2, hr2⟩ := x2.at hl2
            cases e2
            rw [hlk] at hlk2
            cases hlk2
            obtain ⟨b3, o3, sp3, rw3, cc3, rfl, hlk3, hbn3, hle3, hat3, -⟩ := hr2.at encI_len g4
            simp only [Nat.zero_mul, Nat.add_zero] at hat3 hle3
            have hlk3' : look b3 h = some (.cells cc3 rw3) := by rw [hh b3 (by omega)]; exact hlk3
            have hxj := hokx _ (hpx (i + 1) hl2 _ (List.getElem_mem g4))
            have hsj := itOk_sz (hok _ (hpx (i + 1) hl2 _ (List.getElem_mem g4)))
            have h1' := fun a K => one18 ps[i + 1][0] hxj.1 hxj.2 a K
            simp -dsimp (maxSteps := 4000000) (disch := first | omega | assumption | (simp only [FB, Nat.reduceAdd]; done) | (simp only [LB]; omega)) only [EB, ↓reduceIte, WB, Nat.reduceSub, Nat.reduceAdd, Int.reduceEq, Int.reduceNe, Int.reduceLT, Int.reduceLE, Int.reduceAdd, Int.reduceSub, Int.reduceMul, Int.reduceNeg, Int.reduceToNat, Nat.reduceEqDiff, Nat.reduceLT, Nat.reduceLeDiff, Nat.reduceMul, List.replicate, reduceCtorEq, TB, NB, t0, t1, t2, t7, t9, t10, show (i : Int) < ps.length by omega]
            refine code_draw [(0, 1), (7, 8), (7, 12), (8, 12), (9, 12), (10, 12), (11, 12), (16, 18), (16, 19), (17, 18), (17, 19), (22, 23), (22, 24), (30, 31), (30, 35), (30, 36), (30, 37), (30, 38), (30, 39), (30, 40), (30, 41), (30, 44), (31, 35), (31, 36), (31, 37), (31, 38), (31, 39), (31, 40), (31, 41), (31, 44), (32, 35), (32, 36), (32, 37), (32, 38), (32, 39), (32, 40), (32, 41), (32, 44), (33, 35), (33, 36), (33, 37), (33, 38), (33, 39), (33, 40), (33, 41), (33, 44), (34, 35), (34, 36), (34, 37), (34, 38), (34, 39), (34, 40), (34, 41), (34, 44), (35, 36), (35, 37), (35, 44), (36, 44), (37, 44), (38, 44), (39, 44), (40, 44), (41, 44), (42, 44), (43, 44)] (by decide +kernel) (by decide +kernel) ?_
            simp -dsimp (maxSteps := 4000000) (disch := first | omega | assumption | (simp only [FB, Nat.reduceAdd]; done) | (simp only [LB]; omega)) only [EB, ↓reduceIte, WB, Nat.reduceSub, Nat.reduceAdd, Int.reduceEq, Int.reduceNe, Int.reduceLT, Int.reduceLE, Int.reduceAdd, Int.reduceSub, Int.reduceMul, Int.reduceNeg, Int.reduceToNat, Nat.reduceEqDiff, Nat.reduceLT, Nat.reduceLeDiff, Nat.reduceMul, List.replicate, reduceCtorEq, RB, Nat.reduceEqDiff, TB, NB, t0, t1, t2, t7, t9, t10, hlk', hx1, hx2, hlk3', hat3, hsz, h1', wrap64, show ¬ (ps[i].length : Int) = 0 by omega, show ¬ size - 24 < (sizeI ps[i] : Int) by omega, show ((i : Int) + 1) < ps.length by omega, show ((i : Int) + 1).toNat = i + 1 by omega, show ¬ (ps[i + 1].length : Int) = 0 by omega, show ¬ ((sizeI ps[i] : Int) + isz ps[i + 1][0] ≤ size - 24) by omega, show b < n + 1 by omega, show b3 < n + 1 by omega, show (0 : Int) < (ps[i + 1].length : Int) by omega]
            refine ⟨ps.length - (i + 1), by omega, i + 1, n + 1, h, _, rfl, by omega, rfl, by omega, hh, rfl, ?_⟩
            simp only [ups_at, ↓reduceIte, Nat.reduceEqDiff]; exact ⟨t0, t1, t2, t7, t9, (by first | trivial | rfl | omega)⟩
          · simp -dsimp (maxSteps := 4000000) (disch := first | omega | assumption | (simp only [FB, Nat.reduceAdd]; done) | (simp only [LB]; omega)) only [EB, ↓reduceIte, WB, Nat.reduceSub, Nat.reduceAdd, Int.reduceEq, Int.reduceNe, Int.reduceLT, Int.reduceLE, Int.reduceAdd, Int.reduceSub, Int.reduceMul, Int.reduceNeg, Int.reduceToNat, Nat.reduceEqDiff, Nat.reduceLT, Nat.reduceLeDiff, Nat.reduceMul, List.replicate, reduceCtorEq, TB, NB, t0, t1, t2, t7, t9, t10, show (i : Int) < ps.length by omega]
            refine code_draw [(0, 1), (7, 8), (7, 12), (8, 12), (9, 12), (10, 12), (11, 12), (16, 18), (16, 19), (17, 18), (17, 19), (22, 23), (22, 24), (30, 31), (30, 35), (30, 36), (30, 37), (30, 38), (30, 39), (30, 40), (30, 41), (30, 44), (31, 35), (31, 36), (31, 37), (31, 38), (31, 39), (31, 40), (31, 41), (31, 44), (32, 35), (32, 36), (32, 37), (32, 38), (32, 39), (32, 40), (32, 41), (32, 44), (33, 35), (33, 36), (33, 37), (33, 38), (33, 39), (33, 40), (33, 41), (33, 44), (34, 35), (34, 36), (34, 37), (34, 38), (34, 39), (34, 40), (34, 41), (34, 44), (35, 36), (35, 37), (35, 44), (36, 44), (37, 44), (38, 44), (39, 44), (40, 44), (41, 44), (42, 44), (43, 44)] (by decide +kernel) (by decide +kernel) ?_
            simp -dsimp (maxSteps := 4000000) (disch := first | omega | assumption | (simp only [FB, Nat.reduceAdd]; done) | (simp only [LB]; omega)) only [EB, ↓reduceIte, WB, Nat.reduceSub, Nat.reduceAdd, Int.reduceEq, Int.reduceNe, Int.reduceLT, Int.reduceLE, Int.reduceAdd, Int.reduceSub, Int.reduceMul, Int.reduceNeg, Int.reduceToNat, Nat.reduceEqDiff, Nat.reduceLT, Nat.reduceLeDiff, Nat.reduceMul, List.replicate, reduceCtorEq, RB, Nat.reduceEqDiff, TB, NB, t0, t1, t2, t7, t9, t10, hlk', hx1, hsz, wrap64, show ¬ (ps[i].length : Int) = 0 by omega, show ¬ size - 24 < (sizeI ps[i] : Int) by omega, show ¬ ((i : Int) + 1) < ps.length by omega, show b < n + 1 by omega]
            refine ⟨ps.length - (i + 1), by omega, i + 1, n + 1, h, _, rfl, by omega, rfl, by omega, hh, rfl, ?_⟩
            simp only [ups_at, ↓reduceIte, Nat.reduceEqDiff]; exact ⟨t0, t1, t2, t7, t9, (by first | trivial | rfl | omega)⟩
        · obtain rfl : i = ps.length := by omega
          simp -dsimp (maxSteps := 4000000) (disch := first | omega | assumption | (simp only [FB, Nat.reduceAdd]; done) | (simp only [LB]; omega)) only [EB, ↓reduceIte, WB, Nat.reduceSub, Nat.reduceAdd, Int.reduceEq, Int.reduceNe, Int.reduceLT, Int.reduceLE, Int.reduceAdd, Int.reduceSub, Int.reduceMul, Int.reduceNeg, Int.reduceToNat, Nat.reduceEqDiff, Nat.reduceLT, Nat.reduceLeDiff, Nat.reduceMul, List.replicate, reduceCtorEq, TB, NB, t0, t1, t2, t7, t9, t10, show ¬ (ps.length : Int) < ps.length by omega]
          refine flat19 _ ps (by omega) (by rw [hflat]; omega) ⟨n, h, a.next, []⟩ n1 (by simp only; omega) (x2.keep (Nat.le_refl _) fun j hj => hh j hj) _ fun v1 v2 n2 h2 y1 y2 y3 y4 => ?_
          rw [hflat] at y2
          simp only at y1 y4
          have hv2 : RV encI 5 h2 n2 (.slice pp l.length c) l := hv.keep (by omega) fun j hj => by rw [y4 j (by omega), hh j (by omega), x3 j (by omega)]
          have hc2 : RV encN 1 h2 n2 (.slice pc cu.length cc0) cu := hvc.keep (by omega) fun j hj => by rw [y4 j (by omega), hh j (by omega), x3 j (by omega)]
          simp -dsimp (maxSteps := 4000000) (disch := first | omega | assumption | (simp only [FB, Nat.reduceAdd]; done) | (simp only [LB]; omega)) only [EB, ↓reduceIte, WB, Nat.reduceSub, Nat.reduceAdd, Int.reduceEq, Int.reduceNe, Int.reduceLT, Int.reduceLE, Int.reduceAdd, Int.reduceSub, Int.reduceMul, Int.reduceNeg, Int.reduceToNat, Nat.reduceEqDiff, Nat.reduceLT, Nat.reduceLeDiff, Nat.reduceMul, List.replicate, reduceCtorEq, TB, NB, ]
          refine outer4 size l pp c pc cc0 cu (.slice pq ps.length cq) v1 (by omega) (by omega) hokx hcu (by omega) hgs n2 a.next h2 hv2 hc2 ps.length E hcl hup hfp hla _ ?_ _ fun k0 at_ e2 w1 w2 w3 => ?_
          · simp only [ups_at, ↓reduceIte, Nat.reduceEqDiff]; exact ⟨t0, t1, t2, t7, t9, (by first | trivial | rfl | omega), (by first | trivial | rfl | omega), (by first | trivial | rfl | omega), (by first | trivial | rfl | omega)⟩
          · obtain ⟨z0, z1, z2, z7, z9, z11, z13, z14, z15⟩ := w3
            have hsm := fun K => same20 v1 (.slice pp l.length c) l l (by omega) ⟨n2, h2, a.next, []⟩ n2 (Nat.le_refl _) y2 hv2 K
            have hnd := fun a K => need21 size 1 (by omega) (by omega) a K
            have hnv : (if goodSz size ∧ (1 : Int) ≤ 1 then ((1 : Int) - 1).tdiv (size - 24) + 1 else 0) = 1 := by rw [if_pos ⟨hgs, by omega⟩]; simp
            rw [hnv] at hnd
            simp -dsimp (maxSteps := 4000000) (disch := first | omega | assumption | (simp only [FB, Nat.reduceAdd]; done) | (simp only [LB]; omega)) only [EB, ↓reduceIte, WB, Nat.reduceSub, Nat.reduceAdd, Int.reduceEq, Int.reduceNe, Int.reduceLT, Int.reduceLE, Int.reduceAdd, Int.reduceSub, Int.reduceMul, Int.reduceNeg, Int.reduceToNat, Nat.reduceEqDiff, Nat.reduceLT, Nat.reduceLeDiff, Nat.reduceMul, List.replicate, reduceCtorEq, TB, NB, z0, z1, z2, z7, z9, z11, z13, z14, z15, hsm, hnd, key22, show (ps.length : Int) ≤ k0 by omega, decide_true, List.length_nil, leave_fst flat_bool]
  · simp -dsimp (maxSteps := 4000000) (disch := first | omega | assumption | (simp only [FB, Nat.reduceAdd]; done) | (simp only [LB]; omega)) only [EB, ↓reduceIte, WB, Nat.reduceSub, Nat.reduceAdd, Int.reduceEq, Int.reduceNe, Int.reduceLT, Int.reduceLE, Int.reduceAdd, Int.reduceSub, Int.reduceMul, Int.reduceNeg, Int.reduceToNat, Nat.reduceEqDiff, Nat.reduceLT, Nat.reduceLeDiff, Nat.reduceMul, List.replicate, reduceCtorEq, TB, NB, lives9, hlt, decide_eq_false c1, leave_fst flat_bool]
end Go.Proofs.YtijmlgccaicblaaAM
