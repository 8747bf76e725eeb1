/- Chapter 3: DeviceScript answers true. -/
import Derived.Test.YtgdmgolmeeigdaaD23
namespace Go.Proofs.YtgdmgolmeeigdaaAM
open Go Go.RowKit
set_option linter.unusedVariables false
set_option linter.unusedSimpArgs false
set_option maxRecDepth 10000
set_option maxHeartbeats 4000000

theorem nil25 {x c} : binA Try.prog .eql 25 x (.const c) (.pointer none) (.pointer none) = some (.bool true) := rfl
theorem nil49 {x c} : binA Try.prog .eql 49 x (.const c) (.pointer none) (.pointer none) = some (.bool true) := rfl
theorem nnil49 {x c} : binA Try.prog .neq 49 x (.const c) (.pointer none) (.pointer none) = some (.bool false) := rfl
theorem eql49 {x c p} : binA Try.prog .eql 49 x (.const c) (.pointer (some p)) (.pointer none) = some (.bool false) := by
  have h : flat (.pointer (some p)) = false := rfl
  simp only [binA, h, Bool.false_and, Bool.false_eq_true, if_false, und49, nilEq, isConstO, Bool.or_true, if_true]
theorem neq49 {x c p} : binA Try.prog .neq 49 x (.const c) (.pointer (some p)) (.pointer none) = some (.bool true) := by
  have h : flat (.pointer (some p)) = false := rfl
  simp only [binA, h, Bool.false_and, Bool.false_eq_true, if_false, und49, nilEq, isConstO, Bool.or_true, if_true, Bool.not_false]
def Dv.runs (D : Dv) (l : List Act) : Dv := l.foldl Dv.step D
theorem runs_ok {D : Dv} {k : Nat} (hk : D.Ok k) (l : List Act) : (D.runs l).Ok (k + l.length) := by
  unfold Dv.runs
  induction l generalizing D k with
  | nil => exact hk
  | cons a l ih =>
    rw [List.foldl_cons, List.length_cons, show k + (l.length + 1) = (k + 1) + l.length by omega]
    exact ih (step_ok hk a)
def D1 (c : Int) (im : List UInt8) : Dv := ⟨128, c, im, im, [], -1, 0⟩
theorem both_new1 (c : Int) (hc : 2 ≤ c ∧ c ≤ 20) (im : List UInt8) (him : im.length ≤ 1500) {h : List (Nat × Blk)} {n q q2 : Nat} (hq : q < n ∧ q2 < n ∧ q ≠ q2) : Both ((n + 1, .cells (refC 128 c im (.slice none 0 0) im (-1) 0) true) :: (n, .cells (devC 128 c im im (.slice none 0 0) (-1) 0) true) :: h) (n + 2) n q (fun _ => False) (n + 1) q2 (D1 c im) (D1 c im) := by
  refine ⟨⟨⟨.slice none 0 0, [], ?_, .inl ⟨rfl, rfl⟩, rfl, fun i fv o e1 e2 => by simp at e1⟩, by omega, fun h => h, fun h => h, ⟨by omega, by omega, fun j hj => hj.elim⟩, ⟨by simp [D1], by simp [D1]⟩, by simp [D1], by simp only [D1]; omega, by simp only [D1]; omega, fun o ho => by simp [D1] at ho⟩, ⟨⟨.slice none 0 0, look_self, .inl ⟨rfl, rfl⟩⟩, by omega, ⟨by omega, by omega⟩, ⟨by simp [D1], by simp [D1]⟩, by simp [D1], by simp only [D1]; omega, by simp only [D1]; omega, fun o ho => by simp [D1] at ho⟩, by omega, by omega, by omega, by omega, fun h => h, fun h => h⟩
  rw [look_miss (by omega), look_self]; rfl
theorem d1_ok (c : Int) (hc : 2 ≤ c ∧ c ≤ 20) (im : List UInt8) : (D1 c im).Ok 0 := ⟨rfl, hc, by simp [D1], by simp [D1]⟩
theorem law7 (size cap : Int) (im : List UInt8) (him : im.length ≤ 9223372036854775807) (v : Value) (l : List Act) (hll : l.length ≤ 140737488355328) (a : AW) (m : Nat) (ham : a.next = m + 2) (hv : SliceR ActR 5 l a.heap m [v]) :
    WCall Try.prog GV 7 [.int .i64 size, .int .i64 cap, .string (mkStr im), v] a fun v _ => v = .bool true := by
  rw [call_env Try.func7 rfl Try.ntmps7 rfl rfl (by simp)]
  have hv' : SliceR ActR 5 l a.heap a.next [v] := slice_keeps act_keeps _ _ _ _ _ _ hv (by omega) fun _ _ => rfl
  obtain ⟨p, c, rfl⟩ := hv.len
  have hlt := fun K => light25 im him l hll (.slice p l.length c) ⟨a.next, a.heap, a.next, []⟩ hv' K
  cases hlb : lightB im l with
  | false =>
    rw [hlb] at hlt
    simp -dsimp (maxSteps := 4000000) (disch := first | omega | assumption | (simp only [FB, Nat.reduceAdd]; done) | (simp only [LB]; omega)) only [EB, ↓reduceIte, WB, Nat.reduceSub, Nat.reduceAdd, Int.reduceEq, Int.reduceNe, Int.reduceLT, Int.reduceLE, Int.reduceAdd, Int.reduceSub, Int.reduceMul, Int.reduceNeg, Int.reduceToNat, Nat.reduceEqDiff, Nat.reduceLT, Nat.reduceLeDiff, Nat.reduceMul, List.replicate, reduceCtorEq, op_len und9 rfl, lives9, hlt]
  | true =>
    rw [hlb] at hlt
    simp only [lightB, Bool.and_eq_true, decide_eq_true_eq] at hlb
    obtain ⟨c1, c2, c3⟩ := hlb
    by_cases hc20 : (20 : Int) < cap
    · by_cases hcm : cap ≤ 1048576
      · simp -dsimp (maxSteps := 4000000) (disch := first | omega | assumption | (simp only [FB, Nat.reduceAdd]; done) | (simp only [LB]; omega)) only [EB, ↓reduceIte, WB, Nat.reduceSub, Nat.reduceAdd, Int.reduceEq, Int.reduceNe, Int.reduceLT, Int.reduceLE, Int.reduceAdd, Int.reduceSub, Int.reduceMul, Int.reduceNeg, Int.reduceToNat, Nat.reduceEqDiff, Nat.reduceLT, Nat.reduceLeDiff, Nat.reduceMul, List.replicate, reduceCtorEq, op_len und9 rfl, lives9, hlt, hc20, hcm]
      · have nb : ∀ s, newBad s cap := fun s => .inr (.inr (by omega))
        by_cases hg : goodSz size
        · simp -dsimp (maxSteps := 4000000) (disch := first | omega | assumption | (simp only [FB, Nat.reduceAdd]; done) | (simp only [LB]; omega)) only [EB, ↓reduceIte, WB, Nat.reduceSub, Nat.reduceAdd, Int.reduceEq, Int.reduceNe, Int.reduceLT, Int.reduceLE, Int.reduceAdd, Int.reduceSub, Int.reduceMul, Int.reduceNeg, Int.reduceToNat, Nat.reduceEqDiff, Nat.reduceLT, Nat.reduceLeDiff, Nat.reduceMul, List.replicate, reduceCtorEq, op_len und9 rfl, lives9, hlt, hc20, hcm, good28, good29, hg, bin_neq_bool und4, new11_bad 128 cap (nb 128), new26_bad 128 cap (nb 128), eq_self, nil25, nil49]
          rw [code_loop]
          by_cases h0 : (0 : Int) < l.length
          · simp -dsimp (maxSteps := 4000000) (disch := first | omega | assumption | (simp only [FB, Nat.reduceAdd]; done) | (simp only [LB]; omega)) only [EB, ↓reduceIte, WB, Nat.reduceSub, Nat.reduceAdd, Int.reduceEq, Int.reduceNe, Int.reduceLT, Int.reduceLE, Int.reduceAdd, Int.reduceSub, Int.reduceMul, Int.reduceNeg, Int.reduceToNat, Nat.reduceEqDiff, Nat.reduceLT, Nat.reduceLeDiff, Nat.reduceMul, List.replicate, reduceCtorEq, op_len und9 rfl, op_len und46 rfl, h0, nnil49]
          · simp -dsimp (maxSteps := 4000000) (disch := first | omega | assumption | (simp only [FB, Nat.reduceAdd]; done) | (simp only [LB]; omega)) only [EB, ↓reduceIte, WB, Nat.reduceSub, Nat.reduceAdd, Int.reduceEq, Int.reduceNe, Int.reduceLT, Int.reduceLE, Int.reduceAdd, Int.reduceSub, Int.reduceMul, Int.reduceNeg, Int.reduceToNat, Nat.reduceEqDiff, Nat.reduceLT, Nat.reduceLeDiff, Nat.reduceMul, List.replicate, reduceCtorEq, op_len und9 rfl, op_len und46 rfl, h0, nnil49]
        · simp -dsimp (maxSteps := 4000000) (disch := first | omega | assumption | (simp only [FB, Nat.reduceAdd]; done) | (simp only [LB]; omega)) only [EB, ↓reduceIte, WB, Nat.reduceSub, Nat.reduceAdd, Int.reduceEq, Int.reduceNe, Int.reduceLT, Int.reduceLE, Int.reduceAdd, Int.reduceSub, Int.reduceMul, Int.reduceNeg, Int.reduceToNat, Nat.reduceEqDiff, Nat.reduceLT, Nat.reduceLeDiff, Nat.reduceMul, List.replicate, reduceCtorEq, op_len und9 rfl, lives9, hlt, hc20, hcm, good28, good29, hg, bin_neq_bool und4, new11_bad size cap (nb size), new26_bad size cap (nb size), eq_self, nil25, nil49]
          rw [code_loop]
          by_cases h0 : (0 : Int) < l.length
          · simp -dsimp (maxSteps := 4000000) (disch := first | omega | assumption | (simp only [FB, Nat.reduceAdd]; done) | (simp only [LB]; omega)) only [EB, ↓reduceIte, WB, Nat.reduceSub, Nat.reduceAdd, Int.reduceEq, Int.reduceNe, Int.reduceLT, Int.reduceLE, Int.reduceAdd, Int.reduceSub, Int.reduceMul, Int.reduceNeg, Int.reduceToNat, Nat.reduceEqDiff, Nat.reduceLT, Nat.reduceLeDiff, Nat.reduceMul, List.replicate, reduceCtorEq, op_len und9 rfl, op_len und46 rfl, h0, nnil49]
          · simp -dsimp (maxSteps := 4000000) (disch := first | omega | assumption | (simp only [FB, Nat.reduceAdd]; done) | (simp only [LB]; omega)) only [EB, ↓reduceIte, WB, Nat.reduceSub, Nat.reduceAdd, Int.reduceEq, Int.reduceNe, Int.reduceLT, Int.reduceLE, Int.reduceAdd, Int.reduceSub, Int.reduceMul, Int.reduceNeg, Int.reduceToNat, Nat.reduceEqDiff, Nat.reduceLT, Nat.reduceLeDiff, Nat.reduceMul, List.replicate, reduceCtorEq, op_len und9 rfl, op_len und46 rfl, h0, nnil49]
    · by_cases hg : goodSz size
      · by_cases hc2 : cap < 2
        · simp -dsimp (maxSteps := 4000000) (disch := first | omega | assumption | (simp only [FB, Nat.reduceAdd]; done) | (simp only [LB]; omega)) only [EB, ↓reduceIte, WB, Nat.reduceSub, Nat.reduceAdd, Int.reduceEq, Int.reduceNe, Int.reduceLT, Int.reduceLE, Int.reduceAdd, Int.reduceSub, Int.reduceMul, Int.reduceNeg, Int.reduceToNat, Nat.reduceEqDiff, Nat.reduceLT, Nat.reduceLeDiff, Nat.reduceMul, List.replicate, reduceCtorEq, op_len und9 rfl, lives9, hlt, hc20, good28, good29, hg, bin_neq_bool und4, new11_bad 128 cap (.inr (.inl hc2)), new26_bad 128 cap (.inr (.inl hc2)), eq_self, nil25, nil49]
          rw [code_loop]
          by_cases h0 : (0 : Int) < l.length
          · simp -dsimp (maxSteps := 4000000) (disch := first | omega | assumption | (simp only [FB, Nat.reduceAdd]; done) | (simp only [LB]; omega)) only [EB, ↓reduceIte, WB, Nat.reduceSub, Nat.reduceAdd, Int.reduceEq, Int.reduceNe, Int.reduceLT, Int.reduceLE, Int.reduceAdd, Int.reduceSub, Int.reduceMul, Int.reduceNeg, Int.reduceToNat, Nat.reduceEqDiff, Nat.reduceLT, Nat.reduceLeDiff, Nat.reduceMul, List.replicate, reduceCtorEq, op_len und9 rfl, op_len und46 rfl, h0, nnil49]
          · simp -dsimp (maxSteps := 4000000) (disch := first | omega | assumption | (simp only [FB, Nat.reduceAdd]; done) | (simp only [LB]; omega)) only [EB, ↓reduceIte, WB, Nat.reduceSub, Nat.reduceAdd, Int.reduceEq, Int.reduceNe, Int.reduceLT, Int.reduceLE, Int.reduceAdd, Int.reduceSub, Int.reduceMul, Int.reduceNeg, Int.reduceToNat, Nat.reduceEqDiff, Nat.reduceLT, Nat.reduceLeDiff, Nat.reduceMul, List.replicate, reduceCtorEq, op_len und9 rfl, op_len und46 rfl, h0, nnil49]
        · by_cases hfull : cap < ((im.length / 128 : Nat) : Int)
          · simp -dsimp (maxSteps := 4000000) (disch := first | omega | assumption | (simp only [FB, Nat.reduceAdd]; done) | (simp only [LB]; omega)) only [EB, ↓reduceIte, WB, Nat.reduceSub, Nat.reduceAdd, Int.reduceEq, Int.reduceNe, Int.reduceLT, Int.reduceLE, Int.reduceAdd, Int.reduceSub, Int.reduceMul, Int.reduceNeg, Int.reduceToNat, Nat.reduceEqDiff, Nat.reduceLT, Nat.reduceLeDiff, Nat.reduceMul, List.replicate, reduceCtorEq, op_len und9 rfl, lives9, hlt, hc20, good28, good29, hg, bin_neq_bool und4, new11_full im (by omega) cap (by omega) hfull, new26_full im (by omega) cap (by omega) hfull, eq_self, nil25, nil49]
            rw [code_loop]
            by_cases h0 : (0 : Int) < l.length
            · simp -dsimp (maxSteps := 4000000) (disch := first | omega | assumption | (simp only [FB, Nat.reduceAdd]; done) | (simp only [LB]; omega)) only [EB, ↓reduceIte, WB, Nat.reduceSub, Nat.reduceAdd, Int.reduceEq, Int.reduceNe, Int.reduceLT, Int.reduceLE, Int.reduceAdd, Int.reduceSub, Int.reduceMul, Int.reduceNeg, Int.reduceToNat, Nat.reduceEqDiff, Nat.reduceLT, Nat.reduceLeDiff, Nat.reduceMul, List.replicate, reduceCtorEq, op_len und9 rfl, op_len und46 rfl, h0, nnil49]
            · simp -dsimp (maxSteps := 4000000) (disch := first | omega | assumption | (simp only [FB, Nat.reduceAdd]; done) | (simp only [LB]; omega)) only [EB, ↓reduceIte, WB, Nat.reduceSub, Nat.reduceAdd, Int.reduceEq, Int.reduceNe, Int.reduceLT, Int.reduceLE, Int.reduceAdd, Int.reduceSub, Int.reduceMul, Int.reduceNeg, Int.reduceToNat, Nat.reduceEqDiff, Nat.reduceLT, Nat.reduceLeDiff, Nat.reduceMul, List.replicate, reduceCtorEq, op_len und9 rfl, op_len und46 rfl, h0, nnil49]
          · have hn := new11 im (by omega) cap (by omega) (by omega)
            have hn2 := new26 im (by omega) cap (by omega) (by omega)
            simp -dsimp (maxSteps := 4000000) (disch := first | omega | assumption | (simp only [FB, Nat.reduceAdd]; done) | (simp only [LB]; omega)) only [EB, ↓reduceIte, WB, Nat.reduceSub, Nat.reduceAdd, Int.reduceEq, Int.reduceNe, Int.reduceLT, Int.reduceLE, Int.reduceAdd, Int.reduceSub, Int.reduceMul, Int.reduceNeg, Int.reduceToNat, Nat.reduceEqDiff, Nat.reduceLT, Nat.reduceLeDiff, Nat.reduceMul, List.replicate, reduceCtorEq, op_len und9 rfl, lives9, hlt, hc20, good28, good29, hg, bin_neq_bool und4, hn, hn2, eq_self, eql25, eql49]
            have hB := both_new1 cap (by omega) im c1 (h := a.heap) (n := a.next) (q := m) (q2 := m + 1) (by omega)
            generalize hh0 : (a.next + 1, Blk.cells (refC 128 cap im (.slice none 0 0) im (-1) 0) true) :: (a.next, Blk.cells (devC 128 cap im im (.slice none 0 0) (-1) 0) true) :: a.heap = h0 at hB ⊢
            have hv0 : SliceR ActR 5 l h0 m [.slice p l.length c] := slice_keeps act_keeps _ _ _ _ _ _ hv (Nat.le_refl _) fun j hj => by rw [← hh0, look_miss (by omega), look_miss (by omega)]
            refine loop_inv (fun k t w => ∃ i n' q' q2' : Nat, ∃ h' S' d', ∃ e : Nat → Value, k = l.length - i ∧ i ≤ l.length ∧ w = ⟨n', h', a.next, d'⟩ ∧ t = TT 121 e ∧ Went h0 (a.next + 2) a.next m (fun _ => False) (a.next + 1) (m + 1) ((D1 cap im).runs (l.take i)) ((D1 cap im).runs (l.take i)) h' n' q' S' q2' ∧ e 3 = .slice p l.length c ∧ e 9 = .pointer (some ⟨a.next, 0, none⟩) ∧ e 11 = .pointer (some ⟨a.next + 1, 0, none⟩) ∧ e 13 = .int .i64 i) ⟨0, a.next + 2, m, m + 1, h0, _, [], _, rfl, by omega, rfl, rfl, hB.more (Nat.le_refl _) (fun _ _ => rfl), rfl, rfl, rfl, rfl⟩ ?_
            rintro k t w ⟨i, n', q', q2', h', S', d', e, hki, hi, rfl, rfl, hW, f3, f9, f11, f13⟩
            have hlow : ∀ j, j < m → look j h' = look j h0 := fun j hj => hW.out j (by omega) (by omega) (by omega) (by omega) (by omega)
            have hle := hW.le
            by_cases hlti : i < l.length
            · have hli : l[i]? = some l[i] := List.getElem?_eq_getElem hlti
              obtain ⟨q0, fl, ac, rfl0, hqn, hq, hl5, hle5, hat, htk, ⟨kv, rfl, hkv, hb1, hb2, hb3, hb4⟩⟩ := hv0.elem hli
              cases rfl0
              have hq' : look q0 h' = some (.cells fl false) := by rw [hlow q0 hqn]; exact hq
              have hrun : (D1 cap im).runs (l.take (i + 1)) = ((D1 cap im).runs (l.take i)).step l[i] := by
                rw [List.take_add_one, hli]; unfold Dv.runs; rw [List.foldl_append]; rfl
              have hok := runs_ok (d1_ok cap (by omega) im) (l.take i)
              rw [List.length_take, Nat.zero_add] at hok
              have hok2 := step_ok hok l[i]
              simp -dsimp (maxSteps := 4000000) (disch := first | omega | assumption | (simp only [FB, Nat.reduceAdd]; done) | (simp only [LB]; omega)) only [EB, ↓reduceIte, WB, Nat.reduceSub, Nat.reduceAdd, Int.reduceEq, Int.reduceNe, Int.reduceLT, Int.reduceLE, Int.reduceAdd, Int.reduceSub, Int.reduceMul, Int.reduceNeg, Int.reduceToNat, Nat.reduceEqDiff, Nat.reduceLT, Nat.reduceLeDiff, Nat.reduceMul, List.replicate, reduceCtorEq, op_len und9 rfl, f3, f9, f11, f13, op_len und46 rfl, show ((i : Int) < l.length) by omega, neq49]
              refine code_draw [(0, 1), (0, 2), (0, 3), (0, 4), (0, 5), (1, 2), (1, 3), (1, 4), (1, 5), (2, 3), (9, 11), (9, 12), (9, 13), (9, 14), (10, 11), (10, 12), (10, 13), (10, 14), (18, 20), (18, 21), (18, 22), (18, 23), (19, 20), (19, 21), (19, 22), (19, 23), (27, 29), (27, 30), (27, 31), (27, 32), (27, 33), (28, 29), (28, 30), (28, 31), (28, 32), (28, 33), (37, 39), (37, 40), (37, 41), (37, 42), (38, 39), (38, 40), (38, 41), (38, 42), (46, 48), (47, 48)] (by decide +kernel) (by decide +kernel) ?_
              simp -dsimp (maxSteps := 4000000) (disch := first | omega | assumption | (simp only [FB, Nat.reduceAdd]; done) | (simp only [LB]; omega)) only [EB, ↓reduceIte, WB, Nat.reduceSub, Nat.reduceAdd, Int.reduceEq, Int.reduceNe, Int.reduceLT, Int.reduceLE, Int.reduceAdd, Int.reduceSub, Int.reduceMul, Int.reduceNeg, Int.reduceToNat, Nat.reduceEqDiff, Nat.reduceLT, Nat.reduceLeDiff, Nat.reduceMul, List.replicate, reduceCtorEq, RB, Nat.reduceEqDiff, op_len und9 rfl, f3, f9, f11, f13, indexAddr_slice und46 size54, load_agg agg54 size54, hq']
              rw [htk]
              refine does27 (k := min i l.length) l[i] kv m (by have := hW.fq; omega) (hkv.keep (Nat.le_refl _) hlow) (fun _ => hb4) hb1 hb2 hb3 hok (by omega) ((hW.both.more (n' := n' + 1) (by omega) fun _ _ => rfl).both) fun n3 h3 q3 S3 q4 d3 hd3 hW3 => ?_
              have hW4 := (hW.trans (by omega) (hW.both.more (n' := n' + 1) (by omega) fun _ _ => rfl)).trans (by omega) hW3
              rw [← hrun] at hW4 hok2
              have hle3 := hW3.le
              obtain ⟨D, hD⟩ : ∃ D, D = (D1 cap im).runs (l.take (i + 1)) := ⟨_, rfl⟩
              rw [← hD] at hW4 hok2
              obtain ⟨pv, fs, hb, hp, hfl, -⟩ := hW4.both.dev.st
              obtain ⟨pv2, hbr, hpr⟩ := hW4.both.ref.st
              obtain ⟨pp2, cc2, rfl⟩ := hpr.shape
              obtain ⟨pp, cc, rfl⟩ : ∃ pp cc, pv = .slice pp fs.length cc := by
                rcases hp with ⟨rfl, rfl⟩ | ⟨rfl, _⟩
                · exact ⟨none, 0, rfl⟩
                · exact ⟨_, _, rfl⟩
              have hl3 := hW4.both.dev.lt
              have hl4 := hW4.both.ref.lt
              have hs := hok2.s
              have hb128 := hb
              rw [hs] at hb128
              simp -dsimp (maxSteps := 4000000) (disch := first | omega | assumption | (simp only [FB, Nat.reduceAdd]; done) | (simp only [LB]; omega)) only [EB, ↓reduceIte, WB, Nat.reduceSub, Nat.reduceAdd, Int.reduceEq, Int.reduceNe, Int.reduceLT, Int.reduceLE, Int.reduceAdd, Int.reduceSub, Int.reduceMul, Int.reduceNeg, Int.reduceToNat, Nat.reduceEqDiff, Nat.reduceLT, Nat.reduceLeDiff, Nat.reduceMul, List.replicate, reduceCtorEq, RB, Nat.reduceEqDiff, op_len und9 rfl, f3, f9, f11, f13, image18 hb, durable19 hb, pending21 hb, ops24 hb, pages16 hW4.both.dev.im hb128, pages30 hs hW4.both.ref, refC, op_fa fo60_0, op_fa fo60_1, op_fa fo60_2, op_fa fo60_3, op_fa fo60_4, op_fa fo60_5, op_fa fo60_6, load_one agg3, load_one agg9, load_one agg58, storeVar_eq size3, storeVar_eq size9, storeVar_eq size58, hbr, eq_self, hfl, note_len und58 rfl, op_len und58 rfl, bin_neq_bool und4, wrap64]
              rw [hD] at hW4
              refine ⟨l.length - (i + 1), by omega, i + 1, n3, q3, q4, h3, S3, _, _, rfl, by omega, rfl, rfl, hW4, ?_⟩
              simp only [ups_at, ↓reduceIte, Nat.reduceEqDiff]
              exact ⟨f3, f9, f11, (by first | trivial | rfl | omega)⟩
            · simp -dsimp (maxSteps := 4000000) (disch := first | omega | assumption | (simp only [FB, Nat.reduceAdd]; done) | (simp only [LB]; omega)) only [EB, ↓reduceIte, WB, Nat.reduceSub, Nat.reduceAdd, Int.reduceEq, Int.reduceNe, Int.reduceLT, Int.reduceLE, Int.reduceAdd, Int.reduceSub, Int.reduceMul, Int.reduceNeg, Int.reduceToNat, Nat.reduceEqDiff, Nat.reduceLT, Nat.reduceLeDiff, Nat.reduceMul, List.replicate, reduceCtorEq, op_len und9 rfl, f3, f9, f11, f13, op_len und46 rfl, show ¬ ((i : Int) < l.length) by omega, leave_fst flat_bool]
      · simp -dsimp (maxSteps := 4000000) (disch := first | omega | assumption | (simp only [FB, Nat.reduceAdd]; done) | (simp only [LB]; omega)) only [EB, ↓reduceIte, WB, Nat.reduceSub, Nat.reduceAdd, Int.reduceEq, Int.reduceNe, Int.reduceLT, Int.reduceLE, Int.reduceAdd, Int.reduceSub, Int.reduceMul, Int.reduceNeg, Int.reduceToNat, Nat.reduceEqDiff, Nat.reduceLT, Nat.reduceLeDiff, Nat.reduceMul, List.replicate, reduceCtorEq, op_len und9 rfl, lives9, hlt, hc20, good28, good29, hg, bin_neq_bool und4, new11_bad size cap (.inl hg), new26_bad size cap (.inl hg), eq_self, nil25, nil49]
        rw [code_loop]
        by_cases h0 : (0 : Int) < l.length
        · simp -dsimp (maxSteps := 4000000) (disch := first | omega | assumption | (simp only [FB, Nat.reduceAdd]; done) | (simp only [LB]; omega)) only [EB, ↓reduceIte, WB, Nat.reduceSub, Nat.reduceAdd, Int.reduceEq, Int.reduceNe, Int.reduceLT, Int.reduceLE, Int.reduceAdd, Int.reduceSub, Int.reduceMul, Int.reduceNeg, Int.reduceToNat, Nat.reduceEqDiff, Nat.reduceLT, Nat.reduceLeDiff, Nat.reduceMul, List.replicate, reduceCtorEq, op_len und9 rfl, op_len und46 rfl, h0, nnil49]
        · simp -dsimp (maxSteps := 4000000) (disch := first | omega | assumption | (simp only [FB, Nat.reduceAdd]; done) | (simp only [LB]; omega)) only [EB, ↓reduceIte, WB, Nat.reduceSub, Nat.reduceAdd, Int.reduceEq, Int.reduceNe, Int.reduceLT, Int.reduceLE, Int.reduceAdd, Int.reduceSub, Int.reduceMul, Int.reduceNeg, Int.reduceToNat, Nat.reduceEqDiff, Nat.reduceLT, Nat.reduceLeDiff, Nat.reduceMul, List.replicate, reduceCtorEq, op_len und9 rfl, op_len und46 rfl, h0, nnil49]
end Go.Proofs.YtgdmgolmeeigdaaAM
