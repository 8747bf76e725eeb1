/- Chapter 3: one act, at both devices. -/
import Derived.Test.YtgdmgolmeeigdaaD20
namespace Go.Proofs.YtgdmgolmeeigdaaAM
open Go Go.RowKit
set_option linter.unusedVariables false
set_option linter.unusedSimpArgs false
set_option maxRecDepth 10000
set_option maxHeartbeats 4000000

theorem After.look {h' h'' : List (Nat × Blk)} {n' n'' b q' q'' bs : Nat} {d d' : List Nat} {S' S'' : Nat → Prop} {D D' : Dv} (ha : After h' n' bs d b q' S' D D' h'' n'' d' q'' S'') {j : Nat} (h1 : j < n') (h2 : j ≠ b) (h3 : j ≠ q') : look j h'' = look j h' := by
  cases ha with
  | same e => rfl
  | wrote g1 g2 g3 g4 g5 g6 => exact g6 j h1 h2 h3
theorem After.le {h' h'' : List (Nat × Blk)} {n' n'' b q' q'' bs : Nat} {d d' : List Nat} {S' S'' : Nat → Prop} {D D' : Dv} (ha : After h' n' bs d b q' S' D D' h'' n'' d' q'' S'') : n' ≤ n'' := by
  cases ha with
  | same e => exact Nat.le_refl _
  | wrote g1 g2 g3 g4 => exact g4
theorem FromU.has {U : Nat → Prop} {d : List Nat} (h : FromU U d) {j : Nat} (hj : ¬ U j) : d.contains j = false := by
  cases hc : d.contains j with
  | false => rfl
  | true => exact absurd (h j (by simpa using hc)) hj
section
variable {h : List (Nat × Blk)} {n b q b2 q2 bs k : Nat} {d : List Nat} {S : Nat → Prop} {D : Dv} {K : Value → AW → Prop}
theorem does27 (act : Act) (kv : Value) (m : Nat) (hm : m ≤ b ∧ m ≤ q) (hkv : ListV encI h m kv act.keep) (hkl : pick act.kind 9 = 6 → act.keep.length ≤ 17592186043904) (hkind : -9223372036854775808 ≤ act.kind) (hn0 : 0 ≤ act.n ∧ act.n ≤ 4294967295) (hat : act.at_ ≤ 9223372036854775807)
    (hk : D.Ok k) (hk2 : k ≤ 100) (hB : Both h n b q S b2 q2 D D)
    (hK : ∀ n' h' q' S' q2' d', (∀ U : Nat → Prop, U b → U q → U b2 → U q2 → FromU U d → FromU U d') → Went h n b q S b2 q2 (D.step act) (D.step act) h' n' q' S' q2' → K (.bool true) ⟨n', h', bs, d'⟩) :
    WCall Try.prog GV 27 [.pointer (some ⟨b, 0, none⟩), .pointer (some ⟨b2, 0, none⟩), .agg [.int .i64 act.kind, .int .u32 act.n, .string (mkStr act.block), kv, .int .i64 act.at_].toArray] ⟨n, h, bs, d⟩ K := by
  rw [call_env Try.func27 rfl Try.ntmps27 rfl rfl (by simp)]
  obtain ⟨kp, kc, rfl⟩ := hkv.len
  have l1 := hB.dev.lt
  have l2 := hB.ref.lt
  have hW1 := hB.more (n' := n + 1) (h' := (n, Blk.cells [.int .i64 act.kind, .int .u32 act.n, .string (mkStr act.block), .slice kp act.keep.length kc, .int .i64 act.at_] true) :: h) (by omega) fun j hj => look_miss (by omega)
  obtain ⟨h0, hh0⟩ : ∃ h0, h0 = (n, Blk.cells [.int .i64 act.kind, .int .u32 act.n, .string (mkStr act.block), .slice kp act.keep.length kc, .int .i64 act.at_] true) :: h := ⟨_, rfl⟩
  have hn0' : look n h0 = some (Blk.cells [.int .i64 act.kind, .int .u32 act.n, .string (mkStr act.block), .slice kp act.keep.length kc, .int .i64 act.at_] true) := by rw [hh0]; exact look_self
  have hk9 : 0 ≤ pick act.kind 9 ∧ pick act.kind 9 < 9 := ⟨Int.emod_nonneg _ (by omega), Int.emod_lt_of_pos _ (by omega)⟩
  rcases (show pick act.kind 9 = 0 ∨ pick act.kind 9 = 1 ∨ pick act.kind 9 = 2 ∨ pick act.kind 9 = 3 ∨ pick act.kind 9 = 4 ∨ pick act.kind 9 = 5 ∨ pick act.kind 9 = 6 ∨ pick act.kind 9 = 7 ∨ pick act.kind 9 = 8 by omega) with e | e | e | e | e | e | e | e | e
  · have hs : D.step act = (D.write act.n (fill act.block)).1 := by simp only [Dv.step, e]
    rw [hs] at hK
    simp -dsimp (maxSteps := 4000000) (disch := first | omega | assumption | (simp only [FB, Nat.reduceAdd]; done) | (simp only [LB]; omega)) only [EB, ↓reduceIte, WB, Nat.reduceSub, Nat.reduceAdd, Int.reduceEq, Int.reduceNe, Int.reduceLT, Int.reduceLE, Int.reduceAdd, Int.reduceSub, Int.reduceMul, Int.reduceNeg, Int.reduceToNat, Nat.reduceEqDiff, Nat.reduceLT, Nat.reduceLeDiff, Nat.reduceMul, List.replicate, reduceCtorEq, op_len und9 rfl, op_fa fo54_0, load_one agg3, pick10, e]
    refine code_draw [(0, 1), (0, 2), (0, 3), (0, 4), (0, 5), (0, 7), (0, 8), (0, 9), (0, 10), (0, 11), (1, 3), (1, 4), (1, 5), (1, 7), (1, 8), (1, 9), (1, 10), (1, 11), (2, 3), (2, 4), (2, 5), (2, 7), (2, 8), (2, 9), (2, 10), (2, 11), (3, 7), (3, 8), (3, 9), (3, 10), (3, 11), (4, 7), (4, 8), (4, 9), (4, 10), (4, 11), (5, 7), (5, 8), (5, 9), (5, 10), (5, 11), (6, 7), (6, 8), (6, 9), (6, 10), (6, 11), (7, 8), (7, 9), (7, 10), (7, 11), (7, 12), (8, 10), (8, 11), (8, 12), (9, 10), (9, 11), (9, 12)] (by decide +kernel) (by decide +kernel) ?_
    simp -dsimp (maxSteps := 4000000) (disch := first | omega | assumption | (simp only [FB, Nat.reduceAdd]; done) | (simp only [LB]; omega)) only [EB, ↓reduceIte, WB, Nat.reduceSub, Nat.reduceAdd, Int.reduceEq, Int.reduceNe, Int.reduceLT, Int.reduceLE, Int.reduceAdd, Int.reduceSub, Int.reduceMul, Int.reduceNeg, Int.reduceToNat, Nat.reduceEqDiff, Nat.reduceLT, Nat.reduceLeDiff, Nat.reduceMul, List.replicate, reduceCtorEq, RB, Nat.reduceEqDiff, op_len und9 rfl, op_fa fo54_1, op_fa fo54_2, load_one agg31, load_one agg9, filled38]
    have hW2 := hB.more (n' := n + 2) (h' := h0) (by omega) fun j hj => by rw [hh0]; exact look_miss (by omega)
    rw [← hh0]
    refine write_all hk hk2 act.n hn0 (fill act.block) hW2.both.dev fun n1 h1 d1 q1 S1 ha => ?_
    have hd1 := ha.dirt (n := n) (U := fun j => j = b ∨ j = q ∨ j = b2 ∨ j = q2) (p := True) (p' := (D.write act.n (fill act.block)).1 = D) (dirt_nil trivial) (fun _ e => e) (by omega) (by omega) (.inl rfl) (.inr (.inl rfl))
    have hc1 := hd1.1.has (j := n) (by omega)
    have hl1 := (ha.look (j := n) (by omega) (by omega) (by omega)).trans hn0'
    have hW3 := hW2.dev ha
    have hle := ha.le
    simp -dsimp (maxSteps := 4000000) (disch := first | omega | assumption | (simp only [FB, Nat.reduceAdd]; done) | (simp only [LB]; omega)) only [EB, ↓reduceIte, WB, Nat.reduceSub, Nat.reduceAdd, Int.reduceEq, Int.reduceNe, Int.reduceLT, Int.reduceLE, Int.reduceAdd, Int.reduceSub, Int.reduceMul, Int.reduceNeg, Int.reduceToNat, Nat.reduceEqDiff, Nat.reduceLT, Nat.reduceLeDiff, Nat.reduceMul, List.replicate, reduceCtorEq, RB, Nat.reduceEqDiff, op_len und9 rfl, op_fa fo54_1, op_fa fo54_2, load_one agg31, load_one agg9, filled38, hl1, hc1]
    refine write39 hk hk2 act.n hn0 (fill act.block) hW3.both.ref fun n2 h2 d2 q4 hb => ?_
    have hl2 := hW3.both.ref.lt
    have hd2 := hb.dirt (n := n) (U := fun j => j = b ∨ j = q ∨ j = b2 ∨ j = q2) (p := True) (p' := (D.write act.n (fill act.block)).1 = D) (dirt_nil trivial) (fun _ e => e) (by omega) (by omega) (.inr (.inr (.inl rfl))) (.inr (.inr (.inr rfl)))
    have hW4 := hW3.ref hb
    have hd3 := (dirt_nil (n := n) (U := fun j => j = b ∨ j = q ∨ j = b2 ∨ j = q2) (p := True) trivial).soil hd1 (p' := (D.write act.n (fill act.block)).1 = D) fun _ h => h
    have hd4 := hd3.soil hd2 (p' := (D.write act.n (fill act.block)).1 = D ∧ (D.write act.n (fill act.block)).1 = D) fun h1 h2 => ⟨h1, h2⟩
    simp -dsimp (maxSteps := 4000000) (disch := first | omega | assumption | (simp only [FB, Nat.reduceAdd]; done) | (simp only [LB]; omega)) only [EB, ↓reduceIte, WB, Nat.reduceSub, Nat.reduceAdd, Int.reduceEq, Int.reduceNe, Int.reduceLT, Int.reduceLE, Int.reduceAdd, Int.reduceSub, Int.reduceMul, Int.reduceNeg, Int.reduceToNat, Nat.reduceEqDiff, Nat.reduceLT, Nat.reduceLeDiff, Nat.reduceMul, List.replicate, reduceCtorEq, RB, Nat.reduceEqDiff, op_len und9 rfl, ]
    refine leave_went hB hW4 hd4 rfl hK
  · have hs : D.step act = (D.write act.n (fill act.block)).1 := by simp only [Dv.step, e]
    rw [hs] at hK
    simp -dsimp (maxSteps := 4000000) (disch := first | omega | assumption | (simp only [FB, Nat.reduceAdd]; done) | (simp only [LB]; omega)) only [EB, ↓reduceIte, WB, Nat.reduceSub, Nat.reduceAdd, Int.reduceEq, Int.reduceNe, Int.reduceLT, Int.reduceLE, Int.reduceAdd, Int.reduceSub, Int.reduceMul, Int.reduceNeg, Int.reduceToNat, Nat.reduceEqDiff, Nat.reduceLT, Nat.reduceLeDiff, Nat.reduceMul, List.replicate, reduceCtorEq, op_len und9 rfl, op_fa fo54_0, load_one agg3, pick10, e]
    refine code_draw [(0, 1), (0, 2), (0, 3), (0, 4), (0, 5), (0, 7), (0, 8), (0, 9), (0, 10), (0, 11), (1, 3), (1, 4), (1, 5), (1, 7), (1, 8), (1, 9), (1, 10), (1, 11), (2, 3), (2, 4), (2, 5), (2, 7), (2, 8), (2, 9), (2, 10), (2, 11), (3, 7), (3, 8), (3, 9), (3, 10), (3, 11), (4, 7), (4, 8), (4, 9), (4, 10), (4, 11), (5, 7), (5, 8), (5, 9), (5, 10), (5, 11), (6, 7), (6, 8), (6, 9), (6, 10), (6, 11), (7, 8), (7, 9), (7, 10), (7, 11), (7, 12), (8, 10), (8, 11), (8, 12), (9, 10), (9, 11), (9, 12)] (by decide +kernel) (by decide +kernel) ?_
    simp -dsimp (maxSteps := 4000000) (disch := first | omega | assumption | (simp only [FB, Nat.reduceAdd]; done) | (simp only [LB]; omega)) only [EB, ↓reduceIte, WB, Nat.reduceSub, Nat.reduceAdd, Int.reduceEq, Int.reduceNe, Int.reduceLT, Int.reduceLE, Int.reduceAdd, Int.reduceSub, Int.reduceMul, Int.reduceNeg, Int.reduceToNat, Nat.reduceEqDiff, Nat.reduceLT, Nat.reduceLeDiff, Nat.reduceMul, List.replicate, reduceCtorEq, RB, Nat.reduceEqDiff, op_len und9 rfl, op_fa fo54_1, op_fa fo54_2, load_one agg31, load_one agg9, filled38]
    have hW2 := hB.more (n' := n + 2) (h' := h0) (by omega) fun j hj => by rw [hh0]; exact look_miss (by omega)
    rw [← hh0]
    refine write_all hk hk2 act.n hn0 (fill act.block) hW2.both.dev fun n1 h1 d1 q1 S1 ha => ?_
    have hd1 := ha.dirt (n := n) (U := fun j => j = b ∨ j = q ∨ j = b2 ∨ j = q2) (p := True) (p' := (D.write act.n (fill act.block)).1 = D) (dirt_nil trivial) (fun _ e => e) (by omega) (by omega) (.inl rfl) (.inr (.inl rfl))
    have hc1 := hd1.1.has (j := n) (by omega)
    have hl1 := (ha.look (j := n) (by omega) (by omega) (by omega)).trans hn0'
    have hW3 := hW2.dev ha
    have hle := ha.le
    simp -dsimp (maxSteps := 4000000) (disch := first | omega | assumption | (simp only [FB, Nat.reduceAdd]; done) | (simp only [LB]; omega)) only [EB, ↓reduceIte, WB, Nat.reduceSub, Nat.reduceAdd, Int.reduceEq, Int.reduceNe, Int.reduceLT, Int.reduceLE, Int.reduceAdd, Int.reduceSub, Int.reduceMul, Int.reduceNeg, Int.reduceToNat, Nat.reduceEqDiff, Nat.reduceLT, Nat.reduceLeDiff, Nat.reduceMul, List.replicate, reduceCtorEq, RB, Nat.reduceEqDiff, op_len und9 rfl, op_fa fo54_1, op_fa fo54_2, load_one agg31, load_one agg9, filled38, hl1, hc1]
    refine write39 hk hk2 act.n hn0 (fill act.block) hW3.both.ref fun n2 h2 d2 q4 hb => ?_
    have hl2 := hW3.both.ref.lt
    have hd2 := hb.dirt (n := n) (U := fun j => j = b ∨ j = q ∨ j = b2 ∨ j = q2) (p := True) (p' := (D.write act.n (fill act.block)).1 = D) (dirt_nil trivial) (fun _ e => e) (by omega) (by omega) (.inr (.inr (.inl rfl))) (.inr (.inr (.inr rfl)))
    have hW4 := hW3.ref hb
    have hd3 := (dirt_nil (n := n) (U := fun j => j = b ∨ j = q ∨ j = b2 ∨ j = q2) (p := True) trivial).soil hd1 (p' := (D.write act.n (fill act.block)).1 = D) fun _ h => h
    have hd4 := hd3.soil hd2 (p' := (D.write act.n (fill act.block)).1 = D ∧ (D.write act.n (fill act.block)).1 = D) fun h1 h2 => ⟨h1, h2⟩
    simp -dsimp (maxSteps := 4000000) (disch := first | omega | assumption | (simp only [FB, Nat.reduceAdd]; done) | (simp only [LB]; omega)) only [EB, ↓reduceIte, WB, Nat.reduceSub, Nat.reduceAdd, Int.reduceEq, Int.reduceNe, Int.reduceLT, Int.reduceLE, Int.reduceAdd, Int.reduceSub, Int.reduceMul, Int.reduceNeg, Int.reduceToNat, Nat.reduceEqDiff, Nat.reduceLT, Nat.reduceLeDiff, Nat.reduceMul, List.replicate, reduceCtorEq, RB, Nat.reduceEqDiff, op_len und9 rfl, ]
    refine leave_went hB hW4 hd4 rfl hK
  · have hs : D.step act = (D.write act.n (fill act.block)).1 := by simp only [Dv.step, e]
    rw [hs] at hK
    simp -dsimp (maxSteps := 4000000) (disch := first | omega | assumption | (simp only [FB, Nat.reduceAdd]; done) | (simp only [LB]; omega)) only [EB, ↓reduceIte, WB, Nat.reduceSub, Nat.reduceAdd, Int.reduceEq, Int.reduceNe, Int.reduceLT, Int.reduceLE, Int.reduceAdd, Int.reduceSub, Int.reduceMul, Int.reduceNeg, Int.reduceToNat, Nat.reduceEqDiff, Nat.reduceLT, Nat.reduceLeDiff, Nat.reduceMul, List.replicate, reduceCtorEq, op_len und9 rfl, op_fa fo54_0, load_one agg3, pick10, e]
    refine code_draw [(0, 1), (0, 2), (0, 3), (0, 4), (0, 5), (0, 7), (0, 8), (0, 9), (0, 10), (0, 11), (1, 3), (1, 4), (1, 5), (1, 7), (1, 8), (1, 9), (1, 10), (1, 11), (2, 3), (2, 4), (2, 5), (2, 7), (2, 8), (2, 9), (2, 10), (2, 11), (3, 7), (3, 8), (3, 9), (3, 10), (3, 11), (4, 7), (4, 8), (4, 9), (4, 10), (4, 11), (5, 7), (5, 8), (5, 9), (5, 10), (5, 11), (6, 7), (6, 8), (6, 9), (6, 10), (6, 11), (7, 8), (7, 9), (7, 10), (7, 11), (7, 12), (8, 10), (8, 11), (8, 12), (9, 10), (9, 11), (9, 12)] (by decide +kernel) (by decide +kernel) ?_
    simp -dsimp (maxSteps := 4000000) (disch := first | omega | assumption | (simp only [FB, Nat.reduceAdd]; done) | (simp only [LB]; omega)) only [EB, ↓reduceIte, WB, Nat.reduceSub, Nat.reduceAdd, Int.reduceEq, Int.reduceNe, Int.reduceLT, Int.reduceLE, Int.reduceAdd, Int.reduceSub, Int.reduceMul, Int.reduceNeg, Int.reduceToNat, Nat.reduceEqDiff, Nat.reduceLT, Nat.reduceLeDiff, Nat.reduceMul, List.replicate, reduceCtorEq, RB, Nat.reduceEqDiff, op_len und9 rfl, op_fa fo54_1, op_fa fo54_2, load_one agg31, load_one agg9, filled38]
    have hW2 := hB.more (n' := n + 2) (h' := h0) (by omega) fun j hj => by rw [hh0]; exact look_miss (by omega)
    rw [← hh0]
    refine write_all hk hk2 act.n hn0 (fill act.block) hW2.both.dev fun n1 h1 d1 q1 S1 ha => ?_
    have hd1 := ha.dirt (n := n) (U := fun j => j = b ∨ j = q ∨ j = b2 ∨ j = q2) (p := True) (p' := (D.write act.n (fill act.block)).1 = D) (dirt_nil trivial) (fun _ e => e) (by omega) (by omega) (.inl rfl) (.inr (.inl rfl))
    have hc1 := hd1.1.has (j := n) (by omega)
    have hl1 := (ha.look (j := n) (by omega) (by omega) (by omega)).trans hn0'
    have hW3 := hW2.dev ha
    have hle := ha.le
    simp -dsimp (maxSteps := 4000000) (disch := first | omega | assumption | (simp only [FB, Nat.reduceAdd]; done) | (simp only [LB]; omega)) only [EB, ↓reduceIte, WB, Nat.reduceSub, Nat.reduceAdd, Int.reduceEq, Int.reduceNe, Int.reduceLT, Int.reduceLE, Int.reduceAdd, Int.reduceSub, Int.reduceMul, Int.reduceNeg, Int.reduceToNat, Nat.reduceEqDiff, Nat.reduceLT, Nat.reduceLeDiff, Nat.reduceMul, List.replicate, reduceCtorEq, RB, Nat.reduceEqDiff, op_len und9 rfl, op_fa fo54_1, op_fa fo54_2, load_one agg31, load_one agg9, filled38, hl1, hc1]
    refine write39 hk hk2 act.n hn0 (fill act.block) hW3.both.ref fun n2 h2 d2 q4 hb => ?_
    have hl2 := hW3.both.ref.lt
    have hd2 := hb.dirt (n := n) (U := fun j => j = b ∨ j = q ∨ j = b2 ∨ j = q2) (p := True) (p' := (D.write act.n (fill act.block)).1 = D) (dirt_nil trivial) (fun _ e => e) (by omega) (by omega) (.inr (.inr (.inl rfl))) (.inr (.inr (.inr rfl)))
    have hW4 := hW3.ref hb
    have hd3 := (dirt_nil (n := n) (U := fun j => j = b ∨ j = q ∨ j = b2 ∨ j = q2) (p := True) trivial).soil hd1 (p' := (D.write act.n (fill act.block)).1 = D) fun _ h => h
    have hd4 := hd3.soil hd2 (p' := (D.write act.n (fill act.block)).1 = D ∧ (D.write act.n (fill act.block)).1 = D) fun h1 h2 => ⟨h1, h2⟩
    simp -dsimp (maxSteps := 4000000) (disch := first | omega | assumption | (simp only [FB, Nat.reduceAdd]; done) | (simp only [LB]; omega)) only [EB, ↓reduceIte, WB, Nat.reduceSub, Nat.reduceAdd, Int.reduceEq, Int.reduceNe, Int.reduceLT, Int.reduceLE, Int.reduceAdd, Int.reduceSub, Int.reduceMul, Int.reduceNeg, Int.reduceToNat, Nat.reduceEqDiff, Nat.reduceLT, Nat.reduceLeDiff, Nat.reduceMul, List.replicate, reduceCtorEq, RB, Nat.reduceEqDiff, op_len und9 rfl, ]
    refine leave_went hB hW4 hd4 rfl hK
  · have hs : D.step act = (D.trunc act.n).1 := by simp only [Dv.step, e]
    rw [hs] at hK
    simp -dsimp (maxSteps := 4000000) (disch := first | omega | assumption | (simp only [FB, Nat.reduceAdd]; done) | (simp only [LB]; omega)) only [EB, ↓reduceIte, WB, Nat.reduceSub, Nat.reduceAdd, Int.reduceEq, Int.reduceNe, Int.reduceLT, Int.reduceLE, Int.reduceAdd, Int.reduceSub, Int.reduceMul, Int.reduceNeg, Int.reduceToNat, Nat.reduceEqDiff, Nat.reduceLT, Nat.reduceLeDiff, Nat.reduceMul, List.replicate, reduceCtorEq, op_len und9 rfl, op_fa fo54_0, load_one agg3, pick10, e]
    refine code_draw [(0, 1), (0, 2), (0, 4), (0, 5), (0, 6), (1, 4), (1, 5), (1, 6), (2, 4), (2, 5), (2, 6), (3, 4), (3, 5), (3, 6), (4, 5), (4, 6)] (by decide +kernel) (by decide +kernel) ?_
    simp -dsimp (maxSteps := 4000000) (disch := first | omega | assumption | (simp only [FB, Nat.reduceAdd]; done) | (simp only [LB]; omega)) only [EB, ↓reduceIte, WB, Nat.reduceSub, Nat.reduceAdd, Int.reduceEq, Int.reduceNe, Int.reduceLT, Int.reduceLE, Int.reduceAdd, Int.reduceSub, Int.reduceMul, Int.reduceNeg, Int.reduceToNat, Nat.reduceEqDiff, Nat.reduceLT, Nat.reduceLeDiff, Nat.reduceMul, List.replicate, reduceCtorEq, RB, Nat.reduceEqDiff, op_len und9 rfl, op_fa fo54_1, op_fa fo54_2, load_one agg31, load_one agg9, filled38]
    have hW2 := hB.more (n' := n + 2) (h' := h0) (by omega) fun j hj => by rw [hh0]; exact look_miss (by omega)
    rw [← hh0]
    refine trunc_all hk hk2 act.n hn0 hW2.both.dev fun n1 h1 d1 q1 S1 ha => ?_
    have hd1 := ha.dirt (n := n) (U := fun j => j = b ∨ j = q ∨ j = b2 ∨ j = q2) (p := True) (p' := (D.trunc act.n).1 = D) (dirt_nil trivial) (fun _ e => e) (by omega) (by omega) (.inl rfl) (.inr (.inl rfl))
    have hc1 := hd1.1.has (j := n) (by omega)
    have hl1 := (ha.look (j := n) (by omega) (by omega) (by omega)).trans hn0'
    have hW3 := hW2.dev ha
    have hle := ha.le
    simp -dsimp (maxSteps := 4000000) (disch := first | omega | assumption | (simp only [FB, Nat.reduceAdd]; done) | (simp only [LB]; omega)) only [EB, ↓reduceIte, WB, Nat.reduceSub, Nat.reduceAdd, Int.reduceEq, Int.reduceNe, Int.reduceLT, Int.reduceLE, Int.reduceAdd, Int.reduceSub, Int.reduceMul, Int.reduceNeg, Int.reduceToNat, Nat.reduceEqDiff, Nat.reduceLT, Nat.reduceLeDiff, Nat.reduceMul, List.replicate, reduceCtorEq, RB, Nat.reduceEqDiff, op_len und9 rfl, op_fa fo54_1, op_fa fo54_2, load_one agg31, load_one agg9, filled38, hl1, hc1]
    refine trunc40 hk hk2 act.n hn0 hW3.both.ref fun n2 h2 d2 q4 hb => ?_
    have hl2 := hW3.both.ref.lt
    have hd2 := hb.dirt (n := n) (U := fun j => j = b ∨ j = q ∨ j = b2 ∨ j = q2) (p := True) (p' := (D.trunc act.n).1 = D) (dirt_nil trivial) (fun _ e => e) (by omega) (by omega) (.inr (.inr (.inl rfl))) (.inr (.inr (.inr rfl)))
    have hW4 := hW3.ref hb
    have hd3 := (dirt_nil (n := n) (U := fun j => j = b ∨ j = q ∨ j = b2 ∨ j = q2) (p := True) trivial).soil hd1 (p' := (D.trunc act.n).1 = D) fun _ h => h
    have hd4 := hd3.soil hd2 (p' := (D.trunc act.n).1 = D ∧ (D.trunc act.n).1 = D) fun h1 h2 => ⟨h1, h2⟩
    simp -dsimp (maxSteps := 4000000) (disch := first | omega | assumption | (simp only [FB, Nat.reduceAdd]; done) | (simp only [LB]; omega)) only [EB, ↓reduceIte, WB, Nat.reduceSub, Nat.reduceAdd, Int.reduceEq, Int.reduceNe, Int.reduceLT, Int.reduceLE, Int.reduceAdd, Int.reduceSub, Int.reduceMul, Int.reduceNeg, Int.reduceToNat, Nat.reduceEqDiff, Nat.reduceLT, Nat.reduceLeDiff, Nat.reduceMul, List.replicate, reduceCtorEq, RB, Nat.reduceEqDiff, op_len und9 rfl, ]
    refine leave_went hB hW4 hd4 rfl hK
  · have hs : D.step act = D.sync.1 := by simp only [Dv.step, e]
    rw [hs] at hK
    have hW2 := hB.more (n' := n + 1) (h' := h0) (by omega) fun j hj => by rw [hh0]; exact look_miss (by omega)
    simp -dsimp (maxSteps := 4000000) (disch := first | omega | assumption | (simp only [FB, Nat.reduceAdd]; done) | (simp only [LB]; omega)) only [EB, ↓reduceIte, WB, Nat.reduceSub, Nat.reduceAdd, Int.reduceEq, Int.reduceNe, Int.reduceLT, Int.reduceLE, Int.reduceAdd, Int.reduceSub, Int.reduceMul, Int.reduceNeg, Int.reduceToNat, Nat.reduceEqDiff, Nat.reduceLT, Nat.reduceLeDiff, Nat.reduceMul, List.replicate, reduceCtorEq, op_len und9 rfl, op_fa fo54_0, op_fa fo54_4, load_one agg3, pick10, e]
    rw [← hh0]
    refine sync_all hk hk2 hW2.both.dev fun n1 h1 d1 q1 S1 ha => ?_
    have hd1 := ha.dirt (n := n) (U := fun j => j = b ∨ j = q ∨ j = b2 ∨ j = q2) (p := True) (p' := D.sync.1 = D) (dirt_nil trivial) (fun _ e => e) (by omega) (by omega) (.inl rfl) (.inr (.inl rfl))
    have hl1 := (ha.look (j := n) (by omega) (by omega) (by omega)).trans hn0'
    have hW3 := hW2.dev ha
    have hle := ha.le
    simp -dsimp (maxSteps := 4000000) (disch := first | omega | assumption | (simp only [FB, Nat.reduceAdd]; done) | (simp only [LB]; omega)) only [EB, ↓reduceIte, WB, Nat.reduceSub, Nat.reduceAdd, Int.reduceEq, Int.reduceNe, Int.reduceLT, Int.reduceLE, Int.reduceAdd, Int.reduceSub, Int.reduceMul, Int.reduceNeg, Int.reduceToNat, Nat.reduceEqDiff, Nat.reduceLT, Nat.reduceLeDiff, Nat.reduceMul, List.replicate, reduceCtorEq, op_len und9 rfl, op_fa fo54_4, load_one agg3, hl1]
    refine sync41 hk hk2 hW3.both.ref fun n2 h2 d2 q4 hb => ?_
    have hl2 := hW3.both.ref.lt
    have hd2 := hb.dirt (n := n) (p' := D.sync.1 = D ∧ D.sync.1 = D) hd1 (fun h1 e => ⟨h1, e⟩) (by omega) (by omega) (.inr (.inr (.inl rfl))) (.inr (.inr (.inr rfl)))
    have hW4 := hW3.ref hb
    simp -dsimp (maxSteps := 4000000) (disch := first | omega | assumption | (simp only [FB, Nat.reduceAdd]; done) | (simp only [LB]; omega)) only [EB, ↓reduceIte, WB, Nat.reduceSub, Nat.reduceAdd, Int.reduceEq, Int.reduceNe, Int.reduceLT, Int.reduceLE, Int.reduceAdd, Int.reduceSub, Int.reduceMul, Int.reduceNeg, Int.reduceToNat, Nat.reduceEqDiff, Nat.reduceLT, Nat.reduceLeDiff, Nat.reduceMul, List.replicate, reduceCtorEq, op_len und9 rfl, ]
    refine leave_went hB hW4 hd2 rfl hK
  · have hs : D.step act = D := by simp only [Dv.step, e]
    rw [hs] at hK
    have hW2 := hB.more (n' := n + 1) (h' := h0) (by omega) fun j hj => by rw [hh0]; exact look_miss (by omega)
    obtain ⟨pv, fs, hb, hp, -, -⟩ := hW2.both.dev.st
    have hs0 := hk.s
    rw [hs0] at hb
    have r1 := fun K => read17 (K := K) (n := n + 1) (bs := n) (d := []) act.n (by omega) hB.dev.im hb (by omega)
    have r2 := fun K => read42 (K := K) (n := n + 1) (bs := n) (d := []) hs0 act.n hn0 hW2.both.ref
    by_cases hlt : act.n < ((D.im.length / 128 : Nat) : Int)
    · simp only [hlt, if_true] at r1 r2
      simp -dsimp (maxSteps := 4000000) (disch := first | omega | assumption | (simp only [FB, Nat.reduceAdd]; done) | (simp only [LB]; omega)) only [EB, ↓reduceIte, WB, Nat.reduceSub, Nat.reduceAdd, Int.reduceEq, Int.reduceNe, Int.reduceLT, Int.reduceLE, Int.reduceAdd, Int.reduceSub, Int.reduceMul, Int.reduceNeg, Int.reduceToNat, Nat.reduceEqDiff, Nat.reduceLT, Nat.reduceLeDiff, Nat.reduceMul, List.replicate, reduceCtorEq, op_len und9 rfl, op_fa fo54_0, op_fa fo54_1, load_one agg31, load_one agg3, pick10, e]
      rw [← hh0, r1]
      simp -dsimp (maxSteps := 4000000) (disch := first | omega | assumption | (simp only [FB, Nat.reduceAdd]; done) | (simp only [LB]; omega)) only [EB, ↓reduceIte, WB, Nat.reduceSub, Nat.reduceAdd, Int.reduceEq, Int.reduceNe, Int.reduceLT, Int.reduceLE, Int.reduceAdd, Int.reduceSub, Int.reduceMul, Int.reduceNeg, Int.reduceToNat, Nat.reduceEqDiff, Nat.reduceLT, Nat.reduceLeDiff, Nat.reduceMul, List.replicate, reduceCtorEq, op_len und9 rfl, op_fa fo54_1, load_one agg31, hn0']
      rw [r2]
      simp -dsimp (maxSteps := 4000000) (disch := first | omega | assumption | (simp only [FB, Nat.reduceAdd]; done) | (simp only [LB]; omega)) only [EB, ↓reduceIte, WB, Nat.reduceSub, Nat.reduceAdd, Int.reduceEq, Int.reduceNe, Int.reduceLT, Int.reduceLE, Int.reduceAdd, Int.reduceSub, Int.reduceMul, Int.reduceNeg, Int.reduceToNat, Nat.reduceEqDiff, Nat.reduceLT, Nat.reduceLeDiff, Nat.reduceMul, List.replicate, reduceCtorEq, op_len und9 rfl, ]
      exact hK n h q S q2 d (fun _ _ _ _ _ h => h) (hB.more (Nat.le_refl _) fun _ _ => rfl)
    · simp only [hlt, if_false] at r1 r2
      simp -dsimp (maxSteps := 4000000) (disch := first | omega | assumption | (simp only [FB, Nat.reduceAdd]; done) | (simp only [LB]; omega)) only [EB, ↓reduceIte, WB, Nat.reduceSub, Nat.reduceAdd, Int.reduceEq, Int.reduceNe, Int.reduceLT, Int.reduceLE, Int.reduceAdd, Int.reduceSub, Int.reduceMul, Int.reduceNeg, Int.reduceToNat, Nat.reduceEqDiff, Nat.reduceLT, Nat.reduceLeDiff, Nat.reduceMul, List.replicate, reduceCtorEq, op_len und9 rfl, op_fa fo54_0, op_fa fo54_1, load_one agg31, load_one agg3, pick10, e]
      rw [← hh0, r1]
      simp -dsimp (maxSteps := 4000000) (disch := first | omega | assumption | (simp only [FB, Nat.reduceAdd]; done) | (simp only [LB]; omega)) only [EB, ↓reduceIte, WB, Nat.reduceSub, Nat.reduceAdd, Int.reduceEq, Int.reduceNe, Int.reduceLT, Int.reduceLE, Int.reduceAdd, Int.reduceSub, Int.reduceMul, Int.reduceNeg, Int.reduceToNat, Nat.reduceEqDiff, Nat.reduceLT, Nat.reduceLeDiff, Nat.reduceMul, List.replicate, reduceCtorEq, op_len und9 rfl, op_fa fo54_1, load_one agg31, hn0']
      rw [r2]
      simp -dsimp (maxSteps := 4000000) (disch := first | omega | assumption | (simp only [FB, Nat.reduceAdd]; done) | (simp only [LB]; omega)) only [EB, ↓reduceIte, WB, Nat.reduceSub, Nat.reduceAdd, Int.reduceEq, Int.reduceNe, Int.reduceLT, Int.reduceLE, Int.reduceAdd, Int.reduceSub, Int.reduceMul, Int.reduceNeg, Int.reduceToNat, Nat.reduceEqDiff, Nat.reduceLT, Nat.reduceLeDiff, Nat.reduceMul, List.replicate, reduceCtorEq, op_len und9 rfl, ]
      exact hK n h q S q2 d (fun _ _ _ _ _ h => h) (hB.more (Nat.le_refl _) fun _ _ => rfl)
  · have hs : D.step act = D.crash act.keep := by simp only [Dv.step, e]
    rw [hs] at hK
    simp -dsimp (maxSteps := 4000000) (disch := first | omega | assumption | (simp only [FB, Nat.reduceAdd]; done) | (simp only [LB]; omega)) only [EB, ↓reduceIte, WB, Nat.reduceSub, Nat.reduceAdd, Int.reduceEq, Int.reduceNe, Int.reduceLT, Int.reduceLE, Int.reduceAdd, Int.reduceSub, Int.reduceMul, Int.reduceNeg, Int.reduceToNat, Nat.reduceEqDiff, Nat.reduceLT, Nat.reduceLeDiff, Nat.reduceMul, List.replicate, reduceCtorEq, op_len und9 rfl, op_fa fo54_0, load_one agg3, pick10, e]
    refine code_draw [(0, 1), (0, 2), (0, 3), (0, 5), (0, 6), (0, 7), (1, 5), (1, 6), (1, 7), (2, 5), (2, 6), (2, 7), (3, 5), (3, 6), (3, 7), (4, 5), (4, 6), (4, 7), (5, 6), (5, 7)] (by decide +kernel) (by decide +kernel) ?_
    simp -dsimp (maxSteps := 4000000) (disch := first | omega | assumption | (simp only [FB, Nat.reduceAdd]; done) | (simp only [LB]; omega)) only [EB, ↓reduceIte, WB, Nat.reduceSub, Nat.reduceAdd, Int.reduceEq, Int.reduceNe, Int.reduceLT, Int.reduceLE, Int.reduceAdd, Int.reduceSub, Int.reduceMul, Int.reduceNeg, Int.reduceToNat, Nat.reduceEqDiff, Nat.reduceLT, Nat.reduceLeDiff, Nat.reduceMul, List.replicate, reduceCtorEq, RB, Nat.reduceEqDiff, op_len und9 rfl, op_fa fo54_3, load_one agg22]
    rw [← hh0]
    have hkv0 : ListV encI h0 (n + 2) (.slice kp act.keep.length kc) act.keep := hkv.keep (by omega) fun j hj => by rw [hh0]; exact look_miss (by omega)
    refine own15 _ act.keep (by have := hkl e; omega) hkv0 _ fun v2 n0 h3 hv2 hn3 hk3 => ?_
    have hlo3 : ∀ j, j < n → look j h3 = look j h := fun j hj => by rw [hk3 j (by omega), hh0]; exact look_miss (by omega)
    have hW2 := hB.more (n' := n0) (h' := h3) (by omega) hlo3
    simp -dsimp (maxSteps := 4000000) (disch := first | omega | assumption | (simp only [FB, Nat.reduceAdd]; done) | (simp only [LB]; omega)) only [EB, ↓reduceIte, WB, Nat.reduceSub, Nat.reduceAdd, Int.reduceEq, Int.reduceNe, Int.reduceLT, Int.reduceLE, Int.reduceAdd, Int.reduceSub, Int.reduceMul, Int.reduceNeg, Int.reduceToNat, Nat.reduceEqDiff, Nat.reduceLT, Nat.reduceLeDiff, Nat.reduceMul, List.replicate, reduceCtorEq, RB, Nat.reduceEqDiff, op_len und9 rfl, ]
    refine crash_all hk hk2 act.keep (hkl e) _ hv2 hW2.both.dev fun n1 h1 d1 q1 S1 ha => ?_
    have hd1 := ha.dirt (n := n) (U := fun j => j = b ∨ j = q ∨ j = b2 ∨ j = q2) (p := True) (p' := D.crash act.keep = D) (dirt_nil trivial) (fun _ e => e) (by omega) (by omega) (.inl rfl) (.inr (.inl rfl))
    have hc1 := hd1.1.has (j := n) (by omega)
    have hl1 := (ha.look (j := n) (by omega) (by omega) (by omega)).trans ((hk3 n (by omega)).trans hn0')
    have hW3 := hW2.dev ha
    have hle := ha.le
    simp -dsimp (maxSteps := 4000000) (disch := first | omega | assumption | (simp only [FB, Nat.reduceAdd]; done) | (simp only [LB]; omega)) only [EB, ↓reduceIte, WB, Nat.reduceSub, Nat.reduceAdd, Int.reduceEq, Int.reduceNe, Int.reduceLT, Int.reduceLE, Int.reduceAdd, Int.reduceSub, Int.reduceMul, Int.reduceNeg, Int.reduceToNat, Nat.reduceEqDiff, Nat.reduceLT, Nat.reduceLeDiff, Nat.reduceMul, List.replicate, reduceCtorEq, RB, Nat.reduceEqDiff, op_len und9 rfl, op_fa fo54_3, load_one agg22, hl1, hc1]
    have hkv1 : ListV encI h1 n1 (.slice kp act.keep.length kc) act.keep := hkv.keep (by omega) fun j hj => by rw [ha.look (by omega) (by omega) (by omega), hlo3 j (by omega)]
    refine crash43 hk hk2 act.keep (hkl e) _ hkv1 hW3.both.ref fun n2 h2 d2 q4 hb => ?_
    have hl2 := hW3.both.ref.lt
    have hd2 := hb.dirt (n := n) (U := fun j => j = b ∨ j = q ∨ j = b2 ∨ j = q2) (p := True) (p' := D.crash act.keep = D) (dirt_nil trivial) (fun _ e => e) (by omega) (by omega) (.inr (.inr (.inl rfl))) (.inr (.inr (.inr rfl)))
    have hW4 := hW3.ref hb
    have hd3 := (dirt_nil (n := n) (U := fun j => j = b ∨ j = q ∨ j = b2 ∨ j = q2) (p := True) trivial).soil hd1 (p' := D.crash act.keep = D) fun _ h => h
    have hd4 := hd3.soil hd2 (p' := D.crash act.keep = D ∧ D.crash act.keep = D) fun h1 h2 => ⟨h1, h2⟩
    simp -dsimp (maxSteps := 4000000) (disch := first | omega | assumption | (simp only [FB, Nat.reduceAdd]; done) | (simp only [LB]; omega)) only [EB, ↓reduceIte, WB, Nat.reduceSub, Nat.reduceAdd, Int.reduceEq, Int.reduceNe, Int.reduceLT, Int.reduceLE, Int.reduceAdd, Int.reduceSub, Int.reduceMul, Int.reduceNeg, Int.reduceToNat, Nat.reduceEqDiff, Nat.reduceLT, Nat.reduceLeDiff, Nat.reduceMul, List.replicate, reduceCtorEq, RB, Nat.reduceEqDiff, op_len und9 rfl, ]
    refine leave_went hB hW4 hd4 rfl hK
  · have hs : D.step act = D.fuse act.at_ := by simp only [Dv.step, e]
    rw [hs] at hK
    have hW2 := hB.more (n' := n + 1) (h' := h0) (by omega) fun j hj => by rw [hh0]; exact look_miss (by omega)
    simp -dsimp (maxSteps := 4000000) (disch := first | omega | assumption | (simp only [FB, Nat.reduceAdd]; done) | (simp only [LB]; omega)) only [EB, ↓reduceIte, WB, Nat.reduceSub, Nat.reduceAdd, Int.reduceEq, Int.reduceNe, Int.reduceLT, Int.reduceLE, Int.reduceAdd, Int.reduceSub, Int.reduceMul, Int.reduceNeg, Int.reduceToNat, Nat.reduceEqDiff, Nat.reduceLT, Nat.reduceLeDiff, Nat.reduceMul, List.replicate, reduceCtorEq, op_len und9 rfl, op_fa fo54_0, op_fa fo54_4, load_one agg3, pick10, e]
    rw [← hh0]
    refine fuse_all act.at_ hat hW2.both.dev fun n1 h1 d1 q1 S1 ha => ?_
    have hd1 := ha.dirt (n := n) (U := fun j => j = b ∨ j = q ∨ j = b2 ∨ j = q2) (p := True) (p' := D.fuse act.at_ = D) (dirt_nil trivial) (fun _ e => e) (by omega) (by omega) (.inl rfl) (.inr (.inl rfl))
    have hl1 := (ha.look (j := n) (by omega) (by omega) (by omega)).trans hn0'
    have hW3 := hW2.dev ha
    have hle := ha.le
    simp -dsimp (maxSteps := 4000000) (disch := first | omega | assumption | (simp only [FB, Nat.reduceAdd]; done) | (simp only [LB]; omega)) only [EB, ↓reduceIte, WB, Nat.reduceSub, Nat.reduceAdd, Int.reduceEq, Int.reduceNe, Int.reduceLT, Int.reduceLE, Int.reduceAdd, Int.reduceSub, Int.reduceMul, Int.reduceNeg, Int.reduceToNat, Nat.reduceEqDiff, Nat.reduceLT, Nat.reduceLeDiff, Nat.reduceMul, List.replicate, reduceCtorEq, op_len und9 rfl, op_fa fo54_4, load_one agg3, hl1]
    refine fuse44 act.at_ hat hW3.both.ref fun n2 h2 d2 q4 hb => ?_
    have hl2 := hW3.both.ref.lt
    have hd2 := hb.dirt (n := n) (p' := D.fuse act.at_ = D ∧ D.fuse act.at_ = D) hd1 (fun h1 e => ⟨h1, e⟩) (by omega) (by omega) (.inr (.inr (.inl rfl))) (.inr (.inr (.inr rfl)))
    have hW4 := hW3.ref hb
    simp -dsimp (maxSteps := 4000000) (disch := first | omega | assumption | (simp only [FB, Nat.reduceAdd]; done) | (simp only [LB]; omega)) only [EB, ↓reduceIte, WB, Nat.reduceSub, Nat.reduceAdd, Int.reduceEq, Int.reduceNe, Int.reduceLT, Int.reduceLE, Int.reduceAdd, Int.reduceSub, Int.reduceMul, Int.reduceNeg, Int.reduceToNat, Nat.reduceEqDiff, Nat.reduceLT, Nat.reduceLeDiff, Nat.reduceMul, List.replicate, reduceCtorEq, op_len und9 rfl, ]
    refine leave_went hB hW4 hd2 rfl hK
  · have hs : D.step act = (D.write act.n act.block).1 := by simp only [Dv.step, e]
    rw [hs] at hK
    simp -dsimp (maxSteps := 4000000) (disch := first | omega | assumption | (simp only [FB, Nat.reduceAdd]; done) | (simp only [LB]; omega)) only [EB, ↓reduceIte, WB, Nat.reduceSub, Nat.reduceAdd, Int.reduceEq, Int.reduceNe, Int.reduceLT, Int.reduceLE, Int.reduceAdd, Int.reduceSub, Int.reduceMul, Int.reduceNeg, Int.reduceToNat, Nat.reduceEqDiff, Nat.reduceLT, Nat.reduceLeDiff, Nat.reduceMul, List.replicate, reduceCtorEq, op_len und9 rfl, op_fa fo54_0, load_one agg3, pick10, e]
    refine code_draw [(0, 1), (0, 2), (0, 3), (0, 4), (0, 6), (0, 7), (0, 8), (0, 9), (0, 10), (1, 3), (1, 4), (1, 6), (1, 7), (1, 8), (1, 9), (1, 10), (2, 3), (2, 4), (2, 6), (2, 7), (2, 8), (2, 9), (2, 10), (3, 6), (3, 7), (3, 8), (3, 9), (3, 10), (4, 6), (4, 7), (4, 8), (4, 9), (4, 10), (5, 6), (5, 7), (5, 8), (5, 9), (5, 10), (6, 7), (6, 8), (6, 9), (6, 10), (7, 9), (7, 10), (8, 9), (8, 10)] (by decide +kernel) (by decide +kernel) ?_
    simp -dsimp (maxSteps := 4000000) (disch := first | omega | assumption | (simp only [FB, Nat.reduceAdd]; done) | (simp only [LB]; omega)) only [EB, ↓reduceIte, WB, Nat.reduceSub, Nat.reduceAdd, Int.reduceEq, Int.reduceNe, Int.reduceLT, Int.reduceLE, Int.reduceAdd, Int.reduceSub, Int.reduceMul, Int.reduceNeg, Int.reduceToNat, Nat.reduceEqDiff, Nat.reduceLT, Nat.reduceLeDiff, Nat.reduceMul, List.replicate, reduceCtorEq, RB, Nat.reduceEqDiff, op_len und9 rfl, op_fa fo54_1, op_fa fo54_2, load_one agg31, load_one agg9, filled38]
    have hW2 := hB.more (n' := n + 2) (h' := h0) (by omega) fun j hj => by rw [hh0]; exact look_miss (by omega)
    rw [← hh0]
    refine write_all hk hk2 act.n hn0 act.block hW2.both.dev fun n1 h1 d1 q1 S1 ha => ?_
    have hd1 := ha.dirt (n := n) (U := fun j => j = b ∨ j = q ∨ j = b2 ∨ j = q2) (p := True) (p' := (D.write act.n act.block).1 = D) (dirt_nil trivial) (fun _ e => e) (by omega) (by omega) (.inl rfl) (.inr (.inl rfl))
    have hc1 := hd1.1.has (j := n) (by omega)
    have hl1 := (ha.look (j := n) (by omega) (by omega) (by omega)).trans hn0'
    have hW3 := hW2.dev ha
    have hle := ha.le
    simp -dsimp (maxSteps := 4000000) (disch := first | omega | assumption | (simp only [FB, Nat.reduceAdd]; done) | (simp only [LB]; omega)) only [EB, ↓reduceIte, WB, Nat.reduceSub, Nat.reduceAdd, Int.reduceEq, Int.reduceNe, Int.reduceLT, Int.reduceLE, Int.reduceAdd, Int.reduceSub, Int.reduceMul, Int.reduceNeg, Int.reduceToNat, Nat.reduceEqDiff, Nat.reduceLT, Nat.reduceLeDiff, Nat.reduceMul, List.replicate, reduceCtorEq, RB, Nat.reduceEqDiff, op_len und9 rfl, op_fa fo54_1, op_fa fo54_2, load_one agg31, load_one agg9, filled38, hl1, hc1]
    refine write39 hk hk2 act.n hn0 act.block hW3.both.ref fun n2 h2 d2 q4 hb => ?_
    have hl2 := hW3.both.ref.lt
    have hd2 := hb.dirt (n := n) (U := fun j => j = b ∨ j = q ∨ j = b2 ∨ j = q2) (p := True) (p' := (D.write act.n act.block).1 = D) (dirt_nil trivial) (fun _ e => e) (by omega) (by omega) (.inr (.inr (.inl rfl))) (.inr (.inr (.inr rfl)))
    have hW4 := hW3.ref hb
    have hd3 := (dirt_nil (n := n) (U := fun j => j = b ∨ j = q ∨ j = b2 ∨ j = q2) (p := True) trivial).soil hd1 (p' := (D.write act.n act.block).1 = D) fun _ h => h
    have hd4 := hd3.soil hd2 (p' := (D.write act.n act.block).1 = D ∧ (D.write act.n act.block).1 = D) fun h1 h2 => ⟨h1, h2⟩
    simp -dsimp (maxSteps := 4000000) (disch := first | omega | assumption | (simp only [FB, Nat.reduceAdd]; done) | (simp only [LB]; omega)) only [EB, ↓reduceIte, WB, Nat.reduceSub, Nat.reduceAdd, Int.reduceEq, Int.reduceNe, Int.reduceLT, Int.reduceLE, Int.reduceAdd, Int.reduceSub, Int.reduceMul, Int.reduceNeg, Int.reduceToNat, Nat.reduceEqDiff, Nat.reduceLT, Nat.reduceLeDiff, Nat.reduceMul, List.replicate, reduceCtorEq, RB, Nat.reduceEqDiff, op_len und9 rfl, ]
    refine leave_went hB hW4 hd4 rfl hK
end
end Go.Proofs.YtgdmgolmeeigdaaAM
