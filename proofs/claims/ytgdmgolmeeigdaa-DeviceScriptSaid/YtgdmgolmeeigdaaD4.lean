/- Chapter 3: what a device tells; writing and truncating. -/
import Derived.Test.YtgdmgolmeeigdaaD3
namespace Go.Proofs.YtgdmgolmeeigdaaAM
open Go Go.RowKit
set_option linter.unusedVariables false
set_option linter.unusedSimpArgs false
set_option maxRecDepth 10000
set_option maxHeartbeats 4000000

theorem zero3 : zeroV Try.prog 3 = some (.int .i64 0) := rfl
theorem eql25 {x c p} : binA Try.prog .eql 25 x (.const c) (.pointer (some p)) (.pointer none) = some (.bool false) := by
  have h : flat (.pointer (some p)) = false := rfl
  simp only [binA, h, Bool.false_and, Bool.false_eq_true, if_false, und25, nilEq, isConstO, Bool.or_true, if_true]
theorem neq25 {x c p} : binA Try.prog .neq 25 x (.const c) (.pointer (some p)) (.pointer none) = some (.bool true) := by
  have h : flat (.pointer (some p)) = false := rfl
  simp only [binA, h, Bool.false_and, Bool.false_eq_true, if_false, und25, nilEq, isConstO, Bool.or_true, if_true, Bool.not_false]
theorem leave_freshPtr2 {before : AW} {p : Addr} {nx bs : Nat} {h : List (Nat × Blk)} {c : List Value} {v : Value} (hv : flat v = true) (hb : before.next ≤ p.block) (hg : look p.block h = some (.cells c true)) (hf : c.all flat = true) :
    leaveA before [.pointer (some p), v] ⟨nx, h, bs, []⟩ = ([.pointer (some { p with block := before.next }), v], before.new (.cells c true)) := by
  have h1 : flat (.pointer (some p)) = false := rfl
  have h2 : freshOf before.next ⟨nx, h, bs, []⟩ (.pointer (some p)) = some (c, p.block) := by
    simp only [freshOf, hb, if_true, get_mk, hg, hf]
  simp [leaveA, h1, h2, moveTo, hv]
theorem build64 {a b f : Int} {c d : List UInt8} : buildA Try.prog 64 [(0, .int .i64 a), (1, .int .i64 b), (2, .string (mkStr c)), (3, .string (mkStr d)), (5, .int .i64 f)] = some (.agg (devC a b c d (.slice none 0 0) f 0).toArray) := rfl
section
variable {s c f o : Int} {im du : List UInt8} {pv : Value} {b n bs : Nat} {h : List (Nat × Blk)} {d : List Nat} {K : Value → AW → Prop}
theorem image18 (hb : look b h = some (.cells (devC s c im du pv f o) true)) (hbn : b < n) : WCall Try.prog GV 18 [.pointer (some ⟨b, 0, none⟩)] ⟨n, h, bs, d⟩ K = K (.string (mkStr im)) ⟨n, h, bs, d⟩ := by
  refine call_eq ?_ K
  rw [call_body' Try.func18 rfl Try.ntmps18 rfl rfl]
  simp -dsimp (maxSteps := 4000000) (disch := first | omega | assumption | (simp only [FB, Nat.reduceAdd]; done) | (simp only [LB]; omega)) only [WB, Nat.reduceSub, Nat.reduceAdd, Int.reduceEq, Int.reduceNe, Int.reduceLT, Int.reduceLE, Int.reduceAdd, Int.reduceSub, Int.reduceMul, Int.reduceNeg, Int.reduceToNat, Nat.reduceEqDiff, Nat.reduceLT, Nat.reduceLeDiff, Nat.reduceMul, List.replicate, reduceCtorEq, op_len und9 rfl, hb, devC, op_fa fo64_0, op_fa fo64_1, op_fa fo64_2, op_fa fo64_3, op_fa fo64_4, op_fa fo64_5, op_fa fo64_6, load_one agg3, load_one agg9, load_one agg62, storeVar_eq size3, storeVar_eq size9, storeVar_eq size62, eql25]
  exact ⟨trivial, trivial⟩
theorem durable19 (hb : look b h = some (.cells (devC s c im du pv f o) true)) (hbn : b < n) : WCall Try.prog GV 19 [.pointer (some ⟨b, 0, none⟩)] ⟨n, h, bs, d⟩ K = K (.string (mkStr du)) ⟨n, h, bs, d⟩ := by
  refine call_eq ?_ K
  rw [call_body' Try.func19 rfl Try.ntmps19 rfl rfl]
  simp -dsimp (maxSteps := 4000000) (disch := first | omega | assumption | (simp only [FB, Nat.reduceAdd]; done) | (simp only [LB]; omega)) only [WB, Nat.reduceSub, Nat.reduceAdd, Int.reduceEq, Int.reduceNe, Int.reduceLT, Int.reduceLE, Int.reduceAdd, Int.reduceSub, Int.reduceMul, Int.reduceNeg, Int.reduceToNat, Nat.reduceEqDiff, Nat.reduceLT, Nat.reduceLeDiff, Nat.reduceMul, List.replicate, reduceCtorEq, op_len und9 rfl, hb, devC, op_fa fo64_0, op_fa fo64_1, op_fa fo64_2, op_fa fo64_3, op_fa fo64_4, op_fa fo64_5, op_fa fo64_6, load_one agg3, load_one agg9, load_one agg62, storeVar_eq size3, storeVar_eq size9, storeVar_eq size62, eql25]
  exact ⟨trivial, trivial⟩
theorem ops24 (hb : look b h = some (.cells (devC s c im du pv f o) true)) (hbn : b < n) : WCall Try.prog GV 24 [.pointer (some ⟨b, 0, none⟩)] ⟨n, h, bs, d⟩ K = K (.int .i64 o) ⟨n, h, bs, d⟩ := by
  refine call_eq ?_ K
  rw [call_body' Try.func24 rfl Try.ntmps24 rfl rfl]
  simp -dsimp (maxSteps := 4000000) (disch := first | omega | assumption | (simp only [FB, Nat.reduceAdd]; done) | (simp only [LB]; omega)) only [WB, Nat.reduceSub, Nat.reduceAdd, Int.reduceEq, Int.reduceNe, Int.reduceLT, Int.reduceLE, Int.reduceAdd, Int.reduceSub, Int.reduceMul, Int.reduceNeg, Int.reduceToNat, Nat.reduceEqDiff, Nat.reduceLT, Nat.reduceLeDiff, Nat.reduceMul, List.replicate, reduceCtorEq, op_len und9 rfl, hb, devC, op_fa fo64_0, op_fa fo64_1, op_fa fo64_2, op_fa fo64_3, op_fa fo64_4, op_fa fo64_5, op_fa fo64_6, load_one agg3, load_one agg9, load_one agg62, storeVar_eq size3, storeVar_eq size9, storeVar_eq size62, eql25]
  exact ⟨trivial, trivial⟩
theorem pending21 {p k cp} (hb : look b h = some (.cells (devC s c im du (.slice p k cp) f o) true)) (hbn : b < n) : WCall Try.prog GV 21 [.pointer (some ⟨b, 0, none⟩)] ⟨n, h, bs, d⟩ K = K (.int .i64 k) ⟨n, h, bs, d⟩ := by
  refine call_eq ?_ K
  rw [call_body' Try.func21 rfl Try.ntmps21 rfl rfl]
  simp -dsimp (maxSteps := 4000000) (disch := first | omega | assumption | (simp only [FB, Nat.reduceAdd]; done) | (simp only [LB]; omega)) only [WB, Nat.reduceSub, Nat.reduceAdd, Int.reduceEq, Int.reduceNe, Int.reduceLT, Int.reduceLE, Int.reduceAdd, Int.reduceSub, Int.reduceMul, Int.reduceNeg, Int.reduceToNat, Nat.reduceEqDiff, Nat.reduceLT, Nat.reduceLeDiff, Nat.reduceMul, List.replicate, reduceCtorEq, op_len und9 rfl, hb, devC, op_fa fo64_0, op_fa fo64_1, op_fa fo64_2, op_fa fo64_3, op_fa fo64_4, op_fa fo64_5, op_fa fo64_6, load_one agg3, load_one agg9, load_one agg62, storeVar_eq size3, storeVar_eq size9, storeVar_eq size62, eql25, op_len und62 rfl]
  exact ⟨trivial, trivial⟩
theorem fuse23 (v : Int) (hb : look b h = some (.cells (devC s c im du pv f o) true)) (hbn : b < n) : WCall Try.prog GV 23 [.pointer (some ⟨b, 0, none⟩), .int .i64 v] ⟨n, h, bs, d⟩ K = K (.tuple #[]) ⟨n, putAt b (.cells (devC s c im du pv (max v (-1)) o) true) h, bs, soilW bs d b⟩ := by
  refine call_eq ?_ K
  rw [call_body' Try.func23 rfl Try.ntmps23 rfl rfl]
  simp -dsimp (maxSteps := 4000000) (disch := first | omega | assumption | (simp only [FB, Nat.reduceAdd]; done) | (simp only [LB]; omega)) only [WB, Nat.reduceSub, Nat.reduceAdd, Int.reduceEq, Int.reduceNe, Int.reduceLT, Int.reduceLE, Int.reduceAdd, Int.reduceSub, Int.reduceMul, Int.reduceNeg, Int.reduceToNat, Nat.reduceEqDiff, Nat.reduceLT, Nat.reduceLeDiff, Nat.reduceMul, List.replicate, reduceCtorEq, op_len und9 rfl, hb, devC, op_fa fo64_0, op_fa fo64_1, op_fa fo64_2, op_fa fo64_3, op_fa fo64_4, op_fa fo64_5, op_fa fo64_6, load_one agg3, load_one agg9, load_one agg62, storeVar_eq size3, storeVar_eq size9, storeVar_eq size62, neq25, write_soil]
  rw [soil_one hbn, leave_soil]
  exact ⟨rfl, rfl⟩
end
theorem new11 (im : List UInt8) (him : im.length ≤ 1000000) (c : Int) (hc : 2 ≤ c ∧ c ≤ 1048576) (hle : ((im.length / 128 : Nat) : Int) ≤ c) (a : AW) (K) :
    WCall Try.prog GV 11 [.int .i64 128, .int .i64 c, .string (mkStr im)] a K = K (.tuple #[.pointer (some ⟨a.next, 0, none⟩), .int .i64 0]) ⟨a.next + 1, (a.next, .cells (devC 128 c im im (.slice none 0 0) (-1) 0) true) :: a.heap, a.base, a.dirty⟩ := by
  refine call_eq ?_ K
  rw [call_body' Try.func11 rfl Try.ntmps11 rfl rfl]
  have e1 : (im.length : Int).tdiv 128 = ((im.length / 128 : Nat) : Int) := by rw [Int.tdiv_eq_ediv_of_nonneg (by omega)]; omega
  simp -dsimp (maxSteps := 4000000) (disch := first | omega | assumption | (simp only [FB, Nat.reduceAdd]; done) | (simp only [LB]; omega)) only [WB, Nat.reduceSub, Nat.reduceAdd, Int.reduceEq, Int.reduceNe, Int.reduceLT, Int.reduceLE, Int.reduceAdd, Int.reduceSub, Int.reduceMul, Int.reduceNeg, Int.reduceToNat, Nat.reduceEqDiff, Nat.reduceLT, Nat.reduceLeDiff, Nat.reduceMul, List.replicate, reduceCtorEq, op_len und9 rfl, good28, show goodSz 128 by decide, show ¬ c < 2 by omega, show ¬ 1048576 < c by omega, e1, wrap64, show ¬ c < ((im.length / 128 : Nat) : Int) by omega]
  simp -dsimp (maxSteps := 4000000) (disch := first | omega | assumption | (simp only [FB, Nat.reduceAdd]; done) | (simp only [LB]; omega)) only [WB, Nat.reduceSub, Nat.reduceAdd, Int.reduceEq, Int.reduceNe, Int.reduceLT, Int.reduceLE, Int.reduceAdd, Int.reduceSub, Int.reduceMul, Int.reduceNeg, Int.reduceToNat, Nat.reduceEqDiff, Nat.reduceLT, Nat.reduceLeDiff, Nat.reduceMul, List.replicate, reduceCtorEq, op_len und9 rfl, build64]
  rw [leave_freshPtr2 rfl (Nat.le_refl _) look_self rfl]
  simp -dsimp (maxSteps := 4000000) (disch := first | omega | assumption | (simp only [FB, Nat.reduceAdd]; done) | (simp only [LB]; omega)) only [WB, Nat.reduceSub, Nat.reduceAdd, Int.reduceEq, Int.reduceNe, Int.reduceLT, Int.reduceLE, Int.reduceAdd, Int.reduceSub, Int.reduceMul, Int.reduceNeg, Int.reduceToNat, Nat.reduceEqDiff, Nat.reduceLT, Nat.reduceLeDiff, Nat.reduceMul, List.replicate, reduceCtorEq, op_len und9 rfl, ]
  exact ⟨(by first | trivial | rfl | omega), (by first | trivial | rfl | omega)⟩
theorem write13 (D : Dv) (blk : List UInt8) (n0 : Int) (h0 : 0 ≤ n0 ∧ n0 < 100) (hs : D.s = 128) (hbl : blk.length = 128) (hc : n0 < D.c ∧ D.c ≤ 1048576) (hno : D.o < 100000) (hlen : D.ops.length < 100000) {h : List (Nat × Blk)} {n bs b q : Nat} {d : List Nat} {S : Nat → Prop} (hd : DevS h n b q S D) (K : Value → AW → Prop)
    (hK : D.f = 0 → K (.int .i64 8) ⟨n, h, bs, d⟩)
    (hK2 : D.f ≠ 0 → ∀ n' h' q' d' S', Soiled bs d d' b q → (q' = q ∨ n ≤ q') → (∀ j, S' j → S j ∨ n ≤ j) → n ≤ n' → DevS h' n' b q' S' { D with im := (DOp.wr (128 * n0.toNat) blk).act D.im, ops := D.ops ++ [.wr (128 * n0.toNat) blk], f := if 0 < D.f then D.f - 1 else D.f, o := D.o + 1 } → Out h h' n b q → K (.int .i64 0) ⟨n', h', bs, d'⟩) :
    WCall Try.prog GV 13 [.pointer (some ⟨b, 0, none⟩), .int .u32 n0, .string (mkStr blk)] ⟨n, h, bs, d⟩ K := by
  rw [call_body' Try.func13 rfl Try.ntmps13 rfl rfl]
  obtain ⟨pv, fs, hb, hp, hfl, hrep⟩ := hd.st
  have hbn := hd.lt.1
  have hbl' : ((blk.length : Nat) : Int) = D.s := by omega
  simp -dsimp (maxSteps := 4000000) (disch := first | omega | assumption | (simp only [FB, Nat.reduceAdd]; done) | (simp only [LB]; omega)) only [WB, Nat.reduceSub, Nat.reduceAdd, Int.reduceEq, Int.reduceNe, Int.reduceLT, Int.reduceLE, Int.reduceAdd, Int.reduceSub, Int.reduceMul, Int.reduceNeg, Int.reduceToNat, Nat.reduceEqDiff, Nat.reduceLT, Nat.reduceLeDiff, Nat.reduceMul, List.replicate, reduceCtorEq, op_len und9 rfl, eql25]
  refine code_draw [(0, 2), (0, 3), (0, 4), (0, 5), (1, 2), (1, 3), (1, 4), (1, 5)] (by decide +kernel) (by decide +kernel) ?_
  simp -dsimp (maxSteps := 4000000) (disch := first | omega | assumption | (simp only [FB, Nat.reduceAdd]; done) | (simp only [LB]; omega)) only [WB, Nat.reduceSub, Nat.reduceAdd, Int.reduceEq, Int.reduceNe, Int.reduceLT, Int.reduceLE, Int.reduceAdd, Int.reduceSub, Int.reduceMul, Int.reduceNeg, Int.reduceToNat, Nat.reduceEqDiff, Nat.reduceLT, Nat.reduceLeDiff, Nat.reduceMul, List.replicate, reduceCtorEq, RB, Nat.reduceEqDiff, op_len und9 rfl, hb, devC, op_fa fo64_0, op_fa fo64_1, op_fa fo64_2, op_fa fo64_3, op_fa fo64_4, op_fa fo64_5, op_fa fo64_6, load_one agg3, load_one agg9, load_one agg62, storeVar_eq size3, storeVar_eq size9, storeVar_eq size62, hbl', note_len und9 rfl]
  have hm : 128 * n0 = ((128 * n0.toNat : Nat) : Int) := by omega
  have hnn : n0 * D.s = ((128 * n0.toNat : Nat) : Int) := by rw [hs, Int.mul_comm]; exact hm
  simp -dsimp (maxSteps := 4000000) (disch := first | omega | assumption | (simp only [FB, Nat.reduceAdd]; done) | (simp only [LB]; omega)) only [WB, Nat.reduceSub, Nat.reduceAdd, Int.reduceEq, Int.reduceNe, Int.reduceLT, Int.reduceLE, Int.reduceAdd, Int.reduceSub, Int.reduceMul, Int.reduceNeg, Int.reduceToNat, Nat.reduceEqDiff, Nat.reduceLT, Nat.reduceLeDiff, Nat.reduceMul, List.replicate, reduceCtorEq, op_len und9 rfl, hb, devC, op_fa fo64_0, op_fa fo64_1, op_fa fo64_2, op_fa fo64_3, op_fa fo64_4, op_fa fo64_5, op_fa fo64_6, load_one agg3, load_one agg9, load_one agg62, storeVar_eq size3, storeVar_eq size9, storeVar_eq size62, op_conv_int und31 und65, conv_int und31 und65, op_conv_int und3 und65, conv_int und3 und65, op_conv_int und31 und3, conv_int und31 und3, wrapu64, wrap64, show ¬ D.c ≤ n0 by omega, hnn, zero3]
  refine code_draw [(0, 1), (0, 2), (0, 3), (0, 4), (0, 6), (1, 6), (2, 6), (3, 6), (4, 6), (5, 6)] (by decide +kernel) (by decide +kernel) ?_
  simp -dsimp (maxSteps := 4000000) (disch := first | omega | assumption | (simp only [FB, Nat.reduceAdd]; done) | (simp only [LB]; omega)) only [WB, Nat.reduceSub, Nat.reduceAdd, Int.reduceEq, Int.reduceNe, Int.reduceLT, Int.reduceLE, Int.reduceAdd, Int.reduceSub, Int.reduceMul, Int.reduceNeg, Int.reduceToNat, Nat.reduceEqDiff, Nat.reduceLT, Nat.reduceLeDiff, Nat.reduceMul, List.replicate, reduceCtorEq, RB, Nat.reduceEqDiff, op_len und9 rfl, hb, devC, op_fa fo64_0, op_fa fo64_1, op_fa fo64_2, op_fa fo64_3, op_fa fo64_4, op_fa fo64_5, op_fa fo64_6, load_one agg3, load_one agg9, load_one agg62, storeVar_eq size3, storeVar_eq size9, storeVar_eq size62, wrap64, zero3, hs]
  have hS := hd.lt.2.2
  have hqn := hd.lt.2.1
  generalize hh2 : (n + 4, Blk.cells [Value.int IntKind.i64 (((128 * n0.toNat : Nat) : Int) + 128)] true) :: (n + 2, Blk.cells [Value.int IntKind.i64 ((128 * n0.toNat : Nat) : Int)] true) :: (n, Blk.cells [Value.string (mkStr blk)] true) :: h = h2
  have hlo : ∀ j, j < n → look j h2 = look j h := by
    intro j hj; rw [← hh2, look_miss (by omega), look_miss (by omega), look_miss (by omega)]
  have hd2 : DevS h2 (n + 5) b q (fun j => S j ∨ j = n ∨ j = n + 2 ∨ j = n + 4) D := hd.more (by omega) hlo (fun j hj => .inl hj) (by rintro j (hj | hj); exact .inl hj; right; omega)
  have hr : Rep h2 (fun j => S j ∨ j = n ∨ j = n + 2 ∨ j = n + 4) (.func (.func 34) #[] #[.pointer (some ⟨n + 4, 0, none⟩), .pointer (some ⟨n + 2, 0, none⟩), .pointer (some ⟨n, 0, none⟩)]) (.wr (128 * n0.toNat) blk) := by
    refine ⟨_, _, _, rfl, ?_, ?_, ?_, ?_, ?_, ?_⟩
    · rw [← hh2, look_self, hbl]; rfl
    · rw [← hh2, look_miss (by omega), look_self]
    · rw [← hh2, look_miss (by omega), look_miss (by omega), look_self]
    · exact .inr (.inr (.inr rfl))
    · exact .inr (.inr (.inl rfl))
    · exact .inr (.inl rfl)
  refine do33 D (.wr (128 * n0.toNat) blk) _ (by unfold DOp.lim; simp only; omega) hno hlen hd2 hr _ ?_ ?_
  · intro hf
    simp -dsimp (maxSteps := 4000000) (disch := first | omega | assumption | (simp only [FB, Nat.reduceAdd]; done) | (simp only [LB]; omega)) only [WB, Nat.reduceSub, Nat.reduceAdd, Int.reduceEq, Int.reduceNe, Int.reduceLT, Int.reduceLE, Int.reduceAdd, Int.reduceSub, Int.reduceMul, Int.reduceNeg, Int.reduceToNat, Nat.reduceEqDiff, Nat.reduceLT, Nat.reduceLeDiff, Nat.reduceMul, List.replicate, reduceCtorEq, op_len und9 rfl, ]
    exact hK hf
  · intro hf n' h' q' d' hsd hq' hn' hd' hout
    obtain ⟨hne, hsd2⟩ := soiled_up (bs := bs) (d := d) hsd hbn
    simp -dsimp (maxSteps := 4000000) (disch := first | omega | assumption | (simp only [FB, Nat.reduceAdd]; done) | (simp only [LB]; omega)) only [WB, Nat.reduceSub, Nat.reduceAdd, Int.reduceEq, Int.reduceNe, Int.reduceLT, Int.reduceLE, Int.reduceAdd, Int.reduceSub, Int.reduceMul, Int.reduceNeg, Int.reduceToNat, Nat.reduceEqDiff, Nat.reduceLT, Nat.reduceLeDiff, Nat.reduceMul, List.replicate, reduceCtorEq, op_len und9 rfl, ]
    rw [leave_dirty0 hne]
    refine hK2 hf n' h' q' _ _ hsd2 (by omega) (fun j hj => ?_) (by omega) hd' ?_
    · rcases hj with h | h
      · exact .inl h
      · right; omega
    · intro j j1 j2 j3
      rw [hout j (by omega) j2 j3, hlo j j1]
end Go.Proofs.YtgdmgolmeeigdaaAM
