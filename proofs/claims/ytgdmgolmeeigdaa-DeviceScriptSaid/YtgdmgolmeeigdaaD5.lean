/- Chapter 3: truncating and syncing. -/
import Derived.Test.YtgdmgolmeeigdaaD4
namespace Go.Proofs.YtgdmgolmeeigdaaAM
open Go Go.RowKit
set_option linter.unusedVariables false
set_option linter.unusedSimpArgs false
set_option maxRecDepth 10000
set_option maxHeartbeats 4000000

theorem sync22 (D : Dv) (hno : D.o < 100000) {h : List (Nat × Blk)} {n bs b q : Nat} {d : List Nat} {S : Nat → Prop} (hd : DevS h n b q S D) (K : Value → AW → Prop)
    (hK : D.f = 0 → K (.int .i64 8) ⟨n, h, bs, d⟩)
    (hK2 : D.f ≠ 0 → ∀ h' d', Soiled bs d d' b q → DevS h' n b q S { D with du := D.im, ops := [], f := if 0 < D.f then D.f - 1 else D.f, o := D.o + 1 } → Out h h' n b q → K (.int .i64 0) ⟨n, h', bs, d'⟩) :
    WCall Try.prog GV 22 [.pointer (some ⟨b, 0, none⟩)] ⟨n, h, bs, d⟩ K := by
  rw [call_body' Try.func22 rfl Try.ntmps22 rfl rfl]
  obtain ⟨⟨pv, fs, hb, hp, hfl, hrep⟩, hbq, hbS, hqS, ⟨hbn, hqn, hSn⟩, hfu, hno0, him, hdu, hop⟩ := hd
  obtain ⟨D1, D2, D3, D4, D5, D6, D7⟩ := D
  simp only at *
  by_cases h0 : D6 = 0
  · simp -dsimp (maxSteps := 4000000) (disch := first | omega | assumption | (simp only [FB, Nat.reduceAdd]; done) | (simp only [LB]; omega)) only [WB, Nat.reduceSub, Nat.reduceAdd, Int.reduceEq, Int.reduceNe, Int.reduceLT, Int.reduceLE, Int.reduceAdd, Int.reduceSub, Int.reduceMul, Int.reduceNeg, Int.reduceToNat, Nat.reduceEqDiff, Nat.reduceLT, Nat.reduceLeDiff, Nat.reduceMul, List.replicate, reduceCtorEq, op_len und9 rfl, eql25, spend37 D1 D2 D3 D4 pv D6 D7 hfu ⟨hno0, by omega⟩ b n n h [] hb hbn, h0, if_true]
    exact hK h0
  · obtain ⟨f', hf'⟩ : ∃ f' : Int, (if 0 < D6 then D6 - 1 else D6) = f' := ⟨_, rfl⟩
    have hq0 := soil_one hbn
    simp -dsimp (maxSteps := 4000000) (disch := first | omega | assumption | (simp only [FB, Nat.reduceAdd]; done) | (simp only [LB]; omega)) only [WB, Nat.reduceSub, Nat.reduceAdd, Int.reduceEq, Int.reduceNe, Int.reduceLT, Int.reduceLE, Int.reduceAdd, Int.reduceSub, Int.reduceMul, Int.reduceNeg, Int.reduceToNat, Nat.reduceEqDiff, Nat.reduceLT, Nat.reduceLeDiff, Nat.reduceMul, List.replicate, reduceCtorEq, op_len und9 rfl, eql25, spend37 D1 D2 D3 D4 pv D6 D7 hfu ⟨hno0, by omega⟩ b n n h [] hb hbn, h0, if_false, hf', hq0, op_fa fo64_0, op_fa fo64_1, op_fa fo64_2, op_fa fo64_3, op_fa fo64_4, op_fa fo64_5, op_fa fo64_6, load_one agg3, load_one agg9, load_one agg62, storeVar_eq size3, storeVar_eq size9, storeVar_eq size62, devC, hb, write_soil]
    rw [leave_dirty0 (soilW_ne hbn)]
    refine hK2 h0 _ _ (soiled_of (soilW_mem hbn) fun lo l1 l2 => ?_) ?_ ?_
    · have hb0 := fromU_one l1
      exact fromU_soil (fromU_soil hb0 l1) l1
    · refine ⟨⟨.slice none 0 0, [], ?_, .inl ⟨rfl, rfl⟩, rfl, fun i fv o e1 e2 => by simp at e1⟩, hbq, hbS, hqS, ⟨hbn, hqn, hSn⟩, ?_, by simp only; omega, him, him, fun o ho => by simp at ho⟩
      · rw [look_wput_self, look_wput_self, look_wput_self, hb]; simp only [hf']; rfl
      · simp only [hf']; rw [← hf']; split <;> omega
    · intro j j1 j2 j3
      rw [look_wput_ne j2, look_wput_ne j2, look_wput_ne j2]
theorem trunc20 (D : Dv) (n0 : Int) (h0 : 0 ≤ n0 ∧ n0 < 100) (hs : D.s = 128) (hc : n0 ≤ D.c ∧ D.c ≤ 1048576) (hno : D.o < 100000) (hlen : D.ops.length < 100000) {h : List (Nat × Blk)} {n bs b q : Nat} {d : List Nat} {S : Nat → Prop} (hd : DevS h n b q S D) (K : Value → AW → Prop)
    (hK : D.f = 0 → K (.int .i64 8) ⟨n, h, bs, d⟩)
    (hK2 : D.f ≠ 0 → ∀ n' h' q' d' S', Soiled bs d d' b q → (q' = q ∨ n ≤ q') → (∀ j, S' j → S j ∨ n ≤ j) → n ≤ n' → DevS h' n' b q' S' { D with im := (DOp.tr (128 * n0.toNat)).act D.im, ops := D.ops ++ [.tr (128 * n0.toNat)], f := if 0 < D.f then D.f - 1 else D.f, o := D.o + 1 } → Out h h' n b q → K (.int .i64 0) ⟨n', h', bs, d'⟩) :
    WCall Try.prog GV 20 [.pointer (some ⟨b, 0, none⟩), .int .u32 n0] ⟨n, h, bs, d⟩ K := by
  rw [call_body' Try.func20 rfl Try.ntmps20 rfl rfl]
  obtain ⟨pv, fs, hb, hp, hfl, hrep⟩ := hd.st
  have hbn := hd.lt.1
  have hm : 128 * n0 = ((128 * n0.toNat : Nat) : Int) := by omega
  have hnn : n0 * D.s = ((128 * n0.toNat : Nat) : Int) := by rw [hs, Int.mul_comm]; exact hm
  simp -dsimp (maxSteps := 4000000) (disch := first | omega | assumption | (simp only [FB, Nat.reduceAdd]; done) | (simp only [LB]; omega)) only [WB, Nat.reduceSub, Nat.reduceAdd, Int.reduceEq, Int.reduceNe, Int.reduceLT, Int.reduceLE, Int.reduceAdd, Int.reduceSub, Int.reduceMul, Int.reduceNeg, Int.reduceToNat, Nat.reduceEqDiff, Nat.reduceLT, Nat.reduceLeDiff, Nat.reduceMul, List.replicate, reduceCtorEq, op_len und9 rfl, eql25, hb, devC, op_fa fo64_0, op_fa fo64_1, op_fa fo64_2, op_fa fo64_3, op_fa fo64_4, op_fa fo64_5, op_fa fo64_6, load_one agg3, load_one agg9, load_one agg62, storeVar_eq size3, storeVar_eq size9, storeVar_eq size62, op_conv_int und31 und65, conv_int und31 und65, op_conv_int und3 und65, conv_int und3 und65, op_conv_int und31 und3, conv_int und31 und3, wrapu64, wrap64, show ¬ D.c < n0 by omega, hnn, zero3]
  have hS := hd.lt.2.2
  have hqn := hd.lt.2.1
  generalize hh2 : (n, Blk.cells [Value.int IntKind.i64 ((128 * n0.toNat : Nat) : Int)] true) :: h = h2
  have hlo : ∀ j, j < n → look j h2 = look j h := by
    intro j hj; rw [← hh2, look_miss (by omega)]
  have hd2 : DevS h2 (n + 1) b q (fun j => S j ∨ j = n) D := hd.more (by omega) hlo (fun j hj => .inl hj) (by rintro j (hj | hj); exact .inl hj; right; omega)
  have hr : Rep h2 (fun j => S j ∨ j = n) (.func (.func 36) #[] #[.pointer (some ⟨n, 0, none⟩)]) (.tr (128 * n0.toNat)) :=
    ⟨_, rfl, by rw [← hh2, look_self], .inr rfl⟩
  refine do33 D (.tr (128 * n0.toNat)) _ (by unfold DOp.lim; simp only; omega) hno hlen hd2 hr _ ?_ ?_
  · intro hf
    simp -dsimp (maxSteps := 4000000) (disch := first | omega | assumption | (simp only [FB, Nat.reduceAdd]; done) | (simp only [LB]; omega)) only [WB, Nat.reduceSub, Nat.reduceAdd, Int.reduceEq, Int.reduceNe, Int.reduceLT, Int.reduceLE, Int.reduceAdd, Int.reduceSub, Int.reduceMul, Int.reduceNeg, Int.reduceToNat, Nat.reduceEqDiff, Nat.reduceLT, Nat.reduceLeDiff, Nat.reduceMul, List.replicate, reduceCtorEq, op_len und9 rfl, ]
    exact hK hf
  · intro hf n' h' q' d' hsd hq' hn' hd' hout
    obtain ⟨hne, hsd2⟩ := soiled_up (bs := bs) (d := d) hsd hbn
    simp -dsimp (maxSteps := 4000000) (disch := first | omega | assumption | (simp only [FB, Nat.reduceAdd]; done) | (simp only [LB]; omega)) only [WB, Nat.reduceSub, Nat.reduceAdd, Int.reduceEq, Int.reduceNe, Int.reduceLT, Int.reduceLE, Int.reduceAdd, Int.reduceSub, Int.reduceMul, Int.reduceNeg, Int.reduceToNat, Nat.reduceEqDiff, Nat.reduceLT, Nat.reduceLeDiff, Nat.reduceMul, List.replicate, reduceCtorEq, op_len und9 rfl, ]
    rw [leave_dirty0 hne]
    refine hK2 hf n' h' q' _ _ hsd2 (by omega) (fun j hj => ?_) (by omega) hd' ?_
    · rcases hj with h | h
      · exact .inl h
      · right; omega
    · intro j j1 j2 j3
      rw [hout j (by omega) j2 j3, hlo j j1]
end Go.Proofs.YtgdmgolmeeigdaaAM
