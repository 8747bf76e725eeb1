/- Chapter 3: the document's device, its methods. -/
import Derived.Test.YtgdmgolmeeigdaaD15
namespace Go.Proofs.YtgdmgolmeeigdaaAM
open Go Go.RowKit
set_option linter.unusedVariables false
set_option linter.unusedSimpArgs false
set_option maxRecDepth 10000
set_option maxHeartbeats 4000000

theorem AfterR.up {h h1 h' : List (Nat × Blk)} {n n1 n' bs b q q' : Nat} {d d' : List Nat} {D D' : Dv} (ha : AfterR h1 n1 n [] b q D D' h' n' d' q') (hbn : b < n) (hn : n ≤ n1) (hh : ∀ j, j < n → look j h1 = look j h) {v : Value} (hv : flat v = true) :
    ∃ n2 h2 d2, leaveA ⟨n, h, bs, d⟩ [v] ⟨n', h', n, d'⟩ = ([v], ⟨n2, h2, bs, d2⟩) ∧ AfterR h n bs d b q D D' h2 n2 d2 q' := by
  cases ha with
  | same e => exact ⟨n, h, d, leave_flat (by simp [hv]), .same e⟩
  | wrote g1 g2 g4 g5 g6 =>
    obtain ⟨hne, hsd⟩ := soiled_up (bs := bs) (d := d) g1 hbn
    exact ⟨n', h', _, leave_dirty0 hne, .wrote hsd (by omega) (by omega) g5 fun j j1 j2 j3 => by rw [g6 j (by omega) j2 j3, hh j j1]⟩
section
variable {D : Dv} {k : Nat} {h : List (Nat × Blk)} {n bs b q : Nat} {d : List Nat} {K : Value → AW → Prop}
theorem build73w {x : Int} {l : List UInt8} : buildA Try.prog 73 [(1, .int .u32 x), (2, .string (mkStr l))] = some (.agg [.bool false, .int .u32 x, .string (mkStr l)].toArray) := rfl
theorem build73t {x : Int} : buildA Try.prog 73 [(0, .bool true), (1, .int .u32 x)] = some (.agg [.bool true, .int .u32 x, .string (mkStr [])].toArray) := rfl
theorem write39 (hk : D.Ok k) (hk2 : k ≤ 100) (x : Int) (hx : 0 ≤ x ∧ x ≤ 4294967295) (blk : List UInt8) (hd : RefS h n b q D)
    (hK : ∀ n' h' d' q', AfterR h n bs d b q D (D.write x blk).1 h' n' d' q' → K (.int .i64 (D.write x blk).2) ⟨n', h', bs, d'⟩) :
    WCall Try.prog GV 39 [.pointer (some ⟨b, 0, none⟩), .int .u32 x, .string (mkStr blk)] ⟨n, h, bs, d⟩ K := by
  rw [call_env Try.func39 rfl Try.ntmps39 rfl rfl (by simp)]
  obtain ⟨pv, hb, hp⟩ := hd.st
  have hbn := hd.lt.1
  have hs := hk.s
  have hc := hk.c
  by_cases hbl : blk.length = 128
  · have hbl' : (blk.length : Int) = 128 := by omega
    by_cases hcc : D.c ≤ x
    · have hw : D.write x blk = (D, 9) := by simp [Dv.write, hbl, hcc]
      rw [hw] at hK
      simp -dsimp (maxSteps := 4000000) (disch := first | omega | assumption | (simp only [FB, Nat.reduceAdd]; done) | (simp only [LB]; omega)) only [EB, ↓reduceIte, WB, Nat.reduceSub, Nat.reduceAdd, Int.reduceEq, Int.reduceNe, Int.reduceLT, Int.reduceLE, Int.reduceAdd, Int.reduceSub, Int.reduceMul, Int.reduceNeg, Int.reduceToNat, Nat.reduceEqDiff, Nat.reduceLT, Nat.reduceLeDiff, Nat.reduceMul, List.replicate, reduceCtorEq, op_len und9 rfl, hb, refC, op_fa fo60_0, op_fa fo60_1, op_fa fo60_2, op_fa fo60_3, op_fa fo60_4, op_fa fo60_5, op_fa fo60_6, load_one agg3, load_one agg9, load_one agg58, storeVar_eq size3, storeVar_eq size9, storeVar_eq size58, op_len und9 rfl, hs, hbl', op_conv_int und31 und2, conv_int und31 und2, op_conv_int und3 und2, conv_int und3 und2, wrap64, hcc]
      exact hK n h d q (.same rfl)
    · have hw : D.write x blk = D.doOp (.wr (128 * x.toNat) blk) := by simp [Dv.write, hbl, hcc]
      rw [hw] at hK
      have hE : [Value.bool false, .int .u32 x, .string (mkStr blk)] = encO (.wr (128 * x.toNat) blk) := by
        simp only [encO]; rw [show 128 * x.toNat / 128 = x.toNat by omega, show ((x.toNat : Nat) : Int) = x by omega]
      simp -dsimp (maxSteps := 4000000) (disch := first | omega | assumption | (simp only [FB, Nat.reduceAdd]; done) | (simp only [LB]; omega)) only [EB, ↓reduceIte, WB, Nat.reduceSub, Nat.reduceAdd, Int.reduceEq, Int.reduceNe, Int.reduceLT, Int.reduceLE, Int.reduceAdd, Int.reduceSub, Int.reduceMul, Int.reduceNeg, Int.reduceToNat, Nat.reduceEqDiff, Nat.reduceLT, Nat.reduceLeDiff, Nat.reduceMul, List.replicate, reduceCtorEq, op_len und9 rfl, hb, refC, op_fa fo60_0, op_fa fo60_1, op_fa fo60_2, op_fa fo60_3, op_fa fo60_4, op_fa fo60_5, op_fa fo60_6, load_one agg3, load_one agg9, load_one agg58, storeVar_eq size3, storeVar_eq size9, storeVar_eq size58, op_len und9 rfl, hs, hbl', op_conv_int und31 und2, conv_int und31 und2, op_conv_int und3 und2, conv_int und3 und2, wrap64, hcc, build73w]
      rw [hE]
      refine does46 hk hk2 _ ⟨x.toNat, rfl, hbl, by omega⟩ hd fun n' h' d' q' ha => ?_
      obtain ⟨n2, h2, d2, e, ha2⟩ := ha.up (bs := bs) (d := d) (v := .int .i64 (D.doOp (.wr (128 * x.toNat) blk)).2) hbn (Nat.le_refl _) (fun _ _ => rfl) rfl
      simp -dsimp (maxSteps := 4000000) (disch := first | omega | assumption | (simp only [FB, Nat.reduceAdd]; done) | (simp only [LB]; omega)) only [EB, ↓reduceIte, WB, Nat.reduceSub, Nat.reduceAdd, Int.reduceEq, Int.reduceNe, Int.reduceLT, Int.reduceLE, Int.reduceAdd, Int.reduceSub, Int.reduceMul, Int.reduceNeg, Int.reduceToNat, Nat.reduceEqDiff, Nat.reduceLT, Nat.reduceLeDiff, Nat.reduceMul, List.replicate, reduceCtorEq, op_len und9 rfl, e]
      exact hK _ _ _ _ ha2
  · have hbl' : ¬ (blk.length : Int) = 128 := by omega
    have hw : D.write x blk = (D, 2) := by simp [Dv.write, hbl]
    rw [hw] at hK
    simp -dsimp (maxSteps := 4000000) (disch := first | omega | assumption | (simp only [FB, Nat.reduceAdd]; done) | (simp only [LB]; omega)) only [EB, ↓reduceIte, WB, Nat.reduceSub, Nat.reduceAdd, Int.reduceEq, Int.reduceNe, Int.reduceLT, Int.reduceLE, Int.reduceAdd, Int.reduceSub, Int.reduceMul, Int.reduceNeg, Int.reduceToNat, Nat.reduceEqDiff, Nat.reduceLT, Nat.reduceLeDiff, Nat.reduceMul, List.replicate, reduceCtorEq, op_len und9 rfl, hb, refC, op_fa fo60_0, op_fa fo60_1, op_fa fo60_2, op_fa fo60_3, op_fa fo60_4, op_fa fo60_5, op_fa fo60_6, load_one agg3, load_one agg9, load_one agg58, storeVar_eq size3, storeVar_eq size9, storeVar_eq size58, op_len und9 rfl, hs, hbl']
    exact hK n h d q (.same rfl)
theorem trunc40 (hk : D.Ok k) (hk2 : k ≤ 100) (x : Int) (hx : 0 ≤ x ∧ x ≤ 4294967295) (hd : RefS h n b q D)
    (hK : ∀ n' h' d' q', AfterR h n bs d b q D (D.trunc x).1 h' n' d' q' → K (.int .i64 (D.trunc x).2) ⟨n', h', bs, d'⟩) :
    WCall Try.prog GV 40 [.pointer (some ⟨b, 0, none⟩), .int .u32 x] ⟨n, h, bs, d⟩ K := by
  rw [call_env Try.func40 rfl Try.ntmps40 rfl rfl (by simp)]
  obtain ⟨pv, hb, hp⟩ := hd.st
  have hbn := hd.lt.1
  have hs := hk.s
  have hc := hk.c
  by_cases hcc : D.c < x
  · have hw : D.trunc x = (D, 2) := by simp [Dv.trunc, hcc]
    rw [hw] at hK
    simp -dsimp (maxSteps := 4000000) (disch := first | omega | assumption | (simp only [FB, Nat.reduceAdd]; done) | (simp only [LB]; omega)) only [EB, ↓reduceIte, WB, Nat.reduceSub, Nat.reduceAdd, Int.reduceEq, Int.reduceNe, Int.reduceLT, Int.reduceLE, Int.reduceAdd, Int.reduceSub, Int.reduceMul, Int.reduceNeg, Int.reduceToNat, Nat.reduceEqDiff, Nat.reduceLT, Nat.reduceLeDiff, Nat.reduceMul, List.replicate, reduceCtorEq, op_len und9 rfl, hb, refC, op_fa fo60_0, op_fa fo60_1, op_fa fo60_2, op_fa fo60_3, op_fa fo60_4, op_fa fo60_5, op_fa fo60_6, load_one agg3, load_one agg9, load_one agg58, storeVar_eq size3, storeVar_eq size9, storeVar_eq size58, op_conv_int und31 und2, conv_int und31 und2, op_conv_int und3 und2, conv_int und3 und2, wrap64, hcc]
    exact hK n h d q (.same rfl)
  · have hw : D.trunc x = D.doOp (.tr (128 * x.toNat)) := by simp [Dv.trunc, hcc]
    rw [hw] at hK
    have hE : [Value.bool true, .int .u32 x, .string (mkStr [])] = encO (.tr (128 * x.toNat)) := by
      simp only [encO]; rw [show 128 * x.toNat / 128 = x.toNat by omega, show ((x.toNat : Nat) : Int) = x by omega]
    simp -dsimp (maxSteps := 4000000) (disch := first | omega | assumption | (simp only [FB, Nat.reduceAdd]; done) | (simp only [LB]; omega)) only [EB, ↓reduceIte, WB, Nat.reduceSub, Nat.reduceAdd, Int.reduceEq, Int.reduceNe, Int.reduceLT, Int.reduceLE, Int.reduceAdd, Int.reduceSub, Int.reduceMul, Int.reduceNeg, Int.reduceToNat, Nat.reduceEqDiff, Nat.reduceLT, Nat.reduceLeDiff, Nat.reduceMul, List.replicate, reduceCtorEq, op_len und9 rfl, hb, refC, op_fa fo60_0, op_fa fo60_1, op_fa fo60_2, op_fa fo60_3, op_fa fo60_4, op_fa fo60_5, op_fa fo60_6, load_one agg3, load_one agg9, load_one agg58, storeVar_eq size3, storeVar_eq size9, storeVar_eq size58, op_conv_int und31 und2, conv_int und31 und2, op_conv_int und3 und2, conv_int und3 und2, wrap64, hcc, build73t]
    rw [hE]
    refine does46 hk hk2 _ ⟨x.toNat, rfl, by omega⟩ hd fun n' h' d' q' ha => ?_
    obtain ⟨n2, h2, d2, e, ha2⟩ := ha.up (bs := bs) (d := d) (v := .int .i64 (D.doOp (.tr (128 * x.toNat))).2) hbn (Nat.le_refl _) (fun _ _ => rfl) rfl
    simp -dsimp (maxSteps := 4000000) (disch := first | omega | assumption | (simp only [FB, Nat.reduceAdd]; done) | (simp only [LB]; omega)) only [EB, ↓reduceIte, WB, Nat.reduceSub, Nat.reduceAdd, Int.reduceEq, Int.reduceNe, Int.reduceLT, Int.reduceLE, Int.reduceAdd, Int.reduceSub, Int.reduceMul, Int.reduceNeg, Int.reduceToNat, Nat.reduceEqDiff, Nat.reduceLT, Nat.reduceLeDiff, Nat.reduceMul, List.replicate, reduceCtorEq, op_len und9 rfl, e]
    exact hK _ _ _ _ ha2
theorem sync41 (hk : D.Ok k) (hk2 : k ≤ 100) (hd : RefS h n b q D)
    (hK : ∀ n' h' d' q', AfterR h n bs d b q D D.sync.1 h' n' d' q' → K (.int .i64 D.sync.2) ⟨n', h', bs, d'⟩) :
    WCall Try.prog GV 41 [.pointer (some ⟨b, 0, none⟩)] ⟨n, h, bs, d⟩ K := by
  rw [call_env Try.func41 rfl Try.ntmps41 rfl rfl (by simp)]
  obtain ⟨⟨pv, hb, hp⟩, hbq, ⟨hbn, hqn⟩, hfu, hno0, him, hdu, hop⟩ := hd
  have ho := hk.o
  by_cases h0 : D.f = 0
  · have hD : D.sync = (D, 8) := by simp [Dv.sync, h0]
    rw [hD] at hK
    simp -dsimp (maxSteps := 4000000) (disch := first | omega | assumption | (simp only [FB, Nat.reduceAdd]; done) | (simp only [LB]; omega)) only [EB, ↓reduceIte, WB, Nat.reduceSub, Nat.reduceAdd, Int.reduceEq, Int.reduceNe, Int.reduceLT, Int.reduceLE, Int.reduceAdd, Int.reduceSub, Int.reduceMul, Int.reduceNeg, Int.reduceToNat, Nat.reduceEqDiff, Nat.reduceLT, Nat.reduceLeDiff, Nat.reduceMul, List.replicate, reduceCtorEq, op_len und9 rfl, spend47 D hfu ⟨hno0, by omega⟩ pv hb hbn, h0, if_true]
    exact hK n h d q (.same rfl)
  · have hD : D.sync = ({ D with du := D.im, ops := [], f := D.dec, o := D.o + 1 }, 0) := by simp [Dv.sync, h0]
    rw [hD] at hK
    have hq0 := soil_one hbn
    simp -dsimp (maxSteps := 4000000) (disch := first | omega | assumption | (simp only [FB, Nat.reduceAdd]; done) | (simp only [LB]; omega)) only [EB, ↓reduceIte, WB, Nat.reduceSub, Nat.reduceAdd, Int.reduceEq, Int.reduceNe, Int.reduceLT, Int.reduceLE, Int.reduceAdd, Int.reduceSub, Int.reduceMul, Int.reduceNeg, Int.reduceToNat, Nat.reduceEqDiff, Nat.reduceLT, Nat.reduceLeDiff, Nat.reduceMul, List.replicate, reduceCtorEq, op_len und9 rfl, spend47 D hfu ⟨hno0, by omega⟩ pv hb hbn, h0, if_false, hq0, op_fa fo60_0, op_fa fo60_1, op_fa fo60_2, op_fa fo60_3, op_fa fo60_4, op_fa fo60_5, op_fa fo60_6, load_one agg3, load_one agg9, load_one agg58, storeVar_eq size3, storeVar_eq size9, storeVar_eq size58, refC, hb, write_soil]
    rw [leave_dirty0 (soilW_ne hbn)]
    refine hK _ _ _ q (.wrote (soiled_of (soilW_mem hbn) fun lo l1 l2 => ?_) (.inl rfl) (Nat.le_refl _) ?_ ?_)
    · have hb0 := fromU_one l1
      exact fromU_soil (fromU_soil hb0 l1) l1
    · refine ⟨⟨.slice none 0 0, ?_, .inl ⟨rfl, rfl⟩⟩, hbq, ⟨hbn, hqn⟩, ?_, by simp only; omega, him, him, fun o ho => by simp at ho⟩
      · rw [look_wput_self, look_wput_self, look_wput_self, hb]; rfl
      · simp only [Dv.dec]; split <;> omega
    · intro j j1 j2 j3
      rw [look_wput_ne j2, look_wput_ne j2, look_wput_ne j2]
theorem fuse44 (v : Int) (hv : v ≤ 9223372036854775807) (hd : RefS h n b q D)
    (hK : ∀ n' h' d' q', AfterR h n bs d b q D (D.fuse v) h' n' d' q' → K (.tuple #[]) ⟨n', h', bs, d'⟩) :
    WCall Try.prog GV 44 [.pointer (some ⟨b, 0, none⟩), .int .i64 v] ⟨n, h, bs, d⟩ K := by
  rw [call_env Try.func44 rfl Try.ntmps44 rfl rfl (by simp)]
  obtain ⟨⟨pv, hb, hp⟩, hbq, ⟨hbn, hqn⟩, hfu, hno0, him, hdu, hop⟩ := hd
  simp -dsimp (maxSteps := 4000000) (disch := first | omega | assumption | (simp only [FB, Nat.reduceAdd]; done) | (simp only [LB]; omega)) only [EB, ↓reduceIte, WB, Nat.reduceSub, Nat.reduceAdd, Int.reduceEq, Int.reduceNe, Int.reduceLT, Int.reduceLE, Int.reduceAdd, Int.reduceSub, Int.reduceMul, Int.reduceNeg, Int.reduceToNat, Nat.reduceEqDiff, Nat.reduceLT, Nat.reduceLeDiff, Nat.reduceMul, List.replicate, reduceCtorEq, op_len und9 rfl, op_fa fo60_0, op_fa fo60_1, op_fa fo60_2, op_fa fo60_3, op_fa fo60_4, op_fa fo60_5, op_fa fo60_6, load_one agg3, load_one agg9, load_one agg58, storeVar_eq size3, storeVar_eq size9, storeVar_eq size58, refC, hb, write_soil]
  rw [soil_one hbn, leave_soil]
  simp -dsimp (maxSteps := 4000000) (disch := first | omega | assumption | (simp only [FB, Nat.reduceAdd]; done) | (simp only [LB]; omega)) only [EB, ↓reduceIte, WB, Nat.reduceSub, Nat.reduceAdd, Int.reduceEq, Int.reduceNe, Int.reduceLT, Int.reduceLE, Int.reduceAdd, Int.reduceSub, Int.reduceMul, Int.reduceNeg, Int.reduceToNat, Nat.reduceEqDiff, Nat.reduceLT, Nat.reduceLeDiff, Nat.reduceMul, List.replicate, reduceCtorEq, op_len und9 rfl, ]
  refine hK _ _ _ q (.wrote ⟨fun h1 _ => soilW_own h1, fun h => soilW_mem h, fun lo h1 h2 h3 => fromU_soil h3 h1⟩ (.inl rfl) (Nat.le_refl _) ?_ fun j _ h1 _ => look_wput_ne h1)
  refine ⟨⟨pv, ?_, hp.keep (by rw [look_wput_ne (Ne.symm hbq)])⟩, hbq, ⟨hbn, hqn⟩, ?_, hno0, him, hdu, hop⟩
  · rw [look_wput_self, hb]; simp only [Dv.fuse, Int.max_comm]; rfl
  · simp only [Dv.fuse]; omega
theorem pages30 (hs : D.s = 128) (hd : RefS h n b q D) : WCall Try.prog GV 30 [.pointer (some ⟨b, 0, none⟩)] ⟨n, h, bs, d⟩ K = K (.int .i64 ((D.im.length / 128 : Nat) : Int)) ⟨n, h, bs, d⟩ := by
  refine call_eq ?_ K
  rw [call_env Try.func30 rfl Try.ntmps30 rfl rfl (by simp)]
  obtain ⟨⟨pv, hb, hp⟩, hbq, ⟨hbn, hqn⟩, hfu, hno0, him, hdu, hop⟩ := hd
  have e1 : (D.im.length : Int).tdiv 128 = ((D.im.length / 128 : Nat) : Int) := by rw [Int.tdiv_eq_ediv_of_nonneg (by omega)]; omega
  simp -dsimp (maxSteps := 4000000) (disch := first | omega | assumption | (simp only [FB, Nat.reduceAdd]; done) | (simp only [LB]; omega)) only [EB, ↓reduceIte, WB, Nat.reduceSub, Nat.reduceAdd, Int.reduceEq, Int.reduceNe, Int.reduceLT, Int.reduceLE, Int.reduceAdd, Int.reduceSub, Int.reduceMul, Int.reduceNeg, Int.reduceToNat, Nat.reduceEqDiff, Nat.reduceLT, Nat.reduceLeDiff, Nat.reduceMul, List.replicate, reduceCtorEq, op_len und9 rfl, ]
  refine code_draw [(0, 5), (0, 6), (0, 7), (0, 8), (1, 5), (1, 6), (1, 7), (1, 8), (2, 5), (2, 6), (2, 7), (2, 8), (3, 5), (3, 6), (3, 7), (3, 8), (4, 5), (4, 6), (4, 7), (4, 8)] (by decide +kernel) (by decide +kernel) ?_
  simp -dsimp (maxSteps := 4000000) (disch := first | omega | assumption | (simp only [FB, Nat.reduceAdd]; done) | (simp only [LB]; omega)) only [EB, ↓reduceIte, WB, Nat.reduceSub, Nat.reduceAdd, Int.reduceEq, Int.reduceNe, Int.reduceLT, Int.reduceLE, Int.reduceAdd, Int.reduceSub, Int.reduceMul, Int.reduceNeg, Int.reduceToNat, Nat.reduceEqDiff, Nat.reduceLT, Nat.reduceLeDiff, Nat.reduceMul, List.replicate, reduceCtorEq, RB, Nat.reduceEqDiff, op_len und9 rfl, hb, refC, op_fa fo60_0, op_fa fo60_1, op_fa fo60_2, op_fa fo60_3, op_fa fo60_4, op_fa fo60_5, op_fa fo60_6, load_one agg3, load_one agg9, load_one agg58, storeVar_eq size3, storeVar_eq size9, storeVar_eq size58, hs, note_len und9 rfl, e1, wrap64]
theorem read42 (hs : D.s = 128) (x : Int) (hx : 0 ≤ x ∧ x ≤ 4294967295) (hd : RefS h n b q D) : WCall Try.prog GV 42 [.pointer (some ⟨b, 0, none⟩), .int .u32 x] ⟨n, h, bs, d⟩ K =
    (if x < ((D.im.length / 128 : Nat) : Int) then K (.tuple #[.string (mkStr ((D.im.drop (128 * x.toNat)).take 128)), .int .i64 0]) ⟨n, h, bs, d⟩ else K (.tuple #[.string (mkStr []), .int .i64 5]) ⟨n, h, bs, d⟩) := by
  obtain ⟨pv, hb, hp⟩ := hd.st
  have hbn := hd.lt.1
  have him := hd.im
  by_cases hlt : x < ((D.im.length / 128 : Nat) : Int)
  · rw [if_pos hlt]
    refine call_eq ?_ K
    rw [call_env Try.func42 rfl Try.ntmps42 rfl rfl (by simp)]
    simp -dsimp (maxSteps := 4000000) (disch := first | omega | assumption | (simp only [FB, Nat.reduceAdd]; done) | (simp only [LB]; omega)) only [EB, ↓reduceIte, WB, Nat.reduceSub, Nat.reduceAdd, Int.reduceEq, Int.reduceNe, Int.reduceLT, Int.reduceLE, Int.reduceAdd, Int.reduceSub, Int.reduceMul, Int.reduceNeg, Int.reduceToNat, Nat.reduceEqDiff, Nat.reduceLT, Nat.reduceLeDiff, Nat.reduceMul, List.replicate, reduceCtorEq, op_len und9 rfl, op_conv_int und31 und3, conv_int und31 und3, wrap64, pages30 hs hd, show ¬ ((D.im.length / 128 : Nat) : Int) ≤ x by omega]
    refine code_draw [(0, 4), (0, 5), (0, 6), (0, 7), (0, 8), (0, 9), (0, 10), (0, 11), (0, 12), (0, 13), (0, 14), (0, 15), (0, 16), (0, 17), (0, 18), (0, 19), (0, 20), (0, 21), (0, 22), (1, 4), (1, 5), (1, 6), (1, 7), (1, 8), (1, 9), (1, 10), (1, 11), (1, 12), (1, 13), (1, 14), (1, 15), (1, 16), (1, 17), (1, 18), (1, 19), (1, 20), (1, 21), (1, 22), (2, 4), (2, 5), (2, 6), (2, 7), (2, 8), (2, 9), (2, 10), (2, 11), (2, 12), (2, 13), (2, 14), (2, 15), (2, 16), (2, 17), (2, 18), (2, 19), (2, 20), (2, 21), (2, 22), (3, 4), (3, 5), (3, 6), (3, 7), (3, 8), (3, 9), (3, 10), (3, 11), (3, 12), (3, 13), (3, 14), (3, 15), (3, 16), (3, 17), (3, 18), (3, 19), (3, 20), (3, 21), (3, 22), (4, 6), (4, 7), (4, 8), (4, 9), (4, 11), (4, 12), (4, 13), (4, 14), (4, 15), (4, 16), (4, 17), (4, 18), (4, 19), (4, 20), (4, 21), (4, 22), (5, 6), (5, 7), (5, 8), (5, 9), (5, 11), (5, 12), (5, 13), (5, 14), (5, 15), (5, 16), (5, 17), (5, 18), (5, 19), (5, 20), (5, 21), (5, 22), (6, 11), (6, 12), (6, 13), (6, 14), (6, 15), (6, 16), (6, 17), (6, 18), (6, 19), (6, 20), (6, 21), (6, 22), (7, 11), (7, 12), (7, 13), (7, 14), (7, 15), (7, 16), (7, 17), (7, 18), (7, 19), (7, 20), (7, 21), (7, 22), (8, 11), (8, 12), (8, 13), (8, 14), (8, 15), (8, 16), (8, 17), (8, 18), (8, 19), (8, 20), (8, 21), (8, 22), (9, 11), (9, 12), (9, 13), (9, 14), (9, 15), (9, 16), (9, 17), (9, 18), (9, 19), (9, 20), (9, 21), (9, 22), (10, 11), (10, 12), (10, 13), (10, 14), (10, 15), (10, 16), (10, 17), (10, 18), (10, 19), (10, 20), (10, 21), (10, 22), (11, 13), (11, 14), (11, 15), (11, 16), (11, 18), (11, 19), (11, 20), (11, 21), (12, 13), (12, 14), (12, 15), (12, 16), (12, 18), (12, 19), (12, 20), (12, 21), (13, 18), (13, 19), (13, 20), (13, 21), (14, 18), (14, 19), (14, 20), (14, 21), (15, 18), (15, 19), (15, 20), (15, 21), (16, 18), (16, 19), (16, 20), (16, 21), (17, 18), (17, 19), (17, 20), (17, 21)] (by decide +kernel) (by decide +kernel) ?_
    simp -dsimp (maxSteps := 4000000) (disch := first | omega | assumption | (simp only [FB, Nat.reduceAdd]; done) | (simp only [LB]; omega)) only [EB, ↓reduceIte, WB, Nat.reduceSub, Nat.reduceAdd, Int.reduceEq, Int.reduceNe, Int.reduceLT, Int.reduceLE, Int.reduceAdd, Int.reduceSub, Int.reduceMul, Int.reduceNeg, Int.reduceToNat, Nat.reduceEqDiff, Nat.reduceLT, Nat.reduceLeDiff, Nat.reduceMul, List.replicate, reduceCtorEq, RB, Nat.reduceEqDiff, op_len und9 rfl, hb, refC, op_fa fo60_0, op_fa fo60_1, op_fa fo60_2, op_fa fo60_3, op_fa fo60_4, op_fa fo60_5, op_fa fo60_6, load_one agg3, load_one agg9, load_one agg58, storeVar_eq size3, storeVar_eq size9, storeVar_eq size58, hs, note_convI und31 und3, op_conv_int und31 und3, conv_int und31 und3, wrap64, slice_str_both und9]
    rw [List.drop_take, show (x * 128 + 128).toNat - (x * 128).toNat = 128 by omega, show (x * 128).toNat = 128 * x.toNat by omega]
  · rw [if_neg hlt]
    refine call_eq ?_ K
    rw [call_env Try.func42 rfl Try.ntmps42 rfl rfl (by simp)]
    simp -dsimp (maxSteps := 4000000) (disch := first | omega | assumption | (simp only [FB, Nat.reduceAdd]; done) | (simp only [LB]; omega)) only [EB, ↓reduceIte, WB, Nat.reduceSub, Nat.reduceAdd, Int.reduceEq, Int.reduceNe, Int.reduceLT, Int.reduceLE, Int.reduceAdd, Int.reduceSub, Int.reduceMul, Int.reduceNeg, Int.reduceToNat, Nat.reduceEqDiff, Nat.reduceLT, Nat.reduceLeDiff, Nat.reduceMul, List.replicate, reduceCtorEq, op_len und9 rfl, op_conv_int und31 und3, conv_int und31 und3, wrap64, pages30 hs hd, show ((D.im.length / 128 : Nat) : Int) ≤ x by omega]
    exact ⟨trivial, trivial⟩
end
end Go.Proofs.YtgdmgolmeeigdaaAM
