/- Chapter 3: a device's methods, whatever is asked. -/
import Derived.Test.YtgdmgolmeeigdaaD13
namespace Go.Proofs.YtgdmgolmeeigdaaAM
open Go Go.RowKit
set_option linter.unusedVariables false
set_option linter.unusedSimpArgs false
set_option maxRecDepth 10000
set_option maxHeartbeats 4000000

def Dv.dec (D : Dv) : Int := if 0 < D.f then D.f - 1 else D.f
def Dv.doOp (D : Dv) (o : DOp) : Dv × Int := if D.f = 0 then (D, 8) else ({ D with im := o.act D.im, ops := D.ops ++ [o], f := D.dec, o := D.o + 1 }, 0)
def Dv.write (D : Dv) (n : Int) (blk : List UInt8) : Dv × Int := if blk.length ≠ 128 then (D, 2) else if D.c ≤ n then (D, 9) else D.doOp (.wr (128 * n.toNat) blk)
def Dv.trunc (D : Dv) (n : Int) : Dv × Int := if D.c < n then (D, 2) else D.doOp (.tr (128 * n.toNat))
def Dv.sync (D : Dv) : Dv × Int := if D.f = 0 then (D, 8) else ({ D with du := D.im, ops := [], f := D.dec, o := D.o + 1 }, 0)
def Dv.fuse (D : Dv) (v : Int) : Dv := { D with f := max v (-1) }
def Dv.crash (D : Dv) (keep : List Int) : Dv := { D with im := crashI keep 0 D.ops D.du, du := crashI keep 0 D.ops D.du, ops := [], f := -1 }
/-- A device of pages of 128 bytes behind so many calls. -/
structure Dv.Ok (D : Dv) (k : Nat) : Prop where
  s : D.s = 128
  c : 2 ≤ D.c ∧ D.c ≤ 20
  o : D.o ≤ k
  l : D.ops.length ≤ k
/-- How a memory stands behind a method: as it was, or written to in the device's own blocks. -/
inductive After (h : List (Nat × Blk)) (n bs : Nat) (d : List Nat) (b q : Nat) (S : Nat → Prop) (D D' : Dv) : List (Nat × Blk) → Nat → List Nat → Nat → (Nat → Prop) → Prop
  | same (e : D' = D) : After h n bs d b q S D D' h n d q S
  | wrote {h' : List (Nat × Blk)} {n' : Nat} {d' : List Nat} {q' : Nat} {S' : Nat → Prop} (h1 : Soiled bs d d' b q) (h2 : q' = q ∨ n ≤ q') (h3 : ∀ j, S' j → S j ∨ n ≤ j) (h4 : n ≤ n') (h5 : DevS h' n' b q' S' D') (h6 : Out h h' n b q) : After h n bs d b q S D D' h' n' d' q' S'
section
variable {D : Dv} {k : Nat} {h : List (Nat × Blk)} {n bs b q : Nat} {d : List Nat} {S : Nat → Prop} {K : Value → AW → Prop}
theorem write_all (hk : D.Ok k) (hk2 : k ≤ 100) (x : Int) (hx : 0 ≤ x ∧ x ≤ 4294967295) (blk : List UInt8) (hd : DevS h n b q S D)
    (hK : ∀ n' h' d' q' S', After h n bs d b q S D (D.write x blk).1 h' n' d' q' S' → K (.int .i64 (D.write x blk).2) ⟨n', h', bs, d'⟩) :
    WCall Try.prog GV 13 [.pointer (some ⟨b, 0, none⟩), .int .u32 x, .string (mkStr blk)] ⟨n, h, bs, d⟩ K := by
  by_cases hbl : blk.length = 128
  · by_cases hc : D.c ≤ x
    · rw [call_env Try.func13 rfl Try.ntmps13 rfl rfl (by simp)]
      obtain ⟨pv, fs, hb, hp, hfl, hrep⟩ := hd.st
      have hbn := hd.lt.1
      have hbl' : ((blk.length : Nat) : Int) = D.s := by have := hk.s; omega
      have hw : D.write x blk = (D, 9) := by simp [Dv.write, hbl, hc]
      have := hk.c
      simp -dsimp (maxSteps := 4000000) (disch := first | omega | assumption | (simp only [FB, Nat.reduceAdd]; done) | (simp only [LB]; omega)) only [EB, ↓reduceIte, WB, Nat.reduceSub, Nat.reduceAdd, Int.reduceEq, Int.reduceNe, Int.reduceLT, Int.reduceLE, Int.reduceAdd, Int.reduceSub, Int.reduceMul, Int.reduceNeg, Int.reduceToNat, Nat.reduceEqDiff, Nat.reduceLT, Nat.reduceLeDiff, Nat.reduceMul, List.replicate, reduceCtorEq, op_len und9 rfl, eql25]
      refine code_draw [(0, 2), (0, 3), (0, 4), (0, 5), (1, 2), (1, 3), (1, 4), (1, 5)] (by decide +kernel) (by decide +kernel) ?_
      simp -dsimp (maxSteps := 4000000) (disch := first | omega | assumption | (simp only [FB, Nat.reduceAdd]; done) | (simp only [LB]; omega)) only [EB, ↓reduceIte, WB, Nat.reduceSub, Nat.reduceAdd, Int.reduceEq, Int.reduceNe, Int.reduceLT, Int.reduceLE, Int.reduceAdd, Int.reduceSub, Int.reduceMul, Int.reduceNeg, Int.reduceToNat, Nat.reduceEqDiff, Nat.reduceLT, Nat.reduceLeDiff, Nat.reduceMul, List.replicate, reduceCtorEq, RB, Nat.reduceEqDiff, op_len und9 rfl, hb, devC, op_fa fo64_0, op_fa fo64_1, op_fa fo64_2, op_fa fo64_3, op_fa fo64_4, op_fa fo64_5, op_fa fo64_6, load_one agg3, load_one agg9, load_one agg62, storeVar_eq size3, storeVar_eq size9, storeVar_eq size62, hbl', note_len und9 rfl]
      simp -dsimp (maxSteps := 4000000) (disch := first | omega | assumption | (simp only [FB, Nat.reduceAdd]; done) | (simp only [LB]; omega)) only [EB, ↓reduceIte, WB, Nat.reduceSub, Nat.reduceAdd, Int.reduceEq, Int.reduceNe, Int.reduceLT, Int.reduceLE, Int.reduceAdd, Int.reduceSub, Int.reduceMul, Int.reduceNeg, Int.reduceToNat, Nat.reduceEqDiff, Nat.reduceLT, Nat.reduceLeDiff, Nat.reduceMul, List.replicate, reduceCtorEq, op_len und9 rfl, hb, devC, op_fa fo64_0, op_fa fo64_1, op_fa fo64_2, op_fa fo64_3, op_fa fo64_4, op_fa fo64_5, op_fa fo64_6, load_one agg3, load_one agg9, load_one agg62, storeVar_eq size3, storeVar_eq size9, storeVar_eq size62, op_conv_int und31 und65, conv_int und31 und65, op_conv_int und3 und65, conv_int und3 und65, wrapu64, hc]
      rw [hw] at hK
      exact hK n h d q S (.same rfl)
    · have hw : D.write x blk = D.doOp (.wr (128 * x.toNat) blk) := by simp [Dv.write, hbl, hc]
      rw [hw] at hK
      have hcc := hk.c
      have ho := hk.o
      have hl := hk.l
      refine write13 D blk x (by omega) hk.s hbl (by omega) (by omega) (by omega) hd K (fun hf => ?_) (fun hf n' h' q' d' S' h1 h2 h3 h4 h5 h6 => ?_)
      · have : D.doOp (.wr (128 * x.toNat) blk) = (D, 8) := by simp [Dv.doOp, hf]
        rw [this] at hK
        exact hK n h d q S (.same rfl)
      · have : D.doOp (.wr (128 * x.toNat) blk) = ({ D with im := (DOp.wr (128 * x.toNat) blk).act D.im, ops := D.ops ++ [.wr (128 * x.toNat) blk], f := D.dec, o := D.o + 1 }, 0) := by simp [Dv.doOp, hf]
        rw [this] at hK
        exact hK n' h' d' q' S' (.wrote h1 h2 h3 h4 h5 h6)
  · rw [call_env Try.func13 rfl Try.ntmps13 rfl rfl (by simp)]
    obtain ⟨pv, fs, hb, hp, hfl, hrep⟩ := hd.st
    have hbn := hd.lt.1
    have hbl' : ¬ ((blk.length : Nat) : Int) = D.s := by have := hk.s; omega
    have hw : D.write x blk = (D, 2) := by simp [Dv.write, hbl]
    simp -dsimp (maxSteps := 4000000) (disch := first | omega | assumption | (simp only [FB, Nat.reduceAdd]; done) | (simp only [LB]; omega)) only [EB, ↓reduceIte, WB, Nat.reduceSub, Nat.reduceAdd, Int.reduceEq, Int.reduceNe, Int.reduceLT, Int.reduceLE, Int.reduceAdd, Int.reduceSub, Int.reduceMul, Int.reduceNeg, Int.reduceToNat, Nat.reduceEqDiff, Nat.reduceLT, Nat.reduceLeDiff, Nat.reduceMul, List.replicate, reduceCtorEq, op_len und9 rfl, eql25]
    refine code_draw [(0, 2), (0, 3), (0, 4), (0, 5), (1, 2), (1, 3), (1, 4), (1, 5)] (by decide +kernel) (by decide +kernel) ?_
    simp -dsimp (maxSteps := 4000000) (disch := first | omega | assumption | (simp only [FB, Nat.reduceAdd]; done) | (simp only [LB]; omega)) only [EB, ↓reduceIte, WB, Nat.reduceSub, Nat.reduceAdd, Int.reduceEq, Int.reduceNe, Int.reduceLT, Int.reduceLE, Int.reduceAdd, Int.reduceSub, Int.reduceMul, Int.reduceNeg, Int.reduceToNat, Nat.reduceEqDiff, Nat.reduceLT, Nat.reduceLeDiff, Nat.reduceMul, List.replicate, reduceCtorEq, RB, Nat.reduceEqDiff, op_len und9 rfl, hb, devC, op_fa fo64_0, op_fa fo64_1, op_fa fo64_2, op_fa fo64_3, op_fa fo64_4, op_fa fo64_5, op_fa fo64_6, load_one agg3, load_one agg9, load_one agg62, storeVar_eq size3, storeVar_eq size9, storeVar_eq size62, hbl', note_len und9 rfl]
    rw [hw] at hK
    exact hK n h d q S (.same rfl)
theorem trunc_all (hk : D.Ok k) (hk2 : k ≤ 100) (x : Int) (hx : 0 ≤ x ∧ x ≤ 4294967295) (hd : DevS h n b q S D)
    (hK : ∀ n' h' d' q' S', After h n bs d b q S D (D.trunc x).1 h' n' d' q' S' → K (.int .i64 (D.trunc x).2) ⟨n', h', bs, d'⟩) :
    WCall Try.prog GV 20 [.pointer (some ⟨b, 0, none⟩), .int .u32 x] ⟨n, h, bs, d⟩ K := by
  by_cases hc : D.c < x
  · rw [call_env Try.func20 rfl Try.ntmps20 rfl rfl (by simp)]
    obtain ⟨pv, fs, hb, hp, hfl, hrep⟩ := hd.st
    have hbn := hd.lt.1
    have hw : D.trunc x = (D, 2) := by simp [Dv.trunc, hc]
    have := hk.c
    simp -dsimp (maxSteps := 4000000) (disch := first | omega | assumption | (simp only [FB, Nat.reduceAdd]; done) | (simp only [LB]; omega)) only [EB, ↓reduceIte, WB, Nat.reduceSub, Nat.reduceAdd, Int.reduceEq, Int.reduceNe, Int.reduceLT, Int.reduceLE, Int.reduceAdd, Int.reduceSub, Int.reduceMul, Int.reduceNeg, Int.reduceToNat, Nat.reduceEqDiff, Nat.reduceLT, Nat.reduceLeDiff, Nat.reduceMul, List.replicate, reduceCtorEq, op_len und9 rfl, eql25, hb, devC, op_fa fo64_0, op_fa fo64_1, op_fa fo64_2, op_fa fo64_3, op_fa fo64_4, op_fa fo64_5, op_fa fo64_6, load_one agg3, load_one agg9, load_one agg62, storeVar_eq size3, storeVar_eq size9, storeVar_eq size62, op_conv_int und31 und65, conv_int und31 und65, op_conv_int und3 und65, conv_int und3 und65, wrapu64, hc]
    rw [hw] at hK
    exact hK n h d q S (.same rfl)
  · have hw : D.trunc x = D.doOp (.tr (128 * x.toNat)) := by simp [Dv.trunc, hc]
    rw [hw] at hK
    have hcc := hk.c
    have ho := hk.o
    have hl := hk.l
    refine trunc20 D x (by omega) hk.s (by omega) (by omega) (by omega) hd K (fun hf => ?_) (fun hf n' h' q' d' S' h1 h2 h3 h4 h5 h6 => ?_)
    · have : D.doOp (.tr (128 * x.toNat)) = (D, 8) := by simp [Dv.doOp, hf]
      rw [this] at hK
      exact hK n h d q S (.same rfl)
    · have : D.doOp (.tr (128 * x.toNat)) = ({ D with im := (DOp.tr (128 * x.toNat)).act D.im, ops := D.ops ++ [.tr (128 * x.toNat)], f := D.dec, o := D.o + 1 }, 0) := by simp [Dv.doOp, hf]
      rw [this] at hK
      exact hK n' h' d' q' S' (.wrote h1 h2 h3 h4 h5 h6)
theorem sync_all (hk : D.Ok k) (hk2 : k ≤ 100) (hd : DevS h n b q S D)
    (hK : ∀ n' h' d' q' S', After h n bs d b q S D D.sync.1 h' n' d' q' S' → K (.int .i64 D.sync.2) ⟨n', h', bs, d'⟩) :
    WCall Try.prog GV 22 [.pointer (some ⟨b, 0, none⟩)] ⟨n, h, bs, d⟩ K := by
  have ho := hk.o
  refine sync22 D (by omega) hd K (fun hf => ?_) (fun hf h' d' h1 h2 h3 => ?_)
  · have : D.sync = (D, 8) := by simp [Dv.sync, hf]
    rw [this] at hK
    exact hK n h d q S (.same rfl)
  · have : D.sync = ({ D with du := D.im, ops := [], f := D.dec, o := D.o + 1 }, 0) := by simp [Dv.sync, hf]
    rw [this] at hK
    exact hK n h' d' q S (.wrote h1 (.inl rfl) (fun j hj => .inl hj) (Nat.le_refl _) h2 h3)
theorem crash_all (hk : D.Ok k) (hk2 : k ≤ 100) (keep : List Int) (hkp : keep.length ≤ 17592186043904) (v : Value) (hv : ListV encI h n v keep) (hd : DevS h n b q S D)
    (hK : ∀ n' h' d' q' S', After h n bs d b q S D (D.crash keep) h' n' d' q' S' → K (.int .i64 0) ⟨n', h', bs, d'⟩) :
    WCall Try.prog GV 14 [.pointer (some ⟨b, 0, none⟩), v] ⟨n, h, bs, d⟩ K := by
  have hl := hk.l
  refine crash14 D keep v (by omega) (by omega) hd hv K fun h' h1 h2 => hK n h' _ q S (.wrote ?_ (.inl rfl) (fun j hj => .inl hj) (Nat.le_refl _) h1 fun j _ h3 _ => h2 j h3)
  refine ⟨fun h1 _ => soilW_own h1, fun h => soilW_mem h, fun lo h1 h2 h3 => fromU_soil h3 h1⟩
theorem fuse_all (v : Int) (hv : v ≤ 9223372036854775807) (hd : DevS h n b q S D)
    (hK : ∀ n' h' d' q' S', After h n bs d b q S D (D.fuse v) h' n' d' q' S' → K (.tuple #[]) ⟨n', h', bs, d'⟩) :
    WCall Try.prog GV 23 [.pointer (some ⟨b, 0, none⟩), .int .i64 v] ⟨n, h, bs, d⟩ K := by
  obtain ⟨pv, fs, hb, hp, hfl, hrep⟩ := hd.st
  rw [fuse23 v hb hd.lt.1]
  obtain ⟨⟨pv', fs', hb', hp', hfl', hrep'⟩, hbq, hbS, hqS, ⟨hbn, hqn, hSn⟩, hfu, hno0, him, hdu, hop⟩ := hd
  refine hK n _ _ q S (.wrote ⟨fun h1 _ => soilW_own h1, fun h => soilW_mem h, fun lo h1 h2 h3 => fromU_soil h3 h1⟩ (.inl rfl) (fun j hj => .inl hj) (Nat.le_refl _) ?_ fun j _ h1 _ => look_wput_ne h1)
  refine ⟨⟨pv, fs, ?_, ?_, hfl, fun i fv o e1 e2 => (hrep i fv o e1 e2).keep (fun j hj => hj) fun j hj => look_wput_ne (fun e : j = b => hbS (e ▸ hj))⟩, hbq, hbS, hqS, ⟨hbn, hqn, hSn⟩, ?_, hno0, him, hdu, hop⟩
  · rw [look_wput_self, hb]; rfl
  · rcases hp with hp | ⟨e1, e2, e3⟩
    · exact .inl hp
    · exact .inr ⟨e1, e2, by rw [look_wput_ne (Ne.symm hbq)]; exact e3⟩
  · simp only [Dv.fuse]; omega
end
end Go.Proofs.YtgdmgolmeeigdaaAM
