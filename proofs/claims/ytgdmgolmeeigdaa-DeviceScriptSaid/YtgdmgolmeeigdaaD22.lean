/- Chapter 3: acts, one after the other. -/
import Derived.Test.YtgdmgolmeeigdaaD21
namespace Go.Proofs.YtgdmgolmeeigdaaAM
open Go Go.RowKit
set_option linter.unusedVariables false
set_option linter.unusedSimpArgs false
set_option maxRecDepth 10000
set_option maxHeartbeats 4000000

theorem ok_up {D : Dv} {k : Nat} (hk : D.Ok k) : D.Ok (k + 1) := ⟨hk.s, hk.c, by have := hk.o; omega, by have := hk.l; omega⟩
theorem do_ok {D : Dv} {k : Nat} (hk : D.Ok k) (o : DOp) : (D.doOp o).1.Ok (k + 1) := by
  obtain ⟨h1, h2, h3, h4⟩ := id hk
  unfold Dv.doOp
  split
  · exact ok_up hk
  · exact ⟨h1, h2, by simp only; omega, by simp only [List.length_append, List.length_cons, List.length_nil]; omega⟩
theorem write_ok {D : Dv} {k : Nat} (hk : D.Ok k) (n : Int) (b : List UInt8) : (D.write n b).1.Ok (k + 1) := by
  unfold Dv.write
  split
  · exact ok_up hk
  · split
    · exact ok_up hk
    · exact do_ok hk _
theorem step_ok {D : Dv} {k : Nat} (hk : D.Ok k) (a : Act) : (D.step a).Ok (k + 1) := by
  obtain ⟨h1, h2, h3, h4⟩ := id hk
  unfold Dv.step
  split
  · exact write_ok hk _ _
  · exact write_ok hk _ _
  · exact write_ok hk _ _
  · unfold Dv.trunc
    split
    · exact ok_up hk
    · exact do_ok hk _
  · unfold Dv.sync
    split
    · exact ok_up hk
    · exact ⟨h1, h2, by simp only; omega, by simp⟩
  · exact ok_up hk
  · exact ⟨h1, h2, by simp only [Dv.crash]; omega, by simp [Dv.crash]⟩
  · exact ⟨h1, h2, by simp only [Dv.fuse]; omega, by simp only [Dv.fuse]; omega⟩
  · exact write_ok hk _ _
/-- The image is what is durable, and what is pending done to it. -/
def Dv.Told (D : Dv) : Prop := D.im = D.ops.foldl (fun im o => o.act im) D.du
theorem told_do {D : Dv} (h : D.Told) (o : DOp) : (D.doOp o).1.Told := by
  unfold Dv.doOp
  split
  · exact h
  · unfold Dv.Told at *
    simp only [List.foldl_append, List.foldl_cons, List.foldl_nil]
    rw [← h]
theorem told_write {D : Dv} (h : D.Told) (n : Int) (b : List UInt8) : (D.write n b).1.Told := by
  unfold Dv.write
  split
  · exact h
  · split
    · exact h
    · exact told_do h _
theorem told_step {D : Dv} (h : D.Told) (a : Act) : (D.step a).Told := by
  unfold Dv.step
  split
  · exact told_write h _ _
  · exact told_write h _ _
  · exact told_write h _ _
  · unfold Dv.trunc
    split
    · exact h
    · exact told_do h _
  · unfold Dv.sync
    split
    · exact h
    · rfl
  · exact h
  · rfl
  · exact h
  · exact told_write h _ _
def Dv.run (D : Dv) (l : List Act) : Dv := l.foldl (fun D a => if pick a.kind 9 = 6 then D else D.step a) D
theorem run_snoc (D : Dv) (l : List Act) (a : Act) : D.run (l ++ [a]) = if pick a.kind 9 = 6 then D.run l else (D.run l).step a := by
  unfold Dv.run; rw [List.foldl_append]; rfl
theorem run_ok {D : Dv} {k : Nat} (hk : D.Ok k) (l : List Act) : (D.run l).Ok (k + l.length) := by
  unfold Dv.run
  induction l generalizing D k with
  | nil => exact hk
  | cons a l ih =>
    rw [List.foldl_cons, List.length_cons, show k + (l.length + 1) = (k + 1) + l.length by omega]
    apply ih
    split
    · exact ok_up hk
    · exact step_ok hk a
theorem run_told {D : Dv} (h : D.Told) (l : List Act) : (D.run l).Told := by
  unfold Dv.run
  induction l generalizing D with
  | nil => exact h
  | cons a l ih =>
    rw [List.foldl_cons]
    apply ih
    split
    · exact h
    · exact told_step h a
theorem Went.trans {h h' h'' : List (Nat × Blk)} {n n' n'' b q q' q'' b2 q2 q2' q2'' : Nat} {S S' S'' : Nat → Prop} {D D2 D' D2' : Dv} (hq : q < n ∧ q2 < n) (h1 : Went h n b q S b2 q2 D D2 h' n' q' S' q2') (h2 : Went h' n' b q' S' b2 q2' D' D2' h'' n'' q'' S'' q2'') : Went h n b q S b2 q2 D' D2' h'' n'' q'' S'' q2'' := by
  have := h1.le
  have := h2.le
  refine ⟨h2.both, by omega, ?_, ?_, fun j hj => ?_, fun j j1 j2 j3 j4 j5 => ?_⟩
  · rcases h2.fq with rfl | h
    · exact h1.fq
    · right; omega
  · rcases h2.fq2 with rfl | h
    · exact h1.fq2
    · right; omega
  · rcases h2.fS j hj with h | h
    · exact h1.fS j h
    · right; omega
  · rw [h2.out j (by omega) j2 (by rcases h1.fq with rfl | h <;> omega) j4 (by rcases h1.fq2 with rfl | h <;> omega), h1.out j j1 j2 j3 j4 j5]
theorem acts6 (l : List Act) (hl : l.length ≤ 30) (m : Nat) (v : Value) {h : List (Nat × Blk)} {n bs b q b2 q2 : Nat} {d : List Nat} {S : Nat → Prop} {D : Dv} (hv : SliceR ActR 5 l h m [v]) (hB : Both h n b q S b2 q2 D D) (hk : D.Ok 0) (hm : m ≤ b ∧ m ≤ q ∧ m ≤ b2 ∧ m ≤ q2)
    (e : Nat → Value) (e1 : e 1 = v) (e10 : e 10 = .pointer (some ⟨b, 0, none⟩)) (e12 : e 12 = .pointer (some ⟨b2, 0, none⟩)) (e14 : e 14 = .int .i64 0)
    (Q : ExitA → List Value → List Nat → AW → Prop) (hQ : ∀ e' n' h' q' S' q2' d', (∀ j, j ≤ 13 → e' j = e j) → Went h n b q S b2 q2 (D.run l) (D.run l) h' n' q' S' q2' → Q (.exit 2) (TT 157 e') [] ⟨n', h', bs, d'⟩) :
    WCode Try.prog GV 6 none (loopN Try.f6 1) (TT 157 e) [] ⟨n, h, bs, d⟩ Q := by
  refine loop_at rfl ?_
  obtain ⟨p, c, rfl⟩ := hv.len
  have lt1 := hB.dev.lt
  have lt2 := hB.ref.lt
  refine loop_inv (fun k t w => ∃ i n' q' q2' : Nat, ∃ h' S' d' e', k = l.length - i ∧ i ≤ l.length ∧ w = ⟨n', h', bs, d'⟩ ∧ t = TT 157 e' ∧ Went h n b q S b2 q2 (D.run (l.take i)) (D.run (l.take i)) h' n' q' S' q2' ∧ (∀ j, j ≤ 13 → e' j = e j) ∧ e' 14 = .int .i64 i) ⟨0, n, q, q2, h, S, d, e, rfl, by omega, rfl, rfl, hB.more (Nat.le_refl _) (fun _ _ => rfl), fun _ _ => rfl, e14⟩ ?_
  rintro k t w ⟨i, n', q', q2', h', S', d', e', hki, hi, rfl, rfl, hW, ha, f14⟩
  have f1 := (ha 1 (by omega)).trans e1
  have f10 := (ha 10 (by omega)).trans e10
  have f12 := (ha 12 (by omega)).trans e12
  have hlow : ∀ j, j < m → look j h' = look j h := fun j hj => hW.out j (by omega) (by omega) (by omega) (by omega) (by omega)
  have hle := hW.le
  by_cases hlt : i < l.length
  · have hli : l[i]? = some l[i] := List.getElem?_eq_getElem hlt
    obtain ⟨q0, fl, ac, rfl0, hqn, hq, hl5, hle5, hat, htk, ⟨kv, rfl, hkv, hb1, hb2, hb3, hb4⟩⟩ := hv.elem hli
    cases rfl0
    have hq' : look q0 h' = some (.cells fl false) := by rw [hlow q0 hqn]; exact hq
    have g0 := hat 0 (by omega)
    simp only [List.getElem?_cons_zero, Nat.add_zero] at g0
    have hrun : D.run (l.take (i + 1)) = if pick l[i].kind 9 = 6 then D.run (l.take i) else (D.run (l.take i)).step l[i] := by
      rw [List.take_add_one, hli]; exact run_snoc _ _ _
    by_cases h6 : pick l[i].kind 9 = 6
    · rw [if_pos h6] at hrun
      simp -dsimp (maxSteps := 4000000) (disch := first | omega | assumption | (simp only [FB, Nat.reduceAdd]; done) | (simp only [LB]; omega)) only [EB, ↓reduceIte, WB, Nat.reduceSub, Nat.reduceAdd, Int.reduceEq, Int.reduceNe, Int.reduceLT, Int.reduceLE, Int.reduceAdd, Int.reduceSub, Int.reduceMul, Int.reduceNeg, Int.reduceToNat, Nat.reduceEqDiff, Nat.reduceLT, Nat.reduceLeDiff, Nat.reduceMul, List.replicate, reduceCtorEq, op_len und9 rfl, f1, f10, f12, f14, op_len und46 rfl, show ((i : Int) < l.length) by omega, indexAddr_slice und46 size54, op_fa fo54_0, load_one agg3, hq', g0, pick10, h6, wrap64]
      refine ⟨trivial, l.length - (i + 1), by omega, i + 1, n', q', q2', h', S', d', _, rfl, by omega, rfl, rfl, ?_, fun j hj => ?_, ?_⟩
      · rw [hrun]; exact hW
      · simp (disch := omega) only [ups_ne]; exact ha j hj
      · simp only [ups_at, ↓reduceIte, Nat.reduceEqDiff]; rfl
    · rw [if_neg h6] at hrun
      have hok := run_ok hk (l.take i)
      rw [List.length_take] at hok
      have hcell : cellsAt (look q0 h') (i * 5) 5 = some [.int .i64 l[i].kind, .int .u32 l[i].n, .string (mkStr l[i].block), kv, .int .i64 l[i].at_] := by
        rw [hq', cellsAt_cells (by omega), htk]
      simp -dsimp (maxSteps := 4000000) (disch := first | omega | assumption | (simp only [FB, Nat.reduceAdd]; done) | (simp only [LB]; omega)) only [EB, ↓reduceIte, WB, Nat.reduceSub, Nat.reduceAdd, Int.reduceEq, Int.reduceNe, Int.reduceLT, Int.reduceLE, Int.reduceAdd, Int.reduceSub, Int.reduceMul, Int.reduceNeg, Int.reduceToNat, Nat.reduceEqDiff, Nat.reduceLT, Nat.reduceLeDiff, Nat.reduceMul, List.replicate, reduceCtorEq, op_len und9 rfl, f1, f10, f12, f14, op_len und46 rfl, show ((i : Int) < l.length) by omega, indexAddr_slice und46 size54, op_fa fo54_0, load_one agg3, load_agg agg54 size54, hq', g0, pick10, h6]
      rw [htk]
      refine does27 l[i] kv m (by rcases hW.fq with rfl | h <;> omega) (hkv.keep (Nat.le_refl _) hlow) (fun h => absurd h h6) hb1 hb2 hb3 hok (by omega) hW.both fun n3 h3 q3 S3 q4 d3 hd3 hW3 => ?_
      simp -dsimp (maxSteps := 4000000) (disch := first | omega | assumption | (simp only [FB, Nat.reduceAdd]; done) | (simp only [LB]; omega)) only [EB, ↓reduceIte, WB, Nat.reduceSub, Nat.reduceAdd, Int.reduceEq, Int.reduceNe, Int.reduceLT, Int.reduceLE, Int.reduceAdd, Int.reduceSub, Int.reduceMul, Int.reduceNeg, Int.reduceToNat, Nat.reduceEqDiff, Nat.reduceLT, Nat.reduceLeDiff, Nat.reduceMul, List.replicate, reduceCtorEq, op_len und9 rfl, f14, wrap64]
      refine ⟨trivial, l.length - (i + 1), by omega, i + 1, n3, q3, q4, h3, S3, d3, _, rfl, by omega, rfl, rfl, ?_, fun j hj => ?_, ?_⟩
      · rw [hrun]; exact hW.trans ⟨lt1.2.1, lt2.2⟩ hW3
      · simp (disch := omega) only [ups_ne]; exact ha j hj
      · simp only [ups_at, ↓reduceIte, Nat.reduceEqDiff]; rfl
  · simp -dsimp (maxSteps := 4000000) (disch := first | omega | assumption | (simp only [FB, Nat.reduceAdd]; done) | (simp only [LB]; omega)) only [EB, ↓reduceIte, WB, Nat.reduceSub, Nat.reduceAdd, Int.reduceEq, Int.reduceNe, Int.reduceLT, Int.reduceLE, Int.reduceAdd, Int.reduceSub, Int.reduceMul, Int.reduceNeg, Int.reduceToNat, Nat.reduceEqDiff, Nat.reduceLT, Nat.reduceLeDiff, Nat.reduceMul, List.replicate, reduceCtorEq, op_len und9 rfl, f1, f10, f12, f14, op_len und46 rfl, show ¬ ((i : Int) < l.length) by omega]
    refine hQ _ n' h' q' S' q2' d' (fun j hj => ?_) ?_
    · simp (disch := omega) only [ups_ne]; exact ha j hj
    · have hi2 : i = l.length := by omega
      subst hi2
      rw [List.take_length] at hW
      exact hW
end Go.Proofs.YtgdmgolmeeigdaaAM
