/- Chapter 3: the document's device crashes. -/
import Derived.Test.YtgdmgolmeeigdaaD16
namespace Go.Proofs.YtgdmgolmeeigdaaAM
open Go Go.RowKit
set_option linter.unusedVariables false
set_option linter.unusedSimpArgs false
set_option maxRecDepth 10000
set_option maxHeartbeats 4000000

theorem flatMap_slot {α : Type} {enc : α → List Value} {z : Nat} (he : ∀ x, (enc x).length = z) : ∀ {xs : List α} {i : Nat} {x : α}, xs[i]? = some x → ((xs.flatMap enc).drop (i * z)).take z = enc x
  | [], i, x, h => by simp at h
  | y :: xs, 0, x, h => by
    simp at h; subst h
    rw [Nat.zero_mul, List.drop_zero, List.flatMap_cons, ← he y, List.take_left]
  | y :: xs, i + 1, x, h => by
    have hl := he y
    rw [List.flatMap_cons, Nat.succ_mul, Nat.add_comm, ← List.drop_drop, ← hl, List.drop_left, hl]
    exact flatMap_slot he (by simpa using h)
theorem crash_in {p : Option Addr} {cp : Nat} (ks : List Int) (hkl : ks.length ≤ 17592186043904) {h : List (Nat × Blk)} {n bs : Nat} {d ds : List Nat} (i : Nat) (hu : ListV encI h n (.slice p ks.length cp) ks) (e : Nat → Value) (e1 : e 1 = .slice p ks.length cp) (e6 : e 6 = .int .i64 i) (e7 : e 7 = .bool false) (e8 : e 8 = .int .i64 0)
    (Q : ExitA → List Value → List Nat → AW → Prop) (hQ : ∀ e', (∀ j, j ≤ 6 → e' j = e j) → e' 7 = .bool (decide ((i : Int) ∈ ks)) → Q (.exit 2) (TT 65 e') ds ⟨n, h, bs, d⟩) :
    WCode Try.prog GV 43 none (loopN Try.f43 1) (TT 65 e) ds ⟨n, h, bs, d⟩ Q := by
  refine loop_at rfl ?_
  refine loop_inv (fun k t w => ∃ kk : Nat, ∃ e', k = ks.length - kk ∧ kk ≤ ks.length ∧ w = ⟨n, h, bs, d⟩ ∧ t = TT 65 e' ∧ (∀ j, j ≤ 6 → e' j = e j) ∧ e' 7 = .bool (decide ((i : Int) ∈ ks.take kk)) ∧ e' 8 = .int .i64 kk) ⟨0, e, rfl, by omega, rfl, rfl, fun _ _ => rfl, by simpa using e7, e8⟩ ?_
  rintro k t w ⟨kk, e', hk, hi', rfl, rfl, ha, f7, f8⟩
  have f1 := (ha 1 (by omega)).trans e1
  have f6 := (ha 6 (by omega)).trans e6
  by_cases hltk : kk < ks.length
  · obtain ⟨b2, sp2, cap2, rw2, q2, hqb2, hqn2⟩ := hu.at hltk
    rw [flat_encI] at hqb2
    have hki : ks[kk]? = some ks[kk] := List.getElem?_eq_getElem hltk
    have htk : ks.take (kk + 1) = ks.take kk ++ [ks[kk]] := by rw [List.take_add_one, hki]; rfl
    obtain ⟨y, hy⟩ : ∃ y, y = ks[kk] := ⟨_, rfl⟩
    rw [← hy] at hki htk
    by_cases hm : (i : Int) ∈ ks.take kk
    · simp -dsimp (maxSteps := 4000000) (disch := first | omega | assumption | (simp only [FB, Nat.reduceAdd]; done) | (simp only [LB]; omega)) only [EB, ↓reduceIte, WB, Nat.reduceSub, Nat.reduceAdd, Int.reduceEq, Int.reduceNe, Int.reduceLT, Int.reduceLE, Int.reduceAdd, Int.reduceSub, Int.reduceMul, Int.reduceNeg, Int.reduceToNat, Nat.reduceEqDiff, Nat.reduceLT, Nat.reduceLeDiff, Nat.reduceMul, List.replicate, reduceCtorEq, op_len und9 rfl, f1, f6, f7, f8, q2, hm, show ((kk : Int) < ks.length) by omega, op_len und22 rfl, wrap64]
      refine ⟨trivial, ks.length - (kk + 1), by omega, kk + 1, _, rfl, by omega, trivial, rfl, fun j h1 => ?_, ?_, ?_⟩
      · simp (disch := omega) only [ups_ne]; exact ha j h1
      · simp only [ups_at, ↓reduceIte, Nat.reduceEqDiff]
        rw [decide_eq_true (show (i : Int) ∈ ks.take (kk + 1) by rw [htk]; exact List.mem_append_left _ hm)]
      · simp only [ups_at, ↓reduceIte, Nat.reduceEqDiff]; rfl
    · have hd : decide ((i : Int) ∈ ks.take (kk + 1)) = decide (y = (i : Int)) := by
        rw [htk]; simp only [List.mem_append, hm, List.mem_singleton, false_or]; simp only [eq_comm]
      simp -dsimp (maxSteps := 4000000) (disch := first | omega | assumption | (simp only [FB, Nat.reduceAdd]; done) | (simp only [LB]; omega)) only [EB, ↓reduceIte, WB, Nat.reduceSub, Nat.reduceAdd, Int.reduceEq, Int.reduceNe, Int.reduceLT, Int.reduceLE, Int.reduceAdd, Int.reduceSub, Int.reduceMul, Int.reduceNeg, Int.reduceToNat, Nat.reduceEqDiff, Nat.reduceLT, Nat.reduceLeDiff, Nat.reduceMul, List.replicate, reduceCtorEq, op_len und9 rfl, f1, f6, f7, f8, q2, hm, show ((kk : Int) < ks.length) by omega, op_len und22 rfl, indexAddr_slice und22 size3, load_one agg3, hqb2, List.getElem?_map, hki, wrap64]
      refine ⟨trivial, ks.length - (kk + 1), by omega, kk + 1, _, rfl, by omega, trivial, rfl, fun j h1 => ?_, ?_, ?_⟩
      · simp (disch := omega) only [ups_ne]; exact ha j h1
      · simp only [ups_at, ↓reduceIte, Nat.reduceEqDiff]; rw [hd]
      · simp only [ups_at, ↓reduceIte, Nat.reduceEqDiff]; rfl
  · simp -dsimp (maxSteps := 4000000) (disch := first | omega | assumption | (simp only [FB, Nat.reduceAdd]; done) | (simp only [LB]; omega)) only [EB, ↓reduceIte, WB, Nat.reduceSub, Nat.reduceAdd, Int.reduceEq, Int.reduceNe, Int.reduceLT, Int.reduceLE, Int.reduceAdd, Int.reduceSub, Int.reduceMul, Int.reduceNeg, Int.reduceToNat, Nat.reduceEqDiff, Nat.reduceLT, Nat.reduceLeDiff, Nat.reduceMul, List.replicate, reduceCtorEq, op_len und9 rfl, f1, f6, f7, f8, show ¬ ((kk : Int) < ks.length) by omega, op_len und22 rfl]
    refine hQ _ (fun j h1 => ?_) ?_
    · simp (disch := omega) only [ups_ne]; exact ha j h1
    · simp (disch := omega) only [ups_ne]; rw [f7, List.take_of_length_le (by omega)]
theorem crash43 {D : Dv} {k : Nat} {h : List (Nat × Blk)} {n bs b q : Nat} {d : List Nat} {K : Value → AW → Prop} (hk : D.Ok k) (hk2 : k ≤ 100) (keep : List Int) (hkp : keep.length ≤ 17592186043904) (v : Value) (hv : ListV encI h n v keep) (hd : RefS h n b q D)
    (hK : ∀ n' h' d' q', AfterR h n bs d b q D (D.crash keep) h' n' d' q' → K (.int .i64 0) ⟨n', h', bs, d'⟩) :
    WCall Try.prog GV 43 [.pointer (some ⟨b, 0, none⟩), v] ⟨n, h, bs, d⟩ K := by
  rw [call_env Try.func43 rfl Try.ntmps43 rfl rfl (by simp)]
  obtain ⟨⟨pv, hb, hp⟩, hbq, ⟨hbn, hqn⟩, hfu, hno0, him, hdu, hop⟩ := hd
  have hs := hk.s
  obtain ⟨pp, cc, rfl⟩ := hp.shape
  obtain ⟨vp, vc, rfl⟩ := hv.len
  have hl := hk.l
  simp -dsimp (maxSteps := 4000000) (disch := first | omega | assumption | (simp only [FB, Nat.reduceAdd]; done) | (simp only [LB]; omega)) only [EB, ↓reduceIte, WB, Nat.reduceSub, Nat.reduceAdd, Int.reduceEq, Int.reduceNe, Int.reduceLT, Int.reduceLE, Int.reduceAdd, Int.reduceSub, Int.reduceMul, Int.reduceNeg, Int.reduceToNat, Nat.reduceEqDiff, Nat.reduceLT, Nat.reduceLeDiff, Nat.reduceMul, List.replicate, reduceCtorEq, op_len und9 rfl, hb, refC, op_fa fo60_0, op_fa fo60_1, op_fa fo60_2, op_fa fo60_3, op_fa fo60_4, op_fa fo60_5, op_fa fo60_6, load_one agg3, load_one agg9, load_one agg58, storeVar_eq size3, storeVar_eq size9, storeVar_eq size58]
  refine loop_inv (fun k t w => ∃ i n1 : Nat, ∃ du, ∃ e : Nat → Value, k = D.ops.length - i ∧ i ≤ D.ops.length ∧ n ≤ n1 ∧ w = ⟨n1, h, n, []⟩ ∧ t = TT 65 e ∧ crashI keep i (D.ops.drop i) du = crashI keep 0 D.ops D.du ∧ du.length ≤ 1000000 ∧ e 0 = .pointer (some ⟨b, 0, none⟩) ∧ e 1 = .slice vp keep.length vc ∧ e 5 = .string (mkStr du) ∧ e 6 = .int .i64 i) ⟨0, n, D.du, _, rfl, by omega, Nat.le_refl _, rfl, rfl, rfl, hdu, rfl, rfl, rfl, rfl⟩ ?_
  rintro k t w ⟨i, n1, du, e, hk, hi, hn1, rfl, rfl, hcr, hdl, e0, e1, e5, e6⟩
  by_cases hlt : i < D.ops.length
  · have hoi : D.ops[i]? = some D.ops[i] := List.getElem?_eq_getElem hlt
    have hcd := crashI_drop (keep := keep) (im := du) hoi
    simp -dsimp (maxSteps := 4000000) (disch := first | omega | assumption | (simp only [FB, Nat.reduceAdd]; done) | (simp only [LB]; omega)) only [EB, ↓reduceIte, WB, Nat.reduceSub, Nat.reduceAdd, Int.reduceEq, Int.reduceNe, Int.reduceLT, Int.reduceLE, Int.reduceAdd, Int.reduceSub, Int.reduceMul, Int.reduceNeg, Int.reduceToNat, Nat.reduceEqDiff, Nat.reduceLT, Nat.reduceLeDiff, Nat.reduceMul, List.replicate, reduceCtorEq, op_len und9 rfl, e0, e1, e5, e6, hb, refC, op_fa fo60_0, op_fa fo60_1, op_fa fo60_2, op_fa fo60_3, op_fa fo60_4, op_fa fo60_5, op_fa fo60_6, load_one agg3, load_one agg9, load_one agg58, storeVar_eq size3, storeVar_eq size9, storeVar_eq size58, op_len und58 rfl, show ((i : Int) < D.ops.length) by omega]
    refine crash_in keep hkp i (hv.keep hn1 fun _ _ => rfl) _ (by simp only [ups_at, ↓reduceIte, Nat.reduceEqDiff]; exact e1) (by simp only [ups_at, ↓reduceIte, Nat.reduceEqDiff]; exact e6) (by simp only [ups_at, ↓reduceIte, Nat.reduceEqDiff]) (by simp only [ups_at, ↓reduceIte, Nat.reduceEqDiff]) _ fun e2 ge g7 => ?_
    have g0 := ge 0 (by omega)
    have g1 := ge 1 (by omega)
    have g5 := ge 5 (by omega)
    have g6 := ge 6 (by omega)
    simp only [ups_at, ↓reduceIte, Nat.reduceEqDiff, e0, e1, e5, e6] at g0 g1 g5 g6
    by_cases hm : (i : Int) ∈ keep
    · obtain ⟨c1, c2, c3, hE⟩ := list3 (encO_len D.ops[i])
      have d48 := fun a K => does48 D.ops[i] (hop _ (List.getElem_mem hlt)) du hdl a K
      simp only [hE] at d48
      have hcell : cellsAt (look q h) (i * 3) 3 = some [c1, c2, c3] := by
        rcases hp with ⟨_, e⟩ | ⟨_, _, e⟩
        · rw [e] at hlt; simp at hlt
        · have hfl := flatMap_len encO_len D.ops
          rw [e, cellsAt_cells (by rw [hfl]; omega)]
          have := flatMap_slot encO_len hoi
          rw [this, hE]
      obtain ⟨hpq, hqv⟩ : ∃ sp, Value.slice pp D.ops.length cc = .slice (some ⟨q, 0, some sp⟩) D.ops.length cc := by
        rcases hp with ⟨_, e⟩ | ⟨e, _, _⟩
        · rw [e] at hlt; simp at hlt
        · exact ⟨4, by cases e; rfl⟩
      cases hqv
      simp -dsimp (maxSteps := 4000000) (disch := first | omega | assumption | (simp only [FB, Nat.reduceAdd]; done) | (simp only [LB]; omega)) only [EB, ↓reduceIte, WB, Nat.reduceSub, Nat.reduceAdd, Int.reduceEq, Int.reduceNe, Int.reduceLT, Int.reduceLE, Int.reduceAdd, Int.reduceSub, Int.reduceMul, Int.reduceNeg, Int.reduceToNat, Nat.reduceEqDiff, Nat.reduceLT, Nat.reduceLeDiff, Nat.reduceMul, List.replicate, reduceCtorEq, op_len und9 rfl, g0, g1, g5, g6, g7, hm]
      refine code_draw [(0, 4), (0, 5), (0, 6), (0, 7), (0, 8), (0, 9), (0, 10), (0, 11), (1, 4), (1, 5), (1, 6), (1, 7), (1, 8), (1, 9), (1, 10), (1, 11), (2, 4), (2, 5), (2, 6), (2, 7), (2, 8), (2, 9), (2, 10), (2, 11), (3, 4), (3, 5), (3, 6), (3, 7), (3, 8), (3, 9), (3, 10), (3, 11), (4, 5), (4, 6), (4, 7), (4, 8), (4, 9), (4, 10), (4, 11), (5, 9), (6, 9), (7, 9), (8, 9)] (by decide +kernel) (by decide +kernel) ?_
      simp -dsimp (maxSteps := 4000000) (disch := first | omega | assumption | (simp only [FB, Nat.reduceAdd]; done) | (simp only [LB]; omega)) only [EB, ↓reduceIte, WB, Nat.reduceSub, Nat.reduceAdd, Int.reduceEq, Int.reduceNe, Int.reduceLT, Int.reduceLE, Int.reduceAdd, Int.reduceSub, Int.reduceMul, Int.reduceNeg, Int.reduceToNat, Nat.reduceEqDiff, Nat.reduceLT, Nat.reduceLeDiff, Nat.reduceMul, List.replicate, reduceCtorEq, RB, Nat.reduceEqDiff, op_len und9 rfl, g0, g1, g5, g6, hb, refC, op_fa fo60_0, op_fa fo60_1, op_fa fo60_2, op_fa fo60_3, op_fa fo60_4, op_fa fo60_5, op_fa fo60_6, load_one agg3, load_one agg9, load_one agg58, storeVar_eq size3, storeVar_eq size9, storeVar_eq size58, hs, indexAddr_slice und58 size73, load_agg agg73 size73, hcell, d48, wrap64]
      have hal := act_len D.ops[i] du
      have hlim : D.ops[i].lim ≤ 1000000 := by
        have hw := hop _ (List.getElem_mem hlt)
        generalize D.ops[i] = o at hw
        cases o with
        | wr f bb => obtain ⟨m, rfl, h2, h3⟩ := hw; simp only [DOp.lim]; omega
        | tr t => obtain ⟨m, rfl, h3⟩ := hw; simp only [DOp.lim]; omega
      refine ⟨D.ops.length - (i + 1), by omega, i + 1, n1 + 1, D.ops[i].act du, _, rfl, by omega, by omega, rfl, rfl, ?_, by omega, ?_⟩
      · rw [← hcr, hcd, if_pos hm]
      · simp only [ups_at, ↓reduceIte, Nat.reduceEqDiff]; exact ⟨g0, g1, (by first | trivial | rfl | omega), (by first | trivial | rfl | omega)⟩
    · simp -dsimp (maxSteps := 4000000) (disch := first | omega | assumption | (simp only [FB, Nat.reduceAdd]; done) | (simp only [LB]; omega)) only [EB, ↓reduceIte, WB, Nat.reduceSub, Nat.reduceAdd, Int.reduceEq, Int.reduceNe, Int.reduceLT, Int.reduceLE, Int.reduceAdd, Int.reduceSub, Int.reduceMul, Int.reduceNeg, Int.reduceToNat, Nat.reduceEqDiff, Nat.reduceLT, Nat.reduceLeDiff, Nat.reduceMul, List.replicate, reduceCtorEq, op_len und9 rfl, g0, g1, g5, g6, g7, hm, wrap64]
      refine ⟨trivial, D.ops.length - (i + 1), by omega, i + 1, n1, du, _, rfl, by omega, hn1, rfl, rfl, ?_, hdl, ?_⟩
      · rw [← hcr, hcd, if_neg hm]
      · simp only [ups_at, ↓reduceIte, Nat.reduceEqDiff]; exact ⟨g0, g1, g5, rfl⟩
  · simp -dsimp (maxSteps := 4000000) (disch := first | omega | assumption | (simp only [FB, Nat.reduceAdd]; done) | (simp only [LB]; omega)) only [EB, ↓reduceIte, WB, Nat.reduceSub, Nat.reduceAdd, Int.reduceEq, Int.reduceNe, Int.reduceLT, Int.reduceLE, Int.reduceAdd, Int.reduceSub, Int.reduceMul, Int.reduceNeg, Int.reduceToNat, Nat.reduceEqDiff, Nat.reduceLT, Nat.reduceLeDiff, Nat.reduceMul, List.replicate, reduceCtorEq, op_len und9 rfl, e0, e1, e5, e6, hb, refC, op_fa fo60_0, op_fa fo60_1, op_fa fo60_2, op_fa fo60_3, op_fa fo60_4, op_fa fo60_5, op_fa fo60_6, load_one agg3, load_one agg9, load_one agg58, storeVar_eq size3, storeVar_eq size9, storeVar_eq size58, op_len und58 rfl, show ¬ ((i : Int) < D.ops.length) by omega, write_soil]
    have hdu' : du = crashI keep 0 D.ops D.du := by
      rw [← hcr, List.drop_of_length_le (by omega)]; rfl
    have hq0 := soil_one hbn
    have hq1 := soil_same hbn
    rw [hq0, hq1, hq1, hq1, leave_soil]
    simp -dsimp (maxSteps := 4000000) (disch := first | omega | assumption | (simp only [FB, Nat.reduceAdd]; done) | (simp only [LB]; omega)) only [EB, ↓reduceIte, WB, Nat.reduceSub, Nat.reduceAdd, Int.reduceEq, Int.reduceNe, Int.reduceLT, Int.reduceLE, Int.reduceAdd, Int.reduceSub, Int.reduceMul, Int.reduceNeg, Int.reduceToNat, Nat.reduceEqDiff, Nat.reduceLT, Nat.reduceLeDiff, Nat.reduceMul, List.replicate, reduceCtorEq, op_len und9 rfl, ]
    subst hdu'
    refine hK _ _ _ q (.wrote ⟨fun h1 _ => soilW_own h1, fun h => soilW_mem h, fun lo h1 h2 h3 => fromU_soil h3 h1⟩ (.inl rfl) hn1 ⟨⟨.slice none 0 0, ?_, .inl ⟨rfl, rfl⟩⟩, hbq, ⟨by omega, by omega⟩, ⟨by simp only [Dv.crash]; omega, by simp only [Dv.crash]; omega⟩, hno0, hdl, hdl, fun o ho => by simp [Dv.crash] at ho⟩ fun j _ h1 _ => ?_)
    · rw [look_wput_self, look_wput_self, look_wput_self, look_wput_self, hb]; rfl
    · rw [look_wput_ne h1, look_wput_ne h1, look_wput_ne h1, look_wput_ne h1]
end Go.Proofs.YtgdmgolmeeigdaaAM
