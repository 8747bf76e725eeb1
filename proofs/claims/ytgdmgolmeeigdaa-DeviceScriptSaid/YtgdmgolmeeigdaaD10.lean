/- Chapter 3: a crash. -/
import Derived.Test.YtgdmgolmeeigdaaD9
namespace Go.Proofs.YtgdmgolmeeigdaaAM
open Go Go.RowKit
set_option linter.unusedVariables false
set_option linter.unusedSimpArgs false
set_option maxRecDepth 10000
set_option maxHeartbeats 4000000

def crashI (keep : List Int) : Nat → List DOp → List UInt8 → List UInt8
  | _, [], im => im
  | i, o :: os, im => crashI keep (i + 1) os (if (i : Int) ∈ keep then o.act im else im)
theorem crashI_drop {keep : List Int} {ops : List DOp} {i : Nat} {o : DOp} {im : List UInt8} (h : ops[i]? = some o) : crashI keep i (ops.drop i) im = crashI keep (i + 1) (ops.drop (i + 1)) (if (i : Int) ∈ keep then o.act im else im) := by
  obtain ⟨hi, e⟩ := List.getElem?_eq_some_iff.1 h
  rw [List.drop_eq_getElem_cons hi, e]
  rfl
theorem ListV.put {h : List (Nat × Blk)} {n b : Nat} {v : Value} {xs : List Int} {s c f o : Int} {im du : List UInt8} {pv : Value} (hb : look b h = some (.cells (devC s c im du pv f o) true)) (hv : ListV encI h n v xs) {X : Blk} : ListV encI (putAt b X h) n v xs := by
  rcases hv with hv | ⟨q, sp, cap, rw, e1, e2, e3⟩
  · exact .inl hv
  · refine .inr ⟨q, sp, cap, rw, e1, ?_, e3⟩
    rw [look_wput_ne]
    · exact e2
    · rintro rfl
      rw [hb, flat_encI] at e2
      have := congrArg (fun z => match z with | some (Blk.cells l _) => l[2]? | _ => none) e2
      simp only [devC, List.getElem?_map] at this
      cases hx : xs[2]? with
      | none => rw [hx] at this; cases this
      | some x => rw [hx] at this; cases this
theorem crash14 (D : Dv) (keep : List Int) (v : Value) (hkp : keep.length ≤ 17592186043904) (hlen : D.ops.length < 100000) {h : List (Nat × Blk)} {n bs b q : Nat} {d : List Nat} {S : Nat → Prop} (hd : DevS h n b q S D) (hv : ListV encI h n v keep) (K : Value → AW → Prop)
    (hK : ∀ h', DevS h' n b q S { D with im := crashI keep 0 D.ops D.du, du := crashI keep 0 D.ops D.du, ops := [], f := -1 } → (∀ j, j ≠ b → look j h' = look j h) → K (.int .i64 0) ⟨n, h', bs, soilW bs d b⟩) :
    WCall Try.prog GV 14 [.pointer (some ⟨b, 0, none⟩), v] ⟨n, h, bs, d⟩ K := by
  rw [call_body' Try.func14 rfl Try.ntmps14 rfl rfl]
  obtain ⟨⟨pv, fs, hb, hp, hfl, hrep⟩, hbq, hbS, hqS, ⟨hbn, hqn, hSn⟩, hfu, hno0, him, hdu, hop⟩ := hd
  obtain ⟨D1, D2, D3, D4, D5, D6, D7⟩ := D
  simp only at *
  obtain ⟨pp, cc, rfl⟩ : ∃ pp cc, pv = .slice pp fs.length cc := by
    rcases hp with ⟨rfl, rfl⟩ | ⟨rfl, _⟩
    · exact ⟨none, 0, rfl⟩
    · exact ⟨_, _, rfl⟩
  simp -dsimp (maxSteps := 4000000) (disch := first | omega | assumption | (simp only [FB, Nat.reduceAdd]; done) | (simp only [LB]; omega)) only [WB, Nat.reduceSub, Nat.reduceAdd, Int.reduceEq, Int.reduceNe, Int.reduceLT, Int.reduceLE, Int.reduceAdd, Int.reduceSub, Int.reduceMul, Int.reduceNeg, Int.reduceToNat, Nat.reduceEqDiff, Nat.reduceLT, Nat.reduceLeDiff, Nat.reduceMul, List.replicate, reduceCtorEq, op_len und9 rfl, eql25, hb, devC, op_fa fo64_0, op_fa fo64_1, op_fa fo64_2, op_fa fo64_3, op_fa fo64_4, op_fa fo64_5, op_fa fo64_6, load_one agg3, load_one agg9, load_one agg62, storeVar_eq size3, storeVar_eq size9, storeVar_eq size62, op_len und62 rfl]
  refine loop_inv (fun k t w => ∃ i : Nat, ∃ h' : List (Nat × Blk), ∃ dd : List Nat, ∃ du : List UInt8, k = fs.length - i ∧ i ≤ fs.length ∧ crashI keep i (D5.drop i) du = crashI keep 0 D5 D4 ∧ du.length ≤ 1000000 ∧ w = ⟨n, h', n, dd⟩ ∧ (dd = [] ∨ dd = [b]) ∧ look b h' = some (.cells (devC D1 D2 D3 du (.slice pp fs.length cc) D6 D7) true) ∧ (∀ j, j ≠ b → look j h' = look j h) ∧ ListV encI h' n v keep ∧
    t.length = 45 ∧ getT t 0 = .pointer (some ⟨b, 0, none⟩) ∧ getT t 1 = v ∧ getT t 12 = .slice pp fs.length cc ∧ getT t 13 = .int .i64 fs.length ∧ getT t 14 = .int .i64 i) ⟨0, h, [], D4, rfl, by omega, rfl, hdu, rfl, .inl rfl, hb, fun j hj => rfl, hv, rfl, rfl, rfl, rfl, rfl, rfl⟩ ?_
  rintro k t w ⟨i, h', dd, du, hk, hi, hcr, hdl, rfl, hdd, hb', hj', hv', ht, h0, h1, h12, h13, h14⟩
  obtain ⟨g, rfl⟩ : ∃ g : Nat → Value, t = [g 0, g 1, g 2, g 3, g 4, g 5, g 6, g 7, g 8, g 9, g 10, g 11, g 12, g 13, g 14, g 15, g 16, g 17, g 18, g 19, g 20, g 21, g 22, g 23, g 24, g 25, g 26, g 27, g 28, g 29, g 30, g 31, g 32, g 33, g 34, g 35, g 36, g 37, g 38, g 39, g 40, g 41, g 42, g 43, g 44] := ⟨getT t, expand ht⟩
  simp only [getT_zero, getT_succ] at h0 h1 h12 h13 h14
  have hb0' := hb'
  simp only [devC] at hb'
  have hs1 : soilW n dd b = [b] := by
    rcases hdd with rfl | rfl
    · exact soil_one hbn
    · exact soil_same hbn
  have hs2 : soilW n [b] b = [b] := soil_same hbn
  by_cases hlt : i < fs.length
  · obtain ⟨qq, hqq⟩ : ∃ e, Value.slice pp fs.length cc = .slice (some ⟨q, 0, some 2⟩) fs.length fs.length ∧ look q h = some (.cells fs e) := by
      rcases hp with ⟨_, e⟩ | ⟨e1, _, e3⟩
      · rw [e] at hlt; simp at hlt
      · exact ⟨true, e1, e3⟩
    obtain ⟨e, hq⟩ := hqq
    cases e
    have hq' := hj' q (Ne.symm hbq)
    rw [hq] at hq'
    have hfi : fs[i]? = some fs[i] := List.getElem?_eq_getElem hlt
    have hoi : D5[i]? = some D5[i] := List.getElem?_eq_getElem (by omega)
    have hr := hrep i fs[i] D5[i] hfi hoi
    have hr' : Rep h' S fs[i] D5[i] := hr.keep (fun j hj => hj) fun j hj => hj' j (fun e => hbS (e ▸ hj))
    have hlim := hop D5[i] (List.getElem_mem _)
    obtain ⟨cf, cs, hff, hcall⟩ := hr'.call hlim hdl (n := n) (bs := n) (d := dd) (fun j hj => hSn j hj)
    rw [hff] at hfi
    have hcd := crashI_drop (keep := keep) (im := du) hoi
    by_cases hm : (i : Int) ∈ keep
    · simp -dsimp (maxSteps := 4000000) (disch := first | omega | assumption | (simp only [FB, Nat.reduceAdd]; done) | (simp only [LB]; omega)) only [WB, Nat.reduceSub, Nat.reduceAdd, Int.reduceEq, Int.reduceNe, Int.reduceLT, Int.reduceLE, Int.reduceAdd, Int.reduceSub, Int.reduceMul, Int.reduceNeg, Int.reduceToNat, Nat.reduceEqDiff, Nat.reduceLT, Nat.reduceLeDiff, Nat.reduceMul, List.replicate, reduceCtorEq, op_len und9 rfl, h0, h1, h12, h13, h14, show ((i : Int) < fs.length) by omega, indexAddr_slice und62 size62, load_one agg68, hq', hfi, contains35 v keep i ⟨n, h', n, dd⟩ hv' hkp, hm, hb', op_fa fo64_0, op_fa fo64_1, op_fa fo64_2, op_fa fo64_3, op_fa fo64_4, op_fa fo64_5, op_fa fo64_6, load_one agg3, load_one agg9, load_one agg62, storeVar_eq size3, storeVar_eq size9, storeVar_eq size62, hcall, write_soil, wrap64, hs1, hs2]
      refine ⟨trivial, fs.length - (i + 1), by omega, i + 1, _, [b], D5[i].act du, rfl, by omega, ?_, ?_, rfl, .inr rfl, ?_, ?_, hv'.put hb0', ?_⟩
      · rw [← hcr, hcd, if_pos hm]
      · have := act_len D5[i] du; omega
      · rw [look_wput_self, hb']; rfl
      · intro j hj; rw [look_wput_ne hj, hj' j hj]
      · and_intros <;> first | trivial | rfl | omega
    · simp -dsimp (maxSteps := 4000000) (disch := first | omega | assumption | (simp only [FB, Nat.reduceAdd]; done) | (simp only [LB]; omega)) only [WB, Nat.reduceSub, Nat.reduceAdd, Int.reduceEq, Int.reduceNe, Int.reduceLT, Int.reduceLE, Int.reduceAdd, Int.reduceSub, Int.reduceMul, Int.reduceNeg, Int.reduceToNat, Nat.reduceEqDiff, Nat.reduceLT, Nat.reduceLeDiff, Nat.reduceMul, List.replicate, reduceCtorEq, op_len und9 rfl, h0, h1, h12, h13, h14, show ((i : Int) < fs.length) by omega, indexAddr_slice und62 size62, load_one agg68, hq', hfi, contains35 v keep i ⟨n, h', n, dd⟩ hv' hkp, hm, wrap64]
      refine ⟨trivial, fs.length - (i + 1), by omega, i + 1, h', dd, du, rfl, by omega, ?_, hdl, rfl, hdd, hb0', hj', hv', ?_⟩
      · rw [← hcr, hcd, if_neg hm]
      · and_intros <;> first | trivial | rfl | omega
  · simp -dsimp (maxSteps := 4000000) (disch := first | omega | assumption | (simp only [FB, Nat.reduceAdd]; done) | (simp only [LB]; omega)) only [WB, Nat.reduceSub, Nat.reduceAdd, Int.reduceEq, Int.reduceNe, Int.reduceLT, Int.reduceLE, Int.reduceAdd, Int.reduceSub, Int.reduceMul, Int.reduceNeg, Int.reduceToNat, Nat.reduceEqDiff, Nat.reduceLT, Nat.reduceLeDiff, Nat.reduceMul, List.replicate, reduceCtorEq, op_len und9 rfl, h0, h1, h12, h13, h14, show ¬ ((i : Int) < fs.length) by omega, hb', op_fa fo64_0, op_fa fo64_1, op_fa fo64_2, op_fa fo64_3, op_fa fo64_4, op_fa fo64_5, op_fa fo64_6, load_one agg3, load_one agg9, load_one agg62, storeVar_eq size3, storeVar_eq size9, storeVar_eq size62, write_soil, hs1, hs2, leave_soil]
    have hdu' : du = crashI keep 0 D5 D4 := by
      rw [← hcr, List.drop_of_length_le (by omega)]; rfl
    rw [← hdu'] at hK
    refine hK _ ⟨⟨.slice none 0 0, [], ?_, .inl ⟨rfl, rfl⟩, rfl, fun i fv o e1 e2 => by simp at e1⟩, hbq, hbS, hqS, ⟨hbn, hqn, hSn⟩, ⟨by simp only; omega, by simp only; omega⟩, hno0, hdl, hdl, fun o ho => by simp at ho⟩ fun j hj => ?_
    · rw [look_wput_self, look_wput_self, look_wput_self, hb']; rfl
    · rw [look_wput_ne hj, look_wput_ne hj, look_wput_ne hj, hj' j hj]
end Go.Proofs.YtgdmgolmeeigdaaAM
