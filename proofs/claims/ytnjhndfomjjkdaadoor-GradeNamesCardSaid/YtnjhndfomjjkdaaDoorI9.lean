/- Chapter 22: GradeCalls answers true; lists of floats opened. -/
import Derived.Test.YtnjhndfomjjkdaaDoorI8
namespace Go.Proofs.YtnjhndfomjjkdaaDoorAM
open Go Go.RowKit Ieee Go.ChangeShapes Go.WideShapes Go.ChangeAt Go.Joins Go.Deep
set_option linter.unusedVariables false
set_option linter.unusedSimpArgs false
set_option maxRecDepth 10000
set_option maxHeartbeats 4000000

theorem app_cons {α : Type} {x : α} {l k : List α} : List.append (x :: l) k = x :: List.append l k := rfl
theorem app_nil {α : Type} {k : List α} : List.append [] k = k := rfl
theorem bool_eql {x y : Operand} {b : Bool} : binA Tryd.prog .eql 4 x y (.bool b) (.bool b) = some (.bool true) := by cases b <;> rfl
theorem law8 (v w : Value) (l : List Nat) (f : List Find) (S P : Int) (x y : Nat) (hx : x < 18446744073709551616) (hy : y < 18446744073709551616) (hok : okB l) (hll : l.length ≤ 140737488355328) (hlf : f.length ≤ 140737488355328) (a : AW)
    (hv : ListV encB a.heap a.next v l) (hw : ListV encF a.heap a.next w f) :
    WCall Tryd.prog GV 8 [.int .i64 S, .int .i64 P, .float .f64 x, .float .f64 y, v, w] a fun r _ => r = .bool true := by
  rw [call_env Tryd.func8 rfl Tryd.ntmps8 rfl rfl (by simp)]
  have hf : FloatKind.f64.format = double := rfl
  obtain ⟨p, c, rfl⟩ := hv.len
  obtain ⟨q, d, rfl⟩ := hw.len
  by_cases c1 : 60 < l.length
  · simp -dsimp (maxSteps := 4000000) (disch := first | omega | assumption | (simp only [FB, Nat.reduceAdd]; done) | (simp only [LB]; omega)) only [EB, ↓reduceIte, WB, Nat.reduceSub, Nat.reduceAdd, Int.reduceEq, Int.reduceNe, Int.reduceLT, Int.reduceLE, Int.reduceAdd, Int.reduceSub, Int.reduceMul, Int.reduceNeg, Int.reduceToNat, Nat.reduceEqDiff, Nat.reduceLT, Nat.reduceLeDiff, Nat.reduceMul, List.replicate, reduceCtorEq, lives9, op_len und42 rfl, op_len und32 rfl, show (60 : Int) < l.length by omega, leave_fst flat_bool]
  · by_cases c2 : 60 < f.length
    · simp -dsimp (maxSteps := 4000000) (disch := first | omega | assumption | (simp only [FB, Nat.reduceAdd]; done) | (simp only [LB]; omega)) only [EB, ↓reduceIte, WB, Nat.reduceSub, Nat.reduceAdd, Int.reduceEq, Int.reduceNe, Int.reduceLT, Int.reduceLE, Int.reduceAdd, Int.reduceSub, Int.reduceMul, Int.reduceNeg, Int.reduceToNat, Nat.reduceEqDiff, Nat.reduceLT, Nat.reduceLeDiff, Nat.reduceMul, List.replicate, reduceCtorEq, lives9, op_len und42 rfl, op_len und32 rfl, show ¬ (60 : Int) < l.length by omega, show (60 : Int) < f.length by omega, leave_fst flat_bool]
    · by_cases c3 : 1099511627776 < S
      · simp -dsimp (maxSteps := 4000000) (disch := first | omega | assumption | (simp only [FB, Nat.reduceAdd]; done) | (simp only [LB]; omega)) only [EB, ↓reduceIte, WB, Nat.reduceSub, Nat.reduceAdd, Int.reduceEq, Int.reduceNe, Int.reduceLT, Int.reduceLE, Int.reduceAdd, Int.reduceSub, Int.reduceMul, Int.reduceNeg, Int.reduceToNat, Nat.reduceEqDiff, Nat.reduceLT, Nat.reduceLeDiff, Nat.reduceMul, List.replicate, reduceCtorEq, lives9, op_len und42 rfl, op_len und32 rfl, show ¬ (60 : Int) < l.length by omega, show ¬ (60 : Int) < f.length by omega, c3, leave_fst flat_bool]
      · by_cases c4 : S < -1099511627776
        · simp -dsimp (maxSteps := 4000000) (disch := first | omega | assumption | (simp only [FB, Nat.reduceAdd]; done) | (simp only [LB]; omega)) only [EB, ↓reduceIte, WB, Nat.reduceSub, Nat.reduceAdd, Int.reduceEq, Int.reduceNe, Int.reduceLT, Int.reduceLE, Int.reduceAdd, Int.reduceSub, Int.reduceMul, Int.reduceNeg, Int.reduceToNat, Nat.reduceEqDiff, Nat.reduceLT, Nat.reduceLeDiff, Nat.reduceMul, List.replicate, reduceCtorEq, lives9, op_len und42 rfl, op_len und32 rfl, show ¬ (60 : Int) < l.length by omega, show ¬ (60 : Int) < f.length by omega, c3, c4, leave_fst flat_bool]
        · by_cases c5 : 1099511627776 < P
          · simp -dsimp (maxSteps := 4000000) (disch := first | omega | assumption | (simp only [FB, Nat.reduceAdd]; done) | (simp only [LB]; omega)) only [EB, ↓reduceIte, WB, Nat.reduceSub, Nat.reduceAdd, Int.reduceEq, Int.reduceNe, Int.reduceLT, Int.reduceLE, Int.reduceAdd, Int.reduceSub, Int.reduceMul, Int.reduceNeg, Int.reduceToNat, Nat.reduceEqDiff, Nat.reduceLT, Nat.reduceLeDiff, Nat.reduceMul, List.replicate, reduceCtorEq, lives9, op_len und42 rfl, op_len und32 rfl, show ¬ (60 : Int) < l.length by omega, show ¬ (60 : Int) < f.length by omega, c3, c4, c5, leave_fst flat_bool]
          · by_cases c6 : P < -1099511627776
            · simp -dsimp (maxSteps := 4000000) (disch := first | omega | assumption | (simp only [FB, Nat.reduceAdd]; done) | (simp only [LB]; omega)) only [EB, ↓reduceIte, WB, Nat.reduceSub, Nat.reduceAdd, Int.reduceEq, Int.reduceNe, Int.reduceLT, Int.reduceLE, Int.reduceAdd, Int.reduceSub, Int.reduceMul, Int.reduceNeg, Int.reduceToNat, Nat.reduceEqDiff, Nat.reduceLT, Nat.reduceLeDiff, Nat.reduceMul, List.replicate, reduceCtorEq, lives9, op_len und42 rfl, op_len und32 rfl, show ¬ (60 : Int) < l.length by omega, show ¬ (60 : Int) < f.length by omega, c3, c4, c5, c6, leave_fst flat_bool]
            · have p20 := fun K => pass20 (.slice q f.length d) f (by omega) P x hx ⟨a.next, a.heap, a.next, []⟩ hw K
              have p25 := fun K => pass25 (.slice q f.length d) f (by omega) P x hx ⟨a.next, a.heap, a.next, []⟩ hw K
              unfold passV at p20 p25
              have g15 := fun K => grade15a (.slice q f.length d) f (by omega) P ⟨a.next, a.heap, a.next, []⟩ hw K
              have g29 := fun K => grade29 (.slice q f.length d) f (by omega) P ⟨a.next, a.heap, a.next, []⟩ hw K
              have m21 := fun K => mean21 (.slice p l.length c) l (by omega) ⟨a.next, a.heap, a.next, []⟩ hv K
              have m31 := fun K => mean31 (.slice p l.length c) l (by omega) ⟨a.next, a.heap, a.next, []⟩ hv K
              have l19 := fun K => least19 (.slice p l.length c) l (by omega) hok ⟨a.next, a.heap, a.next, []⟩ hv K
              have l32 := fun K => least32 (.slice p l.length c) l (by omega) hok ⟨a.next, a.heap, a.next, []⟩ hv K
              have b18 := fun a K => bar18a x hx a K
              have b30 := fun a K => bar30 x hx a K
              have c14 := fun a K => compare14 x y hx hy a K
              have c28 := fun a K => compare28 x y hx hy a K
              have sm1 := fun a K => same26 (v := shareV S P) (arF_div _ _) a K
              have sm2 := fun a K => same26 (v := .float .f64 (gradeB (weightL f) P)) (.inr ⟨_, rfl, gradeB_lt _ _⟩) a K
              have sm3 := fun a K => same26 (v := meanV l) (arF_div _ _) a K
              have sm4 := fun a K => same26 (v := shareV P (IntKind.wrap .i64 (S - 24))) (arF_div _ _) a K
              by_cases hnx : isNum x
              · have t11 := fun a K => text11 x hx hnx a K
                have t34 := fun a K => text34 x hx hnx a K
                simp -dsimp (maxSteps := 4000000) (disch := first | omega | assumption | (simp only [FB, Nat.reduceAdd]; done) | (simp only [LB]; omega)) only [EB, ↓reduceIte, WB, Nat.reduceSub, Nat.reduceAdd, Int.reduceEq, Int.reduceNe, Int.reduceLT, Int.reduceLE, Int.reduceAdd, Int.reduceSub, Int.reduceMul, Int.reduceNeg, Int.reduceToNat, Nat.reduceEqDiff, Nat.reduceLT, Nat.reduceLeDiff, Nat.reduceMul, List.replicate, reduceCtorEq, lives9, op_len und42 rfl, op_len und32 rfl, show ¬ (60 : Int) < l.length by omega, show ¬ (60 : Int) < f.length by omega, c3, c4, c5, c6, p20, p25, eq_self]
                repeat rw [app_cons]
                repeat rw [app_nil]
                simp -dsimp (maxSteps := 4000000) (disch := first | omega | assumption | (simp only [FB, Nat.reduceAdd]; done) | (simp only [LB]; omega)) only [EB, ↓reduceIte, WB, Nat.reduceSub, Nat.reduceAdd, Int.reduceEq, Int.reduceNe, Int.reduceLT, Int.reduceLE, Int.reduceAdd, Int.reduceSub, Int.reduceMul, Int.reduceNeg, Int.reduceToNat, Nat.reduceEqDiff, Nat.reduceLT, Nat.reduceLeDiff, Nat.reduceMul, List.replicate, reduceCtorEq, bool_eql, share23a, share27, sm1, c14, c28, eq_self, g15, g29, sm2, b18, b30, m21, m31, sm3, l19, l32, fill24, fill33, sm4, t11, t34, beq_self_eq_true, leave_fst flat_bool]
              · have hnn : double.order x x = none := Classical.not_not.1 hnx
                have t11 := fun a K => nan11 x hnn a K
                have t34 := fun a K => nan34 x hnn a K
                simp -dsimp (maxSteps := 4000000) (disch := first | omega | assumption | (simp only [FB, Nat.reduceAdd]; done) | (simp only [LB]; omega)) only [EB, ↓reduceIte, WB, Nat.reduceSub, Nat.reduceAdd, Int.reduceEq, Int.reduceNe, Int.reduceLT, Int.reduceLE, Int.reduceAdd, Int.reduceSub, Int.reduceMul, Int.reduceNeg, Int.reduceToNat, Nat.reduceEqDiff, Nat.reduceLT, Nat.reduceLeDiff, Nat.reduceMul, List.replicate, reduceCtorEq, lives9, op_len und42 rfl, op_len und32 rfl, show ¬ (60 : Int) < l.length by omega, show ¬ (60 : Int) < f.length by omega, c3, c4, c5, c6, p20, p25, eq_self]
                repeat rw [app_cons]
                repeat rw [app_nil]
                simp -dsimp (maxSteps := 4000000) (disch := first | omega | assumption | (simp only [FB, Nat.reduceAdd]; done) | (simp only [LB]; omega)) only [EB, ↓reduceIte, WB, Nat.reduceSub, Nat.reduceAdd, Int.reduceEq, Int.reduceNe, Int.reduceLT, Int.reduceLE, Int.reduceAdd, Int.reduceSub, Int.reduceMul, Int.reduceNeg, Int.reduceToNat, Nat.reduceEqDiff, Nat.reduceLT, Nat.reduceLeDiff, Nat.reduceMul, List.replicate, reduceCtorEq, bool_eql, share23a, share27, sm1, c14, c28, eq_self, g15, g29, sm2, b18, b30, m21, m31, sm3, l19, l32, fill24, fill33, sm4, t11, t34, beq_self_eq_true, leave_fst flat_bool]
def NumR : Rep0 Nat := FlatR encB fun b => b < 18446744073709551616
theorem num_keeps : KeepsR NumR := flat_keeps
section
variable {H : Type} {enc0 : TypeId × Value → H} {W : World} {held : Bool}
theorem trod_flt {P : Program} {w : World} {base fuel : Nat} {spare : Nat → Bool} {k : FloatKind} {t : TypeId} {cs : List Value} {x : DataW H × List MemPlace} (ht : P.underlying t = some (.float k)) (h : DataW.trod enc0 P w base spare held fuel t cs = some x) : ∃ b, cs = [.float k b] ∧ (Lit.float k b).wf = true := by
  cases fuel with
  | zero => simp [DataW.trod] at h
  | succ n =>
    unfold DataW.trod at h
    rw [ht] at h
    split at h <;> simp_all
theorem opens_num : Opens enc0 Tryd.prog W held 22 NumR :=
  opens_flat (fun _ => rfl) fun cs ⟨n, y, h, _⟩ => by
    obtain ⟨x, hx, hw⟩ := trod_flt und22 h
    exact ⟨x, hx, by simpa [Lit.wf] using hw⟩
end
theorem okB_of {l : List Nat} (h : ∀ x ∈ l, x < 18446744073709551616) : okB l := by
  intro i
  rw [List.getD_eq_getElem?_getD]
  cases e : l[i]? with
  | none => decide
  | some b => exact h b (List.mem_of_getElem? e)
theorem law6r (v w : Value) (l : List Nat) (f : List Find) (P : Int) (x y : Nat) (hx : x < 18446744073709551616) (hy : y < 18446744073709551616) (hll : l.length ≤ 140737488355328) (hlf : f.length ≤ 140737488355328) (a : AW) (m : Nat) (hm : m ≤ a.next)
    (hv : SliceR NumR 1 l a.heap m [v]) (hw : SliceR FindR 3 f a.heap m [w]) :
    WCall Tryd.prog GV 6 [v, w, .int .i64 P, .float .f64 x, .float .f64 y] a fun r _ => r = .bool true :=
  law6 v w l f P x y hx hy (okB_of (SliceR.listV hv).2) hll hlf a ((SliceR.listV hv).1.mono_n hm) ((SliceR.listV hw).1.mono_n hm)
theorem law8r (v w : Value) (l : List Nat) (f : List Find) (S P : Int) (x y : Nat) (hx : x < 18446744073709551616) (hy : y < 18446744073709551616) (hll : l.length ≤ 140737488355328) (hlf : f.length ≤ 140737488355328) (a : AW) (m : Nat) (hm : m ≤ a.next)
    (hv : SliceR NumR 1 l a.heap m [v]) (hw : SliceR FindR 3 f a.heap m [w]) :
    WCall Tryd.prog GV 8 [.int .i64 S, .int .i64 P, .float .f64 x, .float .f64 y, v, w] a fun r _ => r = .bool true :=
  law8 v w l f S P x y hx hy (okB_of (SliceR.listV hv).2) hll hlf a ((SliceR.listV hv).1.mono_n hm) ((SliceR.listV hw).1.mono_n hm)
end Go.Proofs.YtnjhndfomjjkdaaDoorAM
