/- Chapter 13: items. -/
import Derived.Test.YtijmlgccaicblaaB1
namespace Go.Proofs.YtijmlgccaicblaaAM
open Go Go.RowKit
set_option linter.unusedVariables false
set_option linter.unusedSimpArgs false
set_option maxRecDepth 10000
set_option maxHeartbeats 4000000

/-- An item. -/
structure It where
  key : List UInt8
  val : List UInt8
  over : Bool
  len : Int
  head : Int
instance : Inhabited It := ⟨⟨[], [], false, 0, 0⟩⟩
def encI (x : It) : List Value := [.string (mkStr x.key), .string (mkStr x.val), .bool x.over, .int .i64 x.len, .int .u32 x.head]
theorem encI_len (b : It) : (encI b).length = 5 := rfl
theorem encI_one (b : It) : (encI b).all Value.oneCell' = true := rfl
theorem encI_flat (b : It) : (encI b).all flat = true := rfl
def itOk (x : It) : Prop := x.key.length ≤ 40 ∧ (x.over = true ∧ x.val = [] ∧ 1 ≤ x.len ∧ x.len ≤ 4096 ∧ numOk x.head ∨ x.over = false ∧ x.val.length ≤ 255 ∧ x.len = 0 ∧ x.head = 0)
instance (x : It) : Decidable (itOk x) := by unfold itOk; exact inferInstance
theorem itOk_t {x : It} (h : x.over = true) : itOk x ↔ x.key.length ≤ 40 ∧ x.val = [] ∧ 1 ≤ x.len ∧ x.len ≤ 4096 ∧ numOk x.head := by simp [itOk, h]
theorem itOk_f {x : It} (h : x.over = false) : itOk x ↔ x.key.length ≤ 40 ∧ x.val.length ≤ 255 ∧ x.len = 0 ∧ x.head = 0 := by simp [itOk, h]
theorem may74 (x : It) (a : AW) (K) : WCall Try.prog GV 74 [.agg (encI x).toArray] a K = K (.bool (decide (itOk x))) a := by
  rw [call_env Try.func74 rfl Try.ntmps74 rfl rfl (by simp), encI]
  by_cases h0 : x.key.length ≤ 40
  · cases h : x.over with
    | true =>
      simp only [itOk_t h]
      by_cases h1 : x.val = [] <;> by_cases h2 : 1 ≤ x.len <;> by_cases h3 : x.len ≤ 4096 <;> by_cases h4 : numOk x.head <;> simp -dsimp (maxSteps := 4000000) (disch := first | omega | assumption | (simp only [FB, Nat.reduceAdd]; done) | (simp only [LB]; omega)) only [EB, ↓reduceIte, WB, Nat.reduceSub, Nat.reduceAdd, Int.reduceEq, Int.reduceNe, Int.reduceLT, Int.reduceLE, Int.reduceAdd, Int.reduceSub, Int.reduceMul, Int.reduceNeg, Int.reduceToNat, Nat.reduceEqDiff, Nat.reduceLT, Nat.reduceLeDiff, Nat.reduceMul, List.replicate, reduceCtorEq, TB, NB, key67, number55, h0, h1, h2, h3, h4] <;> simp [h0, h1, h2, h3, h4]
    | false =>
      simp only [itOk_f h]
      by_cases h1 : (x.val.length : Int) ≤ 255 <;> by_cases h2 : x.len = 0 <;> by_cases h3 : x.head = 0 <;> simp -dsimp (maxSteps := 4000000) (disch := first | omega | assumption | (simp only [FB, Nat.reduceAdd]; done) | (simp only [LB]; omega)) only [EB, ↓reduceIte, WB, Nat.reduceSub, Nat.reduceAdd, Int.reduceEq, Int.reduceNe, Int.reduceLT, Int.reduceLE, Int.reduceAdd, Int.reduceSub, Int.reduceMul, Int.reduceNeg, Int.reduceToNat, Nat.reduceEqDiff, Nat.reduceLT, Nat.reduceLeDiff, Nat.reduceMul, List.replicate, reduceCtorEq, TB, NB, key67, number55, h0, h1, h2, h3] <;> simp [h0, h2, h3] <;> first | (rw [decide_eq_true (show x.val.length ≤ 255 by omega)]) | (rw [decide_eq_false (show ¬ x.val.length ≤ 255 by omega)])
  · simp -dsimp (maxSteps := 4000000) (disch := first | omega | assumption | (simp only [FB, Nat.reduceAdd]; done) | (simp only [LB]; omega)) only [EB, ↓reduceIte, WB, Nat.reduceSub, Nat.reduceAdd, Int.reduceEq, Int.reduceNe, Int.reduceLT, Int.reduceLE, Int.reduceAdd, Int.reduceSub, Int.reduceMul, Int.reduceNeg, Int.reduceToNat, Nat.reduceEqDiff, Nat.reduceLT, Nat.reduceLeDiff, Nat.reduceMul, List.replicate, reduceCtorEq, TB, NB, key67, h0]
    rw [decide_eq_false fun h => h0 h.1]
theorem may60 (x : It) (a : AW) (K) : WCall Try.prog GV 60 [.agg (encI x).toArray] a K = K (.bool (decide (itOk x))) a := by
  rw [call_env Try.func60 rfl Try.ntmps60 rfl rfl (by simp), encI]
  by_cases h0 : x.key.length ≤ 40
  · cases h : x.over with
    | true =>
      simp only [itOk_t h]
      by_cases h1 : x.val = [] <;> by_cases h2 : 1 ≤ x.len <;> by_cases h3 : x.len ≤ 4096 <;> by_cases h4 : numOk x.head <;> simp -dsimp (maxSteps := 4000000) (disch := first | omega | assumption | (simp only [FB, Nat.reduceAdd]; done) | (simp only [LB]; omega)) only [EB, ↓reduceIte, WB, Nat.reduceSub, Nat.reduceAdd, Int.reduceEq, Int.reduceNe, Int.reduceLT, Int.reduceLE, Int.reduceAdd, Int.reduceSub, Int.reduceMul, Int.reduceNeg, Int.reduceToNat, Nat.reduceEqDiff, Nat.reduceLT, Nat.reduceLeDiff, Nat.reduceMul, List.replicate, reduceCtorEq, TB, NB, key22, number63, h0, h1, h2, h3, h4] <;> simp [h0, h1, h2, h3, h4]
    | false =>
      simp only [itOk_f h]
      by_cases h1 : (x.val.length : Int) ≤ 255 <;> by_cases h2 : x.len = 0 <;> by_cases h3 : x.head = 0 <;> simp -dsimp (maxSteps := 4000000) (disch := first | omega | assumption | (simp only [FB, Nat.reduceAdd]; done) | (simp only [LB]; omega)) only [EB, ↓reduceIte, WB, Nat.reduceSub, Nat.reduceAdd, Int.reduceEq, Int.reduceNe, Int.reduceLT, Int.reduceLE, Int.reduceAdd, Int.reduceSub, Int.reduceMul, Int.reduceNeg, Int.reduceToNat, Nat.reduceEqDiff, Nat.reduceLT, Nat.reduceLeDiff, Nat.reduceMul, List.replicate, reduceCtorEq, TB, NB, key22, number63, h0, h1, h2, h3] <;> simp [h0, h2, h3] <;> first | (rw [decide_eq_true (show x.val.length ≤ 255 by omega)]) | (rw [decide_eq_false (show ¬ x.val.length ≤ 255 by omega)])
  · have hf : decide (itOk x) = false := decide_eq_false fun h => h0 h.1
    rw [hf]
    cases h : x.over with
    | true => simp -dsimp (maxSteps := 4000000) (disch := first | omega | assumption | (simp only [FB, Nat.reduceAdd]; done) | (simp only [LB]; omega)) only [EB, ↓reduceIte, WB, Nat.reduceSub, Nat.reduceAdd, Int.reduceEq, Int.reduceNe, Int.reduceLT, Int.reduceLE, Int.reduceAdd, Int.reduceSub, Int.reduceMul, Int.reduceNeg, Int.reduceToNat, Nat.reduceEqDiff, Nat.reduceLT, Nat.reduceLeDiff, Nat.reduceMul, List.replicate, reduceCtorEq, TB, NB, key22, h0]
    | false => simp -dsimp (maxSteps := 4000000) (disch := first | omega | assumption | (simp only [FB, Nat.reduceAdd]; done) | (simp only [LB]; omega)) only [EB, ↓reduceIte, WB, Nat.reduceSub, Nat.reduceAdd, Int.reduceEq, Int.reduceNe, Int.reduceLT, Int.reduceLE, Int.reduceAdd, Int.reduceSub, Int.reduceMul, Int.reduceNeg, Int.reduceToNat, Nat.reduceEqDiff, Nat.reduceLT, Nat.reduceLeDiff, Nat.reduceMul, List.replicate, reduceCtorEq, TB, NB, key22, h0]
def vsz (x : It) : Nat := if x.over = true then 8 else 1 + x.val.length
def isz (x : It) : Nat := 2 + x.key.length + vsz x
theorem size59 (x : It) (hx : x.val.length ≤ 140737488355328) (a : AW) (K) : WCall Try.prog GV 59 [.agg (encI x).toArray] a K = K (.int .i64 (vsz x)) a := by
  rw [call_env Try.func59 rfl Try.ntmps59 rfl rfl (by simp), encI]
  cases h : x.over with
  | true => simp -dsimp (maxSteps := 4000000) (disch := first | omega | assumption | (simp only [FB, Nat.reduceAdd]; done) | (simp only [LB]; omega)) only [EB, ↓reduceIte, WB, Nat.reduceSub, Nat.reduceAdd, Int.reduceEq, Int.reduceNe, Int.reduceLT, Int.reduceLE, Int.reduceAdd, Int.reduceSub, Int.reduceMul, Int.reduceNeg, Int.reduceToNat, Nat.reduceEqDiff, Nat.reduceLT, Nat.reduceLeDiff, Nat.reduceMul, List.replicate, reduceCtorEq, TB, NB, ]; simp [vsz, h]
  | false => simp -dsimp (maxSteps := 4000000) (disch := first | omega | assumption | (simp only [FB, Nat.reduceAdd]; done) | (simp only [LB]; omega)) only [EB, ↓reduceIte, WB, Nat.reduceSub, Nat.reduceAdd, Int.reduceEq, Int.reduceNe, Int.reduceLT, Int.reduceLE, Int.reduceAdd, Int.reduceSub, Int.reduceMul, Int.reduceNeg, Int.reduceToNat, Nat.reduceEqDiff, Nat.reduceLT, Nat.reduceLeDiff, Nat.reduceMul, List.replicate, reduceCtorEq, TB, NB, wrap64]; simp [vsz, h]
theorem one18 (x : It) (hk : x.key.length ≤ 140737488355328) (hx : x.val.length ≤ 140737488355328) (a : AW) (K) : WCall Try.prog GV 18 [.agg (encI x).toArray] a K = K (.int .i64 (isz x)) a := by
  rw [call_env Try.func18 rfl Try.ntmps18 rfl rfl (by simp), encI]
  cases h : x.over with
  | true => simp -dsimp (maxSteps := 4000000) (disch := first | omega | assumption | (simp only [FB, Nat.reduceAdd]; done) | (simp only [LB]; omega)) only [EB, ↓reduceIte, WB, Nat.reduceSub, Nat.reduceAdd, Int.reduceEq, Int.reduceNe, Int.reduceLT, Int.reduceLE, Int.reduceAdd, Int.reduceSub, Int.reduceMul, Int.reduceNeg, Int.reduceToNat, Nat.reduceEqDiff, Nat.reduceLT, Nat.reduceLeDiff, Nat.reduceMul, List.replicate, reduceCtorEq, TB, NB, wrap64]; rw [show (isz x : Int) = 10 + x.key.length by simp only [isz, vsz, h, if_true]; omega]
  | false => simp -dsimp (maxSteps := 4000000) (disch := first | omega | assumption | (simp only [FB, Nat.reduceAdd]; done) | (simp only [LB]; omega)) only [EB, ↓reduceIte, WB, Nat.reduceSub, Nat.reduceAdd, Int.reduceEq, Int.reduceNe, Int.reduceLT, Int.reduceLE, Int.reduceAdd, Int.reduceSub, Int.reduceMul, Int.reduceNeg, Int.reduceToNat, Nat.reduceEqDiff, Nat.reduceLT, Nat.reduceLeDiff, Nat.reduceMul, List.replicate, reduceCtorEq, TB, NB, wrap64]; rw [show (isz x : Int) = 3 + x.key.length + x.val.length by simp only [isz, vsz, h]; simp; omega]
def okI (l : List It) (j : Nat) : Prop := ∀ h : j < l.length, itOk l[j] ∧ (∀ h0 : 0 < j, Op.bytesLess (l[j - 1]'(by omega)).key l[j].key = true)
def mayP (l : List It) : Prop := (∀ j, okI l j) ∧ 0 < l.length
noncomputable def mayI (l : List It) : Bool := @decide (mayP l) (Classical.propDecidable _)
theorem mayI_true {l : List It} (h : mayP l) : mayI l = true := by unfold mayI; simp [h]
theorem mayI_false {l : List It} (h : ¬ mayP l) : mayI l = false := by unfold mayI; simp [h]
theorem mayI_of {l : List It} (h : mayI l = true) : mayP l := by
  apply Classical.byContradiction
  intro h'; rw [mayI_false h'] at h; cases h
theorem may54 (v : Value) (l : List It) (hl : l.length ≤ 5000000000000) (a : AW) (m : Nat) (hm : m ≤ a.next) (hv : RV encI 5 a.heap m v l) (K : Value → AW → Prop) :
    WCall Try.prog GV 54 [v] a K = K (.bool (mayI l)) a := by
  refine call_eq ?_ K
  rw [call_env Try.func54 rfl Try.ntmps54 rfl rfl (by simp)]
  obtain ⟨pp, c, rfl⟩ := hv.len
  simp -dsimp (maxSteps := 4000000) (disch := first | omega | assumption | (simp only [FB, Nat.reduceAdd]; done) | (simp only [LB]; omega)) only [EB, ↓reduceIte, WB, Nat.reduceSub, Nat.reduceAdd, Int.reduceEq, Int.reduceNe, Int.reduceLT, Int.reduceLE, Int.reduceAdd, Int.reduceSub, Int.reduceMul, Int.reduceNeg, Int.reduceToNat, Nat.reduceEqDiff, Nat.reduceLT, Nat.reduceLeDiff, Nat.reduceMul, List.replicate, reduceCtorEq, TB, NB, ]
  refine loop_inv (fun r t w => ∃ i n h, ∃ e : Nat → Value, r = l.length - i ∧ i ≤ l.length ∧ w = ⟨n, h, a.next, []⟩ ∧ a.next ≤ n ∧ (∀ j, j < a.next → look j h = look j a.heap) ∧ t = TT 34 e ∧ (∀ j, j < i → okI l j) ∧ e 0 = .slice pp l.length c ∧ e 5 = .slice pp l.length c ∧ e 6 = .int .i64 l.length ∧ e 7 = .int .i64 i) ⟨0, a.next, a.heap, _, rfl, by omega, rfl, Nat.le_refl _, fun _ _ => rfl, rfl, fun j hj => absurd hj (by omega), rfl, rfl, rfl, rfl⟩ ?_
  rintro r t w ⟨i, n, h, e, rfl, hi, rfl, hn1, hh, rfl, hok, t0, t5, t6, t7⟩
  by_cases hlt : i < l.length
  · obtain ⟨b, o, sp, rw0, cc, e1, hlk, hbn, hle, hat, hkk⟩ := hv.at encI_len hlt
    subst e1
    have hlk' : look b h = some (.cells cc rw0) := by rw [hh b (by omega)]; exact hlk
    have h1' := fun a K => may74 l[i] a K
    simp only [encI] at h1'
    have hbad : ¬ okI l i → mayI l = false := fun h => mayI_false fun hm => h (hm.1 i)
    by_cases h1 : itOk l[i]
    · by_cases h0 : 0 < i
      · obtain ⟨b2, o2, sp2, rw2, cc2, e2, hlk2, hbn2, hle2, -, hk2⟩ := hv.at encI_len (i := i - 1) (by omega)
        cases e2
        rw [hlk] at hlk2
        cases hlk2
        have hn0 : cc[o + (i - 1) * 5]? = some (.string (mkStr l[i - 1].key)) := by have := hk2 0 (by omega); simpa [encI] using this
        by_cases h2 : Op.bytesLess l[i - 1].key l[i].key = true
        · simp -dsimp (maxSteps := 4000000) (disch := first | omega | assumption | (simp only [FB, Nat.reduceAdd]; done) | (simp only [LB]; omega)) only [EB, ↓reduceIte, WB, Nat.reduceSub, Nat.reduceAdd, Int.reduceEq, Int.reduceNe, Int.reduceLT, Int.reduceLE, Int.reduceAdd, Int.reduceSub, Int.reduceMul, Int.reduceNeg, Int.reduceToNat, Nat.reduceEqDiff, Nat.reduceLT, Nat.reduceLeDiff, Nat.reduceMul, List.replicate, reduceCtorEq, TB, NB, t0, t5, t6, t7, show (i : Int) < l.length by omega, hlk', hat, encI]
          refine code_draw [(7, 8), (7, 9), (7, 13), (7, 14), (8, 13), (8, 14), (9, 13), (9, 14), (10, 13), (10, 14), (11, 13), (11, 14), (12, 13), (12, 14)] (by decide +kernel) (by decide +kernel) ?_
          simp -dsimp (maxSteps := 4000000) (disch := first | omega | assumption | (simp only [FB, Nat.reduceAdd]; done) | (simp only [LB]; omega)) only [EB, ↓reduceIte, WB, Nat.reduceSub, Nat.reduceAdd, Int.reduceEq, Int.reduceNe, Int.reduceLT, Int.reduceLE, Int.reduceAdd, Int.reduceSub, Int.reduceMul, Int.reduceNeg, Int.reduceToNat, Nat.reduceEqDiff, Nat.reduceLT, Nat.reduceLeDiff, Nat.reduceMul, List.replicate, reduceCtorEq, RB, Nat.reduceEqDiff, TB, NB, h1', h1, t0, t7, show (0 : Int) < i by omega, wrap64, show ((i : Int) - 1).toNat = i - 1 by omega, hlk', hn0, h2, show b ≠ n by omega]
          refine ⟨l.length - (i + 1), by omega, i + 1, n + 2, _, _, rfl, by omega, rfl, by omega, fun j hj => ?_, rfl, fun j hj => ?_, ?_⟩
          · rw [look_miss (by omega), hh j hj]
          · rcases Nat.lt_or_ge j i with hji | hji
            · exact hok j hji
            · obtain rfl : j = i := by omega
              exact fun _ => ⟨h1, fun _ => h2⟩
          · simp only [ups_at, ↓reduceIte, Nat.reduceEqDiff]; exact ⟨t0, t5, t6, (by first | trivial | rfl | omega)⟩
        · simp -dsimp (maxSteps := 4000000) (disch := first | omega | assumption | (simp only [FB, Nat.reduceAdd]; done) | (simp only [LB]; omega)) only [EB, ↓reduceIte, WB, Nat.reduceSub, Nat.reduceAdd, Int.reduceEq, Int.reduceNe, Int.reduceLT, Int.reduceLE, Int.reduceAdd, Int.reduceSub, Int.reduceMul, Int.reduceNeg, Int.reduceToNat, Nat.reduceEqDiff, Nat.reduceLT, Nat.reduceLeDiff, Nat.reduceMul, List.replicate, reduceCtorEq, TB, NB, t0, t5, t6, t7, show (i : Int) < l.length by omega, hlk', hat, encI]
          refine code_draw [(7, 8), (7, 9), (7, 13), (7, 14), (8, 13), (8, 14), (9, 13), (9, 14), (10, 13), (10, 14), (11, 13), (11, 14), (12, 13), (12, 14)] (by decide +kernel) (by decide +kernel) ?_
          have h2' : Op.bytesLess l[i - 1].key l[i].key = false := by simpa using h2
          simp -dsimp (maxSteps := 4000000) (disch := first | omega | assumption | (simp only [FB, Nat.reduceAdd]; done) | (simp only [LB]; omega)) only [EB, ↓reduceIte, WB, Nat.reduceSub, Nat.reduceAdd, Int.reduceEq, Int.reduceNe, Int.reduceLT, Int.reduceLE, Int.reduceAdd, Int.reduceSub, Int.reduceMul, Int.reduceNeg, Int.reduceToNat, Nat.reduceEqDiff, Nat.reduceLT, Nat.reduceLeDiff, Nat.reduceMul, List.replicate, reduceCtorEq, RB, Nat.reduceEqDiff, TB, NB, h1', h1, t0, t7, show (0 : Int) < i by omega, wrap64, show ((i : Int) - 1).toNat = i - 1 by omega, hlk', hn0, h2', show b ≠ n by omega]
          rw [hbad fun h => h2 ((h hlt).2 h0)]
      · simp -dsimp (maxSteps := 4000000) (disch := first | omega | assumption | (simp only [FB, Nat.reduceAdd]; done) | (simp only [LB]; omega)) only [EB, ↓reduceIte, WB, Nat.reduceSub, Nat.reduceAdd, Int.reduceEq, Int.reduceNe, Int.reduceLT, Int.reduceLE, Int.reduceAdd, Int.reduceSub, Int.reduceMul, Int.reduceNeg, Int.reduceToNat, Nat.reduceEqDiff, Nat.reduceLT, Nat.reduceLeDiff, Nat.reduceMul, List.replicate, reduceCtorEq, TB, NB, t0, t5, t6, t7, show (i : Int) < l.length by omega, hlk', hat, encI]
        refine code_draw [(7, 8), (7, 9), (7, 13), (7, 14), (8, 13), (8, 14), (9, 13), (9, 14), (10, 13), (10, 14), (11, 13), (11, 14), (12, 13), (12, 14)] (by decide +kernel) (by decide +kernel) ?_
        simp -dsimp (maxSteps := 4000000) (disch := first | omega | assumption | (simp only [FB, Nat.reduceAdd]; done) | (simp only [LB]; omega)) only [EB, ↓reduceIte, WB, Nat.reduceSub, Nat.reduceAdd, Int.reduceEq, Int.reduceNe, Int.reduceLT, Int.reduceLE, Int.reduceAdd, Int.reduceSub, Int.reduceMul, Int.reduceNeg, Int.reduceToNat, Nat.reduceEqDiff, Nat.reduceLT, Nat.reduceLeDiff, Nat.reduceMul, List.replicate, reduceCtorEq, RB, Nat.reduceEqDiff, TB, NB, h1', h1, t0, t7, show ¬ (0 : Int) < i by omega, wrap64, hlk']
        refine ⟨l.length - (i + 1), by omega, i + 1, n + 2, _, _, rfl, by omega, rfl, by omega, fun j hj => ?_, rfl, fun j hj => ?_, ?_⟩
        · rw [look_miss (by omega), hh j hj]
        · obtain rfl : j = i := by omega
          exact fun _ => ⟨h1, fun h0' => absurd h0' h0⟩
        · simp only [ups_at, ↓reduceIte, Nat.reduceEqDiff]; exact ⟨t0, t5, t6, (by first | trivial | rfl | omega)⟩
    · simp -dsimp (maxSteps := 4000000) (disch := first | omega | assumption | (simp only [FB, Nat.reduceAdd]; done) | (simp only [LB]; omega)) only [EB, ↓reduceIte, WB, Nat.reduceSub, Nat.reduceAdd, Int.reduceEq, Int.reduceNe, Int.reduceLT, Int.reduceLE, Int.reduceAdd, Int.reduceSub, Int.reduceMul, Int.reduceNeg, Int.reduceToNat, Nat.reduceEqDiff, Nat.reduceLT, Nat.reduceLeDiff, Nat.reduceMul, List.replicate, reduceCtorEq, TB, NB, t0, t5, t6, t7, show (i : Int) < l.length by omega, hlk', hat, encI]
      refine code_draw [(7, 8), (7, 9), (7, 13), (7, 14), (8, 13), (8, 14), (9, 13), (9, 14), (10, 13), (10, 14), (11, 13), (11, 14), (12, 13), (12, 14)] (by decide +kernel) (by decide +kernel) ?_
      simp -dsimp (maxSteps := 4000000) (disch := first | omega | assumption | (simp only [FB, Nat.reduceAdd]; done) | (simp only [LB]; omega)) only [EB, ↓reduceIte, WB, Nat.reduceSub, Nat.reduceAdd, Int.reduceEq, Int.reduceNe, Int.reduceLT, Int.reduceLE, Int.reduceAdd, Int.reduceSub, Int.reduceMul, Int.reduceNeg, Int.reduceToNat, Nat.reduceEqDiff, Nat.reduceLT, Nat.reduceLeDiff, Nat.reduceMul, List.replicate, reduceCtorEq, RB, Nat.reduceEqDiff, TB, NB, h1', h1, t0, t7, wrap64, hlk']
      rw [hbad fun h => h1 (h hlt).1]
  · obtain rfl : i = l.length := by omega
    have hall : ∀ j, okI l j := fun j hj => hok j hj hj
    by_cases h0 : 0 < l.length
    · simp -dsimp (maxSteps := 4000000) (disch := first | omega | assumption | (simp only [FB, Nat.reduceAdd]; done) | (simp only [LB]; omega)) only [EB, ↓reduceIte, WB, Nat.reduceSub, Nat.reduceAdd, Int.reduceEq, Int.reduceNe, Int.reduceLT, Int.reduceLE, Int.reduceAdd, Int.reduceSub, Int.reduceMul, Int.reduceNeg, Int.reduceToNat, Nat.reduceEqDiff, Nat.reduceLT, Nat.reduceLeDiff, Nat.reduceMul, List.replicate, reduceCtorEq, TB, NB, t0, t5, t6, t7, show ¬ (l.length : Int) < l.length by omega, show (0 : Int) < l.length by omega]
      rw [mayI_true ⟨hall, h0⟩]
      exact ⟨rfl, trivial⟩
    · simp -dsimp (maxSteps := 4000000) (disch := first | omega | assumption | (simp only [FB, Nat.reduceAdd]; done) | (simp only [LB]; omega)) only [EB, ↓reduceIte, WB, Nat.reduceSub, Nat.reduceAdd, Int.reduceEq, Int.reduceNe, Int.reduceLT, Int.reduceLE, Int.reduceAdd, Int.reduceSub, Int.reduceMul, Int.reduceNeg, Int.reduceToNat, Nat.reduceEqDiff, Nat.reduceLT, Nat.reduceLeDiff, Nat.reduceMul, List.replicate, reduceCtorEq, TB, NB, t0, t5, t6, t7, show ¬ (l.length : Int) < l.length by omega, show ¬ (0 : Int) < l.length by omega]
      rw [mayI_false fun h => h0 h.2]
      exact ⟨rfl, trivial⟩
def sizeI (l : List It) : Nat := (l.map isz).sum
theorem sizeI_take (l : List It) (i : Nat) (h : i < l.length) : sizeI (l.take (i + 1)) = sizeI (l.take i) + isz l[i] := by
  unfold sizeI
  rw [List.take_add_one, List.getElem?_eq_getElem h]
  simp only [Option.toList_some, List.map_append, List.map_cons, List.map_nil, List.sum_append, List.sum_cons, List.sum_nil, Nat.add_zero]
theorem sizeI_upto (l : List It) (i : Nat) : sizeI (l.take i) ≤ sizeI l := by
  have e : sizeI l = sizeI (l.take i) + sizeI (l.drop i) := by
    unfold sizeI
    rw [← List.sum_append, ← List.map_append, List.take_append_drop]
  omega
theorem isz_le (l : List It) {i : Nat} (h : i < l.length) : isz l[i] ≤ sizeI l := by
  have := sizeI_take l i h
  have := sizeI_upto l (i + 1)
  omega
theorem isz_len (x : It) : x.key.length ≤ isz x ∧ (x.over = false → x.val.length ≤ isz x) := by
  unfold isz vsz
  refine ⟨by omega, fun h => ?_⟩
  rw [h]; simp; omega
theorem size41 (v : Value) (l : List It) (hl : l.length ≤ 5000000000000) (hs : sizeI l ≤ 4611686018427387904) (hx : ∀ x ∈ l, x.key.length ≤ 140737488355328 ∧ x.val.length ≤ 140737488355328) (a : AW) (m : Nat) (hm : m ≤ a.next) (hv : RV encI 5 a.heap m v l) (K : Value → AW → Prop) :
    WCall Try.prog GV 41 [v] a K = K (.int .i64 (sizeI l)) a := by
  refine call_eq ?_ K
  rw [call_env Try.func41 rfl Try.ntmps41 rfl rfl (by simp)]
  obtain ⟨pp, c, rfl⟩ := hv.len
  simp -dsimp (maxSteps := 4000000) (disch := first | omega | assumption | (simp only [FB, Nat.reduceAdd]; done) | (simp only [LB]; omega)) only [EB, ↓reduceIte, WB, Nat.reduceSub, Nat.reduceAdd, Int.reduceEq, Int.reduceNe, Int.reduceLT, Int.reduceLE, Int.reduceAdd, Int.reduceSub, Int.reduceMul, Int.reduceNeg, Int.reduceToNat, Nat.reduceEqDiff, Nat.reduceLT, Nat.reduceLeDiff, Nat.reduceMul, List.replicate, reduceCtorEq, TB, NB, ]
  refine loop_inv (fun r t w => ∃ i n h, ∃ e : Nat → Value, r = l.length - i ∧ i ≤ l.length ∧ w = ⟨n, h, a.next, []⟩ ∧ a.next ≤ n ∧ (∀ j, j < a.next → look j h = look j a.heap) ∧ t = TT 22 e ∧ e 2 = .int .i64 (sizeI (l.take i)) ∧ e 5 = .slice pp l.length c ∧ e 6 = .int .i64 l.length ∧ e 7 = .int .i64 i) ⟨0, a.next, a.heap, _, rfl, by omega, rfl, Nat.le_refl _, fun _ _ => rfl, rfl, rfl, rfl, rfl, rfl⟩ ?_
  rintro r t w ⟨i, n, h, e, rfl, hi, rfl, hn1, hh, rfl, t2, t5, t6, t7⟩
  by_cases hlt : i < l.length
  · obtain ⟨b, o, sp, rw0, cc, rfl, hlk, hbn, hle, hat, -⟩ := hv.at encI_len hlt
    have hlk' : look b h = some (.cells cc rw0) := by rw [hh b (by omega)]; exact hlk
    have hst := sizeI_take l i hlt
    have hsl := sizeI_upto l (i + 1)
    have hxi := hx l[i] (List.getElem_mem hlt)
    have h1' := fun a K => size59 l[i] hxi.2 a K
    simp only [encI] at h1'
    have hiz : isz l[i] = 2 + l[i].key.length + vsz l[i] := rfl
    simp -dsimp (maxSteps := 4000000) (disch := first | omega | assumption | (simp only [FB, Nat.reduceAdd]; done) | (simp only [LB]; omega)) only [EB, ↓reduceIte, WB, Nat.reduceSub, Nat.reduceAdd, Int.reduceEq, Int.reduceNe, Int.reduceLT, Int.reduceLE, Int.reduceAdd, Int.reduceSub, Int.reduceMul, Int.reduceNeg, Int.reduceToNat, Nat.reduceEqDiff, Nat.reduceLT, Nat.reduceLeDiff, Nat.reduceMul, List.replicate, reduceCtorEq, TB, NB, t2, t5, t6, t7, show (i : Int) < l.length by omega, hlk', hat, encI]
    refine code_draw [(0, 1), (0, 2), (0, 3), (0, 4), (0, 5), (0, 6), (0, 7), (1, 5), (1, 6), (2, 5), (2, 6), (3, 5), (3, 6), (4, 5), (4, 6)] (by decide +kernel) (by decide +kernel) ?_
    simp -dsimp (maxSteps := 4000000) (disch := first | omega | assumption | (simp only [FB, Nat.reduceAdd]; done) | (simp only [LB]; omega)) only [EB, ↓reduceIte, WB, Nat.reduceSub, Nat.reduceAdd, Int.reduceEq, Int.reduceNe, Int.reduceLT, Int.reduceLE, Int.reduceAdd, Int.reduceSub, Int.reduceMul, Int.reduceNeg, Int.reduceToNat, Nat.reduceEqDiff, Nat.reduceLT, Nat.reduceLeDiff, Nat.reduceMul, List.replicate, reduceCtorEq, RB, Nat.reduceEqDiff, TB, NB, h1', t2, t5, t6, t7, wrap64]
    refine ⟨l.length - (i + 1), by omega, i + 1, n + 2, _, _, rfl, by omega, rfl, by omega, fun j hj => ?_, rfl, ?_⟩
    · rw [look_miss (by omega), hh j hj]
    · simp only [ups_at, ↓reduceIte, Nat.reduceEqDiff]
      refine ⟨?_, t5, t6, (by first | trivial | rfl | omega)⟩
      rw [hst, hiz]; congr 1
  · obtain rfl : i = l.length := by omega
    rw [List.take_length] at t2
    simp -dsimp (maxSteps := 4000000) (disch := first | omega | assumption | (simp only [FB, Nat.reduceAdd]; done) | (simp only [LB]; omega)) only [EB, ↓reduceIte, WB, Nat.reduceSub, Nat.reduceAdd, Int.reduceEq, Int.reduceNe, Int.reduceLT, Int.reduceLE, Int.reduceAdd, Int.reduceSub, Int.reduceMul, Int.reduceNeg, Int.reduceToNat, Nat.reduceEqDiff, Nat.reduceLT, Nat.reduceLeDiff, Nat.reduceMul, List.replicate, reduceCtorEq, TB, NB, t2, t5, t6, t7, show ¬ (l.length : Int) < l.length by omega]
    exact ⟨trivial, trivial⟩
end Go.Proofs.YtijmlgccaicblaaAM
