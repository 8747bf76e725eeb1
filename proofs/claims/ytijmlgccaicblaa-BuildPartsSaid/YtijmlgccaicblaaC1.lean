/- Chapter 13: forks, and a branch's page. -/
import Derived.Test.YtijmlgccaicblaaB11
namespace Go.Proofs.YtijmlgccaicblaaAM
open Go Go.RowKit
set_option linter.unusedVariables false
set_option linter.unusedSimpArgs false
set_option maxRecDepth 10000
set_option maxHeartbeats 4000000

/-- A fork. -/
structure Fk where
  key : List UInt8
  child : Int
instance : Inhabited Fk := ⟨⟨[], 0⟩⟩
def encF (x : Fk) : List Value := [.string (mkStr x.key), .int .u32 x.child]
theorem encF_len (b : Fk) : (encF b).length = 2 := rfl
theorem encF_one (b : Fk) : (encF b).all Value.oneCell' = true := rfl
theorem encF_flat (b : Fk) : (encF b).all flat = true := rfl
def fkOk (x : Fk) : Prop := x.key.length ≤ 40 ∧ numOk x.child
instance (x : Fk) : Decidable (fkOk x) := by unfold fkOk; exact inferInstance
def fsz (x : Fk) : Nat := 5 + x.key.length
theorem one48 (x : Fk) (hk : x.key.length ≤ 140737488355328) (a : AW) (K) : WCall Try.prog GV 48 [.agg (encF x).toArray] a K = K (.int .i64 (fsz x)) a := by
  rw [call_env Try.func48 rfl Try.ntmps48 rfl rfl (by simp), encF]
  simp -dsimp (maxSteps := 4000000) (disch := first | omega | assumption | (simp only [FB, Nat.reduceAdd]; done) | (simp only [LB]; omega)) only [EB, ↓reduceIte, WB, Nat.reduceSub, Nat.reduceAdd, Int.reduceEq, Int.reduceNe, Int.reduceLT, Int.reduceLE, Int.reduceAdd, Int.reduceSub, Int.reduceMul, Int.reduceNeg, Int.reduceToNat, Nat.reduceEqDiff, Nat.reduceLT, Nat.reduceLeDiff, Nat.reduceMul, List.replicate, reduceCtorEq, TB, NB, wrap64]
  rw [show (fsz x : Int) = 5 + x.key.length by simp only [fsz]; omega]
def okF (l : List Fk) (j : Nat) : Prop := ∀ h : j < l.length, fkOk l[j] ∧ (∀ h0 : 0 < j, Op.bytesLess (l[j - 1]'(by omega)).key l[j].key = true)
def mayPF (l : List Fk) : Prop := (∀ j, okF l j) ∧ 0 < l.length
noncomputable def mayF (l : List Fk) : Bool := @decide (mayPF l) (Classical.propDecidable _)
theorem mayF_true {l : List Fk} (h : mayPF l) : mayF l = true := by unfold mayF; simp [h]
theorem mayF_false {l : List Fk} (h : ¬ mayPF l) : mayF l = false := by unfold mayF; simp [h]
theorem mayF_of {l : List Fk} (h : mayF l = true) : mayPF l := by
  apply Classical.byContradiction
  intro h'; rw [mayF_false h'] at h; cases h
theorem may61 (v : Value) (l : List Fk) (hl : l.length ≤ 5000000000000) (a : AW) (m : Nat) (hm : m ≤ a.next) (hv : RV encF 2 a.heap m v l) (K : Value → AW → Prop) :
    WCall Try.prog GV 61 [v] a K = K (.bool (mayF l)) a := by
  refine call_eq ?_ K
  rw [call_env Try.func61 rfl Try.ntmps61 rfl rfl (by simp)]
  obtain ⟨pp, c, rfl⟩ := hv.len
  simp -dsimp (maxSteps := 4000000) (disch := first | omega | assumption | (simp only [FB, Nat.reduceAdd]; done) | (simp only [LB]; omega)) only [EB, ↓reduceIte, WB, Nat.reduceSub, Nat.reduceAdd, Int.reduceEq, Int.reduceNe, Int.reduceLT, Int.reduceLE, Int.reduceAdd, Int.reduceSub, Int.reduceMul, Int.reduceNeg, Int.reduceToNat, Nat.reduceEqDiff, Nat.reduceLT, Nat.reduceLeDiff, Nat.reduceMul, List.replicate, reduceCtorEq, TB, NB, ]
  refine loop_inv (fun r t w => ∃ i n h, ∃ e : Nat → Value, r = l.length - i ∧ i ≤ l.length ∧ w = ⟨n, h, a.next, []⟩ ∧ a.next ≤ n ∧ (∀ j, j < a.next → look j h = look j a.heap) ∧ t = TT 41 e ∧ (∀ j, j < i → okF l j) ∧ e 0 = .slice pp l.length c ∧ e 5 = .slice pp l.length c ∧ e 6 = .int .i64 l.length ∧ e 7 = .int .i64 i) ⟨0, a.next, a.heap, _, rfl, by omega, rfl, Nat.le_refl _, fun _ _ => rfl, rfl, fun j hj => absurd hj (by omega), rfl, rfl, rfl, rfl⟩ ?_
  rintro r t w ⟨i, n, h, e, rfl, hi, rfl, hn1, hh, rfl, hok, t0, t5, t6, t7⟩
  by_cases hlt : i < l.length
  · obtain ⟨b, o, sp, rw0, cc, e1, hlk, hbn, hle, hat, hkk⟩ := hv.at encF_len hlt
    subst e1
    have hlk' : look b h = some (.cells cc rw0) := by rw [hh b (by omega)]; exact hlk
    have hbad : ¬ okF l i → mayF l = false := fun h => mayF_false fun hm => h (hm.1 i)
    by_cases h1k : l[i].key.length ≤ 40
    · by_cases h1n : numOk l[i].child
      · have h1 : fkOk l[i] := ⟨h1k, h1n⟩
        by_cases h0 : 0 < i
        · obtain ⟨b2, o2, sp2, rw2, cc2, e2, hlk2, hbn2, hle2, -, hk2⟩ := hv.at encF_len (i := i - 1) (by omega)
          cases e2
          rw [hlk] at hlk2
          cases hlk2
          have hn0 : cc[o + (i - 1) * 2]? = some (.string (mkStr l[i - 1].key)) := by have := hk2 0 (by omega); simpa [encF] using this
          by_cases h2 : Op.bytesLess l[i - 1].key l[i].key = true
          · simp -dsimp (maxSteps := 4000000) (disch := first | omega | assumption | (simp only [FB, Nat.reduceAdd]; done) | (simp only [LB]; omega)) only [EB, ↓reduceIte, WB, Nat.reduceSub, Nat.reduceAdd, Int.reduceEq, Int.reduceNe, Int.reduceLT, Int.reduceLE, Int.reduceAdd, Int.reduceSub, Int.reduceMul, Int.reduceNeg, Int.reduceToNat, Nat.reduceEqDiff, Nat.reduceLT, Nat.reduceLeDiff, Nat.reduceMul, List.replicate, reduceCtorEq, TB, NB, t0, t5, t6, t7, show (i : Int) < l.length by omega, hlk', hat, encF]
            refine code_draw [(14, 15), (14, 16), (14, 20), (14, 21), (15, 20), (15, 21), (16, 20), (16, 21), (17, 20), (17, 21), (18, 20), (18, 21), (19, 20), (19, 21)] (by decide +kernel) (by decide +kernel) ?_
            simp -dsimp (maxSteps := 4000000) (disch := first | omega | assumption | (simp only [FB, Nat.reduceAdd]; done) | (simp only [LB]; omega)) only [EB, ↓reduceIte, WB, Nat.reduceSub, Nat.reduceAdd, Int.reduceEq, Int.reduceNe, Int.reduceLT, Int.reduceLE, Int.reduceAdd, Int.reduceSub, Int.reduceMul, Int.reduceNeg, Int.reduceToNat, Nat.reduceEqDiff, Nat.reduceLT, Nat.reduceLeDiff, Nat.reduceMul, List.replicate, reduceCtorEq, RB, Nat.reduceEqDiff, TB, NB, key67, number62, h1k, h1n, t0, t7, show (0 : Int) < i by omega, wrap64, show ((i : Int) - 1).toNat = i - 1 by omega, hlk', hn0, h2, show b ≠ n by omega]
            refine ⟨l.length - (i + 1), by omega, i + 1, n + 2, _, _, rfl, by omega, rfl, by omega, fun j hj => ?_, rfl, fun j hj => ?_, ?_⟩
            · rw [look_miss (by omega), hh j hj]
            · rcases Nat.lt_or_ge j i with hji | hji
              · exact hok j hji
              · obtain rfl : j = i := by omega
                exact fun _ => ⟨h1, fun _ => h2⟩
            · simp only [ups_at, ↓reduceIte, Nat.reduceEqDiff]; exact ⟨t0, t5, t6, (by first | trivial | rfl | omega)⟩
          · simp -dsimp (maxSteps := 4000000) (disch := first | omega | assumption | (simp only [FB, Nat.reduceAdd]; done) | (simp only [LB]; omega)) only [EB, ↓reduceIte, WB, Nat.reduceSub, Nat.reduceAdd, Int.reduceEq, Int.reduceNe, Int.reduceLT, Int.reduceLE, Int.reduceAdd, Int.reduceSub, Int.reduceMul, Int.reduceNeg, Int.reduceToNat, Nat.reduceEqDiff, Nat.reduceLT, Nat.reduceLeDiff, Nat.reduceMul, List.replicate, reduceCtorEq, TB, NB, t0, t5, t6, t7, show (i : Int) < l.length by omega, hlk', hat, encF]
            refine code_draw [(14, 15), (14, 16), (14, 20), (14, 21), (15, 20), (15, 21), (16, 20), (16, 21), (17, 20), (17, 21), (18, 20), (18, 21), (19, 20), (19, 21)] (by decide +kernel) (by decide +kernel) ?_
            have h2' : Op.bytesLess l[i - 1].key l[i].key = false := by simpa using h2
            simp -dsimp (maxSteps := 4000000) (disch := first | omega | assumption | (simp only [FB, Nat.reduceAdd]; done) | (simp only [LB]; omega)) only [EB, ↓reduceIte, WB, Nat.reduceSub, Nat.reduceAdd, Int.reduceEq, Int.reduceNe, Int.reduceLT, Int.reduceLE, Int.reduceAdd, Int.reduceSub, Int.reduceMul, Int.reduceNeg, Int.reduceToNat, Nat.reduceEqDiff, Nat.reduceLT, Nat.reduceLeDiff, Nat.reduceMul, List.replicate, reduceCtorEq, RB, Nat.reduceEqDiff, TB, NB, key67, number62, h1k, h1n, t0, t7, show (0 : Int) < i by omega, wrap64, show ((i : Int) - 1).toNat = i - 1 by omega, hlk', hn0, h2', show b ≠ n by omega]
            rw [hbad fun h => h2 ((h hlt).2 h0)]
        · simp -dsimp (maxSteps := 4000000) (disch := first | omega | assumption | (simp only [FB, Nat.reduceAdd]; done) | (simp only [LB]; omega)) only [EB, ↓reduceIte, WB, Nat.reduceSub, Nat.reduceAdd, Int.reduceEq, Int.reduceNe, Int.reduceLT, Int.reduceLE, Int.reduceAdd, Int.reduceSub, Int.reduceMul, Int.reduceNeg, Int.reduceToNat, Nat.reduceEqDiff, Nat.reduceLT, Nat.reduceLeDiff, Nat.reduceMul, List.replicate, reduceCtorEq, TB, NB, t0, t5, t6, t7, show (i : Int) < l.length by omega, hlk', hat, encF]
          refine code_draw [(14, 15), (14, 16), (14, 20), (14, 21), (15, 20), (15, 21), (16, 20), (16, 21), (17, 20), (17, 21), (18, 20), (18, 21), (19, 20), (19, 21)] (by decide +kernel) (by decide +kernel) ?_
          simp -dsimp (maxSteps := 4000000) (disch := first | omega | assumption | (simp only [FB, Nat.reduceAdd]; done) | (simp only [LB]; omega)) only [EB, ↓reduceIte, WB, Nat.reduceSub, Nat.reduceAdd, Int.reduceEq, Int.reduceNe, Int.reduceLT, Int.reduceLE, Int.reduceAdd, Int.reduceSub, Int.reduceMul, Int.reduceNeg, Int.reduceToNat, Nat.reduceEqDiff, Nat.reduceLT, Nat.reduceLeDiff, Nat.reduceMul, List.replicate, reduceCtorEq, RB, Nat.reduceEqDiff, TB, NB, key67, number62, h1k, h1n, t0, t7, show ¬ (0 : Int) < i by omega, wrap64, hlk']
          refine ⟨l.length - (i + 1), by omega, i + 1, n + 2, _, _, rfl, by omega, rfl, by omega, fun j hj => ?_, rfl, fun j hj => ?_, ?_⟩
          · rw [look_miss (by omega), hh j hj]
          · obtain rfl : j = i := by omega
            exact fun _ => ⟨h1, fun h0' => absurd h0' h0⟩
          · simp only [ups_at, ↓reduceIte, Nat.reduceEqDiff]; exact ⟨t0, t5, t6, (by first | trivial | rfl | omega)⟩
      · simp -dsimp (maxSteps := 4000000) (disch := first | omega | assumption | (simp only [FB, Nat.reduceAdd]; done) | (simp only [LB]; omega)) only [EB, ↓reduceIte, WB, Nat.reduceSub, Nat.reduceAdd, Int.reduceEq, Int.reduceNe, Int.reduceLT, Int.reduceLE, Int.reduceAdd, Int.reduceSub, Int.reduceMul, Int.reduceNeg, Int.reduceToNat, Nat.reduceEqDiff, Nat.reduceLT, Nat.reduceLeDiff, Nat.reduceMul, List.replicate, reduceCtorEq, TB, NB, t0, t5, t6, t7, show (i : Int) < l.length by omega, hlk', hat, encF]
        refine code_draw [(14, 15), (14, 16), (14, 20), (14, 21), (15, 20), (15, 21), (16, 20), (16, 21), (17, 20), (17, 21), (18, 20), (18, 21), (19, 20), (19, 21)] (by decide +kernel) (by decide +kernel) ?_
        simp -dsimp (maxSteps := 4000000) (disch := first | omega | assumption | (simp only [FB, Nat.reduceAdd]; done) | (simp only [LB]; omega)) only [EB, ↓reduceIte, WB, Nat.reduceSub, Nat.reduceAdd, Int.reduceEq, Int.reduceNe, Int.reduceLT, Int.reduceLE, Int.reduceAdd, Int.reduceSub, Int.reduceMul, Int.reduceNeg, Int.reduceToNat, Nat.reduceEqDiff, Nat.reduceLT, Nat.reduceLeDiff, Nat.reduceMul, List.replicate, reduceCtorEq, RB, Nat.reduceEqDiff, TB, NB, key67, number62, h1k, h1n, t0, t7, wrap64, hlk']
        rw [hbad fun h => h1n (h hlt).1.2]
    · simp -dsimp (maxSteps := 4000000) (disch := first | omega | assumption | (simp only [FB, Nat.reduceAdd]; done) | (simp only [LB]; omega)) only [EB, ↓reduceIte, WB, Nat.reduceSub, Nat.reduceAdd, Int.reduceEq, Int.reduceNe, Int.reduceLT, Int.reduceLE, Int.reduceAdd, Int.reduceSub, Int.reduceMul, Int.reduceNeg, Int.reduceToNat, Nat.reduceEqDiff, Nat.reduceLT, Nat.reduceLeDiff, Nat.reduceMul, List.replicate, reduceCtorEq, TB, NB, t0, t5, t6, t7, show (i : Int) < l.length by omega, hlk', hat, encF]
      refine code_draw [(14, 15), (14, 16), (14, 20), (14, 21), (15, 20), (15, 21), (16, 20), (16, 21), (17, 20), (17, 21), (18, 20), (18, 21), (19, 20), (19, 21)] (by decide +kernel) (by decide +kernel) ?_
      simp -dsimp (maxSteps := 4000000) (disch := first | omega | assumption | (simp only [FB, Nat.reduceAdd]; done) | (simp only [LB]; omega)) only [EB, ↓reduceIte, WB, Nat.reduceSub, Nat.reduceAdd, Int.reduceEq, Int.reduceNe, Int.reduceLT, Int.reduceLE, Int.reduceAdd, Int.reduceSub, Int.reduceMul, Int.reduceNeg, Int.reduceToNat, Nat.reduceEqDiff, Nat.reduceLT, Nat.reduceLeDiff, Nat.reduceMul, List.replicate, reduceCtorEq, RB, Nat.reduceEqDiff, TB, NB, key67, number62, h1k, t0, t7, wrap64, hlk']
      rw [hbad fun h => h1k (h hlt).1.1]
  · obtain rfl : i = l.length := by omega
    have hall : ∀ j, okF l j := fun j hj => hok j hj hj
    by_cases h0 : 0 < l.length
    · simp -dsimp (maxSteps := 4000000) (disch := first | omega | assumption | (simp only [FB, Nat.reduceAdd]; done) | (simp only [LB]; omega)) only [EB, ↓reduceIte, WB, Nat.reduceSub, Nat.reduceAdd, Int.reduceEq, Int.reduceNe, Int.reduceLT, Int.reduceLE, Int.reduceAdd, Int.reduceSub, Int.reduceMul, Int.reduceNeg, Int.reduceToNat, Nat.reduceEqDiff, Nat.reduceLT, Nat.reduceLeDiff, Nat.reduceMul, List.replicate, reduceCtorEq, TB, NB, t0, t5, t6, t7, show ¬ (l.length : Int) < l.length by omega, show (0 : Int) < l.length by omega]
      rw [mayF_true ⟨hall, h0⟩]
      exact ⟨rfl, trivial⟩
    · simp -dsimp (maxSteps := 4000000) (disch := first | omega | assumption | (simp only [FB, Nat.reduceAdd]; done) | (simp only [LB]; omega)) only [EB, ↓reduceIte, WB, Nat.reduceSub, Nat.reduceAdd, Int.reduceEq, Int.reduceNe, Int.reduceLT, Int.reduceLE, Int.reduceAdd, Int.reduceSub, Int.reduceMul, Int.reduceNeg, Int.reduceToNat, Nat.reduceEqDiff, Nat.reduceLT, Nat.reduceLeDiff, Nat.reduceMul, List.replicate, reduceCtorEq, TB, NB, t0, t5, t6, t7, show ¬ (l.length : Int) < l.length by omega, show ¬ (0 : Int) < l.length by omega]
      rw [mayF_false fun h => h0 h.2]
      exact ⟨rfl, trivial⟩
def sizeF (l : List Fk) : Nat := (l.map fsz).sum
theorem sizeF_take (l : List Fk) (i : Nat) (h : i < l.length) : sizeF (l.take (i + 1)) = sizeF (l.take i) + fsz l[i] := by
  unfold sizeF
  rw [List.take_add_one, List.getElem?_eq_getElem h]
  simp only [Option.toList_some, List.map_append, List.map_cons, List.map_nil, List.sum_append, List.sum_cons, List.sum_nil, Nat.add_zero]
theorem sizeF_upto (l : List Fk) (i : Nat) : sizeF (l.take i) ≤ sizeF l := by
  have e : sizeF l = sizeF (l.take i) + sizeF (l.drop i) := by
    unfold sizeF
    rw [← List.sum_append, ← List.map_append, List.take_append_drop]
  omega
theorem size46 (v : Value) (l : List Fk) (hl : l.length ≤ 5000000000000) (hs : sizeF l ≤ 4611686018427387904) (hx : ∀ x ∈ l, x.key.length ≤ 140737488355328) (a : AW) (m : Nat) (hm : m ≤ a.next) (hv : RV encF 2 a.heap m v l) (K : Value → AW → Prop) :
    WCall Try.prog GV 46 [v] a K = K (.int .i64 (sizeF l)) a := by
  refine call_eq ?_ K
  rw [call_env Try.func46 rfl Try.ntmps46 rfl rfl (by simp)]
  obtain ⟨pp, c, rfl⟩ := hv.len
  simp -dsimp (maxSteps := 4000000) (disch := first | omega | assumption | (simp only [FB, Nat.reduceAdd]; done) | (simp only [LB]; omega)) only [EB, ↓reduceIte, WB, Nat.reduceSub, Nat.reduceAdd, Int.reduceEq, Int.reduceNe, Int.reduceLT, Int.reduceLE, Int.reduceAdd, Int.reduceSub, Int.reduceMul, Int.reduceNeg, Int.reduceToNat, Nat.reduceEqDiff, Nat.reduceLT, Nat.reduceLeDiff, Nat.reduceMul, List.replicate, reduceCtorEq, TB, NB, ]
  refine loop_inv (fun r t w => ∃ i n h, ∃ e : Nat → Value, r = l.length - i ∧ i ≤ l.length ∧ w = ⟨n, h, a.next, []⟩ ∧ a.next ≤ n ∧ (∀ j, j < a.next → look j h = look j a.heap) ∧ t = TT 19 e ∧ e 2 = .int .i64 (sizeF (l.take i)) ∧ e 5 = .slice pp l.length c ∧ e 6 = .int .i64 l.length ∧ e 7 = .int .i64 i) ⟨0, a.next, a.heap, _, rfl, by omega, rfl, Nat.le_refl _, fun _ _ => rfl, rfl, rfl, rfl, rfl, rfl⟩ ?_
  rintro r t w ⟨i, n, h, e, rfl, hi, rfl, hn1, hh, rfl, t2, t5, t6, t7⟩
  by_cases hlt : i < l.length
  · obtain ⟨b, o, sp, rw0, cc, rfl, hlk, hbn, hle, hat, -⟩ := hv.at encF_len hlt
    have hlk' : look b h = some (.cells cc rw0) := by rw [hh b (by omega)]; exact hlk
    have hst := sizeF_take l i hlt
    have hsl := sizeF_upto l (i + 1)
    have hxi := hx l[i] (List.getElem_mem hlt)
    have hiz : fsz l[i] = 5 + l[i].key.length := rfl
    simp -dsimp (maxSteps := 4000000) (disch := first | omega | assumption | (simp only [FB, Nat.reduceAdd]; done) | (simp only [LB]; omega)) only [EB, ↓reduceIte, WB, Nat.reduceSub, Nat.reduceAdd, Int.reduceEq, Int.reduceNe, Int.reduceLT, Int.reduceLE, Int.reduceAdd, Int.reduceSub, Int.reduceMul, Int.reduceNeg, Int.reduceToNat, Nat.reduceEqDiff, Nat.reduceLT, Nat.reduceLeDiff, Nat.reduceMul, List.replicate, reduceCtorEq, TB, NB, t2, t5, t6, t7, show (i : Int) < l.length by omega, hlk', hat, encF, wrap64]
    refine ⟨trivial, l.length - (i + 1), by omega, i + 1, n + 1, _, _, rfl, by omega, rfl, by omega, fun j hj => ?_, rfl, ?_⟩
    · rw [look_miss (by omega), hh j hj]
    · simp only [ups_at, ↓reduceIte, Nat.reduceEqDiff]
      refine ⟨?_, t5, t6, (by first | trivial | rfl | omega)⟩
      rw [hst, hiz]; congr 1
  · obtain rfl : i = l.length := by omega
    rw [List.take_length] at t2
    simp -dsimp (maxSteps := 4000000) (disch := first | omega | assumption | (simp only [FB, Nat.reduceAdd]; done) | (simp only [LB]; omega)) only [EB, ↓reduceIte, WB, Nat.reduceSub, Nat.reduceAdd, Int.reduceEq, Int.reduceNe, Int.reduceLT, Int.reduceLE, Int.reduceAdd, Int.reduceSub, Int.reduceMul, Int.reduceNeg, Int.reduceToNat, Nat.reduceEqDiff, Nat.reduceLT, Nat.reduceLeDiff, Nat.reduceMul, List.replicate, reduceCtorEq, TB, NB, t2, t5, t6, t7, show ¬ (l.length : Int) < l.length by omega]
    exact ⟨trivial, trivial⟩
def codeF (x : Fk) : List UInt8 := le x.key.length 1 ++ x.key ++ le x.child.toNat 4
def codeLF (l : List Fk) : List UInt8 := l.flatMap codeF
theorem codeF_len (x : Fk) : (codeF x).length = fsz x := by simp only [codeF, List.length_append, le_len, fsz]; omega
theorem codeLF_len (l : List Fk) : (codeLF l).length = sizeF l := by
  induction l with
  | nil => rfl
  | cons b l ih =>
    have e1 : codeLF (b :: l) = codeF b ++ codeLF l := rfl
    rw [e1, List.length_append, ih, codeF_len]
    simp only [sizeF, List.map_cons, List.sum_cons]
theorem codeLF_take (l : List Fk) (i : Nat) (h : i < l.length) : codeLF (l.take (i + 1)) = codeLF (l.take i) ++ codeF l[i] := by
  unfold codeLF
  rw [List.take_add_one, List.getElem?_eq_getElem h]
  simp only [Option.toList_some, List.flatMap_append, List.flatMap_cons, List.flatMap_nil, List.append_nil]
theorem fkOk_sz {x : Fk} (h : fkOk x) : 5 ≤ fsz x ∧ fsz x ≤ 45 ∧ x.key.length ≤ 40 := by
  obtain ⟨hk, -⟩ := h
  simp only [fsz]; omega
theorem sizeF_bd (l : List Fk) (h : ∀ x ∈ l, fkOk x) : 5 * l.length ≤ sizeF l ∧ sizeF l ≤ l.length * 45 := by
  induction l with
  | nil => simp [sizeF]
  | cons b l ih =>
    have h1 := fkOk_sz (h b (by simp))
    have h2 := ih fun x hx => h x (by simp [hx])
    simp only [sizeF, List.map_cons, List.sum_cons, List.length_cons] at *
    omega
theorem mayPF_ok {l : List Fk} (h : mayPF l) : ∀ x ∈ l, fkOk x := by
  intro x hx
  obtain ⟨i, hi, rfl⟩ := List.mem_iff_getElem.1 hx
  exact (h.1 i hi).1
/-- What a branch's page is. -/
noncomputable def pageF (size n tx : Int) (l : List Fk) : Pg × Int := if mayF l = true ∧ (sizeF l : Int) ≤ room size ∧ numOk n ∧ tx ≤ 4611686018427387904 then (⟨3, l.length, n, 0, tx, zerosTo (codeLF l) (size.toNat - 24)⟩, 0) else (noPage, 2)
theorem page44 (size n tx : Int) (v : Value) (l : List Fk) (hl : l.length ≤ 5000000000000) (a : AW) (m : Nat) (hm : m ≤ a.next) (hv : RV encF 2 a.heap m v l) (K : Value → AW → Prop) :
    WCall Try.prog GV 44 [.int .i64 size, .int .u32 n, .int .u64 tx, v] a K = K (.tuple #[.agg (encP (pageF size n tx l).1).toArray, .int .i64 (pageF size n tx l).2]) a := by
  refine call_eq ?_ K
  rw [call_env Try.func44 rfl Try.ntmps44 rfl rfl (by simp)]
  obtain ⟨pp, c, rfl⟩ := hv.len
  have hv0 : RV encF 2 ((a.next, Blk.cells (encP noPage) true) :: a.heap) m (.slice pp l.length c) l := hv.keep (Nat.le_refl _) fun j hj => look_miss (by omega)
  have hmay := fun K => may61 (.slice pp l.length c) l hl ⟨a.next + 1, (a.next, Blk.cells (encP noPage) true) :: a.heap, a.next, []⟩ m (by simp only; omega) hv0 K
  simp only [encP, noPage] at hmay
  by_cases h1 : mayF l = true
  · have hmp := mayF_of h1
    have hok := mayPF_ok hmp
    have hbd := sizeF_bd l hok
    have hsz := fun K => size46 (.slice pp l.length c) l hl (by omega) (fun x hx => by have := fkOk_sz (hok x hx); omega) ⟨a.next + 1, (a.next, Blk.cells (encP noPage) true) :: a.heap, a.next, []⟩ m (by simp only; omega) hv0 K
    simp only [encP, noPage] at hsz
    by_cases hr : (sizeF l : Int) ≤ room size
    · by_cases h2 : numOk n
      · by_cases h3 : tx ≤ 4611686018427387904
        · have hb : pageF size n tx l = (⟨3, l.length, n, 0, tx, zerosTo (codeLF l) (size.toNat - 24)⟩, 0) := by unfold pageF; rw [if_pos ⟨h1, hr, h2, h3⟩]
          simp -dsimp (maxSteps := 4000000) (disch := first | omega | assumption | (simp only [FB, Nat.reduceAdd]; done) | (simp only [LB]; omega)) only [EB, ↓reduceIte, WB, Nat.reduceSub, Nat.reduceAdd, Int.reduceEq, Int.reduceNe, Int.reduceLT, Int.reduceLE, Int.reduceAdd, Int.reduceSub, Int.reduceMul, Int.reduceNeg, Int.reduceToNat, Nat.reduceEqDiff, Nat.reduceLT, Nat.reduceLeDiff, Nat.reduceMul, List.replicate, reduceCtorEq, TB, NB, hmay, h1, h2, h3, hsz, room40, number62, show ¬ room size < (sizeF l : Int) by omega, show ¬ (4611686018427387904 : Int) < tx by omega]
          have hrl := room_le size
          refine loop_inv (fun r t w => ∃ i n1 h q v, ∃ e : Nat → Value, r = l.length - i ∧ i ≤ l.length ∧ w = ⟨n1, h, a.next, []⟩ ∧ a.next + 1 ≤ n1 ∧ (∀ j, j < a.next → look j h = look j a.heap) ∧ look a.next h = some (.cells (encP noPage) true) ∧ t = TT 68 e ∧ OwnS encU 1 h n1 q v (codeLF (l.take i)) ∧ a.next + 1 ≤ q ∧
            e 0 = .int .i64 size ∧ e 1 = .int .u32 n ∧ e 2 = .int .u64 tx ∧ e 3 = .slice pp l.length c ∧ e 8 = .pointer (some ⟨a.next, 0, none⟩) ∧ e 10 = v ∧ e 35 = .slice pp l.length c ∧ e 36 = .int .i64 l.length ∧ e 37 = .int .i64 i)
            ⟨0, a.next + 1, _, a.next + 1, _, _, rfl, by omega, rfl, Nat.le_refl _, fun j hj => look_miss (by omega), look_self, rfl, OwnS.nil, Nat.le_refl _, rfl, rfl, rfl, rfl, rfl, rfl, rfl, rfl, rfl⟩ ?_
          rintro r t w ⟨i, n1, h, q, vb, e, rfl, hi, rfl, hn1, hh, hpg, rfl, ho, hq, t0, t1, t2, t3, t8, t10, t35, t36, t37⟩
          have hcl : (codeLF (l.take i)).length ≤ 4096 := by rw [codeLF_len]; have := sizeF_upto l i; omega
          by_cases hlt : i < l.length
          · obtain ⟨b, o, sp, rw0, cc, rfl, hlk, hbn, hle, hat, -⟩ := hv.at encF_len hlt
            have hlk' : look b h = some (.cells cc rw0) := by rw [hh b (by omega)]; exact hlk
            have hio := hok _ (List.getElem_mem hlt)
            obtain ⟨X, hX⟩ : ∃ X, X = l[i] := ⟨_, rfl⟩
            have hcd : codeLF (l.take (i + 1)) = codeLF (l.take i) ++ le X.key.length 1 ++ X.key ++ le X.child.toNat 4 := by
              rw [codeLF_take l i hlt, codeF, ← hX]
              simp only [List.append_assoc]
            rw [← hX] at hat hio
            obtain ⟨hk1, hk2, hk3⟩ := hio
            obtain ⟨key, child⟩ := X
            obtain ⟨R, rfl⟩ : ∃ R : Nat, child = R := ⟨child.toNat, by simp only at hk2; omega⟩
            simp only [Int.toNat_natCast] at hk1 hk2 hk3 hcd
            simp -dsimp (maxSteps := 4000000) (disch := first | omega | assumption | (simp only [FB, Nat.reduceAdd]; done) | (simp only [LB]; omega)) only [EB, ↓reduceIte, WB, Nat.reduceSub, Nat.reduceAdd, Int.reduceEq, Int.reduceNe, Int.reduceLT, Int.reduceLE, Int.reduceAdd, Int.reduceSub, Int.reduceMul, Int.reduceNeg, Int.reduceToNat, Nat.reduceEqDiff, Nat.reduceLT, Nat.reduceLeDiff, Nat.reduceMul, List.replicate, reduceCtorEq, TB, NB, t0, t1, t2, t3, t8, t10, t35, t36, t37, show (i : Int) < l.length by omega, hlk', hat, encF]
            refine code_draw [(0, 1), (0, 2), (0, 3), (0, 4), (0, 6), (0, 7), (1, 6), (1, 7), (2, 6), (2, 7), (3, 6), (3, 7), (4, 6), (4, 7), (5, 6), (5, 7)] (by decide +kernel) (by decide +kernel) ?_
            simp -dsimp (maxSteps := 4000000) (disch := first | omega | assumption | (simp only [FB, Nat.reduceAdd]; done) | (simp only [LB]; omega)) only [EB, ↓reduceIte, WB, Nat.reduceSub, Nat.reduceAdd, Int.reduceEq, Int.reduceNe, Int.reduceLT, Int.reduceLE, Int.reduceAdd, Int.reduceSub, Int.reduceMul, Int.reduceNeg, Int.reduceToNat, Nat.reduceEqDiff, Nat.reduceLT, Nat.reduceLeDiff, Nat.reduceMul, List.replicate, reduceCtorEq, RB, Nat.reduceEqDiff, TB, NB, t0, t1, t2, t3, t8, t10, t35, t36, t37, wrapu64]
            refine put56 vb (codeLF (l.take i)) key.length 1 (by omega) (by omega) (by omega) ⟨n1 + 2, _, n1 + 2, []⟩ n1 (by simp only; omega) (ho.rv.keep (Nat.le_refl _) fun j hj => look_miss (by omega)) _ fun v1 n2 h2 y1 y2 y3 y4 => ?_
            simp only at y1 y2 y3 y4
            have hb1 : look n1 h2 = some (.cells [.string (mkStr key), .int .u32 (R : Int)] true) := by rw [y4 n1 (by omega)]; exact look_self
            obtain ⟨v3, q3, n3, h3, d3, e3, o3, f1, f2, f3, f4, f5⟩ := append_str (E := Try.prog) (t0 := 104) (t1 := 9) (bs := n2) (d := []) (ys := key) (by decide +kernel) y3 (by rw [List.length_append, le_len]; omega)
            have hd3 : soilAll [] a.next d3 = [] := soil_back f5 (by omega)
            have hb3 : look n1 h3 = some (.cells [.string (mkStr key), .int .u32 (R : Int)] true) := by rw [f4 n1 (by omega) (by omega)]; exact hb1
            simp -dsimp (maxSteps := 4000000) (disch := first | omega | assumption | (simp only [FB, Nat.reduceAdd]; done) | (simp only [LB]; omega)) only [EB, ↓reduceIte, WB, Nat.reduceSub, Nat.reduceAdd, Int.reduceEq, Int.reduceNe, Int.reduceLT, Int.reduceLE, Int.reduceAdd, Int.reduceSub, Int.reduceMul, Int.reduceNeg, Int.reduceToNat, Nat.reduceEqDiff, Nat.reduceLT, Nat.reduceLeDiff, Nat.reduceMul, List.replicate, reduceCtorEq, RB, Nat.reduceEqDiff, TB, NB, hb1, e3, hd3, hb3, wrapu64]
            refine put56 v3 _ R 4 (by omega) (by omega) (by simp only [List.length_append, le_len]; omega) ⟨n3, h3, a.next, []⟩ n3 (by simp only; omega) o3.rv _ fun v4 n4 h4 z1 z2 z3 z4 => ?_
            simp only at z1 z2 z3 z4
            simp -dsimp (maxSteps := 4000000) (disch := first | omega | assumption | (simp only [FB, Nat.reduceAdd]; done) | (simp only [LB]; omega)) only [EB, ↓reduceIte, WB, Nat.reduceSub, Nat.reduceAdd, Int.reduceEq, Int.reduceNe, Int.reduceLT, Int.reduceLE, Int.reduceAdd, Int.reduceSub, Int.reduceMul, Int.reduceNeg, Int.reduceToNat, Nat.reduceEqDiff, Nat.reduceLT, Nat.reduceLeDiff, Nat.reduceMul, List.replicate, reduceCtorEq, TB, NB, t37, wrap64]
            refine ⟨trivial, l.length - (i + 1), by omega, i + 1, n4, h4, n3, v4, _, rfl, by omega, rfl, by omega, fun j hj => ?_, ?_, rfl, by rw [hcd]; exact z3, by omega, ?_⟩
            · rw [z4 j (by omega), f4 j (by omega) (by omega), y4 j (by omega), look_miss (by omega), hh j hj]
            · rw [z4 _ (by omega), f4 _ (by omega) (by omega), y4 _ (by omega), look_miss (by omega), hpg]
            · simp only [ups_at, ↓reduceIte, Nat.reduceEqDiff]
              exact ⟨t0, t1, t2, t3, t8, trivial, t35, t36, (by first | trivial | rfl | omega)⟩
          · obtain rfl : i = l.length := by omega
            rw [List.take_length] at ho hcl
            have hgs : goodSz size := by
              apply Classical.byContradiction
              intro hg
              have : room size = 0 := by unfold room; rw [if_neg hg]
              have := hmp.2
              omega
            have hrs : room size = size - 24 := by unfold room; rw [if_pos hgs]
            have hbdy : bodyOf size (codeLF l) = (zerosTo (codeLF l) (size.toNat - 24), 0) := by
              unfold bodyOf
              rw [if_pos hgs, if_pos (by rw [codeLF_len]; omega)]
            have hbody := fun K => body58 size vb (codeLF l) (by omega) ⟨n1, h, a.next, []⟩ n1 (Nat.le_refl _) ho.rv K
            simp only [hbdy] at hbody
            simp -dsimp (maxSteps := 4000000) (disch := first | omega | assumption | (simp only [FB, Nat.reduceAdd]; done) | (simp only [LB]; omega)) only [EB, ↓reduceIte, WB, Nat.reduceSub, Nat.reduceAdd, Int.reduceEq, Int.reduceNe, Int.reduceLT, Int.reduceLE, Int.reduceAdd, Int.reduceSub, Int.reduceMul, Int.reduceNeg, Int.reduceToNat, Nat.reduceEqDiff, Nat.reduceLT, Nat.reduceLeDiff, Nat.reduceMul, List.replicate, reduceCtorEq, TB, NB, t0, t1, t2, t3, t8, t10, t35, t36, t37, show ¬ (l.length : Int) < l.length by omega, hbody, hpg, encP, noPage, hb]
            exact ⟨(by first | trivial | rfl | omega), (by first | trivial | rfl | omega)⟩
        · have hb : pageF size n tx l = (noPage, 2) := by unfold pageF; rw [if_neg fun h => h3 h.2.2.2]
          simp -dsimp (maxSteps := 4000000) (disch := first | omega | assumption | (simp only [FB, Nat.reduceAdd]; done) | (simp only [LB]; omega)) only [EB, ↓reduceIte, WB, Nat.reduceSub, Nat.reduceAdd, Int.reduceEq, Int.reduceNe, Int.reduceLT, Int.reduceLE, Int.reduceAdd, Int.reduceSub, Int.reduceMul, Int.reduceNeg, Int.reduceToNat, Nat.reduceEqDiff, Nat.reduceLT, Nat.reduceLeDiff, Nat.reduceMul, List.replicate, reduceCtorEq, TB, NB, hmay, h1, h2, h3, hsz, room40, number62, show ¬ room size < (sizeF l : Int) by omega, show (4611686018427387904 : Int) < tx by omega, hb, encP, noPage]
          exact ⟨(by first | trivial | rfl | omega), (by first | trivial | rfl | omega)⟩
      · have hb : pageF size n tx l = (noPage, 2) := by unfold pageF; rw [if_neg fun h => h2 h.2.2.1]
        simp -dsimp (maxSteps := 4000000) (disch := first | omega | assumption | (simp only [FB, Nat.reduceAdd]; done) | (simp only [LB]; omega)) only [EB, ↓reduceIte, WB, Nat.reduceSub, Nat.reduceAdd, Int.reduceEq, Int.reduceNe, Int.reduceLT, Int.reduceLE, Int.reduceAdd, Int.reduceSub, Int.reduceMul, Int.reduceNeg, Int.reduceToNat, Nat.reduceEqDiff, Nat.reduceLT, Nat.reduceLeDiff, Nat.reduceMul, List.replicate, reduceCtorEq, TB, NB, hmay, h1, h2, hsz, room40, number62, show ¬ room size < (sizeF l : Int) by omega, hb, encP, noPage]
        exact ⟨(by first | trivial | rfl | omega), (by first | trivial | rfl | omega)⟩
    · have hb : pageF size n tx l = (noPage, 2) := by unfold pageF; rw [if_neg fun h => hr h.2.1]
      simp -dsimp (maxSteps := 4000000) (disch := first | omega | assumption | (simp only [FB, Nat.reduceAdd]; done) | (simp only [LB]; omega)) only [EB, ↓reduceIte, WB, Nat.reduceSub, Nat.reduceAdd, Int.reduceEq, Int.reduceNe, Int.reduceLT, Int.reduceLE, Int.reduceAdd, Int.reduceSub, Int.reduceMul, Int.reduceNeg, Int.reduceToNat, Nat.reduceEqDiff, Nat.reduceLT, Nat.reduceLeDiff, Nat.reduceMul, List.replicate, reduceCtorEq, TB, NB, hmay, h1, hsz, room40, show room size < (sizeF l : Int) by omega, hb, encP, noPage]
      exact ⟨(by first | trivial | rfl | omega), (by first | trivial | rfl | omega)⟩
  · have hb : pageF size n tx l = (noPage, 2) := by unfold pageF; rw [if_neg fun h => h1 h.1]
    have h1' : mayF l = false := by simpa using h1
    simp -dsimp (maxSteps := 4000000) (disch := first | omega | assumption | (simp only [FB, Nat.reduceAdd]; done) | (simp only [LB]; omega)) only [EB, ↓reduceIte, WB, Nat.reduceSub, Nat.reduceAdd, Int.reduceEq, Int.reduceNe, Int.reduceLT, Int.reduceLE, Int.reduceAdd, Int.reduceSub, Int.reduceMul, Int.reduceNeg, Int.reduceToNat, Nat.reduceEqDiff, Nat.reduceLT, Nat.reduceLeDiff, Nat.reduceMul, List.replicate, reduceCtorEq, TB, NB, hmay, h1', hb, encP, noPage]
    exact ⟨(by first | trivial | rfl | omega), (by first | trivial | rfl | omega)⟩
end Go.Proofs.YtijmlgccaicblaaAM
