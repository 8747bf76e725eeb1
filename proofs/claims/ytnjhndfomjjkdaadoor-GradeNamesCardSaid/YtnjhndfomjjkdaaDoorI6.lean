/- Chapter 22: grades of any pages; passes. -/
import Derived.Test.YtnjhndfomjjkdaaDoorI5
namespace Go.Proofs.YtnjhndfomjjkdaaDoorAM
open Go Go.RowKit Ieee
set_option linter.unusedVariables false
set_option linter.unusedSimpArgs false
set_option maxRecDepth 10000
set_option maxHeartbeats 4000000

theorem word_lt (s : Bool) (r : Nat) (h : r ≤ 9218868437227405312) : double.word s r < 18446744073709551616 := by
  rw [word_of]; cases s <;> simp <;> omega
theorem near_lt (s : Bool) (m : Nat) (p : Int) : double.nearest s m p < 18446744073709551616 := by
  by_cases hm : m = 0
  · subst hm
    show (if (0 : Nat) = 0 then double.word s 0 else _) < _
    rw [if_pos rfl]
    exact word_lt s 0 (by omega)
  · rw [nearest_rung s m p hm]
    exact word_lt s _ (Nat.min_le_right ..)
theorem write_lt : ∀ d : Datum, double.write d < 18446744073709551616
  | .number s m p => near_lt s m p
  | .infinity s => word_lt s 9218868437227405312 (Nat.le_refl _)
  | .nan s f => by
    have hbin : double.binade = 4503599627370496 := by decide
    have hinf : double.infRung = 9218868437227405312 := by decide
    show double.word s (double.infRung + f % double.binade) < _
    rw [hbin, hinf, word_of]
    cases s <;> simp <;> omega
theorem sub_lt {u v r : Nat} (h : double.sub u v = some r) : r < 18446744073709551616 := by
  unfold Format.sub at h
  obtain ⟨d, -, rfl⟩ := Option.map_eq_some_iff.1 h
  exact write_lt d
def gtF (v : Value) : Bool := match v with
  | .float .f64 b => double.order b 0 == some .gt
  | _ => false
def bitsF (v : Value) : Nat := match v with
  | .float .f64 b => b
  | _ => 0
theorem bin_gtrF {P : Program} {t : TypeId} {a b : Operand} {x : Value} (hx : isF x) : binA P .gtr t a b x (.float .f64 0) = some (.bool (gtF x)) := by
  rcases hx with rfl | ⟨u, rfl⟩
  · rfl
  · rw [flt_gtr]; rfl
def diffV (N : Nat) (P : Int) : Value := arF double.sub (.float .f64 4607182418800017408) (shareV N P)
def gradeB (N : Nat) (P : Int) : Nat := if N = 0 then 4607182418800017408 else if gtF (diffV N P) then bitsF (diffV N P) else 0
theorem gradeB_lt (N : Nat) (P : Int) : gradeB N P < 18446744073709551616 := by
  unfold gradeB
  split
  · decide
  · split
    · unfold diffV arF shareV
      rcases arF_f double.div (.float .f64 (FloatKind.nearest .f64 N)) (.float .f64 (FloatKind.nearest .f64 P)) with h | ⟨b, h⟩
      · rw [h]; decide
      · rw [h]
        show bitsF (match double.sub 4607182418800017408 b with | some r => Value.float .f64 r | none => nanV) < _
        cases e : double.sub 4607182418800017408 b with
        | none => decide
        | some r => exact sub_lt e
    · decide
theorem encF_kind : ∀ (l : List Find) (i : Nat) (h : i < l.length), (l.flatMap encF)[i * 3]? = some (.int .i64 l[i].kind)
  | x :: l, 0, _ => by simp [encF]
  | x :: l, i + 1, h => by
    rw [List.flatMap_cons, Nat.add_mul, List.getElem?_append_right (by simp [encF])]
    have : i * 3 + 1 * 3 - (encF x).length = i * 3 := by simp [encF]
    rw [this, List.getElem_cons_succ]
    exact encF_kind l i (by simpa using h)
theorem grade15a (v : Value) (l : List Find) (hl : l.length ≤ 1000) (P : Int) (a : AW) (hv : ListV encF a.heap a.next v l) (K) :
    WCall Tryd.prog GV 15 [v, .int .i64 P] a K = K (.float .f64 (gradeB (weightL l) P)) a := by
  refine call_eq ?_ K
  rw [call_env Tryd.func15 rfl Tryd.ntmps15 rfl rfl (by simp)]
  obtain ⟨p, c, rfl⟩ := hv.len
  simp -dsimp (maxSteps := 4000000) (disch := first | omega | assumption | (simp only [FB, Nat.reduceAdd]; done) | (simp only [LB]; omega)) only [EB, ↓reduceIte, WB, Nat.reduceSub, Nat.reduceAdd, Int.reduceEq, Int.reduceNe, Int.reduceLT, Int.reduceLE, Int.reduceAdd, Int.reduceSub, Int.reduceMul, Int.reduceNeg, Int.reduceToNat, Nat.reduceEqDiff, Nat.reduceLT, Nat.reduceLeDiff, Nat.reduceMul, List.replicate, reduceCtorEq, op_len und32 rfl]
  refine loop_inv (fun k t w => ∃ i n : Nat, ∃ h' : List (Nat × Blk), ∃ e, k = l.length - i ∧ i ≤ l.length ∧ a.next ≤ n ∧ (∀ j, j < a.next → look j h' = look j a.heap) ∧ w = ⟨n, h', a.next, []⟩ ∧ t = TT 30 e ∧ e 1 = .int .i64 P ∧ e 9 = .slice p l.length c ∧ e 10 = .int .i64 l.length ∧ e 5 = .int .i64 (weightL (l.take i)) ∧ e 11 = .int .i64 i) ⟨0, a.next, a.heap, _, rfl, by omega, Nat.le_refl _, fun _ _ => rfl, rfl, rfl, rfl, rfl, rfl, rfl, rfl⟩ ?_
  rintro k t w ⟨i, n, h', e, hk, hi, hn, hh, rfl, rfl, e1, e9, e10, e5, e11⟩
  have hN := weightL_le (l.take i)
  rw [List.length_take] at hN
  by_cases hlti : i < l.length
  · obtain ⟨b, sp, cap, rw0, e0, hb, hbn⟩ := hv.at hlti
    cases e0
    have hb' : look b h' = some (.cells (l.flatMap encF) rw0) := by rw [hh b hbn]; exact hb
    have hat := encF_at l i hlti
    have hle : 0 + i * 3 + 3 ≤ (l.flatMap encF).length := by rw [encF_len]; omega
    have hst := weightL_take hlti
    have hw3 := weight_le l[i].kind
    simp -dsimp (maxSteps := 4000000) (disch := first | omega | assumption | (simp only [FB, Nat.reduceAdd]; done) | (simp only [LB]; omega)) only [EB, ↓reduceIte, WB, Nat.reduceSub, Nat.reduceAdd, Int.reduceEq, Int.reduceNe, Int.reduceLT, Int.reduceLE, Int.reduceAdd, Int.reduceSub, Int.reduceMul, Int.reduceNeg, Int.reduceToNat, Nat.reduceEqDiff, Nat.reduceLT, Nat.reduceLeDiff, Nat.reduceMul, List.replicate, reduceCtorEq, e1, e9, e10, e5, e11, show ((i : Int) < l.length) by omega, indexAddr_slice und32 size35, load_agg agg35 size35, store35, store35c, hb', hat, z35, op_fa fo35_0, load_one agg3, weight39, encF, wrap64]
    refine ⟨trivial, l.length - (i + 1), by omega, i + 1, n + 1, _, _, rfl, by omega, by omega, ?_, rfl, rfl, ?_⟩
    · intro j hj; rw [← hh j hj]; exact look_miss (by omega)
    · simp only [ups_at, ↓reduceIte, Nat.reduceEqDiff]
      refine ⟨e1, e9, e10, ?_, (by first | trivial | rfl | omega)⟩
      rw [hst]; congr 1
  · have hi2 : i = l.length := by omega
    subst hi2
    rw [List.take_length] at e5
    have hw := weightL_le l
    by_cases h0 : weightL l = 0
    · have e5' : e 5 = .int .i64 0 := by rw [e5, h0]; rfl
      have hg : gradeB (weightL l) P = 4607182418800017408 := by unfold gradeB; rw [if_pos h0]
      simp -dsimp (maxSteps := 4000000) (disch := first | omega | assumption | (simp only [FB, Nat.reduceAdd]; done) | (simp only [LB]; omega)) only [EB, ↓reduceIte, WB, Nat.reduceSub, Nat.reduceAdd, Int.reduceEq, Int.reduceNe, Int.reduceLT, Int.reduceLE, Int.reduceAdd, Int.reduceSub, Int.reduceMul, Int.reduceNeg, Int.reduceToNat, Nat.reduceEqDiff, Nat.reduceLT, Nat.reduceLeDiff, Nat.reduceMul, List.replicate, reduceCtorEq, e1, e9, e10, e5', e11, eq_self, show ¬ ((l.length : Int) < l.length) by omega]
      rw [hg]
      exact ⟨(by first | trivial | rfl | omega), (by first | trivial | rfl | omega)⟩
    · have hq : ∀ {t : TypeId} {x y : Operand}, binA Tryd.prog .sub t x y (.float .f64 4607182418800017408) (shareV (weightL l) P) = some (diffV (weightL l) P) := bin_subF (.inr ⟨_, rfl⟩) (arF_f _ _ _)
      have hd : isF (diffV (weightL l) P) := arF_f _ _ _
      have hg : gradeB (weightL l) P = if gtF (diffV (weightL l) P) then bitsF (diffV (weightL l) P) else 0 := by unfold gradeB; rw [if_neg h0]
      have hq2 : ∀ {t : TypeId} {x y : Operand}, binA Tryd.prog .gtr t x y (diffV (weightL l) P) (.float .f64 0) = some (.bool (gtF (diffV (weightL l) P))) := bin_gtrF hd
      have s23 := fun a K => share23a (weightL l) P a K
      have hne : ¬ ((weightL l : Int) = 0) := by omega
      rw [hg]
      cases hgt : gtF (diffV (weightL l) P) with
      | true =>
        have hb : diffV (weightL l) P = .float .f64 (bitsF (diffV (weightL l) P)) := by
          rcases hd with h | ⟨b, h⟩
          · rw [h] at hgt; cases hgt
          · rw [h]; rfl
        rw [hgt] at hq2
        generalize hD : diffV (weightL l) P = D at *
        generalize bitsF D = B at *
        subst hb
        simp -dsimp (maxSteps := 4000000) (disch := first | omega | assumption | (simp only [FB, Nat.reduceAdd]; done) | (simp only [LB]; omega)) only [EB, ↓reduceIte, WB, Nat.reduceSub, Nat.reduceAdd, Int.reduceEq, Int.reduceNe, Int.reduceLT, Int.reduceLE, Int.reduceAdd, Int.reduceSub, Int.reduceMul, Int.reduceNeg, Int.reduceToNat, Nat.reduceEqDiff, Nat.reduceLT, Nat.reduceLeDiff, Nat.reduceMul, List.replicate, reduceCtorEq, e1, e9, e10, e5, e11, show ¬ ((l.length : Int) < l.length) by omega, hne, s23, hq, hq2]
        exact ⟨(by first | trivial | rfl | omega), (by first | trivial | rfl | omega)⟩
      | false =>
        rw [hgt] at hq2
        simp -dsimp (maxSteps := 4000000) (disch := first | omega | assumption | (simp only [FB, Nat.reduceAdd]; done) | (simp only [LB]; omega)) only [EB, ↓reduceIte, WB, Nat.reduceSub, Nat.reduceAdd, Int.reduceEq, Int.reduceNe, Int.reduceLT, Int.reduceLE, Int.reduceAdd, Int.reduceSub, Int.reduceMul, Int.reduceNeg, Int.reduceToNat, Nat.reduceEqDiff, Nat.reduceLT, Nat.reduceLeDiff, Nat.reduceMul, List.replicate, reduceCtorEq, e1, e9, e10, e5, e11, show ¬ ((l.length : Int) < l.length) by omega, hne, s23, hq, hq2]
        exact ⟨(by first | trivial | rfl | omega), (by first | trivial | rfl | omega)⟩
theorem share27 (N P : Int) (a : AW) (K) : WCall Tryd.prog GV 27 [.int .i64 N, .int .i64 P] a K = K (shareV N P) a := by
  refine call_eq ?_ K
  rw [call_env Tryd.func27 rfl Tryd.ntmps27 rfl rfl (by simp)]
  have hq : ∀ {t : TypeId} {x y : Operand}, binA Tryd.prog .quo t x y (.float .f64 (FloatKind.nearest .f64 N)) (.float .f64 (FloatKind.nearest .f64 P)) = some (shareV N P) := bin_quoF (.inr ⟨_, rfl⟩) (.inr ⟨_, rfl⟩)
  have hl := fun {bs : Nat} => leave_F (a := a) (bs := bs) (arF_f double.div (.float .f64 (FloatKind.nearest .f64 N)) (.float .f64 (FloatKind.nearest .f64 P)))
  simp -dsimp (maxSteps := 4000000) (disch := first | omega | assumption | (simp only [FB, Nat.reduceAdd]; done) | (simp only [LB]; omega)) only [EB, ↓reduceIte, WB, Nat.reduceSub, Nat.reduceAdd, Int.reduceEq, Int.reduceNe, Int.reduceLT, Int.reduceLE, Int.reduceAdd, Int.reduceSub, Int.reduceMul, Int.reduceNeg, Int.reduceToNat, Nat.reduceEqDiff, Nat.reduceLT, Nat.reduceLeDiff, Nat.reduceMul, List.replicate, reduceCtorEq, op_conv_flt und3 und22, conv_flt und3 und22, hq]
  rw [show shareV N P = arF double.div (.float .f64 (FloatKind.nearest .f64 N)) (.float .f64 (FloatKind.nearest .f64 P)) from rfl, hl]
  exact ⟨rfl, rfl⟩
theorem grade29 (v : Value) (l : List Find) (hl : l.length ≤ 1000) (P : Int) (a : AW) (hv : ListV encF a.heap a.next v l) (K) :
    WCall Tryd.prog GV 29 [v, .int .i64 P] a K = K (.float .f64 (gradeB (weightL l) P)) a := by
  refine call_eq ?_ K
  rw [call_env Tryd.func29 rfl Tryd.ntmps29 rfl rfl (by simp)]
  obtain ⟨p, c, rfl⟩ := hv.len
  simp -dsimp (maxSteps := 4000000) (disch := first | omega | assumption | (simp only [FB, Nat.reduceAdd]; done) | (simp only [LB]; omega)) only [EB, ↓reduceIte, WB, Nat.reduceSub, Nat.reduceAdd, Int.reduceEq, Int.reduceNe, Int.reduceLT, Int.reduceLE, Int.reduceAdd, Int.reduceSub, Int.reduceMul, Int.reduceNeg, Int.reduceToNat, Nat.reduceEqDiff, Nat.reduceLT, Nat.reduceLeDiff, Nat.reduceMul, List.replicate, reduceCtorEq, ]
  refine loop_inv (fun k t w => ∃ i : Nat, ∃ e, k = l.length - i ∧ i ≤ l.length ∧ w = ⟨a.next, a.heap, a.next, []⟩ ∧ t = TT 31 e ∧ e 0 = .slice p l.length c ∧ e 1 = .int .i64 P ∧ e 5 = .int .i64 (weightL (l.take i)) ∧ e 6 = .int .i64 i) ⟨0, _, rfl, by omega, rfl, rfl, rfl, rfl, rfl, rfl⟩ ?_
  rintro k t w ⟨i, e, hk, hi, rfl, rfl, e0, e1, e5, e6⟩
  have hN := weightL_le (l.take i)
  rw [List.length_take] at hN
  by_cases hlti : i < l.length
  · obtain ⟨b, sp, cap, rw0, ev, hb, hbn⟩ := hv.at hlti
    cases ev
    have hat := encF_kind l i hlti
    have hat0 : (l.flatMap encF)[0 + i * 3]? = some (.int .i64 l[i].kind) := by rw [Nat.zero_add]; exact hat
    have hat1 : (l.flatMap encF)[0 + i * 3 + 0]? = some (.int .i64 l[i].kind) := hat0
    have hat2 : (l.flatMap encF)[i * 3 + 0]? = some (.int .i64 l[i].kind) := hat
    have hst := weightL_take hlti
    have hw3 := weight_le l[i].kind
    simp -dsimp (maxSteps := 4000000) (disch := first | omega | assumption | (simp only [FB, Nat.reduceAdd]; done) | (simp only [LB]; omega)) only [EB, ↓reduceIte, WB, Nat.reduceSub, Nat.reduceAdd, Int.reduceEq, Int.reduceNe, Int.reduceLT, Int.reduceLE, Int.reduceAdd, Int.reduceSub, Int.reduceMul, Int.reduceNeg, Int.reduceToNat, Nat.reduceEqDiff, Nat.reduceLT, Nat.reduceLeDiff, Nat.reduceMul, List.replicate, reduceCtorEq, e0, e1, e5, e6, op_len und32 rfl, show ((i : Int) < l.length) by omega, indexAddr_slice und32 size35, op_fa fo35_0, load_one agg3, hb, hat, hat0, hat1, hat2, weight17, wrap64]
    refine ⟨trivial, l.length - (i + 1), by omega, i + 1, _, rfl, by omega, (by first | trivial | rfl | omega), rfl, ?_⟩
    simp only [ups_at, ↓reduceIte, Nat.reduceEqDiff]
    refine ⟨e0, e1, ?_, (by first | trivial | rfl | omega)⟩
    rw [hst]; congr 1
  · have hi2 : i = l.length := by omega
    subst hi2
    rw [List.take_length] at e5
    have hw := weightL_le l
    by_cases h0 : weightL l = 0
    · have e5' : e 5 = .int .i64 0 := by rw [e5, h0]; rfl
      have hg : gradeB (weightL l) P = 4607182418800017408 := by unfold gradeB; rw [if_pos h0]
      simp -dsimp (maxSteps := 4000000) (disch := first | omega | assumption | (simp only [FB, Nat.reduceAdd]; done) | (simp only [LB]; omega)) only [EB, ↓reduceIte, WB, Nat.reduceSub, Nat.reduceAdd, Int.reduceEq, Int.reduceNe, Int.reduceLT, Int.reduceLE, Int.reduceAdd, Int.reduceSub, Int.reduceMul, Int.reduceNeg, Int.reduceToNat, Nat.reduceEqDiff, Nat.reduceLT, Nat.reduceLeDiff, Nat.reduceMul, List.replicate, reduceCtorEq, e0, e1, e5', e6, op_len und32 rfl, eq_self, show ¬ ((l.length : Int) < l.length) by omega]
      rw [hg]
      exact ⟨(by first | trivial | rfl | omega), (by first | trivial | rfl | omega)⟩
    · have hq : ∀ {t : TypeId} {x y : Operand}, binA Tryd.prog .sub t x y (.float .f64 4607182418800017408) (shareV (weightL l) P) = some (diffV (weightL l) P) := bin_subF (.inr ⟨_, rfl⟩) (arF_f _ _ _)
      have hd : isF (diffV (weightL l) P) := arF_f _ _ _
      have hg : gradeB (weightL l) P = if gtF (diffV (weightL l) P) then bitsF (diffV (weightL l) P) else 0 := by unfold gradeB; rw [if_neg h0]
      have hq2 : ∀ {t : TypeId} {x y : Operand}, binA Tryd.prog .gtr t x y (diffV (weightL l) P) (.float .f64 0) = some (.bool (gtF (diffV (weightL l) P))) := bin_gtrF hd
      have s23 := fun a K => share27 (weightL l) P a K
      have hne : ¬ ((weightL l : Int) = 0) := by omega
      rw [hg]
      cases hgt : gtF (diffV (weightL l) P) with
      | true =>
        have hb : diffV (weightL l) P = .float .f64 (bitsF (diffV (weightL l) P)) := by
          rcases hd with h | ⟨b, h⟩
          · rw [h] at hgt; cases hgt
          · rw [h]; rfl
        rw [hgt] at hq2
        generalize hD : diffV (weightL l) P = D at *
        generalize bitsF D = B at *
        subst hb
        simp -dsimp (maxSteps := 4000000) (disch := first | omega | assumption | (simp only [FB, Nat.reduceAdd]; done) | (simp only [LB]; omega)) only [EB, ↓reduceIte, WB, Nat.reduceSub, Nat.reduceAdd, Int.reduceEq, Int.reduceNe, Int.reduceLT, Int.reduceLE, Int.reduceAdd, Int.reduceSub, Int.reduceMul, Int.reduceNeg, Int.reduceToNat, Nat.reduceEqDiff, Nat.reduceLT, Nat.reduceLeDiff, Nat.reduceMul, List.replicate, reduceCtorEq, e0, e1, e5, e6, op_len und32 rfl, show ¬ ((l.length : Int) < l.length) by omega, hne, s23, hq, hq2]
        exact ⟨(by first | trivial | rfl | omega), (by first | trivial | rfl | omega)⟩
      | false =>
        rw [hgt] at hq2
        simp -dsimp (maxSteps := 4000000) (disch := first | omega | assumption | (simp only [FB, Nat.reduceAdd]; done) | (simp only [LB]; omega)) only [EB, ↓reduceIte, WB, Nat.reduceSub, Nat.reduceAdd, Int.reduceEq, Int.reduceNe, Int.reduceLT, Int.reduceLE, Int.reduceAdd, Int.reduceSub, Int.reduceMul, Int.reduceNeg, Int.reduceToNat, Nat.reduceEqDiff, Nat.reduceLT, Nat.reduceLeDiff, Nat.reduceMul, List.replicate, reduceCtorEq, e0, e1, e5, e6, op_len und32 rfl, show ¬ ((l.length : Int) < l.length) by omega, hne, s23, hq, hq2]
        exact ⟨(by first | trivial | rfl | omega), (by first | trivial | rfl | omega)⟩
theorem bar_cases (b : Nat) : barV b = 0 ∨ barV b = 2 := by unfold barV; split <;> simp
def passV (N : Nat) (P : Int) (b : Nat) : Value := .tuple #[.bool (decide (barV b = 0) && decide (0 ≤ cmpZ (placeZ (gradeB N P)) (placeZ b))), .int .i64 (barV b)]
theorem pass20 (v : Value) (l : List Find) (hl : l.length ≤ 1000) (P : Int) (b : Nat) (hb : b < 18446744073709551616) (a : AW) (hv : ListV encF a.heap a.next v l) (K) :
    WCall Tryd.prog GV 20 [v, .int .i64 P, .float .f64 b] a K = K (passV (weightL l) P b) a := by
  refine call_eq ?_ K
  rw [call_env Tryd.func20 rfl Tryd.ntmps20 rfl rfl (by simp)]
  have cb := fun a K => bar18a b hb a K
  have cc := fun a K => compare14 (gradeB (weightL l) P) b (gradeB_lt _ _) hb a K
  have cg := fun K => grade15a v l hl P ⟨a.next, a.heap, a.next, []⟩ hv K
  rcases bar_cases b with h | h
  · rw [h] at cb
    unfold passV
    rw [h]
    simp -dsimp (maxSteps := 4000000) (disch := first | omega | assumption | (simp only [FB, Nat.reduceAdd]; done) | (simp only [LB]; omega)) only [EB, ↓reduceIte, WB, Nat.reduceSub, Nat.reduceAdd, Int.reduceEq, Int.reduceNe, Int.reduceLT, Int.reduceLE, Int.reduceAdd, Int.reduceSub, Int.reduceMul, Int.reduceNeg, Int.reduceToNat, Nat.reduceEqDiff, Nat.reduceLT, Nat.reduceLeDiff, Nat.reduceMul, List.replicate, reduceCtorEq, cb, eq_self, cg, cc, Bool.true_and]
    exact ⟨(by first | trivial | rfl | omega), (by first | trivial | rfl | omega)⟩
  · rw [h] at cb
    unfold passV
    rw [h]
    simp -dsimp (maxSteps := 4000000) (disch := first | omega | assumption | (simp only [FB, Nat.reduceAdd]; done) | (simp only [LB]; omega)) only [EB, ↓reduceIte, WB, Nat.reduceSub, Nat.reduceAdd, Int.reduceEq, Int.reduceNe, Int.reduceLT, Int.reduceLE, Int.reduceAdd, Int.reduceSub, Int.reduceMul, Int.reduceNeg, Int.reduceToNat, Nat.reduceEqDiff, Nat.reduceLT, Nat.reduceLeDiff, Nat.reduceMul, List.replicate, reduceCtorEq, cb, eq_self, Bool.false_and]
    exact ⟨(by first | trivial | rfl | omega), (by first | trivial | rfl | omega)⟩
theorem pass25 (v : Value) (l : List Find) (hl : l.length ≤ 1000) (P : Int) (b : Nat) (hb : b < 18446744073709551616) (a : AW) (hv : ListV encF a.heap a.next v l) (K) :
    WCall Tryd.prog GV 25 [v, .int .i64 P, .float .f64 b] a K = K (passV (weightL l) P b) a := by
  refine call_eq ?_ K
  rw [call_env Tryd.func25 rfl Tryd.ntmps25 rfl rfl (by simp)]
  have cb := fun a K => bar30 b hb a K
  have cc := fun a K => compare28 (gradeB (weightL l) P) b (gradeB_lt _ _) hb a K
  have cg := fun K => grade29 v l hl P ⟨a.next, a.heap, a.next, []⟩ hv K
  rcases bar_cases b with h | h
  · rw [h] at cb
    unfold passV
    rw [h]
    simp -dsimp (maxSteps := 4000000) (disch := first | omega | assumption | (simp only [FB, Nat.reduceAdd]; done) | (simp only [LB]; omega)) only [EB, ↓reduceIte, WB, Nat.reduceSub, Nat.reduceAdd, Int.reduceEq, Int.reduceNe, Int.reduceLT, Int.reduceLE, Int.reduceAdd, Int.reduceSub, Int.reduceMul, Int.reduceNeg, Int.reduceToNat, Nat.reduceEqDiff, Nat.reduceLT, Nat.reduceLeDiff, Nat.reduceMul, List.replicate, reduceCtorEq, cb, eq_self, cg, cc, Bool.true_and]
    exact ⟨(by first | trivial | rfl | omega), (by first | trivial | rfl | omega)⟩
  · rw [h] at cb
    unfold passV
    rw [h]
    simp -dsimp (maxSteps := 4000000) (disch := first | omega | assumption | (simp only [FB, Nat.reduceAdd]; done) | (simp only [LB]; omega)) only [EB, ↓reduceIte, WB, Nat.reduceSub, Nat.reduceAdd, Int.reduceEq, Int.reduceNe, Int.reduceLT, Int.reduceLE, Int.reduceAdd, Int.reduceSub, Int.reduceMul, Int.reduceNeg, Int.reduceToNat, Nat.reduceEqDiff, Nat.reduceLT, Nat.reduceLeDiff, Nat.reduceMul, List.replicate, reduceCtorEq, cb, eq_self, Bool.false_and]
    exact ⟨(by first | trivial | rfl | omega), (by first | trivial | rfl | omega)⟩
theorem nan_geq {P : Program} {t : TypeId} {x y : Operand} {w : Nat} : binA P .geq t x y nanV (.float .f64 w) = some (.bool false) := rfl
theorem bar18n (a : AW) (K) : WCall Tryd.prog GV 18 [nanV] a K = K (.int .i64 2) a := by
  refine call_eq ?_ K
  rw [call_env Tryd.func18 rfl Tryd.ntmps18 rfl rfl (by simp)]
  simp -dsimp (maxSteps := 4000000) (disch := first | omega | assumption | (simp only [FB, Nat.reduceAdd]; done) | (simp only [LB]; omega)) only [EB, ↓reduceIte, WB, Nat.reduceSub, Nat.reduceAdd, Int.reduceEq, Int.reduceNe, Int.reduceLT, Int.reduceLE, Int.reduceAdd, Int.reduceSub, Int.reduceMul, Int.reduceNeg, Int.reduceToNat, Nat.reduceEqDiff, Nat.reduceLT, Nat.reduceLeDiff, Nat.reduceMul, List.replicate, reduceCtorEq, nan_geq]
  exact ⟨(by first | trivial | rfl | omega), (by first | trivial | rfl | omega)⟩
theorem pass20n (v : Value) (P : Int) (a : AW) (K) : WCall Tryd.prog GV 20 [v, .int .i64 P, nanV] a K = K (.tuple #[.bool false, .int .i64 2]) a := by
  refine call_eq ?_ K
  rw [call_env Tryd.func20 rfl Tryd.ntmps20 rfl rfl (by simp)]
  simp -dsimp (maxSteps := 4000000) (disch := first | omega | assumption | (simp only [FB, Nat.reduceAdd]; done) | (simp only [LB]; omega)) only [EB, ↓reduceIte, WB, Nat.reduceSub, Nat.reduceAdd, Int.reduceEq, Int.reduceNe, Int.reduceLT, Int.reduceLE, Int.reduceAdd, Int.reduceSub, Int.reduceMul, Int.reduceNeg, Int.reduceToNat, Nat.reduceEqDiff, Nat.reduceLT, Nat.reduceLeDiff, Nat.reduceMul, List.replicate, reduceCtorEq, bar18n, eq_self]
  exact ⟨(by first | trivial | rfl | omega), (by first | trivial | rfl | omega)⟩
end Go.Proofs.YtnjhndfomjjkdaaDoorAM
