/- Chapter 22: GradeNames answers true. -/
import Derived.Test.YtnjhndfomjjkdaaDoorI9
namespace Go.Proofs.YtnjhndfomjjkdaaDoorAM
open Go Go.RowKit Ieee
set_option linter.unusedVariables false
set_option linter.unusedSimpArgs false
set_option maxRecDepth 10000
set_option maxHeartbeats 8000000

theorem nan_big {b : Nat} (hb : b < 18446744073709551616) (h : double.order b b = none) : barV b = 2 ∧ placeZ b ≠ placeZ 9218868437227405312 := by
  have hbig : ¬ b ≤ 9218868437227405312 := by
    intro hle
    obtain ⟨s, r, hr, eu, -, cu⟩ := read_cases b hb
    unfold Format.order at h
    rcases cu with ⟨-, m, p, k, e1, -, -⟩ | ⟨-, e1⟩ | ⟨f, e1⟩
    · rw [e1] at h; simp [Datum.order] at h
    · rw [e1] at h; simp [Datum.order] at h
    · have hw : double.signWeight = 9223372036854775808 := by decide
      have hbin : double.binade = 4503599627370496 := by decide
      have hinf : double.infRung = 9218868437227405312 := by decide
      unfold Format.read at e1
      simp only [hw, hbin, hinf] at e1
      rw [Nat.mod_eq_of_lt (by omega : b < 9223372036854775808)] at e1
      split at e1
      · cases e1
      · split at e1
        · cases e1
        · split at e1
          · cases e1
          · omega
  refine ⟨?_, ?_⟩
  · unfold barV; rw [if_neg (by omega)]
  · have h1 : placeZ 9218868437227405312 = 9218868437227405312 := by unfold placeZ; rw [if_pos (by omega)]; rfl
    rw [h1]; unfold placeZ; split <;> omega
theorem csim_step {P : Program} {G : Gives} {f : FuncId} {x y : Code} {t : List Value} {a : AW} {Q : ExitA → List Value → AW → Prop} (hm : P.follows .mixedOrders = true) (hn : plainNames P = true) (hG : G.Sound P) (hb : a.base ≤ a.next) (R : List Value → AW → Prop)
    (h : WCode P G f none x t [] a fun e t' ds' a' => ds' = [] ∧ e = .normal ∧ R t' a') (h2 : ∀ t' a', R t' a' → CSim P f y t' a' Q) : CSim P f (.seq x y) t a Q := by
  refine csim_seq (csim_W hm hn hG hb ?_)
  exact code_weaken h fun e t ds a ⟨h1, h3, h4⟩ => ⟨h1, h3, h2 _ _ h4⟩
theorem nought22 (a : AW) (K) : WCall Tryd.prog GV 22 [] a K = K (.float .f64 0) a := by
  refine call_eq ?_ K
  rw [call_env Tryd.func22 rfl Tryd.ntmps22 rfl rfl (by simp)]
  have hp := fun a K => pick10 0 3 (by decide) (by decide) a K
  have h0 : pickN 0 3 = 0 := by decide
  rw [h0] at hp
  have hz : FloatKind.nearest .f64 0 = 0 := by decide +kernel
  simp -dsimp (maxSteps := 4000000) (disch := first | omega | assumption | (simp only [FB, Nat.reduceAdd]; done) | (simp only [LB]; omega)) only [EB, ↓reduceIte, WB, Nat.reduceSub, Nat.reduceAdd, Int.reduceEq, Int.reduceNe, Int.reduceLT, Int.reduceLE, Int.reduceAdd, Int.reduceSub, Int.reduceMul, Int.reduceNeg, Int.reduceToNat, Nat.reduceEqDiff, Nat.reduceLT, Nat.reduceLeDiff, Nat.reduceMul, List.replicate, reduceCtorEq, hp, op_conv_flt und3 und22, conv_flt und3 und22, hz]
  exact ⟨(by first | trivial | rfl | omega), (by first | trivial | rfl | omega)⟩
theorem quo_nan : ∀ {t : TypeId} {x y : Operand}, binA Tryd.prog .quo t x y (.float .f64 0) (.float .f64 0) = some nanV := by
  intro t x y
  rw [bin_quoF (.inr ⟨_, rfl⟩) (.inr ⟨_, rfl⟩)]
  have : double.div 0 0 = none := by decide +kernel
  simp only [arF, this]
theorem quo_inf : FloatKind.f64.format.div 4607182418800017408 0 = some 9218868437227405312 := by decide +kernel
theorem quo_minus : FloatKind.f64.format.div 13830554455654793216 9218868437227405312 = some 9223372036854775808 := by decide +kernel
theorem sl32' : slOk Tryd.prog 32 3 = true := sl32
theorem build3 {a : AW} {x0 x1 x2 y0 y1 y2 z0 z1 z2 : Int} : buildSl Tryd.prog 32 3 [(0, .agg #[.int .i64 x0, .int .u32 x1, .int .u32 x2]), (1, .agg #[.int .i64 y0, .int .u32 y1, .int .u32 y2]), (2, .agg #[.int .i64 z0, .int .u32 z1, .int .u32 z2])] a = some (.slice (some ⟨a.next, 0, some 0⟩) 3 3, a.new (.cells [.int .i64 x0, .int .u32 x1, .int .u32 x2, .int .i64 y0, .int .u32 y1, .int .u32 y2, .int .i64 z0, .int .u32 z1, .int .u32 z2] true)) :=
  buildSl_seq (len := 3) sl32 (vs := [.agg #[.int .i64 x0, .int .u32 x1, .int .u32 x2], .agg #[.int .i64 y0, .int .u32 y1, .int .u32 y2], .agg #[.int .i64 z0, .int .u32 z1, .int .u32 z2]]) (by intro v hv; simp at hv; rcases hv with rfl | rfl | rfl <;> rfl) rfl (by decide) (by decide) rfl
theorem build3f {a : AW} {x y z : Nat} : buildSl Tryd.prog 42 3 [(0, .float .f64 x), (1, .float .f64 y), (2, .float .f64 z)] a = some (.slice (some ⟨a.next, 0, some 0⟩) 3 3, a.new (.cells [.float .f64 x, .float .f64 y, .float .f64 z] true)) :=
  buildSl_seq (len := 3) sl42 (vs := [.float .f64 x, .float .f64 y, .float .f64 z]) (by intro v hv; simp at hv; rcases hv with rfl | rfl | rfl <;> rfl) rfl (by decide) (by decide) rfl
def many : List Find := [⟨1, 0, 0⟩, ⟨1, 0, 0⟩, ⟨2, 0, 0⟩]
theorem TT_at {N i : Nat} {e : Nat → Value} (h : i < N) : (TT N e)[i]? = some (e i) := by
  unfold TT; rw [List.getElem?_map, List.getElem?_range h]; rfl
theorem TT_set {N i : Nat} {e : Nat → Value} {v : Value} : (TT N e).set i v = TT N (ups e i v) := putV_TT
theorem f_pass1 : passV (weightL many) 100 4606371770867090719 = .tuple #[.bool true, .int .i64 0] := by
  have h : (decide (barV 4606371770867090719 = 0) && decide (0 ≤ cmpZ (placeZ (gradeB (weightL many) 100)) (placeZ 4606371770867090719))) = true := by decide +kernel
  have h2 : barV 4606371770867090719 = 0 := by decide
  unfold passV; rw [h, h2]
theorem f_pass2 : passV (weightL many) 100 4606461842859638129 = .tuple #[.bool false, .int .i64 0] := by
  have h : (decide (barV 4606461842859638129 = 0) && decide (0 ≤ cmpZ (placeZ (gradeB (weightL many) 100)) (placeZ 4606461842859638129))) = false := by decide +kernel
  have h2 : barV 4606461842859638129 = 0 := by decide
  unfold passV; rw [h, h2]
theorem f_pass3 {b : Nat} (h : barV b = 2) : passV (weightL []) 0 b = .tuple #[.bool false, .int .i64 2] := by
  unfold passV; rw [h]; rfl
theorem f_share14 : shareV 1 4 = .float .f64 4598175219545276416 := by kernel_rfl
theorem f_share00 : shareV 0 0 = nanV := by kernel_rfl
theorem f_share10 : shareV 1 0 = .float .f64 9218868437227405312 := by kernel_rfl
theorem f_fill : shareV 52 (IntKind.wrap .i64 (128 - 24)) = .float .f64 4602678819172646912 := by kernel_rfl
theorem f_mean : meanV [4607182418800017408, 4611686018427387904, 4618441417868443648] = .float .f64 4613937818241073152 := by kernel_rfl
theorem f_grade0 : gradeB (weightL []) 0 = 4607182418800017408 := by decide +kernel
theorem f_grade1 : gradeB (weightL many) 0 = 0 := by decide +kernel
theorem f_grade3 : gradeB (weightL many) 3 = 0 := by decide +kernel
theorem f_cmp : cmpZ (placeZ 9223372036854775808) (placeZ 0) = -1 := by decide +kernel
theorem f_least : leastI [0, 9223372036854775808, 4617315517961601024] 3 = 1 := by decide +kernel
theorem f_text (b n : Nat) (hb : b < 18446744073709551616) (hn : isNum b) (h : levN (pos b) = n) (a : AW) (K) : WCall Tryd.prog GV 11 [.float .f64 b] a K = K (.string (mkStr (textL n))) a := by
  rw [text11 b hb hn, h]
theorem f_lev1 : levN (pos 4562254508917369340) = 1 := by decide +kernel
theorem f_lev2 : levN (pos 4607173411600762667) = 100 := by decide +kernel
theorem app_cons' {α : Type} {x : α} {l k : List α} : List.append (x :: l) k = x :: List.append l k := rfl
theorem bld35a : buildA Tryd.prog 35 [(0, .int .i64 1)] = some (.agg #[.int .i64 1, .int .u32 0, .int .u32 0]) := by kernel_rfl
theorem bld35b : buildA Tryd.prog 35 [(0, .int .i64 2)] = some (.agg #[.int .i64 2, .int .u32 0, .int .u32 0]) := by kernel_rfl
theorem calls7 (w : World) : Calls Tryd.prog 7 #[] w fun e w' => e = .returned (.bool true) ∧ Below w.heap.size w w' := by
  have hG : GV.Sound Tryd.prog := memo_sound plain known_all
  refine csim_calls plain Tryd.func7 rfl Tryd.ntmps7 (Q := fun e t a' => e = .ret ∧ ∃ x, t = TT 173 x ∧ x 0 = .bool true) ?_ ?_ w
  · have hT : List.replicate 173 undef = TT 173 (ea []) := by
      have := args_TT (args := []) (m := 173) (by simp)
      simpa using this
    rw [hT]
    refine csim_step mixed plain hG (Nat.le_refl 0) (fun t a => a = empty ∧ ∃ e, t = TT 173 e) ?_ ?_
    · simp -dsimp (maxSteps := 4000000) (disch := first | omega | assumption | (simp only [FB, Nat.reduceAdd]; done) | (simp only [LB]; omega)) only [EB, ↓reduceIte, WB, Nat.reduceSub, Nat.reduceAdd, Int.reduceEq, Int.reduceNe, Int.reduceLT, Int.reduceLE, Int.reduceAdd, Int.reduceSub, Int.reduceMul, Int.reduceNeg, Int.reduceToNat, Nat.reduceEqDiff, Nat.reduceLT, Nat.reduceLeDiff, Nat.reduceMul, List.replicate, reduceCtorEq, ]
      exact ⟨trivial, trivial, trivial, _, rfl⟩
    rintro _ _ ⟨rfl, e, rfl⟩
    refine csim_step mixed plain hG (Nat.le_refl 0) (fun t a => a = empty ∧ ∃ e, t = TT 173 e) ?_ ?_
    · simp -dsimp (maxSteps := 4000000) (disch := first | omega | assumption | (simp only [FB, Nat.reduceAdd]; done) | (simp only [LB]; omega)) only [EB, ↓reduceIte, WB, Nat.reduceSub, Nat.reduceAdd, Int.reduceEq, Int.reduceNe, Int.reduceLT, Int.reduceLE, Int.reduceAdd, Int.reduceSub, Int.reduceMul, Int.reduceNeg, Int.reduceToNat, Nat.reduceEqDiff, Nat.reduceLT, Nat.reduceLeDiff, Nat.reduceMul, List.replicate, reduceCtorEq, lives9]
      exact ⟨trivial, trivial, trivial, _, rfl⟩
    clear e
    rintro _ _ ⟨rfl, e, rfl⟩
    refine csim_step mixed plain hG (Nat.le_refl 0) (fun t a => a = empty ∧ ∃ e, t = TT 173 e ∧ e 1 = .float .f64 9218868437227405312 ∧ e 2 = nanV ∧ e 3 = .float .f64 9223372036854775808) ?_ ?_
    · simp -dsimp (maxSteps := 4000000) (disch := first | omega | assumption | (simp only [FB, Nat.reduceAdd]; done) | (simp only [LB]; omega)) only [EB, ↓reduceIte, WB, Nat.reduceSub, Nat.reduceAdd, Int.reduceEq, Int.reduceNe, Int.reduceLT, Int.reduceLE, Int.reduceAdd, Int.reduceSub, Int.reduceMul, Int.reduceNeg, Int.reduceToNat, Nat.reduceEqDiff, Nat.reduceLT, Nat.reduceLeDiff, Nat.reduceMul, List.replicate, reduceCtorEq, nought22, quo_nan, flt_quo quo_inf, flt_quo quo_minus]
      exact ⟨trivial, trivial, trivial, _, rfl, rfl, rfl, rfl⟩
    clear e
    rintro _ _ ⟨rfl, e, rfl, e1, e2, e3⟩
    refine csim_nan (i := 2) (by rw [TT_at (by decide), e2]) fun b hb0 hb => ?_
    rw [TT_set]
    obtain ⟨nb1, nb2⟩ := nan_big hb hb0
    have hf : FloatKind.f64.format = double := rfl
    have m1 : ListV encF [(0, Blk.cells [.int .i64 1, .int .u32 0, .int .u32 0, .int .i64 1, .int .u32 0, .int .u32 0, .int .i64 2, .int .u32 0, .int .u32 0] true)] 1 (.slice (some ⟨0, 0, some 0⟩) 3 3) many := .inr ⟨0, some 0, 3, true, rfl, rfl, by decide⟩
    have m2 : ListV encF [(1, Blk.cells [.float .f64 4607182418800017408, .float .f64 4611686018427387904, .float .f64 4618441417868443648] true), (0, Blk.cells [.int .i64 1, .int .u32 0, .int .u32 0, .int .i64 1, .int .u32 0, .int .u32 0, .int .i64 2, .int .u32 0, .int .u32 0] true)] 2 (.slice (some ⟨0, 0, some 0⟩) 3 3) many := .inr ⟨0, some 0, 3, true, rfl, rfl, by decide⟩
    have m3 : ListV encB [(1, Blk.cells [.float .f64 4607182418800017408, .float .f64 4611686018427387904, .float .f64 4618441417868443648] true), (0, Blk.cells [.int .i64 1, .int .u32 0, .int .u32 0, .int .i64 1, .int .u32 0, .int .u32 0, .int .i64 2, .int .u32 0, .int .u32 0] true)] 2 (.slice (some ⟨1, 0, some 0⟩) 3 3) [4607182418800017408, 4611686018427387904, 4618441417868443648] := .inr ⟨1, some 0, 3, true, rfl, rfl, by decide⟩
    have m4 : ListV encB [(2, Blk.cells [.float .f64 0, .float .f64 9223372036854775808, .float .f64 4617315517961601024] true), (1, Blk.cells [.float .f64 4607182418800017408, .float .f64 4611686018427387904, .float .f64 4618441417868443648] true), (0, Blk.cells [.int .i64 1, .int .u32 0, .int .u32 0, .int .i64 1, .int .u32 0, .int .u32 0, .int .i64 2, .int .u32 0, .int .u32 0] true)] 3 (.slice (some ⟨2, 0, some 0⟩) 3 3) [0, 9223372036854775808, 4617315517961601024] := .inr ⟨2, some 0, 3, true, rfl, rfl, by decide⟩
    have mn : ∀ {α : Type} {enc : α → List Value} {h : List (Nat × Blk)} {n : Nat}, ListV enc h n (.slice none 0 0) [] := .inl ⟨rfl, rfl⟩
    have p1 := fun K => pass20 _ many (by decide) 100 4606371770867090719 (by decide) ⟨1, [(0, Blk.cells [.int .i64 1, .int .u32 0, .int .u32 0, .int .i64 1, .int .u32 0, .int .u32 0, .int .i64 2, .int .u32 0, .int .u32 0] true)], 0, []⟩ m1 K
    have p2 := fun K => pass20 _ many (by decide) 100 4606461842859638129 (by decide) ⟨1, [(0, Blk.cells [.int .i64 1, .int .u32 0, .int .u32 0, .int .i64 1, .int .u32 0, .int .u32 0, .int .i64 2, .int .u32 0, .int .u32 0] true)], 0, []⟩ m1 K
    have p3 := fun a K => pass20 _ [] (by decide) 0 b hb a mn K
    rw [f_pass1] at p1
    rw [f_pass2] at p2
    rw [f_pass3 nb1] at p3
    have g0 := fun a K => grade15a _ [] (by decide) 0 a mn K
    have g1 := fun K => grade15a _ many (by decide) 0 ⟨2, [(1, Blk.cells [.float .f64 4607182418800017408, .float .f64 4611686018427387904, .float .f64 4618441417868443648] true), (0, Blk.cells [.int .i64 1, .int .u32 0, .int .u32 0, .int .i64 1, .int .u32 0, .int .u32 0, .int .i64 2, .int .u32 0, .int .u32 0] true)], 0, []⟩ m2 K
    have g3 := fun K => grade15a _ many (by decide) 3 ⟨2, [(1, Blk.cells [.float .f64 4607182418800017408, .float .f64 4611686018427387904, .float .f64 4618441417868443648] true), (0, Blk.cells [.int .i64 1, .int .u32 0, .int .u32 0, .int .i64 1, .int .u32 0, .int .u32 0, .int .i64 2, .int .u32 0, .int .u32 0] true)], 0, []⟩ m2 K
    rw [f_grade0] at g0
    rw [f_grade1] at g1
    rw [f_grade3] at g3
    have hme := fun K => mean21 _ _ (by decide) ⟨2, [(1, Blk.cells [.float .f64 4607182418800017408, .float .f64 4611686018427387904, .float .f64 4618441417868443648] true), (0, Blk.cells [.int .i64 1, .int .u32 0, .int .u32 0, .int .i64 1, .int .u32 0, .int .u32 0, .int .i64 2, .int .u32 0, .int .u32 0] true)], 0, []⟩ m3 K
    rw [f_mean] at hme
    have ok4 : okB [0, 9223372036854775808, 4617315517961601024] := okB_of (by decide)
    have hle := fun K => least19 _ _ (by decide) ok4 ⟨3, [(2, Blk.cells [.float .f64 0, .float .f64 9223372036854775808, .float .f64 4617315517961601024] true), (1, Blk.cells [.float .f64 4607182418800017408, .float .f64 4611686018427387904, .float .f64 4618441417868443648] true), (0, Blk.cells [.int .i64 1, .int .u32 0, .int .u32 0, .int .i64 1, .int .u32 0, .int .u32 0, .int .i64 2, .int .u32 0, .int .u32 0] true)], 0, []⟩ m4 K
    have hl0 := fun a K => least19 _ [] (by decide) (okB_of (by simp)) a mn K
    rw [show leastI [0, 9223372036854775808, 4617315517961601024] ([0, 9223372036854775808, 4617315517961601024] : List Nat).length = 1 from f_least] at hle
    rw [show leastI [] ([] : List Nat).length = -1 from rfl] at hl0
    have s14 := fun a K => share23a 1 4 a K
    have s00 := fun a K => share23a 0 0 a K
    have s10 := fun a K => share23a 1 0 a K
    rw [f_share14] at s14
    rw [f_share00] at s00
    rw [f_share10] at s10
    have fi := fun a K => fill24 128 52 a K
    rw [f_fill] at fi
    have k1 := fun a K => compare14 9223372036854775808 0 (by decide) (by decide) a K
    rw [f_cmp] at k1
    have k2 := fun a K => compare14 b 9218868437227405312 hb (by decide) a K
    have k3 := fun a K => compare14 b b hb hb a K
    have z3 : cmpZ (placeZ b) (placeZ b) = 0 := by unfold cmpZ; rw [if_neg (by omega), if_neg (by omega)]
    rw [z3] at k3
    have z2 : ¬ cmpZ (placeZ b) (placeZ 9218868437227405312) = 0 := by unfold cmpZ; split <;> (try split) <;> omega
    have b1 := fun a K => bar18a 9223372036854775808 (by decide) a K
    have b2 := fun a K => bar18a 0 (by decide) a K
    have b3 := fun a K => bar18a 4607182418800017408 (by decide) a K
    have b4 := fun a K => bar18a 9218868437227405312 (by decide) a K
    have b5 := fun a K => bar18a b hb a K
    rw [show barV 9223372036854775808 = 2 from rfl] at b1
    rw [show barV 0 = 0 from rfl] at b2
    rw [show barV 4607182418800017408 = 0 from rfl] at b3
    rw [show barV 9218868437227405312 = 2 from rfl] at b4
    rw [nb1] at b5
    have t1 := fun a K => nan11 b hb0 a K
    have t2 := fun a K => f_text 9218868437227405312 101 (by decide) (by unfold isNum; decide +kernel) (by decide +kernel) a K
    have t3 := fun a K => f_text 4607182418800017408 101 (by decide) (by unfold isNum; decide +kernel) (by decide +kernel) a K
    have t4 := fun a K => f_text 9223372036854775808 0 (by decide) (by unfold isNum; decide +kernel) (by decide +kernel) a K
    have t5 := fun a K => f_text 4562254508917369340 1 (by decide) (by unfold isNum; decide +kernel) f_lev1 a K
    have t6 := fun a K => f_text 4607173411600762667 100 (by decide) (by unfold isNum; decide +kernel) f_lev2 a K
    rw [show textL 101 = [97, 108, 108] by decide] at t2 t3
    rw [show textL 0 = [110, 111, 116, 104, 105, 110, 103] by decide] at t4
    rw [show textL 1 = [48, 37] by decide] at t5
    rw [show textL 100 = [57, 57, 37] by decide] at t6
    have q1 : (double.order 4598175219545276416 4598175219545276416 == some .eq) = true := by decide +kernel
    have q2 : (double.order 9218868437227405312 9218868437227405312 == some .eq) = true := by decide +kernel
    have q3 : (double.order 4607182418800017408 4607182418800017408 == some .eq) = true := by decide +kernel
    have q4 : (double.order 0 0 == some .eq) = true := by decide +kernel
    have q5 : (double.order 4613937818241073152 4613937818241073152 == some .eq) = true := by decide +kernel
    have q6 : (double.order 4602678819172646912 4602678819172646912 == some .eq) = true := by decide +kernel
    have he0 : empty = ⟨0, [], 0, []⟩ := rfl
    rw [he0]
    refine csim_W mixed plain hG (Nat.le_refl 0) ?_
    simp -dsimp (maxSteps := 4000000) (disch := first | omega | assumption | (simp only [FB, Nat.reduceAdd]; done) | (simp only [LB]; omega)) only [EB, ↓reduceIte, WB, Nat.reduceSub, Nat.reduceAdd, Int.reduceEq, Int.reduceNe, Int.reduceLT, Int.reduceLE, Int.reduceAdd, Int.reduceSub, Int.reduceMul, Int.reduceNeg, Int.reduceToNat, Nat.reduceEqDiff, Nat.reduceLT, Nat.reduceLeDiff, Nat.reduceMul, List.replicate, reduceCtorEq, e1, e3, bld35a, bld35b, build3, p1, p2, p3, build3f, hme, eq_self]
    repeat (first | rw [app_cons] | rw [app_nil])
    simp -dsimp (maxSteps := 4000000) (disch := first | omega | assumption | (simp only [FB, Nat.reduceAdd]; done) | (simp only [LB]; omega)) only [EB, ↓reduceIte, WB, Nat.reduceSub, Nat.reduceAdd, Int.reduceEq, Int.reduceNe, Int.reduceLT, Int.reduceLE, Int.reduceAdd, Int.reduceSub, Int.reduceMul, Int.reduceNeg, Int.reduceToNat, Nat.reduceEqDiff, Nat.reduceLT, Nat.reduceLeDiff, Nat.reduceMul, List.replicate, reduceCtorEq, e1, e3, s14, s00, s10, nan_neq, k1, k2, k3, z2, g0, g1, g3, b1, b2, b3, b4, b5, build3f, hle, hl0, fi, t1, t2, t3, t4, t5, t6, flt_eql, hf, q1, q2, q3, q4, q5, q6, eq_self]
    exact ⟨trivial, trivial, _, rfl, rfl⟩
  · rintro e t a' ⟨rfl, x, rfl, hx⟩
    refine ⟨.inr rfl, ?_⟩
    show resultsA _ _ _ [.tmp 0] = _
    rw [results_tmp, results_nil, getT_TT, if_pos (by decide), hx]
    rfl
end Go.Proofs.YtnjhndfomjjkdaaDoorAM
