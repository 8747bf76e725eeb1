/- Chapter 22: the grade of a list of findings. -/
import Derived.Test.YtnjhndfomjjkdaaDoorG9
namespace Go.Proofs.YtnjhndfomjjkdaaDoorAM
open Go Go.RowKit
set_option linter.unusedVariables false
set_option linter.unusedSimpArgs false
set_option maxRecDepth 10000
set_option maxHeartbeats 4000000

theorem und32 : Tryd.prog.underlying 32 = some (.slice 35) := rfl
theorem size35 : typeSize Tryd.prog 35 = some 3 := rfl
theorem agg35 : aggB Tryd.prog 35 = some true := rfl
theorem agg3 : aggB Tryd.prog 3 = some false := rfl
theorem fo35_0 : fldOff Tryd.prog 35 0 = some 0 := rfl
theorem z35 : zeroV Tryd.prog 35 = some (.agg #[.int .i64 0, .int .u32 0, .int .u32 0]) := by kernel_rfl
theorem store35 {p : Addr} {a : AW} {x y z : Int} : storeVarA Tryd.prog 35 p (.agg #[.int .i64 x, .int .u32 y, .int .u32 z]) a = storeC (a.get p.block) p [.int .i64 x, .int .u32 y, .int .u32 z] a := storeVar_eq size35 rfl
theorem store35c {n : Nat} {a : AW} {u v w : Value} {x y z : Int} : storeC (some (.cells [u, v, w] true)) ⟨n, 0, none⟩ [.int .i64 x, .int .u32 y, .int .u32 z] a = some (a.write n (.cells [.int .i64 x, .int .u32 y, .int .u32 z] true)) := by
  rw [storeC_ok (by simp) (by rfl)]; rfl
structure Find where
  kind : Int
  page : Int
  other : Int
def encF (x : Find) : List Value := [.int .i64 x.kind, .int .u32 x.page, .int .u32 x.other]
theorem encF_at : ∀ (l : List Find) (i : Nat) (h : i < l.length), ((l.flatMap encF).drop (i * 3)).take 3 = encF l[i]
  | x :: l, 0, _ => by simp [encF]
  | x :: l, i + 1, h => by
    rw [List.flatMap_cons, Nat.add_mul, Nat.add_comm (i * 3), ← List.drop_drop, show (1 * 3) = (encF x).length from rfl, List.drop_left, List.getElem_cons_succ]
    exact encF_at l i (by simpa using h)
theorem encF_len (l : List Find) : (l.flatMap encF).length = l.length * 3 := by
  induction l with
  | nil => rfl
  | cons x l ih => rw [List.flatMap_cons, List.length_append, ih, List.length_cons, Nat.add_mul]; simp [encF]; omega
def weightL (l : List Find) : Nat := (l.map fun x => weightN x.kind).sum
theorem weightL_le (l : List Find) : weightL l ≤ 3 * l.length := by
  induction l with
  | nil => simp [weightL]
  | cons a l ih => have := weight_le a.kind; simp only [weightL, List.map_cons, List.sum_cons, List.length_cons] at *; omega
theorem weightL_take {l : List Find} {i : Nat} (h : i < l.length) : weightL (l.take (i + 1)) = weightL (l.take i) + weightN l[i].kind := by
  unfold weightL
  rw [List.take_add_one, List.getElem?_eq_getElem h]
  simp only [Option.toList_some, List.map_append, List.map_cons, List.map_nil, List.sum_append, List.sum_cons, List.sum_nil, Nat.add_zero]
theorem ListV.at {α : Type} {enc : α → List Value} {h : List (Nat × Blk)} {n : Nat} {p : Option Addr} {cp : Nat} {xs : List α} (hv : ListV enc h n (.slice p xs.length cp) xs) {i : Nat} (hi : i < xs.length) :
    ∃ b sp cap rw, Value.slice p xs.length cp = .slice (some ⟨b, 0, sp⟩) xs.length cap ∧ look b h = some (.cells (xs.flatMap enc) rw) ∧ b < n := by
  rcases hv with ⟨_, h⟩ | h
  · rw [h] at hi; simp at hi
  · exact h
/-- A grade, out of the sum of the weights. -/
def isGrade (N P g : Nat) : Prop := (N = 0 ∧ g = 4607182418800017408) ∨ (0 < N ∧ ∃ r, r < 9218868437227405312 ∧ isQuot N P r ∧ g = gradeR r)
theorem grade15 (v : Value) (l : List Find) (hl : l.length ≤ 61) (P : Nat) (hP : 0 < P ∧ P ≤ 4294967296) (a : AW) (hv : ListV encF a.heap a.next v l) (K) (hK : ∀ g, isGrade (weightL l) P g → K (.float .f64 g) a) :
    WCall Tryd.prog GV 15 [v, .int .i64 P] a K := by
  have hlt : FloatKind.f64.format = Ieee.double := rfl
  obtain ⟨g, hg⟩ : ∃ g, isGrade (weightL l) P g := by
    have hw := weightL_le l
    rcases Nat.eq_zero_or_pos (weightL l) with h0 | h0
    · exact ⟨_, .inl ⟨h0, rfl⟩⟩
    · obtain ⟨r, h1, h2, h3⟩ := div_int (weightL l) P h0 (by omega) hP.1 (by omega)
      exact ⟨_, .inr ⟨h0, r, h2, h3, rfl⟩⟩
  have hcall : ∀ K, WCall Tryd.prog GV 15 [v, .int .i64 P] a K = K (.float .f64 g) a := fun K => by
    refine call_eq ?_ K
    rw [call_env Tryd.func15 rfl Tryd.ntmps15 rfl rfl (by simp)]
    obtain ⟨p, c, rfl⟩ := hv.len
    simp -dsimp (maxSteps := 4000000) (disch := first | omega | assumption | (simp only [FB, Nat.reduceAdd]; done) | (simp only [LB]; omega)) only [EB, ↓reduceIte, WB, Nat.reduceSub, Nat.reduceAdd, Int.reduceEq, Int.reduceNe, Int.reduceLT, Int.reduceLE, Int.reduceAdd, Int.reduceSub, Int.reduceMul, Int.reduceNeg, Int.reduceToNat, Nat.reduceEqDiff, Nat.reduceLT, Nat.reduceLeDiff, Nat.reduceMul, List.replicate, reduceCtorEq, op_len und32 rfl]
    refine loop_inv (fun k t w => ∃ i n : Nat, ∃ h' : List (Nat × Blk), ∃ e, k = l.length - i ∧ i ≤ l.length ∧ a.next ≤ n ∧ (∀ j, j < a.next → look j h' = look j a.heap) ∧ w = ⟨n, h', a.next, []⟩ ∧ t = TT 30 e ∧ e 1 = .int .i64 P ∧ e 9 = .slice p l.length c ∧ e 10 = .int .i64 l.length ∧ e 5 = .int .i64 (weightL (l.take i)) ∧ e 11 = .int .i64 i) ⟨0, a.next, a.heap, _, rfl, by omega, Nat.le_refl _, fun _ _ => rfl, rfl, rfl, rfl, rfl, rfl, rfl, rfl⟩ ?_
    rintro k t w ⟨i, n, h', e, hk, hi, hn, hh, rfl, rfl, e1, e9, e10, e5, e11⟩
    have hN := weightL_le (l.take i)
    rw [List.length_take] at hN
    by_cases hlti : i < l.length
    · obtain ⟨b, sp, cap, rw0, e0, hb, hbn⟩ := hv.at hlti
      cases e0
      have hb' : look b h' = some (.cells (l.flatMap encF) rw0) := by rw [hh b hbn]; exact hb
      have hat := encF_at l i hlti
      have hle : 0 + i * 3 + 3 ≤ (l.flatMap encF).length := by rw [encF_len]; omega
      have hst := weightL_take hlti
      have hw3 := weight_le l[i].kind
      simp -dsimp (maxSteps := 4000000) (disch := first | omega | assumption | (simp only [FB, Nat.reduceAdd]; done) | (simp only [LB]; omega)) only [EB, ↓reduceIte, WB, Nat.reduceSub, Nat.reduceAdd, Int.reduceEq, Int.reduceNe, Int.reduceLT, Int.reduceLE, Int.reduceAdd, Int.reduceSub, Int.reduceMul, Int.reduceNeg, Int.reduceToNat, Nat.reduceEqDiff, Nat.reduceLT, Nat.reduceLeDiff, Nat.reduceMul, List.replicate, reduceCtorEq, e1, e9, e10, e5, e11, show ((i : Int) < l.length) by omega, indexAddr_slice und32 size35, load_agg agg35 size35, store35, store35c, hb', hat, z35, op_fa fo35_0, load_one agg3, weight39, encF, wrap64]
      refine ⟨trivial, l.length - (i + 1), by omega, i + 1, n + 1, _, _, rfl, by omega, by omega, ?_, rfl, rfl, ?_⟩
      · intro j hj; rw [← hh j hj]; exact look_miss (by omega)
      · simp only [ups_at, ↓reduceIte, Nat.reduceEqDiff]
        refine ⟨e1, e9, e10, ?_, (by first | trivial | rfl | omega)⟩
        rw [hst]; congr 1
    · have hi2 : i = l.length := by omega
      subst hi2
      rw [List.take_length] at e5
      have hw := weightL_le l
      rcases hg with ⟨h0, rfl⟩ | ⟨h0, r, hr, hq, rfl⟩
      · have e5' : e 5 = .int .i64 0 := by rw [e5, h0]; rfl
        simp -dsimp (maxSteps := 4000000) (disch := first | omega | assumption | (simp only [FB, Nat.reduceAdd]; done) | (simp only [LB]; omega)) only [EB, ↓reduceIte, WB, Nat.reduceSub, Nat.reduceAdd, Int.reduceEq, Int.reduceNe, Int.reduceLT, Int.reduceLE, Int.reduceAdd, Int.reduceSub, Int.reduceMul, Int.reduceNeg, Int.reduceToNat, Nat.reduceEqDiff, Nat.reduceLT, Nat.reduceLeDiff, Nat.reduceMul, List.replicate, reduceCtorEq, e1, e9, e10, e5', e11, eq_self, show ¬ ((l.length : Int) < l.length) by omega]
        exact ⟨(by first | trivial | rfl | omega), (by first | trivial | rfl | omega)⟩
      · obtain ⟨r', hd, hr', hq'⟩ := div_int (weightL l) P h0 (by omega) hP.1 (by omega)
        have er : r' = r := nat_ext fun k => by rw [hq' k]; exact (hq k).symm
        subst er
        obtain ⟨w, hs, hcase⟩ := sub_one r' hr
        have hs' : FloatKind.f64.format.sub 4607182418800017408 r' = some w := hs
        rcases hcase with ⟨h1, rfl, h2, h3⟩ | ⟨h1, h2, h3⟩
        · have ho := (order_nat (gradeR r') 0 (by omega) (by decide)).2.2 h2
          simp -dsimp (maxSteps := 4000000) (disch := first | omega | assumption | (simp only [FB, Nat.reduceAdd]; done) | (simp only [LB]; omega)) only [EB, ↓reduceIte, WB, Nat.reduceSub, Nat.reduceAdd, Int.reduceEq, Int.reduceNe, Int.reduceLT, Int.reduceLE, Int.reduceAdd, Int.reduceSub, Int.reduceMul, Int.reduceNeg, Int.reduceToNat, Nat.reduceEqDiff, Nat.reduceLT, Nat.reduceLeDiff, Nat.reduceMul, List.replicate, reduceCtorEq, e1, e9, e10, e5, e11, show ¬ ((l.length : Int) < l.length) by omega, show ¬ ((weightL l : Int) = 0) by omega, share23 _ _ _ hd, flt_sub hs', flt_gtr, hlt, ho, beq_self_eq_true]
          exact ⟨(by first | trivial | rfl | omega), (by first | trivial | rfl | omega)⟩
        · rw [h3]
          have ho : (Ieee.double.order w 0 == some .gt) = false := by simpa using h2
          simp -dsimp (maxSteps := 4000000) (disch := first | omega | assumption | (simp only [FB, Nat.reduceAdd]; done) | (simp only [LB]; omega)) only [EB, ↓reduceIte, WB, Nat.reduceSub, Nat.reduceAdd, Int.reduceEq, Int.reduceNe, Int.reduceLT, Int.reduceLE, Int.reduceAdd, Int.reduceSub, Int.reduceMul, Int.reduceNeg, Int.reduceToNat, Nat.reduceEqDiff, Nat.reduceLT, Nat.reduceLeDiff, Nat.reduceMul, List.replicate, reduceCtorEq, e1, e9, e10, e5, e11, show ¬ ((l.length : Int) < l.length) by omega, show ¬ ((weightL l : Int) = 0) by omega, share23 _ _ _ hd, flt_sub hs', flt_gtr, hlt, ho]
          exact ⟨(by first | trivial | rfl | omega), (by first | trivial | rfl | omega)⟩
  rw [hcall]; exact hK g hg
end Go.Proofs.YtnjhndfomjjkdaaDoorAM
