/- Chapter 14: a new allocator. -/
import Derived.Test.YtlbmjpmonaekgaaV3
namespace Go.Proofs.YtlbmjpmonaekgaaAM
open Go Go.RowKit
set_option linter.unusedVariables false
set_option linter.unusedSimpArgs false
set_option maxRecDepth 10000
set_option maxHeartbeats 4000000

theorem RV.rowR {h : List (Nat × Blk)} {n : Nat} {v : Value} {xs : List Int} (hv : RV encN 1 h n v xs) : RowR h n v xs := by
  rcases hv with ⟨rfl, rfl⟩ | ⟨b, o, sp, cap, rw_, c, rfl, hb, hbn, hc, ht, -, -⟩
  · exact ⟨none, 0, rfl, fun h => absurd rfl h⟩
  · refine ⟨_, _, rfl, fun _ => ⟨b, o, sp, rw_, c, hbn, rfl, hb, fun i hi => ?_⟩⟩
    have := rowU_at hi
    rw [← encN_map, ← ht, Nat.mul_one, List.getElem?_take_of_lt hi, List.getElem?_drop] at this
    exact this
theorem RowIs.rv {h : List (Nat × Blk)} {b n : Nat} {v : Value} {xs : List Int} (hr : RowIs h b v xs) (hn : b < n) : RV encN 1 h n v xs := by
  rcases hr with h | ⟨sp, rfl, hb, hs⟩
  · exact .inl h
  · refine .inr ⟨b, 0, some sp, _, _, _, rfl, hb, hn, by simp, by rw [encN_map, List.drop_zero, Nat.mul_one, List.take_of_length_le (by simp)], ?_, Nat.le_refl _⟩
    rcases hs with rfl | ⟨rfl, -⟩
    · exact .inr (.inr rfl)
    · exact .inr (.inl rfl)
theorem ListR.rv {a w : AW} {v : Value} {xs : List Int} (hr : ListR encN 2 a xs v w) : RV encN 1 w.heap w.next v xs := by
  rcases hr with ⟨rfl, rfl, rfl⟩ | ⟨hne, rfl, rfl⟩
  · exact .inl ⟨rfl, rfl⟩
  · exact .inr ⟨a.next, 0, some 2, _, _, _, rfl, look_self, Nat.lt_succ_self _, by simp [encN_map], by rw [List.drop_zero, Nat.mul_one, List.take_of_length_le (by simp [encN_map])], .inr (.inr rfl), Nat.le_refl _⟩
theorem appU25 : appOkB 8 Try.prog 25 25 1 = true := by decide +kernel
theorem allU_one (xs : List Int) : (xs.flatMap encN).all Value.oneCell' = true := by rw [encN_map, List.all_eq_true]; intro u hu; obtain ⟨x, _, rfl⟩ := List.mem_map.1 hu; rfl
theorem allU_flat (xs : List Int) : (xs.flatMap encN).all flat = true := by rw [encN_map, List.all_eq_true]; intro u hu; obtain ⟨x, _, rfl⟩ := List.mem_map.1 hu; rfl
theorem eql_none25 {x y : Operand} : binA Try.prog .eql 25 x y (.slice none 0 0) (.slice none 0 0) = some (.bool true) := rfl
/-- Behind an empty row of one's own. -/
theorem app_empty {n bs : Nat} {h : List (Nat × Blk)} {x : Value} {xs : List Int} (hv : RV encN 1 h n x xs) (hl : xs.length ≤ 60000) (hbs : bs ≤ n) :
    ∃ v' n' h', builtinA Try.prog .append #[25, 25] [.slice (some ⟨n, 0, some 0⟩) 0 0, x] ⟨n + 1, (n, .cells [] true) :: h, bs, []⟩ = some (v', ⟨n', h', bs, []⟩) ∧ ∃ b, n ≤ b ∧ b < n' ∧ n' ≤ n + 2 ∧ (∃ sp, v' = .slice (some ⟨b, 0, some sp⟩) xs.length xs.length ∧ (sp = 2 ∨ sp = 0 ∧ xs = [])) ∧ look b h' = some (.cells (xs.flatMap encN) true) ∧ ∀ j, j < n → look j h' = look j h := by
  have hv1 : RV encN 1 ((n, Blk.cells [] true) :: h) (n + 1) x xs := by
    rcases hv with hv | ⟨b, o, sp, cap, rw0, c, rfl, hb, hbm, hc, ht, hsp, hcap⟩
    · exact .inl hv
    · exact .inr ⟨b, o, sp, cap, rw0, c, rfl, by rw [look_miss (by omega)]; exact hb, by omega, hc, ht, hsp, hcap⟩
  obtain ⟨hlen, hcells⟩ := RV.cells (n' := n + 1) (bs := bs) (d := []) hv1
  cases xs with
  | nil =>
    have hap := append_fit0 (E := Try.prog) (t0 := 25) (t1 := 25) app25 (x := x) (a := ⟨n + 1, (n, Blk.cells [] true) :: h, bs, []⟩) hlen hcells (p := ⟨n, 0, some 0⟩) (len := 0) (cap := 0) (Nat.le_refl _) (c := []) look_self (by simp)
    rw [write_soil, soilW_nil hbs] at hap
    exact ⟨_, n + 1, _, hap, n, Nat.le_refl _, by omega, by omega, ⟨0, rfl, .inr ⟨rfl, rfl⟩⟩, by rw [put_self, look_self]; rfl, fun j hj => by rw [put_self, look_miss (Nat.ne_of_lt hj)]⟩
  | cons y r =>
    have hs0 : sliceCells 1 (.slice (some ⟨n, 0, some 0⟩) 0 0) ⟨n + 1, (n, Blk.cells [] true) :: h, bs, []⟩ = some [] :=
      sliceCells_at (a := ⟨n + 1, (n, Blk.cells [] true) :: h, bs, []⟩) (p := ⟨n, 0, some 0⟩) (n := 0) (c := []) (rw := true) look_self (by simp)
    have hap := append_coreB (E := Try.prog) (B := 8) (t0 := 25) (t1 := 25) appU25 (a := ⟨n + 1, (n, Blk.cells [] true) :: h, bs, []⟩) (base := some ⟨n, 0, some 0⟩) (len := 0) (cap := 0) hlen hcells hs0 (by rw [Nat.zero_add]; exact Nat.zero_lt_succ _) (by omega) (by omega) (allU_one _)
    simp only [grown, if_true, growA, Nat.zero_add, List.nil_append] at hap
    refine ⟨_, n + 2, _, hap, n + 1, by omega, by omega, by omega, ⟨2, rfl, .inl rfl⟩, look_self, fun j hj => ?_⟩
    simp only [AW.new]
    rw [look_miss (by omega), look_miss (by omega)]
theorem clone31 (v : Value) (xs : List Int) (hl : xs.length ≤ 60000) (a : AW) (hv : RV encN 1 a.heap a.next v xs) (K : Value → AW → Prop)
    (hK : ∀ v' n' h', a.next ≤ n' → n' ≤ a.next + 1 → RowIs h' a.next v' xs → (v' = .slice none 0 0 ∨ a.next < n') → (∀ j, j < a.next → look j h' = look j a.heap) → K v' ⟨n', h', a.base, a.dirty⟩) :
    WCall Try.prog GE 31 [v] a K := by
  rw [call_env Try.func31 rfl Try.ntmps31 rfl rfl (by simp)]
  have hv0 := hv
  rcases hv with ⟨rfl, rfl⟩ | ⟨b, o, sp, cap, rw0, c, rfl, hb, hbm, hc, ht, hsp, hcap⟩
  · simp -dsimp (maxSteps := 4000000) (disch := first | omega | assumption | (simp only [FB, Nat.reduceAdd]; done) | (simp only [LB]; omega)) only [EB, ↓reduceIte, WB, Nat.reduceSub, Nat.reduceAdd, Int.reduceEq, Int.reduceNe, Int.reduceLT, Int.reduceLE, Int.reduceAdd, Int.reduceSub, Int.reduceMul, Int.reduceNeg, Int.reduceToNat, Nat.reduceEqDiff, Nat.reduceLT, Nat.reduceLeDiff, Nat.reduceMul, List.replicate, reduceCtorEq, TB, NB, MB, eql_none25]
    rw [leave_flat rfl]
    exact hK _ _ _ (Nat.le_refl _) (by omega) (.inl ⟨rfl, rfl⟩) (.inl rfl) fun _ _ => rfl
  · simp -dsimp (maxSteps := 4000000) (disch := first | omega | assumption | (simp only [FB, Nat.reduceAdd]; done) | (simp only [LB]; omega)) only [EB, ↓reduceIte, WB, Nat.reduceSub, Nat.reduceAdd, Int.reduceEq, Int.reduceNe, Int.reduceLT, Int.reduceLE, Int.reduceAdd, Int.reduceSub, Int.reduceMul, Int.reduceNeg, Int.reduceToNat, Nat.reduceEqDiff, Nat.reduceLT, Nat.reduceLeDiff, Nat.reduceMul, List.replicate, reduceCtorEq, TB, NB, MB, eql_some und25, buildSl0 elem25]
    obtain ⟨v', n', h', e1, b', e2, e3, e3', ⟨sp', rfl, e5⟩, e6, e7⟩ := app_empty (bs := a.next) hv0 hl (Nat.le_refl _)
    simp -dsimp (maxSteps := 4000000) (disch := first | omega | assumption | (simp only [FB, Nat.reduceAdd]; done) | (simp only [LB]; omega)) only [EB, ↓reduceIte, WB, Nat.reduceSub, Nat.reduceAdd, Int.reduceEq, Int.reduceNe, Int.reduceLT, Int.reduceLE, Int.reduceAdd, Int.reduceSub, Int.reduceMul, Int.reduceNeg, Int.reduceToNat, Nat.reduceEqDiff, Nat.reduceLT, Nat.reduceLeDiff, Nat.reduceMul, List.replicate, reduceCtorEq, TB, NB, MB, e1]
    rw [leave_fresh e2 e6 (allU_flat _)]
    refine hK _ (a.next + 1) _ (by omega) (Nat.le_refl _) (.inr ⟨sp', rfl, by rw [encN_map]; exact look_self, e5⟩) (.inr (by omega)) fun j hj => look_miss (by omega)
end Go.Proofs.YtlbmjpmonaekgaaAM
