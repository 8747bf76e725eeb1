/- Chapter 22: one less a quotient, as a word. -/
import Derived.Test.YtnjhndfomjjkdaaDoorG6
namespace Go.Proofs.YtnjhndfomjjkdaaDoorAM
open Go Go.RowKit Ieee
set_option linter.unusedVariables false
set_option linter.unusedSimpArgs false
set_option maxRecDepth 10000
set_option maxHeartbeats 400000
set_option exponentiation.threshold 3000

theorem order_neg (R : Nat) (hR : R ≤ 9218868437227405312) : double.order (double.word true R) 0 ≠ some .gt := by
  have hw : double.signWeight = 9223372036854775808 := by decide
  have hbin : double.binade = 4503599627370496 := by decide
  have hinf : double.infRung = 9218868437227405312 := by decide
  obtain ⟨n, j, g1, g2⟩ := read_nat 0 (by decide)
  have hz : unitsR 0 = 0 := by decide
  rw [hz] at g2
  have hn : n = 0 := by
    rcases Nat.mul_eq_zero.1 g2 with h | h
    · exact h
    · exact absurd h (Nat.ne_of_gt (Nat.two_pow_pos j))
  subst hn
  have hrd : (∃ m i, double.read (double.word true R) = .number true m i) ∨ double.read (double.word true R) = .infinity true := by
    unfold Format.word Format.read
    simp only [hw, hbin, hinf, if_true]
    rw [show (9223372036854775808 + R) / 9223372036854775808 = 1 by omega, show (9223372036854775808 + R) % 9223372036854775808 = R by omega]
    split
    · exact .inl ⟨_, _, rfl⟩
    · split
      · exact .inl ⟨_, _, rfl⟩
      · rw [if_pos (by omega)]; exact .inr rfl
  unfold Format.order
  rcases hrd with ⟨m, i, e⟩ | e
  · rw [e, g1]
    simp only [Datum.order, ne_eq, Option.some.injEq]
    intro h
    unfold signed at h
    simp only [if_true, Bool.false_eq_true, if_false, Nat.zero_shiftLeft] at h
    generalize m <<< (i - min i (-1074 + (j : Int))).toNat = X at h
    have hc := @cmp_int (-(X : Int)) ((0 : Nat) : Int)
    rcases Nat.eq_zero_or_pos X with hx | hx
    · rw [hc.2.1 (by omega)] at h; cases h
    · rw [hc.1 (by omega)] at h; cases h
  · rw [e, g1]; simp [Datum.order]
/-- What 1 less a float is. -/
theorem sub_one (r : Nat) (hr : r < 9218868437227405312) : ∃ w, double.sub 4607182418800017408 r = some w ∧
    ((r < 4607182418800017408 ∧ w = gradeR r ∧ 0 < gradeR r ∧ gradeR r ≤ 4607182418800017408) ∨ (4607182418800017408 ≤ r ∧ double.order w 0 ≠ some .gt ∧ gradeR r = 0)) := by
  obtain ⟨m, k, e1, e2⟩ := read_nat r hr
  have r1 : double.read 4607182418800017408 = .number false 4503599627370496 (-1074 + ((1022 : Nat) : Int)) := read_rung (L := 1022) (m := 4503599627370496) (Nat.le_refl _) (by decide) (by decide)
  have u1 : 4503599627370496 * 2 ^ 1022 = unitsR 4607182418800017408 := by decide +kernel
  have q1 := shift_units (Nat.min_le_left 1022 k) u1
  have q2 := shift_units (Nat.min_le_right 1022 k) e2
  have hp := Nat.two_pow_pos (min 1022 k)
  have hm : min (-1074 + ((1022 : Nat) : Int)) (-1074 + (k : Int)) = -1074 + ((min 1022 k : Nat) : Int) := by omega
  unfold Format.sub
  rw [r1, e1]
  simp only [Datum.opposite, Datum.sum, Bool.not_false, Option.map_some]
  refine ⟨_, rfl, ?_⟩
  rw [place_diff.1, place_diff.2, hm]
  unfold signed
  simp only [Bool.false_eq_true, if_false, if_true, Bool.false_and]
  generalize 4503599627370496 <<< (1022 - min 1022 k) = X at *
  generalize m <<< (k - min 1022 k) = Y at *
  generalize min 1022 k = b at *
  rw [units_one] at q1
  have hXY : Y < X ↔ r < 4607182418800017408 := by rw [← units_lt (a := r), units_one, ← q1, ← q2, Nat.mul_lt_mul_right hp]
  have hYX : X < Y ↔ 4607182418800017408 < r := by rw [← units_lt (b := r), units_one, ← q1, ← q2, Nat.mul_lt_mul_right hp]
  unfold Format.write
  rcases Nat.lt_trichotomy r 4607182418800017408 with h | h | h
  · left
    have hlt := hXY.2 h
    rw [if_neg (by omega), show decide (((X : Int) + -(Y : Int)) < 0) = false by simp; omega, show ((X : Int) + -(Y : Int)).natAbs = X - Y by omega]
    simp only []
    have hg : rungOf (X - Y) b = gradeR r := by
      unfold gradeR
      rw [if_pos h, rungOf_up _ _ (by omega), Nat.sub_mul, q1, q2]
    have hgl := grade_le r
    have hpos : 0 < gradeR r := by rw [← hg, rungOf_up _ _ (by omega)]; exact rungOf_pos (Nat.mul_ne_zero (by omega) (by omega))
    refine ⟨h, ?_, hpos, hgl⟩
    rw [nearest_rung false _ _ (by omega), show -1074 + (b : Int) + 1074 = (b : Int) by omega, hg, Nat.min_eq_left (by omega)]
    rfl
  · right
    have h1 := mt hXY.1 (by omega)
    have h2 := mt hYX.1 (by omega)
    rw [if_pos (by omega), show ((X : Int) + -(Y : Int)).natAbs = 0 by omega]
    refine ⟨by omega, ?_, by unfold gradeR; rw [if_neg (by omega)]⟩
    have : double.nearest false 0 (-1074 + (b : Int)) = 0 := rfl
    simp only [this]
    rw [(order_nat 0 0 (by decide) (by decide)).2.1 rfl]
    decide
  · right
    have hlt := hYX.2 h
    rw [if_neg (by omega), show decide (((X : Int) + -(Y : Int)) < 0) = true by simp; omega]
    refine ⟨by omega, ?_, by unfold gradeR; rw [if_neg (by omega)]⟩
    simp only []
    rw [nearest_rung true _ _ (by omega)]
    exact order_neg _ (Nat.min_le_right _ _)
/-- The rung of a quotient is known by its law. -/
def isQuot (N P r : Nat) : Prop := ∀ k, r ≤ k ↔ (N * 2 ^ 1075 < midR k * P ∨ (N * 2 ^ 1075 = midR k * P ∧ k % 2 = 0))
theorem or_le {A B C : Nat} {e : Prop} (hm : A ≤ B) (h : B < C ∨ (B = C ∧ e)) : A < C ∨ (A = C ∧ e) := by
  rcases h with h | ⟨h, he⟩
  · exact .inl (Nat.lt_of_le_of_lt hm h)
  · rcases Nat.lt_or_ge A C with h1 | h1
    · exact .inl h1
    · exact .inr ⟨Nat.le_antisymm (h ▸ hm) h1, he⟩
theorem or_ge {A B C : Nat} {e : Prop} (hm : B ≤ C) (h : A < B ∨ (A = B ∧ e)) : A < C ∨ (A = C ∧ e) := by
  rcases h with h | ⟨h, he⟩
  · exact .inl (Nat.lt_of_lt_of_le h hm)
  · rcases Nat.lt_or_ge A C with h1 | h1
    · exact .inl h1
    · exact .inr ⟨Nat.le_antisymm (h ▸ hm) h1, he⟩
theorem or_far {A B C D E F : Nat} {e : Prop} (h1 : B < A ∨ (B = A ∧ e)) (h2 : A ≤ C) (h3 : C < E) (h4 : E ≤ B) : False := by
  rcases h1 with h | ⟨h, _⟩ <;> omega
theorem quot_more {N N' P r r' : Nat} (h : isQuot N P r) (h' : isQuot N' P r') (hN : N ≤ N') : r ≤ r' :=
  (h r').2 (or_le (Nat.mul_le_mul_right _ hN) ((h' r').1 (Nat.le_refl _)))
theorem quot_wide {N P P' r r' : Nat} (h : isQuot N P r) (h' : isQuot N P' r') (hP : P ≤ P') : r' ≤ r :=
  (h' r).2 (or_ge (Nat.mul_le_mul_left _ hP) ((h r).1 (Nat.le_refl _)))
theorem quot_low {N P r : Nat} (h : isQuot N P r) (hN : 0 < N) (hP : P ≤ 4294967296) : 4363988038922010624 < r := by
  rcases Nat.lt_or_ge 4363988038922010624 r with h1 | h1
  · exact h1
  · exfalso
    have h1 := (h 4363988038922010624).1 h1
    have e1 := units_in (L := 968) (k := 4503599627370496) (.inr (Nat.le_refl _)) (by decide)
    have e2 := units_in (L := 968) (k := 4503599627370497) (.inr (by decide)) (by decide)
    rw [show 968 * 4503599627370496 + 4503599627370496 = 4363988038922010624 from rfl] at e1
    rw [show 968 * 4503599627370496 + 4503599627370497 = 4363988038922010624 + 1 from rfl] at e2
    have hm : midR 4363988038922010624 ≤ 2 ^ 54 * 2 ^ 968 := by
      unfold midR; rw [e1, e2, show (2 : Nat) ^ 54 = 18014398509481984 from rfl]
      generalize 2 ^ 968 = T
      omega
    have h2 : midR 4363988038922010624 * P ≤ 2 ^ 54 * 2 ^ 968 * 2 ^ 32 := Nat.mul_le_mul hm hP
    rw [← Nat.pow_add, ← Nat.pow_add] at h2
    have h3 : 2 ^ (54 + 968 + 32) < 2 ^ 1075 := Nat.pow_lt_pow_right (by decide) (by decide)
    have h4 := Nat.mul_le_mul_right (2 ^ 1075) (show 1 ≤ N from hN)
    rw [Nat.one_mul] at h4
    exact or_far (D := 0) (F := 0) h1 h2 h3 h4
end Go.Proofs.YtnjhndfomjjkdaaDoorAM
