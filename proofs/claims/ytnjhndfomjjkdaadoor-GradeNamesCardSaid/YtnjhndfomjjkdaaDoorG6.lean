/- Chapter 22: one less a quotient. -/
import Derived.Test.YtnjhndfomjjkdaaDoorG5
namespace Go.Proofs.YtnjhndfomjjkdaaDoorAM
open Go Go.RowKit Ieee
set_option linter.unusedVariables false
set_option linter.unusedSimpArgs false
set_option maxRecDepth 10000
set_option maxHeartbeats 400000
set_option exponentiation.threshold 3000

theorem units_lt {a b : Nat} : unitsR a < unitsR b ↔ a < b := by
  constructor
  · intro h
    rcases Nat.lt_or_ge a b with h' | h'
    · exact h'
    · have := units_mono h'; omega
  · intro h
    exact Nat.lt_of_lt_of_le (units_step a) (units_mono h)
theorem read_nat (r : Nat) (hr : r < 9218868437227405312) : ∃ m k, double.read r = .number false m (-1074 + (k : Nat)) ∧ m * 2 ^ k = unitsR r := by
  obtain ⟨s, u, hu, e, -, c⟩ := read_cases r (by omega)
  have hs : s = false := by cases s; · rfl
                            · simp at e; omega
  subst hs
  simp only [Bool.false_eq_true, if_false] at e
  subst e
  rcases c with ⟨-, m, p, k, e1, e2, -⟩ | ⟨e1, -⟩ | ⟨f, e1⟩
  · exact ⟨m, k, e1, e2⟩
  · omega
  · exfalso
    have hw : double.signWeight = 9223372036854775808 := by decide
    have hbin : double.binade = 4503599627370496 := by decide
    have hinf : double.infRung = 9218868437227405312 := by decide
    unfold Format.read at e1
    simp only [hw, hbin, hinf, Nat.mod_eq_of_lt hu] at e1
    split at e1
    · cases e1
    · first | cases e1 | (rw [if_pos hr] at e1; cases e1)
theorem cmp_int {x y : Int} : (x < y → compare x y = .lt) ∧ (x = y → compare x y = .eq) ∧ (y < x → compare x y = .gt) := by
  refine ⟨fun h => ?_, fun h => ?_, fun h => ?_⟩
  · show compareOfLessAndEq x y = _; unfold compareOfLessAndEq; rw [if_pos h]
  · show compareOfLessAndEq x y = _; unfold compareOfLessAndEq; rw [if_neg (by omega), if_pos h]
  · show compareOfLessAndEq x y = _; unfold compareOfLessAndEq; rw [if_neg (by omega), if_neg (by omega)]
theorem order_nat (a b : Nat) (ha : a < 9218868437227405312) (hb : b < 9218868437227405312) : (a < b → double.order a b = some .lt) ∧ (a = b → double.order a b = some .eq) ∧ (b < a → double.order a b = some .gt) := by
  obtain ⟨m, k, e1, e2⟩ := read_nat a ha
  obtain ⟨n, j, g1, g2⟩ := read_nat b hb
  have q1 := shift_units (Nat.min_le_left k j) e2
  have q2 := shift_units (Nat.min_le_right k j) g2
  have hp := Nat.two_pow_pos (min k j)
  unfold Format.order
  rw [e1, g1]
  simp only [Datum.order, Option.some.injEq]
  rw [place_diff.1, place_diff.2]
  unfold signed
  simp only [Bool.false_eq_true, if_false]
  generalize m <<< (k - min k j) = X at *
  generalize n <<< (j - min k j) = Y at *
  have hc := @cmp_int (X : Int) (Y : Int)
  have h1 : X < Y ↔ a < b := by rw [← units_lt (a := a) (b := b), ← q1, ← q2, Nat.mul_lt_mul_right hp]
  have h2 : Y < X ↔ b < a := by rw [← units_lt (a := b) (b := a), ← q1, ← q2, Nat.mul_lt_mul_right hp]
  refine ⟨fun h => hc.1 ?_, fun h => hc.2.1 ?_, fun h => hc.2.2 ?_⟩
  · have := h1.2 h; omega
  · have := mt h1.1 (by omega); have := mt h2.1 (by omega); omega
  · have := h2.2 h; omega
theorem rungOf_mono {m n : Nat} (hm : m ≠ 0) (h : m ≤ n) : rungOf m 0 ≤ rungOf n 0 := by
  rw [rungOf_le m 0 hm]
  have := (rungOf_le n 0 (by omega) (rungOf n 0)).1 (Nat.le_refl _)
  simp only [Int.toNat_zero, Nat.pow_zero, Nat.mul_one, Int.neg_zero] at this ⊢
  omega
theorem rungOf_pos {m : Nat} (hm : m ≠ 0) : 0 < rungOf m 0 := by
  have h := rungOf_le m 0 hm 0
  simp only [Int.toNat_zero, Nat.pow_zero, Nat.mul_one, Int.neg_zero] at h
  have : midR 0 = 1 := by decide
  rw [this] at h
  rcases Nat.eq_zero_or_pos (rungOf m 0) with h0 | h0
  · have := h.1 (by omega); omega
  · exact h0
theorem units_one : unitsR 4607182418800017408 = 2 ^ 1074 := by
  have e := units_in (L := 1022) (k := 4503599627370496) (.inr (Nat.le_refl _)) (by decide)
  rw [show 1022 * 4503599627370496 + 4503599627370496 = 4607182418800017408 from rfl] at e
  rw [e, show (1074 : Nat) = 52 + 1022 from rfl, Nat.pow_add]
/-- A grade out of a quotient's rung. -/
def gradeR (r : Nat) : Nat := if r < 4607182418800017408 then rungOf (2 ^ 1074 - unitsR r) 0 else 0
theorem grade_le (r : Nat) : gradeR r ≤ 4607182418800017408 := by
  unfold gradeR
  split
  · rename_i h
    have h1 := units_lt.2 h
    rw [units_one] at h1
    have h2 := rungOf_mono (m := 2 ^ 1074 - unitsR r) (n := 2 ^ 1074) (by omega) (Nat.sub_le _ _)
    rw [← units_one, rungOf_units _ (by decide)] at h2
    rw [← units_one]; exact h2
  · exact Nat.zero_le _
theorem grade_anti {r u : Nat} (h : r ≤ u) : gradeR u ≤ gradeR r := by
  unfold gradeR
  by_cases hu : u < 4607182418800017408
  · rw [if_pos hu, if_pos (by omega)]
    have h1 := units_lt.2 hu
    rw [units_one] at h1
    have h2 := units_mono h
    exact rungOf_mono (by omega) (by omega)
  · rw [if_neg hu]; exact Nat.zero_le _
theorem grade_lt {r : Nat} (h : 4363988038922010624 < r) : gradeR r < 4607182418800017408 := by
  unfold gradeR
  split
  · rename_i hu
    have h1 := units_lt.2 hu
    have h2 := units_lt.2 h
    have e1 := units_in (L := 968) (k := 4503599627370496) (.inr (Nat.le_refl _)) (by decide)
    rw [show 968 * 4503599627370496 + 4503599627370496 = 4363988038922010624 from rfl] at e1
    have e2 := units_in (L := 1021) (k := 9007199254740991) (.inr (by decide)) (by decide)
    rw [show 1021 * 4503599627370496 + 9007199254740991 = 4607182418800017407 from rfl] at e2
    have hm : midR 4607182418800017407 = unitsR 4607182418800017407 + unitsR 4607182418800017408 := rfl
    rw [units_one] at h1
    have hle : rungOf (2 ^ 1074 - unitsR r) 0 ≤ 4607182418800017407 := by
      rw [rungOf_le _ 0 (by omega)]
      left
      simp only [Int.toNat_zero, Nat.pow_zero, Nat.mul_one, Int.neg_zero]
      rw [hm, e2, units_one]
      rw [e1] at h2
      have p1 : 4503599627370496 * 2 ^ 968 = 2 ^ 1020 := by rw [show (1020 : Nat) = 52 + 968 from rfl, Nat.pow_add]
      have p2 : (2 : Nat) ^ 1021 = 2 ^ 1020 * 2 := Nat.pow_succ ..
      have p3 : (2 : Nat) ^ 1074 = 9007199254740992 * 2 ^ 1021 := by rw [show (1074 : Nat) = 53 + 1021 from rfl, Nat.pow_add]
      rw [p1] at h2
      generalize (2 : Nat) ^ 1074 = T at *
      generalize (2 : Nat) ^ 1021 = U at *
      generalize (2 : Nat) ^ 1020 = V at *
      omega
    omega
  · decide
end Go.Proofs.YtnjhndfomjjkdaaDoorAM
