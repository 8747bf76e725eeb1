/- Chapter 22: a float that is less stands before the other. -/
import Derived.Test.YtnjhndfomjjkdaaDoorG0
namespace Go.Proofs.YtnjhndfomjjkdaaDoorAM
open Go Go.RowKit Ieee
set_option linter.unusedVariables false
set_option linter.unusedSimpArgs false
set_option maxRecDepth 10000
set_option maxHeartbeats 4000000

/-- How great a rung is, in the least units. -/
def unitsR (r : Nat) : Nat := if r < 4503599627370496 then r else (4503599627370496 + r % 4503599627370496) * 2 ^ (r / 4503599627370496 - 1)
theorem units_mono {r s : Nat} (h : r ≤ s) : unitsR r ≤ unitsR s := by
  unfold unitsR
  by_cases h1 : r < 4503599627370496
  · rw [if_pos h1]
    split
    · exact h
    · rename_i h2
      have : 1 ≤ 2 ^ (s / 4503599627370496 - 1) := Nat.one_le_two_pow
      have := Nat.mul_le_mul_left (4503599627370496 + s % 4503599627370496) this
      omega
  · rw [if_neg h1, if_neg (by omega)]
    have hq : r / 4503599627370496 ≤ s / 4503599627370496 := Nat.div_le_div_right h
    by_cases he : r / 4503599627370496 = s / 4503599627370496
    · rw [he]
      refine Nat.mul_le_mul_right _ ?_
      omega
    · have e1 : s / 4503599627370496 - 1 = (r / 4503599627370496 - 1) + 1 + (s / 4503599627370496 - r / 4503599627370496 - 1) := by omega
      rw [e1, Nat.pow_add, Nat.pow_succ]
      have hp : 1 ≤ 2 ^ (s / 4503599627370496 - r / 4503599627370496 - 1) := Nat.one_le_two_pow
      have hm : r % 4503599627370496 < 4503599627370496 := Nat.mod_lt _ (by omega)
      calc (4503599627370496 + r % 4503599627370496) * 2 ^ (r / 4503599627370496 - 1)
          ≤ (2 * 4503599627370496) * 2 ^ (r / 4503599627370496 - 1) := Nat.mul_le_mul_right _ (by omega)
        _ = 4503599627370496 * (2 ^ (r / 4503599627370496 - 1) * 2) := by rw [Nat.mul_comm 2, Nat.mul_assoc, Nat.mul_comm 2]
        _ ≤ (4503599627370496 + s % 4503599627370496) * (2 ^ (r / 4503599627370496 - 1) * 2) := Nat.mul_le_mul_right _ (by omega)
        _ = (4503599627370496 + s % 4503599627370496) * (2 ^ (r / 4503599627370496 - 1) * 2 * 1) := by rw [Nat.mul_one]
        _ ≤ (4503599627370496 + s % 4503599627370496) * (2 ^ (r / 4503599627370496 - 1) * 2 * 2 ^ (s / 4503599627370496 - r / 4503599627370496 - 1)) := Nat.mul_le_mul_left _ (Nat.mul_le_mul_left _ hp)
/-- What a word is. -/
theorem read_cases (b : Nat) (hb : b < 18446744073709551616) : ∃ (s : Bool) (r : Nat), r < 9223372036854775808 ∧ b = (if s then 9223372036854775808 + r else r) ∧ placeZ b = (if s then -1 - (r : Int) else r) ∧
    ((r < 9218868437227405312 ∧ ∃ m p k, double.read b = .number s m (-1074 + (k : Nat)) ∧ m * 2 ^ k = unitsR r ∧ p = k) ∨ (r = 9218868437227405312 ∧ double.read b = .infinity s) ∨ (∃ f, double.read b = .nan s f)) := by
  have hw : double.signWeight = 9223372036854775808 := by decide
  have hbin : double.binade = 4503599627370496 := by decide
  have hinf : double.infRung = 9218868437227405312 := by decide
  have hlp : double.leastPlace = -1074 := by decide
  refine ⟨b / 9223372036854775808 % 2 == 1, b % 9223372036854775808, Nat.mod_lt _ (by omega), ?_, ?_, ?_⟩
  · by_cases h : b < 9223372036854775808
    · rw [show b / 9223372036854775808 = 0 by omega]; simp; omega
    · rw [show b / 9223372036854775808 = 1 by omega]; simp; omega
  · unfold placeZ
    by_cases h : b < 9223372036854775808
    · rw [if_pos h, show b / 9223372036854775808 = 0 by omega]; simp; omega
    · rw [if_neg h, show b / 9223372036854775808 = 1 by omega]; simp; omega
  · unfold Format.read
    simp only [hw, hbin, hinf, hlp]
    generalize b % 9223372036854775808 = r
    generalize (b / 9223372036854775808 % 2 == 1) = s
    by_cases h1 : r < 4503599627370496
    · left
      refine ⟨by omega, r, 0, 0, by rw [if_pos h1]; simp, ?_, rfl⟩
      unfold unitsR; rw [if_pos h1]; simp
    · by_cases h2 : r < 9218868437227405312
      · left
        refine ⟨h2, 4503599627370496 + r % 4503599627370496, _, r / 4503599627370496 - 1, by rw [if_neg h1, if_pos h2], ?_, rfl⟩
        unfold unitsR; rw [if_neg h1]
      · by_cases h3 : r = 9218868437227405312
        · right; left
          exact ⟨h3, by rw [if_neg h1, if_neg h2, if_pos h3]⟩
        · right; right
          exact ⟨_, by rw [if_neg h1, if_neg h2, if_neg h3]⟩
theorem shift_units {m k i r : Nat} (h : i ≤ k) (hu : m * 2 ^ k = unitsR r) : (m <<< (k - i)) * 2 ^ i = unitsR r := by
  rw [Nat.shiftLeft_eq, Nat.mul_assoc, ← Nat.pow_add, Nat.sub_add_cancel h, hu]
theorem lt_of_units {x y i r u : Nat} (hx : x * 2 ^ i = unitsR r) (hy : y * 2 ^ i = unitsR u) (h : x < y) : r < u := by
  rcases Nat.lt_or_ge r u with h' | h'
  · exact h'
  · have := units_mono h'
    rw [← hx, ← hy] at this
    have := Nat.le_of_mul_le_mul_right this (Nat.two_pow_pos i)
    omega
theorem cmp_lt {x y : Int} (h : compare x y = .lt) : x < y := by
  have h' : compareOfLessAndEq x y = .lt := h
  unfold compareOfLessAndEq at h'
  split at h'
  · assumption
  · split at h' <;> cases h'
theorem place_diff {k j : Nat} : (-1074 + (k : Int) - min (-1074 + (k : Int)) (-1074 + (j : Int))).toNat = k - min k j ∧ (-1074 + (j : Int) - min (-1074 + (k : Int)) (-1074 + (j : Int))).toNat = j - min k j := by omega
theorem order_place (a b : Nat) (ha : a < 18446744073709551616) (hb : b < 18446744073709551616) (h : double.order a b = some .lt) : placeZ a < placeZ b := by
  obtain ⟨s, r, hr, ea, pa, ca⟩ := read_cases a ha
  obtain ⟨t, u, hu, eb, pb, cb⟩ := read_cases b hb
  rw [pa, pb]
  unfold Format.order at h
  rcases ca with ⟨ra, m, p, k, e1, e2, -⟩ | ⟨ra, e1⟩ | ⟨f, e1⟩
  · rcases cb with ⟨rb, n, p', j, g1, g2, -⟩ | ⟨rb, g1⟩ | ⟨f, g1⟩
    · rw [e1, g1] at h
      simp only [Datum.order, Option.some.injEq] at h
      have h1 := cmp_lt h
      rw [place_diff.1, place_diff.2] at h1
      have q1 := shift_units (Nat.min_le_left k j) e2
      have q2 := shift_units (Nat.min_le_right k j) g2
      unfold signed at h1
      generalize m <<< (k - min k j) = X at *
      generalize n <<< (j - min k j) = Y at *
      cases s <;> cases t <;> simp only [Bool.false_eq_true, if_false, if_true] at h1 ⊢
      · have := lt_of_units q1 q2 (by omega); omega
      · omega
      · omega
      · have := lt_of_units q2 q1 (by omega); omega
    · rw [e1, g1] at h
      cases s <;> cases t <;> simp [Datum.order] at h ⊢ <;> omega
    · rw [e1, g1] at h; simp [Datum.order] at h
  · rcases cb with ⟨rb, n, p', j, g1, g2, -⟩ | ⟨rb, g1⟩ | ⟨f, g1⟩
    · rw [e1, g1] at h
      cases s <;> cases t <;> simp [Datum.order] at h ⊢ <;> omega
    · rw [e1, g1] at h
      cases s <;> cases t <;> simp [Datum.order] at h ⊢ <;> first | omega | (exact absurd h (by decide))
    · rw [e1, g1] at h; simp [Datum.order] at h
  · rw [e1] at h; simp [Datum.order] at h
end Go.Proofs.YtnjhndfomjjkdaaDoorAM
