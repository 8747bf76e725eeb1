/- Chapter 22: what is written of a number, and of a quotient. -/
import Derived.Test.YtnjhndfomjjkdaaDoorG3
namespace Go.Proofs.YtnjhndfomjjkdaaDoorAM
open Go Go.RowKit Ieee
set_option linter.unusedVariables false
set_option linter.unusedSimpArgs false
set_option maxRecDepth 10000
set_option maxHeartbeats 400000

theorem nearest_rung (neg : Bool) (m : Nat) (place : Int) (hm : m ≠ 0) : double.nearest neg m place = double.word neg (min (rungOf m (place + 1074)) 9218868437227405312) := by
  have hbin : double.binade = 4503599627370496 := by decide
  have hinf : double.infRung = 9218868437227405312 := by decide
  have hlp : double.leastPlace = -1074 := by decide
  have hfb : ((double.fractionBits : Nat) : Int) = 52 := rfl
  unfold Format.nearest rungOf
  rw [if_neg hm]
  simp only [hbin, hinf, hlp, hfb, cut_eq, Nat.shiftLeft_eq]
  obtain ⟨L, hL⟩ : ∃ L, L = (max (place + 1074 + (m.log2 : Int) - 52) 0).toNat := ⟨_, rfl⟩
  have e : max (place + (m.log2 : Int) - 52) (-1074) = (L : Int) - 1074 := by omega
  rw [e, ← hL]
  rw [show (place - ((L : Int) - 1074)).toNat = (place + 1074 - L).toNat by omega, show ((L : Int) - 1074 - place).toNat = ((L : Int) - (place + 1074)).toNat by omega, show ((L : Int) - 1074 - -1074).toNat = L by omega]
/-- A rung's own number has that rung. -/
theorem rungOf_units (r : Nat) (h0 : r ≠ 0) : rungOf (unitsR r) 0 = r := by
  have hne : unitsR r ≠ 0 := by
    have := units_step (r - 1)
    rw [show r - 1 + 1 = r by omega] at this
    omega
  have h := rungOf_le (unitsR r) 0 hne
  simp only [Int.toNat_zero, Nat.pow_zero, Nat.mul_one, Int.neg_zero] at h
  have h1 : rungOf (unitsR r) 0 ≤ r := (h r).2 (.inl (by unfold midR; have := units_step r; omega))
  have h2 : ¬ rungOf (unitsR r) 0 ≤ r - 1 := by
    rw [h]
    have h3 := units_step (r - 1)
    unfold midR
    rw [show r - 1 + 1 = r by omega] at h3 ⊢
    omega
  omega
/-- Where a midpoint lies. -/
theorem mid_shape (k : Nat) : ∃ L M, midR k = M * 2 ^ L ∧ M < 18014398509481984 := by
  obtain ⟨L, j, rfl, hj, hj2⟩ : ∃ L j, k = L * 4503599627370496 + j ∧ (L = 0 ∨ 4503599627370496 ≤ j) ∧ j < 9007199254740992 := by
    by_cases h : k < 4503599627370496
    · exact ⟨0, k, by omega, .inl rfl, by omega⟩
    · exact ⟨k / 4503599627370496 - 1, k % 4503599627370496 + 4503599627370496, by omega, .inr (by omega), by omega⟩
  have hj3 : L = 0 ∨ 4503599627370496 ≤ j + 1 := hj.imp id (fun h => Nat.le_succ_of_le h)
  refine ⟨L, 2 * j + 1, ?_, by omega⟩
  unfold midR
  rw [units_in hj (Nat.le_of_lt hj2), Nat.add_assoc, units_in hj3 hj2, ← Nat.add_mul]
  congr 1; omega
theorem sticky (D n M : Nat) (hn : 0 < n) : (2 * (D / n) + (D % n != 0).toNat < 2 * M ↔ D < M * n) ∧ (2 * (D / n) + (D % n != 0).toNat = 2 * M ↔ D = M * n) := by
  have e := Nat.div_add_mod D n
  have hr := Nat.mod_lt D hn
  have hlt : D / n < M ↔ D < M * n := Nat.div_lt_iff_lt_mul hn
  by_cases h0 : D % n = 0
  · have hb : (D % n != 0).toNat = 0 := by simp [h0]
    rw [hb, Nat.add_zero]
    constructor
    · rw [← hlt]; omega
    · rw [h0, Nat.add_zero] at e
      constructor
      · intro h
        have : D / n = M := by omega
        rw [this] at e; rw [← e, Nat.mul_comm]
      · intro h
        have : D / n = M := by rw [h, Nat.mul_div_cancel _ hn]
        rw [this]
  · have hb : (D % n != 0).toNat = 1 := by simp [h0]
    rw [hb]
    constructor
    · rw [← hlt]; omega
    · constructor
      · intro h; omega
      · intro h; exact absurd (by rw [h]; exact Nat.mul_mod_left M n) h0
/-- A quotient stands to midpoints as the true one does. -/
theorem quot_mid (D n s k : Nat) (hn : 0 < n) (hD : 9007199254740992 * n ≤ D) :
    (2 * ((2 * (D / n) + (D % n != 0).toNat) * 2 ^ s) < midR k ↔ D * 2 ^ (s + 2) < midR k * n) ∧ (2 * ((2 * (D / n) + (D % n != 0).toNat) * 2 ^ s) = midR k ↔ D * 2 ^ (s + 2) = midR k * n) := by
  obtain ⟨L, M, eM, hM⟩ := mid_shape k
  rw [eM]
  have hq : 9007199254740992 ≤ D / n := (Nat.le_div_iff_mul_le hn).2 hD
  rcases Nat.lt_or_ge L (s + 2) with h | h
  · -- too small
    have p1 : 2 ^ L ≤ 2 ^ (s + 1) := Nat.pow_le_pow_right (by decide) (by omega)
    have hs1 : 2 ^ (s + 1) = 2 ^ s * 2 := Nat.pow_succ ..
    have hs2 : 2 ^ (s + 2) = 2 ^ s * 4 := by rw [Nat.pow_add]
    have hp := Nat.two_pow_pos s
    have hb : M * 2 ^ L < 36028797018963968 * 2 ^ s := by
      refine Nat.lt_of_le_of_lt (Nat.mul_le_mul_left M p1) ?_
      rw [hs1, Nat.mul_comm (2 ^ s) 2, ← Nat.mul_assoc]
      exact Nat.mul_lt_mul_of_pos_right (by omega) hp
    have ha : 36028797018963968 * 2 ^ s ≤ 2 * ((2 * (D / n) + (D % n != 0).toNat) * 2 ^ s) := by
      rw [← Nat.mul_assoc]
      exact Nat.mul_le_mul_right _ (by omega)
    have hc : 36028797018963968 * 2 ^ s * n ≤ D * 2 ^ (s + 2) := by
      rw [hs2, Nat.mul_comm (2 ^ s) 4, ← Nat.mul_assoc, Nat.mul_right_comm]
      exact Nat.mul_le_mul_right _ (by omega)
    have hd : M * 2 ^ L * n < 36028797018963968 * 2 ^ s * n := Nat.mul_lt_mul_of_pos_right hb hn
    constructor
    · constructor <;> intro hh <;> omega
    · constructor <;> intro hh <;> omega
  · have eL : 2 ^ L = 2 ^ (L - (s + 2)) * 2 ^ (s + 2) := by rw [← Nat.pow_add]; congr 1; omega
    have hs2 : 2 ^ (s + 2) = 4 * 2 ^ s := by rw [Nat.pow_add, Nat.mul_comm]
    obtain ⟨M', hM'⟩ : ∃ M', M' = M * 2 ^ (L - (s + 2)) := ⟨_, rfl⟩
    have e1 : M * 2 ^ L = M' * 2 ^ (s + 2) := by rw [eL, hM', Nat.mul_assoc]
    have st := sticky D n M' hn
    rw [e1, Nat.mul_right_comm M' _ n, Nat.mul_lt_mul_right (Nat.two_pow_pos _), ← st.1, Nat.mul_right_cancel_iff (Nat.two_pow_pos _), ← st.2]
    generalize 2 * (D / n) + (D % n != 0).toNat = A
    rw [hs2, ← Nat.mul_assoc, ← Nat.mul_assoc, Nat.mul_lt_mul_right (Nat.two_pow_pos _), Nat.mul_right_cancel_iff (Nat.two_pow_pos _)]
    omega
end Go.Proofs.YtnjhndfomjjkdaaDoorAM
