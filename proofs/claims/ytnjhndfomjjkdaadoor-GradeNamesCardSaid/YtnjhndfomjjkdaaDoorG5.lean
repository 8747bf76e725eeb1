/- Chapter 22: the quotient of two whole numbers. -/
import Derived.Test.YtnjhndfomjjkdaaDoorG4
namespace Go.Proofs.YtnjhndfomjjkdaaDoorAM
open Go Go.RowKit Ieee
set_option linter.unusedVariables false
set_option linter.unusedSimpArgs false
set_option maxRecDepth 10000
set_option maxHeartbeats 400000

theorem read_rung {L m : Nat} (h1 : 4503599627370496 ≤ m) (h2 : m < 9007199254740992) (hi : L * 4503599627370496 + m < 9218868437227405312) : double.read (L * 4503599627370496 + m) = .number false m (-1074 + (L : Int)) := by
  have hw : double.signWeight = 9223372036854775808 := by decide
  have hbin : double.binade = 4503599627370496 := by decide
  have hinf : double.infRung = 9218868437227405312 := by decide
  have hlp : double.leastPlace = -1074 := by decide
  unfold Format.read
  simp only [hw, hbin, hinf, hlp]
  rw [show (L * 4503599627370496 + m) / 9223372036854775808 = 0 by omega, show (L * 4503599627370496 + m) % 9223372036854775808 = L * 4503599627370496 + m by omega]
  rw [if_neg (by omega), if_pos hi, show 4503599627370496 + (L * 4503599627370496 + m) % 4503599627370496 = m by omega, show (L * 4503599627370496 + m) / 4503599627370496 - 1 = L by omega]
  rfl
theorem nat_ext {a b : Nat} (h : ∀ k, a ≤ k ↔ b ≤ k) : a = b := Nat.le_antisymm ((h b).2 (Nat.le_refl _)) ((h a).1 (Nat.le_refl _))
theorem rungOf_up (m s : Nat) (hm : m ≠ 0) : rungOf m s = rungOf (m * 2 ^ s) 0 := by
  refine nat_ext fun k => ?_
  have hp := Nat.two_pow_pos s
  rw [rungOf_le m s hm, rungOf_le _ 0 (Nat.mul_ne_zero hm (by omega))]
  simp
/-- A whole number as a float. -/
theorem int_read (N : Nat) (h0 : 0 < N) (h1 : N < 9007199254740992) : ∃ L m, double.nearest false N 0 = L * 4503599627370496 + m ∧ double.read (L * 4503599627370496 + m) = .number false m (-1074 + (L : Int)) ∧ m * 2 ^ L = N * 2 ^ 1074 ∧ 4503599627370496 ≤ m ∧ m < 9007199254740992 ∧ 1022 ≤ L ∧ L ≤ 1074 ∧ L * 4503599627370496 + m = rungOf N 1074 := by
  have hlo : 2 ^ N.log2 ≤ N := Nat.log2_self_le (by omega)
  have hhi : N < 2 ^ (N.log2 + 1) := Nat.lt_log2_self
  have hl : N.log2 < 53 := (Nat.log2_lt (by omega)).2 h1
  obtain ⟨l, hll⟩ : ∃ l, l = N.log2 := ⟨_, rfl⟩
  rw [← hll] at hlo hhi hl
  obtain ⟨m, hm⟩ : ∃ m, m = N * 2 ^ (52 - l) := ⟨_, rfl⟩
  have m1 : 4503599627370496 ≤ m := by
    have : (4503599627370496 : Nat) = 2 ^ l * 2 ^ (52 - l) := by rw [← Nat.pow_add, show l + (52 - l) = 52 by omega]
    rw [this, hm]; exact Nat.mul_le_mul_right _ hlo
  have m2 : m < 9007199254740992 := by
    have : (9007199254740992 : Nat) = 2 ^ (l + 1) * 2 ^ (52 - l) := by rw [← Nat.pow_add, show l + 1 + (52 - l) = 53 by omega]
    rw [this, hm]; exact Nat.mul_lt_mul_of_pos_right hhi (Nat.two_pow_pos _)
  have hu : m * 2 ^ (1022 + l) = N * 2 ^ 1074 := by
    rw [hm, Nat.mul_assoc, ← Nat.pow_add, show 52 - l + (1022 + l) = 1074 by omega]
  have hr : rungOf N 1074 = (1022 + l) * 4503599627370496 + m := by
    have e1 := rungOf_up N 1074 (by omega)
    have e2 := units_in (L := 1022 + l) (.inr m1) (Nat.le_of_lt m2)
    rw [hu] at e2
    rw [← e2, rungOf_units _ (by omega)] at e1
    exact e1
  have hi : (1022 + l) * 4503599627370496 + m < 9218868437227405312 := by omega
  refine ⟨1022 + l, m, ?_, read_rung m1 m2 hi, hu, m1, m2, by omega, by omega, hr.symm⟩
  rw [nearest_rung false N 0 (by omega), show (0 : Int) + 1074 = ((1074 : Nat) : Int) from rfl, show rungOf N ((1074 : Nat) : Int) = _ from hr, Nat.min_eq_left (Nat.le_of_lt hi)]
  rfl
theorem log_of {m : Nat} (h1 : 4503599627370496 ≤ m) (h2 : m < 9007199254740992) : m.log2 = 52 := by
  have a1 : m.log2 < 53 := (Nat.log2_lt (by omega)).2 h2
  have a2 : 52 ≤ m.log2 := (Nat.le_log2 (by omega)).2 h1
  omega
theorem div_int (N P : Nat) (hN : 0 < N) (hN2 : N < 9007199254740992) (hP : 0 < P) (hP2 : P < 9007199254740992) :
    ∃ r, double.div (double.nearest false N 0) (double.nearest false P 0) = some r ∧ r < 9218868437227405312 ∧ ∀ k, r ≤ k ↔ (N * 2 ^ 1075 < midR k * P ∨ (N * 2 ^ 1075 = midR k * P ∧ k % 2 = 0)) := by
  obtain ⟨a, m, w1, r1, u1, m1, m2, a1, a2, -⟩ := int_read N hN hN2
  obtain ⟨b, n, w2, r2, u2, n1, n2, b1, b2, -⟩ := int_read P hP hP2
  obtain ⟨s, hs⟩ : ∃ s, s = a + 1019 - b := ⟨_, rfl⟩
  have hn : 0 < n := by omega
  obtain ⟨D, hD⟩ : ∃ D, D = m * 2 ^ 54 := ⟨_, rfl⟩
  have hDn : 9007199254740992 * n ≤ D := by
    have : (2 : Nat) ^ 54 = 18014398509481984 := by decide
    rw [hD, this]; omega
  obtain ⟨A, hA⟩ : ∃ A, A = 2 * (D / n) + (D % n != 0).toNat := ⟨_, rfl⟩
  have hq : 9007199254740992 ≤ D / n := (Nat.le_div_iff_mul_le hn).2 hDn
  have hA0 : A ≠ 0 := by omega
  have hk : ∀ k, rungOf A s ≤ k ↔ (N * 2 ^ 1075 < midR k * P ∨ (N * 2 ^ 1075 = midR k * P ∧ k % 2 = 0)) := by
    intro k
    have hq := quot_mid D n s k hn hDn
    rw [← hA] at hq
    rw [rungOf_le A s hA0]
    have z : (-(s : Int)).toNat = 0 := by omega
    rw [z, Nat.pow_zero, Nat.mul_one, Int.toNat_natCast, hq.1, hq.2]
    have key : ∀ X, D * 2 ^ (s + 2) * 2 ^ b = N * 2 ^ 1075 * 2 ^ 1074 ∧ X * n * 2 ^ b = X * P * 2 ^ 1074 := by
      intro X
      constructor
      · rw [hD, Nat.mul_assoc, ← Nat.pow_add, Nat.mul_assoc, ← Nat.pow_add, show 54 + (s + 2 + b) = a + 1075 by omega, Nat.pow_add, ← Nat.mul_assoc, u1, Nat.mul_right_comm]
      · rw [Nat.mul_assoc, u2, Nat.mul_assoc]
    have k1 := key (midR k)
    have p1 := Nat.two_pow_pos b
    have p2 := Nat.two_pow_pos 1074
    rw [← Nat.mul_lt_mul_right p1, k1.1, k1.2, Nat.mul_lt_mul_right p2, ← Nat.mul_right_cancel_iff p1, k1.1, k1.2, Nat.mul_right_cancel_iff p2]
  have hlim : rungOf A s < 9218868437227405312 := by
    have h1 : rungOf A s ≤ 1075 * 4503599627370496 + 4503599627370496 := by
      rw [hk]
      left
      have e := units_in (L := 1075) (k := 4503599627370496) (.inr (Nat.le_refl _)) (by decide)
      have e2 := units_step (1075 * 4503599627370496 + 4503599627370496)
      have e3 : 9007199254740992 * 2 ^ 1075 ≤ midR (1075 * 4503599627370496 + 4503599627370496) := by
        unfold midR; rw [e] at e2 ⊢
        generalize 2 ^ 1075 = T at *
        omega
      refine Nat.lt_of_lt_of_le (Nat.mul_lt_mul_of_pos_right hN2 (Nat.two_pow_pos 1075)) (Nat.le_trans e3 ?_)
      exact Nat.le_mul_of_pos_right _ hP
    omega
  refine ⟨rungOf A s, ?_, hlim, hk⟩
  rw [w1, w2]
  unfold Format.div
  rw [r1, r2]
  unfold Datum.quotient
  simp only [if_neg (show n ≠ 0 by omega), log_of m1 m2, log_of n1 n2, show double.fractionBits + 2 + 52 - 52 = 54 from rfl, Nat.shiftLeft_eq, ← hD, ← hA, Option.map_some, Option.some.injEq]
  unfold Format.write
  rw [show (false ^^ false) = false from rfl]
  simp only []
  rw [nearest_rung false A _ hA0, show -1074 + (a : Int) - (-1074 + (b : Int)) - ((54 : Nat) : Int) - 1 + 1074 = (s : Int) by omega, Nat.min_eq_left (Nat.le_of_lt hlim)]
  rfl
end Go.Proofs.YtnjhndfomjjkdaaDoorAM
