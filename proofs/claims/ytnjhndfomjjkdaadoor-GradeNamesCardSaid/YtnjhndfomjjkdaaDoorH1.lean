/- Chapter 22: floats by their rungs: a hundred of them, and what is whole of these. -/
import Derived.Test.YtnjhndfomjjkdaaDoorG9
namespace Go.Proofs.YtnjhndfomjjkdaaDoorAM
open Go Go.RowKit Ieee
set_option linter.unusedVariables false
set_option linter.unusedSimpArgs false
set_option maxRecDepth 10000
set_option exponentiation.threshold 3000
set_option maxHeartbeats 4000000

theorem read_hundred : double.read 4636737291354636288 = .number false 7036874417766400 (-46) := by decide +kernel
theorem units_hundred : unitsR 4636737291354636288 = 100 * 2 ^ 1074 := by decide +kernel
theorem units_99 : unitsR 4636666922610458624 = 99 * 2 ^ 1074 := by decide +kernel
/-- The rung of a hundred times a number. -/
def cent (r : Nat) : Nat := rungOf (100 * unitsR r) 0
theorem units_pos {r : Nat} (h : 0 < r) : 0 < unitsR r := by
  have := units_lt.2 h
  omega
theorem cent_mono {r q : Nat} (h0 : 0 < r) (h : r ≤ q) : cent r ≤ cent q := by
  have := units_pos h0
  exact rungOf_mono (by omega) (Nat.mul_le_mul_left _ (units_mono h))
theorem cent_one : cent 4607182418800017408 = 4636737291354636288 := by
  unfold cent
  rw [units_one, ← units_hundred, rungOf_units _ (by decide)]
theorem mul_hundred (r : Nat) (h0 : 0 < r) (h1 : r ≤ 4607182418800017408) : double.mul r 4636737291354636288 = some (cent r) := by
  obtain ⟨m, k, e1, e2⟩ := read_nat r (by omega)
  have hu := units_pos h0
  have hm : m ≠ 0 := by rintro rfl; simp at e2; omega
  unfold Format.mul
  rw [e1, read_hundred]
  simp only [Datum.product, Option.map_some, Option.some.injEq, Format.write]
  rw [show (false ^^ false) = false from rfl, nearest_rung false _ _ (by omega)]
  have hr : rungOf (m * 7036874417766400) (-1074 + (k : Int) + -46 + 1074) = cent r := by
    refine nat_ext fun j => ?_
    unfold cent
    rw [rungOf_le _ _ (by omega), rungOf_le _ _ (by omega), ← e2]
    simp only [Int.toNat_zero, Nat.pow_zero, Nat.mul_one, Int.neg_zero]
    have h46 : (7036874417766400 : Nat) = 100 * 2 ^ 46 := by decide
    rw [h46]
    rcases Nat.lt_or_ge k 46 with h | h
    · rw [show (-1074 + (k : Int) + -46 + 1074).toNat = 0 by omega, show (-(-1074 + (k : Int) + -46 + 1074)).toNat = 46 - k by omega]
      have hp : (2 : Nat) ^ 46 = 2 ^ k * 2 ^ (46 - k) := by rw [← Nat.pow_add]; congr 1; omega
      have hpos := Nat.two_pow_pos (46 - k)
      have e3 : 2 * (m * (100 * 2 ^ 46) * 2 ^ 0) = (2 * (100 * (m * 2 ^ k))) * 2 ^ (46 - k) := by
        rw [hp]; simp only [Nat.pow_zero, Nat.mul_one, Nat.one_mul, Nat.mul_assoc, Nat.mul_left_comm, Nat.mul_comm]
      rw [e3, Nat.mul_lt_mul_right hpos, Nat.mul_left_inj (by omega)]
    · rw [show (-1074 + (k : Int) + -46 + 1074).toNat = k - 46 by omega, show (-(-1074 + (k : Int) + -46 + 1074)).toNat = 0 by omega]
      have hp : (2 : Nat) ^ k = 2 ^ 46 * 2 ^ (k - 46) := by rw [← Nat.pow_add]; congr 1; omega
      have e3 : 2 * (m * (100 * 2 ^ 46) * 2 ^ (k - 46)) = 2 * (100 * (m * 2 ^ k)) := by
        rw [hp]; simp only [Nat.mul_assoc, Nat.mul_left_comm, Nat.mul_comm]
      rw [e3, Nat.pow_zero, Nat.mul_one]
  rw [hr]
  have := cent_mono h0 h1
  rw [cent_one] at this
  rw [Nat.min_eq_left (by omega)]
  rfl
/-- What is whole of a number. -/
def whole (w : Nat) : Nat := unitsR w / 2 ^ 1074
theorem whole_mono {r q : Nat} (h : r ≤ q) : whole r ≤ whole q := Nat.div_le_div_right (units_mono h)
theorem whole_99 {w : Nat} (h : w < 4636666922610458624) : whole w ≤ 98 := by
  have h1 := units_lt.2 h
  rw [units_99] at h1
  have := (Nat.div_lt_iff_lt_mul (Nat.two_pow_pos 1074)).2 h1
  unfold whole; omega
theorem cut_zero (n d : Nat) : Toward.zero.cut false n d = n / 2 ^ d := by
  unfold Toward.cut
  simp only [Bool.toNat_false, Nat.add_zero, Nat.shiftLeft_eq, Nat.one_mul]
  rcases Nat.le_total d (n.log2 + 2) with h | h
  · rw [Nat.min_eq_left h]
  · rw [Nat.min_eq_right h]
    have h1 : n < 2 ^ (n.log2 + 1) := Nat.lt_log2_self
    have h2 : 2 ^ (n.log2 + 1) ≤ 2 ^ (n.log2 + 2) := Nat.pow_le_pow_right (by omega) (by omega)
    have h3 : 2 ^ (n.log2 + 2) ≤ 2 ^ d := Nat.pow_le_pow_right (by omega) h
    rw [Nat.div_eq_of_lt (by omega), Nat.div_eq_of_lt (by omega)]
theorem to_whole (w : Nat) (hw : w < 9218868437227405312) : (double.read w).toInt .zero = some (whole w : Int) := by
  obtain ⟨m, k, e1, e2⟩ := read_nat w hw
  rw [e1]
  simp only [Datum.toInt, Datum.integral, cut_zero, signed, Bool.false_eq_true, if_false, Nat.shiftLeft_zero, Option.some.injEq]
  unfold whole
  rw [← e2, Nat.shiftLeft_eq]
  rcases Nat.lt_or_ge k 1074 with h | h
  · rw [show (-1074 + (k : Int)).toNat = 0 by omega, show (-(-1074 + (k : Int))).toNat = 1074 - k by omega, Nat.pow_zero, Nat.mul_one]
    have hp : (2 : Nat) ^ 1074 = 2 ^ (1074 - k) * 2 ^ k := by rw [← Nat.pow_add]; congr 1; omega
    rw [hp, Nat.mul_div_mul_right _ _ (Nat.two_pow_pos k)]
  · rw [show (-1074 + (k : Int)).toNat = k - 1074 by omega, show (-(-1074 + (k : Int))).toNat = 0 by omega, Nat.pow_zero, Nat.div_one]
    have hp : (2 : Nat) ^ k = 2 ^ (k - 1074) * 2 ^ 1074 := by rw [← Nat.pow_add]; congr 1; omega
    rw [hp, ← Nat.mul_assoc, Nat.mul_div_cancel _ (Nat.two_pow_pos 1074)]
/-- A grade's step: nothing, hundredths, everything. -/
def levN (r : Nat) : Nat := if 4607182418800017408 ≤ r then 101 else if r = 0 then 0 else if 4636666922610458624 ≤ cent r then 100 else whole (cent r) + 1
theorem levN_le (r : Nat) : levN r ≤ 101 := by
  unfold levN
  split
  · omega
  · split
    · omega
    · split
      · omega
      · have := whole_99 (w := cent r) (by omega); omega
theorem levN_mono {r q : Nat} (h : r ≤ q) : levN r ≤ levN q := by
  by_cases h1 : 4607182418800017408 ≤ q
  · have : levN q = 101 := by unfold levN; rw [if_pos h1]
    have := levN_le r; omega
  · by_cases h0 : r = 0
    · have : levN r = 0 := by unfold levN; rw [if_neg (by omega), if_pos h0]
      omega
    · have hc := cent_mono (by omega) h
      unfold levN
      rw [if_neg (show ¬ 4607182418800017408 ≤ r by omega), if_neg h0, if_neg h1, if_neg (show ¬ q = 0 by omega)]
      by_cases h2 : 4636666922610458624 ≤ cent q
      · rw [if_pos h2]
        split
        · omega
        · have := whole_99 (w := cent r) (by omega); omega
      · rw [if_neg h2, if_neg (show ¬ 4636666922610458624 ≤ cent r by omega)]
        have := whole_mono hc; omega
/-- Below zero is nothing. -/
def pos (b : Nat) : Nat := if b < 9223372036854775808 then b else 0
def isNum (b : Nat) : Prop := double.order b b ≠ none
theorem pos_mono {u v : Nat} (hu : u < 18446744073709551616) (hv : v < 18446744073709551616) (h : double.order u v = some .lt ∨ double.order u v = some .eq) : pos u ≤ pos v := by
  obtain ⟨s, r, hr, eu, -, cu⟩ := read_cases u hu
  obtain ⟨t, q, hq, ev, -, cv⟩ := read_cases v hv
  have pu : pos u = if s then 0 else r := by
    unfold pos
    cases s
    · simp only [Bool.false_eq_true, if_false] at eu ⊢; rw [eu, if_pos hr]
    · simp only [if_true] at eu ⊢; rw [if_neg (by omega)]
  have pv : pos v = if t then 0 else q := by
    unfold pos
    cases t
    · simp only [Bool.false_eq_true, if_false] at ev ⊢; rw [ev, if_pos hq]
    · simp only [if_true] at ev ⊢; rw [if_neg (by omega)]
  rw [pu, pv]
  cases s with
  | true => simp
  | false =>
    simp only [Bool.false_eq_true, if_false]
    unfold Format.order at h
    rcases cu with ⟨hr2, m, p, k, e1, e2, -⟩ | ⟨hr2, e1⟩ | ⟨f, e1⟩
    · rcases cv with ⟨hq2, n, p', j, g1, g2, -⟩ | ⟨hq2, g1⟩ | ⟨f, g1⟩
      · rw [e1, g1] at h
        simp only [Datum.order, Option.some.injEq] at h
        rw [place_diff.1, place_diff.2] at h
        have q1 := shift_units (Nat.min_le_left k j) e2
        have q2 := shift_units (Nat.min_le_right k j) g2
        have hp := Nat.two_pow_pos (min k j)
        unfold signed at h
        simp only [Bool.false_eq_true, if_false] at h
        generalize m <<< (k - min k j) = X at *
        generalize n <<< (j - min k j) = Y at *
        have hle : (X : Int) ≤ if t = true then -(Y : Int) else (Y : Int) := by
          rcases Int.lt_trichotomy (X : Int) (if t = true then -(Y : Int) else (Y : Int)) with c | c | c
          · omega
          · omega
          · have := cmp_int.2.2 c
            rw [this] at h
            rcases h with h | h <;> cases h
        cases t with
        | true =>
          simp only [if_true] at hle ⊢
          have hX : X = 0 := by omega
          rw [hX, Nat.zero_mul] at q1
          rcases Nat.eq_zero_or_pos r with c | c
          · omega
          · have := units_pos c; omega
        | false =>
          simp only [Bool.false_eq_true, if_false] at hle ⊢
          have hXY : X ≤ Y := by omega
          have := Nat.mul_le_mul_right (2 ^ min k j) hXY
          rw [q1, q2] at this
          rcases Nat.lt_or_ge q r with c | c
          · have := units_lt.2 c; omega
          · exact c
      · rw [e1, g1] at h
        simp only [Datum.order] at h
        cases t with
        | true => rcases h with h | h <;> cases h
        | false => simp; omega
      · rw [e1, g1] at h
        rcases h with h | h <;> cases h
    · rcases cv with ⟨hq2, n, p', j, g1, g2, -⟩ | ⟨hq2, g1⟩ | ⟨f, g1⟩
      · rw [e1, g1] at h
        rcases h with h | h <;> cases h
      · rw [e1, g1] at h
        cases t with
        | true => rcases h with h | h <;> exact absurd h (by decide)
        | false => simp; omega
      · rw [e1, g1] at h
        rcases h with h | h <;> cases h
    · rw [e1] at h
      rcases h with h | h <;> cases h
theorem order_swap (x y : Datum) : x.order y = (y.order x).map Ordering.swap := by
  have hc : ∀ a b : Int, compare a b = (compare b a).swap := fun a b => by
    rcases Int.lt_trichotomy a b with c | c | c
    · rw [cmp_int.1 c, cmp_int.2.2 c]; rfl
    · rw [cmp_int.2.1 c, cmp_int.2.1 c.symm]; rfl
    · rw [cmp_int.2.2 c, cmp_int.1 c]; rfl
  cases x with
  | nan s f => cases y <;> rfl
  | infinity s =>
    cases y with
    | nan t f => rfl
    | infinity t => cases s <;> cases t <;> decide
    | number t n j => cases s <;> rfl
  | number s m i =>
    cases y with
    | nan t f => rfl
    | infinity t => cases t <;> rfl
    | number t n j =>
      simp only [Datum.order, Option.map_some, Option.some.injEq]
      rw [Int.min_comm i j]
      exact hc _ _
end Go.Proofs.YtnjhndfomjjkdaaDoorAM
