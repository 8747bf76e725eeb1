/- Chapter 22: the mean of one number is that number. -/
import Derived.Test.YtnjhndfomjjkdaaDoorI3
namespace Go.Proofs.YtnjhndfomjjkdaaDoorAM
open Go Go.RowKit Ieee
set_option linter.unusedVariables false
set_option linter.unusedSimpArgs false
set_option maxRecDepth 10000
set_option maxHeartbeats 400000
set_option exponentiation.threshold 3000

theorem read_mag {b : Nat} {s : Bool} {m : Nat} {p : Int} (h : double.read b = .number s m p) : m < 9007199254740992 := by
  have hw : double.signWeight = 9223372036854775808 := by decide
  have hbin : double.binade = 4503599627370496 := by decide
  have hinf : double.infRung = 9218868437227405312 := by decide
  unfold Format.read at h
  simp only [hw, hbin, hinf] at h
  split at h
  · cases h; omega
  · split at h
    · cases h; omega
    · split at h <;> cases h
theorem rung_scale (m : Nat) (hm : m ≠ 0) (s : Int) (j : Nat) : rungOf (m * 2 ^ j) (s - j) = rungOf m s := by
  have hj := Nat.two_pow_pos j
  have hm' : m * 2 ^ j ≠ 0 := Nat.mul_ne_zero hm (by omega)
  refine nat_ext fun k => ?_
  rw [rungOf_le _ _ hm', rungOf_le _ _ hm]
  have h := pow_split (m * 2 ^ j) (midR k) j s
  rw [show -(s - (j : Int)) = (j : Int) - s by omega, h.1, h.2]
  have e1 : 2 * (m * 2 ^ j * 2 ^ s.toNat) = 2 * (m * 2 ^ s.toNat) * 2 ^ j := by rw [Nat.mul_right_comm m, Nat.mul_assoc 2]
  have e2 : midR k * 2 ^ j * 2 ^ (-s).toNat = midR k * 2 ^ (-s).toNat * 2 ^ j := Nat.mul_right_comm ..
  rw [e1, e2, Nat.mul_lt_mul_right hj, Nat.mul_right_cancel_iff hj]
theorem near_scale {m k r : Nat} (s : Bool) (h : m * 2 ^ k = unitsR r) (h0 : r ≠ 0) (hr : r < 9218868437227405312) (j : Nat) : double.nearest s (m * 2 ^ j) (-1074 + (k : Int) - j) = double.word s r := by
  have hp := units_pos (Nat.pos_of_ne_zero h0)
  have hm : m ≠ 0 := by rintro rfl; rw [Nat.zero_mul] at h; omega
  have hm' : m * 2 ^ j ≠ 0 := Nat.mul_ne_zero hm (by have := Nat.two_pow_pos j; omega)
  rw [nearest_rung s _ _ hm', show -1074 + (k : Int) - j + 1074 = (k : Int) - j by omega, rung_scale m hm, rungOf_up m k hm, h, rungOf_units r h0, Nat.min_eq_left (by omega)]
theorem word_of (s : Bool) (r : Nat) : double.word s r = if s then 9223372036854775808 + r else r := by
  have hw : double.signWeight = 9223372036854775808 := by decide
  unfold Format.word; rw [hw]
theorem read_one : double.read 4607182418800017408 = .number false 4503599627370496 (-52) := by decide +kernel
theorem units_zero {r m k : Nat} (h : m * 2 ^ k = unitsR r) : m = 0 ↔ r = 0 := by
  constructor
  · rintro rfl
    rcases Nat.eq_zero_or_pos r with h0 | h0
    · exact h0
    · have := units_pos h0; rw [Nat.zero_mul] at h; omega
  · rintro rfl
    have : unitsR 0 = 0 := by decide
    rw [this] at h
    rcases Nat.mul_eq_zero.1 h with h1 | h1
    · exact h1
    · have := Nat.two_pow_pos k; omega
theorem mean_one (b : Nat) (hb : b < 18446744073709551616) (hn : isNum b) : ∃ x r, double.add 0 b = some x ∧ double.div x 4607182418800017408 = some r ∧ double.order r b = some .eq := by
  obtain ⟨s, r, hr, eu, -, cu⟩ := read_cases b hb
  have hself := (num_cases hb hn).2.1
  have hz : double.read 0 = .number false 0 (-1074) := by decide +kernel
  rcases cu with ⟨hr2, m, p, k, e1, e2, -⟩ | ⟨hr2, e1⟩ | ⟨f, e1⟩
  · have hm := read_mag e1
    have huz := units_zero e2
    by_cases h0 : r = 0
    · subst h0
      refine ⟨0, 0, ?_, by decide +kernel, ?_⟩
      · cases s <;> simp at eu <;> subst eu <;> decide +kernel
      · cases s <;> simp at eu <;> subst eu <;> decide +kernel
    · have hm0 : m ≠ 0 := fun h => h0 (huz.1 h)
      have hmk : 0 < m * 2 ^ k := by rw [e2]; exact units_pos (Nat.pos_of_ne_zero h0)
      refine ⟨b, b, ?_, ?_, hself⟩
      · unfold Format.add
        rw [hz, e1]
        simp only [Datum.sum, Option.map_some, Option.some.injEq]
        have hmin : min (-1074 : Int) (-1074 + (k : Int)) = -1074 := by omega
        rw [hmin, show (-1074 + (k : Int) - -1074).toNat = k by omega]
        have hs : signed false 0 ((-1074 : Int) - -1074).toNat = 0 := by rfl
        rw [hs, Int.zero_add]
        have hsg : signed s m k = if s then -((m * 2 ^ k : Nat) : Int) else ((m * 2 ^ k : Nat) : Int) := by unfold signed; rw [Nat.shiftLeft_eq]
        rw [hsg]
        generalize hM : m * 2 ^ k = M at *
        have hne : ¬ (if s then -(M : Int) else (M : Int)) = 0 := by split <;> omega
        rw [if_neg hne]
        have hlt : decide ((if s then -(M : Int) else (M : Int)) < 0) = s := by cases s <;> simp <;> omega
        have hab : (if s then -(M : Int) else (M : Int)).natAbs = M := by cases s <;> simp
        rw [hlt, hab]
        show double.nearest s M (-1074) = b
        have := near_scale s (by rw [hM]; exact e2) h0 hr2 k
        rw [hM, show -1074 + (k : Int) - k = -1074 by omega] at this
        rw [this, word_of, ← eu]
      · unfold Format.div
        rw [e1, read_one]
        unfold Datum.quotient
        have hlog : (4503599627370496 : Nat).log2 = 52 := log_of (by decide) (by decide)
        have hml : m.log2 < 53 := (Nat.log2_lt hm0).2 hm
        simp only [if_neg (show ¬ (4503599627370496 = 0) by decide), hlog, Nat.shiftLeft_eq, Option.map_some, Option.some.injEq, show double.fractionBits + 2 + 52 = 106 from rfl]
        obtain ⟨j, hj⟩ : ∃ j, 106 - m.log2 = 52 + j := ⟨54 - m.log2, by omega⟩
        rw [hj, Nat.pow_add, show (2 : Nat) ^ 52 = 4503599627370496 by decide, Nat.mul_left_comm, Nat.mul_div_cancel_left _ (by decide), Nat.mul_mod_right]
        unfold Format.write
        rw [show (s ^^ false) = s by cases s <;> rfl]
        simp only [bne_self_eq_false, Bool.toNat_false, Nat.add_zero]
        have := near_scale s e2 h0 hr2 (j + 1)
        rw [show 2 * (m * 2 ^ j) = m * 2 ^ (j + 1) by rw [Nat.pow_succ, Nat.mul_comm 2, Nat.mul_assoc], show -1074 + (k : Int) - -52 - ((52 + j : Nat) : Int) - 1 = -1074 + (k : Int) - ((j + 1 : Nat) : Int) by omega, this, word_of, ← eu]
  · subst hr2
    refine ⟨b, b, ?_, ?_, hself⟩
    · unfold Format.add; rw [hz, e1]
      cases s <;> simp at eu <;> subst eu <;> decide +kernel
    · unfold Format.div; rw [read_one, e1]
      cases s <;> simp at eu <;> subst eu <;> decide +kernel
  · unfold isNum Format.order at hn
    rw [e1] at hn
    exact absurd rfl hn
end Go.Proofs.YtnjhndfomjjkdaaDoorAM
