/- Chapter 22: to round is to pass midpoints. -/
import Derived.Test.YtnjhndfomjjkdaaDoorG2
namespace Go.Proofs.YtnjhndfomjjkdaaDoorAM
open Go Go.RowKit Ieee
set_option linter.unusedVariables false
set_option linter.unusedSimpArgs false
set_option maxRecDepth 10000
set_option maxHeartbeats 4000000

/-- To the nearest whole number, to the even one between two. -/
def rne (n d : Nat) : Nat := n / 2 ^ d + (if 2 ^ d < 2 * (n % 2 ^ d) ∨ (2 ^ d = 2 * (n % 2 ^ d) ∧ n / 2 ^ d % 2 = 1) then 1 else 0)
theorem cut_eq (neg : Bool) (n d : Nat) : Toward.even.cut neg n d = rne n d := by
  have hlog : n < 2 ^ (n.log2 + 1) := Nat.lt_log2_self
  by_cases hd : d ≤ n.log2 + 2
  · unfold Toward.cut rne
    simp only [Nat.min_eq_left hd, Nat.shiftLeft_eq, Nat.one_mul]
    congr 1
    generalize 2 ^ d = G
    generalize n % G = r
    generalize n / G = q
    by_cases h1 : G < 2 * r
    · simp [h1]
    · by_cases h2 : G = 2 * r
      · by_cases h3 : q % 2 = 1
        · simp [h1, h2, h3]
        · simp [h1, h2, h3]
      · simp [h1, h2]
  · have hp : 2 ^ (n.log2 + 2) = 2 * 2 ^ (n.log2 + 1) := by rw [Nat.pow_succ, Nat.mul_comm]
    have hp2 : 2 ^ (n.log2 + 2) ≤ 2 ^ d := Nat.pow_le_pow_right (by omega) (by omega)
    have e1 : rne n d = 0 := by
      unfold rne
      rw [Nat.div_eq_of_lt (by omega), Nat.mod_eq_of_lt (by omega), if_neg (by omega)]
    rw [e1]
    unfold Toward.cut
    simp only [Nat.min_eq_right (show n.log2 + 2 ≤ d by omega), Nat.shiftLeft_eq, Nat.one_mul]
    rw [Nat.div_eq_of_lt (by omega), Nat.mod_eq_of_lt (by omega)]
    have h1 : ¬ 2 ^ (n.log2 + 2) < 2 * n := by omega
    have h2 : (2 ^ (n.log2 + 2) == 2 * n) = false := by simp; omega
    simp [h1, h2]
theorem rne_le (n d k : Nat) : rne n d ≤ k ↔ (2 * n < (2 * k + 1) * 2 ^ d ∨ (2 * n = (2 * k + 1) * 2 ^ d ∧ k % 2 = 0)) := by
  unfold rne
  obtain ⟨D, hD⟩ : ∃ D, D = 2 ^ d := ⟨_, rfl⟩
  rw [← hD]
  have hD0 : 0 < D := by rw [hD]; exact Nat.two_pow_pos d
  have hn := Nat.div_add_mod n D
  have hr := Nat.mod_lt n hD0
  generalize n / D = q at *
  generalize n % D = r at *
  have hexp : (2 * k + 1) * D = 2 * (k * D) + D := by rw [Nat.add_mul, Nat.one_mul, Nat.mul_assoc]
  rw [hexp, ← hn]
  rcases Nat.lt_trichotomy q k with h | h | h
  · have h1 : D * q + D ≤ k * D := by rw [Nat.mul_comm k D, ← Nat.mul_succ]; exact Nat.mul_le_mul_left D h
    constructor
    · intro _; left; omega
    · intro _; split <;> omega
  · subst h
    rw [Nat.mul_comm q D]
    constructor
    · intro h1
      split at h1
      · omega
      · rename_i h2; omega
    · intro h1
      rw [if_neg (by omega)]; omega
  · have h1 : k * D + D ≤ D * q := by rw [Nat.mul_comm k D, ← Nat.mul_succ]; exact Nat.mul_le_mul_left D h
    constructor
    · intro h2; split at h2 <;> omega
    · intro h2; omega
theorem pow_split (m M L : Nat) (s : Int) : (2 * (m * 2 ^ (s - L).toNat) < M * 2 ^ (L - s).toNat ↔ 2 * (m * 2 ^ s.toNat) < M * 2 ^ L * 2 ^ (-s).toNat) ∧ (2 * (m * 2 ^ (s - L).toNat) = M * 2 ^ (L - s).toNat ↔ 2 * (m * 2 ^ s.toNat) = M * 2 ^ L * 2 ^ (-s).toNat) := by
  rcases Int.le_total (L : Int) s with h | h
  · have e1 : s.toNat = (s - L).toNat + L := by omega
    have e2 : ((L : Int) - s).toNat = 0 := by omega
    have e3 : (-s).toNat = 0 := by omega
    rw [e1, e2, e3, Nat.pow_add, Nat.pow_zero, Nat.mul_one, Nat.mul_one, ← Nat.mul_assoc m, ← Nat.mul_assoc 2 _ (2 ^ L)]
    exact ⟨(Nat.mul_lt_mul_right (Nat.two_pow_pos L)).symm, ⟨fun h => by rw [h], fun h => Nat.eq_of_mul_eq_mul_right (Nat.two_pow_pos L) h⟩⟩
  · have e0 : (s - L).toNat = 0 := by omega
    rcases Int.le_total 0 s with h0 | h0
    · have e3 : (-s).toNat = 0 := by omega
      have e1 : 2 ^ L = 2 ^ ((L : Int) - s).toNat * 2 ^ s.toNat := by rw [← Nat.pow_add]; congr 1; omega
      rw [e0, e3, e1, Nat.pow_zero, Nat.mul_one, Nat.mul_one, ← Nat.mul_assoc 2 m, ← Nat.mul_assoc M]
      exact ⟨(Nat.mul_lt_mul_right (Nat.two_pow_pos _)).symm, ⟨fun h => by rw [h], fun h => Nat.eq_of_mul_eq_mul_right (Nat.two_pow_pos _) h⟩⟩
    · have e1 : ((L : Int) - s).toNat = L + (-s).toNat := by omega
      have e2 : s.toNat = 0 := by omega
      rw [e0, e1, e2, Nat.pow_add, ← Nat.mul_assoc M]
      exact ⟨Iff.rfl, Iff.rfl⟩
/-- Twice the midpoint between a rung and the next. -/
def midR (k : Nat) : Nat := unitsR k + unitsR (k + 1)
theorem units_in {L k : Nat} (h1 : L = 0 ∨ 4503599627370496 ≤ k) (h2 : k ≤ 9007199254740992) : unitsR (L * 4503599627370496 + k) = k * 2 ^ L := by
  unfold unitsR
  by_cases h0 : L * 4503599627370496 + k < 4503599627370496
  · rw [if_pos h0]
    have : L = 0 := by omega
    subst this; simp
  · rw [if_neg h0]
    by_cases hk : k < 4503599627370496
    · have : L = 0 := by omega
      subst this; omega
    · by_cases hk2 : k = 9007199254740992
      · have e1 : (L * 4503599627370496 + k) / 4503599627370496 = L + 2 := by omega
        have e2 : (L * 4503599627370496 + k) % 4503599627370496 = 0 := by omega
        have e3 : L + 2 - 1 = L + 1 := by omega
        rw [e1, e2, e3, Nat.pow_succ, hk2, Nat.add_zero, Nat.mul_comm _ 2, ← Nat.mul_assoc]
      · have e1 : (L * 4503599627370496 + k) / 4503599627370496 = L + 1 := by omega
        have e2 : 4503599627370496 + (L * 4503599627370496 + k) % 4503599627370496 = k := by omega
        rw [e1, e2, Nat.add_sub_cancel]
theorem units_step (r : Nat) : unitsR r < unitsR (r + 1) := by
  obtain ⟨L, k, rfl, hk, hk2⟩ : ∃ L k, r = L * 4503599627370496 + k ∧ (L = 0 ∨ 4503599627370496 ≤ k) ∧ k < 9007199254740992 := by
    by_cases h : r < 4503599627370496
    · exact ⟨0, r, by omega, .inl rfl, by omega⟩
    · exact ⟨r / 4503599627370496 - 1, r % 4503599627370496 + 4503599627370496, by omega, .inr (by omega), by omega⟩
  have hk3 : L = 0 ∨ 4503599627370496 ≤ k + 1 := hk.imp id (fun h => Nat.le_succ_of_le h)
  have e1 := units_in hk (Nat.le_of_lt hk2)
  have e2 := units_in hk3 hk2
  rw [e1, Nat.add_assoc, e2]
  exact Nat.mul_lt_mul_of_pos_right (Nat.lt_succ_self k) (Nat.two_pow_pos L)
theorem ar1' {n D M : Nat} {p : Prop} (h : (M + 1) * D ≤ n) (hD : 0 < D) : ¬ (2 * n < (2 * M + 1) * D ∨ (2 * n = (2 * M + 1) * D ∧ p)) := by
  have e1 : (M + 1) * D = M * D + D := Nat.succ_mul M D
  have e2 : (2 * M + 1) * D = 2 * (M * D) + D := by rw [Nat.add_mul, Nat.one_mul, Nat.mul_assoc]
  rw [e2]; rw [e1] at h
  rintro (h1 | ⟨h1, _⟩) <;> omega
theorem ar1 {r n D : Nat} (e : ∀ k, r ≤ k ↔ (2 * n < (2 * k + 1) * D ∨ (2 * n = (2 * k + 1) * D ∧ k % 2 = 0))) (h : 4503599627370496 * D ≤ n) (hD : 0 < D) : ¬ r ≤ 4503599627370495 := by
  obtain ⟨M, hM⟩ : ∃ M, M = 4503599627370495 := ⟨_, rfl⟩
  have h2 : (M + 1) * D ≤ n := by rw [hM]; exact h
  rw [← hM, e]; exact ar1' h2 hD
theorem ar2 {a b P : Nat} (h : a < b) (h2 : b ≤ 4503599627370496 * P) : a + b < 9007199254740992 * P := by omega
theorem ar3 {n D : Nat} (h : 4503599627370496 * D ≤ n) : ¬ 2 * n < 9007199254740992 * D := by omega
theorem ar4 {X r k : Nat} (h : X + r ≤ k) (h1 : k < X + 4503599627370496) : r ≤ 4503599627370495 := by omega
theorem ar5 {a b P : Nat} (h : a < b) (h2 : 9007199254740992 * P ≤ a) : 18014398509481984 * P ≤ a + b := by omega
theorem ar6 {n D : Nat} (h : n < 9007199254740992 * D) : 2 * n < 18014398509481984 * D := by omega
theorem ar7 {X r k : Nat} (h : r ≤ 9007199254740992) (h1 : X + 9007199254740992 ≤ k) : X + r ≤ k := by omega
theorem ar8 {X k : Nat} (h1 : k < X + 4503599627370496) : k + 1 ≤ X + 4503599627370496 := h1
theorem ar9 {n D : Nat} (h : n < 9007199254740992 * D) : 2 * n < (2 * 9007199254740992 + 1) * D := by omega
/-- What is written of a number, as a rung that nothing bounds. -/
def rungOf (m : Nat) (s : Int) : Nat :=
  let L := (max (s + m.log2 - 52) 0).toNat
  L * 4503599627370496 + rne (m * 2 ^ (s - L).toNat) (L - s).toNat
theorem rungOf_le (m : Nat) (s : Int) (hm : m ≠ 0) (k : Nat) : rungOf m s ≤ k ↔ (2 * (m * 2 ^ s.toNat) < midR k * 2 ^ (-s).toNat ∨ (2 * (m * 2 ^ s.toNat) = midR k * 2 ^ (-s).toNat ∧ k % 2 = 0)) := by
  unfold rungOf
  obtain ⟨L, hL⟩ : ∃ L, L = (max (s + m.log2 - 52) 0).toNat := ⟨_, rfl⟩
  simp only
  rw [← hL]
  have hlo : 2 ^ m.log2 ≤ m := Nat.log2_self_le hm
  have hhi : m < 2 ^ (m.log2 + 1) := Nat.lt_log2_self
  -- the value, in units of 2 ^ L
  obtain ⟨n, hn⟩ : ∃ n, n = m * 2 ^ (s - L).toNat := ⟨_, rfl⟩
  obtain ⟨d, hd⟩ : ∃ d, d = ((L : Int) - s).toNat := ⟨_, rfl⟩
  have hub : n < 9007199254740992 * 2 ^ d := by
    rw [hn]
    have h53 : (9007199254740992 : Nat) = 2 ^ 53 := by decide
    rw [h53, ← Nat.pow_add]
    refine Nat.lt_of_lt_of_le ((Nat.mul_lt_mul_right (Nat.two_pow_pos _)).2 hhi) ?_
    rw [← Nat.pow_add]
    exact Nat.pow_le_pow_right (by omega) (by omega)
  have hlb : 0 < L → 4503599627370496 * 2 ^ d ≤ n := by
    intro h0
    rw [hn]
    have h52 : (4503599627370496 : Nat) = 2 ^ 52 := by decide
    rw [h52, ← Nat.pow_add]
    refine Nat.le_trans ?_ (Nat.mul_le_mul_right _ hlo)
    rw [← Nat.pow_add]
    exact Nat.pow_le_pow_right (by omega) (by omega)
  have hsp := fun M => pow_split m M L s
  rw [← hn, ← hd] at hsp ⊢
  have hr := rne_le n d
  have hD0 : 0 < 2 ^ d := Nat.two_pow_pos d
  generalize hDD : 2 ^ d = DD at *
  -- bounds of what is kept
  have hk2 : rne n d ≤ 9007199254740992 := by
    rw [hr]; exact .inl (ar9 hub)
  rcases Nat.lt_or_ge k (L * 4503599627370496 + (if L = 0 then 0 else 4503599627370496)) with h1 | h1
  · -- below the binade
    have hL0 : 0 < L := by
      rcases Nat.eq_zero_or_pos L with h | h
      · rw [if_pos h] at h1; omega
      · exact h
    rw [if_neg (by omega)] at h1
    have hl := hlb hL0
    have hkept : ¬ rne n d ≤ 4503599627370495 := by
      exact ar1 hr hl hD0
    have u1 := units_step k
    have u2 := units_mono (ar8 h1)
    rw [units_in (L := L) (k := 4503599627370496) (.inr (Nat.le_refl _)) (by decide)] at u2
    have hmid : midR k < 9007199254740992 * 2 ^ L := ar2 u1 u2
    have hb := (hsp 9007199254740992).1
    have hge : ¬ 2 * n < 9007199254740992 * DD := ar3 hl
    rw [hb] at hge
    have hm2 : midR k * 2 ^ (-s).toNat < 9007199254740992 * 2 ^ L * 2 ^ (-s).toNat := (Nat.mul_lt_mul_right (Nat.two_pow_pos _)).2 hmid
    refine ⟨fun h => absurd (ar4 h h1) hkept, fun h => ?_⟩
    rcases h with h | ⟨h, _⟩
    · exact absurd (Nat.lt_trans h hm2) hge
    · exact absurd (by rw [h]; exact hm2) hge
  · rcases Nat.lt_or_ge k (L * 4503599627370496 + 9007199254740992) with h2 | h2
    · -- within
      obtain ⟨k', rfl⟩ : ∃ k', k = L * 4503599627370496 + k' := ⟨k - L * 4503599627370496, by split at h1 <;> omega⟩
      have hk' : L = 0 ∨ 4503599627370496 ≤ k' := by split at h1 <;> omega
      have hm1 := units_in hk' (by omega : k' ≤ 9007199254740992)
      have hm2 := units_in (L := L) (k := k' + 1) (by omega) (by omega)
      have hmid : midR (L * 4503599627370496 + k') = (2 * k' + 1) * 2 ^ L := by
        unfold midR
        rw [hm1, Nat.add_assoc, hm2, ← Nat.add_mul]; congr 1; omega
      rw [hmid, ← (hsp (2 * k' + 1)).1, ← (hsp (2 * k' + 1)).2, Nat.add_le_add_iff_left, hr]
      rw [show (L * 4503599627370496 + k') % 2 = k' % 2 by omega]
    · -- above
      have u2 := units_mono h2
      rw [units_in (L := L) (k := 9007199254740992) (.inr (by decide)) (Nat.le_refl _)] at u2
      have u1 := units_step k
      have hmid : 18014398509481984 * 2 ^ L ≤ midR k := ar5 u1 u2
      have hb := (hsp 18014398509481984).1
      have hlt : 2 * n < 18014398509481984 * DD := ar6 hub
      rw [hb] at hlt
      have hm2 : 18014398509481984 * 2 ^ L * 2 ^ (-s).toNat ≤ midR k * 2 ^ (-s).toNat := Nat.mul_le_mul_right _ hmid
      exact ⟨fun _ => .inl (Nat.lt_of_lt_of_le hlt hm2), fun _ => ar7 hk2 h2⟩
end Go.Proofs.YtnjhndfomjjkdaaDoorAM
