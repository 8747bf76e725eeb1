/- Chapter 6: a bucket set. -/
import Derived.Test.YtpcaoohacgkeiaaP10
namespace Go.Proofs.YtpcaoohacgkeiaaAM
open Go Go.RowKit
set_option linter.unusedVariables false
set_option linter.unusedSimpArgs false
set_option maxRecDepth 10000
set_option maxHeartbeats 4000000

def insB (l : List Bkt) (i : Nat) (b : Bkt) : List Bkt := l.take i ++ b :: l.drop i
theorem insert_flat (l : List Bkt) (i : Nat) (hi : i ≤ l.length) (b : Bkt) : insertAt 3 i (l.flatMap encB) (encB b) = (insB l i b).flatMap encB := by
  unfold insertAt insB
  have e2 : ((l.take i).flatMap encB).length = i * 3 := by rw [flatMap_len encB_len, List.length_take, Nat.min_eq_left hi]
  have e1 : (l.flatMap encB).take (i * 3) = (l.take i).flatMap encB := by
    conv => lhs; rw [← List.take_append_drop i l, List.flatMap_append, ← e2, List.take_left]
  have e3 : (l.flatMap encB).drop (i * 3) = (l.drop i).flatMap encB := by
    conv => lhs; rw [← List.take_append_drop i l, List.flatMap_append, ← e2, List.drop_left]
  rw [e1, e3, List.flatMap_append, List.flatMap_cons]
theorem insB_len (l : List Bkt) (i : Nat) (hi : i ≤ l.length) (b : Bkt) : (insB l i b).length = l.length + 1 := by
  simp only [insB, List.length_append, List.length_take, List.length_cons, List.length_drop]; omega
theorem ins40 {n p q : Nat} {sp : Option Nat} {d : Nat} {h : List (Nat × Blk)} {bs : Nat} {ds : List Nat} {v : Value} {l : List Bkt} {b : Bkt} (hw : Whole h n p v l) (hbp : bs ≤ p) (hbn : bs ≤ n) (hq : look q h = some (.cells (encB b) true)) (hqp : v ≠ .slice none 0 0 → q ≠ p) (hl : l.length ≤ 900000) (i : Nat) (hi : i ≤ l.length) (K : Value → AW → Prop)
    (hK : ∀ Q h', n ≤ Q → Q ≤ n + 1 → Whole h' (Q + 1) Q (.slice (some ⟨Q, 0, some 4⟩) (l.length + 1) (l.length + 1)) (insB l i b) → (∀ j, j < n → j ≠ p → look j h' = look j h) → K (.slice (some ⟨Q, 0, some 4⟩) (l.length + 1) (l.length + 1)) ⟨Q + 1, h', bs, ds⟩) :
    WCall Try.prog GV 40 [v, .int .i64 i, .slice (some ⟨q, 0, sp⟩) 1 d] ⟨n, h, bs, ds⟩ K := by
  have hfl := flatMap_len encB_len l
  have hil := insB_len l i hi b
  have hw' : ∀ {h' : List (Nat × Blk)} {Q : Nat}, look Q h' = some (.cells ((insB l i b).flatMap encB) true) → Whole h' (Q + 1) Q (.slice (some ⟨Q, 0, some 4⟩) (l.length + 1) (l.length + 1)) (insB l i b) :=
    fun hh => .inr ⟨some 4, .inr rfl, by rw [hil], hh, Nat.lt_succ_self _⟩
  have hg0 : (⟨n, h, bs, ds⟩ : AW).get q = some (.cells (encB b) true) := hq
  rcases hw with ⟨rfl, rfl⟩ | ⟨s, hs, rfl, hb, hpn⟩
  · have hi0 : i = 0 := by simpa using hi
    subst hi0
    have he : given GV 40 #[.slice none 0 0, .int .i64 ((0 : Nat) : Int), .slice (some ⟨q, 0, sp⟩) 1 d] ⟨n, h, bs, ds⟩ = some (growA 3 1 (encB b) ⟨n, h, bs, ds⟩) := by
      simp only [given, GV, insG, if_true, insertG, hg0, encB_one, encB_flat, encB_len]
      simp [hbn]
    rw [call_given (args := [_, _, _]) he]
    exact hK n _ (Nat.le_refl _) (by omega) (hw' (by simp [insB, look_self])) fun j hj _ => look_miss (show j ≠ n by omega)
  · have hgp : (⟨n, h, bs, ds⟩ : AW).get p = some (.cells (l.flatMap encB) true) := hb
    have hso : soilW bs ds p = ds := by unfold soilW; rw [if_neg (by omega)]
    rcases hs with rfl | rfl
    · have he : given GV 40 #[.slice (some ⟨p, 0, some 0⟩) l.length l.length, .int .i64 (i : Int), .slice (some ⟨q, 0, sp⟩) 1 d] ⟨n, h, bs, ds⟩ = some (growA 3 (l.length + 1) ((insB l i b).flatMap encB) ⟨n, h, bs, ds⟩) := by
        simp only [given, GV, insG, if_true, insertG, hg0, encB_one, encB_flat, encB_len, hgp, hfl, allOne encB_one l, allFlat encB_flat l, Int.toNat_natCast, insert_flat l i hi b]
        rw [if_pos ⟨hbn, by omega, by omega, hl, trivial, trivial, trivial, trivial⟩, if_pos ⟨trivial, trivial, hqp (by simp), trivial, trivial, trivial⟩]
      rw [call_given (args := [_, _, _]) he]
      exact hK n _ (Nat.le_refl _) (by omega) (hw' look_self) fun j hj _ => look_miss (show j ≠ n by omega)
    · have he : given GV 40 #[.slice (some ⟨p, 0, some 4⟩) l.length l.length, .int .i64 (i : Int), .slice (some ⟨q, 0, sp⟩) 1 d] ⟨n, h, bs, ds⟩ = some (growA 3 (l.length + 1) ((insB l i b).flatMap encB) ⟨n + 1, kill p h, bs, ds⟩) := by
        simp only [given, GV, insG, if_true, insertG, hg0, encB_one, encB_flat, encB_len, hgp, hfl, allOne encB_one l, allFlat encB_flat l, Int.toNat_natCast, insert_flat l i hi b]
        rw [if_pos ⟨hbn, by omega, by omega, hl, trivial, trivial, trivial, trivial⟩, if_pos ⟨trivial, trivial, hqp (by simp), trivial, trivial, trivial⟩, if_neg (by simp), drop_soil, hso]
      rw [call_given (args := [_, _, _]) he]
      exact hK (n + 1) _ (by omega) (Nat.le_refl _) (hw' look_self) fun j hj hjp => by
        show look j ((n + 1, _) :: kill p h) = _
        rw [look_miss (by omega), look_wkill_ne hjp]
end Go.Proofs.YtpcaoohacgkeiaaAM
