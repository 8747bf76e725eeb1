/- Chapter 14: what the laws build first; an allocator in memory of one's own. -/
import Derived.Test.YtlbmjpmonaekgaaV10
namespace Go.Proofs.YtlbmjpmonaekgaaAM
open Go Go.RowKit
set_option linter.unusedVariables false
set_option linter.unusedSimpArgs false
set_option maxRecDepth 10000
set_option maxHeartbeats 4000000

def freesB : List Bool → Nat → List Int
  | [], _ => []
  | b :: r, i => if b then (((i + 2 : Nat) : Int)) :: freesB r (i + 1) else freesB r (i + 1)
theorem frees_rng : ∀ (bs : List Bool) (i : Nat), ∀ x ∈ freesB bs i, ((i + 2 : Nat) : Int) ≤ x ∧ x < ((i + bs.length + 2 : Nat) : Int)
  | [], i, x, h => by cases h
  | b :: r, i, x, h => by
    unfold freesB at h
    simp only [List.length_cons]
    split at h
    · rcases List.mem_cons.1 h with rfl | h
      · omega
      · have := frees_rng r (i + 1) x h; omega
    · have := frees_rng r (i + 1) x h; omega
theorem frees_asc : ∀ (bs : List Bool) (i : Nat), (freesB bs i).Pairwise (· < ·)
  | [], i => .nil
  | b :: r, i => by
    unfold freesB
    split
    · rw [List.pairwise_cons]
      refine ⟨fun x hx => ?_, frees_asc r (i + 1)⟩
      have := frees_rng r (i + 1) x hx; omega
    · exact frees_asc r (i + 1)
theorem frees_app : ∀ (bs : List Bool) (b : Bool) (i : Nat), freesB (bs ++ [b]) i = freesB bs i ++ (if b then [((i + bs.length + 2 : Nat) : Int)] else [])
  | [], b, i => by cases b <;> simp [freesB]
  | c :: r, b, i => by
    simp only [List.cons_append, freesB, frees_app r b (i + 1), List.length_cons]
    have e : i + 1 + r.length + 2 = i + (r.length + 1) + 2 := by omega
    rw [e]
    cases c <;> simp
theorem frees_len : ∀ (bs : List Bool) (i : Nat), (freesB bs i).length ≤ bs.length
  | [], i => Nat.le_refl _
  | b :: r, i => by
    unfold freesB
    have := frees_len r (i + 1)
    split <;> simp only [List.length_cons] <;> omega
theorem frees_ok (bs : List Bool) (m : Int) (h1 : (bs.length : Int) + 2 ≤ m) (h2 : m ≤ 1048576) : newOk (freesB bs 0) ((bs.length : Int) + 2) m = true := by
  have hr : risesB (freesB bs 0) = true := (rises_iff _).2 (frees_asc bs 0)
  have ha : (freesB bs 0).any (badB ((bs.length : Int) + 2)) = false := by
    rw [Bool.eq_false_iff]
    intro h
    obtain ⟨x, hx, hb⟩ := List.any_eq_true.1 h
    have := frees_rng bs 0 x hx
    unfold badB at hb
    simp only [Bool.or_eq_true, decide_eq_true_eq] at hb
    omega
  unfold newOk
  rw [hr, ha]
  simp only [Bool.not_true, Bool.or_false, Bool.not_eq_true', Bool.or_eq_false_iff, decide_eq_false_iff_not]
  omega
/-- Where all lies in memory of one's own nothing is told as touched. -/
theorem AftA.own {a a' : AW} {p t g b b' : Nat} {s s' : Al} (ha : AftA a p t g b s s' a' b') (hA : AllocIs a.heap a.next p t g b s) (hd : a.dirty = []) (hb : a.base ≤ a.next) (h : a.base ≤ p ∧ a.base ≤ t ∧ a.base ≤ g ∧ a.base ≤ b) :
    ∃ n' h', a' = ⟨n', h', a.base, []⟩ ∧ AllocIs h' n' p t g b' s' ∧ a.next ≤ n' ∧ a.base ≤ b' ∧ (b' = b ∨ a.next ≤ b') ∧ ∀ j, j < a.next → j ≠ p → j ≠ t → j ≠ g → j ≠ b → look j h' = look j a.heap := by
  rcases ha with ⟨rfl, rfl, rfl⟩ | ⟨x1, x2, x3, x4, x5, x6, x7, x8⟩
  · obtain ⟨n, hh, bs, d⟩ := a'
    simp only at hd
    subst hd
    exact ⟨n, hh, rfl, hA, Nat.le_refl _, h.2.2.2, .inl rfl, fun _ _ _ _ _ _ => rfl⟩
  · obtain ⟨n', h', bs', d'⟩ := a'
    simp only at x1 x2 x3 x4 x5 x6 x7 x8
    have hd' := x7 h.1 h.2.1 h.2.2.1 h.2.2.2
    rw [hd] at hd'
    subst x2 hd'
    refine ⟨n', h', rfl, x1, x3, ?_, x4, x5⟩
    rcases x4 with rfl | h4
    · exact h.2.2.2
    · omega
/-- A row handed back, above all that was. -/
def RL (h : List (Nat × Blk)) (lo n : Nat) (v : Value) (xs : List Int) : Prop := (v = .slice none 0 0 ∧ xs = []) ∨ ∃ b, v = .slice (some ⟨b, 0, some 2⟩) xs.length xs.length ∧ lo ≤ b ∧ b < n ∧ look b h = some (.cells (xs.map (Value.int .u32)) true)
theorem RL.keep {h h' : List (Nat × Blk)} {lo n n' : Nat} {v : Value} {xs : List Int} (hr : RL h lo n v xs) (hn : n ≤ n') (hh : ∀ j, lo ≤ j → j < n → look j h' = look j h) : RL h' lo n' v xs := by
  rcases hr with hv | ⟨b, rfl, h1, h2, h3⟩
  · exact .inl hv
  · exact .inr ⟨b, rfl, h1, by omega, by rw [hh b h1 h2]; exact h3⟩
theorem RL.rowR {h : List (Nat × Blk)} {lo n : Nat} {v : Value} {xs : List Int} (hr : RL h lo n v xs) : RowR h n v xs := by
  rcases hr with ⟨rfl, rfl⟩ | ⟨b, rfl, h1, h2, h3⟩
  · exact ⟨none, 0, rfl, fun h => absurd rfl h⟩
  · exact ⟨_, _, rfl, fun _ => ⟨b, 0, some 2, _, _, h2, rfl, h3, fun i hi => by rw [Nat.zero_add]; exact rowU_at hi⟩⟩
theorem RL.rv {h : List (Nat × Blk)} {lo n : Nat} {v : Value} {xs : List Int} (hr : RL h lo n v xs) : RV encN 1 h n v xs := by
  rcases hr with hv | ⟨b, rfl, h1, h2, h3⟩
  · exact .inl hv
  · exact .inr ⟨b, 0, some 2, _, _, _, rfl, h3, h2, by simp, by rw [encN_map, List.drop_zero, Nat.mul_one, List.take_of_length_le (by simp)], .inr (.inr rfl), Nat.le_refl _⟩
theorem ListR.rl {a w : AW} {v : Value} {xs : List Int} (hr : ListR encN 2 a xs v w) : RL w.heap a.next w.next v xs := by
  rcases hr with ⟨rfl, rfl, rfl⟩ | ⟨hne, rfl, rfl⟩
  · exact .inl ⟨rfl, rfl⟩
  · exact .inr ⟨a.next, rfl, Nat.le_refl _, Nat.lt_succ_self _, by rw [← encN_map]; exact look_self⟩
theorem outK {xs : List Int} {w : AW} {K : Value → AW → Prop} (hK : ∀ v n' h', RL h' w.next n' v (srtU xs) → w.next ≤ n' → (∀ j, j < w.next → look j h' = look j w.heap) → K v ⟨n', h', w.base, w.dirty⟩) : K (outU xs w).1 (outU xs w).2 := by
  have h := out_is xs w
  obtain ⟨f1, f2, f3, f4⟩ := h.frame
  have hr := h.rl
  generalize outU xs w = r at *
  obtain ⟨v, n, hh, bs, d⟩ := r
  simp only at *
  subst f1 f2
  exact hK v n hh hr f3 f4
theorem freeK {a : AW} {p t g b : Nat} {s : Al} (hA : AllocIs a.heap a.next p t g b s) (hl : s.len ≤ 60000) {K : Value → AW → Prop} (hK : ∀ v n' h', RL h' a.next n' v (srtU (s.now ++ s.gave)) → a.next ≤ n' → (∀ j, j < a.next → look j h' = look j a.heap) → K v ⟨n', h', a.base, a.dirty⟩) : WCall Try.prog GE 13 [.pointer (some ⟨p, 0, none⟩)] a K := by
  rw [free13 hA hl]
  exact outK hK
theorem takenK {a : AW} {p t g b : Nat} {s : Al} (hA : AllocIs a.heap a.next p t g b s) (hl : s.len ≤ 60000) {K : Value → AW → Prop} (hK : ∀ v n' h', RL h' a.next n' v (srtU s.taken) → a.next ≤ n' → (∀ j, j < a.next → look j h' = look j a.heap) → K v ⟨n', h', a.base, a.dirty⟩) : WCall Try.prog GE 14 [.pointer (some ⟨p, 0, none⟩)] a K := by
  rw [taken14 hA hl]
  exact outK hK
theorem RowG.keep {α : Type} {ev : α → Value} {h h' : List (Nat × Blk)} {n n' : Nat} {v : Value} {xs : List α} (hr : RowG ev h n v xs) (hn : n ≤ n') (hh : ∀ j, j < n → look j h' = look j h) : RowG ev h' n' v xs := by
  obtain ⟨po, c, rfl, h1⟩ := hr
  refine ⟨po, c, rfl, fun hne => ?_⟩
  obtain ⟨b, o, sp, rw_, c0, hb, e, hl, hat⟩ := h1 hne
  exact ⟨b, o, sp, rw_, c0, by omega, e, by rw [hh b hb]; exact hl, hat⟩
theorem RV.keepN {h h' : List (Nat × Blk)} {n n' : Nat} {v : Value} {xs : List Int} (hr : RV encN 1 h n v xs) (hn : n ≤ n') (hh : ∀ j, j < n → look j h' = look j h) : RV encN 1 h' n' v xs := by
  rcases hr with hv | ⟨b, o, sp, cap, rw0, c, rfl, hb, hbm, rest⟩
  · exact .inl hv
  · exact .inr ⟨b, o, sp, cap, rw0, c, rfl, by rw [hh b hbm]; exact hb, by omega, rest⟩
def evB (x : Bool) : Value := .bool x
end Go.Proofs.YtlbmjpmonaekgaaAM
