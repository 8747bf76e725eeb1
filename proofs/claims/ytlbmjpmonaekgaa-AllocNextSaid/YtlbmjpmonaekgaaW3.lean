/- Chapter 14: what is free, taken up anew. -/
import Derived.Test.YtlbmjpmonaekgaaW2
namespace Go.Proofs.YtlbmjpmonaekgaaAM
open Go Go.RowKit
set_option linter.unusedVariables false
set_option linter.unusedSimpArgs false
set_option maxRecDepth 10000
set_option maxHeartbeats 4000000

theorem srtU_strict {l : List Int} (h : l.Nodup) : (srtU l).Pairwise (· < ·) := by
  have h1 := srtU_srt l
  have h2 : (srtU l).Nodup := (srtU_perm l).nodup_iff.2 h
  rw [List.pairwise_iff_getElem] at h1 ⊢
  intro i j hi hj hij
  have := h1 i j hi hj hij
  have hne : (srtU l)[i] ≠ (srtU l)[j] := List.pairwise_iff_getElem.1 h2 i j hi hj hij
  omega
theorem nodup_asc {l : List Int} (h : l.Pairwise (· < ·)) : l.Nodup := h.imp fun h => by omega
theorem srtU_id {l : List Int} (h : l.Pairwise (· ≤ ·)) : srtU l = l := (srtU_of (.refl l) h).symm
theorem srtU_twice (l : List Int) : srtU (srtU l) = srtU l := srtU_id (srtU_srt l)
theorem free_nodup {s : Al} (h : Wf s) (hg : s.gave.Nodup) : (s.now ++ s.gave).Nodup := by
  rw [List.nodup_append]
  exact ⟨nodup_asc h.asc, hg, fun x hx y hy e => h.ng x hx (e ▸ hy)⟩
theorem mem_srtU {l : List Int} {x : Int} : x ∈ srtU l ↔ x ∈ l := (srtU_perm l).mem_iff
theorem newOk_free {s : Al} (h : Wf s) (hg : s.gave.Nodup) (m : Int) (hm : s.first ≤ m) (hm2 : m ≤ 1048576) : newOk (srtU (s.now ++ s.gave)) s.first m = true := by
  have hr : risesB (srtU (s.now ++ s.gave)) = true := (rises_iff _).2 (srtU_strict (free_nodup h hg))
  have hfm := h.fm
  have ha : (srtU (s.now ++ s.gave)).any (badB s.first) = false := by
    rw [Bool.eq_false_iff]
    intro hh
    obtain ⟨x, hx, hb⟩ := List.any_eq_true.1 hh
    have hx2 : 2 ≤ x ∧ x < s.first := by
      rcases List.mem_append.1 (mem_srtU.1 hx) with hx | hx
      · exact h.rn x hx
      · exact h.rg x hx
    unfold badB at hb
    simp only [Bool.or_eq_true, decide_eq_true_eq] at hb
    omega
  unfold newOk
  rw [hr, ha]
  simp only [Bool.not_true, Bool.or_false, Bool.not_eq_true', Bool.or_eq_false_iff, decide_eq_false_iff_not]
  omega
theorem step_most (s : Al) (x : Int) : (stepS s x).most = s.most := by
  unfold stepS takeS giveS
  split
  · split
    · rfl
    · split <;> rfl
  · split
    · rfl
    split
    · rfl
    split <;> rfl
theorem run_most (xs : List Int) (s : Al) : (xs.foldl stepS s).most = s.most := by
  induction xs generalizing s with
  | nil => rfl
  | cons x r ih => rw [List.foldl_cons, ih, step_most]
theorem take_most (s : Al) : (takeS s).1.most = s.most := by
  unfold takeS
  split
  · rfl
  · split <;> rfl
/-- What is taken from a new allocator is not among what was taken. -/
structure Fresh (T : List Int) (f : Int) (s : Al) : Prop where
  now : ∀ x ∈ s.now, x ∉ T
  first : f ≤ s.first
theorem Fresh.take {T : List Int} {f : Int} {s : Al} (h : Fresh T f s) (hT : ∀ x ∈ T, x < f) : Fresh T f (takeS s).1 ∧ ((takeS s).2.2 = 0 ∧ (takeS s).2.1 ∉ T ∨ (takeS s).2.2 = 9 ∧ s.now = [] ∧ s.most ≤ s.first ∧ (takeS s).1 = s) := by
  obtain ⟨now, taken, gave, first, most⟩ := s
  obtain ⟨h1, h2⟩ := h
  simp only at h1 h2
  unfold takeS
  cases now with
  | cons x r =>
    exact ⟨⟨fun y hy => h1 y (by simp [hy]), h2⟩, .inl ⟨rfl, h1 x (by simp)⟩⟩
  | nil =>
    by_cases h : most ≤ first
    · simp only [h, if_true]
      exact ⟨⟨h1, h2⟩, .inr ⟨trivial, trivial, trivial, trivial⟩⟩
    · simp only [h, if_false]
      refine ⟨⟨fun y hy => (by cases hy), by simp only; omega⟩, .inl ⟨trivial, fun hm => ?_⟩⟩
      have := hT _ hm
      omega
end Go.Proofs.YtlbmjpmonaekgaaAM
