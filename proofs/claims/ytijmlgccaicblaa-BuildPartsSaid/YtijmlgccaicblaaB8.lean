/- Chapter 13: what a cut is worth: parts are full, and no other cut has fewer. -/
import Derived.Test.YtijmlgccaicblaaB7
namespace Go.Proofs.YtijmlgccaicblaaAM
open Go Go.RowKit
set_option linter.unusedVariables false
set_option linter.unusedSimpArgs false
set_option maxRecDepth 10000
set_option maxHeartbeats 4000000

theorem sizeI_append (l k : List It) : sizeI (l ++ k) = sizeI l + sizeI k := by unfold sizeI; rw [List.map_append, List.sum_append]
theorem sizeI_seg (l : List It) (f t : Nat) (h : f ≤ t) : sizeI ((l.take t).drop f) + sizeI (l.take f) = sizeI (l.take t) := by
  have e : l.take t = l.take f ++ (l.take t).drop f := by
    conv => lhs; rw [← List.take_append_drop f (l.take t), List.take_take, Nat.min_eq_left h]
  conv => rhs; rw [e, sizeI_append]
  omega
theorem sizeI_le_take (l : List It) {i j : Nat} (h : i ≤ j) : sizeI (l.take i) ≤ sizeI (l.take j) := by have := sizeI_seg l i j h; omega
/-- Parts that fit, and that are full. -/
def fullP (l : List It) (room : Int) : Nat → List Int → Prop
  | _, [] => True
  | f, t :: r => (sizeI (l.take t.toNat) : Int) - sizeI (l.take f) ≤ room ∧ (r ≠ [] → room < (sizeI (l.take (t.toNat + 1)) : Int) - sizeI (l.take f)) ∧ fullP l room t.toNat r
theorem full_go (l : List It) (room : Int) (hin : ∀ x ∈ l, (isz x : Int) ≤ room) : ∀ (rest : List It) (f i : Nat) (s : Int), l.drop i = rest → i ≤ l.length → s = (sizeI (l.take i) : Int) - sizeI (l.take f) → s ≤ room →
    fullP l room f (cutGo room (rest.map fun x => (isz x : Int)) i s ++ [(l.length : Int)])
  | [], f, i, s, hd, hi, hs, hr => by
    have : l.length ≤ i := by
      have := congrArg List.length hd
      simp only [List.length_drop, List.length_nil] at this; omega
    obtain rfl : i = l.length := by omega
    simp only [List.map_nil, cutGo, List.nil_append, fullP, Int.toNat_natCast]
    exact ⟨by omega, fun h => absurd rfl h, trivial⟩
  | x :: rest, f, i, s, hd, hi, hs, hr => by
    have hlt : i < l.length := by
      have := congrArg List.length hd
      simp only [List.length_drop, List.length_cons] at this; omega
    have hdr := List.drop_eq_getElem_cons hlt
    rw [hd] at hdr
    injection hdr with h1 h2
    have hst := sizeI_take l i hlt
    rw [← h1] at hst
    have hxr := hin x (h1 ▸ List.getElem_mem hlt)
    simp only [List.map_cons]
    unfold cutGo
    split
    · rename_i hc
      rw [List.cons_append, fullP, Int.toNat_natCast]
      refine ⟨by omega, fun _ => by omega, full_go l room hin rest i (i + 1) _ h2.symm (by omega) (by omega) hxr⟩
    · exact full_go l room hin rest f (i + 1) _ h2.symm (by omega) (by omega) (by omega)
/-- The last end. -/
def lastIs (len : Nat) : Nat → List Int → Prop
  | f, [] => f = len
  | _, t :: r => lastIs len t.toNat r
theorem last_app (len : Nat) : ∀ (E : List Int) (f : Nat), lastIs len f (E ++ [(len : Int)])
  | [], f => by simp [lastIs]
  | t :: r, f => by rw [List.cons_append, lastIs]; exact last_app len r _
theorem cutAt_len {α : Type} (l : List α) : ∀ (E : List Int) (f : Nat), (cutAt l f E).length = E.length
  | [], _ => rfl
  | t :: r, f => by rw [cutAt, List.length_cons, List.length_cons, cutAt_len l r]
theorem cutAt_flat {α : Type} (l : List α) : ∀ (E : List Int) (f : Nat), upTo l.length f E → lastIs l.length f E → (cutAt l f E).flatten = l.drop f
  | [], f, _, h => by
    have h' : f = l.length := h
    rw [h', List.drop_length]; rfl
  | t :: r, f, hu, hl => by
    obtain ⟨h1, h2, h3⟩ := hu
    rw [cutAt, List.flatten_cons, cutAt_flat l r t.toNat h3 hl]
    have e : l = l.take t.toNat ++ l.drop t.toNat := (List.take_append_drop _ _).symm
    conv => rhs; rw [e, List.drop_append_of_le_length (by rw [List.length_take]; omega)]
theorem parts_good (l : List It) (room : Int) : ∀ (E : List Int) (f : Nat), upTo l.length f E → fullP l room f E → ∀ i (hi : i < (cutAt l f E).length),
    0 < (cutAt l f E)[i].length ∧ (sizeI (cutAt l f E)[i] : Int) ≤ room ∧ ∀ h : i + 1 < (cutAt l f E).length, ∃ h2 : 0 < (cutAt l f E)[i + 1].length, room < (sizeI (cutAt l f E)[i] : Int) + isz (cutAt l f E)[i + 1][0]
  | [], f, _, _, i, hi => by simp [cutAt] at hi
  | t :: r, f, hu, hf, i, hi => by
    obtain ⟨h1, h2, h3⟩ := hu
    obtain ⟨g1, g2, g3⟩ := hf
    cases i with
    | zero =>
      have hsg := sizeI_seg l f t.toNat (by omega)
      simp only [cutAt, List.getElem_cons_zero]
      refine ⟨by rw [List.length_drop, List.length_take]; omega, by omega, fun h => ?_⟩
      simp only [List.getElem_cons_succ]
      cases r with
      | nil => simp [cutAt] at h
      | cons t' r' =>
        obtain ⟨k1, k2, k3⟩ := h3
        have hg := g2 (by simp)
        have hlt : t.toNat < l.length := by omega
        have hst := sizeI_take l t.toNat hlt
        have hne : 0 < (cutAt l t.toNat (t' :: r')).length := by simp [cutAt]
        have hl0 : 0 < (cutAt l t.toNat (t' :: r'))[0].length := by
          simp only [cutAt, List.getElem_cons_zero]
          rw [List.length_drop, List.length_take]; omega
        refine ⟨hl0, ?_⟩
        have he : (cutAt l t.toNat (t' :: r'))[0][0] = l[t.toNat] := by
          simp only [cutAt, List.getElem_cons_zero, List.getElem_drop, List.getElem_take, Nat.add_zero]
        rw [he]; omega
    | succ i =>
      simp only [cutAt, List.length_cons] at hi
      have := parts_good l room r t.toNat h3 g3 i (by omega)
      simp only [cutAt, List.getElem_cons_succ]
      refine ⟨this.1, this.2.1, fun h => ?_⟩
      exact this.2.2 (by simp only [cutAt, List.length_cons] at h; omega)
/-- One step of another cut: it stays behind. -/
theorem behind (l : List It) (room : Int) (at_ k f : Nat) (E : List Int) (hu : upTo l.length f E) (hf : fullP l room f E) (hl : lastIs l.length f E) (h1 : at_ ≤ f) (h2 : 1 ≤ k) (h3 : at_ + k ≤ l.length) (h4 : k = 1 ∨ (sizeI ((l.take (at_ + k)).drop at_) : Int) ≤ room) :
    ∃ f' E', upTo l.length f' E' ∧ fullP l room f' E' ∧ lastIs l.length f' E' ∧ at_ + k ≤ f' ∧ E.length ≤ 1 + E'.length := by
  cases E with
  | nil =>
    have hl' : f = l.length := hl
    exact ⟨f, [], trivial, trivial, hl, by omega, by simp⟩
  | cons t r =>
    obtain ⟨u1, u2, u3⟩ := hu
    obtain ⟨g1, g2, g3⟩ := hf
    refine ⟨t.toNat, r, u3, g3, hl, ?_, by simp; omega⟩
    apply Classical.byContradiction
    intro hgt
    have hr : r ≠ [] := by
      rintro rfl
      have hl' : t.toNat = l.length := hl
      omega
    have hg := g2 hr
    have a1 := sizeI_le_take l (show at_ ≤ f by omega)
    have a2 := sizeI_le_take l (show t.toNat + 1 ≤ at_ + k by omega)
    have a3 := sizeI_seg l at_ (at_ + k) (by omega)
    rcases h4 with h4 | h4 <;> omega
theorem lastIs_done {len f : Nat} {E : List Int} (hu : upTo len f E) (hl : lastIs len f E) (h : len ≤ f) : E = [] := by
  cases E with
  | nil => rfl
  | cons t r => obtain ⟨u1, u2, u3⟩ := hu; omega
/-- What Leaves has answered. -/
theorem leavesI_cases (size : Int) (l : List It) : ((leavesI size l).2 ≠ 0 ∧ (leavesI size l).1 = []) ∨ ((leavesI size l).2 = 0 ∧ mayP l ∧ goodSz size ∧ ∃ E, upTo l.length 0 E ∧ fullP l (room size) 0 E ∧ lastIs l.length 0 E ∧ E.length ≤ l.length + 1 ∧ (leavesI size l).1 = cutAt l 0 E) := by
  unfold leavesI
  by_cases h : mayI l = true ∧ goodSz size
  · rw [if_pos h]
    unfold partsI
    by_cases hE : cutL (room size) (l.map fun x => (isz x : Int)) = []
    · rw [if_pos hE]; exact .inl ⟨by decide, rfl⟩
    · rw [if_neg hE]
      refine .inr ⟨rfl, mayI_of h.1, h.2, _, ?_, ?_, ?_, ?_, rfl⟩
      · have := upTo_cut hE; rwa [List.length_map] at this
      · have hci : cutIn (room size) (l.map fun x => (isz x : Int)) := by
          apply Classical.byContradiction
          intro hc; exact hE (cutL_bad hc)
        have h0 : (l.map fun x => (isz x : Int)) ≠ [] := by
          intro h0; rw [h0, cutL_nil] at hE; exact hE rfl
        rw [cutL_ok hci h0, List.length_map]
        refine full_go l (room size) (fun x hx => (hci _ (List.mem_map_of_mem hx)).2) l 0 0 0 rfl (Nat.zero_le _) (by simp [sizeI]) (room_le size).1
      · have hci : cutIn (room size) (l.map fun x => (isz x : Int)) := by
          apply Classical.byContradiction
          intro hc; exact hE (cutL_bad hc)
        have h0 : (l.map fun x => (isz x : Int)) ≠ [] := by
          intro h0; rw [h0, cutL_nil] at hE; exact hE rfl
        rw [cutL_ok hci h0, List.length_map]
        exact last_app _ _ _
      · have := cutL_len (room size) (l.map fun x => (isz x : Int)); rwa [List.length_map] at this
  · rw [if_neg h]; exact .inl ⟨by decide, rfl⟩
end Go.Proofs.YtijmlgccaicblaaAM
