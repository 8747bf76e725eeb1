/- Chapter 26: what is kept, in whatever order; a map that counts. -/
import Derived.Test.YtdgpniekpmoadaaN3
namespace Go.Proofs.YtdgpniekpmoadaaAM
open Go Go.RowKit
set_option linter.unusedVariables false
set_option linter.unusedSimpArgs false
set_option maxRecDepth 10000
set_option maxHeartbeats 4000000

theorem addP_mem_iff {T : List Pr} {p x : Pr} : x ∈ addP T p ↔ x ∈ T ∨ (x = p ∧ hasK T p.key = false) := by
  unfold addP
  by_cases h : hasK T p.key = true
  · rw [if_pos h]
    constructor
    · exact .inl
    · rintro (h1 | ⟨-, h2⟩)
      · exact h1
      · rw [h] at h2; cases h2
  · rw [if_neg h, List.mem_append, List.mem_singleton]
    have h' : hasK T p.key = false := by simpa using h
    simp [h']
theorem keptO_mem_iff : ∀ (l : List Or') (T : List Pr), (l.map kbytes).Nodup → ∀ x, x ∈ keptO T l ↔ x ∈ T ∨ ∃ o ∈ l, x = orP o ∧ hasK T (kbytes o) = false
  | [], T, _, x => by simp [keptO]
  | o :: l, T, hn, x => by
    rw [List.map_cons, List.nodup_cons] at hn
    show x ∈ keptO (addP T (orP o)) l ↔ _
    rw [keptO_mem_iff l _ hn.2 x, addP_mem_iff]
    have hk : ∀ o' ∈ l, hasK (addP T (orP o)) (kbytes o') = false ↔ hasK T (kbytes o') = false := fun o' ho' => by
      have hne : kbytes o' ≠ (orP o).key := fun e => hn.1 (List.mem_map.2 ⟨o', ho', e⟩)
      rw [← Bool.not_eq_true, ← Bool.not_eq_true, hasK_addP]
      simp [hne]
    constructor
    · rintro ((h | ⟨h1, h2⟩) | ⟨o', ho', h1, h2⟩)
      · exact .inl h
      · exact .inr ⟨o, by simp, h1, h2⟩
      · exact .inr ⟨o', by simp [ho'], h1, (hk o' ho').1 h2⟩
    · rintro (h | ⟨o', ho', h1, h2⟩)
      · exact .inl (.inl h)
      · rcases List.mem_cons.1 ho' with rfl | ho'
        · exact .inl (.inr ⟨h1, h2⟩)
        · exact .inr ⟨o', ho', h1, (hk o' ho').2 h2⟩
/-- The order does not matter, where keys are told apart. -/
theorem kept_order (ps : List Pr) {l l' : List Or'} (hp : l.Perm l') (hn : (l.map kbytes).Nodup) : outM (keptA ps l') = outM (keptA ps l) := by
  have hn' : (l'.map kbytes).Nodup := (hp.map kbytes).nodup_iff.1 hn
  have k1 : ((keptA ps l).map (·.key)).Nodup := keptO_nodup l (keptT_nodup ps)
  have k2 : ((keptA ps l').map (·.key)).Nodup := keptO_nodup l' (keptT_nodup ps)
  refine srt_ext (outM_srt k2) (outM_srt k1) fun x => ?_
  rw [outM_mem k1, outM_mem k2]
  show x ∈ keptO (keptT ps) l' ↔ x ∈ keptO (keptT ps) l
  rw [keptO_mem_iff l' _ hn', keptO_mem_iff l _ hn]
  simp only [hp.mem_iff]
/-- One orphan after another. -/
def stepM (ps : List Pr) (l : List Or') : Nat → List Pr
  | 0 => ps
  | i + 1 => outM (addP (keptT (stepM ps l i)) (orP (l.getD i default)))
theorem stepM_out (ps : List Pr) (l : List Or') : ∀ i, i ≤ l.length → outM (keptT (stepM ps l i)) = outM (keptO (keptT ps) (l.take i)) ∧ (0 < i → stepM ps l i = outM (keptO (keptT ps) (l.take i)))
  | 0, _ => ⟨rfl, fun h => absurd h (by omega)⟩
  | i + 1, h => by
    obtain ⟨h1, -⟩ := stepM_out ps l i (by omega)
    have e : stepM ps l (i + 1) = outM (keptO (keptT ps) (l.take (i + 1))) := by
      show outM (addP (keptT (stepM ps l i)) (orP (l.getD i default))) = _
      rw [← addS_out (keptT_nodup _), h1, addS_out (keptO_nodup _ (keptT_nodup ps)), keptO_succ _ l i (by omega)]
      have : l.getD i default = l[i] := by rw [List.getD_eq_getElem?_getD, List.getElem?_eq_getElem (by omega)]; rfl
      rw [this]
    have hs : SrtP (stepM ps l (i + 1)) := by rw [e]; exact outM_srt (keptO_nodup _ (keptT_nodup ps))
    refine ⟨?_, fun _ => e⟩
    rw [keptT_self (srt_keys hs), outM_self hs, e]
theorem stepM_len (ps : List Pr) (l : List Or') (i : Nat) (h : i ≤ l.length) : (keptT (stepM ps l i)).length = (keptO (keptT ps) (l.take i)).length := by
  have := congrArg List.length (stepM_out ps l i h).1
  rwa [outM_len, outM_len] at this
theorem stepM_mem (ps : List Pr) (l : List Or') (i : Nat) (h : i ≤ l.length) {x : Pr} (hx : x ∈ stepM ps l i) : x ∈ ps ∨ ∃ o ∈ l, x = orP o := by
  cases i with
  | zero => exact .inl hx
  | succ i =>
    rw [(stepM_out ps l (i + 1) h).2 (by omega), outM_mem (keptO_nodup _ (keptT_nodup ps))] at hx
    rcases kept_mem orP _ _ x hx with hx | ⟨o, ho, rfl⟩
    · rcases kept_mem (fun p => p) ps [] x hx with hx | ⟨o, ho, rfl⟩
      · cases hx
      · exact .inl ho
    · exact .inr ⟨o, List.mem_of_mem_take ho, rfl⟩
theorem mget_none {M : List (List UInt8 × Nat)} {k : List UInt8} : mget M k = none ↔ k ∉ M.map (·.1) := by
  induction M with
  | nil => simp [mget]
  | cons p M ih =>
    obtain ⟨k', x⟩ := p
    rw [mget]
    by_cases h : k = k'
    · simp [h]
    · simp only [if_neg h, List.map_cons, List.mem_cons, h, false_or]; exact ih
theorem mget_mem {M : List (List UInt8 × Nat)} {k : List UInt8} {x : Nat} (h : mget M k = some x) : (k, x) ∈ M := by
  induction M with
  | nil => simp [mget] at h
  | cons p M ih =>
    obtain ⟨k', x'⟩ := p
    rw [mget] at h
    by_cases hk : k = k'
    · rw [if_pos hk] at h
      cases h
      subst hk
      exact .head _
    · rw [if_neg hk] at h
      exact .tail _ (ih h)
/-- A map that counts the keys of a list. -/
structure Counts (M : List (List UInt8 × Nat)) (ks : List (List UInt8)) : Prop where
  has : ∀ k ∈ ks, k ∈ M.map (·.1)
  len : M.length ≤ ks.length
  apart : M.length = ks.length → ks.Nodup
  most : ∀ p ∈ M, p.2 ≤ ks.length
theorem Counts.more {M : List (List UInt8 × Nat)} {ks : List (List UInt8)} (h : Counts M ks) (k : List UInt8) : Counts (setM M k ((mget M k).getD 0 + 1)) (ks ++ [k]) ∧ (mget M k).getD 0 ≤ ks.length := by
  obtain ⟨h1, h2, h3, h4⟩ := h
  cases hm : mget M k with
  | none =>
    rw [setM_new hm]
    have hk := mget_none.1 hm
    refine ⟨⟨fun k' hk' => ?_, by simp; omega, fun he => ?_, fun p hp => ?_⟩, by simp⟩
    · rw [List.map_append, List.mem_append]
      rcases List.mem_append.1 hk' with h | h
      · exact .inl (h1 _ h)
      · right; simpa using h
    · simp only [List.length_append, List.length_cons, List.length_nil, Nat.add_right_cancel_iff] at he
      rw [List.nodup_append]
      refine ⟨h3 he, by simp, fun x hx y hy => ?_⟩
      simp only [List.mem_singleton] at hy
      rintro rfl
      exact hk (hy ▸ h1 _ hx)
    · rw [List.length_append]
      rcases List.mem_append.1 hp with h | h
      · have := h4 _ h; omega
      · simp only [List.mem_singleton] at h
        subst h
        simp
  | some x =>
    have hx := h4 _ (mget_mem hm)
    simp only at hx
    have hset : setM M k (x + 1) = M.set (M.findIdx fun p => decide (k = p.1)) (k, x + 1) := by unfold setM; rw [hm]
    simp only [Option.getD_some]
    rw [hset]
    refine ⟨⟨fun k' hk' => ?_, by rw [List.length_set, List.length_append]; omega, fun he => ?_, fun p hp => ?_⟩, hx⟩
    · have hmm : k' ∈ M.map (·.1) := by
        rcases List.mem_append.1 hk' with h | h
        · exact h1 _ h
        · simp only [List.mem_singleton] at h
          subst h
          exact List.mem_map.2 ⟨_, mget_mem hm, rfl⟩
      obtain ⟨p, hp, rfl⟩ := List.mem_map.1 hmm
      obtain ⟨i, hi, rfl⟩ := List.mem_iff_getElem.1 hp
      rw [List.mem_map]
      by_cases hii : M.findIdx (fun p => decide (k = p.1)) = i
      · refine ⟨(k, x + 1), ?_, ?_⟩
        · rw [List.mem_iff_getElem]
          exact ⟨i, by rw [List.length_set]; exact hi, by rw [List.getElem_set]; simp [hii]⟩
        · have := List.findIdx_getElem (xs := M) (p := fun p => decide (k = p.1)) (w := by rw [hii]; exact hi)
          simp only [hii, decide_eq_true_eq] at this
          exact this
      · refine ⟨M[i], ?_, rfl⟩
        rw [List.mem_iff_getElem]
        exact ⟨i, by rw [List.length_set]; exact hi, by rw [List.getElem_set]; simp [hii]⟩
    · rw [List.length_set, List.length_append, List.length_cons, List.length_nil] at he; omega
    · rw [List.length_append]
      rcases List.mem_or_eq_of_mem_set hp with h | rfl
      · have := h4 _ h; omega
      · simp; omega
end Go.Proofs.YtdgpniekpmoadaaAM
