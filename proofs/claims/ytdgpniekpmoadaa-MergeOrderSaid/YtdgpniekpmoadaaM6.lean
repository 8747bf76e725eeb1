/- Chapter 26: sorted pairs. -/
import Derived.Test.YtdgpniekpmoadaaM5
namespace Go.Proofs.YtdgpniekpmoadaaAM
open Go Go.RowKit
set_option linter.unusedVariables false
set_option linter.unusedSimpArgs false
set_option maxRecDepth 10000
set_option maxHeartbeats 4000000

/-- Pairs by rising keys. -/
def SrtP (l : List Pr) : Prop := l.Pairwise fun a b => a.key < b.key
theorem bl_lt {x y : List UInt8} : Op.bytesLess x y = true ↔ x < y := by rw [Go.Proofs.bytesLess_eq, decide_eq_true_eq]
theorem bl_ge {x y : List UInt8} : Op.bytesLess x y = false ↔ y ≤ x := by rw [Go.Proofs.bytesLess_eq, decide_eq_false_iff_not]; exact List.not_lt
theorem lt_or_eq' {x y : List UInt8} (p : x ≤ y) : x < y ∨ x = y := by
  by_cases h : x < y
  · exact .inl h
  · exact .inr (List.le_antisymm p (List.not_lt.1 h))
theorem idx_inj {α : Type} {l : List α} (hn : l.Nodup) {i j : Nat} (hi : i < l.length) (hj : j < l.length) (h : l[i] = l[j]) : i = j := by
  rcases Nat.lt_trichotomy i j with c | c | c
  · exact absurd h ((List.pairwise_iff_getElem.1 hn) i j hi hj c)
  · exact c
  · exact absurd h.symm ((List.pairwise_iff_getElem.1 hn) j i hj hi c)
theorem srt_iff : ∀ {l : List Pr}, sortP l ↔ SrtP l := by
  intro l
  constructor
  · intro h
    unfold SrtP
    rw [List.pairwise_iff_getElem]
    intro i j hi hj hij
    induction j with
    | zero => omega
    | succ j ih =>
      have h1 := bl_lt.1 (h j hj)
      rcases Nat.lt_or_ge i j with h2 | h2
      · exact List.lt_trans (ih (by omega) h2) h1
      · obtain rfl : i = j := by omega
        exact h1
  · intro h j hj
    exact bl_lt.2 ((List.pairwise_iff_getElem.1 h) j (j + 1) (by omega) hj (by omega))
theorem srt_ext {l k : List Pr} (hl : SrtP l) (hk : SrtP k) (h : ∀ x, x ∈ l ↔ x ∈ k) : l = k := by
  have hn : ∀ {m : List Pr}, SrtP m → m.Nodup := fun {m} hm => hm.imp fun {a b} hab e => by subst e; exact List.lt_irrefl _ hab
  refine List.Perm.eq_of_pairwise (le := fun a b : Pr => a.key < b.key) (fun a b _ _ h1 h2 => absurd (List.lt_trans h1 h2) (List.lt_irrefl _)) hl hk ((List.perm_ext_iff_of_nodup (hn hl) (hn hk)).2 h)
theorem srt_keys {l : List Pr} (h : SrtP l) : (l.map (·.key)).Nodup := by
  refine List.pairwise_map.2 (h.imp fun {a b} hab e => ?_)
  rw [e] at hab
  exact List.lt_irrefl _ hab
theorem srtK_strict {l : List (List UInt8)} (h : l.Nodup) : (srtK l).Pairwise fun a b => a < b := by
  have h1 := srtK_srt l
  have h2 : (srtK l).Nodup := (srtK_perm l).nodup_iff.2 h
  refine (h1.and h2).imp fun {a b} ⟨p, q⟩ => ?_
  rcases lt_or_eq' p with h | h
  · exact h
  · exact absurd h q
theorem getP_key {A : List Pr} {k : List UInt8} (h : k ∈ A.map (·.key)) : (getP A k).key = k ∧ getP A k ∈ A := by
  obtain ⟨j, hj, -, h2, h3⟩ := idxM_some k A 0 (hasK_iff.2 h)
  unfold getP
  rw [h3]
  exact ⟨h2, List.getElem_mem hj⟩
theorem same_key {A : List Pr} (hn : (A.map (·.key)).Nodup) {x y : Pr} (hx : x ∈ A) (hy : y ∈ A) (h : x.key = y.key) : x = y := by
  obtain ⟨i, hi, rfl⟩ := List.mem_iff_getElem.1 hx
  obtain ⟨j, hj, rfl⟩ := List.mem_iff_getElem.1 hy
  have := idx_inj (l := A.map fun p : Pr => p.key) hn (i := i) (j := j) (by simpa using hi) (by simpa using hj) (by simpa using h)
  subst this; rfl
theorem outM_mem {A : List Pr} (hn : (A.map (·.key)).Nodup) (x : Pr) : x ∈ outM A ↔ x ∈ A := by
  unfold outM
  rw [List.mem_map]
  constructor
  · rintro ⟨k, hk, rfl⟩
    exact (getP_key ((srtK_perm _).mem_iff.1 hk)).2
  · intro hx
    have hk : x.key ∈ A.map (·.key) := List.mem_map_of_mem hx
    refine ⟨x.key, (srtK_perm _).mem_iff.2 hk, ?_⟩
    obtain ⟨h1, h2⟩ := getP_key hk
    exact same_key hn h2 hx h1
theorem outM_srt {A : List Pr} (hn : (A.map (·.key)).Nodup) : SrtP (outM A) := by
  unfold SrtP outM
  rw [List.pairwise_map]
  refine (srtK_strict hn).imp_of_mem fun {a b} ha hb hab => ?_
  rw [(getP_key ((srtK_perm _).mem_iff.1 ha)).1, (getP_key ((srtK_perm _).mem_iff.1 hb)).1]
  exact hab
theorem outM_self {l : List Pr} (h : SrtP l) : outM l = l := srt_ext (outM_srt (srt_keys h)) h fun x => outM_mem (srt_keys h) x
theorem keptT_self {l : List Pr} (h : (l.map (·.key)).Nodup) : keptT l = l := by
  have : ∀ (i : Nat), i ≤ l.length → keptT (l.take i) = l.take i := by
    intro i
    induction i with
    | zero => intro _; rfl
    | succ i ih =>
      intro hi
      rw [keptT_succ l i (by omega), ih (by omega), addP, if_neg]
      · rw [List.take_add_one, List.getElem?_eq_getElem (by omega)]; rfl
      · intro hk
        have hm := hasK_iff.1 hk
        rw [List.mem_map] at hm
        obtain ⟨q, hq, hqk⟩ := hm
        obtain ⟨j, hj, rfl⟩ := List.mem_iff_getElem.1 hq
        rw [List.length_take] at hj
        rw [List.getElem_take] at hqk
        have := idx_inj (l := l.map fun p : Pr => p.key) h (i := j) (j := i) (by simp; omega) (by simp; omega) (by simpa using hqk)
        omega
  have := this l.length (Nat.le_refl _)
  rwa [List.take_length] at this
/-- One pair more, where it belongs. -/
def insP (x : Pr) : List Pr → List Pr
  | [] => [x]
  | y :: r => if Op.bytesLess y.key x.key = true then y :: insP x r else x :: y :: r
def addS (l : List Pr) (x : Pr) : List Pr := if hasK l x.key = true then l else insP x l
theorem insP_perm (x : Pr) : ∀ l, (insP x l).Perm (x :: l)
  | [] => .refl _
  | y :: r => by
    unfold insP
    split
    · exact ((insP_perm x r).cons y).trans (.swap x y r)
    · exact .refl _
theorem insP_srt (x : Pr) : ∀ l : List Pr, SrtP l → (∀ y ∈ l, y.key ≠ x.key) → SrtP (insP x l)
  | [], _, _ => by simp [insP, SrtP]
  | y :: r, h, hx => by
    unfold insP
    have h' := h
    unfold SrtP at h'
    rw [List.pairwise_cons] at h'
    split
    · rename_i hlt
      have hlt := bl_lt.1 hlt
      show List.Pairwise _ _
      rw [List.pairwise_cons]
      refine ⟨fun z hz => ?_, insP_srt x r h'.2 fun z hz => hx z (by simp [hz])⟩
      rcases List.mem_cons.1 ((insP_perm x r).mem_iff.1 hz) with rfl | hz
      · exact hlt
      · exact h'.1 z hz
    · rename_i hlt
      have hge : x.key ≤ y.key := bl_ge.1 (by simpa using hlt)
      have hxy : x.key < y.key := by
        rcases lt_or_eq' hge with h | h
        · exact h
        · exact absurd h.symm (hx y (by simp))
      show List.Pairwise _ _
      rw [List.pairwise_cons]
      refine ⟨fun z hz => ?_, h⟩
      rcases List.mem_cons.1 hz with rfl | hz
      · exact hxy
      · exact List.lt_trans hxy (h'.1 z hz)
theorem addS_out {A : List Pr} (hn : (A.map (·.key)).Nodup) (x : Pr) : addS (outM A) x = outM (addP A x) := by
  have hs := outM_srt hn
  have hk : hasK (outM A) x.key = hasK A x.key := by
    rw [Bool.eq_iff_iff, hasK_iff, hasK_iff, List.mem_map, List.mem_map]
    constructor
    · rintro ⟨y, hy, e⟩; exact ⟨y, (outM_mem hn y).1 hy, e⟩
    · rintro ⟨y, hy, e⟩; exact ⟨y, (outM_mem hn y).2 hy, e⟩
  unfold addS
  rw [hk]
  by_cases h : hasK A x.key = true
  · rw [if_pos h, addP, if_pos h]
  · rw [if_neg h]
    have hnn := addP_nodup x hn
    have hax : addP A x = A ++ [x] := by rw [addP, if_neg h]
    refine srt_ext (insP_srt x _ hs fun y hy e => h ?_) (outM_srt hnn) fun y => ?_
    · rw [hasK_iff, List.mem_map]; exact ⟨y, (outM_mem hn y).1 hy, e⟩
    · rw [(insP_perm x _).mem_iff, outM_mem hnn, hax, List.mem_cons, outM_mem hn, List.mem_append]
      simp [or_comm]
/-- Where the reference puts a pair. -/
theorem ins_at {l : List Pr} (hs : SrtP l) (x : Pr) (k : Nat) (hk : k ≤ l.length) (h1 : ∀ j (hj : j < l.length), k ≤ j → x.key < l[j].key) (h2 : k = 0 ∨ ∃ h : k - 1 < l.length, l[k - 1].key < x.key) : l.take k ++ x :: l.drop k = addS l x := by
  have hlow : ∀ j (hj : j < l.length), j < k → l[j].key < x.key := fun j hj hjk => by
    rcases h2 with rfl | ⟨hk1, h2⟩
    · omega
    · rcases Nat.lt_or_ge j (k - 1) with h | h
      · exact List.lt_trans ((List.pairwise_iff_getElem.1 hs) j (k - 1) hj hk1 h) h2
      · obtain rfl : j = k - 1 := by omega
        exact h2
  have hno : ∀ y ∈ l, y.key ≠ x.key := fun y hy e => by
    obtain ⟨j, hj, rfl⟩ := List.mem_iff_getElem.1 hy
    rcases Nat.lt_or_ge j k with h | h
    · have := hlow j hj h; rw [e] at this; exact List.lt_irrefl _ this
    · have := h1 j hj h; rw [e] at this; exact List.lt_irrefl _ this
  have hh : hasK l x.key = false := by
    cases hc : hasK l x.key with
    | false => rfl
    | true =>
      obtain ⟨y, hy, e⟩ := List.mem_map.1 (hasK_iff.1 hc)
      exact absurd e (hno y hy)
  unfold addS
  rw [hh, if_neg (by simp)]
  refine srt_ext ?_ (insP_srt x l hs hno) fun y => ?_
  · show List.Pairwise _ _
    rw [List.pairwise_append]
    refine ⟨hs.sublist (List.take_sublist _ _), ?_, fun a ha b hb => ?_⟩
    · rw [List.pairwise_cons]
      refine ⟨fun b hb => ?_, hs.sublist (List.drop_sublist _ _)⟩
      obtain ⟨j, hj, rfl⟩ := List.mem_iff_getElem.1 hb
      rw [List.length_drop] at hj
      rw [List.getElem_drop]
      exact h1 _ (by omega) (by omega)
    · obtain ⟨i, hi, rfl⟩ := List.mem_iff_getElem.1 ha
      rw [List.length_take] at hi
      rw [List.getElem_take]
      have hax := hlow i (by omega) (by omega)
      rcases List.mem_cons.1 hb with rfl | hb
      · exact hax
      · obtain ⟨j, hj, rfl⟩ := List.mem_iff_getElem.1 hb
        rw [List.length_drop] at hj
        rw [List.getElem_drop]
        exact List.lt_trans hax (h1 _ (by omega) (by omega))
  · rw [(insP_perm x l).mem_iff, List.mem_append, List.mem_cons, List.mem_cons]
    have : y ∈ l ↔ y ∈ l.take k ∨ y ∈ l.drop k := by
      conv => lhs; rw [← List.take_append_drop k l, List.mem_append]
    rw [this]
    constructor
    · rintro (h | h | h)
      · exact .inr (.inl h)
      · exact .inl h
      · exact .inr (.inr h)
    · rintro (h | h | h)
      · exact .inr (.inl h)
      · exact .inl h
      · exact .inr (.inr h)
theorem at_have {l : List Pr} (x : Pr) (k : Nat) (hk : k < l.length) (h : l[k].key = x.key) : addS l x = l := by
  unfold addS
  rw [if_pos]
  rw [hasK_iff, List.mem_map]
  exact ⟨_, List.getElem_mem hk, h⟩
end Go.Proofs.YtdgpniekpmoadaaAM
