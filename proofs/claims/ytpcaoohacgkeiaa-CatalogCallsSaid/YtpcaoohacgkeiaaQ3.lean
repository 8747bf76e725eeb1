/- Chapter 6: sorted lists of buckets. -/
import Derived.Test.YtpcaoohacgkeiaaQ2
import Derived.Sort.Walk0
namespace Go.Proofs.YtpcaoohacgkeiaaAM
open Go Go.RowKit
set_option linter.unusedVariables false
set_option linter.unusedSimpArgs false
set_option maxRecDepth 10000
set_option maxHeartbeats 4000000

theorem bl_irr (x : List UInt8) : Op.bytesLess x x = false := by rw [bytesLess_eq]; exact decide_eq_false (List.lt_irrefl x)
theorem bl_trans {x y z : List UInt8} (h : Op.bytesLess x y = true) (k : Op.bytesLess y z = true) : Op.bytesLess x z = true := by
  rw [bytesLess_eq, decide_eq_true_eq] at *; exact List.lt_trans h k
theorem bl_tri {x y : List UInt8} (h : Op.bytesLess x y = false) (hn : x ≠ y) : Op.bytesLess y x = true := by
  rw [bytesLess_eq, decide_eq_false_iff_not] at h
  rw [bytesLess_eq, decide_eq_true_eq]
  rcases Std.lt_trichotomy x y with h1 | h1 | h1
  · exact absurd h1 h
  · exact absurd h1 hn
  · exact h1
theorem bl_ne {x y : List UInt8} (h : Op.bytesLess x y = true) : x ≠ y := fun e => by rw [e, bl_irr] at h; cases h
theorem bl_asym {x y : List UInt8} (h : Op.bytesLess x y = true) : Op.bytesLess y x = false := by
  cases k : Op.bytesLess y x with
  | false => rfl
  | true => have := bl_trans h k; rw [bl_irr] at this; cases this
def Srt (l : List Bkt) : Prop := l.Pairwise fun a b => Op.bytesLess a.name b.name = true
theorem srt_adj : ∀ {l : List Bkt}, (∀ j (h : j + 1 < l.length), Op.bytesLess l[j].name l[j + 1].name = true) → Srt l
  | [], _ => List.Pairwise.nil
  | [a], _ => List.pairwise_singleton _ _
  | a :: b :: l, h => by
    have ih : Srt (b :: l) := srt_adj fun j hj => h (j + 1) (by simpa using hj)
    have h0 : Op.bytesLess a.name b.name = true := h 0 (by simp)
    refine List.pairwise_cons.2 ⟨fun c hc => ?_, ih⟩
    rcases List.mem_cons.1 hc with rfl | hc
    · exact h0
    · exact bl_trans h0 ((List.pairwise_cons.1 ih).1 c hc)
theorem adj_srt {l : List Bkt} (h : Srt l) (j : Nat) (hj : j + 1 < l.length) : Op.bytesLess l[j].name l[j + 1].name = true :=
  List.pairwise_iff_getElem.1 h j (j + 1) (by omega) hj (by omega)
theorem srt_ext : ∀ {l k : List Bkt}, Srt l → Srt k → (∀ c, c ∈ l ↔ c ∈ k) → l = k
  | [], [], _, _, _ => rfl
  | [], b :: k, _, _, h => by have := (h b).2 (by simp); cases this
  | a :: l, [], _, _, h => by have := (h a).1 (by simp); cases this
  | a :: l, b :: k, hl, hk, h => by
    obtain ⟨l1, l2⟩ := List.pairwise_cons.1 hl
    obtain ⟨k1, k2⟩ := List.pairwise_cons.1 hk
    have hab : a = b := by
      rcases List.mem_cons.1 ((h a).1 (by simp)) with h1 | h1
      · exact h1
      · rcases List.mem_cons.1 ((h b).2 (by simp)) with h2 | h2
        · exact h2.symm
        · have := bl_trans (k1 a h1) (l1 b h2); rw [bl_irr] at this; cases this
    subst hab
    rw [srt_ext l2 k2 fun c => ⟨fun hc => ?_, fun hc => ?_⟩]
    · rcases List.mem_cons.1 ((h c).1 (List.mem_cons_of_mem _ hc)) with rfl | h1
      · have := l1 c hc; rw [bl_irr] at this; cases this
      · exact h1
    · rcases List.mem_cons.1 ((h c).2 (List.mem_cons_of_mem _ hc)) with rfl | h1
      · have := k1 c hc; rw [bl_irr] at this; cases this
      · exact h1
def putB (b : Bkt) : List Bkt → List Bkt
  | [] => [b]
  | c :: l => if c.name = b.name then b :: l else if Op.bytesLess c.name b.name = true then c :: putB b l else b :: c :: l
theorem fidx_none {α : Type} {p : α → Bool} : ∀ {l : List α}, (∀ x ∈ l, p x = false) → fidx p l = l.length
  | [], _ => rfl
  | x :: l, h => by rw [fidx, if_neg (by rw [h x (by simp)]; simp), fidx_none fun y hy => h y (by simp [hy])]; rfl
theorem setB_put (b : Bkt) : ∀ {l : List Bkt}, Srt l → setB l b = putB b l
  | [], _ => by simp [setB, findB, fidx, insB, putB]
  | c :: l, h => by
    obtain ⟨h1, h2⟩ := List.pairwise_cons.1 h
    have ih := setB_put b h2
    by_cases hc : c.name = b.name
    · have hf : findB (c :: l) b.name = (0, true) := by simp [findB, fidx, nameIs, hc]
      simp [setB, hf, putB, hc]
    · by_cases hlt : Op.bytesLess c.name b.name = true
      · have e1 : fidx (nameIs b.name) (c :: l) = fidx (nameIs b.name) l + 1 := by rw [fidx, if_neg (by simp [nameIs, hc])]
        have e2 : fidx (nameGe b.name) (c :: l) = fidx (nameGe b.name) l + 1 := by rw [fidx, if_neg (by simp [nameGe, hlt])]
        have hf : findB (c :: l) b.name = ((findB l b.name).1 + 1, (findB l b.name).2) := by
          unfold findB
          rw [e1, e2, List.length_cons]
          by_cases hx : fidx (nameIs b.name) l < l.length
          · rw [if_pos hx, if_pos (by omega)]
          · rw [if_neg hx, if_neg (by omega)]
        unfold setB at ih ⊢
        rw [hf, putB, if_neg hc, if_pos hlt, ← ih]
        simp only
        split
        · rw [List.set_cons_succ]
        · simp [insB]
      · have hgt := bl_tri (by simpa using hlt) hc
        have e1 : fidx (nameIs b.name) (c :: l) = (c :: l).length := fidx_none fun x hx => by
          rcases List.mem_cons.1 hx with rfl | hx
          · simp [nameIs, hc]
          · have := bl_ne (bl_trans hgt (h1 x hx))
            simp only [nameIs, decide_eq_false_iff_not]
            exact fun e => this e.symm
        have e2 : fidx (nameGe b.name) (c :: l) = 0 := by rw [fidx, if_pos]; simp only [nameGe]; simpa using hlt
        have hf : findB (c :: l) b.name = (0, false) := by unfold findB; rw [e1, e2, if_neg (by omega)]
        simp [setB, hf, putB, hc, hlt, insB]
theorem put_mem {b c : Bkt} : ∀ {l : List Bkt}, Srt l → (c ∈ putB b l ↔ c = b ∨ (c ∈ l ∧ c.name ≠ b.name))
  | [], _ => by simp [putB]
  | d :: l, h => by
    obtain ⟨h1, h2⟩ := List.pairwise_cons.1 h
    have ih := put_mem (b := b) (c := c) h2
    unfold putB
    split
    · rename_i hd
      constructor
      · intro hc
        rcases List.mem_cons.1 hc with rfl | hc
        · exact .inl rfl
        · exact .inr ⟨List.mem_cons_of_mem _ hc, fun e => bl_ne (h1 c hc) (hd.trans e.symm)⟩
      · rintro (rfl | ⟨hc, hn⟩)
        · simp
        · rcases List.mem_cons.1 hc with rfl | hc
          · exact absurd hd hn
          · exact List.mem_cons_of_mem _ hc
    · rename_i hd
      split
      · rename_i hlt
        rw [List.mem_cons, ih, List.mem_cons]
        constructor
        · rintro (rfl | rfl | ⟨hc, hn⟩)
          · exact .inr ⟨.inl rfl, hd⟩
          · exact .inl rfl
          · exact .inr ⟨.inr hc, hn⟩
        · rintro (rfl | ⟨rfl | hc, hn⟩)
          · exact .inr (.inl rfl)
          · exact .inl rfl
          · exact .inr (.inr ⟨hc, hn⟩)
      · rename_i hlt
        have hgt := bl_tri (by simpa using hlt) hd
        rw [List.mem_cons]
        constructor
        · rintro (rfl | hc)
          · exact .inl rfl
          · refine .inr ⟨hc, fun e => ?_⟩
            rcases List.mem_cons.1 hc with rfl | hc
            · exact hd e
            · exact bl_ne (bl_trans hgt (h1 c hc)) e.symm
        · rintro (rfl | ⟨hc, _⟩)
          · exact .inl rfl
          · exact .inr hc
theorem put_srt (b : Bkt) : ∀ {l : List Bkt}, Srt l → Srt (putB b l)
  | [], _ => List.pairwise_singleton _ _
  | d :: l, h => by
    obtain ⟨h1, h2⟩ := List.pairwise_cons.1 h
    have ih := put_srt b h2
    unfold putB
    split
    · rename_i hd
      exact List.pairwise_cons.2 ⟨fun c hc => hd ▸ h1 c hc, h2⟩
    · rename_i hd
      split
      · rename_i hlt
        refine List.pairwise_cons.2 ⟨fun c hc => ?_, ih⟩
        rcases (put_mem h2).1 hc with rfl | ⟨hc, _⟩
        · exact hlt
        · exact h1 c hc
      · rename_i hlt
        have hgt := bl_tri (by simpa using hlt) hd
        refine List.pairwise_cons.2 ⟨fun c hc => ?_, h⟩
        rcases List.mem_cons.1 hc with rfl | hc
        · exact hgt
        · exact bl_trans hgt (h1 c hc)
theorem delB_cons (c : Bkt) (l : List Bkt) (s : List UInt8) : delB (c :: l) s = if c.name = s then l else c :: delB l s := by
  unfold delB
  by_cases hc : c.name = s
  · rw [if_pos hc, fidx, if_pos (by simp [nameIs, hc])]; rfl
  · rw [if_neg hc, fidx, if_neg (by simp [nameIs, hc])]; rfl
theorem del_none {s : List UInt8} : ∀ {l : List Bkt}, (∀ c ∈ l, c.name ≠ s) → delB l s = l
  | [], _ => rfl
  | c :: l, h => by rw [delB_cons, if_neg (h c (by simp)), del_none fun d hd => h d (by simp [hd])]
theorem del_mem {s : List UInt8} {c : Bkt} : ∀ {l : List Bkt}, Srt l → (c ∈ delB l s ↔ c ∈ l ∧ c.name ≠ s)
  | [], _ => by simp [delB]
  | d :: l, h => by
    obtain ⟨h1, h2⟩ := List.pairwise_cons.1 h
    rw [delB_cons]
    split
    · rename_i hd
      constructor
      · exact fun hc => ⟨List.mem_cons_of_mem _ hc, fun e => bl_ne (h1 c hc) (hd.trans e.symm)⟩
      · rintro ⟨hc, hn⟩
        rcases List.mem_cons.1 hc with rfl | hc
        · exact absurd hd hn
        · exact hc
    · rename_i hd
      rw [List.mem_cons, del_mem h2, List.mem_cons]
      constructor
      · rintro (rfl | ⟨hc, hn⟩)
        · exact ⟨.inl rfl, hd⟩
        · exact ⟨.inr hc, hn⟩
      · rintro ⟨rfl | hc, hn⟩
        · exact .inl rfl
        · exact .inr ⟨hc, hn⟩
theorem del_srt {s : List UInt8} {l : List Bkt} (h : Srt l) : Srt (delB l s) := List.Pairwise.sublist (List.eraseIdx_sublist _ _) h
theorem del_put {b : Bkt} {l : List Bkt} (h : Srt l) : delB (putB b l) b.name = delB l b.name :=
  srt_ext (del_srt (put_srt b h)) (del_srt h) fun c => by
    rw [del_mem (put_srt b h), del_mem h, put_mem h]
    constructor
    · rintro ⟨rfl | ⟨hc, _⟩, hn⟩
      · exact absurd rfl hn
      · exact ⟨hc, hn⟩
    · exact fun ⟨hc, hn⟩ => ⟨.inr ⟨hc, hn⟩, hn⟩
theorem putB_same {x y : Bkt} {l : List Bkt} (h : Srt l) (he : x.name = y.name) : putB y (putB x l) = putB y l :=
  srt_ext (put_srt y (put_srt x h)) (put_srt y h) fun c => by
    rw [put_mem (put_srt x h), put_mem h, put_mem h]
    constructor
    · rintro (rfl | ⟨rfl | ⟨hc, _⟩, hn⟩)
      · exact .inl rfl
      · exact absurd he hn
      · exact .inr ⟨hc, hn⟩
    · rintro (rfl | ⟨hc, hn⟩)
      · exact .inl rfl
      · exact .inr ⟨.inr ⟨hc, he ▸ hn⟩, hn⟩
theorem put_swap {x y : Bkt} {l : List Bkt} (h : Srt l) (he : x.name ≠ y.name) : putB y (putB x l) = putB x (putB y l) :=
  srt_ext (put_srt y (put_srt x h)) (put_srt x (put_srt y h)) fun c => by
    rw [put_mem (put_srt x h), put_mem h, put_mem (put_srt y h), put_mem h]
    constructor
    · rintro (rfl | ⟨rfl | ⟨hc, h1⟩, hn⟩)
      · exact .inr ⟨.inl rfl, fun e => he e.symm⟩
      · exact .inl rfl
      · exact .inr ⟨.inr ⟨hc, hn⟩, h1⟩
    · rintro (rfl | ⟨rfl | ⟨hc, h1⟩, hn⟩)
      · exact .inr ⟨.inl rfl, he⟩
      · exact .inl rfl
      · exact .inr ⟨.inr ⟨hc, hn⟩, h1⟩
theorem size_put (b : Bkt) : ∀ {l : List Bkt}, Srt l → sizeB (putB b l) = sizeB (delB l b.name) + (9 + b.name.length)
  | [], _ => by simp [putB, sizeB, delB]
  | c :: l, h => by
    obtain ⟨h1, h2⟩ := List.pairwise_cons.1 h
    have ih := size_put b h2
    have hc1 : ∀ (x : Bkt) (k : List Bkt), sizeB (x :: k) = 9 + x.name.length + sizeB k := fun x k => by simp [sizeB]
    rw [delB_cons]
    unfold putB
    by_cases hc : c.name = b.name
    · rw [if_pos hc, if_pos hc, hc1]; omega
    · rw [if_neg hc, if_neg hc]
      by_cases hlt : Op.bytesLess c.name b.name = true
      · rw [if_pos hlt, hc1, hc1, ih]; omega
      · have hgt := bl_tri (by simpa using hlt) hc
        rw [if_neg hlt, del_none fun d hd e => bl_ne (bl_trans hgt (h1 d hd)) e.symm, hc1]; omega
theorem find_put {b : Bkt} {l : List Bkt} (h : Srt l) : ∃ i, ∃ hi : i < (putB b l).length, findB (putB b l) b.name = (i, true) ∧ (putB b l)[i] = b := by
  have hx : fidx (nameIs b.name) (putB b l) < (putB b l).length := by
    have hle := fidx_le (p := nameIs b.name) (putB b l)
    rcases Nat.lt_or_ge (fidx (nameIs b.name) (putB b l)) (putB b l).length with h0 | h0
    · exact h0
    · exfalso
      have hm : b ∈ putB b l := (put_mem h).2 (.inl rfl)
      obtain ⟨j, hj, e⟩ := List.mem_iff_getElem.1 hm
      have := fidx_before (p := nameIs b.name) hj (by omega)
      rw [e] at this
      simp [nameIs] at this
  refine ⟨_, hx, by unfold findB; rw [if_pos hx], ?_⟩
  have h1 := fidx_at hx
  simp only [nameIs, decide_eq_true_eq] at h1
  rcases (put_mem h).1 (List.getElem_mem hx) with e | ⟨_, hn⟩
  · exact e
  · exact absurd h1 hn
theorem put_len (b : Bkt) : ∀ (l : List Bkt), (putB b l).length ≤ l.length + 1
  | [] => by simp [putB]
  | c :: l => by
    have := put_len b l
    unfold putB
    split
    · simp
    · split <;> simp <;> omega
end Go.Proofs.YtpcaoohacgkeiaaAM
