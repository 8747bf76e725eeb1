/- Chapter 3: both devices side by side. -/
import Derived.Test.YtgdmgolmeeigdaaD19
namespace Go.Proofs.YtgdmgolmeeigdaaAM
open Go Go.RowKit
set_option linter.unusedVariables false
set_option linter.unusedSimpArgs false
set_option maxRecDepth 10000
set_option maxHeartbeats 4000000

theorem DevS.keep {h h' : List (Nat × Blk)} {n n' b q : Nat} {S : Nat → Prop} {D : Dv} (hd : DevS h n b q S D) (hn : n ≤ n') (h1 : look b h' = look b h) (h2 : look q h' = look q h) (h3 : ∀ j, S j → look j h' = look j h) : DevS h' n' b q S D := by
  obtain ⟨⟨pv, fs, hb, hp, hfl, hrep⟩, hbq, hbS, hqS, ⟨hbn, hqn, hSn⟩, hfu, hno0, him, hdu, hop⟩ := hd
  refine ⟨⟨pv, fs, by rw [h1]; exact hb, ?_, hfl, fun i fv o e1 e2 => (hrep i fv o e1 e2).keep (fun j hj => hj) h3⟩, hbq, hbS, hqS, ⟨by omega, by omega, fun j hj => by have := hSn j hj; omega⟩, hfu, hno0, him, hdu, hop⟩
  rcases hp with hp | ⟨e1, e2, e3⟩
  · exact .inl hp
  · exact .inr ⟨e1, e2, by rw [h2]; exact e3⟩
theorem RefS.keep {h h' : List (Nat × Blk)} {n n' b q : Nat} {D : Dv} (hd : RefS h n b q D) (hn : n ≤ n') (h1 : look b h' = look b h) (h2 : look q h' = look q h) : RefS h' n' b q D := by
  obtain ⟨⟨pv, hb, hp⟩, hbq, ⟨hbn, hqn⟩, hfu, hno0, him, hdu, hop⟩ := hd
  exact ⟨⟨pv, by rw [h1]; exact hb, hp.keep h2⟩, hbq, ⟨by omega, by omega⟩, hfu, hno0, him, hdu, hop⟩
/-- Both devices, each in blocks of its own. -/
structure Both (h : List (Nat × Blk)) (n b q : Nat) (S : Nat → Prop) (b2 q2 : Nat) (D D2 : Dv) : Prop where
  dev : DevS h n b q S D
  ref : RefS h n b2 q2 D2
  dis : b2 ≠ b ∧ b2 ≠ q ∧ q2 ≠ b ∧ q2 ≠ q ∧ ¬ S b2 ∧ ¬ S q2
/-- What became of it. -/
structure Went (h : List (Nat × Blk)) (n b q : Nat) (S : Nat → Prop) (b2 q2 : Nat) (D D2 : Dv) (h' : List (Nat × Blk)) (n' q' : Nat) (S' : Nat → Prop) (q2' : Nat) : Prop where
  both : Both h' n' b q' S' b2 q2' D D2
  le : n ≤ n'
  fq : q' = q ∨ n ≤ q'
  fq2 : q2' = q2 ∨ n ≤ q2'
  fS : ∀ j, S' j → S j ∨ n ≤ j
  out : ∀ j, j < n → j ≠ b → j ≠ q → j ≠ b2 → j ≠ q2 → look j h' = look j h
section
variable {h h1 h' h'' : List (Nat × Blk)} {n n1 n' n'' b q q' q'' b2 q2 q2' q2'' bs : Nat} {d d' : List Nat} {S S' S'' : Nat → Prop} {D D' D2 D2' : Dv}
theorem Both.more (hB : Both h n b q S b2 q2 D D2) (hn : n ≤ n') (hh : ∀ j, j < n → look j h' = look j h) : Went h n b q S b2 q2 D D2 h' n' q S q2 := by
  refine ⟨⟨hB.dev.more hn hh (fun j hj => hj) (fun j hj => .inl hj), hB.ref.keep hn (hh _ hB.ref.lt.1) (hh _ hB.ref.lt.2), hB.dis⟩, hn, .inl rfl, .inl rfl, fun j hj => .inl hj, fun j j1 _ _ _ _ => hh j j1⟩
theorem Went.dev (hW : Went h n b q S b2 q2 D D2 h' n' q' S' q2') (ha : After h' n' bs d b q' S' D D' h'' n'' d' q'' S'') : Went h n b q S b2 q2 D' D2 h'' n'' q'' S'' q2' := by
  obtain ⟨⟨hd, hr, c1, c2, c3, c4, c5, c6⟩, hle, fq, fq2, fS, out⟩ := hW
  have l1 := hd.lt
  have l2 := hr.lt
  cases ha with
  | same e => exact ⟨⟨e ▸ hd, hr, c1, c2, c3, c4, c5, c6⟩, hle, fq, fq2, fS, out⟩
  | wrote g1 g2 g3 g4 g5 g6 =>
    refine ⟨⟨g5, hr.keep g4 (g6 _ l2.1 c1 c2) (g6 _ l2.2 c3 c4), c1, by omega, c3, by omega, fun hs => ?_, fun hs => ?_⟩, by omega, by omega, fq2, fun j hj => ?_, fun j j1 j2 j3 j4 j5 => ?_⟩
    · rcases g3 _ hs with h | h
      · exact c5 h
      · omega
    · rcases g3 _ hs with h | h
      · exact c6 h
      · omega
    · rcases g3 _ hj with h | h
      · exact fS j h
      · right; omega
    · rw [g6 j (by omega) j2 (by omega), out j j1 j2 j3 j4 j5]
theorem Went.ref (hW : Went h n b q S b2 q2 D D2 h' n' q' S' q2') (ha : AfterR h' n' bs d b2 q2' D2 D2' h'' n'' d' q2'') : Went h n b q S b2 q2 D D2' h'' n'' q' S' q2'' := by
  obtain ⟨⟨hd, hr, c1, c2, c3, c4, c5, c6⟩, hle, fq, fq2, fS, out⟩ := hW
  have l1 := hd.lt
  have l2 := hr.lt
  cases ha with
  | same e => exact ⟨⟨hd, e ▸ hr, c1, c2, c3, c4, c5, c6⟩, hle, fq, fq2, fS, out⟩
  | wrote g1 g2 g4 g5 g6 =>
    refine ⟨⟨hd.keep g4 (g6 _ l1.1 (Ne.symm c1) (Ne.symm c3)) (g6 _ l1.2.1 (Ne.symm c2) (Ne.symm c4)) (fun j hj => g6 j (l1.2.2 j hj) (fun e => c5 (e ▸ hj)) (fun e => c6 (e ▸ hj))), g5, c1, c2, by omega, by omega, c5, fun hs => ?_⟩, by omega, fq, by omega, fS, fun j j1 j2 j3 j4 j5 => ?_⟩
    · have := l1.2.2 _ hs
      rcases g2 with rfl | h
      · exact c6 hs
      · omega
    · rw [g6 j (by omega) j4 (by omega), out j j1 j2 j3 j4 j5]
/-- What may have been touched behind a frame's calls: nothing (and p), or a block from below the frame too. -/
def Dirt (n : Nat) (U : Nat → Prop) (d : List Nat) (p : Prop) : Prop := FromU U d ∧ ((d = [] ∧ p) ∨ ∃ i ∈ d, i < n)
theorem dirt_nil {n : Nat} {U : Nat → Prop} {p : Prop} (hp : p) : Dirt n U [] p := ⟨fromU_nil, .inl ⟨rfl, hp⟩⟩
theorem After.dirt {U : Nat → Prop} {p p' : Prop} (ha : After h' n' bs d b q' S' D D' h'' n'' d' q'' S'') (hd : Dirt n U d p) (hpp : p → D' = D → p') (hbs : b < bs) (hb : b < n) (h1 : U b) (h2 : U q') : Dirt n U d' p' := by
  cases ha with
  | same e =>
    refine ⟨hd.1, ?_⟩
    rcases hd.2 with ⟨e1, e2⟩ | h
    · exact .inl ⟨e1, hpp e2 e⟩
    · exact .inr h
  | wrote g1 => exact ⟨g1.2.2 U h1 h2 hd.1, .inr ⟨b, g1.2.1 hbs, hb⟩⟩
theorem AfterR.dirt {U : Nat → Prop} {p p' : Prop} (ha : AfterR h' n' bs d b q' D D' h'' n'' d' q'') (hd : Dirt n U d p) (hpp : p → D' = D → p') (hbs : b < bs) (hb : b < n) (h1 : U b) (h2 : U q') : Dirt n U d' p' := by
  cases ha with
  | same e =>
    refine ⟨hd.1, ?_⟩
    rcases hd.2 with ⟨e1, e2⟩ | h
    · exact .inl ⟨e1, hpp e2 e⟩
    · exact .inr h
  | wrote g1 => exact ⟨g1.2.2 U h1 h2 hd.1, .inr ⟨b, g1.2.1 hbs, hb⟩⟩
/-- In a drawn region the call begins anew. -/
theorem Dirt.soil {U : Nat → Prop} {m : List Nat} {p r p' : Prop} (hd : Dirt n U d p) (hm : Dirt n U m r) (hpp : p → r → p') : Dirt n U (soilAll d n m) p' := by
  refine ⟨soilAll_fromU hd.1 hm.1, ?_⟩
  rcases hm.2 with ⟨rfl, hr⟩ | ⟨i, hi, hin⟩
  · rcases hd.2 with ⟨e1, e2⟩ | h
    · exact .inl ⟨e1, hpp e2 hr⟩
    · exact .inr h
  · exact .inr ⟨i, soilAll_mem hin hi, hin⟩
end
/-- Behind the frame. -/
theorem leave_went {h h' : List (Nat × Blk)} {n n' b q q' b2 q2 q2' bs : Nat} {d d' : List Nat} {S S' : Nat → Prop} {D D' D2 D2' : Dv} (hB : Both h n b q S b2 q2 D D2) (hW : Went h n b q S b2 q2 D' D2' h' n' q' S' q2') (hd : Dirt n (fun j => j = b ∨ j = q ∨ j = b2 ∨ j = q2) d' (D' = D ∧ D2' = D2)) {v : Value} (hv : flat v = true) {K : Value → AW → Prop}
    (hK : ∀ n2 h2 q3 S3 q4 d2, (∀ U : Nat → Prop, U b → U q → U b2 → U q2 → FromU U d → FromU U d2) → Went h n b q S b2 q2 D' D2' h2 n2 q3 S3 q4 → K v ⟨n2, h2, bs, d2⟩) : K (oneOf (leaveA ⟨n, h, bs, d⟩ [v] ⟨n', h', n, d'⟩).1) (leaveA ⟨n, h, bs, d⟩ [v] ⟨n', h', n, d'⟩).2 := by
  rcases hd.2 with ⟨rfl, rfl, rfl⟩ | ⟨i, hi, hin⟩
  · rw [leave_flat (by simp [hv])]
    exact hK n h q S q2 d (fun _ _ _ _ _ h => h) (hB.more (Nat.le_refl _) fun _ _ => rfl)
  · rw [leave_dirty0 (List.ne_nil_of_mem hi)]
    refine hK _ _ _ _ _ _ (fun U u1 u2 u3 u4 hu => soilAll_fromU hu fun j hj => ?_) hW
    rcases hd.1 j hj with rfl | rfl | rfl | rfl
    · exact u1
    · exact u2
    · exact u3
    · exact u4
end Go.Proofs.YtgdmgolmeeigdaaAM
