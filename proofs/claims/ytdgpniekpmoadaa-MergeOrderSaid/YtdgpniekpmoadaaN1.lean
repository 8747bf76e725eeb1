/- Chapter 26: what is kept, told again. -/
import Derived.Test.YtdgpniekpmoadaaM10
namespace Go.Proofs.YtdgpniekpmoadaaAM
open Go Go.RowKit
set_option linter.unusedVariables false
set_option linter.unusedSimpArgs false
set_option maxRecDepth 10000
set_option maxHeartbeats 4000000

theorem hasK_addP {all : List Pr} {p : Pr} {k : List UInt8} : hasK (addP all p) k = true ↔ hasK all k = true ∨ k = p.key := by
  unfold addP
  split
  · rename_i h
    constructor
    · exact .inl
    · rintro (h1 | rfl)
      · exact h1
      · exact h
  · rw [hasK_iff, hasK_iff, List.map_append, List.mem_append]
    simp
theorem addP_sub {all : List Pr} {p x : Pr} (h : x ∈ all) : x ∈ addP all p := by
  unfold addP
  split
  · exact h
  · simp [h]
theorem keptO_sub : ∀ (l : List Or') (all : List Pr) (x : Pr), x ∈ all → x ∈ keptO all l
  | [], _, _, h => h
  | o :: l, all, x, h => keptO_sub l _ x (addP_sub h)
theorem keptO_has : ∀ (l : List Or') (all : List Pr), ∀ o ∈ l, hasK (keptO all l) (kbytes o) = true
  | [], _, o, h => by cases h
  | o :: l, all, o', h => by
    show hasK (keptO (addP all (orP o)) l) (kbytes o') = true
    rcases List.mem_cons.1 h with rfl | h
    · have h1 : hasK (addP all (orP o')) (kbytes o') = true := hasK_addP.2 (.inr rfl)
      obtain ⟨x, hx, hk⟩ := List.mem_map.1 (hasK_iff.1 h1)
      exact hasK_iff.2 (List.mem_map.2 ⟨x, keptO_sub l _ x hx, hk⟩)
    · exact keptO_has l _ o' h
theorem keptO_stay : ∀ (l : List Or') (all : List Pr), (∀ o ∈ l, hasK all (kbytes o) = true) → keptO all l = all
  | [], _, _ => rfl
  | o :: l, all, h => by
    show keptO (addP all (orP o)) l = all
    rw [addP, if_pos (show hasK all (orP o).key = true from h o (by simp))]
    exact keptO_stay l all fun o ho => h o (by simp [ho])
/-- A second merge adds nothing. -/
theorem kept_again (ps : List Pr) (l : List Or') : keptA (outM (keptA ps l)) l = outM (keptA ps l) := by
  have hn : ((keptA ps l).map (·.key)).Nodup := keptO_nodup l (keptT_nodup ps)
  have hs := outM_srt hn
  unfold keptA
  rw [show keptO (keptT ps) l = keptA ps l from rfl, keptT_self (srt_keys hs)]
  exact keptO_stay l _ fun o ho => by rw [hasK_out hn]; exact keptO_has l _ o ho
theorem idxM_mem {A : List Pr} {k : List UInt8} (h : hasK A k = true) : ∃ j, ∃ hj : j < A.length, mget (idxM A 0) k = some (j + 1) ∧ A[j].key = k := by
  obtain ⟨j, hj, h1, h2, -⟩ := idxM_some k A 0 h
  exact ⟨j, hj, by rw [h1, Nat.zero_add], h2⟩
end Go.Proofs.YtdgpniekpmoadaaAM
