/- Looking behind writes; deferred calls that are none. -/
import Derived.Test.YtmdfejlfdgaomaaAM40
namespace Go.Proofs.YtmdfejlfdgaomaaAM
open Go Go.RowKit
set_option linter.unusedVariables false

theorem look_wput_self {i x} : ∀ {h : List (Nat × Blk)}, look i (putAt i x h) = (look i h).map fun _ => x := by
  intro h
  induction h with
  | nil => rfl
  | cons p r ih =>
    obtain ⟨j, b⟩ := p
    by_cases hij : i = j
    · subst hij; rw [put_self, look_self, look_self]; rfl
    · rw [put_miss hij, look_miss hij, look_miss hij, ih]
def unwindG (b : Option Blk) (d : Nat) (ds : List Nat) (a : AW) : Option AW := match b with
  | some (.obj (.deferred (some []))) => unwindA ds (a.write d (.obj (.deferred none)))
  | _ => none
theorem unwind_cons {d ds a} : unwindA (d :: ds) a = unwindG (a.get d) d ds a := by
  rw [unwindA]
  rfl
theorem unwindG_none {d ds a} : unwindG (some (.obj (.deferred (some [])))) d ds a = unwindA ds (a.write d (.obj (.deferred none))) := hide rfl
section
variable {α : Type}
theorem leave_listK {enc : α → List Value} {y : Nat} {h : List (Nat × Blk)} {n lo bs : Nat} {v : Value} {xs : List α} {a : AW} {K : Value → AW → Prop} (hf : ∀ x, (enc x).all flat = true) (ho : OutG enc y h n lo v xs) (hlo : a.next ≤ lo) (hK : ∀ v w, ListR enc y a xs v w → K v w) :
    K (oneOf (leaveA a [v] ⟨n, h, bs, []⟩).1) (leaveA a [v] ⟨n, h, bs, []⟩).2 := by
  obtain ⟨v', w, e, hr⟩ := leave_list (bs := bs) hf ho hlo
  rw [e]
  exact hK _ _ hr
theorem leave_list2K {enc : α → List Value} {y : Nat} {h : List (Nat × Blk)} {n lo bs : Nat} {v u : Value} {xs : List α} {a : AW} {K : Value → AW → Prop} (hf : ∀ x, (enc x).all flat = true) (hu : flat u = true) (ho : OutG enc y h n lo v xs) (hlo : a.next ≤ lo) (hK : ∀ v w, ListR enc y a xs v w → K (.tuple #[v, u]) w) :
    K (oneOf (leaveA a [v, u] ⟨n, h, bs, []⟩).1) (leaveA a [v, u] ⟨n, h, bs, []⟩).2 := by
  obtain ⟨v', w, e, hr⟩ := leave_list2 (bs := bs) hf hu ho hlo
  rw [e]
  exact hK _ _ hr
theorem OutG.shape {enc : α → List Value} {y : Nat} {h : List (Nat × Blk)} {n lo : Nat} {v : Value} {xs : List α} (ho : OutG enc y h n lo v xs) : ∃ p c, v = .slice p xs.length c := by
  rcases ho with ⟨rfl, rfl⟩ | ⟨b, rfl, _⟩
  · exact ⟨none, 0, rfl⟩
  · exact ⟨_, _, rfl⟩
theorem OutG.keep {enc : α → List Value} {y : Nat} {h h' : List (Nat × Blk)} {n n' lo : Nat} {v : Value} {xs : List α} (ho : OutG enc y h n lo v xs) (hn : n ≤ n') (hh : ∀ j, lo ≤ j → j < n → look j h' = look j h) : OutG enc y h' n' lo v xs := by
  rcases ho with ho | ⟨b, e1, e2, e3, e4, e5⟩
  · exact .inl ho
  · exact .inr ⟨b, e1, e2, by rw [hh b e4 e5]; exact e3, e4, by omega⟩
end
end Go.Proofs.YtmdfejlfdgaomaaAM
