/- What the evaluator leaves alone; one operation. -/
import Derived.Test.YtmdfejlfdgaomaaAM12
namespace Go.Proofs.YtmdfejlfdgaomaaAM
open Go Go.RowKit
set_option linter.unusedVariables false
set_option linter.unusedSimpArgs false

/-- Blocks from before that are not told as written are as they were. -/
structure Evo (a a' : AW) : Prop where
  base : a'.base = a.base
  next : a.next ≤ a'.next
  dirty : ∀ i ∈ a.dirty, i ∈ a'.dirty
  get : ∀ i, i < a.base → i ∉ a'.dirty → a'.get i = a.get i
theorem Evo.refl (a : AW) : Evo a a := ⟨rfl, Nat.le_refl _, fun _ h => h, fun _ _ _ => rfl⟩
theorem Evo.trans {a b c : AW} (h : Evo a b) (k : Evo b c) : Evo a c :=
  ⟨k.base.trans h.base, Nat.le_trans h.next k.next, fun i hi => k.dirty i (h.dirty i hi), fun i hi hn =>
    (k.get i (h.base ▸ hi) hn).trans (h.get i hi fun hh => hn (k.dirty i hh))⟩
theorem look_putAt_ne {i j : Nat} {x : Blk} (h : j ≠ i) : ∀ l : List (Nat × Blk), look j (putAt i x l) = look j l
  | [] => rfl
  | (k, b) :: l => by
    simp only [putAt]
    by_cases hk : i = k
    · subst hk; simp [look, h]
    · simp only [if_neg hk, look, look_putAt_ne h l]
theorem look_kill_ne {i j : Nat} (h : j ≠ i) : ∀ l : List (Nat × Blk), look j (kill i l) = look j l
  | [] => rfl
  | (k, b) :: l => by
    simp only [kill]
    by_cases hk : i = k
    · subst hk; simp [look, h]
    · simp only [if_neg hk, look, look_kill_ne h l]
theorem evo_new (a : AW) (b : Blk) (h : a.base ≤ a.next) : Evo a (a.new b) :=
  ⟨rfl, Nat.le_succ _, fun _ h => h, fun i hi _ => by
    have : i ≠ a.next := by omega
    simp only [AW.get, AW.new, look, if_neg this]⟩
theorem soil_mem (a : AW) (i : Nat) : (∀ j ∈ a.dirty, j ∈ a.soil i) ∧ (i < a.base → i ∈ a.soil i) := by
  unfold AW.soil
  split
  · split
    · rename_i hc
      exact ⟨fun _ h => h, fun _ => by simpa using hc⟩
    · exact ⟨fun j h => .tail _ h, fun _ => .head _⟩
  · rename_i hn
    exact ⟨fun _ h => h, fun h => absurd h hn⟩
theorem evo_write (a : AW) (i : Nat) (b : Blk) : Evo a (a.write i b) := by
  refine ⟨rfl, Nat.le_refl _, (soil_mem a i).1, fun j hj hn => ?_⟩
  have : j ≠ i := fun e => hn (by subst e; exact (soil_mem a j).2 hj)
  simp only [AW.get, AW.write, look_putAt_ne this]
theorem evo_drop (a : AW) (i : Nat) : Evo a (a.drop i) := by
  refine ⟨rfl, Nat.le_refl _, (soil_mem a i).1, fun j hj hn => ?_⟩
  have : j ≠ i := fun e => hn (by subst e; exact (soil_mem a j).2 hj)
  simp only [AW.get, AW.drop, look_kill_ne this]
theorem evo_storeN {a a' : AW} {p : Addr} {vs : List Value} (h : a.storeN p vs = some a') : Evo a a' := by
  unfold AW.storeN at h
  split at h
  · split at h
    · cases h; exact evo_write _ _ _
    · cases h
  · cases h
theorem evo_append {P : Program} {ts : Array TypeId} {s x v : Value} {a a' : AW} (hb : a.base ≤ a.next) (h : appendA P ts s x a = some (v, a')) : Evo a a' := by
  unfold appendA at h
  repeat' (first | (cases h; done) | split at h)
  all_goals first
    | (cases h; done)
    | (cases h; exact evo_storeN (by assumption))
    | (cases h; exact evo_new _ _ hb)
    | (cases h; exact (evo_drop _ _).trans (evo_new _ _ hb))
    | skip
theorem evo_builtin {P : Program} {b : Builtin} {ts : Array TypeId} {args : List Value} {v : Value} {a a' : AW} (hb : a.base ≤ a.next) (h : builtinA P b ts args a = some (v, a')) : Evo a a' := by
  unfold builtinA at h
  split at h
  · exact evo_append hb h
  · unfold copyA at h
    repeat' (first | (cases h; done) | split at h)
    all_goals first
      | (cases h; done)
      | (cases h; exact evo_storeN (by assumption))
      | (cases h; exact .refl _)
  · split at h
    · obtain ⟨a1, e1, e2⟩ := Option.map_eq_some_iff.1 h
      cases e2
      unfold deleteA at e1
      repeat' (first | (cases e1; done) | split at e1)
      all_goals first
        | (cases e1; done)
        | (cases e1; exact evo_write _ _ _)
    · cases h
  · repeat' (first | (cases h; done) | split at h)
    all_goals first
      | (cases h; done)
      | (cases h; exact evo_storeN (by assumption))
      | (cases h; exact .refl _)
  · cases h
theorem evo_work {P : Program} {tmps : List Value} {o : Oper} {x : NextA} {a a' : AW} (hb : a.base ≤ a.next) (h : workA P tmps o a = some (x, a')) : Evo a a' := by
  unfold workA at h
  split at h
  · -- store
    split at h
    · unfold val0 at h
      split at h
      · rename_i hs
        cases h
        unfold storeVarA at hs
        repeat' (first | (cases hs; done) | split at hs)
        all_goals first
          | (cases hs; done)
          | exact evo_storeN hs
      · cases h
    · cases h
  · split at h
    · unfold val0 at h
      split at h
      · rename_i hs
        cases h
        unfold updateA at hs
        repeat' (first | (cases hs; done) | split at hs)
        all_goals first
          | (cases hs; done)
          | (cases hs; exact evo_write _ _ _)
      · cases h
    · cases h
  · split at h
    · unfold val0 at h
      split at h
      · rename_i hs
        cases h
        unfold updateA at hs
        repeat' (first | (cases hs; done) | split at hs)
        all_goals first
          | (cases hs; done)
          | (cases hs; exact evo_write _ _ _)
      · cases h
    · cases h
  · split at h
    · unfold val2 at h
      split at h
      · rename_i hs
        cases h
        unfold rangeA at hs
        repeat' (first | (cases hs; done) | split at hs)
        all_goals first
          | (cases hs; done)
          | (cases hs; exact evo_new _ _ hb)
      · cases h
    · cases h
  · split at h
    · unfold val2 at h
      split at h
      · rename_i hs
        cases h
        unfold nextA at hs
        repeat' (first | (cases hs; done) | split at hs)
        all_goals first
          | (cases hs; done)
          | (cases hs; exact evo_write _ _ _)
          | (cases hs; exact .refl _)
          | skip
        all_goals
          dsimp only at hs
          repeat' (first | (cases hs; done) | split at hs)
          all_goals first
            | (cases hs; done)
            | (cases hs; exact evo_write _ _ _)
            | (cases hs; exact .refl _)
      · cases h
    · cases h
  · split at h
    · split at h
      · unfold val2 at h
        split at h
        · rename_i hs
          cases h
          exact evo_builtin hb hs
        · cases h
      · split at h
        · cases h; exact .refl _
        · cases h; exact .refl _
        · cases h
      · cases h
    · cases h
  · cases h
theorem evo_op {P : Program} {tmps : List Value} {o : Oper} {x : NextA} {a a' : AW} (hb : a.base ≤ a.next) (h : opA P tmps o a = some (x, a')) : Evo a a' := by
  unfold opA at h
  split at h
  · unfold val1 at h
    split at h
    · cases h; exact .refl _
    · cases h
  · unfold val1 at h
    split at h
    · cases h; exact .refl _
    · cases h
  · split at h
    · cases h; exact evo_new _ _ hb
    · cases h
  · exact evo_work hb h

section
variable {P : Program} {ρ : Ren} {a : AW} {w : World}
/-- A block that the program has made gets its number. -/
theorem step_makes (h : WRel ρ a w) {b : Blk} {f : Nat → Value} {w' : World} {v' : Value} (hm : Makes ρ a.next w b f w' v') : ∃ ρ', Step ρ a.next w ρ' (a.new b) w' ∧ VRel ρ' (a.new b).next (f a.next) v' := by
  obtain ⟨n, o, e1, e2, e3, e4, hm⟩ := hm
  obtain ⟨g1, g2⟩ := hm (upd ρ a.next (some ⟨w.heap.size, 0, n, true⟩)) (a.next + 1) a.next (ext_new h _) (Nat.lt_succ_self _) (fun I e => by rw [upd_self] at e; cases e; rfl)
  have st := step_new h g1
  exact ⟨_, st.trans (step_drew st.rel e1 e2 e3 e4), g2⟩
theorem sim_op (h : WRel ρ a w) {tmps : List Value} {t : Act} (ht : TRel ρ a.next tmps t.tmps) {o : Oper} {x : NextA} {a' : AW} (e : opA P tmps o a = some (x, a')) : Works P ρ a w (execOp t.eval o) x a' := by
  unfold opA at e
  split at e
  · rename_i hk
    unfold val1 at e
    split at e
    · rename_i v hv
      cases e
      obtain ⟨v', g1, g2⟩ := sim_pure (P := P) ht hk hv w
      exact .value (.mk g1 (.refl h) g2)
    · cases e
  · rename_i hk
    unfold val1 at e
    split at e
    · rename_i v hv
      cases e
      obtain ⟨⟨b, v0⟩, e1, e2⟩ := Option.map_eq_some_iff.1 hv
      cases e2
      obtain ⟨v', g1, g2⟩ := sim_read (P := P) h ht hk e1
      exact .value (.mk g1 (.refl h) g2)
    · cases e
  · rename_i hk
    split at e
    · rename_i b f hv
      cases e
      obtain ⟨w', v', g1, g2⟩ := sim_make (P := P) (w := w) ht hk hv
      obtain ⟨ρ', st, hv'⟩ := step_makes h g2
      exact .value (.mk g1 st hv')
    · cases e
  · exact sim_work h ht e
end
end Go.Proofs.YtmdfejlfdgaomaaAM
