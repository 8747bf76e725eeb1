/- Operations that ask no memory: the evaluator's and the program's. -/
import Derived.Test.YtmdfejlfdgaomaaAM3
import Derived.Lib.Strings
namespace Go.Proofs.YtmdfejlfdgaomaaAM
open Go Go.RowKit
set_option linter.unusedVariables false
set_option linter.unusedSimpArgs false

theorem run_prun {α : Type} {P : Program} {s : Sem α} {x : α} (h : prun P s = some x) (w : World) : s.run P w = .ok x w := by
  induction s with
  | pure a => simp only [prun, Option.some.injEq] at h; subst h; rfl
  | program k ih => simp only [prun] at h; simp only [Sem.run]; exact ih _ h
  | mark m k ih => simp only [prun] at h; simp only [Sem.run]; exact ih h
  | _ => simp [prun] at h
theorem run_prunF {P : Program} {s : Sem Value} {x : Value} (h : prunF P s = some x) (w : World) : s.run P w = .ok x w ∧ flat x = true := by
  unfold prunF at h
  split at h
  · rename_i v e
    split at h
    · cases h; exact ⟨run_prun e w, ‹_›⟩
    · cases h
  · cases h
theorem run_value {P : Program} {s : Sem Value} {v : Value} {w w' : World} (h : s.run P w = .ok v w') : (s >>= fun x => (Pure.pure (Next.value x) : Sem Next)).run P w = .ok (.value v) w' := by
  rw [Sem.run_bind, h]; rfl

section
variable {P : Program} {ρ : Ren} {K : Nat} {tmps : List Value} {a : Act}
theorem rel_undef : VRel ρ K undef undef := .tuple rfl (fun i p => by simp at p)
theorem rel_getD {l l' : List Value} (h : LRel ρ K l l') (t : Nat) : VRel ρ K (l.getD t undef) (l'.getD t undef) := by
  rw [List.getD_eq_getElem?_getD, List.getD_eq_getElem?_getD]
  cases e : l[t]? with
  | none =>
    have : l'[t]? = none := by
      have hl := h.length
      rw [List.getElem?_eq_none_iff] at e ⊢; omega
    rw [this]; exact rel_undef
  | some v =>
    obtain ⟨v', e', hv⟩ := h.get e
    rw [e']; exact hv
theorem rel_eval (h : TRel ρ K tmps a.tmps) {x : Operand} {v : Value} (e : evalA tmps x = some v) : VRel ρ K v (a.eval x) := by
  cases x with
  | tmp t =>
    simp only [evalA, Option.some.injEq] at e
    subst e
    have := rel_getD h t
    simpa [Act.eval, Array.getD_eq_getD_getElem?, List.getD_eq_getElem?_getD] using this
  | const v0 =>
    simp only [evalA] at e
    split at e
    · cases e; exact flat_self ‹_›
    · cases e
  | global g => cases e
  | func f => cases e; exact .func (.func f) rfl (fun i p => by simp at p) rfl (fun i p => by simp at p)
theorem rel_evals (h : TRel ρ K tmps a.tmps) : ∀ {l : List Operand} {vs : List Value}, evals tmps l = some vs → LRel ρ K vs (l.map a.eval)
  | [], vs, e => by cases e; exact .nil
  | x :: l, vs, e => by
    simp only [evals] at e
    split at e
    · rename_i v us e1 e2
      cases e
      exact .cons (rel_eval h e1) (rel_evals h e2)
    · cases e
inductive OpRel (ρ : Ren) (K : Nat) : Option Value → Option Value → Prop
  | none : OpRel ρ K none none
  | some {v v' : Value} (h : VRel ρ K v v') : OpRel ρ K (some v) (some v')
theorem rel_evalO (h : TRel ρ K tmps a.tmps) {x : Option Operand} {v : Option Value} (e : evalO tmps x = some v) : OpRel ρ K v (x.map a.eval) := by
  cases x with
  | none => cases e; exact .none
  | some x =>
    simp only [evalO] at e
    obtain ⟨u, e1, rfl⟩ := Option.map_eq_some_iff.1 e
    exact .some (rel_eval h e1)
inductive PsRel (ρ : Ren) (K : Nat) : List (Nat × Value) → List (Nat × Value) → Prop
  | nil : PsRel ρ K [] []
  | cons (i : Nat) {v v' : Value} {l l' : List (Nat × Value)} (h : VRel ρ K v v') (r : PsRel ρ K l l') : PsRel ρ K ((i, v) :: l) ((i, v') :: l')
theorem rel_parts (h : TRel ρ K tmps a.tmps) : ∀ {l : List (Nat × Operand)} {vs : List (Nat × Value)}, partsA tmps l = some vs → PsRel ρ K vs (l.map fun (i, x) => (i, a.eval x))
  | [], vs, e => by cases e; exact .nil
  | (i, x) :: l, vs, e => by
    simp only [partsA] at e
    split at e
    · rename_i v us e1 e2
      cases e
      exact .cons i (rel_eval h e1) (rel_parts h e2)
    · cases e

/-! ### bounds and slices -/
theorem run_bound {x x' : Value} (h : VRel ρ K x x') {y y' n : Nat} (hy : y ≤ y') (c : BoundsCode) (w : World) (e : boundA x y = some n) : (Instr.sliceBound x' y' c).run P w = .ok n w := by
  unfold boundA at e
  split at e
  · rename_i k i
    split at e
    · rename_i hi
      cases e
      cases h
      unfold Instr.sliceBound
      simp only [asIntOf, Sem.run_bind, Sem.run_pure, Result.andThen_ok, if_pos (show 0 ≤ i ∧ i ≤ (y' : Int) by omega)]
    · cases e
  · cases e
theorem run_bounds {lo lo' hi hi' mx mx' : Option Value} (h1 : OpRel ρ K lo lo') (h2 : OpRel ρ K hi hi') (h3 : OpRel ρ K mx mx') {len cap cap' : Nat} (hy : cap ≤ cap') {l h m : Nat} (s : Bool) (w : World)
    (e : boundsA len cap lo hi mx = some (l, h, m)) : (Instr.sliceBounds s len cap' lo' hi' mx').run P w = .ok (l, h, if mx.isSome then m else cap') w := by
  unfold boundsA at e
  unfold Instr.sliceBounds
  cases h3 with
  | none =>
    simp only at e
    cases h2 with
    | none =>
      simp only at e
      cases h1 with
      | none => cases e; rfl
      | some hl =>
        obtain ⟨l, e1, e2⟩ := Option.map_eq_some_iff.1 e
        cases e2
        simp [Sem.run_bind, Sem.run_pure, Result.andThen_ok, run_bound hl (Nat.le_refl _) _ w e1]
    | some hh =>
      simp only at e
      split at e
      · rename_i h0 eh
        cases h1 with
        | none =>
          cases e
          simp [Sem.run_bind, Sem.run_pure, Result.andThen_ok, run_bound hh hy _ w eh]
        | some hl =>
          obtain ⟨l, e1, e2⟩ := Option.map_eq_some_iff.1 e
          cases e2
          simp [Sem.run_bind, Sem.run_pure, Result.andThen_ok, run_bound hh hy _ w eh, run_bound hl (Nat.le_refl _) _ w e1]
      · cases e
  | some hm =>
    cases h2 with
    | none =>
      simp only at e
      split at e
      · rename_i h; cases h
      · cases e
    | some hh =>
      simp only at e
      split at e
      · rename_i m hv em eh
        cases eh
        split at e
        · rename_i h0 eh
          cases h1 with
          | none =>
            cases e
            simp [Sem.run_bind, Sem.run_pure, Result.andThen_ok, run_bound hm hy _ w em, run_bound hh (Nat.le_refl _) _ w eh]
          | some hl =>
            obtain ⟨l, e1, e2⟩ := Option.map_eq_some_iff.1 e
            cases e2
            simp [Sem.run_bind, Sem.run_pure, Result.andThen_ok, run_bound hm hy _ w em, run_bound hh (Nat.le_refl _) _ w eh, run_bound hl (Nat.le_refl _) _ w e1]
        · cases e
      · cases e
theorem bound_le {x : Value} {y n : Nat} (e : boundA x y = some n) : n ≤ y := by
  unfold boundA at e
  split at e
  · split at e
    · cases e; omega
    · cases e
  · cases e
/-- low, high, max in their order; without a max: the capacity; without a high: the length. -/
theorem bounds_facts {lo hi mx : Option Value} {len cap l h m : Nat} (e : boundsA len cap lo hi mx = some (l, h, m)) (hlc : len ≤ cap) : l ≤ h ∧ h ≤ m ∧ m ≤ cap ∧ (mx = none → m = cap) := by
  unfold boundsA at e
  split at e
  · rename_i v
    split at e
    · rename_i m0 hv em
      split at e
      · rename_i h0 eh
        split at e
        · obtain ⟨l0, e1, e2⟩ := Option.map_eq_some_iff.1 e
          cases e2
          exact ⟨bound_le e1, bound_le eh, bound_le em, fun h => (by cases h)⟩
        · cases e
          exact ⟨Nat.zero_le _, bound_le eh, bound_le em, fun h => (by cases h)⟩
      · cases e
    · cases e
  · split at e
    · split at e
      · rename_i h0 eh
        split at e
        · obtain ⟨l0, e1, e2⟩ := Option.map_eq_some_iff.1 e
          cases e2
          exact ⟨bound_le e1, bound_le eh, Nat.le_refl _, fun _ => rfl⟩
        · cases e
          exact ⟨Nat.zero_le _, bound_le eh, Nat.le_refl _, fun _ => rfl⟩
      · cases e
    · split at e
      · obtain ⟨l0, e1, e2⟩ := Option.map_eq_some_iff.1 e
        cases e2
        exact ⟨bound_le e1, hlc, Nat.le_refl _, fun _ => rfl⟩
      · cases e
        exact ⟨Nat.zero_le _, hlc, Nat.le_refl _, fun _ => rfl⟩
theorem strSub_eq (s : ByteArray) (l h : Nat) : strSub s l h = s.extract l h := by
  apply ByteArray.ext
  rw [ByteArray.data_extract]
  apply Array.ext'
  rw [Array.toList_extract]
  simp [strSub, mkStr, strOf, List.drop_take]
theorem run_slice {v v' : Value} (hv : VRel ρ K v v') {lo lo' hi hi' mx mx' : Option Value} (h1 : OpRel ρ K lo lo') (h2 : OpRel ρ K hi hi') (h3 : OpRel ρ K mx mx') {t : TypeId} {r : Value} (w : World)
    (e : sliceA P t v lo hi mx = some r) : ∃ r', (Instr.sliceAt t v' lo' hi' mx').run P w = .ok r' w ∧ VRel ρ K r r' := by
  have hsome : mx'.isSome = mx.isSome := by cases h3 <;> rfl
  unfold sliceA at e
  split at e
  · -- a string
    rename_i s hu
    cases hv
    split at e
    · cases e
    · rename_i hm
      obtain ⟨⟨l, h, m⟩, e1, rfl⟩ := Option.map_eq_some_iff.1 e
      have hmx : mx = none := by simpa using hm
      subst hmx
      cases h3
      refine ⟨.string (s.extract l h), ?_, by show VRel ρ K (.string (strSub s l h)) _; rw [strSub_eq]; exact .string _⟩
      unfold Instr.sliceAt Instr.slice
      simp only [Sem.run_bind, run_underlying hu, Result.andThen_ok, Option.isSome_none, Bool.false_eq_true, if_false, Sem.run_pure, run_bounds h1 h2 .none (Nat.le_refl _) false w e1]
  · -- nil
    rename_i te len cap hu
    cases hv
    split at e
    · rename_i z hz
      obtain ⟨⟨l, h, m⟩, e1, rfl⟩ := Option.map_eq_some_iff.1 e
      have hm : (if mx.isSome then m else cap) = m := by
        split
        · rfl
        · rename_i hh
          have : mx = none := by simpa using hh
          subst this
          unfold boundsA at e1
          simp only at e1
          split at e1
          · split at e1
            · split at e1
              · obtain ⟨_, _, e2⟩ := Option.map_eq_some_iff.1 e1; cases e2; rfl
              · cases e1; rfl
            · cases e1
          · split at e1
            · obtain ⟨_, _, e2⟩ := Option.map_eq_some_iff.1 e1; cases e2; rfl
            · cases e1; rfl
      refine ⟨.slice none (h - l) (m - l), ?_, .sliceNil _ _⟩
      unfold Instr.sliceAt Instr.slice
      simp only [Sem.run_bind, run_underlying hu, Result.andThen_ok, Sem.run_pure, run_bounds h1 h2 h3 (Nat.le_refl _) true w e1, run_sizeOf hz, hm, Option.map_none, ite_self]
    · cases e
  · -- a slice
    rename_i te p len cap hu
    cases hv with
    | @slice _ p' _ _ cap' hK ha hn hc h0 hg =>
      split at e
      · rename_i z hz
        split at e
        · cases e
        rename_i hspot
        obtain ⟨⟨l, h, m⟩, e1, rfl⟩ := Option.map_eq_some_iff.1 e
        obtain ⟨f1, f2, f3, f4⟩ := bounds_facts e1 hn
        refine ⟨.slice (if (if mx.isSome then m else cap') = l then some p' else some (p'.add (l * z))) (h - l) ((if mx.isSome then m else cap') - l), ?_, ?_⟩
        · unfold Instr.sliceAt Instr.slice
          simp only [Sem.run_bind, run_underlying hu, Result.andThen_ok, Sem.run_pure, run_bounds h1 h2 h3 hc true w e1, run_sizeOf hz, Option.map_some]
        · have hadd : ∀ I, ρ p.block = some I → ∀ n, p' = ⟨I.b, p.off + I.sh, none⟩ → p'.add n = ⟨I.b, p.off + n + I.sh, none⟩ := by
            intro I e n hp
            rw [hp]
            unfold Addr.add
            split
            · subst_vars; rfl
            · simp only [Addr.mk.injEq, and_true, true_and]; omega
          rw [show (if (if mx.isSome then m else cap') = l then some p' else some (p'.add (l * z))) = some (if (if mx.isSome then m else cap') = l then p' else p'.add (l * z)) by by_cases hq : (if mx.isSome then m else cap') = l <;> simp only [hq, if_true, if_false]]
          by_cases hm : mx.isSome
          · simp only [hm, if_true, true_or, true_and]
            refine .slice hK (fun I eI => ?_) (by omega) (Nat.le_refl _) (fun _ => rfl) (fun z' hz' => by simp at hz')
            by_cases hml : m = l
            · exact .inl (by omega)
            · right
              rw [if_neg hml, if_neg hml]
              rcases ha I eI with hz0 | hp
              · omega
              · exact hadd I eI _ hp
          · have hmn : mx = none := by simpa using hm
            have hmc := f4 hmn
            subst hmc
            simp only [hm, if_false, Bool.false_eq_true, false_or]
            refine .slice hK (fun I eI => ?_) (by omega) (by omega) (fun hs => by rw [h0 hs]) (fun z' hz' I eI => ?_)
            · by_cases hc0 : cap' - l = 0
              · exact .inl hc0
              · right
                have hp : p' = ⟨I.b, p.off + I.sh, none⟩ := (ha I eI).resolve_left (by omega)
                rw [if_neg (by omega)]
                by_cases hx : p.spot = some 0 ∧ m = l
                · exact absurd (h0 hx.1) (by omega)
                · rw [if_neg hx]; exact hadd I eI _ hp
            · obtain ⟨g1, g2⟩ := hg z' hz' I eI
              refine ⟨g1, ?_⟩
              have hzz : z' = z := by
                apply Classical.byContradiction
                intro hne
                refine hspot ⟨by rw [hmn]; rfl, ?_, ?_, ?_⟩ <;> rw [hz'] <;> simp <;> omega
              subst hzz
              rw [if_neg (by rw [hz']; simp)]
              have e1 : (cap' - l) * z' + l * z' = cap' * z' := by rw [← Nat.add_mul, Nat.sub_add_cancel (by omega)]
              show p.off + l * z' + I.sh + (cap' - l) * z' ≤ I.n
              omega
      · cases e
  · -- an array
    rename_i n te p hu
    cases hv with
    | @ptr _ p' hK hs ha =>
      split at e
      · rename_i z hz
        obtain ⟨⟨l, h, m⟩, e1, rfl⟩ := Option.map_eq_some_iff.1 e
        obtain ⟨f1, f2, f3, f4⟩ := bounds_facts e1 (Nat.le_refl _)
        have hm : (if mx.isSome then m else n) = m := by
          split
          · rfl
          · rename_i hh; exact (f4 (by simpa using hh)).symm
        refine ⟨.slice (some (if m = l then p' else p'.add (l * z))) (h - l) (m - l), ?_, ?_⟩
        · unfold Instr.sliceAt
          simp only [Sem.run_bind, run_underlying hu, Result.andThen_ok, Sem.run_pure, run_bounds h1 h2 h3 (Nat.le_refl _) false w e1, run_sizeOf hz, hm, Instr.sureAddr]
        · refine .slice hK (fun I eI => ?_) (by omega) (Nat.le_refl _) (fun _ => rfl) (fun z' hz' => by simp at hz')
          right
          rw [ha I eI]
          split
          · rfl
          · unfold Addr.add
            split
            · rename_i h0; simp [h0]
            · simp only [Addr.mk.injEq, and_true, true_and]; omega
      · cases e
  · cases e
end
end Go.Proofs.YtmdfejlfdgaomaaAM
