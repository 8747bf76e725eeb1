/- What the evaluator answers is what the program answers: code, calls, rounds. -/
import Derived.Test.YtmdfejlfdgaomaaAM15
namespace Go.Proofs.YtmdfejlfdgaomaaAM
open Go Go.RowKit
set_option linter.unusedVariables false
set_option linter.unusedSimpArgs false

/-- No function with a text bears the one name that the machine treats apart. -/
def plainNames (P : Program) : Bool := P.funcs.toList.all fun fn => fn.body.isNone || !(fn.name == "runtime.NumGoroutine")
/-- What stands for called functions answers as they do. -/
structure Gives.Sound (P : Program) (G : Gives) : Prop where
  sim : ∀ f g, G f = some g → ∀ ρ (a : AW) w args args' v a', WRel ρ a w → LRel ρ a.next args.toList args'.toList → g args a = some (v, a') →
    CallTo P f args' w fun v' w' => ∃ ρ', Step ρ a.next w ρ' a' w' ∧ VRel ρ' a'.next v v'
  evo : ∀ f g, G f = some g → ∀ args (a : AW) v a', a.base ≤ a.next → g args a = some (v, a') → Evo a a'

section
variable (P : Program) (G : Gives)
def OpsAt (n : Nat) : Prop := ∀ fn ro ops l tmps (a : AW) tmps' a', opsA P G n fn ro ops l tmps a = some (tmps', a') → a.base ≤ a.next →
  Evo a a' ∧ ∀ ρ w (act : Act) (b : Frame) k cs, WRel ρ a w → TRel ρ a.next tmps act.tmps →
    ∃ ρ' act' w', Steps P (lone (b.atR act (.inRegion ops l :: k)) cs w) (lone (b.atR act' k) cs w') ∧ Step ρ a.next w ρ' a' w' ∧ TRel ρ' a'.next tmps' act'.tmps ∧ act'.defers = act.defers
def RegAt (n : Nat) : Prop := ∀ ops tmps (a : AW) tmps' a', planOk P ops = true → regA P G n ops (List.range ops.size) [] tmps { a with next := a.next + 1 } = some (tmps', a') → a.base ≤ a.next →
  Evo a a' ∧ ∀ ρ w (act : Act) (b : Frame) k cs t, WRel ρ a w → TRel ρ a.next tmps act.tmps →
    ∃ ρ' act' w', Steps P (lone (b.atR act (.inRegion ops (Region.linearise .any ops t) :: k)) cs w) (lone (b.atR act' k) cs w') ∧ Step ρ a.next w ρ' a' w' ∧ TRel ρ' a'.next tmps' act'.tmps ∧ act'.defers = act.defers
def CodeAt (n : Nat) : Prop := ∀ fn ro c tmps ds (a : AW) e tmps' ds' a', codeA P G n fn ro c tmps ds a = some (e, tmps', ds', a') → a.base ≤ a.next →
  Evo a a' ∧ ∀ ρ w (act : Act) (b : Frame) k cs, WRel ρ a w → TRel ρ a.next tmps act.tmps → DRel ρ a.next ds act.defers → b.fn = fn → (ro = none → b.roundOf = none) →
    ∃ ρ' act' w', Arr P (lone (b.atR act (.code c :: k)) cs w) b k cs e act' w' ∧ (∀ c0, c = .loop c0 → Arr P (lone (b.atR act (.code c0 :: .inLoop c0 :: k)) cs w) b k cs e act' w') ∧ Step ρ a.next w ρ' a' w' ∧ TRel ρ' a'.next tmps' act'.tmps ∧ DRel ρ' a'.next ds' act'.defers
def CallAt (n : Nat) : Prop := ∀ f args (a : AW) v a', callA P G n f args a = some (v, a') → a.base ≤ a.next →
  Evo a a' ∧ ∀ ρ w args', WRel ρ a w → LRel ρ a.next args.toList args'.toList → CallTo P f args' w fun v' w' => ∃ ρ', Step ρ a.next w ρ' a' w' ∧ VRel ρ' a'.next v v'
def RoundAt (n : Nat) : Prop := ∀ l args (a : AW) v a', roundA P G n l args a = some (v, a') → a.base ≤ a.next →
  Evo a a' ∧ ∀ ρ w l' args', WRel ρ a w → l < a.next → (∀ I, ρ l = some I → l' = I.b) → LRel ρ a.next args.toList args'.toList → RoundTo P l' args' w fun v' w' => ∃ ρ', Step ρ a.next w ρ' a' w' ∧ VRel ρ' a'.next v v'
end

section
variable {P : Program} {G : Gives}
theorem Evo.le {a a' : AW} (h : Evo a a') (hb : a.base ≤ a.next) : a'.base ≤ a'.next := by rw [h.base]; exact Nat.le_trans hb h.next
theorem ops_succ {n : Nat} (ho : OpsAt P G n) (hc : CallAt P G n) (hr : RoundAt P G n) : OpsAt P G (n + 1) := by
  intro fn ro ops l tmps a tmps' a' h hb
  unfold opsA at h
  cases l with
  | nil =>
    simp only [Option.some.injEq, Prod.mk.injEq] at h
    obtain ⟨rfl, rfl⟩ := h
    exact ⟨.refl _, fun ρ w act b k cs hw ht => ⟨ρ, act, w, .one stepR_region_end, .refl hw, ht, rfl⟩⟩
  | cons i rest =>
    simp only at h
    cases hop : ops[i]? with
    | none => rw [hop] at h; cases h
    | some o =>
      rw [hop] at h
      simp only at h
      by_cases hwant : Region.wanted o (yieldedA ops tmps) = true
      · rw [if_pos hwant] at h
        split at h
        · -- a value
          rename_i v a1 hopA
          have ev1 := evo_op hb hopA
          obtain ⟨ev2, sim2⟩ := ho _ _ _ _ _ _ _ _ h (ev1.le hb)
          refine ⟨ev1.trans ev2, fun ρ w act b k cs hw ht => ?_⟩
          have hwk := sim_op (P := P) (w := w) hw ht hopA
          cases hwk with
          | value hd =>
            obtain ⟨ρ1, w1, nx, hrun, st, hnx⟩ := hd
            have hy : Region.wanted o (yielded ops act.tmps) = true := by rw [rel_yielded ht]; exact hwant
            rcases hnx with ⟨v', rfl, hv⟩ | ⟨rfl, rfl⟩
            · obtain ⟨ρ', act', w', hs, st', ht', hd'⟩ := sim2 ρ1 w1 (act.put o.dst v') b k cs st.rel (rel_put (ht.mono st.ext) o.dst hv)
              exact ⟨ρ', act', w', .head (step_value hop hy (not_defer hopA) hrun) hs, st.trans st', ht', by rw [hd']; cases o.dst <;> rfl⟩
            · obtain ⟨ρ', act', w', hs, st', ht', hd'⟩ := sim2 ρ1 w1 (act.put o.dst undef) b k cs st.rel (rel_put (ht.mono st.ext) o.dst rel_undef)
              exact ⟨ρ', act', w', .head (step_skipped hop hy (not_defer hopA) hrun) hs, st.trans st', ht', by rw [hd']; cases o.dst <;> rfl⟩
        · -- a call
          rename_i f args a1 hopA
          have ev1 := evo_op hb hopA
          split at h
          · rename_i v a2 hcall
            obtain ⟨evc, simc⟩ := hc _ _ _ _ _ hcall (ev1.le hb)
            obtain ⟨ev2, sim2⟩ := ho _ _ _ _ _ _ _ _ h ((ev1.trans evc).le hb)
            refine ⟨(ev1.trans evc).trans ev2, fun ρ w act b k cs hw ht => ?_⟩
            have hwk := sim_op (P := P) (w := w) hw ht hopA
            cases hwk with
            | enter ha hrun =>
              have hy : Region.wanted o (yielded ops act.tmps) = true := by rw [rel_yielded ht]; exact hwant
              obtain ⟨v', w1, ⟨ρ1, st, hv⟩, hs1⟩ := steps_call (b := b) (k := k) (cs := cs) (rest := rest) hop hy (not_defer hopA) hrun (simc ρ w _ hw ha)
              obtain ⟨ρ', act', w', hs, st', ht', hd'⟩ := sim2 ρ1 w1 (act.put o.dst v') b k cs st.rel (rel_put (ht.mono st.ext) o.dst hv)
              exact ⟨ρ', act', w', hs1.trans hs, st.trans st', ht', by rw [hd']; cases o.dst <;> rfl⟩
          · cases h
        · -- a round
          rename_i l0 args a1 hopA
          have ev1 := evo_op hb hopA
          split at h
          · rename_i v a2 hcall
            obtain ⟨evc, simc⟩ := hr _ _ _ _ _ hcall (ev1.le hb)
            obtain ⟨ev2, sim2⟩ := ho _ _ _ _ _ _ _ _ h ((ev1.trans evc).le hb)
            refine ⟨(ev1.trans evc).trans ev2, fun ρ w act b k cs hw ht => ?_⟩
            have hwk := sim_op (P := P) (w := w) hw ht hopA
            cases hwk with
            | round hl hl' ha hrun =>
              have hy : Region.wanted o (yielded ops act.tmps) = true := by rw [rel_yielded ht]; exact hwant
              obtain ⟨v', w1, ⟨ρ1, st, hv⟩, hs1⟩ := steps_round (b := b) (k := k) (cs := cs) (rest := rest) hop hy (not_defer hopA) hrun (simc ρ w _ _ hw hl hl' ha)
              obtain ⟨ρ', act', w', hs, st', ht', hd'⟩ := sim2 ρ1 w1 (act.put o.dst v') b k cs st.rel (rel_put (ht.mono st.ext) o.dst hv)
              exact ⟨ρ', act', w', hs1.trans hs, st.trans st', ht', by rw [hd']; cases o.dst <;> rfl⟩
          · cases h
        · cases h
      · rw [if_neg hwant] at h
        obtain ⟨ev2, sim2⟩ := ho _ _ _ _ _ _ _ _ h hb
        refine ⟨ev2, fun ρ w act b k cs hw ht => ?_⟩
        obtain ⟨ρ', act', w', hs, st', ht', hd'⟩ := sim2 ρ w (act.put o.dst undef) b k cs hw (rel_put ht o.dst rel_undef)
        refine ⟨ρ', act', w', .head ?_ hs, st', ht', by rw [hd']; cases o.dst <;> rfl⟩
        have := stepR_op_skip (P := P) (b := b) (a := act) (k := k) (cs := cs) (w := w) (ops := ops) (i := i) (rest := rest) (by
          rw [hop, rel_yielded ht]; simpa using hwant)
        rw [hop] at this
        exact this

def resVal (t : Array Value) : ResultVar → Sem Value
  | .tmp x => Pure.pure (t.getD x undef)
  | .cell p ty => do loadVar ty (← asAddr (t.getD p undef))
theorem run_results {ρ : Ren} {a : AW} {w : World} (h : WRel ρ a w) {tmps : List Value} {t : Array Value} (ht : TRel ρ a.next tmps t) : ∀ {rs : List ResultVar} {vs : List Value}, resultsA P a tmps rs = some vs →
    ∃ vs', LRel ρ a.next vs vs' ∧ (rs.mapM (resVal t)).run P w = .ok vs' w
  | [], vs, e => by cases e; exact ⟨[], .nil, rfl⟩
  | .tmp x :: rs, vs, e => by
    simp only [resultsA] at e
    split at e
    · rename_i us hu
      cases e
      obtain ⟨vs', h1, h2⟩ := run_results h ht hu
      refine ⟨t.getD x undef :: vs', .cons ?_ h1, ?_⟩
      · have := rel_getD ht x
        simpa [Array.getD_eq_getD_getElem?, List.getD_eq_getElem?_getD] using this
      · simp only [List.mapM_cons, resVal, Sem.run_bind, Sem.run_pure, Result.andThen_ok, h2]
    · cases e
  | .cell d ty :: rs, vs, e => by
    simp only [resultsA] at e
    split at e
    · rename_i p hp
      split at e
      · rename_i v us hv hu
        cases e
        obtain ⟨vs', h1, h2⟩ := run_results h ht hu
        have hd : VRel ρ a.next (.pointer (some p)) (t.getD d undef) := by
          have := rel_getD ht d
          rw [hp] at this
          simpa [Array.getD_eq_getD_getElem?, List.getD_eq_getElem?_getD] using this
        generalize hx : t.getD d undef = x at hd
        cases hd with
        | ptr hK hs h1p =>
          obtain ⟨v', g1, g2⟩ := sim_loadVar (P := P) h h1p hv
          refine ⟨v' :: vs', .cons g2 h1, ?_⟩
          simp only [List.mapM_cons, resVal, Sem.run_bind, hx, asAddr, Sem.run_pure, Result.andThen_ok, g1, h2]
      · cases e
    · cases e
theorem rel_one {ρ : Ren} {K : Nat} {vs vs' : List Value} (h : LRel ρ K vs vs') : VRel ρ K (oneOf vs) (if h : vs'.toArray.size = 1 then vs'.toArray[0] else .tuple vs'.toArray) := by
  cases h with
  | nil => exact .tuple' .nil
  | cons hv hr => cases hr with
    | nil => exact hv
    | cons h2 hr =>
      rw [dif_neg (by simp)]
      exact .tuple' (.cons hv (.cons h2 hr))
theorem run_results_all {ρ : Ren} {a : AW} {w : World} (h : WRel ρ a w) {tmps : List Value} {t : Array Value} (ht : TRel ρ a.next tmps t) {fn : Func} {vs : List Value} (e : resultsA P a tmps fn.results.toList = some vs) :
    ∃ vs', LRel ρ a.next vs vs' ∧ (results fn t).run P w = .ok (if h : vs'.toArray.size = 1 then vs'.toArray[0] else .tuple vs'.toArray) w := by
  obtain ⟨vs', h1, h2⟩ := run_results (P := P) h ht e
  refine ⟨vs', h1, ?_⟩
  have hres : results fn t = (fn.results.mapM (resVal t) >>= fun vs => (Pure.pure (if h : vs.size = 1 then vs[0] else .tuple vs) : Sem Value)) := by
    unfold results
    congr 1
  rw [hres, Array.mapM_eq_mapM_toList]
  simp only [Sem.run_bind, Sem.run_map, h2, Result.andThen_ok, Sem.run_pure]
end
end Go.Proofs.YtmdfejlfdgaomaaAM
