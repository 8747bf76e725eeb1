/- Any operation that is neither bare nor a read nor a new block. -/
import Derived.Test.YtmdfejlfdgaomaaAM11
namespace Go.Proofs.YtmdfejlfdgaomaaAM
open Go Go.RowKit
set_option linter.unusedVariables false
set_option linter.unusedSimpArgs false

section
variable {P : Program} {ρ : Ren} {a : AW} {w : World}

theorem sim_clear (h : WRel ρ a w) {ts : Array TypeId} {t e0 : TypeId} {z n c : Nat} {p : Addr} {x' zv : Value} {a' : AW} (ht : ts[0]? = some t) (hel : elemCells P t = some (e0, z)) (hx : VRel ρ a.next (.slice (some p) n c) x')
    (hz : zeroV P e0 = some zv) (hzz : zv.cells.size = z) (e : a.storeN p ((List.replicate n zv.cells.toList).flatten) = some a') (ty : TypeId) :
    ∃ w', (Builtin.clear_ ts ty #[x']).run P w = .ok (.tuple #[]) w' ∧ Step ρ a.next w ρ a' w' := by
  obtain ⟨hu, hsz⟩ := elem_run hel
  obtain ⟨z1, z2⟩ := run_zeroValue hz w
  have hzr : LRel ρ a.next zv.cells.toList zv.cells.toList := (flat_self z2).cells
  cases hx with
  | @slice _ p' _ _ c' hK h1 hln hc h0 h2 =>
    cases n with
    | zero =>
      simp only [List.replicate_zero, List.flatten_nil] at e
      refine ⟨w, ?_, sim_storeN_nil h e⟩
      unfold Builtin.clear_
      simp only [ht, List.getElem?_toArray, List.getElem?_cons_zero, Sem.run_bind, run_underlying hu, Result.andThen_ok, Sem.run_pure]
    | succ n =>
      have hrow : (Builtin.zeroCells zv.cells (n + 1)).toList = (List.replicate (n + 1) zv.cells.toList).flatten := by
        unfold Builtin.zeroCells
        by_cases h0 : (n + 1) * zv.cells.size = 0
        · have hl0 : (List.replicate (n + 1) zv.cells.toList).flatten = [] := by
            apply List.eq_nil_of_length_eq_zero
            simp only [List.length_flatten, List.map_replicate, List.sum_replicate_nat, Array.length_toList]
            exact h0
          rw [hl0, h0]; simp
        · exact range_zero rfl _ (by omega)
      obtain ⟨w', g1, st⟩ := sim_storeS (P := P) h h1 (flats_flatten hzr (n + 1)) (fun hz => by omega) e
      refine ⟨w', ?_, st⟩
      unfold Builtin.clear_
      simp only [ht, List.getElem?_toArray, List.getElem?_cons_zero, Sem.run_bind, run_underlying hu, Result.andThen_ok, z1, hrow, g1, Sem.run_pure]

/-- What an operation comes to. -/
def Done (P : Program) (ρ : Ren) (a : AW) (w : World) (s : Sem Next) (v : Value) (a' : AW) : Prop :=
  ∃ ρ' w' nx, s.run P w = .ok nx w' ∧ Step ρ a.next w ρ' a' w' ∧ ((∃ v', nx = .value v' ∧ VRel ρ' a'.next v v') ∨ (nx = .skip ∧ v = undef))
inductive Works (P : Program) (ρ : Ren) (a : AW) (w : World) (s : Sem Next) : NextA → AW → Prop
  | value {v : Value} {a' : AW} (h : Done P ρ a w s v a') : Works P ρ a w s (.value v) a'
  | enter {f : FuncId} {args args' : Array Value} (h : LRel ρ a.next args.toList args'.toList) (hs : s.run P w = (callFunc f args').run P w) : Works P ρ a w s (.enter f args) a
  | round {l l' : Nat} {args args' : Array Value} (hl : l < a.next) (hl' : ∀ I, ρ l = some I → l' = I.b) (h : LRel ρ a.next args.toList args'.toList) (hs : s.run P w = (Instr.yield l' args').run P w) : Works P ρ a w s (.round l args) a
theorem Done.mk {s : Sem Next} {v v' : Value} {a' : AW} {ρ' : Ren} {w' : World} (h : s.run P w = .ok (.value v') w') (st : Step ρ a.next w ρ' a' w') (hv : VRel ρ' a'.next v v') : Done P ρ a w s v a' :=
  ⟨ρ', w', _, h, st, .inl ⟨v', rfl, hv⟩⟩

theorem sim_builtin (h : WRel ρ a w) {b : Builtin} {ts : Array TypeId} {args : List Value} {args' : Array Value} {v : Value} {a' : AW} (hr : LRel ρ a.next args args'.toList) (e : builtinA P b ts args a = some (v, a')) (ty : TypeId) (cs : Array Bool) :
    Done P ρ a w (builtin b ts ty cs args') v a' := by
  unfold builtinA at e
  split at e
  · obtain ⟨s', x', hl, hs, hx⟩ := two_inv hr
    obtain ⟨ρ', w', v', g1, g2, g3⟩ := sim_append (P := P) h hs hx e ty
    rw [arr_of_list hl]
    exact .mk (by unfold builtin; exact run_value g1) g2 g3
  · obtain ⟨s', x', hl, hs, hx⟩ := two_inv hr
    obtain ⟨w', v', g1, g2, g3⟩ := sim_copy (P := P) h hs hx e ty
    rw [arr_of_list hl]
    exact .mk (by unfold builtin; exact run_value g1) g2 g3
  · obtain ⟨s', x', hl, hs, hx⟩ := two_inv hr
    split at e
    · rename_i t ht
      obtain ⟨a1, e1, e2⟩ := Option.map_eq_some_iff.1 e
      cases e2
      obtain ⟨w', g1, g2⟩ := sim_delete (P := P) h ht hs hx e1 ty
      rw [arr_of_list hl]
      exact .mk (by unfold builtin; exact run_value g1) g2 (VRel.tuple' .nil)
    · cases e
  · obtain ⟨x', hl, hx⟩ := one_inv hr
    split at e
    · rename_i e0 z base n c hel
      obtain ⟨t, ht, hel⟩ := Option.bind_eq_some_iff.1 hel
      split at e
      · cases e
        cases hx
        obtain ⟨hu, hsz⟩ := elem_run hel
        rw [arr_of_list hl]
        refine .mk (v' := .tuple #[]) (w' := w) ?_ (.refl h) (VRel.tuple' .nil)
        unfold builtin
        refine run_value ?_
        unfold Builtin.clear_
        simp only [ht, List.getElem?_toArray, List.getElem?_cons_zero, Sem.run_bind, run_underlying hu, Result.andThen_ok, Sem.run_pure]
      · rename_i p
        split at e
        · rename_i zv hz
          split at e
          · rename_i hzz
            split at e
            · rename_i a1 hst
              cases e
              obtain ⟨w', g1, g2⟩ := sim_clear (P := P) h ht hel hx hz hzz hst ty
              rw [arr_of_list hl]
              exact .mk (by unfold builtin; exact run_value g1) g2 (VRel.tuple' .nil)
            · cases e
          · cases e
        · cases e
    · cases e
  · cases e

theorem run_unit {s : Sem Unit} {w w' : World} (h : s.run P w = .ok () w') : (s >>= fun _ => (Pure.pure Next.skip : Sem Next)).run P w = .ok .skip w' := by
  rw [Sem.run_bind, h]; rfl
theorem sim_work (h : WRel ρ a w) {tmps : List Value} {t : Act} (ht : TRel ρ a.next tmps t.tmps) {o : Oper} {x : NextA} {a' : AW} (e : workA P tmps o a = some (x, a')) : Works P ρ a w (execOp t.eval o) x a' := by
  obtain ⟨dst, op, type, pos, after, guard⟩ := o
  cases op <;> simp only [workA] at e <;> first
    | (cases e; done)
    | skip
  case insert ty m k y =>
    split at e
    · rename_i v0 u0 y0 h1 h2 h3
      unfold val0 at e
      split at e
      · rename_i a1 hup
        cases e
        obtain ⟨w', g1, g2⟩ := sim_update (P := P) h (rel_eval ht h1) (rel_eval ht h2) (rel_eval ht h3) hup
        exact .value ⟨ρ, w', .skip, run_unit g1, g2, .inr ⟨rfl, rfl⟩⟩
      · cases e
    · cases e
  case store ty x y =>
    split at e
    · rename_i p v0 h1 h2
      unfold val0 at e
      split at e
      · rename_i a1 hst
        cases e
        have := rel_eval ht h1
        generalize hcv : t.eval x = cv at this
        cases this with
        | @ptr _ p' hK hs hp =>
          obtain ⟨w', g1, g2⟩ := sim_storeVar (P := P) h hp (rel_eval ht h2) hst
          refine .value ⟨ρ, w', .skip, ?_, g2, .inr ⟨rfl, rfl⟩⟩
          simp only [execOp, hcv]
          refine run_unit ?_
          unfold Instr.storeAt
          simp only [Instr.sureAddr, Sem.run_bind, Sem.run_pure, Result.andThen_ok, g1]
      · cases e
    · cases e
  case mapUpdate ty m k y =>
    split at e
    · rename_i v0 u0 y0 h1 h2 h3
      unfold val0 at e
      split at e
      · rename_i a1 hup
        cases e
        obtain ⟨w', g1, g2⟩ := sim_update (P := P) h (rel_eval ht h1) (rel_eval ht h2) (rel_eval ht h3) hup
        exact .value ⟨ρ, w', .skip, run_unit g1, g2, .inr ⟨rfl, rfl⟩⟩
      · cases e
    · cases e
  case range ty x =>
    split at e
    · rename_i v0 h1
      unfold val2 at e
      split at e
      · rename_i v1 a1 hr
        cases e
        obtain ⟨ρ', w', v', g1, g2, g3⟩ := sim_range (P := P) h (rel_eval ht h1) hr
        exact .value (.mk (run_value g1) g2 g3)
      · cases e
    · cases e
  case next it s =>
    split at e
    · rename_i v0 h1
      unfold val2 at e
      split at e
      · rename_i v1 a1 hr
        cases e
        obtain ⟨w', v', g1, g2, g3⟩ := sim_next (P := P) h (rel_eval ht h1) hr type
        exact .value (.mk (run_value g1) g2 g3)
      · cases e
    · cases e
  case call c =>
    split at e
    · rename_i args hargs
      have hra := rel_evalsA ht hargs
      split at e
      · rename_i b hb
        unfold val2 at e
        split at e
        · rename_i v1 a1 hr
          cases e
          obtain ⟨ρ', w', nx, g1, g2, g3⟩ := sim_builtin (P := P) (w := w) h hra hr type (c.args.map fun | .const _ => true | _ => false)
          refine .value ⟨ρ', w', nx, ?_, g2, g3⟩
          simp only [execOp]
          rw [run_callB hb]
          exact g1
        · cases e
      · rename_i f hf
        split at e
        · rename_i g first captured hg
          cases e
          obtain ⟨fn', f', c', e1, hfn, hf', hc'⟩ := func_inv (rel_eval ht hg)
          cases hfn
          refine .enter (args' := f' ++ c.args.map t.eval ++ c') ?_ ?_
          · simp only [Array.toList_append]
            exact (hf'.append hra).append hc'
          · simp only [execOp]
            unfold resolve
            simp only [hf, e1, Deferred.ofValue, Sem.run_bind, Sem.run_pure, Result.andThen_ok, invoke]
        · rename_i l first captured hg
          cases e
          obtain ⟨fn', f', c', e1, hfn, hf', hc'⟩ := func_inv (rel_eval ht hg)
          cases hfn with
          | @yield _ l' hl hl' =>
            refine .round (l' := l') (args' := f' ++ c.args.map t.eval) hl hl' ?_ ?_
            · simp only [Array.toList_append]
              exact hf'.append hra
            · simp only [execOp]
              unfold resolve
              simp only [hf, e1, Deferred.ofValue, Sem.run_bind, Sem.run_pure, Result.andThen_ok, invoke]
        · cases e
      · cases e
    · cases e
end
end Go.Proofs.YtmdfejlfdgaomaaAM
