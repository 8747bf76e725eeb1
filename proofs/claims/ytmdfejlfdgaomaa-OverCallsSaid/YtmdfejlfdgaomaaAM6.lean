/- One operation: the evaluator's and the program's. -/
import Derived.Test.YtmdfejlfdgaomaaAM5
namespace Go.Proofs.YtmdfejlfdgaomaaAM
open Go Go.RowKit
set_option linter.unusedVariables false
set_option linter.unusedSimpArgs false

section
variable {P : Program} {ρ : Ren} {K : Nat} {tmps : List Value} {a : Act}
theorem rel_evalsA (h : TRel ρ K tmps a.tmps) {l : Array Operand} {vs : List Value} (e : evals tmps l.toList = some vs) : LRel ρ K vs (l.map a.eval).toList := by
  rw [Array.toList_map]; exact rel_evals h e
theorem func_rel {fn fn' : Fn} {f f' c c' : Array Value} (h : FnRel ρ K fn fn') (hf : LRel ρ K f.toList f'.toList) (hc : LRel ρ K c.toList c'.toList) : VRel ρ K (.func fn f c) (.func fn' f' c') := by
  obtain ⟨h1, h2⟩ := hf.arr
  obtain ⟨h3, h4⟩ := hc.arr
  exact .func h h1 h2 h3 h4
theorem func_inv {fn : Fn} {f c : Array Value} {v' : Value} (h : VRel ρ K (.func fn f c) v') : ∃ fn' f' c', v' = .func fn' f' c' ∧ FnRel ρ K fn fn' ∧ LRel ρ K f.toList f'.toList ∧ LRel ρ K c.toList c'.toList := by
  cases h with | func h h1 h2 h3 h4 => exact ⟨_, _, _, rfl, h, LRel.of_arr h1 h2, LRel.of_arr h3 h4⟩
theorem tuple_inv {cs : Array Value} {v' : Value} (h : VRel ρ K (.tuple cs) v') : ∃ cs', v' = .tuple cs' ∧ LRel ρ K cs.toList cs'.toList := by
  cases h with | tuple hc h => exact ⟨_, rfl, LRel.of_arr hc h⟩
/-- How a builtin is called. -/
theorem run_callB {c : Call} {b : Builtin} (hc : c.callee = .builtin b) (ρ0 : Operand → Value) (ty : TypeId) (w : World) :
    (resolve ρ0 c ty >>= fun d => invoke d.target d.args).run P w = (builtin b c.argTypes ty (c.args.map fun | .const _ => true | _ => false) (c.args.map ρ0)).run P w := by
  unfold resolve
  rw [hc]
  rfl
theorem arr_of_list {l : Array Value} {vs : List Value} (h : l.toList = vs) : l = vs.toArray := by rw [← h]
theorem one_inv {x : Value} {l : List Value} (h : LRel ρ K [x] l) : ∃ x', l = [x'] ∧ VRel ρ K x x' := by
  cases h with | cons h r => cases r; exact ⟨_, rfl, h⟩
theorem two_inv {x y : Value} {l : List Value} (h : LRel ρ K [x, y] l) : ∃ x' y', l = [x', y'] ∧ VRel ρ K x x' ∧ VRel ρ K y y' := by
  cases h with | cons h r => obtain ⟨y', rfl, hy⟩ := one_inv r; exact ⟨_, y', rfl, h, hy⟩
theorem sim_pureB {b : Builtin} {ts : Array TypeId} {args : List Value} {args' : Array Value} {v : Value} (hr : LRel ρ K args args'.toList) (h : pureBuiltinA P b ts args = some v) (ty : TypeId) (cs : Array Bool) (w : World) :
    ∃ v', (builtin b ts ty cs args').run P w = .ok (.value v') w ∧ VRel ρ K v v' := by
  unfold pureBuiltinA at h
  split at h
  · -- len
    rename_i x
    · obtain ⟨x', hl, hx⟩ := one_inv hr
      have ha : args' = #[x'] := arr_of_list hl
      split at h
      · rename_i s hu
        cases h; cases hx
        obtain ⟨t, ht, hu⟩ := Option.bind_eq_some_iff.1 hu
        refine ⟨_, ?_, .int _ _⟩
        unfold builtin
        refine run_value ?_
        unfold Builtin.len_
        simp [ha, ht, run_underlying hu]
        rfl
      · rename_i e p n c hu
        cases h
        obtain ⟨t, ht, hu⟩ := Option.bind_eq_some_iff.1 hu
        refine ⟨.int .i64 n, ?_, .int _ _⟩
        unfold builtin
        refine run_value ?_
        unfold Builtin.len_
        cases hx <;> simp [ha, ht, run_underlying hu] <;> rfl
      · rename_i n e hu
        cases h
        obtain ⟨t, ht, hu⟩ := Option.bind_eq_some_iff.1 hu
        refine ⟨.int .i64 n, ?_, .int _ _⟩
        unfold builtin
        refine run_value ?_
        unfold Builtin.len_
        cases hx <;> simp [ha, ht, run_underlying hu] <;> rfl
      · cases h
  · -- cap
    rename_i x
    · obtain ⟨x', hl, hx⟩ := one_inv hr
      have ha : args' = #[x'] := arr_of_list hl
      split at h
      · rename_i e m n hu
        cases h; cases hx
        obtain ⟨t, ht, hu⟩ := Option.bind_eq_some_iff.1 hu
        refine ⟨_, ?_, .int _ _⟩
        unfold builtin
        refine run_value ?_
        unfold Builtin.cap_
        simp [ha, ht, run_underlying hu]
        rfl
      · rename_i e p m n hu
        split at h
        · rename_i hs
          cases h
          cases hx with
          | slice hK h1 hn hc h0 h2 =>
            obtain ⟨t, ht, hu⟩ := Option.bind_eq_some_iff.1 hu
            rw [h0 hs] at ha
            refine ⟨_, ?_, .int _ _⟩
            unfold builtin
            refine run_value ?_
            unfold Builtin.cap_
            simp [ha, ht, run_underlying hu]
            rfl
        · cases h
      · cases h
  · split at h
    · rename_i hf
      have he := flats_eq hf hr
      have ha := arr_of_list he
      refine ⟨v, ?_, flat_self (run_prunF h w).2⟩
      unfold builtin
      refine run_value ?_
      rw [ha]
      exact (run_prunF h w).1
    · cases h
  · split at h
    · rename_i hf
      have he := flats_eq hf hr
      have ha := arr_of_list he
      refine ⟨v, ?_, flat_self (run_prunF h w).2⟩
      unfold builtin
      refine run_value ?_
      rw [ha]
      exact (run_prunF h w).1
    · cases h
  · cases h

theorem sim_pure (ht : TRel ρ K tmps a.tmps) {o : Oper} {v : Value} (hk : kindO P o = .pure) (h : pureA P tmps o = some v) (w : World) :
    ∃ v', (execOp a.eval o).run P w = .ok (.value v') w ∧ VRel ρ K v v' := by
  obtain ⟨dst, op, type, pos, after, guard⟩ := o
  cases op <;> simp only [pureA] at h <;> first
    | (cases h; done)
    | skip
  case move x => exact ⟨_, rfl, rel_eval ht h⟩
  case assign x => exact ⟨_, rfl, rel_eval ht h⟩
  case pick c x y =>
    split at h
    · rename_i hc
      have := rel_eval ht hc
      generalize hcv : a.eval c = cv at this
      cases this
      exact ⟨a.eval x, by simp [execOp, hcv, asBool], rel_eval ht h⟩
    · rename_i hc
      have := rel_eval ht hc
      generalize hcv : a.eval c = cv at this
      cases this
      exact ⟨a.eval y, by simp [execOp, hcv, asBool], rel_eval ht h⟩
    · cases h
  case build t parts =>
    split at h
    · rename_i z pl vs hz hp hv
      obtain ⟨r, hr, rfl⟩ := Option.map_eq_some_iff.1 h
      obtain ⟨v', h1, h2⟩ := run_build ht hz hp hv hr w
      exact ⟨v', run_value h1, h2⟩
    · cases h
  case nilCheck x =>
    split at h
    · rename_i p hc
      cases h
      have := rel_eval ht hc
      generalize hcv : a.eval x = cv at this
      cases this with
      | ptr hK hs h1 => exact ⟨_, by simp [execOp, hcv], .ptr hK hs h1⟩
    · rename_i f fs cs hc
      cases h
      have := rel_eval ht hc
      obtain ⟨fn', f', c', e, hfn, hf, hc'⟩ := func_inv this
      cases hfn
      exact ⟨.func (.func f) f' c', by simp [execOp, e], by rw [← e]; exact this⟩
    · rename_i f fs cs hc
      cases h
      have := rel_eval ht hc
      obtain ⟨fn', f', c', e, hfn, hf, hc'⟩ := func_inv this
      cases hfn with
      | @yield _ l' hl h1 => exact ⟨.func (.yield l') f' c', by simp [execOp, e], by rw [← e]; exact this⟩
    · cases h
  case binOp op t x y yt =>
    split at h
    · rename_i v0 u0 hv hu
      obtain ⟨r', h1, h2⟩ := run_bin (rel_eval ht hv) (rel_eval ht hu) h w
      refine ⟨r', ?_, h2⟩
      simp only [execOp]
      exact run_value h1
    · cases h
  case unOp op t x =>
    split at h
    · rename_i v0 hv
      split at h
      · rename_i hf
        have e := flat_eq hf (rel_eval ht hv)
        refine ⟨v, ?_, flat_self (run_prunF h w).2⟩
        simp only [execOp, e]
        exact run_value (run_prunF h w).1
      · cases h
    · cases h
  case convert s d x =>
    split at h
    · rename_i v0 hv
      split at h
      · rename_i hf
        have e := flat_eq hf (rel_eval ht hv)
        split at h
        · cases h
        · refine ⟨v, ?_, flat_self (run_prunF h w).2⟩
          simp only [execOp, e]
          exact run_value (run_prunF h w).1
      · cases h
    · cases h
  case makeInterface t x =>
    split at h
    · cases h
    · rename_i d v0 hni hd hx
      cases h
      refine ⟨.iface t (a.eval x), ?_, .iface t (rel_eval ht hx)⟩
      simp only [execOp]
      refine run_value ?_
      unfold Instr.makeInterface
      simp only [Sem.run_bind, run_underlying hd, Result.andThen_ok]
      cases d <;> first
        | rfl
        | exact absurd rfl (hni _)
    · cases h
  case makeFunc fn first captured =>
    cases fn <;> first
      | (cases h; done)
      | skip
    case func f =>
      simp only at h
      split at h
      · rename_i vs us hv hu
        cases h
        refine ⟨.func (.func f) (first.map a.eval) (captured.map a.eval), rfl, ?_⟩
        exact func_rel (.func f) (by simpa using rel_evalsA ht hv) (by simpa using rel_evalsA ht hu)
      · cases h
  case slice t x lo hi mx =>
    split at h
    · rename_i v0 l0 h0 m0 e1 e2 e3 e4
      obtain ⟨r', h1, h2⟩ := run_slice (P := P) (rel_eval ht e1) (rel_evalO ht e2) (rel_evalO ht e3) (rel_evalO ht e4) w h
      exact ⟨r', run_value h1, h2⟩
    · cases h
  case fieldAddr s x f =>
    split at h
    · rename_i fs p hu hx
      split at h
      · rename_i fd hfd
        split at h
        · rename_i n hn
          cases h
          have := rel_eval ht hx
          generalize hcv : a.eval x = cv at this
          cases this with
          | @ptr _ p' hK hs h1 =>
            refine ⟨.pointer (some (p'.add fd.offset)), ?_, .ptr hK rfl fun I eI => ?_⟩
            · simp only [execOp, hcv]
              refine run_value ?_
              unfold Instr.fieldAt fieldPlace
              simp [run_underlying hu, hfd, Instr.sureAddr, run_sizeOf hn]
            · rw [h1 I eI]
              unfold Addr.add
              split
              · rename_i h0; simp [h0]
              · simp only [Addr.mk.injEq, and_true, true_and]; omega
        · cases h
      · cases h
    · cases h
  case field t x f =>
    split at h
    · rename_i fs cs hu hx
      split at h
      · rename_i fd hfd
        have := rel_eval ht hx
        obtain ⟨cs', e, hcs⟩ := agg_inv this
        obtain ⟨v', h1, h2⟩ := run_part (P := P) hcs h w
        refine ⟨v', ?_, h2⟩
        simp only [execOp, e]
        refine run_value ?_
        unfold Instr.field
        simp [run_underlying hu, hfd, asAgg, h1]
      · cases h
    · cases h
  case indexAddr t x i =>
    split at h
    · rename_i v0 u0 hv hu
      obtain ⟨r', h1, h2⟩ := run_indexAddr (P := P) (rel_eval ht hv) (rel_eval ht hu) h w
      exact ⟨r', run_value h1, h2⟩
    · cases h
  case index t x i =>
    split at h
    · rename_i v0 u0 hv hu
      obtain ⟨r', h1, h2⟩ := run_index (P := P) (rel_eval ht hv) (rel_eval ht hu) h w
      exact ⟨r', run_value h1, h2⟩
    · cases h
  case extract x i =>
    split at h
    · rename_i vs hx
      have := rel_eval ht hx
      obtain ⟨cs', e, hcs⟩ := tuple_inv this
      have h' : vs.toList[i]? = some v := by simpa using h
      obtain ⟨v', h1, h2⟩ := hcs.get h'
      have h1' : cs'[i]? = some v' := by simpa using h1
      refine ⟨v', ?_, h2⟩
      simp only [execOp, e]
      refine run_value ?_
      unfold Instr.extract
      simp [h1']
    · cases h
  case call c =>
    split at h
    · rename_i b args hb ha
      obtain ⟨v', h1, h2⟩ := sim_pureB (rel_evalsA ht ha) h type (c.args.map fun | .const _ => true | _ => false) w
      refine ⟨v', ?_, h2⟩
      simp only [execOp]
      rw [run_callB hb]
      exact h1
    · cases h
end
end Go.Proofs.YtmdfejlfdgaomaaAM
