/- Code. -/
import Derived.Test.YtmdfejlfdgaomaaAM16
import Derived.RangeFuncLeaves
import Derived.RangeFuncRecord
namespace Go.Proofs.YtmdfejlfdgaomaaAM
open Go Go.RowKit
set_option linter.unusedVariables false
set_option linter.unusedSimpArgs false

section
variable {P : Program} {G : Gives}
theorem names_enter (hn : plainNames P = true) {f : FuncId} {fn : Func} (hf : P.funcs[f]? = some fn) (hb : fn.body.isSome = true) (args : Array Value) (w : World) : (callFunc f args).run P w = .ok (.enter f args) w := by
  have hmem : fn ∈ P.funcs.toList := by
    have : P.funcs.toList[f]? = some fn := by simpa using hf
    exact List.mem_of_getElem? this
  have := List.all_eq_true.1 hn fn hmem
  have hne : (fn.name == "runtime.NumGoroutine") = false := by
    cases hfb : fn.body with
    | none => rw [hfb] at hb; cases hb
    | some c => rw [hfb] at this; simpa using this
  have hbn : fn.body.isNone = false := by cases hfb : fn.body with
    | none => rw [hfb] at hb; cases hb
    | some c => rfl
  unfold callFunc
  simp only [Sem.run_bind, run_program, Result.andThen_ok, hf, hne, Bool.false_eq_true, if_false, hbn, Sem.run_pure]
theorem extern_run {f : FuncId} {fn : Func} (hf : P.funcs[f]? = some fn) (hb : fn.body = none) {args : Array Value} {a a' : AW} {v : Value} (h : externA P fn args a = some (v, a')) (w : World) :
    args.toList.all flat = true ∧ a' = a ∧ flat v = true ∧ (callFunc f args).run P w = .ok (.value v) w := by
  unfold externA at h
  split at h
  · rename_i hc
    rw [Bool.and_eq_true, Bool.not_eq_true'] at hc
    split at h
    · rename_i e1 e2
      split at h
      · rename_i v0 hv
        cases h
        obtain ⟨g1, g2⟩ := run_prunF hv w
        refine ⟨hc.1, rfl, g2, ?_⟩
        unfold callFunc
        simp only [Sem.run_bind, run_program, Result.andThen_ok, hf, hc.2, Bool.false_eq_true, if_false, hb, Option.isNone_none, if_true, e1, e2]
        simp only [mark, Sem.run, Sem.run_bind, Sem.run_pure, Result.andThen_ok, g1]
      · cases h
    · cases h
  · cases h
theorem code_succ {n : Nat} (hm : P.follows .mixedOrders = true) (hn : plainNames P = true) (hcode : CodeAt P G n) (hops : OpsAt P G n) (hreg : RegAt P G n) (hcall : CallAt P G n) : CodeAt P G (n + 1) := by
  intro fn ro c tmps ds a e tmps' ds' a' h hb
  unfold codeA at h
  cases c with
  | skip =>
    cases h
    exact ⟨.refl _, fun ρ w act b k cs hw ht hd _ _ => ⟨ρ, act, w, .one stepR_skip, fun c0 h => (by cases h), .refl hw, ht, hd⟩⟩
  | label l =>
    cases h
    exact ⟨.refl _, fun ρ w act b k cs hw ht hd _ _ => ⟨ρ, act, w, .one stepR_label, fun c0 h => (by cases h), .refl hw, ht, hd⟩⟩
  | exit id =>
    cases h
    exact ⟨.refl _, fun ρ w act b k cs hw ht hd _ _ => ⟨ρ, act, w, ⟨k, rfl, .refl _ _⟩, fun c0 h => (by cases h), .refl hw, ht, hd⟩⟩
  | ret =>
    cases h
    exact ⟨.refl _, fun ρ w act b k cs hw ht hd _ _ => ⟨ρ, act, w, ⟨k, .refl _ _⟩, fun c0 h => (by cases h), .refl hw, ht, hd⟩⟩
  | seq x y =>
    simp only at h
    split at h
    · rename_i t1 d1 a1 hx
      obtain ⟨ev1, sim1⟩ := hcode _ _ _ _ _ _ _ _ _ _ hx hb
      obtain ⟨ev2, sim2⟩ := hcode _ _ _ _ _ _ _ _ _ _ h (ev1.le hb)
      refine ⟨ev1.trans ev2, fun ρ w act b k cs hw ht hd hfn hro => ?_⟩
      obtain ⟨ρ1, act1, w1, ar1, _, st1, ht1, hd1⟩ := sim1 ρ w act b (.code y :: k) cs hw ht hd hfn hro
      obtain ⟨ρ2, act2, w2, ar2, _, st2, ht2, hd2⟩ := sim2 ρ1 w1 act1 b k cs st1.rel ht1 hd1 hfn hro
      exact ⟨ρ2, act2, w2, .of_steps (.head stepR_seq ar1) ar2, fun c0 h => (by cases h), st1.trans st2, ht2, hd2⟩
    · rename_i hne
      obtain ⟨ev1, sim1⟩ := hcode _ _ _ _ _ _ _ _ _ _ h hb
      refine ⟨ev1, fun ρ w act b k cs hw ht hd hfn hro => ?_⟩
      obtain ⟨ρ1, act1, w1, ar1, _, st1, ht1, hd1⟩ := sim1 ρ w act b (.code y :: k) cs hw ht hd hfn hro
      have he : e ≠ .normal := fun he => by subst he; exact hne _ _ _ h
      exact ⟨ρ1, act1, w1, .of_steps (.one stepR_seq) (.past he (fun _ => rfl) ar1), fun c0 h => (by cases h), st1, ht1, hd1⟩
  | cond c x y =>
    simp only at h
    split at h
    · rename_i hc
      obtain ⟨ev1, sim1⟩ := hcode _ _ _ _ _ _ _ _ _ _ h hb
      refine ⟨ev1, fun ρ w act b k cs hw ht hd hfn hro => ?_⟩
      obtain ⟨ρ1, act1, w1, ar1, _, st1, ht1, hd1⟩ := sim1 ρ w act b k cs hw ht hd hfn hro
      have hv := rel_eval ht hc
      generalize hcv : act.eval c = cv at hv
      cases hv
      exact ⟨ρ1, act1, w1, .of_steps (.one (stepR_cond (t := true) hcv)) ar1, fun c0 h => (by cases h), st1, ht1, hd1⟩
    · rename_i hc
      obtain ⟨ev1, sim1⟩ := hcode _ _ _ _ _ _ _ _ _ _ h hb
      refine ⟨ev1, fun ρ w act b k cs hw ht hd hfn hro => ?_⟩
      obtain ⟨ρ1, act1, w1, ar1, _, st1, ht1, hd1⟩ := sim1 ρ w act b k cs hw ht hd hfn hro
      have hv := rel_eval ht hc
      generalize hcv : act.eval c = cv at hv
      cases hv
      exact ⟨ρ1, act1, w1, .of_steps (.one (stepR_cond (t := false) hcv)) ar1, fun c0 h => (by cases h), st1, ht1, hd1⟩
    · cases h
  | block id c =>
    simp only at h
    split at h
    · rename_i id' t1 d1 a1 hx
      obtain ⟨ev1, sim1⟩ := hcode _ _ _ _ _ _ _ _ _ _ hx hb
      split at h
      · rename_i hid
        subst hid
        cases h
        refine ⟨ev1, fun ρ w act b k cs hw ht hd hfn hro => ?_⟩
        obtain ⟨ρ1, act1, w1, ar1, _, st1, ht1, hd1⟩ := sim1 ρ w act b (.inBlock id' :: k) cs hw ht hd hfn hro
        obtain ⟨k1, hk1, hs1⟩ := ar1
        refine ⟨ρ1, act1, w1, .head stepR_block (hs1.trans (.one (stepR_exit ?_))), fun c0 h => (by cases h), st1, ht1, hd1⟩
        rw [hk1]; simp [exitTo]
      · rename_i hid
        cases h
        refine ⟨ev1, fun ρ w act b k cs hw ht hd hfn hro => ?_⟩
        obtain ⟨ρ1, act1, w1, ar1, _, st1, ht1, hd1⟩ := sim1 ρ w act b (.inBlock id :: k) cs hw ht hd hfn hro
        obtain ⟨k1, hk1, hs1⟩ := ar1
        refine ⟨ρ1, act1, w1, ⟨k1, ?_, .head stepR_block hs1⟩, fun c0 h => (by cases h), st1, ht1, hd1⟩
        rw [hk1]
        have : (id == id') = false := by simp; exact fun h => hid h.symm
        simp [exitTo, this]
    · rename_i hne
      obtain ⟨ev1, sim1⟩ := hcode _ _ _ _ _ _ _ _ _ _ h hb
      refine ⟨ev1, fun ρ w act b k cs hw ht hd hfn hro => ?_⟩
      obtain ⟨ρ1, act1, w1, ar1, _, st1, ht1, hd1⟩ := sim1 ρ w act b (.inBlock id :: k) cs hw ht hd hfn hro
      refine ⟨ρ1, act1, w1, ?_, fun c0 h => (by cases h), st1, ht1, hd1⟩
      cases e with
      | normal => exact .head stepR_block (ar1.trans (.one stepR_inBlock))
      | exit id' => exact absurd h (hne _ _ _ _)
      | ret => obtain ⟨k1, hs1⟩ := ar1; exact ⟨k1, .head stepR_block hs1⟩
      | goto l => exact ar1.elim
  | loop c =>
    simp only at h
    split at h
    · rename_i t1 d1 a1 hx
      obtain ⟨ev1, sim1⟩ := hcode _ _ _ _ _ _ _ _ _ _ hx hb
      obtain ⟨ev2, sim2⟩ := hcode _ _ _ _ _ _ _ _ _ _ h (ev1.le hb)
      refine ⟨ev1.trans ev2, fun ρ w act b k cs hw ht hd hfn hro => ?_⟩
      obtain ⟨ρ1, act1, w1, ar1, _, st1, ht1, hd1⟩ := sim1 ρ w act b (.inLoop c :: k) cs hw ht hd hfn hro
      obtain ⟨ρ2, act2, w2, _, ar2, st2, ht2, hd2⟩ := sim2 ρ1 w1 act1 b k cs st1.rel ht1 hd1 hfn hro
      have har : Arr P (lone (b.atR act (.code c :: .inLoop c :: k)) cs w) b k cs e act2 w2 := .of_steps (ar1.trans (.one stepR_inLoop)) (ar2 c rfl)
      exact ⟨ρ2, act2, w2, .of_steps (.one stepR_loop) har, fun c0 h => (by cases h; exact har), st1.trans st2, ht2, hd2⟩
    · rename_i hne
      obtain ⟨ev1, sim1⟩ := hcode _ _ _ _ _ _ _ _ _ _ h hb
      refine ⟨ev1, fun ρ w act b k cs hw ht hd hfn hro => ?_⟩
      obtain ⟨ρ1, act1, w1, ar1, _, st1, ht1, hd1⟩ := sim1 ρ w act b (.inLoop c :: k) cs hw ht hd hfn hro
      have he : e ≠ .normal := fun he => by subst he; exact hne _ _ _ h
      have har : Arr P (lone (b.atR act (.code c :: .inLoop c :: k)) cs w) b k cs e act1 w1 := .past he (fun _ => rfl) ar1
      exact ⟨ρ1, act1, w1, .of_steps (.one stepR_loop) har, fun c0 h => (by cases h; exact har), st1, ht1, hd1⟩
  | region id ops draw =>
    cases draw with
    | false =>
      simp only at h
      split at h
      · rename_i t1 a1 hx
        cases h
        obtain ⟨ev1, sim1⟩ := hops _ _ _ _ _ _ _ _ hx hb
        refine ⟨ev1, fun ρ w act b k cs hw ht hd hfn hro => ?_⟩
        obtain ⟨ρ1, act1, w1, hs, st1, ht1, hd1⟩ := sim1 ρ w act b k cs hw ht
        exact ⟨ρ1, act1, w1, .head stepR_region hs, fun c0 h => (by cases h), st1, ht1, by rw [hd1]; exact hd.mono st1.ext⟩
      · cases h
    | true =>
      simp only at h
      split at h
      · rename_i hplan
        split at h
        · rename_i t1 a1 hx
          cases h
          obtain ⟨ev1, sim1⟩ := hreg _ _ _ _ _ hplan hx hb
          refine ⟨ev1, fun ρ w act b k cs hw ht hd hfn hro => ?_⟩
          have st0 := step_drew hw (w' := { w with drawn := w.drawn + 1 }) rfl rfl rfl rfl
          obtain ⟨ρ1, act1, w1, hs, st1, ht1, hd1⟩ := sim1 ρ { w with drawn := w.drawn + 1 } act b k cs (w.tape w.drawn (.order b.fn id)) st0.rel ht
          refine ⟨ρ1, act1, w1, .head stepR_region_draw ?_, fun c0 h => (by cases h), st0.trans st1, ht1, by rw [hd1]; exact hd.mono st1.ext⟩
          simp only [Region.schedule, hm, Bool.true_or, if_true]
          exact hs
        · cases h
      · cases h
  | rangeFunc g ps assign body =>
    simp only at h
    split at h
    · rename_i f first captured hg
      split at h
      · cases h
      · rename_i hfb
        split at h
        · rename_i v0 a3 hcl
          have evn := (evo_new a (.obj (.deferred (some []))) hb).trans (evo_new (a.new (.obj (.deferred (some [])))) (.obj (.loop { state := .ready, pending := none, fn, tmps := tmps.toArray, params := ps, assign, body, defers := a.next })) (Nat.le_succ_of_le hb))
          obtain ⟨ev1, sim1⟩ := hcall _ _ _ _ _ hcl (evn.le hb)
          split at h
          · rename_i r hgl
            split at h
            · cases h
            · rename_i hbusy
              have evw := evo_write a3 (a.new (.obj (.deferred (some [])))).next (.obj (.loop { r with state := .exhausted }))
              have ev3 := (evn.trans ev1).trans evw
              -- what the machine does up to the end of the loop
              have main : ∀ ρ w (act : Act) (b : Frame) k cs, WRel ρ a w → TRel ρ a.next tmps act.tmps → DRel ρ a.next ds act.defers → b.fn = fn → b.roundOf = none →
                  ∃ ρ' defs w', Steps P (lone (b.atR act (.code (.rangeFunc g ps assign body) :: k)) cs w) (lone (b.atR { act with defers := defs } ((r.pending.map Item.code).toList ++ k)) cs w') ∧
                    Step ρ a.next w ρ' (a3.write (a.new (.obj (.deferred (some [])))).next (.obj (.loop { r with state := .exhausted }))) w' ∧ TRel ρ' (a3.write (a.new (.obj (.deferred (some [])))).next (.obj (.loop { r with state := .exhausted }))).next tmps act.tmps ∧
                    DRel ρ' (a3.write (a.new (.obj (.deferred (some [])))).next (.obj (.loop { r with state := .exhausted }))).next (a.next :: ds) defs := by
                intro ρ w act b k cs hw ht hd hfn hro
                have st1 := step_obj hw (o := .deferred (some [])) (o' := .deferred (some [])) .deferred (by simp)
                have st2 := step_obj st1.rel (o := .loop { state := .ready, pending := none, fn, tmps := tmps.toArray, params := ps, assign, body, defers := a.next })
                  (o' := .loop { state := .ready, pending := none, fn, tmps := act.tmps, params := ps, assign, body, defers := w.heap.size })
                  (.loop _ _ _ _ _ _ (by simpa using ((ht.mono st1.ext).mono (ext_new st1.rel _))) (by show a.next < a.next + 1 + 1; omega) (fun I eI => by
                    rw [upd_ne _ _ (by show a.next ≠ a.next + 1; omega), upd_self] at eI; cases eI; rfl)) (by simp)
                have hsz : ({ w with heap := w.heap.push (.deferred (some [])) } : World).heap.size = w.heap.size + 1 := by simp
                rw [hsz] at st2
                have st12 := st1.trans st2
                have hv := rel_eval ht hg
                obtain ⟨fn', f', c', eg, hfr, hf', hc'⟩ := func_inv hv
                cases hfr
                obtain ⟨fd, hfd, hbd⟩ : ∃ fd, P.funcs[f]? = some fd ∧ fd.body.isSome = true := by
                  cases hpi : P.funcs[f]? with
                  | none => rw [hpi] at hfb; simp at hfb
                  | some fd => rw [hpi] at hfb; exact ⟨fd, rfl, by cases hfd : fd.body.isSome with
                      | false => simp [hfd] at hfb
                      | true => rfl⟩
                have hyield : LRel (upd (upd ρ a.next (some ⟨w.heap.size, 0, 0, true⟩)) (a.next + 1) (some ⟨w.heap.size + 1, 0, 0, true⟩)) (a.next + 1 + 1) [.func (.yield (a.next + 1)) #[] #[]] [.func (.yield (w.heap.size + 1)) #[] #[]] :=
                  .one (.func (.yield (Nat.lt_succ_self _) (fun I eI => by rw [upd_self] at eI; cases eI; rfl)) rfl (fun i p => by simp at p) rfl (fun i p => by simp at p))
                have hargs : LRel (upd (upd ρ a.next (some ⟨w.heap.size, 0, 0, true⟩)) (a.next + 1) (some ⟨w.heap.size + 1, 0, 0, true⟩)) (a.next + 1 + 1)
                    (first ++ #[Value.func (.yield (a.next + 1)) #[] #[]] ++ captured).toList (f' ++ #[Value.func (.yield (w.heap.size + 1)) #[] #[]] ++ c').toList := by
                  simp only [Array.toList_append]
                  exact ((hf'.mono st12.ext).append hyield).append (hc'.mono st12.ext)
                have hct := sim1 _ _ _ st2.rel hargs
                have hent := names_enter hn hfd hbd (f' ++ #[Value.func (.yield (w.heap.size + 1)) #[] #[]] ++ c')
                rcases hct with ⟨v1, w1, e1, _⟩ | ⟨_, hcl2⟩
                · rw [hent] at e1; cases e1
                · have he : (Instr.enterLoop b.fn act.tmps ps assign body b.roundOf).run P w = .ok (w.heap.size + 1, [{ target := .collected w.heap.size, args := #[] }])
                      ((w.alloc (.deferred (some []))).alloc (.loop { state := .ready, pending := none, fn, tmps := act.tmps, params := ps, assign, body, defers := w.heap.size })) := by
                    rw [hro, hfn]; exact run_enterLoop_outer _ _ _ _ _
                  have hres : (resolve act.eval (rangeCall g (w.heap.size + 1)) 0).run P ((w.alloc (.deferred (some []))).alloc (.loop { state := .ready, pending := none, fn, tmps := act.tmps, params := ps, assign, body, defers := w.heap.size })) =
                      .ok { target := .fn (.func f) c', args := f' ++ #[Value.func (.yield (w.heap.size + 1)) #[] #[]] } ((w.alloc (.deferred (some []))).alloc (.loop { state := .ready, pending := none, fn, tmps := act.tmps, params := ps, assign, body, defers := w.heap.size })) := by
                    unfold resolve
                    simp only [rangeCall, eg, Deferred.ofValue, Sem.run_pure]
                    simp [Act.eval]
                  have hinv : (invoke (.fn (.func f) c') (f' ++ #[Value.func (.yield (w.heap.size + 1)) #[] #[]])).run P ((w.alloc (.deferred (some []))).alloc (.loop { state := .ready, pending := none, fn, tmps := act.tmps, params := ps, assign, body, defers := w.heap.size })) =
                      .ok (.enter f (f' ++ #[Value.func (.yield (w.heap.size + 1)) #[] #[]] ++ c')) ((w.alloc (.deferred (some []))).alloc (.loop { state := .ready, pending := none, fn, tmps := act.tmps, params := ps, assign, body, defers := w.heap.size })) := hent _
                  have s1 := stepR_rangeFunc (b := b) (a := act) (k := k) (cs := cs) he hres hinv
                  obtain ⟨e0, w3, fr, ⟨v3, rfl, ρ3, st3, hv3⟩, hcomes, hfn3, hleave⟩ := hcl2 (b.atR { act with defers := [{ target := .collected w.heap.size, args := #[] }] ++ act.defers } (.inRangeFunc (w.heap.size + 1) :: k) :: cs)
                  obtain ⟨I3, o3, j1, j2, j3, j4, j5⟩ := obj_rel st3.rel hgl
                  have hI3 : I3 = ⟨w.heap.size + 1, 0, 0, true⟩ := by
                    have hx := st3.ext.some (i := a.next + 1) (by show a.next + 1 < a.next + 1 + 1; omega) j1
                    have hx2 : upd (upd ρ a.next (some ⟨w.heap.size, 0, 0, true⟩)) (a.next + 1) (some ⟨w.heap.size + 1, 0, 0, true⟩) (a.next + 1) = some I3 := hx
                    rw [upd_self] at hx2; exact (Option.some.inj hx2).symm
                  subst hI3
                  obtain ⟨st', pd, fnr, tr, psr, xr, yr, dr⟩ := r
                  cases j3 with
                  | @loop _ _ _ _ t' _ _ _ _ d' hl hdK hd1 =>
                    have hbz : st' ≠ .busy := fun hh => hbusy (by simpa using hh)
                    have hend := run_endLoop (P := P) j2 hbz
                    obtain ⟨s2, st4⟩ := sim_setObj (P := P) st3.rel hgl j1 j2 j5 rfl (n := .loop ⟨.exhausted, pd, fnr, tr, psr, xr, yr, dr⟩) (n' := .loop ⟨.exhausted, pd, fnr, t', psr, xr, yr, d'⟩) (.loop _ _ _ _ _ _ hl hdK hd1) (by simp)
                    have hall := (st12.trans st3).trans st4
                    refine ⟨ρ3, [{ target := .collected w.heap.size, args := #[] }] ++ act.defers, _, .head s1 (hcomes.trans (.head ?_ (.one (stepR_endRangeFunc hend)))), hall, ht.mono hall.ext, ?_⟩
                    · rw [← finish_atR_inRangeFunc (w.heap.size + 1) v3]; exact step_leave_returned hleave
                    · refine .cons ?_ (fun I eI => ?_) (hd.mono hall.ext)
                      · exact Nat.lt_of_lt_of_le (show a.next < a.next + 1 + 1 by omega) st3.ext.1
                      · have hx := st3.ext.some (i := a.next) (by show a.next < a.next + 1 + 1; omega) eI
                        have hx2 : upd (upd ρ a.next (some ⟨w.heap.size, 0, 0, true⟩)) (a.next + 1) (some ⟨w.heap.size + 1, 0, 0, true⟩) a.next = some I := hx
                        rw [upd_ne _ _ (by omega), upd_self] at hx2
                        cases hx2; rfl
              split at h
              · rename_i hpd
                cases h
                refine ⟨ev3, fun ρ w act b k cs hw ht hd hfn hro => ?_⟩
                obtain ⟨ρ', defs, w', hs, st, ht', hd'⟩ := main ρ w act b k cs hw ht hd hfn (hro rfl)
                rw [hpd] at hs
                exact ⟨ρ', { act with defers := defs }, w', hs, fun c0 h => (by cases h), st, ht', hd'⟩
              · rename_i c0 hpd
                obtain ⟨ev4, sim4⟩ := hcode _ _ _ _ _ _ _ _ _ _ h (ev3.le hb)
                refine ⟨ev3.trans ev4, fun ρ w act b k cs hw ht hd hfn hro => ?_⟩
                obtain ⟨ρ', defs, w', hs, st, ht', hd'⟩ := main ρ w act b k cs hw ht hd hfn (hro rfl)
                rw [hpd] at hs
                obtain ⟨ρ2, act2, w2, ar2, _, st2, ht2, hd2⟩ := sim4 ρ' w' { act with defers := defs } b k cs st.rel ht' hd' hfn hro
                exact ⟨ρ2, act2, w2, .of_steps hs ar2, fun c0 h => (by cases h), st.trans st2, ht2, hd2⟩
          · cases h
        · cases h
    · cases h
  | scope c => cases h
  | goto l => cases h
  | refuse s => cases h
end
end Go.Proofs.YtmdfejlfdgaomaaAM
