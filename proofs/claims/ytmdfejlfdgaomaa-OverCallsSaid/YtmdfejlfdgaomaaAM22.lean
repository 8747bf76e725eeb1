/- Regions whose order is open: by the machine. All together. -/
import Derived.Test.YtmdfejlfdgaomaaAM21
namespace Go.Proofs.YtmdfejlfdgaomaaAM
open Go Go.RowKit
set_option linter.unusedVariables false
set_option linter.unusedSimpArgs false

section
variable {P : Program} {G : Gives} {ops : Array Oper}
theorem kind_defer {o : Oper} (h : kindO P o ≠ .work) : ∀ c, o.op ≠ .defer c := by
  intro c hc
  apply h
  unfold kindO; rw [hc]
theorem put_defers (a : Act) (d : Option Tmp) (v : Value) : (a.put d v).defers = a.defers := by cases d <;> rfl
/-- One operation of such a region, by the machine. -/
theorem step_sim {m : Nat} (hc : CallAt P G m) (hr : RoundAt P G m) {i : Nat} {t t1 : List Value} {a a1 : AW} {nt : Note} (h : stepR P (callA P G m) (roundA P G m) ops i t a = some (nt, t1, a1)) (hb : a.base ≤ a.next)
    {ρ : Ren} {w : World} {act : Act} (b : Frame) (k : List Item) (cs : List Frame) (rest : List Nat) (hw : WRel ρ a w) (ht : TRel ρ a.next t act.tmps) :
    ∃ ρ' v v' w', t1 = putT t ((ops[i]?).bind (·.dst)) v ∧ Steps P (lone (b.atR act (.inRegion ops (i :: rest) :: k)) cs w) (lone (b.atR (act.put ((ops[i]?).bind (·.dst)) v') (.inRegion ops rest :: k)) cs w') ∧ Step ρ a.next w ρ' a1 w' ∧ TRel ρ' a1.next t1 (act.put ((ops[i]?).bind (·.dst)) v').tmps := by
  unfold stepR at h
  split at h
  · cases h
  · rename_i o ho
    have hdst : (ops[i]?).bind (·.dst) = o.dst := by rw [ho]; rfl
    rw [hdst]
    split at h
    · rename_i hwant
      have hy : Region.wanted o (yielded ops act.tmps) = true := by rw [rel_yielded ht]; exact hwant
      obtain ⟨⟨n1, v1, b1⟩, e1, e2⟩ := Option.map_eq_some_iff.1 h
      simp only [Prod.mk.injEq] at e2
      obtain ⟨rfl, rfl, rfl⟩ := e2
      unfold stepO at e1
      split at e1
      · rename_i hk
        obtain ⟨v0, q1, q2⟩ := Option.map_eq_some_iff.1 e1
        cases q2
        obtain ⟨v', g1, g2⟩ := sim_pure (P := P) ht hk q1 w
        exact ⟨ρ, _, v', w, rfl, .one (step_value ho hy (kind_defer (P := P) (by rw [hk]; simp)) g1), .refl hw, rel_put ht _ g2⟩
      · rename_i hk
        split at e1
        · rename_i r hrd
          split at e1
          · cases e1
            obtain ⟨v', g1, g2⟩ := sim_read (P := P) hw ht hk hrd
            exact ⟨ρ, _, v', w, rfl, .one (step_value ho hy (kind_defer (P := P) (by rw [hk]; simp)) g1), .refl hw, rel_put ht _ g2⟩
          · cases e1
        · cases e1
      · rename_i hk
        obtain ⟨v0, q1, q2⟩ := Option.map_eq_some_iff.1 e1
        cases q2
        obtain ⟨w', v', g1, g2⟩ := sim_make (P := P) (w := w) ht hk q1
        obtain ⟨ρ', st, hv'⟩ := step_makes hw g2
        exact ⟨ρ', _, v', w', rfl, .one (step_value ho hy (kind_defer (P := P) (by rw [hk]; simp)) g1), st, rel_put (ht.mono st.ext) _ hv'⟩
      · rename_i hk
        split at e1
        · cases e1
        · rename_i x a0 hwk
          obtain ⟨⟨v2, a2⟩, q1, q2⟩ := Option.map_eq_some_iff.1 e1
          cases q2
          have hd : ∀ c, o.op ≠ .defer c := by
            intro c hc2
            simp only [workA, hc2] at hwk
            cases hwk
          have ev0 := evo_work (a := { a with base := a.next, dirty := [] }) (Nat.le_refl _) hwk
          have hw0 : WRel ρ { a with base := a.next, dirty := [] } w := same_mem hw rfl rfl
          have hws := sim_work (P := P) hw0 ht hwk
          cases hws with
          | value hdn =>
            cases q1
            obtain ⟨ρ1, w1, nx, hrun, st, hnx⟩ := hdn
            have st' : Step ρ a.next w ρ1 { next := a0.next, heap := a0.heap, base := a.base, dirty := soilAll a.dirty a.base a0.dirty } w1 := step_mem st rfl rfl
            rcases hnx with ⟨v', rfl, hv⟩ | ⟨rfl, rfl⟩
            · exact ⟨ρ1, _, v', w1, rfl, .one (step_value ho hy hd hrun), st', rel_put (ht.mono st.ext) _ hv⟩
            · exact ⟨ρ1, _, undef, w1, rfl, .one (step_skipped ho hy hd hrun), st', rel_put (ht.mono st.ext) _ rel_undef⟩
          | enter ha hrun =>
            obtain ⟨_, simc⟩ := hc _ _ _ _ _ q1 (ev0.le (Nat.le_refl _))
            obtain ⟨v', w1, ⟨ρ1, st, hv⟩, hs1⟩ := steps_call (b := b) (k := k) (cs := cs) (rest := rest) ho hy hd hrun (simc ρ w _ hw0 ha)
            exact ⟨ρ1, _, v', w1, rfl, hs1, step_mem st rfl rfl, rel_put (ht.mono st.ext) _ hv⟩
          | round hl hl' ha hrun =>
            obtain ⟨_, simc⟩ := hr _ _ _ _ _ q1 (ev0.le (Nat.le_refl _))
            obtain ⟨v', w1, ⟨ρ1, st, hv⟩, hs1⟩ := steps_round (b := b) (k := k) (cs := cs) (rest := rest) ho hy hd hrun (simc ρ w _ _ hw0 hl hl' ha)
            exact ⟨ρ1, _, v', w1, rfl, hs1, step_mem st rfl rfl, rel_put (ht.mono st.ext) _ hv⟩
    · rename_i hwant
      cases h
      refine ⟨ρ, _, undef, w, rfl, .one ?_, .refl hw, rel_put ht _ rel_undef⟩
      have := stepR_op_skip (P := P) (b := b) (a := act) (k := k) (cs := cs) (w := w) (ops := ops) (i := i) (rest := rest) (by
        rw [ho, rel_yielded ht]; simpa using hwant)
      rw [ho] at this
      exact this


theorem want_put {o : Oper} {d : Option Tmp} (hd : ∀ e, d = some e → e ∉ o.looksAt ops) (t : List Value) (v : Value) : Region.wanted o (yieldedA ops (putT t d v)) = Region.wanted o (yieldedA ops t) := by
  unfold Region.wanted
  cases hg : o.guard with
  | none => rfl
  | some g =>
    obtain ⟨j, b⟩ := g
    simp only []
    have : yieldedA ops (putT t d v) j = yieldedA ops t j := by
      unfold yieldedA
      cases hj : (ops[j]?).bind (·.dst) with
      | none => rfl
      | some e =>
        simp only [Option.bind_some]
        cases d with
        | none => rfl
        | some e' =>
          have hne : e' ≠ e := by
            intro hh
            subst hh
            refine hd e' rfl ?_
            unfold Oper.looksAt
            refine List.mem_append_right _ ?_
            rw [hg]
            simp [hj]
          simp [putT, List.getElem?_set_ne hne]
    rw [this]
theorem eval_look {o : Oper} {d : Option Tmp} (hd : ∀ e, d = some e → e ∉ o.looksAt ops) (t : List Value) (v : Value) : ∀ z ∈ o.op.operands, evalA (putT t d v) z = evalA t z := by
  intro z hz
  refine eval_put fun e he hze => hd e he ?_
  subst hze
  unfold Oper.looksAt
  exact List.mem_append_left _ (List.mem_filterMap.2 ⟨.tmp e, by simpa using hz, rfl⟩)
theorem put_put (t : List Value) (d : Option Tmp) (u v : Value) : putT (putT t d u) d v = putT t d v := by
  cases d <;> simp [putT]
theorem stepR_put {m x : Nat} {o : Oper} (ho : ops[x]? = some o) {d : Option Tmp} (hd : ∀ e, d = some e → e ∉ o.looksAt ops) (hne : ∀ e, d = some e → o.dst ≠ some e) {t t1 : List Value} {a a1 : AW} {nt : Note} (u : Value)
    (h : stepR P (callA P G m) (roundA P G m) ops x t a = some (nt, t1, a1)) : stepR P (callA P G m) (roundA P G m) ops x (putT t d u) a = some (nt, putT t1 d u, a1) := by
  unfold stepR at h ⊢
  rw [ho] at h ⊢
  simp only at h ⊢
  rw [want_put hd]
  split at h
  · rename_i hw
    obtain ⟨⟨n1, v1, b1⟩, e1, e2⟩ := Option.map_eq_some_iff.1 h
    simp only [Prod.mk.injEq] at e2
    obtain ⟨rfl, rfl, rfl⟩ := e2
    rw [if_pos hw, stepO_congr (eval_look hd t u), e1]
    simp only [Option.map_some, put_comm t u v1 hne]
  · rename_i hw
    rw [if_neg hw]
    simp only [Option.some.injEq, Prod.mk.injEq] at h ⊢
    obtain ⟨rfl, rfl, rfl⟩ := h
    exact ⟨rfl, put_comm t u undef hne, rfl⟩
theorem stepR_own {m x : Nat} {o : Oper} (ho : ops[x]? = some o) (hd : ∀ e, o.dst = some e → e ∉ o.looksAt ops) {t t1 : List Value} {a a1 : AW} {nt : Note} (u : Value)
    (h : stepR P (callA P G m) (roundA P G m) ops x t a = some (nt, t1, a1)) : stepR P (callA P G m) (roundA P G m) ops x (putT t o.dst u) a = some (nt, t1, a1) := by
  unfold stepR at h ⊢
  rw [ho] at h ⊢
  simp only at h ⊢
  rw [want_put hd]
  split at h
  · rename_i hw
    obtain ⟨⟨n1, v1, b1⟩, e1, e2⟩ := Option.map_eq_some_iff.1 h
    simp only [Prod.mk.injEq] at e2
    obtain ⟨rfl, rfl, rfl⟩ := e2
    rw [if_pos hw, stepO_congr (eval_look hd t u), e1]
    simp only [Option.map_some, put_put]
  · rename_i hw
    rw [if_neg hw]
    simp only [Option.some.injEq, Prod.mk.injEq] at h ⊢
    obtain ⟨rfl, rfl, rfl⟩ := h
    exact ⟨rfl, put_put _ _ _ _, rfl⟩
/-- What stands in a temporary that is written before it is looked at does not matter. -/
theorem Tr.wild {y : TOp} {o : Oper} (ho : ops[y.1]? = some o) (hd : ∀ e, o.dst = some e → e ∉ o.looksAt ops) (u : Value) {v : List TOp} : ∀ {l : List TOp} {t t2 : List Value} {a a2 : AW},
    (∀ x ∈ l, ∃ ox, ops[x.1]? = some ox ∧ o.apart ops ox = true) → Tr P G ops (l ++ y :: v) t a t2 a2 → Tr P G ops (l ++ y :: v) (putT t o.dst u) a t2 a2
  | [], t, t2, a, a2, _, h => by
    obtain ⟨i, m, nt⟩ := y
    cases h with
    | cons h1 r => exact .cons (stepR_own ho hd u h1) r
  | x :: l, t, t2, a, a2, hl, h => by
    obtain ⟨i, m, nt⟩ := x
    obtain ⟨ox, q1, q2⟩ := hl (i, m, nt) (by simp)
    obtain ⟨p1, p2, p3⟩ := Oper.apart_spec q2
    cases h with
    | cons h1 r => exact .cons (stepR_put q1 p1 p2 u h1) (Tr.wild ho hd u (fun z hz => hl z (by simp [hz])) r)

/-- Nothing but a block that the evaluator does not know comes in. -/
theorem step_push {ρ : Ren} {a : AW} {w w' : World} (h : WRel ρ a w) {o : Obj} (hh : w'.heap = w.heap.push o) (h1 : w'.os = w.os) (h2 : w'.tape = w.tape) (h3 : w'.output = w.output) : Step ρ a.next w ρ a w' := by
  have hold : ∀ k, k < w.heap.size → w'.heap[k]? = w.heap[k]? := fun k hk => by rw [hh, Array.getElem?_push, if_neg (by omega)]
  refine ⟨⟨h.falls, h.lt, fun i I e => ?_, h.has, h.inj⟩, .refl _ _, fun i I e => .inl ⟨i, I, e, rfl, rfl⟩, fun k hk _ => hold k hk, by rw [hh]; simp, h1, h2, h3⟩
  obtain ⟨b', o', e1, e2, e3⟩ := h.blk i I e
  exact ⟨b', o', e1, by rw [hold _ (h.bound e)]; exact e2, e3⟩
/-- A block that the program has made before gets its number. -/
theorem step_adopt {ρ0 ρ : Ren} {K0 : Nat} {a : AW} {w0 w : World} (st : Step ρ0 K0 w0 ρ a w) {g n : Nat} {b : Blk} {o : Obj} (hg : w.heap[g]? = some o) (hlo : w0.heap.size ≤ g) (hni : ∀ j I, ρ j = some I → I.b ≠ g)
    (ho : ORel (upd ρ a.next (some ⟨g, 0, n, true⟩)) (a.next + 1) ⟨g, 0, n, true⟩ b o) : Step ρ0 K0 w0 (upd ρ a.next (some ⟨g, 0, n, true⟩)) (a.new b) w := by
  have h := st.rel
  have hx := ext_new h ⟨g, 0, n, true⟩
  refine ⟨⟨.cons (Nat.lt_succ_self _) h.falls, ?_, ?_, ?_, ?_⟩, st.ext.trans hx, ?_, st.frame, st.size, st.os, st.tape, st.output⟩
  · intro i I e
    by_cases hi : i = a.next
    · subst hi; exact Nat.lt_succ_self _
    · rw [upd_ne _ _ hi] at e; exact Nat.lt_succ_of_lt (h.lt i I e)
  · intro i I e
    by_cases hi : i = a.next
    · subst hi
      rw [upd_self] at e
      cases e
      exact ⟨b, o, by simp [AW.get, AW.new, look], hg, ho⟩
    · rw [upd_ne _ _ hi] at e
      obtain ⟨b', o', e1, e2, e3⟩ := h.blk i I e
      refine ⟨b', o', ?_, e2, e3.mono hx⟩
      simp only [AW.get, AW.new, look, if_neg hi]; exact e1
  · intro i b' e
    by_cases hi : i = a.next
    · subst hi; exact ⟨_, upd_self _ _ _⟩
    · simp only [AW.get, AW.new, look, if_neg hi] at e
      rw [upd_ne _ _ hi]; exact h.has i b' e
  · intro i j I J e1 e2 e3
    by_cases hi : i = a.next <;> by_cases hj : j = a.next
    · exact .inl (hi.trans hj.symm)
    · subst hi
      rw [upd_self] at e1; rw [upd_ne _ _ hj] at e2; cases e1
      exact absurd e3.symm (hni j J e2)
    · subst hj
      rw [upd_self] at e2; rw [upd_ne _ _ hi] at e1; cases e2
      exact absurd e3 (hni i I e1)
    · rw [upd_ne _ _ hi] at e1; rw [upd_ne _ _ hj] at e2; exact h.inj i j I J e1 e2 e3
  · intro i I e
    by_cases hi : i = a.next
    · subst hi; rw [upd_self] at e; cases e; exact .inr hlo
    · rw [upd_ne _ _ hi] at e; exact st.img i I e

/-- A block that the program has made, and the evaluator not yet. -/
def Held (P : Program) (ops : Array Oper) (lo : Nat) (ρ : Ren) (K : Nat) (w : World) (t : List Value) (tc : Array Value) (i g : Nat) : Prop :=
  ∃ o b f n ob v', ops[i]? = some o ∧ kindO P o = .make ∧ o.guard = none ∧ (∀ d, o.dst = some d → d ∉ o.looksAt ops) ∧ makeA P t o = some (b, f) ∧ w.heap[g]? = some ob ∧ lo ≤ g ∧ (∀ j I, ρ j = some I → I.b ≠ g) ∧
    (∀ d, o.dst = some d → d < tc.size → tc[d]? = some v') ∧
    ∀ ρ' K' id, Ext ρ K ρ' K' → id < K' → (∀ I, ρ' id = some I → I = ⟨g, 0, n, true⟩) → ORel ρ' K' ⟨g, 0, n, true⟩ b ob ∧ VRel ρ' K' (f id) v'
theorem Held.step {lo i g : Nat} {ρ ρ' : Ren} {a a' : AW} {w w' : World} {t : List Value} {act : Act} (h : Held P ops lo ρ a.next w t act.tmps i g) (st : Step ρ a.next w ρ' a' w') {oj : Oper} (hap : ∀ oi, ops[i]? = some oi → oj.apart ops oi = true) (v v' : Value) :
    Held P ops lo ρ' a'.next w' (putT t oj.dst v) (act.put oj.dst v').tmps i g := by
  obtain ⟨o, b, f, n, ob, u, h1, h2, h3, h4, h5, h6, h7, h8, h9, h10⟩ := h
  obtain ⟨p1, p2, p3⟩ := Oper.apart_spec (hap o h1)
  have hg : g < w.heap.size := (Array.getElem?_eq_some_iff.1 h6).1
  refine ⟨o, b, f, n, ob, u, h1, h2, h3, h4, ?_, ?_, h7, fun j I e => ?_, fun d hd hs => ?_, fun ρ2 K2 id hx hid hI => h10 ρ2 K2 id (st.ext.trans hx) hid hI⟩
  · rw [make_congr (eval_look p1 t v)]; exact h5
  · rw [st.frame g hg fun j I e _ => h8 j I e]; exact h6
  · rcases st.img j I e with ⟨k, J, e1, _, e3⟩ | hl
    · rw [← e3]; exact h8 k J e1
    · omega
  · cases hj : oj.dst with
    | none => rw [hj] at hs; exact h9 d hd hs
    | some e =>
      have hne : e ≠ d := fun hh => p2 e hj (hh ▸ hd)
      rw [hj] at hs
      show (act.tmps.setIfInBounds e v')[d]? = some u
      rw [Array.getElem?_setIfInBounds_ne hne]
      refine h9 d hd ?_
      have : (act.tmps.setIfInBounds e v').size = act.tmps.size := Array.size_setIfInBounds
      change d < (act.tmps.setIfInBounds e v').size at hs
      rw [this] at hs
      exact hs
end
end Go.Proofs.YtmdfejlfdgaomaaAM
