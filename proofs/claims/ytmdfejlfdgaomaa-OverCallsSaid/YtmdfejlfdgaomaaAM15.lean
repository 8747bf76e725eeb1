/- The machine's steps for one operation, one call, one round. -/
import Derived.Test.YtmdfejlfdgaomaaAM14
namespace Go.Proofs.YtmdfejlfdgaomaaAM
open Go Go.RowKit
set_option linter.unusedVariables false
set_option linter.unusedSimpArgs false

/-- A call, by the machine: at once, or by the function's text. -/
def CallTo (P : Program) (f : FuncId) (args : Array Value) (w : World) (Q : Value → World → Prop) : Prop :=
  (∃ v w', (callFunc f args).run P w = .ok (.value v) w' ∧ Q v w') ∨
  ((callFunc f args).run P w = .ok (.enter f args) w ∧ Calls P f args w fun e w' => ∃ v, e = .returned v ∧ Q v w')
/-- A round of a loop over a function. -/
def RoundTo (P : Program) (l : Nat) (args : Array Value) (w : World) (Q : Value → World → Prop) : Prop :=
  ∃ f tmps x y, (Instr.yield l args).run P w = .ok (.round l f tmps x y) w ∧
    ∀ c cs, ∃ v w', Q v w' ∧ Steps P (lone (Frame.round l f tmps x y .normal) (c :: cs) w) (lone (c.finish v) cs w')

section
variable {P : Program} {b : Frame} {a : Act} {k : List Item} {cs : List Frame} {w : World} {ops : Array Oper}

theorem eq_undef_put (a : Act) (d : Option Tmp) (v : Value) : a.put d v = { a with tmps := match d with | some d => a.tmps.setIfInBounds d v | none => a.tmps } := by
  cases d <;> rfl
theorem not_defer {o : Oper} {tmps : List Value} {a0 a1 : AW} {x : NextA} (h : opA P tmps o a0 = some (x, a1)) : ∀ c, o.op ≠ .defer c := by
  intro c hc
  unfold opA at h
  have hk : kindO P o = .work := by unfold kindO; rw [hc]
  rw [hk] at h
  simp only [workA, hc] at h
  cases h
theorem hfinish (i : Nat) (rest : List Nat) {o : Oper} (ho : ops[i]? = some o) (v : Value) : (b.atR a (.inRegion ops (i :: rest) :: k)).finish v = b.atR (a.put o.dst v) (.inRegion ops rest :: k) := by
  rw [Frame.finish_atR, ho]; rfl
theorem step_value {i : Nat} {rest : List Nat} {o : Oper} (ho : ops[i]? = some o) (hw : Region.wanted o (yielded ops a.tmps) = true) (hd : ∀ c, o.op ≠ .defer c) {v : Value} {w' : World}
    (h : (execOp a.eval o).run P w = .ok (.value v) w') : step P (lone (b.atR a (.inRegion ops (i :: rest) :: k)) cs w) = .next (lone (b.atR (a.put o.dst v) (.inRegion ops rest :: k)) cs w') := by
  have hg := stepGR_op (P := P) (b := b) (k := k) (cs := cs) (w := w) (rest := rest) ho hw
  rw [Oper.semAt_eq _ _ _ hd] at hg
  refine step_lone_go ?_
  rw [hg, ← hfinish i rest ho]; simp [stepG.apply, h]
theorem step_skipped {i : Nat} {rest : List Nat} {o : Oper} (ho : ops[i]? = some o) (hw : Region.wanted o (yielded ops a.tmps) = true) (hd : ∀ c, o.op ≠ .defer c) {w' : World}
    (h : (execOp a.eval o).run P w = .ok .skip w') : step P (lone (b.atR a (.inRegion ops (i :: rest) :: k)) cs w) = .next (lone (b.atR (a.put o.dst undef) (.inRegion ops rest :: k)) cs w') := by
  have hg := stepGR_op (P := P) (b := b) (k := k) (cs := cs) (w := w) (rest := rest) ho hw
  rw [Oper.semAt_eq _ _ _ hd] at hg
  refine step_lone_go ?_
  rw [hg, ← hfinish i rest ho]; simp [stepG.apply, h]
theorem step_enter {i : Nat} {rest : List Nat} {o : Oper} (ho : ops[i]? = some o) (hw : Region.wanted o (yielded ops a.tmps) = true) (hd : ∀ c, o.op ≠ .defer c) {f : FuncId} {args : Array Value} {w' : World}
    (h : (execOp a.eval o).run P w = .ok (.enter f args) w') : step P (lone (b.atR a (.inRegion ops (i :: rest) :: k)) cs w) = .next (lone (Frame.enter P f args .normal) (b.atR a (.inRegion ops (i :: rest) :: k) :: cs) w') := by
  have hg := stepGR_op (P := P) (b := b) (k := k) (cs := cs) (w := w) (rest := rest) ho hw
  rw [Oper.semAt_eq _ _ _ hd] at hg
  refine step_lone_go ?_
  rw [hg]; simp [stepG.apply, h, Frame.atR]
theorem step_round {i : Nat} {rest : List Nat} {o : Oper} (ho : ops[i]? = some o) (hw : Region.wanted o (yielded ops a.tmps) = true) (hd : ∀ c, o.op ≠ .defer c) {l : Nat} {f : FuncId} {tmps : Array Value} {x y : Code} {w' : World}
    (h : (execOp a.eval o).run P w = .ok (.round l f tmps x y) w') : step P (lone (b.atR a (.inRegion ops (i :: rest) :: k)) cs w) = .next (lone (Frame.round l f tmps x y .normal) (b.atR a (.inRegion ops (i :: rest) :: k) :: cs) w') := by
  have hg := stepGR_op (P := P) (b := b) (k := k) (cs := cs) (w := w) (rest := rest) ho hw
  rw [Oper.semAt_eq _ _ _ hd] at hg
  refine step_lone_go ?_
  rw [hg]; simp [stepG.apply, h, Frame.atR]
/-- One operation that calls. -/
theorem steps_call {i : Nat} {rest : List Nat} {o : Oper} (ho : ops[i]? = some o) (hw : Region.wanted o (yielded ops a.tmps) = true) (hd : ∀ c, o.op ≠ .defer c) {f : FuncId} {args : Array Value} {Q : Value → World → Prop}
    (h : (execOp a.eval o).run P w = (callFunc f args).run P w) (hc : CallTo P f args w Q) : ∃ v w', Q v w' ∧ Steps P (lone (b.atR a (.inRegion ops (i :: rest) :: k)) cs w) (lone (b.atR (a.put o.dst v) (.inRegion ops rest :: k)) cs w') := by
  rcases hc with ⟨v, w', e, hq⟩ | ⟨e, hcall⟩
  · exact ⟨v, w', hq, .one (step_value ho hw hd (h.trans e))⟩
  · obtain ⟨e0, w', fr, ⟨v, rfl, hq⟩, hcomes, hfn, hleave⟩ := hcall (b.atR a (.inRegion ops (i :: rest) :: k) :: cs)
    refine ⟨v, w', hq, .head (step_enter ho hw hd (h.trans e)) (Steps.trans hcomes (.one ?_))⟩
    rw [← hfinish i rest ho]
    exact step_leave_returned hleave
theorem steps_round {i : Nat} {rest : List Nat} {o : Oper} (ho : ops[i]? = some o) (hw : Region.wanted o (yielded ops a.tmps) = true) (hd : ∀ c, o.op ≠ .defer c) {l : Nat} {args : Array Value} {Q : Value → World → Prop}
    (h : (execOp a.eval o).run P w = (Instr.yield l args).run P w) (hc : RoundTo P l args w Q) : ∃ v w', Q v w' ∧ Steps P (lone (b.atR a (.inRegion ops (i :: rest) :: k)) cs w) (lone (b.atR (a.put o.dst v) (.inRegion ops rest :: k)) cs w') := by
  obtain ⟨f, tmps, x, y, e, hr⟩ := hc
  obtain ⟨v, w', hq, hs⟩ := hr (b.atR a (.inRegion ops (i :: rest) :: k)) cs
  refine ⟨v, w', hq, .head (step_round ho hw hd (h.trans e)) ?_⟩
  rw [← hfinish i rest ho]
  exact hs
end

section
variable {P : Program} {ρ : Ren} {K : Nat} {tmps : List Value} {a : Act} {ops : Array Oper}
theorem rel_put (h : TRel ρ K tmps a.tmps) (d : Option Tmp) {v v' : Value} (hv : VRel ρ K v v') : TRel ρ K (putT tmps d v) (a.put d v').tmps := by
  cases d with
  | none => exact h
  | some d =>
    show LRel ρ K (tmps.set d v) (a.tmps.setIfInBounds d v').toList
    rw [Array.toList_setIfInBounds]
    exact h.set hv d
theorem rel_yielded (h : TRel ρ K tmps a.tmps) : yielded ops a.tmps = yieldedA ops tmps := by
  funext j
  unfold yielded yieldedA
  cases hj : (ops[j]?).bind (·.dst) with
  | none => rfl
  | some d =>
    simp only [Option.bind_some]
    cases hd : tmps[d]? with
    | none =>
      have : a.tmps[d]? = none := by
        have hl := h.length
        rw [List.getElem?_eq_none_iff] at hd
        simp only [Array.length_toList] at hl
        rw [Array.getElem?_eq_none_iff]; omega
      rw [this]
    | some v =>
      obtain ⟨v', e, hv⟩ := h.get hd
      have e' : a.tmps[d]? = some v' := by simpa using e
      rw [e']
      cases hv <;> rfl
end

/-- How code is left: where the machine stands. -/
def Arr (P : Program) (m : Machine) (b : Frame) (k : List Item) (cs : List Frame) : ExitA → Act → World → Prop
  | .normal, a, w => Steps P m (lone (b.atR a k) cs w)
  | .exit id, a, w => ∃ k1, exitTo id k1 = exitTo id k ∧ Steps P m (lone (b.atR a (.code (.exit id) :: k1)) cs w)
  | .ret, a, w => ∃ k1, Steps P m (lone (b.atR a (.code .ret :: k1)) cs w)
  | .goto _, _, _ => False
theorem Arr.of_steps {P : Program} {m m1 : Machine} {b : Frame} {k : List Item} {cs : List Frame} {e : ExitA} {a : Act} {w : World} (h : Steps P m m1) (h' : Arr P m1 b k cs e a w) : Arr P m b k cs e a w := by
  cases e with
  | normal => exact h.trans h'
  | exit id => obtain ⟨k1, e1, e2⟩ := h'; exact ⟨k1, e1, h.trans e2⟩
  | ret => obtain ⟨k1, e2⟩ := h'; exact ⟨k1, h.trans e2⟩
  | goto l => exact h'.elim
theorem Arr.past {P : Program} {m : Machine} {b : Frame} {x : Item} {k : List Item} {cs : List Frame} {e : ExitA} {a : Act} {w : World} (he : e ≠ .normal) (hx : ∀ id, exitTo id (x :: k) = exitTo id k) (h : Arr P m b (x :: k) cs e a w) : Arr P m b k cs e a w := by
  cases e with
  | normal => exact absurd rfl he
  | exit id => obtain ⟨k1, e1, e2⟩ := h; exact ⟨k1, e1.trans (hx id), e2⟩
  | ret => exact h
  | goto l => exact h
inductive DRel (ρ : Ren) (K : Nat) : List Nat → List Deferred → Prop
  | nil : DRel ρ K [] []
  | cons {d r : Nat} {ds : List Nat} {l : List Deferred} (h : d < K) (h1 : ∀ I, ρ d = some I → r = I.b) (h2 : DRel ρ K ds l) : DRel ρ K (d :: ds) ({ target := .collected r, args := #[] } :: l)
theorem DRel.mono {ρ ρ' : Ren} {K K' : Nat} (hx : Ext ρ K ρ' K') {ds : List Nat} {l : List Deferred} (h : DRel ρ K ds l) : DRel ρ' K' ds l := by
  induction h with
  | nil => exact .nil
  | cons h h1 _ ih => exact .cons (Nat.lt_of_lt_of_le h hx.1) (fun I e => h1 I (hx.some h e)) ih
end Go.Proofs.YtmdfejlfdgaomaaAM
