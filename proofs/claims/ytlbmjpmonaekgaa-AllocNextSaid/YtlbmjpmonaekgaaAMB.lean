/- What is forgotten behind a call. (and what follows from it) -/
import Derived.Test.YtlbmjpmonaekgaaAMA
import Derived.RangeFuncLeaves
import Derived.RangeFuncRecord
namespace Go.Proofs.YtlbmjpmonaekgaaAM
/- What is forgotten behind a call. -/
section
open Go Go.RowKit
set_option linter.unusedVariables false
set_option linter.unusedSimpArgs false

theorem FnRel.down {ρ ρ1 : Ren} {K K1 : Nat} (hag : ∀ i, i < K → ρ1 i = ρ i) {f f' f'' : Fn} (h0 : FnRel ρ K f f'') (h : FnRel ρ1 K1 f f') : FnRel ρ K f f' := by
  cases h0 with
  | func f => cases h; exact .func f
  | yield hl _ => cases h with | yield _ h1 => exact .yield hl (fun I e => h1 I (by rw [hag _ hl]; exact e))
/-- What speaks of old blocks alone may be read with the old numbers. -/
theorem VRel.down {ρ ρ1 : Ren} {K K1 : Nat} (hag : ∀ i, i < K → ρ1 i = ρ i) {v v'' : Value} (h0 : VRel ρ K v v'') : ∀ {v' : Value}, VRel ρ1 K1 v v' → VRel ρ K v v' := by
  induction h0 with
  | bool b => intro v' h; cases h; exact .bool b
  | int k n => intro v' h; cases h; exact .int k n
  | float k n => intro v' h; cases h; exact .float k n
  | complex k n m => intro v' h; cases h; exact .complex k n m
  | string s => intro v' h; cases h; exact .string s
  | nilFunc => intro v' h; cases h; exact .nilFunc
  | nilIface => intro v' h; cases h; exact .nilIface
  | ptrNil => intro v' h; cases h; exact .ptrNil
  | mapNil => intro v' h; cases h; exact .mapNil
  | chanNil => intro v' h; cases h; exact .chanNil
  | nan _ => intro v' h; cases h with | nan h1 => exact .nan h1
  | sliceNil n c => intro v' h; cases h; exact .sliceNil n c
  | ptr hK hs _ => intro v' h; cases h with | ptr _ _ h1 => exact .ptr hK hs (fun I e => h1 I (by rw [hag _ hK]; exact e))
  | slice hK _ _ _ _ _ =>
    intro v' h
    cases h with
    | slice _ h1 hn hc h0 h2 => exact .slice hK (fun I e => h1 I (by rw [hag _ hK]; exact e)) hn hc h0 (fun z hz I e => h2 z hz I (by rw [hag _ hK]; exact e))
  | map hK _ => intro v' h; cases h with | map _ h1 => exact .map hK (fun I e => h1 I (by rw [hag _ hK]; exact e))
  | func hf e1 _ e2 _ ih1 ih2 =>
    intro v' h
    cases h with
    | func hf' q1 r1 q2 r2 => exact .func (hf.down hag hf') q1 (fun i p q => ih1 i p (by omega) (r1 i p q)) q2 (fun i p q => ih2 i p (by omega) (r2 i p q))
  | iface t _ ih => intro v' h; cases h with | iface _ hv => exact .iface t (ih hv)
  | agg e1 _ ih => intro v' h; cases h with | agg q1 r1 => exact .agg q1 (fun i p q => ih i p (by omega) (r1 i p q))
  | tuple e1 _ ih => intro v' h; cases h with | tuple q1 r1 => exact .tuple q1 (fun i p q => ih i p (by omega) (r1 i p q))
theorem LRel.down {ρ ρ1 : Ren} {K K1 : Nat} (hag : ∀ i, i < K → ρ1 i = ρ i) {l l'' : List Value} (h0 : LRel ρ K l l'') : ∀ {l' : List Value}, LRel ρ1 K1 l l' → LRel ρ K l l' := by
  induction h0 with
  | nil => intro l' h; cases h; exact .nil
  | cons hv _ ih => intro l' h; cases h with | cons hv' hr => exact .cons (hv.down hag hv') (ih hr)
theorem EsRel.down {ρ ρ1 : Ren} {K K1 : Nat} (hag : ∀ i, i < K → ρ1 i = ρ i) {l l'' : List MapEntry} (h0 : EsRel ρ K l l'') : ∀ {l' : List MapEntry}, EsRel ρ1 K1 l l' → EsRel ρ K l l' := by
  induction h0 with
  | nil => intro l' h; cases h; exact .nil
  | cons hv _ ih =>
    intro l' h
    cases h with
    | cons hv' hr =>
      refine .cons ?_ (ih hr)
      cases hv with
      | mk n h1 h2 => cases hv' with | mk _ g1 g2 => exact .mk n (h1.down hag g1) (h2.down hag g2)
theorem ORel.down {ρ ρ1 : Ren} {K K1 : Nat} (hag : ∀ i, i < K → ρ1 i = ρ i) {I : Info} {b : Blk} {o'' o' : Obj} (h0 : ORel ρ K I b o'') (h : ORel ρ1 K1 I b o') : ORel ρ K I b o' := by
  cases h0 with
  | @cells c c'' e fr hc _ =>
    obtain ⟨_, c', te, fr', rfl, hc', hw'⟩ := h.inv
    refine .cells (fun j v ej => ?_) hw'
    obtain ⟨v'', _, g2⟩ := hc j v ej
    obtain ⟨v', k1, k2⟩ := hc' j v ej
    exact ⟨v', k1, g2.down hag k2⟩
  | @holey c k c'' e fr hc _ _ _ =>
    obtain ⟨hr, c', te, fr', rfl, hc', hk', hw'⟩ := h.invH
    refine .holey (fun j v ej => ?_) hk' hr hw'
    obtain ⟨v'', _, g2⟩ := hc j v ej
    obtain ⟨v', k1, k2⟩ := hc' j v ej
    exact ⟨v', k1, g2.down hag k2⟩
  | obj hr0 _ _ _ =>
    cases h with
    | obj hr h1 h2 h3 =>
      refine .obj ?_ h1 h2 h3
      cases hr0 with
      | map n hes => cases hr with | map _ hes' => exact .map n (hes.down hag hes')
      | stringIter s n => cases hr; exact .stringIter s n
      | mapIterNil n s m => cases hr; exact .mapIterNil n s m
      | mapIter n s m hK _ => cases hr with | mapIter _ _ _ _ h1 => exact .mapIter n s m hK (fun I e => h1 I (by rw [hag _ hK]; exact e))
      | loop st pd f ps x y hl hd _ => cases hr with | loop _ _ _ _ _ _ hl' _ h1 => exact .loop st pd f ps x y (hl.down hag hl') hd (fun I e => h1 I (by rw [hag _ hd]; exact e))
      | deferred => cases hr; exact .deferred
      | taken => cases hr; exact .taken

section
variable {ρ ρ1 : Ren} {a a1 : AW} {w w1 : World}
/-- Where old blocks are as they were, the old numbers speak of the new world. -/
theorem old_again (h : WRel ρ a w) (st : Step ρ a.next w ρ1 a1 w1) (hg : ∀ i, i < a.next → a1.get i = a.get i) : (∀ i, i < a.next → ρ1 i = ρ i) ∧ Step ρ a.next w ρ a w1 := by
  have hag : ∀ i, i < a.next → ρ1 i = ρ i := by
    intro i hi
    cases e : ρ i with
    | none =>
      rcases st.ext.2 i hi with e1 | e1
      · rw [e1, e]
      · exact e1
    | some I =>
      obtain ⟨b, _, g1, _, _⟩ := h.blk i I e
      obtain ⟨J, eJ⟩ := st.rel.has i b (by rw [hg i hi]; exact g1)
      rcases st.ext.2 i hi with e1 | e1
      · rw [e1, e]
      · rw [e1] at eJ; cases eJ
  refine ⟨hag, ⟨h.falls, h.lt, fun i I e => ?_, h.has, h.inj⟩, .refl _ _, fun i I e => .inl ⟨i, I, e, rfl, rfl⟩, st.frame, st.size, st.os, st.tape, st.output⟩
  obtain ⟨b, o, g1, g2, g3⟩ := h.blk i I e
  have hi := h.lt i I e
  obtain ⟨b', o', k1, k2, k3⟩ := st.rel.blk i I (by rw [hag i hi]; exact e)
  rw [hg i hi, g1] at k1
  cases k1
  exact ⟨b, o', g1, k2, g3.down hag k3⟩
theorem same_mem {a2 : AW} (h : WRel ρ a w) (h1 : a2.next = a.next) (h2 : a2.heap = a.heap) : WRel ρ a2 w := by
  refine ⟨by rw [h1, h2]; exact h.falls, by rw [h1]; exact h.lt, fun i I e => ?_, fun i b e => h.has i b (by simpa [AW.get, h2] using e), h.inj⟩
  obtain ⟨b, o, g1, g2, g3⟩ := h.blk i I e
  exact ⟨b, o, by simpa [AW.get, h2] using g1, g2, by rw [h1]; exact g3⟩
theorem step_mem {K : Nat} {a2 : AW} (st : Step ρ K w ρ1 a1 w1) (h1 : a2.next = a1.next) (h2 : a2.heap = a1.heap) : Step ρ K w ρ1 a2 w1 :=
  ⟨same_mem st.rel h1 h2, by rw [h1]; exact st.ext, st.img, st.frame, st.size, st.os, st.tape, st.output⟩

theorem filter_nil {l : List Value} (h : l.filter (fun v => !flat v) = []) : l.all flat = true := by
  rw [List.filter_eq_nil_iff] at h
  rw [List.all_eq_true]
  intro v hv
  have := h v hv
  simpa using this
/-- Behind a call. -/
theorem sim_leave (h : WRel ρ a w) {vs vs' : List Value} (st : Step ρ a.next w ρ1 a1 w1) (hv : LRel ρ1 a1.next vs vs') (hbase : a1.base = a.next) (hg : ∀ i, i < a.next → i ∉ a1.dirty → a1.get i = a.get i) :
    ∃ ρ2, Step ρ a.next w ρ2 (leaveA a vs a1).2 w1 ∧ LRel ρ2 (leaveA a vs a1).2.next (leaveA a vs a1).1 vs' := by
  have keep : ∀ d, ∃ ρ2, Step ρ a.next w ρ2 { next := a1.next, heap := a1.heap, base := a.base, dirty := d } w1 ∧ LRel ρ2 a1.next vs vs' := fun d => ⟨ρ1, step_mem st rfl rfl, hv⟩
  unfold leaveA
  split
  · rename_i hd
    have hd' : a1.dirty = [] := by simpa using hd
    have hg' : ∀ i, i < a.next → a1.get i = a.get i := fun i hi => hg i hi (by rw [hd']; simp)
    obtain ⟨hag, st0⟩ := old_again h st hg'
    split
    · rename_i hf
      have hall := filter_nil hf
      have := flats_eq hall hv
      subst this
      exact ⟨ρ, st0, flats_self hall⟩
    · rename_i v hf
      split
      · rename_i c q hfr
        -- the block that is kept
        have key : ∃ p, a.next ≤ p ∧ a1.get p = some (.cells c true) ∧ c.all flat = true ∧ p < a1.next ∧
            ∀ (ρ2 : Ren) (K2 : Nat) (v' : Value), VRel ρ1 a1.next v v' → a.next < K2 → (∀ I, ρ2 a.next = some I → ρ1 p = some I) → VRel ρ2 K2 (moveTo a.next v) v' := by
          unfold freshOf at hfr
          split at hfr
          · rename_i p
            split at hfr
            · rename_i hle
              split at hfr
              · rename_i c0 hgp
                split at hfr
                · rename_i hfl
                  cases hfr
                  refine ⟨p.block, by omega, hgp, hfl, ?_, fun ρ2 K2 v' hv' hK hρ => ?_⟩
                  · obtain ⟨J, eJ⟩ := st.rel.has _ _ hgp; exact st.rel.lt _ _ eJ
                  · cases hv' with
                    | ptr _ hs h1 => exact .ptr hK hs (fun I e => h1 I (hρ I e))
                · cases hfr
              · cases hfr
            · cases hfr
          · rename_i p n cap
            split at hfr
            · rename_i hle
              split at hfr
              · rename_i c0 hgp
                split at hfr
                · rename_i hfl
                  cases hfr
                  refine ⟨p.block, by omega, hgp, hfl, ?_, fun ρ2 K2 v' hv' hK hρ => ?_⟩
                  · obtain ⟨J, eJ⟩ := st.rel.has _ _ hgp; exact st.rel.lt _ _ eJ
                  · cases hv' with
                    | slice _ h1 hn hc h0 h2 => exact .slice hK (fun I e => h1 I (hρ I e)) hn hc h0 (fun z hz I e => h2 z hz I (hρ I e))
                · cases hfr
              · cases hfr
            · cases hfr
          · cases hfr
        obtain ⟨p, hp1, hp2, hfl, hp3, hmv⟩ := key
        obtain ⟨I, eI⟩ := st.rel.has _ _ hp2
        obtain ⟨b, o, k1, k2, k3⟩ := st.rel.blk _ _ eI
        rw [hp2] at k1
        cases k1
        have hx : Ext ρ a.next (upd ρ a.next (some I)) (a.next + 1) := ⟨Nat.le_succ _, fun i hi => .inl (upd_ne _ _ (by omega))⟩
        have hI : I.rw = true := k3.inv.1
        refine ⟨upd ρ a.next (some I), ⟨⟨.cons (Nat.lt_succ_self _) h.falls, ?_, ?_, ?_, ?_⟩, hx, ?_, st.frame, st.size, st.os, st.tape, st.output⟩, ?_⟩
        · intro i J e
          by_cases hi : i = a.next
          · subst hi; exact Nat.lt_succ_self _
          · rw [upd_ne _ _ hi] at e; exact Nat.lt_succ_of_lt (h.lt i J e)
        · intro i J e
          by_cases hi : i = a.next
          · subst hi
            rw [upd_self] at e
            cases e
            refine ⟨.cells c true, o, by simp [AW.get, AW.new, look], k2, ?_⟩
            obtain ⟨_, c', te, fr, rfl, hc, hw⟩ := k3.inv
            rw [← hI]
            refine .cells (fun j u ej => ?_) hw
            obtain ⟨u', m1, m2⟩ := hc j u ej
            have hfu : flat u = true := List.all_eq_true.1 hfl u (List.mem_of_getElem? ej)
            exact ⟨u', m1, by rw [flat_eq hfu m2]; exact flat_self hfu⟩
          · rw [upd_ne _ _ hi] at e
            obtain ⟨b', o', e1, e2, e3⟩ := st0.rel.blk i J e
            refine ⟨b', o', ?_, e2, e3.mono hx⟩
            simp only [AW.get, AW.new, look, if_neg hi]; exact e1
        · intro i b' e
          by_cases hi : i = a.next
          · subst hi; exact ⟨_, upd_self _ _ _⟩
          · simp only [AW.get, AW.new, look, if_neg hi] at e
            rw [upd_ne _ _ hi]; exact h.has i b' e
        · intro i j J L e1 e2 e3
          by_cases hi : i = a.next <;> by_cases hj : j = a.next
          · exact .inl (hi.trans hj.symm)
          · subst hi
            rw [upd_self] at e1; rw [upd_ne _ _ hj] at e2; cases e1
            have hjl := h.lt j L e2
            rcases st.rel.inj p j I L eI (by rw [hag j hjl]; exact e2) e3 with h' | h'
            · omega
            · rw [hI] at h'; exact absurd h'.1 (by simp)
          · subst hj
            rw [upd_self] at e2; rw [upd_ne _ _ hi] at e1; cases e2
            have hil := h.lt i J e1
            rcases st.rel.inj i p J I (by rw [hag i hil]; exact e1) eI e3 with h' | h'
            · omega
            · rw [hI] at h'; exact absurd h'.2 (by simp)
          · rw [upd_ne _ _ hi] at e1; rw [upd_ne _ _ hj] at e2; exact h.inj i j J L e1 e2 e3
        · intro i J e
          by_cases hi : i = a.next
          · subst hi; rw [upd_self] at e; cases e; exact st.img p I eI
          · rw [upd_ne _ _ hi] at e; exact .inl ⟨i, J, e, rfl, rfl⟩
        · show LRel _ (a.next + 1) (vs.map fun u => if flat u then u else moveTo a.next u) vs'
          have hone : ∀ u ∈ vs, flat u = false → u = v := by
            intro u hu hfu
            have : u ∈ vs.filter (fun v => !flat v) := List.mem_filter.2 ⟨hu, by simp [hfu]⟩
            rw [hf] at this
            simpa using this
          clear hf hg hfr keep
          induction hv with
          | nil => exact .nil
          | @cons u u' l l' hu hr ih =>
            simp only [List.map_cons]
            refine .cons ?_ (ih fun x hx => hone x (List.mem_cons_of_mem _ hx))
            by_cases hfu : flat u = true
            · rw [if_pos hfu, flat_eq hfu hu]; exact flat_self hfu
            · rw [if_neg hfu]
              have : u = v := hone u (by simp) (by simpa using hfu)
              subst this
              exact hmv _ _ _ hu (Nat.lt_succ_self _) (fun J eJ => by rw [upd_self] at eJ; cases eJ; exact eI)
      · exact keep _
    · exact keep _
  · exact keep _
end
end
/- The machine's steps for one operation, one call, one round. -/
section
open Go Go.RowKit
set_option linter.unusedVariables false
set_option linter.unusedSimpArgs false

/-- A call, by the machine: at once, or by the function's text. -/
def CallTo (P : Program) (f : FuncId) (args : Array Value) (w : World) (Q : Value → World → Prop) : Prop :=
  (∃ v w', (callFunc f args).run P w = .ok (.value v) w' ∧ Q v w') ∨
  ((callFunc f args).run P w = .ok (.enter f args) w ∧ Calls P f args w fun e w' => ∃ v, e = .returned v ∧ Q v w')
/-- A round of a loop over a function. -/
def RoundTo (P : Program) (l : Nat) (args : Array Value) (w : World) (Q : Value → World → Prop) : Prop :=
  ∃ f tmps x y, (Instr.yield l args).run P w = .ok (.round l f tmps x y) w ∧
    ∀ c cs, ∃ v w', Q v w' ∧ Steps P (lone (Frame.round l f tmps x y .normal) (c :: cs) w) (lone (c.finish v) cs w')

section
variable {P : Program} {b : Frame} {a : Act} {k : List Item} {cs : List Frame} {w : World} {ops : Array Oper}

theorem eq_undef_put (a : Act) (d : Option Tmp) (v : Value) : a.put d v = { a with tmps := match d with | some d => a.tmps.setIfInBounds d v | none => a.tmps } := by
  cases d <;> rfl
theorem not_defer {o : Oper} {tmps : List Value} {a0 a1 : AW} {x : NextA} (h : opA P tmps o a0 = some (x, a1)) : ∀ c, o.op ≠ .defer c := by
  intro c hc
  unfold opA at h
  have hk : kindO P o = .work := by unfold kindO; rw [hc]
  rw [hk] at h
  simp only [workA, hc] at h
  cases h
theorem hfinish (i : Nat) (rest : List Nat) {o : Oper} (ho : ops[i]? = some o) (v : Value) : (b.atR a (.inRegion ops (i :: rest) :: k)).finish v = b.atR (a.put o.dst v) (.inRegion ops rest :: k) := by
  rw [Frame.finish_atR, ho]; rfl
theorem step_value {i : Nat} {rest : List Nat} {o : Oper} (ho : ops[i]? = some o) (hw : Region.wanted o (yielded ops a.tmps) = true) (hd : ∀ c, o.op ≠ .defer c) {v : Value} {w' : World}
    (h : (execOp a.eval o).run P w = .ok (.value v) w') : step P (lone (b.atR a (.inRegion ops (i :: rest) :: k)) cs w) = .next (lone (b.atR (a.put o.dst v) (.inRegion ops rest :: k)) cs w') := by
  have hg := stepGR_op (P := P) (b := b) (k := k) (cs := cs) (w := w) (rest := rest) ho hw
  rw [Oper.semAt_eq _ _ _ hd] at hg
  refine step_lone_go ?_
  rw [hg, ← hfinish i rest ho]; simp [stepG.apply, h]
theorem step_skipped {i : Nat} {rest : List Nat} {o : Oper} (ho : ops[i]? = some o) (hw : Region.wanted o (yielded ops a.tmps) = true) (hd : ∀ c, o.op ≠ .defer c) {w' : World}
    (h : (execOp a.eval o).run P w = .ok .skip w') : step P (lone (b.atR a (.inRegion ops (i :: rest) :: k)) cs w) = .next (lone (b.atR (a.put o.dst undef) (.inRegion ops rest :: k)) cs w') := by
  have hg := stepGR_op (P := P) (b := b) (k := k) (cs := cs) (w := w) (rest := rest) ho hw
  rw [Oper.semAt_eq _ _ _ hd] at hg
  refine step_lone_go ?_
  rw [hg, ← hfinish i rest ho]; simp [stepG.apply, h]
theorem step_enter {i : Nat} {rest : List Nat} {o : Oper} (ho : ops[i]? = some o) (hw : Region.wanted o (yielded ops a.tmps) = true) (hd : ∀ c, o.op ≠ .defer c) {f : FuncId} {args : Array Value} {w' : World}
    (h : (execOp a.eval o).run P w = .ok (.enter f args) w') : step P (lone (b.atR a (.inRegion ops (i :: rest) :: k)) cs w) = .next (lone (Frame.enter P f args .normal) (b.atR a (.inRegion ops (i :: rest) :: k) :: cs) w') := by
  have hg := stepGR_op (P := P) (b := b) (k := k) (cs := cs) (w := w) (rest := rest) ho hw
  rw [Oper.semAt_eq _ _ _ hd] at hg
  refine step_lone_go ?_
  rw [hg]; simp [stepG.apply, h, Frame.atR]
theorem step_round {i : Nat} {rest : List Nat} {o : Oper} (ho : ops[i]? = some o) (hw : Region.wanted o (yielded ops a.tmps) = true) (hd : ∀ c, o.op ≠ .defer c) {l : Nat} {f : FuncId} {tmps : Array Value} {x y : Code} {w' : World}
    (h : (execOp a.eval o).run P w = .ok (.round l f tmps x y) w') : step P (lone (b.atR a (.inRegion ops (i :: rest) :: k)) cs w) = .next (lone (Frame.round l f tmps x y .normal) (b.atR a (.inRegion ops (i :: rest) :: k) :: cs) w') := by
  have hg := stepGR_op (P := P) (b := b) (k := k) (cs := cs) (w := w) (rest := rest) ho hw
  rw [Oper.semAt_eq _ _ _ hd] at hg
  refine step_lone_go ?_
  rw [hg]; simp [stepG.apply, h, Frame.atR]
/-- One operation that calls. -/
theorem steps_call {i : Nat} {rest : List Nat} {o : Oper} (ho : ops[i]? = some o) (hw : Region.wanted o (yielded ops a.tmps) = true) (hd : ∀ c, o.op ≠ .defer c) {f : FuncId} {args : Array Value} {Q : Value → World → Prop}
    (h : (execOp a.eval o).run P w = (callFunc f args).run P w) (hc : CallTo P f args w Q) : ∃ v w', Q v w' ∧ Steps P (lone (b.atR a (.inRegion ops (i :: rest) :: k)) cs w) (lone (b.atR (a.put o.dst v) (.inRegion ops rest :: k)) cs w') := by
  rcases hc with ⟨v, w', e, hq⟩ | ⟨e, hcall⟩
  · exact ⟨v, w', hq, .one (step_value ho hw hd (h.trans e))⟩
  · obtain ⟨e0, w', fr, ⟨v, rfl, hq⟩, hcomes, hfn, hleave⟩ := hcall (b.atR a (.inRegion ops (i :: rest) :: k) :: cs)
    refine ⟨v, w', hq, .head (step_enter ho hw hd (h.trans e)) (Steps.trans hcomes (.one ?_))⟩
    rw [← hfinish i rest ho]
    exact step_leave_returned hleave
theorem steps_round {i : Nat} {rest : List Nat} {o : Oper} (ho : ops[i]? = some o) (hw : Region.wanted o (yielded ops a.tmps) = true) (hd : ∀ c, o.op ≠ .defer c) {l : Nat} {args : Array Value} {Q : Value → World → Prop}
    (h : (execOp a.eval o).run P w = (Instr.yield l args).run P w) (hc : RoundTo P l args w Q) : ∃ v w', Q v w' ∧ Steps P (lone (b.atR a (.inRegion ops (i :: rest) :: k)) cs w) (lone (b.atR (a.put o.dst v) (.inRegion ops rest :: k)) cs w') := by
  obtain ⟨f, tmps, x, y, e, hr⟩ := hc
  obtain ⟨v, w', hq, hs⟩ := hr (b.atR a (.inRegion ops (i :: rest) :: k)) cs
  refine ⟨v, w', hq, .head (step_round ho hw hd (h.trans e)) ?_⟩
  rw [← hfinish i rest ho]
  exact hs
end

section
variable {P : Program} {ρ : Ren} {K : Nat} {tmps : List Value} {a : Act} {ops : Array Oper}
theorem rel_put (h : TRel ρ K tmps a.tmps) (d : Option Tmp) {v v' : Value} (hv : VRel ρ K v v') : TRel ρ K (putT tmps d v) (a.put d v').tmps := by
  cases d with
  | none => exact h
  | some d =>
    show LRel ρ K (tmps.set d v) (a.tmps.setIfInBounds d v').toList
    rw [Array.toList_setIfInBounds]
    exact h.set hv d
theorem rel_yielded (h : TRel ρ K tmps a.tmps) : yielded ops a.tmps = yieldedA ops tmps := by
  funext j
  unfold yielded yieldedA
  cases hj : (ops[j]?).bind (·.dst) with
  | none => rfl
  | some d =>
    simp only [Option.bind_some]
    cases hd : tmps[d]? with
    | none =>
      have : a.tmps[d]? = none := by
        have hl := h.length
        rw [List.getElem?_eq_none_iff] at hd
        simp only [Array.length_toList] at hl
        rw [Array.getElem?_eq_none_iff]; omega
      rw [this]
    | some v =>
      obtain ⟨v', e, hv⟩ := h.get hd
      have e' : a.tmps[d]? = some v' := by simpa using e
      rw [e']
      cases hv <;> rfl
end

/-- How code is left: where the machine stands. -/
def Arr (P : Program) (m : Machine) (b : Frame) (k : List Item) (cs : List Frame) : ExitA → Act → World → Prop
  | .normal, a, w => Steps P m (lone (b.atR a k) cs w)
  | .exit id, a, w => ∃ k1, exitTo id k1 = exitTo id k ∧ Steps P m (lone (b.atR a (.code (.exit id) :: k1)) cs w)
  | .ret, a, w => ∃ k1, Steps P m (lone (b.atR a (.code .ret :: k1)) cs w)
  | .goto _, _, _ => False
theorem Arr.of_steps {P : Program} {m m1 : Machine} {b : Frame} {k : List Item} {cs : List Frame} {e : ExitA} {a : Act} {w : World} (h : Steps P m m1) (h' : Arr P m1 b k cs e a w) : Arr P m b k cs e a w := by
  cases e with
  | normal => exact h.trans h'
  | exit id => obtain ⟨k1, e1, e2⟩ := h'; exact ⟨k1, e1, h.trans e2⟩
  | ret => obtain ⟨k1, e2⟩ := h'; exact ⟨k1, h.trans e2⟩
  | goto l => exact h'.elim
theorem Arr.past {P : Program} {m : Machine} {b : Frame} {x : Item} {k : List Item} {cs : List Frame} {e : ExitA} {a : Act} {w : World} (he : e ≠ .normal) (hx : ∀ id, exitTo id (x :: k) = exitTo id k) (h : Arr P m b (x :: k) cs e a w) : Arr P m b k cs e a w := by
  cases e with
  | normal => exact absurd rfl he
  | exit id => obtain ⟨k1, e1, e2⟩ := h; exact ⟨k1, e1.trans (hx id), e2⟩
  | ret => exact h
  | goto l => exact h
inductive DRel (ρ : Ren) (K : Nat) : List Nat → List Deferred → Prop
  | nil : DRel ρ K [] []
  | cons {d r : Nat} {ds : List Nat} {l : List Deferred} (h : d < K) (h1 : ∀ I, ρ d = some I → r = I.b) (h2 : DRel ρ K ds l) : DRel ρ K (d :: ds) ({ target := .collected r, args := #[] } :: l)
theorem DRel.mono {ρ ρ' : Ren} {K K' : Nat} (hx : Ext ρ K ρ' K') {ds : List Nat} {l : List Deferred} (h : DRel ρ K ds l) : DRel ρ' K' ds l := by
  induction h with
  | nil => exact .nil
  | cons h h1 _ ih => exact .cons (Nat.lt_of_lt_of_le h hx.1) (fun I e => h1 I (hx.some h e)) ih
end
/- What the evaluator answers is what the program answers: code, calls, rounds. -/
section
open Go Go.RowKit
set_option linter.unusedVariables false
set_option linter.unusedSimpArgs false

/-- No function with a text bears the one name that the machine treats apart. -/
def plainNames (P : Program) : Bool := P.funcs.toList.all fun fn => fn.body.isNone || !(fn.name == "runtime.NumGoroutine")
/-- What stands for called functions answers as they do. -/
structure Gives.Sound (P : Program) (G : Gives) : Prop where
  sim : ∀ f g, G f = some g → ∀ ρ (a : AW) w args args' v a', WRel ρ a w → LRel ρ a.next args.toList args'.toList → g args a = some (v, a') →
    CallTo P f args' w fun v' w' => ∃ ρ', Step ρ a.next w ρ' a' w' ∧ VRel ρ' a'.next v v'
  evo : ∀ f g, G f = some g → ∀ args (a : AW) v a', a.base ≤ a.next → g args a = some (v, a') → Evo a a'

section
variable (P : Program) (G : Gives)
def OpsAt (n : Nat) : Prop := ∀ fn ro ops l tmps (a : AW) tmps' a', opsA P G n fn ro ops l tmps a = some (tmps', a') → a.base ≤ a.next →
  Evo a a' ∧ ∀ ρ w (act : Act) (b : Frame) k cs, WRel ρ a w → TRel ρ a.next tmps act.tmps →
    ∃ ρ' act' w', Steps P (lone (b.atR act (.inRegion ops l :: k)) cs w) (lone (b.atR act' k) cs w') ∧ Step ρ a.next w ρ' a' w' ∧ TRel ρ' a'.next tmps' act'.tmps ∧ act'.defers = act.defers
def RegAt (n : Nat) : Prop := ∀ ops tmps (a : AW) tmps' a', planOk P ops = true → regA P G n ops (List.range ops.size) [] tmps { a with next := a.next + 1 } = some (tmps', a') → a.base ≤ a.next →
  Evo a a' ∧ ∀ ρ w (act : Act) (b : Frame) k cs t, WRel ρ a w → TRel ρ a.next tmps act.tmps →
    ∃ ρ' act' w', Steps P (lone (b.atR act (.inRegion ops (Region.linearise .any ops t) :: k)) cs w) (lone (b.atR act' k) cs w') ∧ Step ρ a.next w ρ' a' w' ∧ TRel ρ' a'.next tmps' act'.tmps ∧ act'.defers = act.defers
def CodeAt (n : Nat) : Prop := ∀ fn ro c tmps ds (a : AW) e tmps' ds' a', codeA P G n fn ro c tmps ds a = some (e, tmps', ds', a') → a.base ≤ a.next →
  Evo a a' ∧ ∀ ρ w (act : Act) (b : Frame) k cs, WRel ρ a w → TRel ρ a.next tmps act.tmps → DRel ρ a.next ds act.defers → b.fn = fn → (ro = none → b.roundOf = none) →
    ∃ ρ' act' w', Arr P (lone (b.atR act (.code c :: k)) cs w) b k cs e act' w' ∧ (∀ c0, c = .loop c0 → Arr P (lone (b.atR act (.code c0 :: .inLoop c0 :: k)) cs w) b k cs e act' w') ∧ Step ρ a.next w ρ' a' w' ∧ TRel ρ' a'.next tmps' act'.tmps ∧ DRel ρ' a'.next ds' act'.defers
def CallAt (n : Nat) : Prop := ∀ f args (a : AW) v a', callA P G n f args a = some (v, a') → a.base ≤ a.next →
  Evo a a' ∧ ∀ ρ w args', WRel ρ a w → LRel ρ a.next args.toList args'.toList → CallTo P f args' w fun v' w' => ∃ ρ', Step ρ a.next w ρ' a' w' ∧ VRel ρ' a'.next v v'
def RoundAt (n : Nat) : Prop := ∀ l args (a : AW) v a', roundA P G n l args a = some (v, a') → a.base ≤ a.next →
  Evo a a' ∧ ∀ ρ w l' args', WRel ρ a w → l < a.next → (∀ I, ρ l = some I → l' = I.b) → LRel ρ a.next args.toList args'.toList → RoundTo P l' args' w fun v' w' => ∃ ρ', Step ρ a.next w ρ' a' w' ∧ VRel ρ' a'.next v v'
end

section
variable {P : Program} {G : Gives}
theorem Evo.le {a a' : AW} (h : Evo a a') (hb : a.base ≤ a.next) : a'.base ≤ a'.next := by rw [h.base]; exact Nat.le_trans hb h.next
theorem ops_succ {n : Nat} (ho : OpsAt P G n) (hc : CallAt P G n) (hr : RoundAt P G n) : OpsAt P G (n + 1) := by
  intro fn ro ops l tmps a tmps' a' h hb
  unfold opsA at h
  cases l with
  | nil =>
    simp only [Option.some.injEq, Prod.mk.injEq] at h
    obtain ⟨rfl, rfl⟩ := h
    exact ⟨.refl _, fun ρ w act b k cs hw ht => ⟨ρ, act, w, .one stepR_region_end, .refl hw, ht, rfl⟩⟩
  | cons i rest =>
    simp only at h
    cases hop : ops[i]? with
    | none => rw [hop] at h; cases h
    | some o =>
      rw [hop] at h
      simp only at h
      by_cases hwant : Region.wanted o (yieldedA ops tmps) = true
      · rw [if_pos hwant] at h
        split at h
        · -- a value
          rename_i v a1 hopA
          have ev1 := evo_op hb hopA
          obtain ⟨ev2, sim2⟩ := ho _ _ _ _ _ _ _ _ h (ev1.le hb)
          refine ⟨ev1.trans ev2, fun ρ w act b k cs hw ht => ?_⟩
          have hwk := sim_op (P := P) (w := w) hw ht hopA
          cases hwk with
          | value hd =>
            obtain ⟨ρ1, w1, nx, hrun, st, hnx⟩ := hd
            have hy : Region.wanted o (yielded ops act.tmps) = true := by rw [rel_yielded ht]; exact hwant
            rcases hnx with ⟨v', rfl, hv⟩ | ⟨rfl, rfl⟩
            · obtain ⟨ρ', act', w', hs, st', ht', hd'⟩ := sim2 ρ1 w1 (act.put o.dst v') b k cs st.rel (rel_put (ht.mono st.ext) o.dst hv)
              exact ⟨ρ', act', w', .head (step_value hop hy (not_defer hopA) hrun) hs, st.trans st', ht', by rw [hd']; cases o.dst <;> rfl⟩
            · obtain ⟨ρ', act', w', hs, st', ht', hd'⟩ := sim2 ρ1 w1 (act.put o.dst undef) b k cs st.rel (rel_put (ht.mono st.ext) o.dst rel_undef)
              exact ⟨ρ', act', w', .head (step_skipped hop hy (not_defer hopA) hrun) hs, st.trans st', ht', by rw [hd']; cases o.dst <;> rfl⟩
        · -- a call
          rename_i f args a1 hopA
          have ev1 := evo_op hb hopA
          split at h
          · rename_i v a2 hcall
            obtain ⟨evc, simc⟩ := hc _ _ _ _ _ hcall (ev1.le hb)
            obtain ⟨ev2, sim2⟩ := ho _ _ _ _ _ _ _ _ h ((ev1.trans evc).le hb)
            refine ⟨(ev1.trans evc).trans ev2, fun ρ w act b k cs hw ht => ?_⟩
            have hwk := sim_op (P := P) (w := w) hw ht hopA
            cases hwk with
            | enter ha hrun =>
              have hy : Region.wanted o (yielded ops act.tmps) = true := by rw [rel_yielded ht]; exact hwant
              obtain ⟨v', w1, ⟨ρ1, st, hv⟩, hs1⟩ := steps_call (b := b) (k := k) (cs := cs) (rest := rest) hop hy (not_defer hopA) hrun (simc ρ w _ hw ha)
              obtain ⟨ρ', act', w', hs, st', ht', hd'⟩ := sim2 ρ1 w1 (act.put o.dst v') b k cs st.rel (rel_put (ht.mono st.ext) o.dst hv)
              exact ⟨ρ', act', w', hs1.trans hs, st.trans st', ht', by rw [hd']; cases o.dst <;> rfl⟩
          · cases h
        · -- a round
          rename_i l0 args a1 hopA
          have ev1 := evo_op hb hopA
          split at h
          · rename_i v a2 hcall
            obtain ⟨evc, simc⟩ := hr _ _ _ _ _ hcall (ev1.le hb)
            obtain ⟨ev2, sim2⟩ := ho _ _ _ _ _ _ _ _ h ((ev1.trans evc).le hb)
            refine ⟨(ev1.trans evc).trans ev2, fun ρ w act b k cs hw ht => ?_⟩
            have hwk := sim_op (P := P) (w := w) hw ht hopA
            cases hwk with
            | round hl hl' ha hrun =>
              have hy : Region.wanted o (yielded ops act.tmps) = true := by rw [rel_yielded ht]; exact hwant
              obtain ⟨v', w1, ⟨ρ1, st, hv⟩, hs1⟩ := steps_round (b := b) (k := k) (cs := cs) (rest := rest) hop hy (not_defer hopA) hrun (simc ρ w _ _ hw hl hl' ha)
              obtain ⟨ρ', act', w', hs, st', ht', hd'⟩ := sim2 ρ1 w1 (act.put o.dst v') b k cs st.rel (rel_put (ht.mono st.ext) o.dst hv)
              exact ⟨ρ', act', w', hs1.trans hs, st.trans st', ht', by rw [hd']; cases o.dst <;> rfl⟩
          · cases h
        · cases h
      · rw [if_neg hwant] at h
        obtain ⟨ev2, sim2⟩ := ho _ _ _ _ _ _ _ _ h hb
        refine ⟨ev2, fun ρ w act b k cs hw ht => ?_⟩
        obtain ⟨ρ', act', w', hs, st', ht', hd'⟩ := sim2 ρ w (act.put o.dst undef) b k cs hw (rel_put ht o.dst rel_undef)
        refine ⟨ρ', act', w', .head ?_ hs, st', ht', by rw [hd']; cases o.dst <;> rfl⟩
        have := stepR_op_skip (P := P) (b := b) (a := act) (k := k) (cs := cs) (w := w) (ops := ops) (i := i) (rest := rest) (by
          rw [hop, rel_yielded ht]; simpa using hwant)
        rw [hop] at this
        exact this

def resVal (t : Array Value) : ResultVar → Sem Value
  | .tmp x => Pure.pure (t.getD x undef)
  | .cell p ty => do loadVar ty (← asAddr (t.getD p undef))
theorem run_results {ρ : Ren} {a : AW} {w : World} (h : WRel ρ a w) {tmps : List Value} {t : Array Value} (ht : TRel ρ a.next tmps t) : ∀ {rs : List ResultVar} {vs : List Value}, resultsA P a tmps rs = some vs →
    ∃ vs', LRel ρ a.next vs vs' ∧ (rs.mapM (resVal t)).run P w = .ok vs' w
  | [], vs, e => by cases e; exact ⟨[], .nil, rfl⟩
  | .tmp x :: rs, vs, e => by
    simp only [resultsA] at e
    split at e
    · rename_i us hu
      cases e
      obtain ⟨vs', h1, h2⟩ := run_results h ht hu
      refine ⟨t.getD x undef :: vs', .cons ?_ h1, ?_⟩
      · have := rel_getD ht x
        simpa [Array.getD_eq_getD_getElem?, List.getD_eq_getElem?_getD] using this
      · simp only [List.mapM_cons, resVal, Sem.run_bind, Sem.run_pure, Result.andThen_ok, h2]
    · cases e
  | .cell d ty :: rs, vs, e => by
    simp only [resultsA] at e
    split at e
    · rename_i p hp
      split at e
      · rename_i v us hv hu
        cases e
        obtain ⟨vs', h1, h2⟩ := run_results h ht hu
        have hd : VRel ρ a.next (.pointer (some p)) (t.getD d undef) := by
          have := rel_getD ht d
          rw [hp] at this
          simpa [Array.getD_eq_getD_getElem?, List.getD_eq_getElem?_getD] using this
        generalize hx : t.getD d undef = x at hd
        cases hd with
        | ptr hK hs h1p =>
          obtain ⟨v', g1, g2⟩ := sim_loadVar (P := P) h h1p hv
          refine ⟨v' :: vs', .cons g2 h1, ?_⟩
          simp only [List.mapM_cons, resVal, Sem.run_bind, hx, asAddr, Sem.run_pure, Result.andThen_ok, g1, h2]
      · cases e
    · cases e
theorem rel_one {ρ : Ren} {K : Nat} {vs vs' : List Value} (h : LRel ρ K vs vs') : VRel ρ K (oneOf vs) (if h : vs'.toArray.size = 1 then vs'.toArray[0] else .tuple vs'.toArray) := by
  cases h with
  | nil => exact .tuple' .nil
  | cons hv hr => cases hr with
    | nil => exact hv
    | cons h2 hr =>
      rw [dif_neg (by simp)]
      exact .tuple' (.cons hv (.cons h2 hr))
theorem run_results_all {ρ : Ren} {a : AW} {w : World} (h : WRel ρ a w) {tmps : List Value} {t : Array Value} (ht : TRel ρ a.next tmps t) {fn : Func} {vs : List Value} (e : resultsA P a tmps fn.results.toList = some vs) :
    ∃ vs', LRel ρ a.next vs vs' ∧ (results fn t).run P w = .ok (if h : vs'.toArray.size = 1 then vs'.toArray[0] else .tuple vs'.toArray) w := by
  obtain ⟨vs', h1, h2⟩ := run_results (P := P) h ht e
  refine ⟨vs', h1, ?_⟩
  have hres : results fn t = (fn.results.mapM (resVal t) >>= fun vs => (Pure.pure (if h : vs.size = 1 then vs[0] else .tuple vs) : Sem Value)) := by
    unfold results
    congr 1
  rw [hres, Array.mapM_eq_mapM_toList]
  simp only [Sem.run_bind, Sem.run_map, h2, Result.andThen_ok, Sem.run_pure]
end
end
/- Code. -/
section
open Go Go.RowKit
set_option linter.unusedVariables false
set_option linter.unusedSimpArgs false

section
variable {P : Program} {G : Gives}
theorem names_enter (hn : plainNames P = true) {f : FuncId} {fn : Func} (hf : P.funcs[f]? = some fn) (hb : fn.body.isSome = true) (args : Array Value) (w : World) : (callFunc f args).run P w = .ok (.enter f args) w := by
  have hmem : fn ∈ P.funcs.toList := by
    have : P.funcs.toList[f]? = some fn := by simpa using hf
    exact List.mem_of_getElem? this
  have := List.all_eq_true.1 hn fn hmem
  have hne : (fn.name == "runtime.NumGoroutine") = false := by
    cases hfb : fn.body with
    | none => rw [hfb] at hb; cases hb
    | some c => rw [hfb] at this; simpa using this
  have hbn : fn.body.isNone = false := by cases hfb : fn.body with
    | none => rw [hfb] at hb; cases hb
    | some c => rfl
  unfold callFunc
  simp only [Sem.run_bind, run_program, Result.andThen_ok, hf, hne, Bool.false_eq_true, if_false, hbn, Sem.run_pure]
theorem extern_run {f : FuncId} {fn : Func} (hf : P.funcs[f]? = some fn) (hb : fn.body = none) {args : Array Value} {a a' : AW} {v : Value} (h : externA P fn args a = some (v, a')) (w : World) :
    args.toList.all flat = true ∧ a' = a ∧ flat v = true ∧ (callFunc f args).run P w = .ok (.value v) w := by
  unfold externA at h
  split at h
  · rename_i hc
    rw [Bool.and_eq_true, Bool.not_eq_true'] at hc
    split at h
    · rename_i e1 e2
      split at h
      · rename_i v0 hv
        cases h
        obtain ⟨g1, g2⟩ := run_prunF hv w
        refine ⟨hc.1, rfl, g2, ?_⟩
        unfold callFunc
        simp only [Sem.run_bind, run_program, Result.andThen_ok, hf, hc.2, Bool.false_eq_true, if_false, hb, Option.isNone_none, if_true, e1, e2]
        simp only [mark, Sem.run, Sem.run_bind, Sem.run_pure, Result.andThen_ok, g1]
      · cases h
    · cases h
  · cases h
theorem code_succ {n : Nat} (hm : P.follows .mixedOrders = true) (hn : plainNames P = true) (hcode : CodeAt P G n) (hops : OpsAt P G n) (hreg : RegAt P G n) (hcall : CallAt P G n) : CodeAt P G (n + 1) := by
  intro fn ro c tmps ds a e tmps' ds' a' h hb
  unfold codeA at h
  cases c with
  | skip =>
    cases h
    exact ⟨.refl _, fun ρ w act b k cs hw ht hd _ _ => ⟨ρ, act, w, .one stepR_skip, fun c0 h => (by cases h), .refl hw, ht, hd⟩⟩
  | label l =>
    cases h
    exact ⟨.refl _, fun ρ w act b k cs hw ht hd _ _ => ⟨ρ, act, w, .one stepR_label, fun c0 h => (by cases h), .refl hw, ht, hd⟩⟩
  | exit id =>
    cases h
    exact ⟨.refl _, fun ρ w act b k cs hw ht hd _ _ => ⟨ρ, act, w, ⟨k, rfl, .refl _ _⟩, fun c0 h => (by cases h), .refl hw, ht, hd⟩⟩
  | ret =>
    cases h
    exact ⟨.refl _, fun ρ w act b k cs hw ht hd _ _ => ⟨ρ, act, w, ⟨k, .refl _ _⟩, fun c0 h => (by cases h), .refl hw, ht, hd⟩⟩
  | seq x y =>
    simp only at h
    split at h
    · rename_i t1 d1 a1 hx
      obtain ⟨ev1, sim1⟩ := hcode _ _ _ _ _ _ _ _ _ _ hx hb
      obtain ⟨ev2, sim2⟩ := hcode _ _ _ _ _ _ _ _ _ _ h (ev1.le hb)
      refine ⟨ev1.trans ev2, fun ρ w act b k cs hw ht hd hfn hro => ?_⟩
      obtain ⟨ρ1, act1, w1, ar1, _, st1, ht1, hd1⟩ := sim1 ρ w act b (.code y :: k) cs hw ht hd hfn hro
      obtain ⟨ρ2, act2, w2, ar2, _, st2, ht2, hd2⟩ := sim2 ρ1 w1 act1 b k cs st1.rel ht1 hd1 hfn hro
      exact ⟨ρ2, act2, w2, .of_steps (.head stepR_seq ar1) ar2, fun c0 h => (by cases h), st1.trans st2, ht2, hd2⟩
    · rename_i hne
      obtain ⟨ev1, sim1⟩ := hcode _ _ _ _ _ _ _ _ _ _ h hb
      refine ⟨ev1, fun ρ w act b k cs hw ht hd hfn hro => ?_⟩
      obtain ⟨ρ1, act1, w1, ar1, _, st1, ht1, hd1⟩ := sim1 ρ w act b (.code y :: k) cs hw ht hd hfn hro
      have he : e ≠ .normal := fun he => by subst he; exact hne _ _ _ h
      exact ⟨ρ1, act1, w1, .of_steps (.one stepR_seq) (.past he (fun _ => rfl) ar1), fun c0 h => (by cases h), st1, ht1, hd1⟩
  | cond c x y =>
    simp only at h
    split at h
    · rename_i hc
      obtain ⟨ev1, sim1⟩ := hcode _ _ _ _ _ _ _ _ _ _ h hb
      refine ⟨ev1, fun ρ w act b k cs hw ht hd hfn hro => ?_⟩
      obtain ⟨ρ1, act1, w1, ar1, _, st1, ht1, hd1⟩ := sim1 ρ w act b k cs hw ht hd hfn hro
      have hv := rel_eval ht hc
      generalize hcv : act.eval c = cv at hv
      cases hv
      exact ⟨ρ1, act1, w1, .of_steps (.one (stepR_cond (t := true) hcv)) ar1, fun c0 h => (by cases h), st1, ht1, hd1⟩
    · rename_i hc
      obtain ⟨ev1, sim1⟩ := hcode _ _ _ _ _ _ _ _ _ _ h hb
      refine ⟨ev1, fun ρ w act b k cs hw ht hd hfn hro => ?_⟩
      obtain ⟨ρ1, act1, w1, ar1, _, st1, ht1, hd1⟩ := sim1 ρ w act b k cs hw ht hd hfn hro
      have hv := rel_eval ht hc
      generalize hcv : act.eval c = cv at hv
      cases hv
      exact ⟨ρ1, act1, w1, .of_steps (.one (stepR_cond (t := false) hcv)) ar1, fun c0 h => (by cases h), st1, ht1, hd1⟩
    · cases h
  | block id c =>
    simp only at h
    split at h
    · rename_i id' t1 d1 a1 hx
      obtain ⟨ev1, sim1⟩ := hcode _ _ _ _ _ _ _ _ _ _ hx hb
      split at h
      · rename_i hid
        subst hid
        cases h
        refine ⟨ev1, fun ρ w act b k cs hw ht hd hfn hro => ?_⟩
        obtain ⟨ρ1, act1, w1, ar1, _, st1, ht1, hd1⟩ := sim1 ρ w act b (.inBlock id' :: k) cs hw ht hd hfn hro
        obtain ⟨k1, hk1, hs1⟩ := ar1
        refine ⟨ρ1, act1, w1, .head stepR_block (hs1.trans (.one (stepR_exit ?_))), fun c0 h => (by cases h), st1, ht1, hd1⟩
        rw [hk1]; simp [exitTo]
      · rename_i hid
        cases h
        refine ⟨ev1, fun ρ w act b k cs hw ht hd hfn hro => ?_⟩
        obtain ⟨ρ1, act1, w1, ar1, _, st1, ht1, hd1⟩ := sim1 ρ w act b (.inBlock id :: k) cs hw ht hd hfn hro
        obtain ⟨k1, hk1, hs1⟩ := ar1
        refine ⟨ρ1, act1, w1, ⟨k1, ?_, .head stepR_block hs1⟩, fun c0 h => (by cases h), st1, ht1, hd1⟩
        rw [hk1]
        have : (id == id') = false := by simp; exact fun h => hid h.symm
        simp [exitTo, this]
    · rename_i hne
      obtain ⟨ev1, sim1⟩ := hcode _ _ _ _ _ _ _ _ _ _ h hb
      refine ⟨ev1, fun ρ w act b k cs hw ht hd hfn hro => ?_⟩
      obtain ⟨ρ1, act1, w1, ar1, _, st1, ht1, hd1⟩ := sim1 ρ w act b (.inBlock id :: k) cs hw ht hd hfn hro
      refine ⟨ρ1, act1, w1, ?_, fun c0 h => (by cases h), st1, ht1, hd1⟩
      cases e with
      | normal => exact .head stepR_block (ar1.trans (.one stepR_inBlock))
      | exit id' => exact absurd h (hne _ _ _ _)
      | ret => obtain ⟨k1, hs1⟩ := ar1; exact ⟨k1, .head stepR_block hs1⟩
      | goto l => exact ar1.elim
  | loop c =>
    simp only at h
    split at h
    · rename_i t1 d1 a1 hx
      obtain ⟨ev1, sim1⟩ := hcode _ _ _ _ _ _ _ _ _ _ hx hb
      obtain ⟨ev2, sim2⟩ := hcode _ _ _ _ _ _ _ _ _ _ h (ev1.le hb)
      refine ⟨ev1.trans ev2, fun ρ w act b k cs hw ht hd hfn hro => ?_⟩
      obtain ⟨ρ1, act1, w1, ar1, _, st1, ht1, hd1⟩ := sim1 ρ w act b (.inLoop c :: k) cs hw ht hd hfn hro
      obtain ⟨ρ2, act2, w2, _, ar2, st2, ht2, hd2⟩ := sim2 ρ1 w1 act1 b k cs st1.rel ht1 hd1 hfn hro
      have har : Arr P (lone (b.atR act (.code c :: .inLoop c :: k)) cs w) b k cs e act2 w2 := .of_steps (ar1.trans (.one stepR_inLoop)) (ar2 c rfl)
      exact ⟨ρ2, act2, w2, .of_steps (.one stepR_loop) har, fun c0 h => (by cases h; exact har), st1.trans st2, ht2, hd2⟩
    · rename_i hne
      obtain ⟨ev1, sim1⟩ := hcode _ _ _ _ _ _ _ _ _ _ h hb
      refine ⟨ev1, fun ρ w act b k cs hw ht hd hfn hro => ?_⟩
      obtain ⟨ρ1, act1, w1, ar1, _, st1, ht1, hd1⟩ := sim1 ρ w act b (.inLoop c :: k) cs hw ht hd hfn hro
      have he : e ≠ .normal := fun he => by subst he; exact hne _ _ _ h
      have har : Arr P (lone (b.atR act (.code c :: .inLoop c :: k)) cs w) b k cs e act1 w1 := .past he (fun _ => rfl) ar1
      exact ⟨ρ1, act1, w1, .of_steps (.one stepR_loop) har, fun c0 h => (by cases h; exact har), st1, ht1, hd1⟩
  | region id ops draw =>
    cases draw with
    | false =>
      simp only at h
      split at h
      · rename_i t1 a1 hx
        cases h
        obtain ⟨ev1, sim1⟩ := hops _ _ _ _ _ _ _ _ hx hb
        refine ⟨ev1, fun ρ w act b k cs hw ht hd hfn hro => ?_⟩
        obtain ⟨ρ1, act1, w1, hs, st1, ht1, hd1⟩ := sim1 ρ w act b k cs hw ht
        exact ⟨ρ1, act1, w1, .head stepR_region hs, fun c0 h => (by cases h), st1, ht1, by rw [hd1]; exact hd.mono st1.ext⟩
      · cases h
    | true =>
      simp only at h
      split at h
      · rename_i hplan
        split at h
        · rename_i t1 a1 hx
          cases h
          obtain ⟨ev1, sim1⟩ := hreg _ _ _ _ _ hplan hx hb
          refine ⟨ev1, fun ρ w act b k cs hw ht hd hfn hro => ?_⟩
          have st0 := step_drew hw (w' := { w with drawn := w.drawn + 1 }) rfl rfl rfl rfl
          obtain ⟨ρ1, act1, w1, hs, st1, ht1, hd1⟩ := sim1 ρ { w with drawn := w.drawn + 1 } act b k cs (w.tape w.drawn (.order b.fn id)) st0.rel ht
          refine ⟨ρ1, act1, w1, .head stepR_region_draw ?_, fun c0 h => (by cases h), st0.trans st1, ht1, by rw [hd1]; exact hd.mono st1.ext⟩
          simp only [Region.schedule, hm, Bool.true_or, if_true]
          exact hs
        · cases h
      · cases h
  | rangeFunc g ps assign body =>
    simp only at h
    split at h
    · rename_i f first captured hg
      split at h
      · cases h
      · rename_i hfb
        split at h
        · rename_i v0 a3 hcl
          have evn := (evo_new a (.obj (.deferred (some []))) hb).trans (evo_new (a.new (.obj (.deferred (some [])))) (.obj (.loop { state := .ready, pending := none, fn, tmps := tmps.toArray, params := ps, assign, body, defers := a.next })) (Nat.le_succ_of_le hb))
          obtain ⟨ev1, sim1⟩ := hcall _ _ _ _ _ hcl (evn.le hb)
          split at h
          · rename_i r hgl
            split at h
            · cases h
            · rename_i hbusy
              have evw := evo_write a3 (a.new (.obj (.deferred (some [])))).next (.obj (.loop { r with state := .exhausted }))
              have ev3 := (evn.trans ev1).trans evw
              -- what the machine does up to the end of the loop
              have main : ∀ ρ w (act : Act) (b : Frame) k cs, WRel ρ a w → TRel ρ a.next tmps act.tmps → DRel ρ a.next ds act.defers → b.fn = fn → b.roundOf = none →
                  ∃ ρ' defs w', Steps P (lone (b.atR act (.code (.rangeFunc g ps assign body) :: k)) cs w) (lone (b.atR { act with defers := defs } ((r.pending.map Item.code).toList ++ k)) cs w') ∧
                    Step ρ a.next w ρ' (a3.write (a.new (.obj (.deferred (some [])))).next (.obj (.loop { r with state := .exhausted }))) w' ∧ TRel ρ' (a3.write (a.new (.obj (.deferred (some [])))).next (.obj (.loop { r with state := .exhausted }))).next tmps act.tmps ∧
                    DRel ρ' (a3.write (a.new (.obj (.deferred (some [])))).next (.obj (.loop { r with state := .exhausted }))).next (a.next :: ds) defs := by
                intro ρ w act b k cs hw ht hd hfn hro
                have st1 := step_obj hw (o := .deferred (some [])) (o' := .deferred (some [])) .deferred (by simp)
                have st2 := step_obj st1.rel (o := .loop { state := .ready, pending := none, fn, tmps := tmps.toArray, params := ps, assign, body, defers := a.next })
                  (o' := .loop { state := .ready, pending := none, fn, tmps := act.tmps, params := ps, assign, body, defers := w.heap.size })
                  (.loop _ _ _ _ _ _ (by simpa using ((ht.mono st1.ext).mono (ext_new st1.rel _))) (by show a.next < a.next + 1 + 1; omega) (fun I eI => by
                    rw [upd_ne _ _ (by show a.next ≠ a.next + 1; omega), upd_self] at eI; cases eI; rfl)) (by simp)
                have hsz : ({ w with heap := w.heap.push (.deferred (some [])) } : World).heap.size = w.heap.size + 1 := by simp
                rw [hsz] at st2
                have st12 := st1.trans st2
                have hv := rel_eval ht hg
                obtain ⟨fn', f', c', eg, hfr, hf', hc'⟩ := func_inv hv
                cases hfr
                obtain ⟨fd, hfd, hbd⟩ : ∃ fd, P.funcs[f]? = some fd ∧ fd.body.isSome = true := by
                  cases hpi : P.funcs[f]? with
                  | none => rw [hpi] at hfb; simp at hfb
                  | some fd => rw [hpi] at hfb; exact ⟨fd, rfl, by cases hfd : fd.body.isSome with
                      | false => simp [hfd] at hfb
                      | true => rfl⟩
                have hyield : LRel (upd (upd ρ a.next (some ⟨w.heap.size, 0, 0, true, false⟩)) (a.next + 1) (some ⟨w.heap.size + 1, 0, 0, true, false⟩)) (a.next + 1 + 1) [.func (.yield (a.next + 1)) #[] #[]] [.func (.yield (w.heap.size + 1)) #[] #[]] :=
                  .one (.func (.yield (Nat.lt_succ_self _) (fun I eI => by rw [upd_self] at eI; cases eI; rfl)) rfl (fun i p => by simp at p) rfl (fun i p => by simp at p))
                have hargs : LRel (upd (upd ρ a.next (some ⟨w.heap.size, 0, 0, true, false⟩)) (a.next + 1) (some ⟨w.heap.size + 1, 0, 0, true, false⟩)) (a.next + 1 + 1)
                    (first ++ #[Value.func (.yield (a.next + 1)) #[] #[]] ++ captured).toList (f' ++ #[Value.func (.yield (w.heap.size + 1)) #[] #[]] ++ c').toList := by
                  simp only [Array.toList_append]
                  exact ((hf'.mono st12.ext).append hyield).append (hc'.mono st12.ext)
                have hct := sim1 _ _ _ st2.rel hargs
                have hent := names_enter hn hfd hbd (f' ++ #[Value.func (.yield (w.heap.size + 1)) #[] #[]] ++ c')
                rcases hct with ⟨v1, w1, e1, _⟩ | ⟨_, hcl2⟩
                · rw [hent] at e1; cases e1
                · have he : (Instr.enterLoop b.fn act.tmps ps assign body b.roundOf).run P w = .ok (w.heap.size + 1, [{ target := .collected w.heap.size, args := #[] }])
                      ((w.alloc (.deferred (some []))).alloc (.loop { state := .ready, pending := none, fn, tmps := act.tmps, params := ps, assign, body, defers := w.heap.size })) := by
                    rw [hro, hfn]; exact run_enterLoop_outer _ _ _ _ _
                  have hres : (resolve act.eval (rangeCall g (w.heap.size + 1)) 0).run P ((w.alloc (.deferred (some []))).alloc (.loop { state := .ready, pending := none, fn, tmps := act.tmps, params := ps, assign, body, defers := w.heap.size })) =
                      .ok { target := .fn (.func f) c', args := f' ++ #[Value.func (.yield (w.heap.size + 1)) #[] #[]] } ((w.alloc (.deferred (some []))).alloc (.loop { state := .ready, pending := none, fn, tmps := act.tmps, params := ps, assign, body, defers := w.heap.size })) := by
                    unfold resolve
                    simp only [rangeCall, eg, Deferred.ofValue, Sem.run_pure]
                    simp [Act.eval]
                  have hinv : (invoke (.fn (.func f) c') (f' ++ #[Value.func (.yield (w.heap.size + 1)) #[] #[]])).run P ((w.alloc (.deferred (some []))).alloc (.loop { state := .ready, pending := none, fn, tmps := act.tmps, params := ps, assign, body, defers := w.heap.size })) =
                      .ok (.enter f (f' ++ #[Value.func (.yield (w.heap.size + 1)) #[] #[]] ++ c')) ((w.alloc (.deferred (some []))).alloc (.loop { state := .ready, pending := none, fn, tmps := act.tmps, params := ps, assign, body, defers := w.heap.size })) := hent _
                  have s1 := stepR_rangeFunc (b := b) (a := act) (k := k) (cs := cs) he hres hinv
                  obtain ⟨e0, w3, fr, ⟨v3, rfl, ρ3, st3, hv3⟩, hcomes, hfn3, hleave⟩ := hcl2 (b.atR { act with defers := [{ target := .collected w.heap.size, args := #[] }] ++ act.defers } (.inRangeFunc (w.heap.size + 1) :: k) :: cs)
                  obtain ⟨I3, o3, j1, j2, j3, j4, j5⟩ := obj_rel st3.rel hgl
                  have hI3 : I3 = ⟨w.heap.size + 1, 0, 0, true, false⟩ := by
                    have hx := st3.ext.some (i := a.next + 1) (by show a.next + 1 < a.next + 1 + 1; omega) j1
                    have hx2 : upd (upd ρ a.next (some ⟨w.heap.size, 0, 0, true, false⟩)) (a.next + 1) (some ⟨w.heap.size + 1, 0, 0, true, false⟩) (a.next + 1) = some I3 := hx
                    rw [upd_self] at hx2; exact (Option.some.inj hx2).symm
                  subst hI3
                  obtain ⟨st', pd, fnr, tr, psr, xr, yr, dr⟩ := r
                  cases j3 with
                  | @loop _ _ _ _ t' _ _ _ _ d' hl hdK hd1 =>
                    have hbz : st' ≠ .busy := fun hh => hbusy (by simpa using hh)
                    have hend := run_endLoop (P := P) j2 hbz
                    obtain ⟨s2, st4⟩ := sim_setObj (P := P) st3.rel hgl j1 j2 j5 rfl (n := .loop ⟨.exhausted, pd, fnr, tr, psr, xr, yr, dr⟩) (n' := .loop ⟨.exhausted, pd, fnr, t', psr, xr, yr, d'⟩) (.loop _ _ _ _ _ _ hl hdK hd1) (by simp)
                    have hall := (st12.trans st3).trans st4
                    refine ⟨ρ3, [{ target := .collected w.heap.size, args := #[] }] ++ act.defers, _, .head s1 (hcomes.trans (.head ?_ (.one (stepR_endRangeFunc hend)))), hall, ht.mono hall.ext, ?_⟩
                    · rw [← finish_atR_inRangeFunc (w.heap.size + 1) v3]; exact step_leave_returned hleave
                    · refine .cons ?_ (fun I eI => ?_) (hd.mono hall.ext)
                      · exact Nat.lt_of_lt_of_le (show a.next < a.next + 1 + 1 by omega) st3.ext.1
                      · have hx := st3.ext.some (i := a.next) (by show a.next < a.next + 1 + 1; omega) eI
                        have hx2 : upd (upd ρ a.next (some ⟨w.heap.size, 0, 0, true, false⟩)) (a.next + 1) (some ⟨w.heap.size + 1, 0, 0, true, false⟩) a.next = some I := hx
                        rw [upd_ne _ _ (by omega), upd_self] at hx2
                        cases hx2; rfl
              split at h
              · rename_i hpd
                cases h
                refine ⟨ev3, fun ρ w act b k cs hw ht hd hfn hro => ?_⟩
                obtain ⟨ρ', defs, w', hs, st, ht', hd'⟩ := main ρ w act b k cs hw ht hd hfn (hro rfl)
                rw [hpd] at hs
                exact ⟨ρ', { act with defers := defs }, w', hs, fun c0 h => (by cases h), st, ht', hd'⟩
              · rename_i c0 hpd
                obtain ⟨ev4, sim4⟩ := hcode _ _ _ _ _ _ _ _ _ _ h (ev3.le hb)
                refine ⟨ev3.trans ev4, fun ρ w act b k cs hw ht hd hfn hro => ?_⟩
                obtain ⟨ρ', defs, w', hs, st, ht', hd'⟩ := main ρ w act b k cs hw ht hd hfn (hro rfl)
                rw [hpd] at hs
                obtain ⟨ρ2, act2, w2, ar2, _, st2, ht2, hd2⟩ := sim4 ρ' w' { act with defers := defs } b k cs st.rel ht' hd' hfn hro
                exact ⟨ρ2, act2, w2, .of_steps hs ar2, fun c0 h => (by cases h), st.trans st2, ht2, hd2⟩
          · cases h
        · cases h
    · cases h
  | scope c => cases h
  | goto l => cases h
  | refuse s => cases h
end
end
/- Calls and rounds. -/
section
open Go Go.RowKit
set_option linter.unusedVariables false
set_option linter.unusedSimpArgs false

section
variable {P : Program} {G : Gives}
theorem evo_unwind : ∀ {ds : List Nat} {a a' : AW}, unwindA ds a = some a' → Evo a a'
  | [], a, a', h => by cases h; exact .refl _
  | d :: ds, a, a', h => by
    simp only [unwindA] at h
    split at h
    · exact (evo_write _ _ _).trans (evo_unwind h)
    · cases h
/-- A frame on its way out takes the blocks of its loops' deferred calls. -/
theorem steps_unwind (cs : List Frame) : ∀ {ds : List Nat} {ρ : Ren} {a a' : AW} {w : World} {fr : Frame}, WRel ρ a w → DRel ρ a.next ds fr.defers → fr.mode = .returning → unwindA ds a = some a' →
    ∃ ρ' w', Steps P (lone fr cs w) (lone { fr with defers := [] } cs w') ∧ Step ρ a.next w ρ' a' w'
  | [], ρ, a, a', w, fr, hw, hd, hm, h => by
    cases h
    generalize hdf : fr.defers = df at hd
    cases hd
    refine ⟨ρ, w, ?_, .refl hw⟩
    rw [← hdf]
    exact .refl _ _
  | d :: ds, ρ, a, a', w, fr, hw, hd, hm, h => by
    simp only [unwindA] at h
    split at h
    · rename_i hg
      generalize hdf : fr.defers = df at hd
      cases hd with
      | @cons _ r _ l hK h1 h2 =>
        obtain ⟨I, o, j1, j2, j3, j4, j5⟩ := obj_rel hw hg
        cases j3
        obtain rfl := h1 I j1
        have htk := run_takeDeferred (P := P) j2
        obtain ⟨s2, st⟩ := sim_setObj (P := P) hw hg j1 j2 j5 j4 (n := .deferred none) (n' := .deferred none) .taken (by simp)
        have hs := step_collected (P := P) (fr := fr) (cs := cs) (by rw [hm]; simp) hdf rfl htk
        obtain ⟨ρ', w', hs', st'⟩ := steps_unwind (fr := { fr with defers := [] ++ l }) cs st.rel (by simpa using h2.mono st.ext) hm h
        exact ⟨ρ', w', .head hs hs', st.trans st'⟩
    · cases h
theorem call_succ {n : Nat} (hn : plainNames P = true) (hG : G.Sound P) (hcode : CodeAt P G n) : CallAt P G (n + 1) := by
  intro f args a v a' h hb
  unfold callA at h
  split at h
  · rename_i r hr
    cases h
    unfold given at hr
    split at hr
    · rename_i g hg
      exact ⟨hG.evo f g hg args a v a' hb hr, fun ρ w args' hw ha => hG.sim f g hg ρ a w args args' v a' hw ha hr⟩
    · cases hr
  · split at h
    · cases h
    · rename_i fn hf
      split at h
      · rename_i hc
        obtain ⟨_, rfl, _, _⟩ := extern_run hf hc h default
        refine ⟨.refl _, fun ρ w args' hw ha => ?_⟩
        obtain ⟨h1, _, h3, h4⟩ := extern_run hf hc h w
        have he : args' = args := by
          have := flats_eq h1 ha
          exact Array.toList_inj.1 this
        subst he
        exact .inl ⟨v, w, h4, ρ, .refl hw, flat_self h3⟩
      · rename_i c hc
        split at h
        · rename_i e tmps ds a1 hcd
          have hb1 : a.next ≤ a.next := Nat.le_refl _
          obtain ⟨ev1, sim1⟩ := hcode _ _ _ _ _ _ _ _ _ _ hcd (Nat.le_refl _)
          have fin : ∀ a2, unwindA ds a1 = some a2 → ∀ vs, resultsA P a2 tmps fn.results.toList = some vs → (e = .normal ∨ e = .ret) → oneOf (leaveA a vs a2).1 = v → (leaveA a vs a2).2 = a' →
              Evo a a' ∧ ∀ ρ w args', WRel ρ a w → LRel ρ a.next args.toList args'.toList → CallTo P f args' w fun v' w' => ∃ ρ', Step ρ a.next w ρ' a' w' ∧ VRel ρ' a'.next v v' := by
            intro a2 hu vs hvs he hv1 ha1
            have ev2 := ev1.trans (evo_unwind hu)
            refine ⟨?_, fun ρ w args' hw ha => ?_⟩
            · -- what is left alone
              rw [← ha1]
              have hnx : a.next ≤ a2.next := ev2.next
              have hgt : ∀ i, i < a.base → i ∉ a2.dirty → a2.get i = a.get i := fun i hi hni => ev2.get i (Nat.lt_of_lt_of_le hi hb) hni
              have soil : ∀ (l : List Nat), (∀ i ∈ a.dirty, i ∈ soilAll a.dirty a.base l) ∧ ∀ i ∈ l, i < a.base → i ∈ soilAll a.dirty a.base l := by
                intro l
                induction l with
                | nil => exact ⟨fun i h => h, fun i h => by cases h⟩
                | cons x l ih =>
                  have e0 : soilAll a.dirty a.base (x :: l) = if x < a.base then (if (soilAll a.dirty a.base l).contains x then soilAll a.dirty a.base l else x :: soilAll a.dirty a.base l) else soilAll a.dirty a.base l := rfl
                  rw [e0]
                  split
                  · split
                    · rename_i hcon
                      refine ⟨ih.1, fun i hi hib => ?_⟩
                      rcases List.mem_cons.1 hi with rfl | hi
                      · simpa using hcon
                      · exact ih.2 i hi hib
                    · refine ⟨fun i hi => .tail _ (ih.1 i hi), fun i hi hib => ?_⟩
                      rcases List.mem_cons.1 hi with rfl | hi
                      · exact .head _
                      · exact .tail _ (ih.2 i hi hib)
                  · rename_i hnlt
                    refine ⟨ih.1, fun i hi hib => ?_⟩
                    rcases List.mem_cons.1 hi with rfl | hi
                    · exact absurd hib hnlt
                    · exact ih.2 i hi hib
              unfold leaveA
              split
              · rename_i hd
                have hd' : a2.dirty = [] := by simpa using hd
                have hk : Evo a { next := a2.next, heap := a2.heap, base := a.base, dirty := a.dirty } := ⟨rfl, hnx, fun _ h => h, fun i hi hni => hgt i hi (by rw [hd']; simp)⟩
                split
                · exact .refl _
                · split
                  · exact evo_new _ _ hb
                  · exact hk
                · exact hk
              · exact ⟨rfl, hnx, (soil _).1, fun i hi hni => hgt i hi fun hh => hni ((soil _).2 i hh hi)⟩
            · -- what it comes to
              have hsz : args.size = args'.size := by simpa using ha.length
              refine .inr ⟨names_enter hn hf (by rw [hc]; rfl) args' w, fun cs => ?_⟩
              let b : Frame := { (default : Frame) with fn := f, kind := .normal }
              have henter : Frame.enter P f args' .normal = b.atR { tmps := args' ++ Array.replicate (fn.ntmps - args'.size) undef, defers := [] } [.code c] := by
                simp [Frame.enter, Frame.atR, hf, hc, b]
                rfl
              have htr : TRel ρ a.next (args.toList ++ List.replicate (fn.ntmps - args.size) undef) (args' ++ Array.replicate (fn.ntmps - args'.size) undef) := by
                show LRel ρ a.next _ _
                rw [Array.toList_append, Array.toList_replicate, hsz]
                exact ha.append (.replicate rel_undef _)
              obtain ⟨ρ1, act1, w1, ar1, _, st1, ht1, hd1⟩ := sim1 ρ w { tmps := args' ++ Array.replicate (fn.ntmps - args'.size) undef, defers := [] } b [] cs (same_mem hw rfl rfl) htr .nil rfl (fun _ => rfl)
              have hret : ∃ todo, Steps P (lone (Frame.enter P f args' .normal) cs w) (lone { b.atR act1 todo with mode := .returning } cs w1) := by
                rw [henter]
                rcases he with rfl | rfl
                · exact ⟨[], ar1.trans (.one (stepR_end rfl))⟩
                · obtain ⟨k1, hs1⟩ := ar1
                  exact ⟨_, hs1.trans (.one (stepR_ret rfl))⟩
              obtain ⟨todo, hs1⟩ := hret
              obtain ⟨ρ2, w2, hs2, st2⟩ := steps_unwind (P := P) cs (fr := { b.atR act1 todo with mode := .returning }) st1.rel hd1 rfl hu
              obtain ⟨vs', hl, hres⟩ := run_results_all (P := P) st2.rel (ht1.mono st2.ext) hvs
              have st12 := st1.trans st2
              obtain ⟨ρ3, st3, hl3⟩ := sim_leave (a := a) hw st12 hl ev2.base (fun i hi hni => ev2.get i hi hni)
              rw [ha1] at st3 hl3
              refine ⟨_, w2, _, ⟨_, rfl, ρ3, st3, hv1 ▸ rel_one hl3⟩, hs1.trans hs2, rfl, ?_⟩
              exact ⟨rfl, rfl, rfl, fn, hf, hres⟩
          have conv : ∀ {r : Option (Value × AW)}, (match unwindA ds a1 with
              | some a1 => match resultsA P a1 tmps fn.results.toList with
                | some vs => match leaveA a vs a1 with
                  | (vs, a2) => some (oneOf vs, a2)
                | none => none
              | none => none) = some (v, a') → ∃ a2, unwindA ds a1 = some a2 ∧ ∃ vs, resultsA P a2 tmps fn.results.toList = some vs ∧ oneOf (leaveA a vs a2).1 = v ∧ (leaveA a vs a2).2 = a' := by
            intro _ h
            split at h
            · rename_i a2 hu
              split at h
              · rename_i vs hvs
                simp only [Option.some.injEq, Prod.mk.injEq] at h
                exact ⟨a2, hu, vs, hvs, h.1, h.2⟩
              · cases h
            · cases h
          split at h
          · obtain ⟨a2, hu, vs, hvs, h1, h2⟩ := conv (r := none) h
            exact fin a2 hu vs hvs (.inl rfl) h1 h2
          · obtain ⟨a2, hu, vs, hvs, h1, h2⟩ := conv (r := none) h
            exact fin a2 hu vs hvs (.inr rfl) h1 h2
          · cases h
        · cases h

theorem rel_fold {ρ : Ren} {K : Nat} : ∀ (ps : List Tmp) (args args' : List Value) (t t' : List Value), LRel ρ K args args' → LRel ρ K t t' →
    LRel ρ K ((ps.zip args).foldl (fun t (x : Tmp × Value) => t.set x.1 x.2) t) ((ps.zip args').foldl (fun t (x : Tmp × Value) => t.set x.1 x.2) t')
  | [], _, _, t, t', _, ht => by simpa using ht
  | p :: ps, _, _, t, t', .nil, ht => by simpa using ht
  | p :: ps, _, _, t, t', .cons hv hr, ht => by
    simp only [List.zip_cons_cons, List.foldl_cons]
    exact rel_fold ps _ _ _ _ hr (ht.set hv p)
theorem fold_arr (ps : Array Tmp) (args : Array Value) (t : Array Value) :
    ((ps.zip args).foldl (fun t (x : Tmp × Value) => t.setIfInBounds x.1 x.2) t).toList = (ps.toList.zip args.toList).foldl (fun t (x : Tmp × Value) => t.set x.1 x.2) t.toList := by
  rw [← Array.foldl_toList, Array.toList_zip]
  generalize ps.toList.zip args.toList = l
  induction l generalizing t with
  | nil => rfl
  | cons x l ih => simp only [List.foldl_cons, ih, Array.toList_setIfInBounds]
theorem round_succ {n : Nat} (hcode : CodeAt P G n) : RoundAt P G (n + 1) := by
  intro l args a v a' h hb
  unfold roundA at h
  split at h
  · rename_i r hg
    split at h
    · rename_i hsz
      split at h
      · rename_i tmps a1 hx
        split at h
        · rename_i r1 hg1
          split at h
          · rename_i hst1
            split at h
            · rename_i e t2 d2 a2 hy
              split at h
              · rename_i r2 hg2
                cases h
                obtain ⟨ev1, sim1⟩ := hcode _ _ _ _ _ _ _ _ _ _ hx hb
                have evw := evo_write a1 l (.obj (.loop { r1 with state := .busy }))
                obtain ⟨ev2, sim2⟩ := hcode _ _ _ _ _ _ _ _ _ _ hy (evw.le (ev1.le hb))
                have evz := evo_write a2 l (.obj (.loop { r2 with state := if (jumpOf e).isNone then .ready else .done, pending := jumpOf e }))
                refine ⟨((ev1.trans evw).trans ev2).trans evz, fun ρ w l' args' hw hl hl' ha => ?_⟩
                obtain ⟨I, o, j1, j2, j3, j4, j5⟩ := obj_rel hw hg
                obtain rfl := hl' I j1
                obtain ⟨s0, p0, f0, t0, ps0, x0, y0, q0⟩ := r
                cases j3 with
                | @loop _ _ _ _ t' _ _ _ _ d' htr hdK hd1 =>
                  have hsz' : args'.size = ps0.size := by rw [← hsz]; simpa using ha.length.symm
                  have hyl := run_yield (P := P) j2 hsz'
                  refine ⟨_, _, _, _, hyl, fun c cs => ?_⟩
                  let b : Frame := { (default : Frame) with fn := f0, kind := .normal, roundOf := some I.b }
                  have henter : Frame.round I.b f0 ((ps0.zip args').foldl (fun tmps (x : Tmp × Value) => tmps.setIfInBounds x.1 x.2) t') x0 y0 .normal =
                      b.atR { tmps := (ps0.zip args').foldl (fun tmps (x : Tmp × Value) => tmps.setIfInBounds x.1 x.2) t', defers := [] } [.code x0, .beginRound, .code y0] := by
                    simp [Frame.round, Frame.atR, b]
                  have htrel : TRel ρ a.next ((ps0.toList.zip args.toList).foldl (fun t (x : Tmp × Value) => t.set x.1 x.2) t0.toList) ((ps0.zip args').foldl (fun tmps (x : Tmp × Value) => tmps.setIfInBounds x.1 x.2) t') := by
                    show LRel ρ a.next _ _
                    rw [fold_arr]
                    exact rel_fold _ _ _ _ _ ha htr
                  obtain ⟨ρ1, act1, w1, ar1, _, st1, ht1, hd1'⟩ := sim1 ρ w { tmps := (ps0.zip args').foldl (fun tmps (x : Tmp × Value) => tmps.setIfInBounds x.1 x.2) t', defers := [] } b [.beginRound, .code y0] (c :: cs) hw htrel .nil rfl (fun h => by cases h)
                  -- the record is ready: it is busy
                  obtain ⟨I1, o1, i1, i2, i3, i4, i5⟩ := obj_rel st1.rel hg1
                  have hI1 : I1 = I := by
                    have := st1.ext.some hl i1
                    rw [j1] at this; exact (Option.some.inj this).symm
                  subst hI1
                  obtain ⟨s1, p1, f1, t1, ps1, x1, y1, q1⟩ := r1
                  cases i3 with
                  | @loop _ _ _ _ t1' _ _ _ _ d1x htr1 hdK1 hdd1 =>
                    have hbr := run_beginRound (P := P) i2 hst1
                    obtain ⟨_, stw⟩ := sim_setObj (P := P) st1.rel hg1 i1 i2 i5 i4 (n := .loop ⟨.busy, p1, f1, t1, ps1, x1, y1, q1⟩) (n' := .loop ⟨.busy, p1, f1, t1', ps1, x1, y1, d1x⟩) (.loop _ _ _ _ _ _ htr1 hdK1 hdd1) (by simp)
                    obtain ⟨ρ2, act2, w2, ar2, _, st2, ht2, hd2'⟩ := sim2 ρ1 _ act1 b [] (c :: cs) stw.rel (ht1.mono stw.ext) (hd1'.mono stw.ext) rfl (fun h => by cases h)
                    have hst := (st1.trans stw).trans st2
                    -- the record is told how the round was left
                    obtain ⟨I2, o2, k1, k2, k3, k4, k5⟩ := obj_rel st2.rel hg2
                    have hI2 : I2 = I1 := by
                      have := hst.ext.some hl k1
                      rw [j1] at this; exact (Option.some.inj this).symm
                    subst hI2
                    obtain ⟨s2, p2, f2, t2, ps2, x2, y2, q2⟩ := r2
                    cases k3 with
                    | @loop _ _ _ _ t2' _ _ _ _ d2x htr2 hdK2 hdd2 =>
                      obtain ⟨_, stz⟩ := sim_setObj (P := P) st2.rel hg2 k1 k2 k5 k4 (n := .loop ⟨if (jumpOf e).isNone then .ready else .done, jumpOf e, f2, t2, ps2, x2, y2, q2⟩)
                        (n' := .loop ⟨if (jumpOf e).isNone then .ready else .done, jumpOf e, f2, t2', ps2, x2, y2, d2x⟩) (.loop _ _ _ _ _ _ htr2 hdK2 hdd2) (by simp)
                      have hend := run_endRound (P := P) (jumpOf e) k2
                      refine ⟨.bool (jumpOf e).isNone, _, ⟨ρ2, hst.trans stz, .bool _⟩, ?_⟩
                      have hhead : Steps P (lone (Frame.round I2.b f0 ((ps0.zip args').foldl (fun tmps (x : Tmp × Value) => tmps.setIfInBounds x.1 x.2) t') x0 y0 .normal) (c :: cs) w) (lone (b.atR act1 [.code y0]) (c :: cs) (w1.putObj I2.b (.loop ⟨.busy, p1, f1, t1', ps1, x1, y1, d1x⟩))) := by
                        rw [henter]
                        exact Steps.trans ar1 (.one (stepR_beginRound rfl hbr))
                      refine hhead.trans ?_
                      cases e with
                      | normal => exact Steps.trans ar2 (.one (stepR_round_end rfl rfl hend))
                      | ret => obtain ⟨kk, hs⟩ := ar2; exact hs.trans (.one (stepR_round_ret rfl rfl hend))
                      | exit id => obtain ⟨kk, hk, hs⟩ := ar2; exact hs.trans (.one (stepR_round_exit rfl rfl hk hend))
                      | goto g => exact ar2.elim
              · cases h
            · cases h
          · cases h
        · cases h
      · cases h
    · cases h
  · cases h
end
end
/- Regions whose order is open: one operation; two of them in either order. -/
section
open Go Go.RowKit
set_option linter.unusedVariables false
set_option linter.unusedSimpArgs false

theorem soil_all (dirty : List Nat) (base : Nat) : ∀ (l : List Nat), (∀ i ∈ dirty, i ∈ soilAll dirty base l) ∧ ∀ i ∈ l, i < base → i ∈ soilAll dirty base l := by
  intro l
  induction l with
  | nil => exact ⟨fun i h => h, fun i h => by cases h⟩
  | cons x l ih =>
    have e0 : soilAll dirty base (x :: l) = if x < base then (if (soilAll dirty base l).contains x then soilAll dirty base l else x :: soilAll dirty base l) else soilAll dirty base l := rfl
    rw [e0]
    split
    · split
      · rename_i hcon
        refine ⟨ih.1, fun i hi hib => ?_⟩
        rcases List.mem_cons.1 hi with rfl | hi
        · simpa using hcon
        · exact ih.2 i hi hib
      · refine ⟨fun i hi => .tail _ (ih.1 i hi), fun i hi hib => ?_⟩
        rcases List.mem_cons.1 hi with rfl | hi
        · exact .head _
        · exact .tail _ (ih.2 i hi hib)
    · rename_i hnlt
      refine ⟨ih.1, fun i hi hib => ?_⟩
      rcases List.mem_cons.1 hi with rfl | hi
      · exact absurd hib hnlt
      · exact ih.2 i hi hib

section
variable {P : Program} {G : Gives}
/-- What one operation of a region does to memory. -/
theorem stepO_work {m : Nat} (hc : CallAt P G m) (hr : RoundAt P G m) {o : Oper} {tmps : List Value} {a a' : AW} {nt : Note} {v : Value} (h : stepO P (callA P G m) (roundA P G m) o tmps a = some (nt, v, a')) (hb : a.base ≤ a.next) :
    Evo a a' ∧ ((heavy (kindO P o) = false ∧ a' = a) ∨ (heavy (kindO P o) = true ∧ ∃ d, nt = .work a.next d ∧ ∀ i, i < a.next → i ∉ d → a'.get i = a.get i)) := by
  unfold stepO at h
  split at h
  · rename_i hk
    obtain ⟨v0, e1, e2⟩ := Option.map_eq_some_iff.1 h
    cases e2
    exact ⟨.refl _, .inl ⟨by rw [hk]; rfl, rfl⟩⟩
  · rename_i hk
    split at h
    · split at h
      · cases h; exact ⟨.refl _, .inl ⟨by rw [hk]; rfl, rfl⟩⟩
      · cases h
    · cases h
  · rename_i hk
    obtain ⟨v0, e1, e2⟩ := Option.map_eq_some_iff.1 h
    cases e2
    refine ⟨evo_new _ _ hb, .inr ⟨by rw [hk]; rfl, [], rfl, fun i hi _ => ?_⟩⟩
    have : i ≠ a.next := by omega
    simp only [AW.get, AW.new, look, if_neg this]
  · rename_i hk
    split at h
    · cases h
    · rename_i x a0 hw
      obtain ⟨⟨v1, a1⟩, e1, e2⟩ := Option.map_eq_some_iff.1 h
      cases e2
      have ev0 := evo_work (a := { a with base := a.next, dirty := [] }) (Nat.le_refl _) hw
      have ev : Evo { a with base := a.next, dirty := [] } a1 := by
        cases x with
        | value v => cases e1; exact ev0
        | enter f args => exact ev0.trans (hc _ _ _ _ _ e1 (ev0.le (Nat.le_refl _))).1
        | round l args => exact ev0.trans (hr _ _ _ _ _ e1 (ev0.le (Nat.le_refl _))).1
      refine ⟨⟨rfl, ev.next, (soil_all _ _ _).1, fun i hi hni => ?_⟩, .inr ⟨by rw [hk]; rfl, a1.dirty, rfl, fun i hi hni => ev.get i hi hni⟩⟩
      exact ev.get i (Nat.lt_of_lt_of_le hi hb) fun hh => hni ((soil_all _ _ _).2 i hh hi)

/-! ### temporaries -/
theorem evals_congr {t t' : List Value} : ∀ {l : List Operand}, (∀ x ∈ l, evalA t x = evalA t' x) → evals t l = evals t' l
  | [], _ => rfl
  | x :: l, h => by
    have e1 := h x (List.mem_cons_self ..)
    have e2 := evals_congr (t := t) (t' := t') (l := l) (fun y hy => h y (List.mem_cons_of_mem _ hy))
    simp only [evals, e1, e2]
theorem evalO_congr {t t' : List Value} {x : Option Operand} (h : ∀ y ∈ x.toArray, evalA t y = evalA t' y) : evalO t x = evalO t' x := by
  cases x with
  | none => rfl
  | some x => simp only [evalO, h x (by simp)]
theorem parts_congr {t t' : List Value} : ∀ {l : List (Nat × Operand)}, (∀ x ∈ l.map (·.2), evalA t x = evalA t' x) → partsA t l = partsA t' l
  | [], _ => rfl
  | (i, x) :: l, h => by simp only [partsA, h x (by simp), parts_congr (fun y hy => h y (by simp at hy ⊢; exact .inr hy))]
theorem pure_congr {t t' : List Value} {o : Oper} (h : ∀ x ∈ o.op.operands, evalA t x = evalA t' x) : pureA P t o = pureA P t' o := by
  obtain ⟨dst, op, type, pos, after, guard⟩ := o
  cases op <;> simp only [Op.operands] at h <;> simp only [pureA]
  case move x => exact h x (by simp)
  case assign x => exact h x (by simp)
  case pick c x y => rw [h c (by simp), h x (by simp), h y (by simp)]
  case build ty ps => rw [parts_congr (fun x hx => h x (by simpa using hx))]
  case nilCheck x => rw [h x (by simp)]
  case binOp op ty x y yt => rw [h x (by simp), h y (by simp)]
  case unOp op ty x => rw [h x (by simp)]
  case convert s d x => rw [h x (by simp)]
  case makeInterface ty x => rw [h x (by simp)]
  case makeFunc fn f c => cases fn <;> simp only <;> rw [evals_congr (fun x hx => h x (by simp at hx ⊢; exact .inl hx)), evals_congr (fun x hx => h x (by simp at hx ⊢; exact .inr hx))]
  case slice ty x l hi m =>
    rw [h x (by simp), evalO_congr (fun y hy => h y (by simp at hy ⊢; simp [hy])), evalO_congr (fun y hy => h y (by simp at hy ⊢; simp [hy])), evalO_congr (fun y hy => h y (by simp at hy ⊢; simp [hy]))]
  case fieldAddr s x f => rw [h x (by simp)]
  case field s x f => rw [h x (by simp)]
  case indexAddr ty x i => rw [h x (by simp), h i (by simp)]
  case index ty x i => rw [h x (by simp), h i (by simp)]
  case extract x i => rw [h x (by simp)]
  case call c => rw [evals_congr (fun x hx => h x (by simp [Call.operands] at hx ⊢; exact .inr hx))]
theorem read_congr {t t' : List Value} {o : Oper} (h : ∀ x ∈ o.op.operands, evalA t x = evalA t' x) (a : AW) : readA P t o a = readA P t' o a := by
  obtain ⟨dst, op, type, pos, after, guard⟩ := o
  cases op <;> simp only [Op.operands] at h <;> simp only [readA]
  case load ty x => rw [h x (by simp)]
  case convert s d x => rw [h x (by simp)]
  case lookup ty x k ok => rw [h x (by simp), h k (by simp)]
  case call c => rw [evals_congr (fun x hx => h x (by simp [Call.operands] at hx ⊢; exact .inr hx))]
theorem make_congr {t t' : List Value} {o : Oper} (h : ∀ x ∈ o.op.operands, evalA t x = evalA t' x) : makeA P t o = makeA P t' o := by
  obtain ⟨dst, op, type, pos, after, guard⟩ := o
  cases op <;> simp only [Op.operands] at h <;> simp only [makeA]
  case box ty x => rw [h x (by simp)]
  case buildSlice ty n ps => rw [parts_congr (fun x hx => h x (by simpa using hx))]
  case convert s d x => rw [h x (by simp)]
  case makeMap ty r => cases r <;> rfl
  case makeSlice ty l c => rw [h l (by simp), h c (by simp)]
theorem work_congr {t t' : List Value} {o : Oper} (h : ∀ x ∈ o.op.operands, evalA t x = evalA t' x) (a : AW) : workA P t o a = workA P t' o a := by
  obtain ⟨dst, op, type, pos, after, guard⟩ := o
  cases op <;> simp only [Op.operands] at h <;> simp only [workA]
  case insert ty m k y => rw [h m (by simp), h k (by simp), h y (by simp)]
  case store ty x y => rw [h x (by simp), h y (by simp)]
  case mapUpdate ty m k y => rw [h m (by simp), h k (by simp), h y (by simp)]
  case range ty x => rw [h x (by simp)]
  case next x s => rw [h x (by simp)]
  case call c =>
    rw [evals_congr (fun x hx => h x (by simp [Call.operands] at hx ⊢; exact .inr hx))]
    cases hc : c.callee with
    | value f => simp only []; rw [h f (by simp [Call.operands, hc])]
    | invoke r s => rfl
    | builtin b => rfl
theorem stepO_congr {call : FuncId → Array Value → AW → Option (Value × AW)} {round : Nat → Array Value → AW → Option (Value × AW)} {t t' : List Value} {o : Oper} (h : ∀ x ∈ o.op.operands, evalA t x = evalA t' x) (a : AW) :
    stepO P call round o t a = stepO P call round o t' a := by
  unfold stepO
  rw [pure_congr h, read_congr h, make_congr h, work_congr h]
theorem eval_put {t : List Value} {d : Option Tmp} {v : Value} {x : Operand} (h : ∀ e, d = some e → x ≠ .tmp e) : evalA (putT t d v) x = evalA t x := by
  cases d with
  | none => rfl
  | some e =>
    cases x with
    | tmp s =>
      have hne : e ≠ s := fun hh => h e rfl (hh ▸ rfl)
      simp [evalA, putT, List.getD_eq_getElem?_getD, List.getElem?_set_ne hne]
    | _ => rfl
theorem put_comm (t : List Value) {x y : Option Tmp} (v u : Value) (h : ∀ d, x = some d → y ≠ some d) : putT (putT t x v) y u = putT (putT t y u) x v := by
  cases x with
  | none => rfl
  | some d => cases y with
    | none => rfl
    | some e =>
      have hne : d ≠ e := fun hh => h d rfl (hh ▸ rfl)
      simp [putT, List.set_comm _ _ hne]
/-- A read sees one block alone. -/
theorem readA_at {t : List Value} {o : Oper} {a a' : AW} {r : Nat × Value} (h : readA P t o a = some r) (hg : a'.get r.1 = a.get r.1) : readA P t o a' = some r := by
  obtain ⟨dst, op, type, pos, after, guard⟩ := o
  have hload : ∀ (p : Addr) n, a'.get p.block = a.get p.block → a'.loadN p n = a.loadN p n := by
    intro p n hh; unfold AW.loadN; rw [hh]
  cases op <;> simp only [readA] at h ⊢ <;> first
    | (cases h; done)
    | skip
  case load ty x =>
    split at h
    · rename_i p hx
      obtain ⟨v0, e1, rfl⟩ := Option.map_eq_some_iff.1 h
      have : loadVarA P ty p a' = loadVarA P ty p a := by
        unfold loadVarA; simp only [hload p _ hg]
      simp only [this, e1, Option.map_some]
    · cases h
  case convert s d x =>
    split at h
    · cases h; rfl
    · rename_i p n c hx
      split at h
      · rename_i cs hcs
        split at h
        · rename_i bs hbs
          cases h
          simp only [hload p _ hg, hcs, hbs]
        · cases h
      · cases h
    · cases h
  case lookup ty m k ok =>
    split at h
    · rename_i r0 u hm hk
      obtain ⟨v0, e1, rfl⟩ := Option.map_eq_some_iff.1 h
      have hmo : mapOf (.map r0) a' = mapOf (.map r0) a := by
        cases r0 with
        | none => rfl
        | some r1 => simp only [mapOf]; rw [show a'.get r1 = a.get r1 from hg]
      have : lookupA P ty (.map r0) u ok a' = lookupA P ty (.map r0) u ok a := by
        unfold lookupA; rw [hmo]
      simp only [this, e1, Option.map_some]
    · cases h
  case call c =>
    split at h
    · rename_i r0 hb ha
      obtain ⟨v0, e1, rfl⟩ := Option.map_eq_some_iff.1 h
      have hmo : mapOf (.map r0) a' = mapOf (.map r0) a := by
        cases r0 with
        | none => rfl
        | some r1 => simp only [mapOf]; rw [show a'.get r1 = a.get r1 from hg]
      simp only [hmo, e1, Option.map_some]
    · cases h
end
end
/- Regions whose order is open: whatever order is drawn, the answer is the same. -/
section
open Go Go.RowKit
set_option linter.unusedVariables false
set_option linter.unusedSimpArgs false

section
variable {P : Program} {G : Gives}
/-- Two operations may change places. -/
theorem swap_two {mx my : Nat} (hcx : CallAt P G mx) (hrx : RoundAt P G mx) (hcy : CallAt P G my) (hry : RoundAt P G my) {ops : Array Oper} {x y : Nat} {ox oy : Oper} (hox : ops[x]? = some ox) (hoy : ops[y]? = some oy)
    (hap : ox.apart ops oy = true) (hap' : oy.apart ops ox = true) (hhv : (heavy (kindO P ox) && heavy (kindO P oy)) = false) {t t1 t2 : List Value} {a a1 a2 : AW} {nx ny : Note} (hb : a.base ≤ a.next)
    (h1 : stepR P (callA P G mx) (roundA P G mx) ops x t a = some (nx, t1, a1)) (h2 : stepR P (callA P G my) (roundA P G my) ops y t1 a1 = some (ny, t2, a2)) (hcl : clash nx ny = false) :
    ∃ t1' a1', stepR P (callA P G my) (roundA P G my) ops y t a = some (ny, t1', a1') ∧ stepR P (callA P G mx) (roundA P G mx) ops x t1' a1' = some (nx, t2, a2) := by
  obtain ⟨p1, p2, p3⟩ := Oper.apart_spec hap
  -- what one looks at the other does not put
  have eval_x : ∀ (t : List Value) v, ∀ z ∈ ox.op.operands, evalA (putT t oy.dst v) z = evalA t z := by
    intro t v z hz
    refine eval_put fun e he hze => p3 e he ?_
    subst hze
    unfold Oper.looksAt
    exact List.mem_append_left _ (List.mem_filterMap.2 ⟨.tmp e, by simpa using hz, rfl⟩)
  have eval_y : ∀ (t : List Value) v, ∀ z ∈ oy.op.operands, evalA (putT t ox.dst v) z = evalA t z := by
    intro t v z hz
    refine eval_put fun e he hze => p1 e he ?_
    subst hze
    unfold Oper.looksAt
    exact List.mem_append_left _ (List.mem_filterMap.2 ⟨.tmp e, by simpa using hz, rfl⟩)
  have want_of : ∀ (o : Oper) (d : Option Tmp), (∀ e, d = some e → e ∉ o.looksAt ops) → ∀ (t : List Value) v, Region.wanted o (yieldedA ops (putT t d v)) = Region.wanted o (yieldedA ops t) := by
    intro o d hd t v
    unfold Region.wanted
    cases hg : o.guard with
    | none => rfl
    | some g =>
      obtain ⟨j, b⟩ := g
      simp only []
      have : yieldedA ops (putT t d v) j = yieldedA ops t j := by
        unfold yieldedA
        cases hj : (ops[j]?).bind (·.dst) with
        | none => rfl
        | some e =>
          simp only [Option.bind_some]
          cases d with
          | none => rfl
          | some e' =>
            have hne : e' ≠ e := by
              intro hh
              subst hh
              refine hd e' rfl ?_
              unfold Oper.looksAt
              refine List.mem_append_right _ ?_
              rw [hg]
              simp [hj]
            simp [putT, List.getElem?_set_ne hne]
      rw [this]
  have want_x := want_of ox oy.dst p3
  have want_y := want_of oy ox.dst p1
  -- each one's own part
  have key : ∀ vx vy, (∀ (tt : List Value), putT (putT tt ox.dst vx) oy.dst vy = putT (putT tt oy.dst vy) ox.dst vx) := fun vx vy tt => put_comm tt vx vy p2
  unfold stepR at h1 h2 ⊢
  simp only [hox, hoy] at h1 h2 ⊢
  by_cases wx : Region.wanted ox (yieldedA ops t) = true
  · rw [if_pos wx] at h1
    obtain ⟨⟨n1, v1, b1⟩, e1, e2⟩ := Option.map_eq_some_iff.1 h1
    simp only [Prod.mk.injEq] at e2
    obtain ⟨rfl, rfl, rfl⟩ := e2
    rw [want_y] at h2
    by_cases wy : Region.wanted oy (yieldedA ops t) = true
    · rw [if_pos wy] at h2
      obtain ⟨⟨n2, v2, b2⟩, e3, e4⟩ := Option.map_eq_some_iff.1 h2
      simp only [Prod.mk.injEq] at e4
      obtain ⟨rfl, rfl, rfl⟩ := e4
      rw [stepO_congr (eval_y t v1)] at e3
      obtain ⟨evx, wkx⟩ := stepO_work hcx hrx e1 hb
      obtain ⟨evy, wky⟩ := stepO_work hcy hry e3 (evx.le hb)
      rcases wkx with ⟨lx, rfl⟩ | ⟨hx, dx, rfl, gx⟩
      · -- the first one writes nothing
        have e1' : stepO P (callA P G mx) (roundA P G mx) ox t b2 = some (n1, v1, b2) := by
          unfold stepO at e1 ⊢
          cases hk : kindO P ox with
          | make => rw [hk] at lx; cases lx
          | work => rw [hk] at lx; cases lx
          | pure =>
            rw [hk] at e1
            simp only at e1 ⊢
            obtain ⟨v0, q1, q2⟩ := Option.map_eq_some_iff.1 e1
            cases q2
            simp only [q1, Option.map_some]
          | read =>
            rw [hk] at e1
            simp only at e1 ⊢
            split at e1
            · rename_i r hr
              split at e1
              · rename_i hlt
                cases e1
                have hget : b2.get r.1 = b1.get r.1 := by
                  rcases wky with ⟨_, hh⟩ | ⟨_, dy, rfl, gy⟩
                  · rw [hh]
                  · refine gy r.1 hlt fun hin => ?_
                    simp [clash, hin] at hcl
                rw [readA_at hr hget]
                simp only
                rw [if_pos (Nat.lt_of_lt_of_le hlt evy.next)]
              · cases e1
            · cases e1
        refine ⟨putT t oy.dst v2, b2, ?_, ?_⟩
        · rw [if_pos wy, e3]; rfl
        · rw [want_x, if_pos wx, stepO_congr (eval_x t v2), e1']
          simp only [Option.map_some, key]
      · -- the second one writes nothing
        have ly : heavy (kindO P oy) = false := by rw [hx] at hhv; simpa using hhv
        rcases wky with ⟨_, hby⟩ | ⟨hy, _⟩
        · subst hby
          have e3' : stepO P (callA P G my) (roundA P G my) oy t a = some (n2, v2, a) := by
            unfold stepO at e3 ⊢
            cases hk : kindO P oy with
            | make => rw [hk] at ly; cases ly
            | work => rw [hk] at ly; cases ly
            | pure =>
              rw [hk] at e3
              simp only at e3 ⊢
              obtain ⟨v0, q1, q2⟩ := Option.map_eq_some_iff.1 e3
              cases q2
              simp only [q1, Option.map_some]
            | read =>
              rw [hk] at e3
              simp only at e3 ⊢
              split at e3
              · rename_i r hr
                split at e3
                · rename_i hlt
                  cases e3
                  simp only [clash, Bool.or_eq_false_iff, decide_eq_false_iff_not, Nat.not_le] at hcl
                  have hget : a.get r.1 = b2.get r.1 := (gx r.1 hcl.1 (by simpa using hcl.2)).symm
                  rw [readA_at hr hget]
                  simp only
                  rw [if_pos hcl.1]
                · cases e3
              · cases e3
          refine ⟨putT t oy.dst v2, a, ?_, ?_⟩
          · rw [if_pos wy, e3']; rfl
          · rw [want_x, if_pos wx, stepO_congr (eval_x t v2), e1]
            simp only [Option.map_some, key]
        · rw [hy] at ly; cases ly
    · rw [if_neg wy] at h2
      simp only [Option.some.injEq, Prod.mk.injEq] at h2
      obtain ⟨rfl, rfl, rfl⟩ := h2
      refine ⟨putT t oy.dst undef, a, ?_, ?_⟩
      · rw [if_neg wy]
      · rw [want_x, if_pos wx, stepO_congr (eval_x t undef), e1]
        simp only [Option.map_some, key]
  · rw [if_neg wx] at h1
    simp only [Option.some.injEq, Prod.mk.injEq] at h1
    obtain ⟨rfl, rfl, rfl⟩ := h1
    rw [want_y] at h2
    by_cases wy : Region.wanted oy (yieldedA ops t) = true
    · rw [if_pos wy] at h2
      obtain ⟨⟨n2, v2, b2⟩, e3, e4⟩ := Option.map_eq_some_iff.1 h2
      simp only [Prod.mk.injEq] at e4
      obtain ⟨rfl, rfl, rfl⟩ := e4
      rw [stepO_congr (eval_y t undef)] at e3
      refine ⟨putT t oy.dst v2, b2, ?_, ?_⟩
      · rw [if_pos wy, e3]; rfl
      · rw [want_x, if_neg wx]
        simp only [key]
    · rw [if_neg wy] at h2
      simp only [Option.some.injEq, Prod.mk.injEq] at h2
      obtain ⟨rfl, rfl, rfl⟩ := h2
      refine ⟨putT t oy.dst undef, a, ?_, ?_⟩
      · rw [if_neg wy]
      · rw [want_x, if_neg wx]
        simp only [key]
end
end
/- Regions whose order is open: the whole. -/
section
open Go Go.RowKit
set_option linter.unusedVariables false
set_option linter.unusedSimpArgs false

/-- One operation of a region: its place, the rounds that it is given, what it touches. -/
abbrev TOp := Nat × Nat × Note
section
variable (P : Program) (G : Gives) (ops : Array Oper)
inductive Tr : List TOp → List Value → AW → List Value → AW → Prop
  | nil (t : List Value) (a : AW) : Tr [] t a t a
  | cons {i m : Nat} {nt : Note} {l : List TOp} {t t1 t2 : List Value} {a a1 a2 : AW} (h : stepR P (callA P G m) (roundA P G m) ops i t a = some (nt, t1, a1)) (r : Tr l t1 a1 t2 a2) : Tr ((i, m, nt) :: l) t a t2 a2
end

section
variable {P : Program} {G : Gives} {ops : Array Oper}
/-- What is known of two operations that are not bound. -/
def Free (P : Program) (ops : Array Oper) (x y : TOp) : Prop :=
  ∃ ox oy, ops[x.1]? = some ox ∧ ops[y.1]? = some oy ∧ ox.apart ops oy = true ∧ oy.apart ops ox = true ∧ (heavy (kindO P ox) && heavy (kindO P oy)) = false ∧ clash x.2.2 y.2.2 = false
theorem stepR_evo {m : Nat} (hc : CallAt P G m) (hr : RoundAt P G m) {i : Nat} {t t1 : List Value} {a a1 : AW} {nt : Note} (h : stepR P (callA P G m) (roundA P G m) ops i t a = some (nt, t1, a1)) (hb : a.base ≤ a.next) : Evo a a1 := by
  unfold stepR at h
  split at h
  · cases h
  · split at h
    · obtain ⟨⟨n1, v1, b1⟩, e1, e2⟩ := Option.map_eq_some_iff.1 h
      cases e2
      exact (stepO_work hc hr e1 hb).1
    · cases h; exact .refl _
theorem Tr.evo {N : Nat} (hc : ∀ m, m ≤ N → CallAt P G m ∧ RoundAt P G m) {l : List TOp} {t t2 : List Value} {a a2 : AW} (h : Tr P G ops l t a t2 a2) : (∀ x ∈ l, x.2.1 ≤ N) → a.base ≤ a.next → Evo a a2 := by
  induction h with
  | nil => intro _ _; exact .refl _
  | @cons i m nt l t t1 t2 a a1 a2 h r ih =>
    intro hl hb
    have hm := hc m (hl (i, m, nt) (by simp))
    have ev := stepR_evo hm.1 hm.2 h hb
    exact ev.trans (ih (fun x hx => hl x (by simp [hx])) (ev.le hb))
/-- An operation that is bound to none ahead of it may come first. -/
theorem Tr.first {N : Nat} (hc : ∀ m, m ≤ N → CallAt P G m ∧ RoundAt P G m) {y : TOp} (hy : y.2.1 ≤ N) {v : List TOp} : ∀ {u : List TOp} {t t2 : List Value} {a a2 : AW}, (∀ x ∈ u, x.2.1 ≤ N ∧ Free P ops x y) → a.base ≤ a.next →
    Tr P G ops (u ++ y :: v) t a t2 a2 → Tr P G ops (y :: (u ++ v)) t a t2 a2
  | [], t, t2, a, a2, _, _, h => h
  | x :: u, t, t2, a, a2, hu, hb, h => by
    obtain ⟨i, m, nt⟩ := x
    cases h with
    | @cons _ _ _ _ _ t1 _ _ a1 _ h1 r =>
      obtain ⟨hm, ox, oy, q1, q2, q3, q4, q5, q6⟩ := hu (i, m, nt) (by simp)
      have cm := hc m hm
      have ev := stepR_evo cm.1 cm.2 h1 hb
      have r' := Tr.first hc hy (fun z hz => hu z (by simp [hz])) (ev.le hb) r
      obtain ⟨j, my, ny⟩ := y
      have cy := hc my hy
      cases r' with
      | @cons _ _ _ _ _ t3 _ _ a3 _ h2 r2 =>
        obtain ⟨t1', a1', g1, g2⟩ := swap_two cm.1 cm.2 cy.1 cy.2 q1 q2 q3 q4 q5 hb h1 h2 q6
        exact .cons g1 (.cons g2 r2)

/-! ### what is bound before what -/
/-- What is made late. -/
def Late (P : Program) (ops : Array Oper) (x y : Nat) (oy : Oper) : Prop :=
  kindO P oy = .make ∧ oy.guard = none ∧ (∀ d, oy.dst = some d → d ∉ oy.looksAt ops) ∧ ∀ z, z < ops.size → ((ancs ops).getD z 0).testBit y = true → ((ancs ops).getD z 0).testBit x = true
theorem late_of {x y : Nat} {oy : Oper} (h : lateOk P ops (ancs ops) x y oy = true) : Late P ops x y oy := by
  unfold lateOk at h
  simp only [Bool.and_eq_true, List.all_eq_true, List.mem_range, Bool.or_eq_true, Bool.not_eq_true', Option.isNone_iff_eq_none] at h
  obtain ⟨⟨⟨h1, h2⟩, h3⟩, h4⟩ := h
  refine ⟨?_, h2, fun d hd => ?_, fun z hz hy => ?_⟩
  · cases hk : kindO P oy <;> simp [hk] at h1 ⊢
  · rw [hd] at h3
    simpa using h3
  · rcases h4 z hz with hh | hh
    · rw [hy] at hh; cases hh
    · exact hh
structure Plan (P : Program) (ops : Array Oper) : Prop where
  edge : ∀ i o, ops[i]? = some o → ∀ e ∈ o.after.toList, Region.binds .any e = true → e.on < i
  anc : ∀ i o, ops[i]? = some o → ∀ x, ((ancs ops).getD i 0).testBit x = true → ∃ e ∈ o.after.toList, Region.binds .any e = true ∧ (e.on = x ∨ ((ancs ops).getD e.on 0).testBit x = true)
  anc' : ∀ i o, ops[i]? = some o → ∀ x, ∀ e ∈ o.after.toList, Region.binds .any e = true → (e.on = x ∨ ((ancs ops).getD e.on 0).testBit x = true) → ((ancs ops).getD i 0).testBit x = true
  free : ∀ x y, x < y → y < ops.size → unord (ancs ops) x y = true → ∃ ox oy, ops[x]? = some ox ∧ ops[y]? = some oy ∧ ox.apart ops oy = true ∧ oy.apart ops ox = true ∧ ((heavy (kindO P ox) && heavy (kindO P oy)) = false ∨ Late P ops x y oy)
theorem bit_fold (b : Array Nat) (x : Nat) : ∀ (l : List Edge) (s : Nat), (l.foldl (fun s e => if Region.binds .any e then s ||| 2 ^ e.on ||| b.getD e.on 0 else s) s).testBit x = true ↔
    s.testBit x = true ∨ ∃ e ∈ l, Region.binds .any e = true ∧ (e.on = x ∨ (b.getD e.on 0).testBit x = true) := by
  intro l
  induction l with
  | nil => intro s; simp
  | cons e l ih =>
    intro s
    rw [List.foldl_cons, ih]
    by_cases hb : Region.binds .any e = true
    · rw [if_pos hb]
      simp only [Nat.testBit_or, Nat.testBit_two_pow, Bool.or_eq_true, decide_eq_true_eq, List.mem_cons, exists_eq_or_imp, hb, true_and]
      constructor
      · rintro ((h | h) | h)
        · rcases h with h | h
          · exact .inl h
          · exact .inr (.inl (.inl h))
        · exact .inr (.inl (.inr h))
        · exact .inr (.inr h)
      · rintro (h | (h | h) | h)
        · exact .inl (.inl (.inl h))
        · exact .inl (.inl (.inr h))
        · exact .inl (.inr h)
        · exact .inr h
    · rw [if_neg hb]
      simp only [List.mem_cons, exists_eq_or_imp, hb, false_and, false_or, Bool.false_eq_true]
theorem plan_of (h : planOk P ops = true) : Plan P ops := by
  unfold planOk at h
  simp only [Bool.and_eq_true, List.all_eq_true, List.mem_range] at h
  obtain ⟨h1, h2⟩ := h
  have lt_of : ∀ i o, ops[i]? = some o → i < ops.size := fun i o e => (Array.getElem?_eq_some_iff.1 e).1
  have base : ∀ i o, ops[i]? = some o → (∀ e ∈ o.after.toList, Region.binds .any e = true → e.on < i) ∧ (ancs ops).getD i 0 = o.after.toList.foldl (fun s e => if Region.binds .any e then s ||| 2 ^ e.on ||| (ancs ops).getD e.on 0 else s) 0 := by
    intro i o e
    have := h1 i (lt_of i o e)
    rw [e] at this
    simp only [Bool.and_eq_true, List.all_eq_true, Bool.or_eq_true, Bool.not_eq_true', decide_eq_true_eq, beq_iff_eq] at this
    refine ⟨fun x hx hb => ?_, this.1.2⟩
    rcases this.1.1 x hx with hh | hh
    · rw [hb] at hh; cases hh
    · exact hh
  refine ⟨fun i o e => (base i o e).1, fun i o e x hx => ?_, fun i o e x ed he hb hor => ?_, fun x y hxy hy hu => ?_⟩
  · rw [(base i o e).2, bit_fold] at hx
    rcases hx with hx | hx
    · simp at hx
    · exact hx
  · rw [(base i o e).2, bit_fold]
    exact .inr ⟨ed, he, hb, hor⟩
  · have := h2 y hy x (by omega)
    rw [Bool.or_eq_true] at this
    rcases this with hh | hh
    · simp [hxy, hu] at hh
    · split at hh
      · rename_i ox oy e1 e2
        simp only [Bool.and_eq_true, Bool.or_eq_true, Bool.not_eq_true'] at hh
        exact ⟨ox, oy, e1, e2, hh.1.1, hh.1.2, hh.2.imp (fun q => q) late_of⟩
      · cases hh
theorem Plan.lt (hp : Plan P ops) : ∀ (n i : Nat), i ≤ n → ∀ o, ops[i]? = some o → ∀ x, ((ancs ops).getD i 0).testBit x = true → x < i := by
  intro n
  induction n with
  | zero =>
    intro i hi o e x hx
    obtain ⟨ed, he, hb, hor⟩ := hp.anc i o e x hx
    have := hp.edge i o e ed he hb
    omega
  | succ n ih =>
    intro i hi o e x hx
    obtain ⟨ed, he, hb, hor⟩ := hp.anc i o e x hx
    have hlt := hp.edge i o e ed he hb
    rcases hor with rfl | hor
    · exact hlt
    · have hs : ed.on < ops.size := Nat.lt_trans hlt (Array.getElem?_eq_some_iff.1 e).1
      have := ih ed.on (by omega) ops[ed.on] (by simp [hs]) x hor
      omega
end
end
/- Regions whose order is open: by the machine. All together. -/
section
open Go Go.RowKit
set_option linter.unusedVariables false
set_option linter.unusedSimpArgs false

section
variable {P : Program} {G : Gives} {ops : Array Oper}
theorem kind_defer {o : Oper} (h : kindO P o ≠ .work) : ∀ c, o.op ≠ .defer c := by
  intro c hc
  apply h
  unfold kindO; rw [hc]
theorem put_defers (a : Act) (d : Option Tmp) (v : Value) : (a.put d v).defers = a.defers := by cases d <;> rfl
/-- One operation of such a region, by the machine. -/
theorem step_sim {m : Nat} (hc : CallAt P G m) (hr : RoundAt P G m) {i : Nat} {t t1 : List Value} {a a1 : AW} {nt : Note} (h : stepR P (callA P G m) (roundA P G m) ops i t a = some (nt, t1, a1)) (hb : a.base ≤ a.next)
    {ρ : Ren} {w : World} {act : Act} (b : Frame) (k : List Item) (cs : List Frame) (rest : List Nat) (hw : WRel ρ a w) (ht : TRel ρ a.next t act.tmps) :
    ∃ ρ' v v' w', t1 = putT t ((ops[i]?).bind (·.dst)) v ∧ Steps P (lone (b.atR act (.inRegion ops (i :: rest) :: k)) cs w) (lone (b.atR (act.put ((ops[i]?).bind (·.dst)) v') (.inRegion ops rest :: k)) cs w') ∧ Step ρ a.next w ρ' a1 w' ∧ TRel ρ' a1.next t1 (act.put ((ops[i]?).bind (·.dst)) v').tmps := by
  unfold stepR at h
  split at h
  · cases h
  · rename_i o ho
    have hdst : (ops[i]?).bind (·.dst) = o.dst := by rw [ho]; rfl
    rw [hdst]
    split at h
    · rename_i hwant
      have hy : Region.wanted o (yielded ops act.tmps) = true := by rw [rel_yielded ht]; exact hwant
      obtain ⟨⟨n1, v1, b1⟩, e1, e2⟩ := Option.map_eq_some_iff.1 h
      simp only [Prod.mk.injEq] at e2
      obtain ⟨rfl, rfl, rfl⟩ := e2
      unfold stepO at e1
      split at e1
      · rename_i hk
        obtain ⟨v0, q1, q2⟩ := Option.map_eq_some_iff.1 e1
        cases q2
        obtain ⟨v', w', g1, gd, g2⟩ := sim_pure (P := P) ht hk q1 w
        exact ⟨ρ, _, v', w', rfl, .one (step_value ho hy (kind_defer (P := P) (by rw [hk]; simp)) g1), step_draw hw gd, rel_put ht _ g2⟩
      · rename_i hk
        split at e1
        · rename_i r hrd
          split at e1
          · cases e1
            obtain ⟨v', g1, g2⟩ := sim_read (P := P) hw ht hk hrd
            exact ⟨ρ, _, v', w, rfl, .one (step_value ho hy (kind_defer (P := P) (by rw [hk]; simp)) g1), .refl hw, rel_put ht _ g2⟩
          · cases e1
        · cases e1
      · rename_i hk
        obtain ⟨v0, q1, q2⟩ := Option.map_eq_some_iff.1 e1
        cases q2
        obtain ⟨w', v', g1, g2⟩ := sim_make (P := P) (w := w) ht hk q1
        obtain ⟨ρ', st, hv'⟩ := step_makes hw g2
        exact ⟨ρ', _, v', w', rfl, .one (step_value ho hy (kind_defer (P := P) (by rw [hk]; simp)) g1), st, rel_put (ht.mono st.ext) _ hv'⟩
      · rename_i hk
        split at e1
        · cases e1
        · rename_i x a0 hwk
          obtain ⟨⟨v2, a2⟩, q1, q2⟩ := Option.map_eq_some_iff.1 e1
          cases q2
          have hd : ∀ c, o.op ≠ .defer c := by
            intro c hc2
            simp only [workA, hc2] at hwk
            cases hwk
          have ev0 := evo_work (a := { a with base := a.next, dirty := [] }) (Nat.le_refl _) hwk
          have hw0 : WRel ρ { a with base := a.next, dirty := [] } w := same_mem hw rfl rfl
          have hws := sim_work (P := P) hw0 ht hwk
          cases hws with
          | value hdn =>
            cases q1
            obtain ⟨ρ1, w1, nx, hrun, st, hnx⟩ := hdn
            have st' : Step ρ a.next w ρ1 { next := a0.next, heap := a0.heap, base := a.base, dirty := soilAll a.dirty a.base a0.dirty } w1 := step_mem st rfl rfl
            rcases hnx with ⟨v', rfl, hv⟩ | ⟨rfl, rfl⟩
            · exact ⟨ρ1, _, v', w1, rfl, .one (step_value ho hy hd hrun), st', rel_put (ht.mono st.ext) _ hv⟩
            · exact ⟨ρ1, _, undef, w1, rfl, .one (step_skipped ho hy hd hrun), st', rel_put (ht.mono st.ext) _ rel_undef⟩
          | enter ha hrun =>
            obtain ⟨_, simc⟩ := hc _ _ _ _ _ q1 (ev0.le (Nat.le_refl _))
            obtain ⟨v', w1, ⟨ρ1, st, hv⟩, hs1⟩ := steps_call (b := b) (k := k) (cs := cs) (rest := rest) ho hy hd hrun (simc ρ w _ hw0 ha)
            exact ⟨ρ1, _, v', w1, rfl, hs1, step_mem st rfl rfl, rel_put (ht.mono st.ext) _ hv⟩
          | round hl hl' ha hrun =>
            obtain ⟨_, simc⟩ := hr _ _ _ _ _ q1 (ev0.le (Nat.le_refl _))
            obtain ⟨v', w1, ⟨ρ1, st, hv⟩, hs1⟩ := steps_round (b := b) (k := k) (cs := cs) (rest := rest) ho hy hd hrun (simc ρ w _ _ hw0 hl hl' ha)
            exact ⟨ρ1, _, v', w1, rfl, hs1, step_mem st rfl rfl, rel_put (ht.mono st.ext) _ hv⟩
    · rename_i hwant
      cases h
      refine ⟨ρ, _, undef, w, rfl, .one ?_, .refl hw, rel_put ht _ rel_undef⟩
      have := stepR_op_skip (P := P) (b := b) (a := act) (k := k) (cs := cs) (w := w) (ops := ops) (i := i) (rest := rest) (by
        rw [ho, rel_yielded ht]; simpa using hwant)
      rw [ho] at this
      exact this


theorem want_put {o : Oper} {d : Option Tmp} (hd : ∀ e, d = some e → e ∉ o.looksAt ops) (t : List Value) (v : Value) : Region.wanted o (yieldedA ops (putT t d v)) = Region.wanted o (yieldedA ops t) := by
  unfold Region.wanted
  cases hg : o.guard with
  | none => rfl
  | some g =>
    obtain ⟨j, b⟩ := g
    simp only []
    have : yieldedA ops (putT t d v) j = yieldedA ops t j := by
      unfold yieldedA
      cases hj : (ops[j]?).bind (·.dst) with
      | none => rfl
      | some e =>
        simp only [Option.bind_some]
        cases d with
        | none => rfl
        | some e' =>
          have hne : e' ≠ e := by
            intro hh
            subst hh
            refine hd e' rfl ?_
            unfold Oper.looksAt
            refine List.mem_append_right _ ?_
            rw [hg]
            simp [hj]
          simp [putT, List.getElem?_set_ne hne]
    rw [this]
theorem eval_look {o : Oper} {d : Option Tmp} (hd : ∀ e, d = some e → e ∉ o.looksAt ops) (t : List Value) (v : Value) : ∀ z ∈ o.op.operands, evalA (putT t d v) z = evalA t z := by
  intro z hz
  refine eval_put fun e he hze => hd e he ?_
  subst hze
  unfold Oper.looksAt
  exact List.mem_append_left _ (List.mem_filterMap.2 ⟨.tmp e, by simpa using hz, rfl⟩)
theorem put_put (t : List Value) (d : Option Tmp) (u v : Value) : putT (putT t d u) d v = putT t d v := by
  cases d <;> simp [putT]
theorem stepR_put {m x : Nat} {o : Oper} (ho : ops[x]? = some o) {d : Option Tmp} (hd : ∀ e, d = some e → e ∉ o.looksAt ops) (hne : ∀ e, d = some e → o.dst ≠ some e) {t t1 : List Value} {a a1 : AW} {nt : Note} (u : Value)
    (h : stepR P (callA P G m) (roundA P G m) ops x t a = some (nt, t1, a1)) : stepR P (callA P G m) (roundA P G m) ops x (putT t d u) a = some (nt, putT t1 d u, a1) := by
  unfold stepR at h ⊢
  rw [ho] at h ⊢
  simp only at h ⊢
  rw [want_put hd]
  split at h
  · rename_i hw
    obtain ⟨⟨n1, v1, b1⟩, e1, e2⟩ := Option.map_eq_some_iff.1 h
    simp only [Prod.mk.injEq] at e2
    obtain ⟨rfl, rfl, rfl⟩ := e2
    rw [if_pos hw, stepO_congr (eval_look hd t u), e1]
    simp only [Option.map_some, put_comm t u v1 hne]
  · rename_i hw
    rw [if_neg hw]
    simp only [Option.some.injEq, Prod.mk.injEq] at h ⊢
    obtain ⟨rfl, rfl, rfl⟩ := h
    exact ⟨rfl, put_comm t u undef hne, rfl⟩
theorem stepR_own {m x : Nat} {o : Oper} (ho : ops[x]? = some o) (hd : ∀ e, o.dst = some e → e ∉ o.looksAt ops) {t t1 : List Value} {a a1 : AW} {nt : Note} (u : Value)
    (h : stepR P (callA P G m) (roundA P G m) ops x t a = some (nt, t1, a1)) : stepR P (callA P G m) (roundA P G m) ops x (putT t o.dst u) a = some (nt, t1, a1) := by
  unfold stepR at h ⊢
  rw [ho] at h ⊢
  simp only at h ⊢
  rw [want_put hd]
  split at h
  · rename_i hw
    obtain ⟨⟨n1, v1, b1⟩, e1, e2⟩ := Option.map_eq_some_iff.1 h
    simp only [Prod.mk.injEq] at e2
    obtain ⟨rfl, rfl, rfl⟩ := e2
    rw [if_pos hw, stepO_congr (eval_look hd t u), e1]
    simp only [Option.map_some, put_put]
  · rename_i hw
    rw [if_neg hw]
    simp only [Option.some.injEq, Prod.mk.injEq] at h ⊢
    obtain ⟨rfl, rfl, rfl⟩ := h
    exact ⟨rfl, put_put _ _ _ _, rfl⟩
/-- What stands in a temporary that is written before it is looked at does not matter. -/
theorem Tr.wild {y : TOp} {o : Oper} (ho : ops[y.1]? = some o) (hd : ∀ e, o.dst = some e → e ∉ o.looksAt ops) (u : Value) {v : List TOp} : ∀ {l : List TOp} {t t2 : List Value} {a a2 : AW},
    (∀ x ∈ l, ∃ ox, ops[x.1]? = some ox ∧ o.apart ops ox = true) → Tr P G ops (l ++ y :: v) t a t2 a2 → Tr P G ops (l ++ y :: v) (putT t o.dst u) a t2 a2
  | [], t, t2, a, a2, _, h => by
    obtain ⟨i, m, nt⟩ := y
    cases h with
    | cons h1 r => exact .cons (stepR_own ho hd u h1) r
  | x :: l, t, t2, a, a2, hl, h => by
    obtain ⟨i, m, nt⟩ := x
    obtain ⟨ox, q1, q2⟩ := hl (i, m, nt) (by simp)
    obtain ⟨p1, p2, p3⟩ := Oper.apart_spec q2
    cases h with
    | cons h1 r => exact .cons (stepR_put q1 p1 p2 u h1) (Tr.wild ho hd u (fun z hz => hl z (by simp [hz])) r)

/-- Nothing but a block that the evaluator does not know comes in. -/
theorem step_push {ρ : Ren} {a : AW} {w w' : World} (h : WRel ρ a w) {o : Obj} (hh : w'.heap = w.heap.push o) (h1 : w'.os = w.os) (h2 : w'.tape = w.tape) (h3 : w'.output = w.output) : Step ρ a.next w ρ a w' := by
  have hold : ∀ k, k < w.heap.size → w'.heap[k]? = w.heap[k]? := fun k hk => by rw [hh, Array.getElem?_push, if_neg (by omega)]
  refine ⟨⟨h.falls, h.lt, fun i I e => ?_, h.has, h.inj⟩, .refl _ _, fun i I e => .inl ⟨i, I, e, rfl, rfl⟩, fun k hk _ => hold k hk, by rw [hh]; simp, h1, h2, h3⟩
  obtain ⟨b', o', e1, e2, e3⟩ := h.blk i I e
  exact ⟨b', o', e1, by rw [hold _ (h.bound e)]; exact e2, e3⟩
/-- A block that the program has made before gets its number. -/
theorem step_adopt {ρ0 ρ : Ren} {K0 : Nat} {a : AW} {w0 w : World} (st : Step ρ0 K0 w0 ρ a w) {g n : Nat} {z : Bool} {b : Blk} {o : Obj} (hg : w.heap[g]? = some o) (hlo : w0.heap.size ≤ g) (hni : ∀ j I, ρ j = some I → I.b ≠ g)
    (ho : ORel (upd ρ a.next (some ⟨g, 0, n, true, z⟩)) (a.next + 1) ⟨g, 0, n, true, z⟩ b o) : Step ρ0 K0 w0 (upd ρ a.next (some ⟨g, 0, n, true, z⟩)) (a.new b) w := by
  have h := st.rel
  have hx := ext_new h ⟨g, 0, n, true, z⟩
  refine ⟨⟨.cons (Nat.lt_succ_self _) h.falls, ?_, ?_, ?_, ?_⟩, st.ext.trans hx, ?_, st.frame, st.size, st.os, st.tape, st.output⟩
  · intro i I e
    by_cases hi : i = a.next
    · subst hi; exact Nat.lt_succ_self _
    · rw [upd_ne _ _ hi] at e; exact Nat.lt_succ_of_lt (h.lt i I e)
  · intro i I e
    by_cases hi : i = a.next
    · subst hi
      rw [upd_self] at e
      cases e
      exact ⟨b, o, by simp [AW.get, AW.new, look], hg, ho⟩
    · rw [upd_ne _ _ hi] at e
      obtain ⟨b', o', e1, e2, e3⟩ := h.blk i I e
      refine ⟨b', o', ?_, e2, e3.mono hx⟩
      simp only [AW.get, AW.new, look, if_neg hi]; exact e1
  · intro i b' e
    by_cases hi : i = a.next
    · subst hi; exact ⟨_, upd_self _ _ _⟩
    · simp only [AW.get, AW.new, look, if_neg hi] at e
      rw [upd_ne _ _ hi]; exact h.has i b' e
  · intro i j I J e1 e2 e3
    by_cases hi : i = a.next <;> by_cases hj : j = a.next
    · exact .inl (hi.trans hj.symm)
    · subst hi
      rw [upd_self] at e1; rw [upd_ne _ _ hj] at e2; cases e1
      exact absurd e3.symm (hni j J e2)
    · subst hj
      rw [upd_self] at e2; rw [upd_ne _ _ hi] at e1; cases e2
      exact absurd e3 (hni i I e1)
    · rw [upd_ne _ _ hi] at e1; rw [upd_ne _ _ hj] at e2; exact h.inj i j I J e1 e2 e3
  · intro i I e
    by_cases hi : i = a.next
    · subst hi; rw [upd_self] at e; cases e; exact .inr hlo
    · rw [upd_ne _ _ hi] at e; exact st.img i I e

/-- A block that the program has made, and the evaluator not yet. -/
def Held (P : Program) (ops : Array Oper) (lo : Nat) (ρ : Ren) (K : Nat) (w : World) (t : List Value) (tc : Array Value) (i g : Nat) : Prop :=
  ∃ o b f n z ob v', ops[i]? = some o ∧ kindO P o = .make ∧ o.guard = none ∧ (∀ d, o.dst = some d → d ∉ o.looksAt ops) ∧ makeA P t o = some (b, f) ∧ w.heap[g]? = some ob ∧ lo ≤ g ∧ (∀ j I, ρ j = some I → I.b ≠ g) ∧
    (∀ d, o.dst = some d → d < tc.size → tc[d]? = some v') ∧
    ∀ ρ' K' id, Ext ρ K ρ' K' → id < K' → (∀ I, ρ' id = some I → I = ⟨g, 0, n, true, z⟩) → ORel ρ' K' ⟨g, 0, n, true, z⟩ b ob ∧ VRel ρ' K' (f id) v'
theorem Held.step {lo i g : Nat} {ρ ρ' : Ren} {a a' : AW} {w w' : World} {t : List Value} {act : Act} (h : Held P ops lo ρ a.next w t act.tmps i g) (st : Step ρ a.next w ρ' a' w') {oj : Oper} (hap : ∀ oi, ops[i]? = some oi → oj.apart ops oi = true) (v v' : Value) :
    Held P ops lo ρ' a'.next w' (putT t oj.dst v) (act.put oj.dst v').tmps i g := by
  obtain ⟨o, b, f, n, z, ob, u, h1, h2, h3, h4, h5, h6, h7, h8, h9, h10⟩ := h
  obtain ⟨p1, p2, p3⟩ := Oper.apart_spec (hap o h1)
  have hg : g < w.heap.size := (Array.getElem?_eq_some_iff.1 h6).1
  refine ⟨o, b, f, n, z, ob, u, h1, h2, h3, h4, ?_, ?_, h7, fun j I e => ?_, fun d hd hs => ?_, fun ρ2 K2 id hx hid hI => h10 ρ2 K2 id (st.ext.trans hx) hid hI⟩
  · rw [make_congr (eval_look p1 t v)]; exact h5
  · rw [st.frame g hg fun j I e _ => h8 j I e]; exact h6
  · rcases st.img j I e with ⟨k, J, e1, _, e3⟩ | hl
    · rw [← e3]; exact h8 k J e1
    · omega
  · cases hj : oj.dst with
    | none => rw [hj] at hs; exact h9 d hd hs
    | some e =>
      have hne : e ≠ d := fun hh => p2 e hj (hh ▸ hd)
      rw [hj] at hs
      show (act.tmps.setIfInBounds e v')[d]? = some u
      rw [Array.getElem?_setIfInBounds_ne hne]
      refine h9 d hd ?_
      have : (act.tmps.setIfInBounds e v').size = act.tmps.size := Array.size_setIfInBounds
      change d < (act.tmps.setIfInBounds e v').size at hs
      rw [this] at hs
      exact hs
end
end
/- Regions whose order is open: by the machine, to the end. -/
section
open Go Go.RowKit
set_option linter.unusedVariables false
set_option linter.unusedSimpArgs false

section
variable {P : Program} {G : Gives} {ops : Array Oper}
structure Stage (P : Program) (ops : Array Oper) (N : Nat) (rem : List TOp) (pend : List (Nat × Nat)) (listed : Array Bool) : Prop where
  size : listed.size = ops.size
  listed : ∀ i, i < ops.size → (listed.getD i true = false ↔ i ∈ rem.map (·.1) ∧ i ∉ pend.map (·.1))
  rises : (rem.map (·.1)).Pairwise (· < ·)
  inside : ∀ i ∈ rem.map (·.1), i < ops.size
  closed : ∀ j o, ops[j]? = some o → (j ∉ rem.map (·.1) ∨ j ∈ pend.map (·.1)) → ∀ x, ((ancs ops).getD j 0).testBit x = true → x ∉ rem.map (·.1)
  calm : rem.Pairwise fun x y => unord (ancs ops) x.1 y.1 = true → clash x.2.2 y.2.2 = false
  fuel : ∀ x ∈ rem, x.2.1 ≤ N
  sub : ∀ i ∈ pend.map (·.1), i ∈ rem.map (·.1)
  apart : (pend.map (·.2)).Nodup
structure Sim (P : Program) (ops : Array Oper) (ρ0 : Ren) (K0 : Nat) (w0 : World) (pend : List (Nat × Nat)) (ρ : Ren) (a : AW) (w : World) (t : List Value) (act : Act) : Prop where
  st : Step ρ0 K0 w0 ρ a w
  rel : TRel ρ a.next t act.tmps
  held : ∀ p ∈ pend, Held P ops w0.heap.size ρ a.next w t act.tmps p.1 p.2
/-- What the program has not done yet. -/
def live (rem : List TOp) (pend : List (Nat × Nat)) : List TOp := rem.filter fun x => !(pend.map (·.1)).contains x.1

theorem Stage.getT {N : Nat} {rem : List TOp} {pend : List (Nat × Nat)} {listed : Array Bool} (s : Stage P ops N rem pend listed) {i : Nat} (hi : i < ops.size) : (listed.getD i false = true ↔ i ∉ rem.map (·.1) ∨ i ∈ pend.map (·.1)) := by
  have hs : i < listed.size := by rw [s.size]; exact hi
  have h1 : listed.getD i true = listed[i] := by simp [Array.getD_eq_getD_getElem?, hs]
  have h2 : listed.getD i false = listed[i] := by simp [Array.getD_eq_getD_getElem?, hs]
  have := s.listed i hi
  rw [h1] at this
  rw [h2]
  have h3 : (¬ (i ∈ rem.map (·.1) ∧ i ∉ pend.map (·.1))) ↔ (i ∉ rem.map (·.1) ∨ i ∈ pend.map (·.1)) := by
    by_cases p1 : i ∈ rem.map (·.1) <;> by_cases p2 : i ∈ pend.map (·.1) <;> simp [p1, p2]
  rw [← h3, ← this]
  cases listed[i] <;> simp
/-- Two operations that are both still there, the first one not bound to wait. -/
theorem unord_of (hp : Plan P ops) {x y : Nat} (hxy : x < y) (hx : x < ops.size) (h : ((ancs ops).getD y 0).testBit x ≠ true) : unord (ancs ops) x y = true := by
  unfold unord
  simp only [Bool.and_eq_true, Bool.not_eq_true', Bool.not_eq_true]
  refine ⟨by simpa using h, ?_⟩
  cases hb2 : ((ancs ops).getD x 0).testBit y with
  | false => rfl
  | true =>
    have := hp.lt x x (Nat.le_refl _) ops[x] (by simp [hx]) y hb2
    omega
theorem split_ne {rem : List TOp} {u v : List TOp} {y : TOp} (hr : ((u ++ y :: v).map (·.1)).Pairwise (· < ·)) : y.1 ∉ (u ++ v).map (·.1) ∧ ∀ j, j ≠ y.1 → (j ∈ (u ++ y :: v).map (·.1) ↔ j ∈ (u ++ v).map (·.1)) := by
  rw [List.map_append, List.map_cons] at hr
  obtain ⟨hr1, hr2, hr3⟩ := List.pairwise_append.1 hr
  rw [List.pairwise_cons] at hr2
  refine ⟨?_, fun j hj => ?_⟩
  · rw [List.map_append, List.mem_append]
    rintro (hh | hh)
    · have := hr3 y.1 hh y.1 (by simp); omega
    · have := hr2.1 y.1 hh; omega
  · rw [List.map_append, List.map_append, List.map_cons, List.mem_append, List.mem_append, List.mem_cons]
    constructor
    · rintro (h | h | h)
      · exact .inl h
      · exact absurd h hj
      · exact .inr h
    · rintro (h | h)
      · exact .inl h
      · exact .inr (.inr h)
/-- The evaluator makes a block that the program has made before. -/
theorem adopt_one {N : Nat} (hp : Plan P ops) (hc : ∀ m, m ≤ N → CallAt P G m ∧ RoundAt P G m) {u v : List TOp} {y : TOp} {pend : List (Nat × Nat)} {listed : Array Bool} {g : Nat} (s : Stage P ops N (u ++ y :: v) pend listed)
    (hy : (y.1, g) ∈ pend) (hq : ∀ x ∈ u, ∀ ox, ops[x.1]? = some ox → heavy (kindO P ox) = false) {t t2 : List Value} {a a2 : AW} (htr : Tr P G ops (u ++ y :: v) t a t2 a2) (hb : a.base ≤ a.next)
    {ρ0 : Ren} {K0 : Nat} {w0 : World} {ρ : Ren} {w : World} {act : Act} (sim : Sim P ops ρ0 K0 w0 pend ρ a w t act) :
    ∃ ρ' a1 t1, Stage P ops N (u ++ v) (pend.filter fun q => q.1 != y.1) listed ∧ Tr P G ops (u ++ v) t1 a1 t2 a2 ∧ a1.base ≤ a1.next ∧ Sim P ops ρ0 K0 w0 (pend.filter fun q => q.1 != y.1) ρ' a1 w t1 act := by
  obtain ⟨yi, ym, yn⟩ := y
  obtain ⟨hnot, hmem⟩ := split_ne (rem := u) s.rises
  simp only at hnot hmem hy ⊢
  have hyp : yi ∈ pend.map (·.1) := List.mem_map.2 ⟨_, hy, rfl⟩
  have hisz := s.inside yi (s.sub yi hyp)
  have hanc := s.closed yi ops[yi] (by simp [hisz]) (.inr hyp)
  have hrises := s.rises
  rw [List.map_append, List.map_cons] at hrises
  obtain ⟨hr1, hr2, hr3⟩ := List.pairwise_append.1 hrises
  have hfree : ∀ x ∈ u, x.2.1 ≤ N ∧ Free P ops x (yi, ym, yn) := by
    intro x hx
    have hxlt : x.1 < yi := hr3 x.1 (List.mem_map_of_mem hx) yi (by simp)
    have hxm : x.1 ∈ (u ++ (yi, ym, yn) :: v).map (·.1) := by simp; exact .inl ⟨_, _, hx⟩
    have hun := unord_of hp hxlt (s.inside x.1 hxm) (fun hh => hanc x.1 hh hxm)
    obtain ⟨ox, oy, q1, q2, q3, q4, _⟩ := hp.free x.1 yi hxlt hisz hun
    have hcl := (List.pairwise_append.1 s.calm).2.2 x hx (yi, ym, yn) (by simp) hun
    exact ⟨s.fuel x (by simp [hx]), ox, oy, q1, q2, q3, q4, by rw [hq x hx ox q1]; rfl, hcl⟩
  have hyN := s.fuel (yi, ym, yn) (by simp)
  have htr' := Tr.first hc hyN hfree hb htr
  cases htr' with
  | @cons _ _ _ _ _ t1 _ _ a1 _ h1 r =>
    obtain ⟨o, b, f, n, z, ob, v', g1, g2, g3, g4, g5, g6, g7, g8, g9, g10⟩ := sim.held _ hy
    have e1 : stepR P (callA P G ym) (roundA P G ym) ops yi t a = some (.work a.next [], putT t o.dst (f a.next), a.new b) := by
      unfold stepR
      simp only [g1]
      rw [if_pos (by unfold Region.wanted; rw [g3])]
      unfold stepO
      rw [g2]
      simp only [g5, Option.map_some]
    rw [e1] at h1
    cases h1
    obtain ⟨k1, k2⟩ := g10 (upd ρ a.next (some ⟨g, 0, n, true, z⟩)) (a.next + 1) a.next (ext_new sim.st.rel _) (Nat.lt_succ_self _) (fun I e => by rw [upd_self] at e; cases e; rfl)
    have hx := ext_new sim.st.rel ⟨g, 0, n, true, z⟩
    have st' := step_adopt sim.st g6 g7 g8 k1
    have hpm : ∀ j, j ∈ (pend.filter fun q => q.1 != yi).map (·.1) ↔ j ∈ pend.map (·.1) ∧ j ≠ yi := by
      intro j
      simp only [List.mem_map, List.mem_filter, bne_iff_ne, ne_eq]
      constructor
      · rintro ⟨q, ⟨q1, q2⟩, rfl⟩; exact ⟨⟨q, q1, rfl⟩, q2⟩
      · rintro ⟨⟨q, q1, rfl⟩, q2⟩; exact ⟨q, ⟨q1, q2⟩, rfl⟩
    have hsub : (u ++ v).Sublist (u ++ (yi, ym, Note.work a.next []) :: v) := List.Sublist.append (List.Sublist.refl _) (List.sublist_cons_self _ _)
    refine ⟨_, _, _, ⟨s.size, fun j hj => ?_, s.rises.sublist (hsub.map _), fun j hj => s.inside j ((hsub.map _).subset hj), fun j o2 hj2 hjn x hx2 => ?_, s.calm.sublist hsub, fun x hx2 => s.fuel x (hsub.subset hx2), fun j hj => ?_, ?_⟩, r, ?_, ⟨st', ?_, fun q hq2 => ?_⟩⟩
    · rw [s.listed j hj, hpm]
      by_cases hjy : j = yi
      · subst hjy
        exact ⟨fun hh => absurd hyp hh.2, fun hh => absurd hh.1 hnot⟩
      · rw [hmem j hjy]
        exact ⟨fun hh => ⟨hh.1, fun h2 => hh.2 h2.1⟩, fun hh => ⟨hh.1, fun h2 => hh.2 ⟨h2, hjy⟩⟩⟩
    · have hjn' : j ∉ (u ++ (yi, ym, Note.work a.next []) :: v).map (·.1) ∨ j ∈ pend.map (·.1) := by
        rcases hjn with hh | hh
        · by_cases hjy : j = yi
          · subst hjy; exact .inr hyp
          · exact .inl fun h2 => hh ((hmem j hjy).1 h2)
        · exact .inr ((hpm j).1 hh).1
      exact fun hh => s.closed j o2 hj2 hjn' x hx2 ((hsub.map _).subset hh)
    · obtain ⟨h2, h3⟩ := (hpm j).1 hj
      exact (hmem j h3).1 (s.sub j h2)
    · exact s.apart.sublist (List.filter_sublist.map _)
    · exact Nat.le_succ_of_le hb
    · -- the temporaries
      have hm := sim.rel.mono hx
      cases hd : o.dst with
      | none => exact hm
      | some d =>
        show LRel _ _ (t.set d (f a.next)) act.tmps.toList
        have := LRel.set hm k2 d
        by_cases hlt : d < act.tmps.size
        · have e2 : act.tmps.toList.set d v' = act.tmps.toList := by
            have e3 := g9 d hd hlt
            apply List.ext_getElem?
            intro j
            by_cases hj : j = d
            · subst hj
              rw [List.getElem?_set_self (by simpa using hlt)]
              rw [← e3]; simp
            · rw [List.getElem?_set_ne (Ne.symm hj)]
          rw [e2] at this
          exact this
        · have e2 : act.tmps.toList.set d v' = act.tmps.toList := List.set_eq_of_length_le (by simpa using Nat.le_of_not_lt hlt)
          rw [e2] at this
          exact this
    · -- the others
      obtain ⟨q0, q1⟩ := List.mem_filter.1 hq2
      have hqy : q.1 ≠ yi := by simpa using q1
      obtain ⟨o', b', f', n', z', ob', v2, f1, f2, f3, f4, f5, f6, f7, f8, f9, f10⟩ := sim.held q q0
      have hqm := s.sub q.1 (List.mem_map.2 ⟨q, q0, rfl⟩)
      have hqs := s.inside q.1 hqm
      have hapart : o.apart ops o' = true := by
        rcases Nat.lt_or_gt_of_ne hqy with hlt | hlt
        · have hun := unord_of hp hlt hqs (fun hh => hanc q.1 hh hqm)
          obtain ⟨ox, oy, z1, z2, z3, z4, _⟩ := hp.free q.1 yi hlt hisz hun
          rw [f1] at z1; rw [g1] at z2; cases z1; cases z2
          exact z4
        · have hun := unord_of hp hlt hisz (fun hh => s.closed q.1 o' f1 (.inr (List.mem_map.2 ⟨q, q0, rfl⟩)) yi hh (s.sub yi hyp))
          obtain ⟨ox, oy, z1, z2, z3, z4, _⟩ := hp.free yi q.1 hlt hqs hun
          rw [g1] at z1; rw [f1] at z2; cases z1; cases z2
          exact z3
      obtain ⟨p1, p2, p3⟩ := Oper.apart_spec hapart
      have hgne : q.2 ≠ g := by
        intro hh
        have hnd := s.apart
        have hinj : ∀ (l : List (Nat × Nat)), (l.map (·.2)).Nodup → ∀ x ∈ l, ∀ z ∈ l, x.2 = z.2 → x = z := by
          intro l
          induction l with
          | nil => intro _ x hx; cases hx
          | cons c l ih =>
            intro hn x hx z hz hxz
            rw [List.map_cons, List.nodup_cons] at hn
            rcases List.mem_cons.1 hx with hx1 | hx1 <;> rcases List.mem_cons.1 hz with hz1 | hz1
            · rw [hx1, hz1]
            · subst hx1; exact absurd (show x.2 ∈ l.map (·.2) from List.mem_map.2 ⟨z, hz1, hxz.symm⟩) hn.1
            · subst hz1; exact absurd (show z.2 ∈ l.map (·.2) from List.mem_map.2 ⟨x, hx1, hxz⟩) hn.1
            · exact ih hn.2 x hx1 z hz1 hxz
        have := hinj pend hnd q q0 (yi, g) hy hh
        exact hqy (by rw [this])
      refine ⟨o', b', f', n', z', ob', v2, f1, f2, f3, f4, ?_, f6, f7, fun j I e => ?_, f9, fun ρ2 K2 id hx2 hid hI => f10 ρ2 K2 id (hx.trans hx2) hid hI⟩
      · rw [make_congr (eval_look p1 t (f a.next))]; exact f5
      · by_cases hj : j = a.next
        · subst hj
          rw [upd_self] at e; cases e
          exact fun hh => hgne hh.symm
        · rw [upd_ne _ _ hj] at e
          exact f8 j I e
theorem exists_min (S : Nat → Bool) : ∀ (l : List (Nat × Nat)), (∃ p ∈ l, S p.1 = true) → ∃ p ∈ l, S p.1 = true ∧ ∀ q ∈ l, S q.1 = true → p.1 ≤ q.1
  | [], h => by obtain ⟨p, hp, _⟩ := h; cases hp
  | c :: l, h => by
    by_cases hl : ∃ p ∈ l, S p.1 = true
    · obtain ⟨p, h1, h2, h3⟩ := exists_min S l hl
      by_cases hc : S c.1 = true ∧ c.1 ≤ p.1
      · refine ⟨c, by simp, hc.1, fun q hq hs => ?_⟩
        rcases List.mem_cons.1 hq with rfl | hq
        · exact Nat.le_refl _
        · exact Nat.le_trans hc.2 (h3 q hq hs)
      · refine ⟨p, by simp [h1], h2, fun q hq hs => ?_⟩
        rcases List.mem_cons.1 hq with rfl | hq
        · by_cases hle : q.1 ≤ p.1
          · exact absurd ⟨hs, hle⟩ hc
          · omega
        · exact h3 q hq hs
    · obtain ⟨p, h1, h2⟩ := h
      rcases List.mem_cons.1 h1 with rfl | h1
      · refine ⟨p, by simp, h2, fun q hq hs => ?_⟩
        rcases List.mem_cons.1 hq with rfl | hq
        · exact Nat.le_refl _
        · exact absurd ⟨q, hq, hs⟩ hl
      · exact absurd ⟨p, h1, h2⟩ hl
theorem live_adopt {u v : List TOp} {y : TOp} {pend : List (Nat × Nat)} (hy : y.1 ∈ pend.map (·.1)) (hn : y.1 ∉ (u ++ v).map (·.1)) : live (u ++ v) (pend.filter fun q => q.1 != y.1) = live (u ++ y :: v) pend := by
  have hsame : ∀ x ∈ u ++ v, (!((pend.filter fun q => q.1 != y.1).map (·.1)).contains x.1) = !(pend.map (·.1)).contains x.1 := by
    intro x hx
    have hxy : x.1 ≠ y.1 := fun hh => hn (hh ▸ List.mem_map_of_mem hx)
    congr 1
    rw [Bool.eq_iff_iff]
    simp only [List.contains_iff_mem, List.mem_map, List.mem_filter, bne_iff_ne, ne_eq]
    constructor
    · rintro ⟨q, ⟨q1, _⟩, q2⟩; exact ⟨q, q1, q2⟩
    · rintro ⟨q, q1, q2⟩; exact ⟨q, ⟨q1, fun hh => hxy (q2.symm.trans hh)⟩, q2⟩
  unfold live
  rw [List.filter_congr hsame, List.filter_append, List.filter_append, List.filter_cons_of_neg]
  simpa using hy
/-- .. and all those that something waits for. -/
theorem adopt_all {N : Nat} (hp : Plan P ops) (hc : ∀ m, m ≤ N → CallAt P G m ∧ RoundAt P G m) (S : Nat → Bool) {listed : Array Bool} {ρ0 : Ren} {K0 : Nat} {w0 : World} {w : World} {act : Act} {t2 : List Value} {a2 : AW} :
    ∀ (n : Nat) (rem : List TOp) (pend : List (Nat × Nat)), pend.length ≤ n → Stage P ops N rem pend listed →
      (∀ p ∈ pend, S p.1 = true → ∀ x ∈ rem, x.1 < p.1 → ∀ ox, ops[x.1]? = some ox → heavy (kindO P ox) = true → x.1 ∈ pend.map (·.1) ∧ S x.1 = true) →
      ∀ {t : List Value} {a : AW} {ρ : Ren}, Tr P G ops rem t a t2 a2 → a.base ≤ a.next → Sim P ops ρ0 K0 w0 pend ρ a w t act →
      ∃ rem' pend' ρ' a1 t1, Stage P ops N rem' pend' listed ∧ Tr P G ops rem' t1 a1 t2 a2 ∧ a1.base ≤ a1.next ∧ Sim P ops ρ0 K0 w0 pend' ρ' a1 w t1 act ∧ (live rem' pend').length = (live rem pend).length ∧ (∀ p ∈ pend', S p.1 = false) ∧
        (∀ i, i ∈ rem'.map (·.1) → i ∈ rem.map (·.1)) ∧ (∀ i, i ∈ rem.map (·.1) → i ∉ pend.map (·.1) → i ∈ rem'.map (·.1)) := by
  intro n
  induction n with
  | zero =>
    intro rem pend hl s hS t a ρ htr hb sim
    obtain rfl := List.eq_nil_of_length_eq_zero (Nat.le_zero.1 hl)
    exact ⟨rem, [], ρ, a, t, s, htr, hb, sim, rfl, fun p hp => (by cases hp), fun i h => h, fun i h _ => h⟩
  | succ n ih =>
    intro rem pend hl s hS t a ρ htr hb sim
    by_cases hex : ∃ p ∈ pend, S p.1 = true
    · obtain ⟨⟨i, g⟩, h1, h2, h3⟩ := exists_min S pend hex
      have him := s.sub i (List.mem_map.2 ⟨_, h1, rfl⟩)
      obtain ⟨y, hy1, hy2⟩ := List.mem_map.1 him
      obtain ⟨u, v, rfl⟩ := List.append_of_mem hy1
      subst hy2
      obtain ⟨hnot, hmem⟩ := split_ne (rem := u) s.rises
      have hq : ∀ x ∈ u, ∀ ox, ops[x.1]? = some ox → heavy (kindO P ox) = false := by
        intro x hx ox hox
        cases hh : heavy (kindO P ox) with
        | false => rfl
        | true =>
          have hr := s.rises
          rw [List.map_append, List.map_cons] at hr
          have hlt := (List.pairwise_append.1 hr).2.2 x.1 (List.mem_map_of_mem hx) y.1 (by simp)
          obtain ⟨k1, k2⟩ := hS (y.1, g) h1 h2 x (by simp [hx]) hlt ox hox hh
          obtain ⟨q, q1, q2⟩ := List.mem_map.1 k1
          have := h3 q q1 (by rw [q2]; exact k2)
          rw [q2] at this
          simp only at this
          omega
      obtain ⟨ρ1, a1, t1, s1, htr1, hb1, sim1⟩ := adopt_one hp hc s h1 hq htr hb sim
      have hyp : y.1 ∈ pend.map (·.1) := List.mem_map.2 ⟨_, h1, rfl⟩
      have hpm : ∀ j, j ∈ (pend.filter fun q => q.1 != y.1).map (·.1) ↔ j ∈ pend.map (·.1) ∧ j ≠ y.1 := by
        intro j
        simp only [List.mem_map, List.mem_filter, bne_iff_ne, ne_eq]
        constructor
        · rintro ⟨q, ⟨q1, q2⟩, rfl⟩; exact ⟨⟨q, q1, rfl⟩, q2⟩
        · rintro ⟨⟨q, q1, rfl⟩, q2⟩; exact ⟨q, ⟨q1, q2⟩, rfl⟩
      have hlt : (pend.filter fun q => q.1 != y.1).length ≤ n := by
        have : (pend.filter fun q => q.1 != y.1).length < pend.length := List.length_filter_lt_length_iff_exists.2 ⟨_, h1, by simp⟩
        omega
      -- again, with fewer
      obtain ⟨rem2, pend2, ρ2, a3, t3, s2, r2, b2, m2, l2, n2, i2, j2⟩ : ∃ rem' pend' ρ' a1' t1', Stage P ops N rem' pend' listed ∧ Tr P G ops rem' t1' a1' t2 a2 ∧ a1'.base ≤ a1'.next ∧ Sim P ops ρ0 K0 w0 pend' ρ' a1' w t1' act ∧ (live rem' pend').length = (live (u ++ v) (pend.filter fun q => q.1 != y.1)).length ∧ (∀ p ∈ pend', S p.1 = false) ∧
        (∀ i, i ∈ rem'.map (·.1) → i ∈ (u ++ v).map (·.1)) ∧ (∀ i, i ∈ (u ++ v).map (·.1) → i ∉ (pend.filter fun q => q.1 != y.1).map (·.1) → i ∈ rem'.map (·.1)) := by
        have hS' : ∀ p ∈ pend.filter (fun q => q.1 != y.1), S p.1 = true → ∀ x ∈ u ++ v, x.1 < p.1 → ∀ ox, ops[x.1]? = some ox → heavy (kindO P ox) = true → x.1 ∈ (pend.filter fun q => q.1 != y.1).map (·.1) ∧ S x.1 = true := by
          intro p hp0 hs x hx hlt ox hox hh
          obtain ⟨k1, k2⟩ := hS p ((List.mem_filter.1 hp0).1) hs x (by rcases List.mem_append.1 hx with h | h <;> simp [h]) hlt ox hox hh
          exact ⟨(hpm x.1).2 ⟨k1, fun hh2 => hnot (hh2 ▸ List.mem_map_of_mem hx)⟩, k2⟩
        exact ih _ _ hlt s1 hS' htr1 hb1 sim1
      refine ⟨rem2, pend2, ρ2, a3, t3, s2, r2, b2, m2, ?_, n2, fun i hi => ?_, fun i hi hn => ?_⟩
      · rw [l2, live_adopt hyp hnot]
      · have := i2 i hi
        by_cases hiy : i = y.1
        · subst hiy; exact absurd this hnot
        · exact (hmem i hiy).2 this
      · have hiy : i ≠ y.1 := fun hh => hn (hh ▸ hyp)
        exact j2 i ((hmem i hiy).1 hi) fun hh => hn ((hpm i).1 hh).1
    · refine ⟨rem, pend, ρ, a, t, s, htr, hb, sim, rfl, fun p hp => ?_, fun i h => h, fun i h _ => h⟩
      cases hh : S p.1 with
      | false => rfl
      | true => exact absurd ⟨p, hp, hh⟩ hex
end
end
/- Regions whose order is open: by the machine, all of them. -/
section
open Go Go.RowKit
set_option linter.unusedVariables false
set_option linter.unusedSimpArgs false

section
variable {P : Program} {G : Gives} {ops : Array Oper}
theorem stepR_is {m x : Nat} {o : Oper} (ho : ops[x]? = some o) {t t1 : List Value} {a a1 : AW} {nt : Note} (h : stepR P (callA P G m) (roundA P G m) ops x t a = some (nt, t1, a1)) : ∃ v, t1 = putT t o.dst v := by
  unfold stepR at h
  rw [ho] at h
  simp only at h
  split at h
  · obtain ⟨⟨n1, v1, b1⟩, e1, e2⟩ := Option.map_eq_some_iff.1 h
    cases e2; exact ⟨_, rfl⟩
  · cases h; exact ⟨_, rfl⟩
theorem Tr.make {y : TOp} {o : Oper} (ho : ops[y.1]? = some o) (hk : kindO P o = .make) (hg : o.guard = none) {v : List TOp} : ∀ {l : List TOp} {t t2 : List Value} {a a2 : AW},
    (∀ x ∈ l, ∃ ox, ops[x.1]? = some ox ∧ ox.apart ops o = true) → Tr P G ops (l ++ y :: v) t a t2 a2 → ∃ b f, makeA P t o = some (b, f)
  | [], t, t2, a, a2, _, h => by
    obtain ⟨i, m, nt⟩ := y
    cases h with
    | cons h1 r =>
      unfold stepR at h1
      simp only at ho
      rw [ho] at h1
      simp only at h1
      rw [if_pos (by unfold Region.wanted; rw [hg])] at h1
      obtain ⟨⟨n1, v1, b1⟩, e1, e2⟩ := Option.map_eq_some_iff.1 h1
      unfold stepO at e1
      rw [hk] at e1
      simp only at e1
      obtain ⟨q, q1, _⟩ := Option.map_eq_some_iff.1 e1
      exact ⟨q.1, q.2, q1⟩
  | x :: l, t, t2, a, a2, hl, h => by
    obtain ⟨i, m, nt⟩ := x
    obtain ⟨ox, q1, q2⟩ := hl (i, m, nt) (by simp)
    obtain ⟨p1, p2, p3⟩ := Oper.apart_spec q2
    cases h with
    | cons h1 r =>
      obtain ⟨u, rfl⟩ := stepR_is q1 h1
      obtain ⟨b, f, e⟩ := Tr.make ho hk hg (fun z hz => hl z (by simp [hz])) r
      exact ⟨b, f, by rw [make_congr (eval_look p1 t u)] at e; exact e⟩
theorem live_split {u v : List TOp} {y : TOp} {pend : List (Nat × Nat)} (hy : y.1 ∉ pend.map (·.1)) : (live (u ++ y :: v) pend).length = (live (u ++ v) pend).length + 1 := by
  unfold live
  rw [List.filter_append, List.filter_append, List.filter_cons_of_pos (by simpa using hy)]
  simp; omega
theorem live_pend {u v : List TOp} {y : TOp} {pend : List (Nat × Nat)} (g : Nat) (hn : y.1 ∉ (u ++ v).map (·.1)) : live (u ++ y :: v) ((y.1, g) :: pend) = live (u ++ v) pend := by
  have hsame : ∀ x ∈ u ++ v, (!(((y.1, g) :: pend).map (·.1)).contains x.1) = !(pend.map (·.1)).contains x.1 := by
    intro x hx
    have hxy : x.1 ≠ y.1 := fun hh => hn (hh ▸ List.mem_map_of_mem hx)
    congr 1
    rw [Bool.eq_iff_iff]
    simp [hxy]
  unfold live
  rw [← List.filter_congr hsame, List.filter_append, List.filter_append, List.filter_cons_of_neg (by simp)]

theorem lin_sim {N : Nat} (hp : Plan P ops) (hc : ∀ m, m ≤ N → CallAt P G m ∧ RoundAt P G m) {ρ0 : Ren} {K0 : Nat} {w0 : World} {r0 : Nat} (hr0 : r0 < K0) (hr1 : ρ0 r0 = none) : ∀ (n : Nat) (rem : List TOp) (pend : List (Nat × Nat)), (live rem pend).length = n → ∀ (t : Nat) (listed : Array Bool), Stage P ops N rem pend listed →
    ∀ {t0 t2 : List Value} {a a2 : AW}, Tr P G ops rem t0 a t2 a2 → a.base ≤ a.next → ∀ ρ w (act : Act) (b : Frame) k cs, Sim P ops ρ0 K0 w0 pend ρ a w t0 act →
      ∃ ρ' act' w', Steps P (lone (b.atR act (.inRegion ops (Region.linearise.go .any ops n t listed []) :: k)) cs w) (lone (b.atR act' k) cs w') ∧ Step ρ0 K0 w0 ρ' a2 w' ∧ TRel ρ' a2.next t2 act'.tmps ∧ act'.defers = act.defers := by
  intro n
  induction n with
  | zero =>
    intro rem pend hl t listed st t0 t2 a a2 htr hb ρ w act b k cs sim
    have hnil := List.eq_nil_of_length_eq_zero hl
    have hall : ∀ x ∈ rem, x.1 ∈ pend.map (·.1) := by
      intro x hx
      unfold live at hnil
      have := List.filter_eq_nil_iff.1 hnil x hx
      simpa using this
    obtain ⟨rem1, pend1, ρ1, a1, t1, s1, r1, b1, m1, l1, n1, _, _⟩ := adopt_all hp hc (fun _ => true) pend.length rem pend (Nat.le_refl _) st (fun p _ _ x hx _ _ _ _ => ⟨hall x hx, rfl⟩) htr hb sim
    have hp1 : pend1 = [] := by
      cases pend1 with
      | nil => rfl
      | cons p q => have := n1 p (by simp); cases this
    subst hp1
    have : live rem1 [] = rem1 := by unfold live; simp
    rw [this, hl] at l1
    obtain rfl := List.eq_nil_of_length_eq_zero l1
    cases r1
    exact ⟨ρ1, act, w, .one stepR_region_end, m1.st, m1.rel, rfl⟩
  | succ n ih =>
    intro rem pend hl t listed st t0 t2 a a2 htr hb ρ w act b k cs sim
    have mem_ready : ∀ i, i ∈ Region.ready .any ops listed ↔ i < ops.size ∧ listed.getD i true = false ∧ ∃ o, ops[i]? = some o ∧ ∀ e ∈ o.after.toList, Region.binds .any e = true → listed.getD e.on false = true := by
      intro i
      unfold Region.ready
      rw [List.mem_filter, List.mem_range]
      constructor
      · rintro ⟨h1, h2⟩
        rw [Bool.and_eq_true] at h2
        obtain ⟨h2, h3⟩ := h2
        refine ⟨h1, by simpa using h2, ops[i], by simp [h1], fun e he hbd => ?_⟩
        have : ops[i]? = some ops[i] := by simp [h1]
        rw [this] at h3
        simp only [Option.map_some, Option.getD_some] at h3
        rw [← Array.all_toList, List.all_eq_true] at h3
        have := h3 e he
        rw [hbd] at this
        simpa using this
      · rintro ⟨h1, h2, o, ho, h3⟩
        refine ⟨h1, ?_⟩
        rw [h2, ho]
        simp only [Bool.not_false, Option.map_some, Option.getD_some, Bool.true_and]
        rw [← Array.all_toList, List.all_eq_true]
        intro e he
        cases hbd : Region.binds .any e with
        | false => rfl
        | true => rw [h3 e he hbd]; rfl
    obtain ⟨hd, tl, hlive⟩ : ∃ hd tl, live rem pend = hd :: tl := by
      cases hlv : live rem pend with
      | nil => rw [hlv] at hl; simp at hl
      | cons hd tl => exact ⟨hd, tl, rfl⟩
    have hhdm : hd ∈ rem ∧ hd.1 ∉ pend.map (·.1) := by
      have : hd ∈ live rem pend := by rw [hlive]; simp
      unfold live at this
      obtain ⟨h1, h2⟩ := List.mem_filter.1 this
      exact ⟨h1, by simpa using h2⟩
    have hhd : hd.1 ∈ Region.ready .any ops listed := by
      have hm := List.mem_map_of_mem (f := (·.1)) hhdm.1
      have hin := st.inside hd.1 hm
      refine (mem_ready hd.1).2 ⟨hin, (st.listed hd.1 hin).2 ⟨hm, hhdm.2⟩, ops[hd.1], by simp [hin], fun e he hbd => ?_⟩
      have hlt := hp.edge hd.1 ops[hd.1] (by simp [hin]) e he hbd
      refine (st.getT (Nat.lt_trans hlt hin)).2 ?_
      by_cases h1 : e.on ∈ rem.map (·.1)
      · by_cases h2 : e.on ∈ pend.map (·.1)
        · exact .inr h2
        · exfalso
          obtain ⟨x, hx1, hx2⟩ := List.mem_map.1 h1
          have hxl : x ∈ live rem pend := by
            unfold live
            exact List.mem_filter.2 ⟨hx1, by rw [hx2]; simpa using h2⟩
          have hr : ((live rem pend).map (·.1)).Pairwise (· < ·) := st.rises.sublist (List.filter_sublist.map _)
          rw [hlive] at hr hxl
          rw [List.map_cons, List.pairwise_cons] at hr
          rcases List.mem_cons.1 hxl with rfl | hxl
          · omega
          · have := hr.1 x.1 (List.mem_map_of_mem hxl); omega
      · exact .inl h1
    have hlen : 0 < (Region.ready .any ops listed).length := List.length_pos_of_mem hhd
    have hgo : ∃ i, i ∈ Region.ready .any ops listed ∧ Region.linearise.go .any ops (n + 1) t listed [] = i :: Region.linearise.go .any ops n (t / (Region.ready .any ops listed).length) (listed.setIfInBounds i true) [] := by
      have hlt : t % (Region.ready .any ops listed).length < (Region.ready .any ops listed).length := Nat.mod_lt _ hlen
      refine ⟨(Region.ready .any ops listed)[t % (Region.ready .any ops listed).length], List.getElem_mem _, ?_⟩
      simp only [Region.linearise.go]
      change (match (Region.ready .any ops listed)[t % (Region.ready .any ops listed).length]? with
        | some i => Region.linearise.go .any ops n (t / (Region.ready .any ops listed).length) (listed.setIfInBounds i true) [i]
        | none => [].reverse) = _
      rw [List.getElem?_eq_getElem hlt]
      simp only []
      rw [linearise_go_acc]
      rfl
    obtain ⟨i, hi, hgo⟩ := hgo
    obtain ⟨hisz, hil, o, ho, hed⟩ := (mem_ready i).1 hi
    obtain ⟨himem, hipend⟩ := (st.listed i hisz).1 hil
    -- what i waits for is made first
    have hS : ∀ p ∈ pend, ((ancs ops).getD i 0).testBit p.1 = true → ∀ x ∈ rem, x.1 < p.1 → ∀ ox, ops[x.1]? = some ox → heavy (kindO P ox) = true → x.1 ∈ pend.map (·.1) ∧ ((ancs ops).getD i 0).testBit x.1 = true := by
      intro p hpm hs x hx hlt ox hox hh
      have hpm' : p.1 ∈ pend.map (·.1) := List.mem_map.2 ⟨p, hpm, rfl⟩
      have hps := st.inside p.1 (st.sub p.1 hpm')
      have hxm := List.mem_map_of_mem (f := (·.1)) hx
      have hun := unord_of hp hlt (st.inside x.1 hxm) (fun h2 => st.closed p.1 ops[p.1] (by simp [hps]) (.inr hpm') x.1 h2 hxm)
      obtain ⟨ox', op, z1, z2, _, _, z5⟩ := hp.free x.1 p.1 hlt hps hun
      rw [hox] at z1; cases z1
      obtain ⟨o', _, _, _, _, _, _, g1, g2, _⟩ := sim.held p hpm
      rw [g1] at z2; cases z2
      have hlate : Late P ops x.1 p.1 op := by
        rcases z5 with z5 | z5
        · rw [hh, g2] at z5; cases z5
        · exact z5
      have hax := hlate.2.2.2 i hisz hs
      refine ⟨?_, hax⟩
      obtain ⟨e, he, hbd, hor⟩ := hp.anc i o ho x.1 hax
      have hes : e.on < ops.size := Nat.lt_trans (hp.edge i o ho e he hbd) hisz
      have hel := (st.getT hes).1 (hed e he hbd)
      rcases hor with hh2 | hor
      · rw [hh2] at hel
        rcases hel with h2 | h2
        · exact absurd hxm h2
        · exact h2
      · exact absurd hxm (st.closed e.on ops[e.on] (by simp [hes]) hel x.1 hor)
    obtain ⟨rem1, pend1, ρ1, a1, t1, s1, r1, b1, sim1, l1, n1, i1, j1⟩ := adopt_all hp hc (fun j => ((ancs ops).getD i 0).testBit j) pend.length rem pend (Nat.le_refl _) st hS htr hb sim
    obtain ⟨him1, hip1⟩ := (s1.listed i hisz).1 hil
    have hanc : ∀ x, ((ancs ops).getD i 0).testBit x = true → x ∉ rem1.map (·.1) := by
      intro x hx
      obtain ⟨e, he, hbd, hor⟩ := hp.anc i o ho x hx
      have hes : e.on < ops.size := Nat.lt_trans (hp.edge i o ho e he hbd) hisz
      have hel := (s1.getT hes).1 (hed e he hbd)
      have hnp : e.on ∉ pend1.map (·.1) := by
        intro h2
        obtain ⟨p, p1, p2⟩ := List.mem_map.1 h2
        have h3 := n1 p p1
        have h4 := hp.anc' i o ho e.on e he hbd (.inl rfl)
        rw [p2] at h3
        rw [h3] at h4; cases h4
      have hnr : e.on ∉ rem1.map (·.1) := hel.resolve_right hnp
      rcases hor with rfl | hor
      · exact hnr
      · exact s1.closed e.on ops[e.on] (by simp [hes]) (.inl hnr) x hor
    obtain ⟨y, hymem, hyi⟩ := List.mem_map.1 him1
    obtain ⟨u, v, rfl⟩ := List.append_of_mem hymem
    subst hyi
    obtain ⟨hnot, hmem⟩ := split_ne (rem := u) s1.rises
    have hrises := s1.rises
    rw [List.map_append, List.map_cons] at hrises
    obtain ⟨hr1', hr2', hr3'⟩ := List.pairwise_append.1 hrises
    have hfacts : ∀ x ∈ u, unord (ancs ops) x.1 y.1 = true ∧ ∃ ox, ops[x.1]? = some ox ∧ ox.apart ops o = true ∧ o.apart ops ox = true ∧ ((heavy (kindO P ox) && heavy (kindO P o)) = false ∨ Late P ops x.1 y.1 o) := by
      intro x hx
      have hxlt : x.1 < y.1 := hr3' x.1 (List.mem_map_of_mem hx) y.1 (by simp)
      have hxm : x.1 ∈ (u ++ y :: v).map (·.1) := by simp; exact .inl ⟨_, _, hx⟩
      have hun := unord_of hp hxlt (s1.inside x.1 hxm) (fun hh => hanc x.1 hh hxm)
      obtain ⟨ox, oy, q1, q2, q3, q4, q5⟩ := hp.free x.1 y.1 hxlt hisz hun
      rw [ho] at q2; cases q2
      exact ⟨hun, ox, q1, q3, q4, q5⟩
    have hothers : ∀ q ∈ pend1, ∀ oi, ops[q.1]? = some oi → o.apart ops oi = true := by
      intro q hq oi hoi
      have hqp : q.1 ∈ pend1.map (·.1) := List.mem_map.2 ⟨q, hq, rfl⟩
      have hqm := s1.sub q.1 hqp
      have hqs := s1.inside q.1 hqm
      have hqy : q.1 ≠ y.1 := fun hh => hip1 (hh ▸ hqp)
      rcases Nat.lt_or_gt_of_ne hqy with hlt | hlt
      · have hun := unord_of hp hlt hqs (fun hh => hanc q.1 hh hqm)
        obtain ⟨ox, oy, z1, z2, z3, z4, _⟩ := hp.free q.1 y.1 hlt hisz hun
        rw [hoi] at z1; rw [ho] at z2; cases z1; cases z2
        exact z4
      · have hun := unord_of hp hlt hisz (fun hh => s1.closed q.1 oi hoi (.inr hqp) y.1 hh him1)
        obtain ⟨ox, oy, z1, z2, z3, z4, _⟩ := hp.free y.1 q.1 hlt hqs hun
        rw [ho] at z1; rw [hoi] at z2; cases z1; cases z2
        exact z3
    have hset : ∀ j, j < ops.size → ((listed.setIfInBounds y.1 true).getD j true = false ↔ listed.getD j true = false ∧ j ≠ y.1) := by
      intro j hj
      have hjs : j < listed.size := by rw [s1.size]; exact hj
      by_cases hjy : j = y.1
      · subst hjy; simp [Array.getD_eq_getD_getElem?, hjs]
      · simp [Array.getD_eq_getD_getElem?, Array.getElem?_setIfInBounds_ne (Ne.symm hjy), hjy]
    by_cases hlate : ∃ x ∈ u, ∃ ox, ops[x.1]? = some ox ∧ (heavy (kindO P ox) && heavy (kindO P o)) = true
    · -- the program makes the block, the evaluator not yet
      obtain ⟨x, hx, ox, hox, hhv⟩ := hlate
      obtain ⟨hun, ox', q1, q3, q4, q5⟩ := hfacts x hx
      rw [hox] at q1; cases q1
      obtain ⟨hk, hgd, hown, _⟩ : Late P ops x.1 y.1 o := by
        rcases q5 with q5 | q5
        · rw [hhv] at q5; cases q5
        · exact q5
      obtain ⟨bk, f, hmk⟩ := Tr.make (G := G) ho hk hgd (fun z hz => let ⟨_, oz, z1, z2, _⟩ := hfacts z hz; ⟨oz, z1, z2⟩) r1
      obtain ⟨w', v', g1, g2⟩ := sim_make (P := P) (w := w) sim1.rel hk hmk
      obtain ⟨m, zf, ob, e1, e2, e3, e4, hcl⟩ := g2
      have hstp := step_push sim1.st.rel e1 e2 e3 e4
      have hr0' : r0 < a1.next := Nat.lt_of_lt_of_le hr0 sim1.st.ext.1
      have hr1' : ρ1 r0 = none := by
        rcases sim1.st.ext.2 r0 hr0 with h | h
        · rw [h]; exact hr1
        · exact h
      have hvr : VRel ρ1 a1.next (f r0) v' := (hcl ρ1 a1.next r0 (.refl _ _) hr0' (fun I e => by rw [hr1'] at e; cases e)).2
      have hwant : Region.wanted o (yielded ops act.tmps) = true := by unfold Region.wanted; rw [hgd]
      have hs1 := step_value (P := P) (b := b) (k := k) (cs := cs) (a := act) (w := w) (rest := Region.linearise.go .any ops n (t / (Region.ready .any ops listed).length) (listed.setIfInBounds y.1 true) []) ho hwant (kind_defer (P := P) (by rw [hk]; simp)) g1
      have stage' : Stage P ops N (u ++ y :: v) ((y.1, w.heap.size) :: pend1) (listed.setIfInBounds y.1 true) := by
        refine ⟨by rw [Array.size_setIfInBounds]; exact s1.size, fun j hj => ?_, s1.rises, s1.inside, fun j o2 hj2 hjn x hx => ?_, s1.calm, s1.fuel, fun j hj => ?_, ?_⟩
        · rw [hset j hj, s1.listed j hj, List.map_cons, List.mem_cons]
          exact ⟨fun hh => ⟨hh.1.1, fun h2 => h2.elim hh.2 hh.1.2⟩, fun hh => ⟨⟨hh.1, fun h2 => hh.2 (.inr h2)⟩, fun h2 => hh.2 (.inl h2)⟩⟩
        · rw [List.map_cons, List.mem_cons] at hjn
          rcases hjn with hjn | rfl | hjn
          · exact s1.closed j o2 hj2 (.inl hjn) x hx
          · exact hanc x hx
          · exact s1.closed j o2 hj2 (.inr hjn) x hx
        · rw [List.map_cons, List.mem_cons] at hj
          rcases hj with rfl | hj
          · exact him1
          · exact s1.sub j hj
        · rw [List.map_cons, List.nodup_cons]
          refine ⟨fun hh => ?_, s1.apart⟩
          obtain ⟨q, hq1, hq2⟩ := List.mem_map.1 hh
          obtain ⟨_, _, _, _, _, _, _, _, _, _, _, _, h6, _⟩ := sim1.held q hq1
          have := (Array.getElem?_eq_some_iff.1 h6).1
          simp only at hq2
          omega
      have hpush : w'.heap[w.heap.size]? = some ob := by rw [e1]; simp
      have sim' : Sim P ops ρ0 K0 w0 ((y.1, w.heap.size) :: pend1) ρ1 a1 w' (putT t1 o.dst (f r0)) (act.put o.dst v') := by
        refine ⟨sim1.st.trans hstp, rel_put sim1.rel _ hvr, fun q hq => ?_⟩
        rcases List.mem_cons.1 hq with rfl | hq
        · refine ⟨o, bk, f, m, zf, ob, v', ho, hk, hgd, hown, by rw [make_congr (eval_look hown t1 (f r0))]; exact hmk, hpush, sim1.st.size, fun j I e => ?_, fun d hd hs => ?_, hcl⟩
          · have := sim1.st.rel.bound e
            simp only; omega
          · rw [hd] at hs ⊢
            show (act.tmps.setIfInBounds d v')[d]? = some v'
            have hsz : (act.tmps.setIfInBounds d v').size = act.tmps.size := Array.size_setIfInBounds
            change d < (act.tmps.setIfInBounds d v').size at hs
            rw [hsz] at hs
            simp [hs]
        · exact (sim1.held q hq).step hstp (hothers q hq) (f r0) v'
      have htr' := Tr.wild (G := G) ho hown (f r0) (fun z hz => let ⟨_, oz, z1, _, z3, _⟩ := hfacts z hz; ⟨oz, z1, z3⟩) r1
      have hlv : (live (u ++ y :: v) ((y.1, w.heap.size) :: pend1)).length = n := by
        rw [live_pend w.heap.size hnot]
        have := live_split (u := u) (v := v) hip1
        omega
      obtain ⟨ρ2, act2, w2, hs2, st2, ht2, hd2⟩ := ih _ _ hlv (t / (Region.ready .any ops listed).length) (listed.setIfInBounds y.1 true) stage' htr' b1 ρ1 w' (act.put o.dst v') b k cs sim'
      refine ⟨ρ2, act2, w2, ?_, st2, ht2, hd2.trans (put_defers _ _ _)⟩
      rw [hgo]
      exact .head hs1 hs2
    · -- both do it
      have hfree : ∀ x ∈ u, x.2.1 ≤ N ∧ Free P ops x y := by
        intro x hx
        obtain ⟨hun, ox, q1, q3, q4, q5⟩ := hfacts x hx
        have hcl := (List.pairwise_append.1 s1.calm).2.2 x hx y (by simp) hun
        refine ⟨s1.fuel x (by simp [hx]), ox, o, q1, ho, q3, q4, ?_, hcl⟩
        cases hh : (heavy (kindO P ox) && heavy (kindO P o)) with
        | false => rfl
        | true => exact absurd ⟨x, hx, ox, q1, hh⟩ hlate
      have hyN := s1.fuel y (by simp)
      have htr' := Tr.first hc hyN hfree b1 r1
      obtain ⟨yi, ym, yn⟩ := y
      cases htr' with
      | @cons _ _ _ _ _ t3 _ _ a3 _ h1 r =>
        have cy := hc ym hyN
        simp only at ho hisz hset hnot hmem hanc hip1 him1 hgo hothers
        obtain ⟨ρ2, vv, v', w2, hput, hs1, st2, ht2⟩ := step_sim cy.1 cy.2 h1 b1 b k cs (Region.linearise.go .any ops n (t / (Region.ready .any ops listed).length) (listed.setIfInBounds yi true) []) sim1.st.rel sim1.rel
        have hdst : (ops[yi]?).bind (·.dst) = o.dst := by rw [ho]; rfl
        rw [hdst] at hput hs1 ht2
        have hev := stepR_evo cy.1 cy.2 h1 b1
        have hsub : (u ++ v).Sublist (u ++ (yi, ym, yn) :: v) := List.Sublist.append (List.Sublist.refl _) (List.sublist_cons_self _ _)
        have stage' : Stage P ops N (u ++ v) pend1 (listed.setIfInBounds yi true) := by
          refine ⟨by rw [Array.size_setIfInBounds]; exact s1.size, fun j hj => ?_, s1.rises.sublist (hsub.map _), fun j hj => s1.inside j ((hsub.map _).subset hj), fun j o2 hj2 hjn x hx => ?_, s1.calm.sublist hsub, fun x hx => s1.fuel x (hsub.subset hx), fun j hj => ?_, s1.apart⟩
          · rw [hset j hj, s1.listed j hj]
            by_cases hjy : j = yi
            · subst hjy
              exact ⟨fun hh => absurd rfl hh.2, fun hh => absurd hh.1 hnot⟩
            · rw [hmem j hjy]
              exact ⟨fun hh => hh.1, fun hh => ⟨hh, hjy⟩⟩
          · by_cases hjy : j = yi
            · subst hjy
              exact fun hh => hanc x hx ((hsub.map _).subset hh)
            · have : j ∉ (u ++ (yi, ym, yn) :: v).map (·.1) ∨ j ∈ pend1.map (·.1) := hjn.imp (fun h h2 => h ((hmem j hjy).1 h2)) id
              exact fun hh => s1.closed j o2 hj2 this x hx ((hsub.map _).subset hh)
          · have hjy : j ≠ yi := fun hh => hip1 (hh ▸ hj)
            exact (hmem j hjy).1 (s1.sub j hj)
        have sim' : Sim P ops ρ0 K0 w0 pend1 ρ2 a3 w2 t3 (act.put o.dst v') := by
          refine ⟨sim1.st.trans st2, ht2, fun q hq => ?_⟩
          rw [hput]
          exact (sim1.held q hq).step st2 (hothers q hq) vv v'
        have hlv : (live (u ++ v) pend1).length = n := by
          have := live_split (u := u) (v := v) (y := (yi, ym, yn)) hip1
          omega
        obtain ⟨ρ3, act3, w3, hs3, st3, ht3, hd3⟩ := ih _ _ hlv (t / (Region.ready .any ops listed).length) (listed.setIfInBounds yi true) stage' r (hev.le b1) ρ2 w2 (act.put o.dst v') b k cs sim'
        refine ⟨ρ3, act3, w3, ?_, st3, ht3, hd3.trans (put_defers _ _ _)⟩
        rw [hgo]
        exact hs1.trans hs3
end
end
/- What the evaluator answers is what the program answers. -/
section
open Go Go.RowKit
set_option linter.unusedVariables false
set_option linter.unusedSimpArgs false

section
variable {P : Program} {G : Gives}
theorem trace_of {ops : Array Oper} : ∀ (n : Nat) (l : List Nat) (notes : List (Nat × Note)) (t : List Value) (a : AW) (t2 : List Value) (a2 : AW), regA P G n ops l notes t a = some (t2, a2) →
    ∃ rem : List TOp, rem.map (·.1) = l ∧ Tr P G ops rem t a t2 a2 ∧ (∀ x ∈ rem, x.2.1 < n) ∧ (rem.Pairwise fun x y => unord (ancs ops) x.1 y.1 = true → clash x.2.2 y.2.2 = false) ∧
      ∀ x ∈ rem, ∀ j m, (j, m) ∈ notes → unord (ancs ops) j x.1 = true → clash m x.2.2 = false := by
  intro n
  induction n with
  | zero => intro l notes t a t2 a2 h; cases h
  | succ n ih =>
    intro l notes t a t2 a2 h
    unfold regA at h
    cases l with
    | nil =>
      simp only [Option.some.injEq, Prod.mk.injEq] at h
      obtain ⟨rfl, rfl⟩ := h
      exact ⟨[], rfl, .nil _ _, fun x hx => (by cases hx), .nil, fun x hx => (by cases hx)⟩
    | cons i l =>
      simp only at h
      split at h
      · cases h
      · rename_i nt t1 a1 hst
        split at h
        · rename_i hcalm
          obtain ⟨rem, h1, h2, h3, h4, h5⟩ := ih l _ _ _ _ _ h
          have hc : ∀ j m, (j, m) ∈ notes → unord (ancs ops) j i = true → clash m nt = false := by
            intro j m hjm hu
            have := List.all_eq_true.1 hcalm (j, m) hjm
            simpa [hu] using this
          refine ⟨(i, n, nt) :: rem, by rw [List.map_cons, h1], .cons hst h2, fun x hx => ?_, ?_, fun x hx j m hjm hu => ?_⟩
          · rcases List.mem_cons.1 hx with rfl | hx
            · exact Nat.lt_succ_self _
            · exact Nat.lt_succ_of_lt (h3 x hx)
          · rw [List.pairwise_cons]
            exact ⟨fun x hx hu => h5 x hx i nt (by simp) hu, h4⟩
          · rcases List.mem_cons.1 hx with rfl | hx
            · exact hc j m hjm hu
            · exact h5 x hx j m (by simp [hjm]) hu
        · cases h
/-- A number is passed over. -/
theorem step_pass {ρ : Ren} {a : AW} {w : World} (h : WRel ρ a w) : Step ρ a.next w ρ { a with next := a.next + 1 } w := by
  have hx : Ext ρ a.next ρ (a.next + 1) := ⟨Nat.le_succ _, fun i _ => .inl rfl⟩
  have fl : ∀ {n : Nat} {l : List (Nat × Blk)}, Falls n l → Falls (n + 1) l := by
    intro n l hf
    cases hf with
    | nil => exact .nil _
    | cons h r => exact .cons (Nat.lt_succ_of_lt h) r
  refine ⟨⟨fl h.falls, fun i I e => Nat.lt_succ_of_lt (h.lt i I e), fun i I e => ?_, h.has, h.inj⟩, hx, fun i I e => .inl ⟨i, I, e, rfl, rfl⟩, fun _ _ _ => rfl, Nat.le_refl _, rfl, rfl, rfl⟩
  obtain ⟨b, o, e1, e2, e3⟩ := h.blk i I e
  exact ⟨b, o, e1, e2, e3.mono hx⟩
theorem reg_of {N : Nat} (hc : ∀ m, m ≤ N → CallAt P G m ∧ RoundAt P G m) : RegAt P G (N + 1) := by
  intro ops tmps a tmps' a' hplan h hb
  obtain ⟨rem, h1, h2, h3, h4, _⟩ := trace_of _ _ _ _ _ _ _ h
  have hp := plan_of hplan
  have hN : ∀ x ∈ rem, x.2.1 ≤ N := fun x hx => Nat.le_of_lt_succ (h3 x hx)
  have hb' : ({ a with next := a.next + 1 } : AW).base ≤ ({ a with next := a.next + 1 } : AW).next := Nat.le_succ_of_le hb
  have hpass : Evo a { a with next := a.next + 1 } := ⟨rfl, Nat.le_succ _, fun _ h => h, fun _ _ _ => rfl⟩
  refine ⟨hpass.trans (h2.evo hc hN hb'), fun ρ w act b k cs t hw ht => ?_⟩
  have hlen : rem.length = ops.size := by
    have := congrArg List.length h1
    simpa using this
  have stage : Stage P ops N rem [] (Array.replicate ops.size false) := by
    refine ⟨by simp, fun i hi => ?_, by rw [h1]; exact List.pairwise_lt_range, fun i hi => by rw [h1] at hi; simpa using hi, fun j o ho hj x hx => ?_, h4, hN, fun i hi => (by cases hi), .nil⟩
    · rw [h1]; simp [Array.getD_eq_getD_getElem?, hi]
    · rw [h1] at hj
      have := (Array.getElem?_eq_some_iff.1 ho).1
      rcases hj with hj | hj
      · exact absurd (List.mem_range.2 this) hj
      · cases hj
  have st := step_pass hw
  have hlive : (live rem []).length = ops.size := by
    rw [← hlen]; unfold live; simp
  have := lin_sim hp hc (ρ0 := ρ) (K0 := a.next + 1) (w0 := w) (r0 := a.next) (Nat.lt_succ_self _) (hw.none (Nat.le_refl _)) ops.size rem [] hlive t (Array.replicate ops.size false) stage h2 hb' ρ w act b k cs
    ⟨.refl st.rel, ht.mono st.ext, fun p hp => (by cases hp)⟩
  obtain ⟨ρ1, act1, w1, hs, st1, ht1, hd1⟩ := this
  exact ⟨ρ1, act1, w1, hs, st.trans st1, ht1, hd1⟩

/-- All of it, at every number of rounds. -/
theorem sound_all (hm : P.follows .mixedOrders = true) (hn : plainNames P = true) (hG : G.Sound P) : ∀ n, ∀ m, m ≤ n → OpsAt P G m ∧ RegAt P G m ∧ CodeAt P G m ∧ CallAt P G m ∧ RoundAt P G m := by
  intro n
  induction n with
  | zero =>
    intro m hm0
    obtain rfl : m = 0 := by omega
    refine ⟨?_, ?_, ?_, ?_, ?_⟩
    · intro fn ro ops l tmps a tmps' a' h; simp [opsA] at h
    · intro ops tmps a tmps' a' hp h; simp [regA] at h
    · intro fn ro c tmps ds a e tmps' ds' a' h; simp [codeA] at h
    · intro f args a v a' h; simp [callA] at h
    · intro l args a v a' h; simp [roundA] at h
  | succ n ih =>
    intro m hmn
    by_cases hle : m ≤ n
    · exact ih m hle
    · obtain rfl : m = n + 1 := by omega
      obtain ⟨h1, h2, h3, h4, h5⟩ := ih n (Nat.le_refl _)
      exact ⟨ops_succ h1 h4 h5, reg_of fun m hm => ⟨(ih m hm).2.2.2.1, (ih m hm).2.2.2.2⟩, code_succ hm hn h3 h1 h2 h4, call_succ hn hG h3, round_succ h3⟩
theorem sound (hm : P.follows .mixedOrders = true) (hn : plainNames P = true) (hG : G.Sound P) (n : Nat) : CallAt P G n := (sound_all hm hn hG n n (Nat.le_refl _)).2.2.2.1

def none_ : Gives := fun _ => none
theorem none_sound (P : Program) : none_.Sound P := ⟨fun f g h => (by cases h), fun f g h => (by cases h)⟩
def empty : AW := { next := 0, heap := [], base := 0, dirty := [] }
def noRen : Ren := fun _ => none
theorem rel_empty (w : World) : WRel noRen empty w :=
  ⟨.nil 0, fun i I h => (by cases h), fun i I h => (by cases h), fun i b h => (by cases h), fun i j I J h => (by cases h)⟩
theorem below_of {a : AW} {w w' : World} {ρ' : Ren} (st : Step noRen 0 w ρ' a w') : Below w.heap.size w w' :=
  ⟨st.os, st.tape, st.output, st.size, fun k hk => st.frame k hk fun i I h => (by cases h)⟩
/-- A call that asks no memory of others. -/
theorem closed_calls (hm : P.follows .mixedOrders = true) (hn : plainNames P = true) (hG : G.Sound P) {f : FuncId} {fn : Func} (hf : P.funcs[f]? = some fn) (hb : fn.body.isSome = true) {args : Array Value} (ha : args.toList.all flat = true) {n : Nat} {v : Value} {a' : AW}
    (h : callA P G n f args empty = some (v, a')) (hv : flat v = true) (w : World) : Calls P f args w fun e w' => e = .returned v ∧ Below w.heap.size w w' := by
  obtain ⟨_, sim⟩ := sound hm hn hG n f args empty v a' h (Nat.le_refl _)
  have hc := sim noRen w args (rel_empty w) (flats_self ha)
  have hent := names_enter hn hf hb args w
  rcases hc with ⟨v1, w1, e1, _⟩ | ⟨_, hcl⟩
  · rw [hent] at e1; cases e1
  · refine hcl.mono fun e w' hh => ?_
    obtain ⟨v', rfl, ρ', st, hr⟩ := hh
    rw [flat_eq hv hr]
    exact ⟨rfl, below_of st⟩
/-- Such a call, its answer told by a test. -/
def tells (r : Option (Value × AW)) (v : Bool) : Bool :=
  match r with
  | some (.bool b, _) => b == v
  | _ => false
theorem closed_bool (hm : P.follows .mixedOrders = true) (hn : plainNames P = true) {f : FuncId} {fn : Func} (hf : P.funcs[f]? = some fn) (hb : fn.body.isSome = true) {n : Nat} {b : Bool}
    (h : tells (callA P none_ n f #[] empty) b = true) (w : World) : Calls P f #[] w fun e w' => e = .returned (.bool b) ∧ Below w.heap.size w w' := by
  cases hr : callA P none_ n f #[] empty with
  | none => rw [hr] at h; cases h
  | some r =>
    obtain ⟨v, a'⟩ := r
    rw [hr] at h
    cases v with
    | bool c =>
      have : c = b := by simpa [tells] using h
      subst this
      exact closed_calls hm hn (none_sound P) hf hb rfl hr rfl w
    | _ => cases h
end
end
/- Calls of flat values that were reckoned before. -/
section
open Go Go.RowKit
set_option linter.unusedVariables false
set_option linter.unusedSimpArgs false

/-- What was reckoned of one function: arguments, answer. -/
structure Known where
  f : FuncId
  args : Array Value
  v : Value
def eqList (e : Value → Value → Bool) : List Value → List Value → Bool
  | [], [] => true
  | a :: x, b :: y => e a b && eqList e x y
  | _, _ => false
/-- Equal flat values: no false yes. -/
def eqN : Nat → Value → Value → Bool
  | 0, _, _ => false
  | n + 1, v, u => match v, u with
    | .bool a, .bool b => a == b
    | .int k a, .int j b => decide (k = j) && decide (a = b)
    | .string s, .string t => eqBytes (strOf s) (strOf t)
    | .agg c, .agg d => eqList (eqN n) c.toList d.toList
    | .tuple c, .tuple d => eqList (eqN n) c.toList d.toList
    | _, _ => false
theorem eqList_of {e : Value → Value → Bool} (h : ∀ a b, e a b = true → a = b) : ∀ {l m : List Value}, eqList e l m = true → l = m
  | [], [], _ => rfl
  | [], _ :: _, q => by cases q
  | _ :: _, [], q => by cases q
  | a :: x, b :: y, q => by
    simp only [eqList, Bool.and_eq_true] at q
    rw [h a b q.1, eqList_of h q.2]
theorem eqBytes_of : ∀ {l m : List UInt8}, eqBytes l m = true → l = m
  | [], [], _ => rfl
  | [], _ :: _, q => by cases q
  | _ :: _, [], q => by cases q
  | a :: x, b :: y, q => by
    simp only [eqBytes, Bool.and_eq_true] at q
    rw [UInt8.toNat_inj.1 (Nat.eq_of_beq_eq_true q.1), eqBytes_of q.2]
theorem eqN_of : ∀ n v u, eqN n v u = true → v = u := by
  intro n
  induction n with
  | zero => intro v u h; cases h
  | succ n ih =>
    intro v u h
    unfold eqN at h
    split at h
    · simpa using h
    · simp only [Bool.and_eq_true, decide_eq_true_eq] at h
      rw [h.1, h.2]
    · rename_i s t
      have := eqBytes_of h
      obtain ⟨⟨s⟩⟩ := s
      obtain ⟨⟨t⟩⟩ := t
      simp only [strOf] at this
      subst this; rfl
    · rename_i c d
      rw [Array.toList_inj.1 (eqList_of ih h)]
    · rename_i c d
      rw [Array.toList_inj.1 (eqList_of ih h)]
    · cases h
def findK (f : FuncId) (args : Array Value) : List Known → Option Value
  | [] => none
  | k :: r => if k.f = f then (if eqList (eqN 6) k.args.toList args.toList then some k.v else findK f args r) else findK f args r
def memo (l : List Known) : Gives := fun f => some fun args a => (findK f args l).map (·, a)
/-- A fact that was reckoned. -/
def Known.Holds (P : Program) (k : Known) : Prop := k.args.toList.all flat = true ∧ flat k.v = true ∧ (∃ fn, P.funcs[k.f]? = some fn ∧ fn.body.isSome = true) ∧ ∀ w, Calls P k.f k.args w fun e w' => e = .returned k.v ∧ Below w.heap.size w w'
theorem findK_of {f : FuncId} {args : Array Value} {v : Value} : ∀ {l : List Known}, findK f args l = some v → ∃ k ∈ l, k.f = f ∧ k.args = args ∧ k.v = v
  | [], h => by cases h
  | k :: r, h => by
    unfold findK at h
    split at h
    · rename_i hf
      split at h
      · rename_i he
        cases h
        exact ⟨k, by simp, hf, Array.toList_inj.1 (eqList_of (eqN_of 6) he), rfl⟩
      · obtain ⟨k', h1, h2⟩ := findK_of h
        exact ⟨k', by simp [h1], h2⟩
    · obtain ⟨k', h1, h2⟩ := findK_of h
      exact ⟨k', by simp [h1], h2⟩
theorem step_below {ρ : Ren} {a : AW} {w w' : World} (h : WRel ρ a w) (hb : Below w.heap.size w w') : Step ρ a.next w ρ a w' := by
  obtain ⟨h1, h2, h3, h4, h5⟩ := hb
  refine ⟨⟨h.falls, h.lt, fun i I e => ?_, h.has, h.inj⟩, .refl _ _, fun i I e => .inl ⟨i, I, e, rfl, rfl⟩, fun b hlt _ => h5 b hlt, h4, h1, h2, h3⟩
  obtain ⟨b, o, e1, e2, e3⟩ := h.blk i I e
  exact ⟨b, o, e1, by rw [h5 _ (h.bound e)]; exact e2, e3⟩
section
variable {P : Program}
theorem memo_sound (hn : plainNames P = true) {l : List Known} (h : ∀ k ∈ l, k.Holds P) : (memo l).Sound P := by
  refine ⟨fun f g hg ρ a w args args' v a' hw ha e => ?_, fun f g hg args a v a' hb e => ?_⟩
  · cases hg
    obtain ⟨v0, h1, h2⟩ := Option.map_eq_some_iff.1 e
    cases h2
    obtain ⟨k, hk, rfl, rfl, rfl⟩ := findK_of h1
    obtain ⟨q1, q2, ⟨fn, q3, q4⟩, q5⟩ := h k hk
    have he : args' = k.args := Array.toList_inj.1 (flats_eq q1 ha)
    subst he
    exact .inr ⟨names_enter hn q3 q4 _ w, (q5 w).mono fun e w' hh => ⟨k.v, hh.1, ρ, step_below hw hh.2, flat_self q2⟩⟩
  · cases hg
    obtain ⟨v0, h1, h2⟩ := Option.map_eq_some_iff.1 e
    cases h2
    exact .refl _
/-- One more fact, with the help of those before. -/
theorem known_more (hm : P.follows .mixedOrders = true) (hn : plainNames P = true) {l : List Known} (hl : ∀ k ∈ l, k.Holds P) {f : FuncId} {fn : Func} (hf : P.funcs[f]? = some fn) (hb : fn.body.isSome = true) {args : Array Value} {n : Nat} {v : Value} (ha : args.toList.all flat = true) (hv : flat v = true)
    (h : (match callA P (memo l) n f args empty with
      | some (u, _) => eqN 6 v u
      | none => false) = true) : (⟨f, args, v⟩ : Known).Holds P := by
  refine ⟨ha, hv, ⟨fn, hf, hb⟩, fun w => ?_⟩
  split at h
  · rename_i u a' hc
    obtain rfl := eqN_of 6 v u h
    exact closed_calls hm hn (memo_sound hn hl) hf hb ha hc hv w
  · cases h
theorem closed_memo (hm : P.follows .mixedOrders = true) (hn : plainNames P = true) {l : List Known} (hl : ∀ k ∈ l, k.Holds P) {f : FuncId} {fn : Func} (hf : P.funcs[f]? = some fn) (hb : fn.body.isSome = true) {n : Nat} {b : Bool}
    (h : tells (callA P (memo l) n f #[] empty) b = true) (w : World) : Calls P f #[] w fun e w' => e = .returned (.bool b) ∧ Below w.heap.size w w' := by
  cases hr : callA P (memo l) n f #[] empty with
  | none => rw [hr] at h; cases h
  | some r =>
    obtain ⟨v, a'⟩ := r
    rw [hr] at h
    cases v with
    | bool c =>
      have : c = b := by simpa [tells] using h
      subst this
      exact closed_calls hm hn (memo_sound hn hl) hf hb rfl hr rfl w
    | _ => cases h
end
end
end Go.Proofs.YtlbmjpmonaekgaaAM
