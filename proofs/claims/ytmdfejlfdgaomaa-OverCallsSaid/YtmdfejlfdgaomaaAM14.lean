/- What is forgotten behind a call. -/
import Derived.Test.YtmdfejlfdgaomaaAM13
namespace Go.Proofs.YtmdfejlfdgaomaaAM
open Go Go.RowKit
set_option linter.unusedVariables false
set_option linter.unusedSimpArgs false

theorem FnRel.down {ρ ρ1 : Ren} {K K1 : Nat} (hag : ∀ i, i < K → ρ1 i = ρ i) {f f' f'' : Fn} (h0 : FnRel ρ K f f'') (h : FnRel ρ1 K1 f f') : FnRel ρ K f f' := by
  cases h0 with
  | func f => cases h; exact .func f
  | yield hl _ => cases h with | yield _ h1 => exact .yield hl (fun I e => h1 I (by rw [hag _ hl]; exact e))
/-- What speaks of old blocks alone may be read with the old numbers. -/
theorem VRel.down {ρ ρ1 : Ren} {K K1 : Nat} (hag : ∀ i, i < K → ρ1 i = ρ i) {v v'' : Value} (h0 : VRel ρ K v v'') : ∀ {v' : Value}, VRel ρ1 K1 v v' → VRel ρ K v v' := by
  induction h0 with
  | bool b => intro v' h; cases h; exact .bool b
  | int k n => intro v' h; cases h; exact .int k n
  | float k n => intro v' h; cases h; exact .float k n
  | complex k n m => intro v' h; cases h; exact .complex k n m
  | string s => intro v' h; cases h; exact .string s
  | nilFunc => intro v' h; cases h; exact .nilFunc
  | nilIface => intro v' h; cases h; exact .nilIface
  | ptrNil => intro v' h; cases h; exact .ptrNil
  | mapNil => intro v' h; cases h; exact .mapNil
  | chanNil => intro v' h; cases h; exact .chanNil
  | sliceNil n c => intro v' h; cases h; exact .sliceNil n c
  | ptr hK hs _ => intro v' h; cases h with | ptr _ _ h1 => exact .ptr hK hs (fun I e => h1 I (by rw [hag _ hK]; exact e))
  | slice hK _ _ _ _ _ =>
    intro v' h
    cases h with
    | slice _ h1 hn hc h0 h2 => exact .slice hK (fun I e => h1 I (by rw [hag _ hK]; exact e)) hn hc h0 (fun z hz I e => h2 z hz I (by rw [hag _ hK]; exact e))
  | map hK _ => intro v' h; cases h with | map _ h1 => exact .map hK (fun I e => h1 I (by rw [hag _ hK]; exact e))
  | func hf e1 _ e2 _ ih1 ih2 =>
    intro v' h
    cases h with
    | func hf' q1 r1 q2 r2 => exact .func (hf.down hag hf') q1 (fun i p q => ih1 i p (by omega) (r1 i p q)) q2 (fun i p q => ih2 i p (by omega) (r2 i p q))
  | iface t _ ih => intro v' h; cases h with | iface _ hv => exact .iface t (ih hv)
  | agg e1 _ ih => intro v' h; cases h with | agg q1 r1 => exact .agg q1 (fun i p q => ih i p (by omega) (r1 i p q))
  | tuple e1 _ ih => intro v' h; cases h with | tuple q1 r1 => exact .tuple q1 (fun i p q => ih i p (by omega) (r1 i p q))
theorem LRel.down {ρ ρ1 : Ren} {K K1 : Nat} (hag : ∀ i, i < K → ρ1 i = ρ i) {l l'' : List Value} (h0 : LRel ρ K l l'') : ∀ {l' : List Value}, LRel ρ1 K1 l l' → LRel ρ K l l' := by
  induction h0 with
  | nil => intro l' h; cases h; exact .nil
  | cons hv _ ih => intro l' h; cases h with | cons hv' hr => exact .cons (hv.down hag hv') (ih hr)
theorem EsRel.down {ρ ρ1 : Ren} {K K1 : Nat} (hag : ∀ i, i < K → ρ1 i = ρ i) {l l'' : List MapEntry} (h0 : EsRel ρ K l l'') : ∀ {l' : List MapEntry}, EsRel ρ1 K1 l l' → EsRel ρ K l l' := by
  induction h0 with
  | nil => intro l' h; cases h; exact .nil
  | cons hv _ ih =>
    intro l' h
    cases h with
    | cons hv' hr =>
      refine .cons ?_ (ih hr)
      cases hv with
      | mk n h1 h2 => cases hv' with | mk _ g1 g2 => exact .mk n (h1.down hag g1) (h2.down hag g2)
theorem ORel.down {ρ ρ1 : Ren} {K K1 : Nat} (hag : ∀ i, i < K → ρ1 i = ρ i) {I : Info} {b : Blk} {o'' o' : Obj} (h0 : ORel ρ K I b o'') (h : ORel ρ1 K1 I b o') : ORel ρ K I b o' := by
  cases h0 with
  | @cells c c'' e fr hc _ =>
    obtain ⟨_, c', te, fr', rfl, hc', hw'⟩ := h.inv
    refine .cells (fun j v ej => ?_) hw'
    obtain ⟨v'', _, g2⟩ := hc j v ej
    obtain ⟨v', k1, k2⟩ := hc' j v ej
    exact ⟨v', k1, g2.down hag k2⟩
  | obj hr0 _ _ _ =>
    cases h with
    | obj hr h1 h2 h3 =>
      refine .obj ?_ h1 h2 h3
      cases hr0 with
      | map n hes => cases hr with | map _ hes' => exact .map n (hes.down hag hes')
      | stringIter s n => cases hr; exact .stringIter s n
      | mapIterNil n s m => cases hr; exact .mapIterNil n s m
      | mapIter n s m hK _ => cases hr with | mapIter _ _ _ _ h1 => exact .mapIter n s m hK (fun I e => h1 I (by rw [hag _ hK]; exact e))
      | loop st pd f ps x y hl hd _ => cases hr with | loop _ _ _ _ _ _ hl' _ h1 => exact .loop st pd f ps x y (hl.down hag hl') hd (fun I e => h1 I (by rw [hag _ hd]; exact e))
      | deferred => cases hr; exact .deferred
      | taken => cases hr; exact .taken

section
variable {ρ ρ1 : Ren} {a a1 : AW} {w w1 : World}
/-- Where old blocks are as they were, the old numbers speak of the new world. -/
theorem old_again (h : WRel ρ a w) (st : Step ρ a.next w ρ1 a1 w1) (hg : ∀ i, i < a.next → a1.get i = a.get i) : (∀ i, i < a.next → ρ1 i = ρ i) ∧ Step ρ a.next w ρ a w1 := by
  have hag : ∀ i, i < a.next → ρ1 i = ρ i := by
    intro i hi
    cases e : ρ i with
    | none =>
      rcases st.ext.2 i hi with e1 | e1
      · rw [e1, e]
      · exact e1
    | some I =>
      obtain ⟨b, _, g1, _, _⟩ := h.blk i I e
      obtain ⟨J, eJ⟩ := st.rel.has i b (by rw [hg i hi]; exact g1)
      rcases st.ext.2 i hi with e1 | e1
      · rw [e1, e]
      · rw [e1] at eJ; cases eJ
  refine ⟨hag, ⟨h.falls, h.lt, fun i I e => ?_, h.has, h.inj⟩, .refl _ _, fun i I e => .inl ⟨i, I, e, rfl, rfl⟩, st.frame, st.size, st.os, st.tape, st.output⟩
  obtain ⟨b, o, g1, g2, g3⟩ := h.blk i I e
  have hi := h.lt i I e
  obtain ⟨b', o', k1, k2, k3⟩ := st.rel.blk i I (by rw [hag i hi]; exact e)
  rw [hg i hi, g1] at k1
  cases k1
  exact ⟨b, o', g1, k2, g3.down hag k3⟩
theorem same_mem {a2 : AW} (h : WRel ρ a w) (h1 : a2.next = a.next) (h2 : a2.heap = a.heap) : WRel ρ a2 w := by
  refine ⟨by rw [h1, h2]; exact h.falls, by rw [h1]; exact h.lt, fun i I e => ?_, fun i b e => h.has i b (by simpa [AW.get, h2] using e), h.inj⟩
  obtain ⟨b, o, g1, g2, g3⟩ := h.blk i I e
  exact ⟨b, o, by simpa [AW.get, h2] using g1, g2, by rw [h1]; exact g3⟩
theorem step_mem {K : Nat} {a2 : AW} (st : Step ρ K w ρ1 a1 w1) (h1 : a2.next = a1.next) (h2 : a2.heap = a1.heap) : Step ρ K w ρ1 a2 w1 :=
  ⟨same_mem st.rel h1 h2, by rw [h1]; exact st.ext, st.img, st.frame, st.size, st.os, st.tape, st.output⟩

theorem filter_nil {l : List Value} (h : l.filter (fun v => !flat v) = []) : l.all flat = true := by
  rw [List.filter_eq_nil_iff] at h
  rw [List.all_eq_true]
  intro v hv
  have := h v hv
  simpa using this
/-- Behind a call. -/
theorem sim_leave (h : WRel ρ a w) {vs vs' : List Value} (st : Step ρ a.next w ρ1 a1 w1) (hv : LRel ρ1 a1.next vs vs') (hbase : a1.base = a.next) (hg : ∀ i, i < a.next → i ∉ a1.dirty → a1.get i = a.get i) :
    ∃ ρ2, Step ρ a.next w ρ2 (leaveA a vs a1).2 w1 ∧ LRel ρ2 (leaveA a vs a1).2.next (leaveA a vs a1).1 vs' := by
  have keep : ∀ d, ∃ ρ2, Step ρ a.next w ρ2 { next := a1.next, heap := a1.heap, base := a.base, dirty := d } w1 ∧ LRel ρ2 a1.next vs vs' := fun d => ⟨ρ1, step_mem st rfl rfl, hv⟩
  unfold leaveA
  split
  · rename_i hd
    have hd' : a1.dirty = [] := by simpa using hd
    have hg' : ∀ i, i < a.next → a1.get i = a.get i := fun i hi => hg i hi (by rw [hd']; simp)
    obtain ⟨hag, st0⟩ := old_again h st hg'
    split
    · rename_i hf
      have hall := filter_nil hf
      have := flats_eq hall hv
      subst this
      exact ⟨ρ, st0, flats_self hall⟩
    · rename_i v hf
      split
      · rename_i c q hfr
        -- the block that is kept
        have key : ∃ p, a.next ≤ p ∧ a1.get p = some (.cells c true) ∧ c.all flat = true ∧ p < a1.next ∧
            ∀ (ρ2 : Ren) (K2 : Nat) (v' : Value), VRel ρ1 a1.next v v' → a.next < K2 → (∀ I, ρ2 a.next = some I → ρ1 p = some I) → VRel ρ2 K2 (moveTo a.next v) v' := by
          unfold freshOf at hfr
          split at hfr
          · rename_i p
            split at hfr
            · rename_i hle
              split at hfr
              · rename_i c0 hgp
                split at hfr
                · rename_i hfl
                  cases hfr
                  refine ⟨p.block, by omega, hgp, hfl, ?_, fun ρ2 K2 v' hv' hK hρ => ?_⟩
                  · obtain ⟨J, eJ⟩ := st.rel.has _ _ hgp; exact st.rel.lt _ _ eJ
                  · cases hv' with
                    | ptr _ hs h1 => exact .ptr hK hs (fun I e => h1 I (hρ I e))
                · cases hfr
              · cases hfr
            · cases hfr
          · rename_i p n cap
            split at hfr
            · rename_i hle
              split at hfr
              · rename_i c0 hgp
                split at hfr
                · rename_i hfl
                  cases hfr
                  refine ⟨p.block, by omega, hgp, hfl, ?_, fun ρ2 K2 v' hv' hK hρ => ?_⟩
                  · obtain ⟨J, eJ⟩ := st.rel.has _ _ hgp; exact st.rel.lt _ _ eJ
                  · cases hv' with
                    | slice _ h1 hn hc h0 h2 => exact .slice hK (fun I e => h1 I (hρ I e)) hn hc h0 (fun z hz I e => h2 z hz I (hρ I e))
                · cases hfr
              · cases hfr
            · cases hfr
          · cases hfr
        obtain ⟨p, hp1, hp2, hfl, hp3, hmv⟩ := key
        obtain ⟨I, eI⟩ := st.rel.has _ _ hp2
        obtain ⟨b, o, k1, k2, k3⟩ := st.rel.blk _ _ eI
        rw [hp2] at k1
        cases k1
        have hx : Ext ρ a.next (upd ρ a.next (some I)) (a.next + 1) := ⟨Nat.le_succ _, fun i hi => .inl (upd_ne _ _ (by omega))⟩
        have hI : I.rw = true := k3.inv.1
        refine ⟨upd ρ a.next (some I), ⟨⟨.cons (Nat.lt_succ_self _) h.falls, ?_, ?_, ?_, ?_⟩, hx, ?_, st.frame, st.size, st.os, st.tape, st.output⟩, ?_⟩
        · intro i J e
          by_cases hi : i = a.next
          · subst hi; exact Nat.lt_succ_self _
          · rw [upd_ne _ _ hi] at e; exact Nat.lt_succ_of_lt (h.lt i J e)
        · intro i J e
          by_cases hi : i = a.next
          · subst hi
            rw [upd_self] at e
            cases e
            refine ⟨.cells c true, o, by simp [AW.get, AW.new, look], k2, ?_⟩
            obtain ⟨_, c', te, fr, rfl, hc, hw⟩ := k3.inv
            rw [← hI]
            refine .cells (fun j u ej => ?_) hw
            obtain ⟨u', m1, m2⟩ := hc j u ej
            have hfu : flat u = true := List.all_eq_true.1 hfl u (List.mem_of_getElem? ej)
            exact ⟨u', m1, by rw [flat_eq hfu m2]; exact flat_self hfu⟩
          · rw [upd_ne _ _ hi] at e
            obtain ⟨b', o', e1, e2, e3⟩ := st0.rel.blk i J e
            refine ⟨b', o', ?_, e2, e3.mono hx⟩
            simp only [AW.get, AW.new, look, if_neg hi]; exact e1
        · intro i b' e
          by_cases hi : i = a.next
          · subst hi; exact ⟨_, upd_self _ _ _⟩
          · simp only [AW.get, AW.new, look, if_neg hi] at e
            rw [upd_ne _ _ hi]; exact h.has i b' e
        · intro i j J L e1 e2 e3
          by_cases hi : i = a.next <;> by_cases hj : j = a.next
          · exact .inl (hi.trans hj.symm)
          · subst hi
            rw [upd_self] at e1; rw [upd_ne _ _ hj] at e2; cases e1
            have hjl := h.lt j L e2
            rcases st.rel.inj p j I L eI (by rw [hag j hjl]; exact e2) e3 with h' | h'
            · omega
            · rw [hI] at h'; exact absurd h'.1 (by simp)
          · subst hj
            rw [upd_self] at e2; rw [upd_ne _ _ hi] at e1; cases e2
            have hil := h.lt i J e1
            rcases st.rel.inj i p J I (by rw [hag i hil]; exact e1) eI e3 with h' | h'
            · omega
            · rw [hI] at h'; exact absurd h'.2 (by simp)
          · rw [upd_ne _ _ hi] at e1; rw [upd_ne _ _ hj] at e2; exact h.inj i j J L e1 e2 e3
        · intro i J e
          by_cases hi : i = a.next
          · subst hi; rw [upd_self] at e; cases e; exact st.img p I eI
          · rw [upd_ne _ _ hi] at e; exact .inl ⟨i, J, e, rfl, rfl⟩
        · show LRel _ (a.next + 1) (vs.map fun u => if flat u then u else moveTo a.next u) vs'
          have hone : ∀ u ∈ vs, flat u = false → u = v := by
            intro u hu hfu
            have : u ∈ vs.filter (fun v => !flat v) := List.mem_filter.2 ⟨hu, by simp [hfu]⟩
            rw [hf] at this
            simpa using this
          clear hf hg hfr keep
          induction hv with
          | nil => exact .nil
          | @cons u u' l l' hu hr ih =>
            simp only [List.map_cons]
            refine .cons ?_ (ih fun x hx => hone x (List.mem_cons_of_mem _ hx))
            by_cases hfu : flat u = true
            · rw [if_pos hfu, flat_eq hfu hu]; exact flat_self hfu
            · rw [if_neg hfu]
              have : u = v := hone u (by simp) (by simpa using hfu)
              subst this
              exact hmv _ _ _ hu (Nat.lt_succ_self _) (fun J eJ => by rw [upd_self] at eJ; cases eJ; exact eI)
      · exact keep _
    · exact keep _
  · exact keep _
end
end Go.Proofs.YtmdfejlfdgaomaaAM
