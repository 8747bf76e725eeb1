/- Calls and rounds. -/
import Derived.Test.YtmdfejlfdgaomaaAM17
namespace Go.Proofs.YtmdfejlfdgaomaaAM
open Go Go.RowKit
set_option linter.unusedVariables false
set_option linter.unusedSimpArgs false

section
variable {P : Program} {G : Gives}
theorem evo_unwind : ∀ {ds : List Nat} {a a' : AW}, unwindA ds a = some a' → Evo a a'
  | [], a, a', h => by cases h; exact .refl _
  | d :: ds, a, a', h => by
    simp only [unwindA] at h
    split at h
    · exact (evo_write _ _ _).trans (evo_unwind h)
    · cases h
/-- A frame on its way out takes the blocks of its loops' deferred calls. -/
theorem steps_unwind (cs : List Frame) : ∀ {ds : List Nat} {ρ : Ren} {a a' : AW} {w : World} {fr : Frame}, WRel ρ a w → DRel ρ a.next ds fr.defers → fr.mode = .returning → unwindA ds a = some a' →
    ∃ ρ' w', Steps P (lone fr cs w) (lone { fr with defers := [] } cs w') ∧ Step ρ a.next w ρ' a' w'
  | [], ρ, a, a', w, fr, hw, hd, hm, h => by
    cases h
    generalize hdf : fr.defers = df at hd
    cases hd
    refine ⟨ρ, w, ?_, .refl hw⟩
    rw [← hdf]
    exact .refl _ _
  | d :: ds, ρ, a, a', w, fr, hw, hd, hm, h => by
    simp only [unwindA] at h
    split at h
    · rename_i hg
      generalize hdf : fr.defers = df at hd
      cases hd with
      | @cons _ r _ l hK h1 h2 =>
        obtain ⟨I, o, j1, j2, j3, j4, j5⟩ := obj_rel hw hg
        cases j3
        obtain rfl := h1 I j1
        have htk := run_takeDeferred (P := P) j2
        obtain ⟨s2, st⟩ := sim_setObj (P := P) hw hg j1 j2 j5 j4 (n := .deferred none) (n' := .deferred none) .taken (by simp)
        have hs := step_collected (P := P) (fr := fr) (cs := cs) (by rw [hm]; simp) hdf rfl htk
        obtain ⟨ρ', w', hs', st'⟩ := steps_unwind (fr := { fr with defers := [] ++ l }) cs st.rel (by simpa using h2.mono st.ext) hm h
        exact ⟨ρ', w', .head hs hs', st.trans st'⟩
    · cases h
theorem call_succ {n : Nat} (hn : plainNames P = true) (hG : G.Sound P) (hcode : CodeAt P G n) : CallAt P G (n + 1) := by
  intro f args a v a' h hb
  unfold callA at h
  split at h
  · rename_i r hr
    cases h
    unfold given at hr
    split at hr
    · rename_i g hg
      exact ⟨hG.evo f g hg args a v a' hb hr, fun ρ w args' hw ha => hG.sim f g hg ρ a w args args' v a' hw ha hr⟩
    · cases hr
  · split at h
    · cases h
    · rename_i fn hf
      split at h
      · rename_i hc
        obtain ⟨_, rfl, _, _⟩ := extern_run hf hc h default
        refine ⟨.refl _, fun ρ w args' hw ha => ?_⟩
        obtain ⟨h1, _, h3, h4⟩ := extern_run hf hc h w
        have he : args' = args := by
          have := flats_eq h1 ha
          exact Array.toList_inj.1 this
        subst he
        exact .inl ⟨v, w, h4, ρ, .refl hw, flat_self h3⟩
      · rename_i c hc
        split at h
        · rename_i e tmps ds a1 hcd
          have hb1 : a.next ≤ a.next := Nat.le_refl _
          obtain ⟨ev1, sim1⟩ := hcode _ _ _ _ _ _ _ _ _ _ hcd (Nat.le_refl _)
          have fin : ∀ a2, unwindA ds a1 = some a2 → ∀ vs, resultsA P a2 tmps fn.results.toList = some vs → (e = .normal ∨ e = .ret) → oneOf (leaveA a vs a2).1 = v → (leaveA a vs a2).2 = a' →
              Evo a a' ∧ ∀ ρ w args', WRel ρ a w → LRel ρ a.next args.toList args'.toList → CallTo P f args' w fun v' w' => ∃ ρ', Step ρ a.next w ρ' a' w' ∧ VRel ρ' a'.next v v' := by
            intro a2 hu vs hvs he hv1 ha1
            have ev2 := ev1.trans (evo_unwind hu)
            refine ⟨?_, fun ρ w args' hw ha => ?_⟩
            · -- what is left alone
              rw [← ha1]
              have hnx : a.next ≤ a2.next := ev2.next
              have hgt : ∀ i, i < a.base → i ∉ a2.dirty → a2.get i = a.get i := fun i hi hni => ev2.get i (Nat.lt_of_lt_of_le hi hb) hni
              have soil : ∀ (l : List Nat), (∀ i ∈ a.dirty, i ∈ soilAll a.dirty a.base l) ∧ ∀ i ∈ l, i < a.base → i ∈ soilAll a.dirty a.base l := by
                intro l
                induction l with
                | nil => exact ⟨fun i h => h, fun i h => by cases h⟩
                | cons x l ih =>
                  have e0 : soilAll a.dirty a.base (x :: l) = if x < a.base then (if (soilAll a.dirty a.base l).contains x then soilAll a.dirty a.base l else x :: soilAll a.dirty a.base l) else soilAll a.dirty a.base l := rfl
                  rw [e0]
                  split
                  · split
                    · rename_i hcon
                      refine ⟨ih.1, fun i hi hib => ?_⟩
                      rcases List.mem_cons.1 hi with rfl | hi
                      · simpa using hcon
                      · exact ih.2 i hi hib
                    · refine ⟨fun i hi => .tail _ (ih.1 i hi), fun i hi hib => ?_⟩
                      rcases List.mem_cons.1 hi with rfl | hi
                      · exact .head _
                      · exact .tail _ (ih.2 i hi hib)
                  · rename_i hnlt
                    refine ⟨ih.1, fun i hi hib => ?_⟩
                    rcases List.mem_cons.1 hi with rfl | hi
                    · exact absurd hib hnlt
                    · exact ih.2 i hi hib
              unfold leaveA
              split
              · rename_i hd
                have hd' : a2.dirty = [] := by simpa using hd
                have hk : Evo a { next := a2.next, heap := a2.heap, base := a.base, dirty := a.dirty } := ⟨rfl, hnx, fun _ h => h, fun i hi hni => hgt i hi (by rw [hd']; simp)⟩
                split
                · exact .refl _
                · split
                  · exact evo_new _ _ hb
                  · exact hk
                · exact hk
              · exact ⟨rfl, hnx, (soil _).1, fun i hi hni => hgt i hi fun hh => hni ((soil _).2 i hh hi)⟩
            · -- what it comes to
              have hsz : args.size = args'.size := by simpa using ha.length
              refine .inr ⟨names_enter hn hf (by rw [hc]; rfl) args' w, fun cs => ?_⟩
              let b : Frame := { (default : Frame) with fn := f, kind := .normal }
              have henter : Frame.enter P f args' .normal = b.atR { tmps := args' ++ Array.replicate (fn.ntmps - args'.size) undef, defers := [] } [.code c] := by
                simp [Frame.enter, Frame.atR, hf, hc, b]
                rfl
              have htr : TRel ρ a.next (args.toList ++ List.replicate (fn.ntmps - args.size) undef) (args' ++ Array.replicate (fn.ntmps - args'.size) undef) := by
                show LRel ρ a.next _ _
                rw [Array.toList_append, Array.toList_replicate, hsz]
                exact ha.append (.replicate rel_undef _)
              obtain ⟨ρ1, act1, w1, ar1, _, st1, ht1, hd1⟩ := sim1 ρ w { tmps := args' ++ Array.replicate (fn.ntmps - args'.size) undef, defers := [] } b [] cs (same_mem hw rfl rfl) htr .nil rfl (fun _ => rfl)
              have hret : ∃ todo, Steps P (lone (Frame.enter P f args' .normal) cs w) (lone { b.atR act1 todo with mode := .returning } cs w1) := by
                rw [henter]
                rcases he with rfl | rfl
                · exact ⟨[], ar1.trans (.one (stepR_end rfl))⟩
                · obtain ⟨k1, hs1⟩ := ar1
                  exact ⟨_, hs1.trans (.one (stepR_ret rfl))⟩
              obtain ⟨todo, hs1⟩ := hret
              obtain ⟨ρ2, w2, hs2, st2⟩ := steps_unwind (P := P) cs (fr := { b.atR act1 todo with mode := .returning }) st1.rel hd1 rfl hu
              obtain ⟨vs', hl, hres⟩ := run_results_all (P := P) st2.rel (ht1.mono st2.ext) hvs
              have st12 := st1.trans st2
              obtain ⟨ρ3, st3, hl3⟩ := sim_leave (a := a) hw st12 hl ev2.base (fun i hi hni => ev2.get i hi hni)
              rw [ha1] at st3 hl3
              refine ⟨_, w2, _, ⟨_, rfl, ρ3, st3, hv1 ▸ rel_one hl3⟩, hs1.trans hs2, rfl, ?_⟩
              exact ⟨rfl, rfl, rfl, fn, hf, hres⟩
          have conv : ∀ {r : Option (Value × AW)}, (match unwindA ds a1 with
              | some a1 => match resultsA P a1 tmps fn.results.toList with
                | some vs => match leaveA a vs a1 with
                  | (vs, a2) => some (oneOf vs, a2)
                | none => none
              | none => none) = some (v, a') → ∃ a2, unwindA ds a1 = some a2 ∧ ∃ vs, resultsA P a2 tmps fn.results.toList = some vs ∧ oneOf (leaveA a vs a2).1 = v ∧ (leaveA a vs a2).2 = a' := by
            intro _ h
            split at h
            · rename_i a2 hu
              split at h
              · rename_i vs hvs
                simp only [Option.some.injEq, Prod.mk.injEq] at h
                exact ⟨a2, hu, vs, hvs, h.1, h.2⟩
              · cases h
            · cases h
          split at h
          · obtain ⟨a2, hu, vs, hvs, h1, h2⟩ := conv (r := none) h
            exact fin a2 hu vs hvs (.inl rfl) h1 h2
          · obtain ⟨a2, hu, vs, hvs, h1, h2⟩ := conv (r := none) h
            exact fin a2 hu vs hvs (.inr rfl) h1 h2
          · cases h
        · cases h

theorem rel_fold {ρ : Ren} {K : Nat} : ∀ (ps : List Tmp) (args args' : List Value) (t t' : List Value), LRel ρ K args args' → LRel ρ K t t' →
    LRel ρ K ((ps.zip args).foldl (fun t (x : Tmp × Value) => t.set x.1 x.2) t) ((ps.zip args').foldl (fun t (x : Tmp × Value) => t.set x.1 x.2) t')
  | [], _, _, t, t', _, ht => by simpa using ht
  | p :: ps, _, _, t, t', .nil, ht => by simpa using ht
  | p :: ps, _, _, t, t', .cons hv hr, ht => by
    simp only [List.zip_cons_cons, List.foldl_cons]
    exact rel_fold ps _ _ _ _ hr (ht.set hv p)
theorem fold_arr (ps : Array Tmp) (args : Array Value) (t : Array Value) :
    ((ps.zip args).foldl (fun t (x : Tmp × Value) => t.setIfInBounds x.1 x.2) t).toList = (ps.toList.zip args.toList).foldl (fun t (x : Tmp × Value) => t.set x.1 x.2) t.toList := by
  rw [← Array.foldl_toList, Array.toList_zip]
  generalize ps.toList.zip args.toList = l
  induction l generalizing t with
  | nil => rfl
  | cons x l ih => simp only [List.foldl_cons, ih, Array.toList_setIfInBounds]
theorem round_succ {n : Nat} (hcode : CodeAt P G n) : RoundAt P G (n + 1) := by
  intro l args a v a' h hb
  unfold roundA at h
  split at h
  · rename_i r hg
    split at h
    · rename_i hsz
      split at h
      · rename_i tmps a1 hx
        split at h
        · rename_i r1 hg1
          split at h
          · rename_i hst1
            split at h
            · rename_i e t2 d2 a2 hy
              split at h
              · rename_i r2 hg2
                cases h
                obtain ⟨ev1, sim1⟩ := hcode _ _ _ _ _ _ _ _ _ _ hx hb
                have evw := evo_write a1 l (.obj (.loop { r1 with state := .busy }))
                obtain ⟨ev2, sim2⟩ := hcode _ _ _ _ _ _ _ _ _ _ hy (evw.le (ev1.le hb))
                have evz := evo_write a2 l (.obj (.loop { r2 with state := if (jumpOf e).isNone then .ready else .done, pending := jumpOf e }))
                refine ⟨((ev1.trans evw).trans ev2).trans evz, fun ρ w l' args' hw hl hl' ha => ?_⟩
                obtain ⟨I, o, j1, j2, j3, j4, j5⟩ := obj_rel hw hg
                obtain rfl := hl' I j1
                obtain ⟨s0, p0, f0, t0, ps0, x0, y0, q0⟩ := r
                cases j3 with
                | @loop _ _ _ _ t' _ _ _ _ d' htr hdK hd1 =>
                  have hsz' : args'.size = ps0.size := by rw [← hsz]; simpa using ha.length.symm
                  have hyl := run_yield (P := P) j2 hsz'
                  refine ⟨_, _, _, _, hyl, fun c cs => ?_⟩
                  let b : Frame := { (default : Frame) with fn := f0, kind := .normal, roundOf := some I.b }
                  have henter : Frame.round I.b f0 ((ps0.zip args').foldl (fun tmps (x : Tmp × Value) => tmps.setIfInBounds x.1 x.2) t') x0 y0 .normal =
                      b.atR { tmps := (ps0.zip args').foldl (fun tmps (x : Tmp × Value) => tmps.setIfInBounds x.1 x.2) t', defers := [] } [.code x0, .beginRound, .code y0] := by
                    simp [Frame.round, Frame.atR, b]
                  have htrel : TRel ρ a.next ((ps0.toList.zip args.toList).foldl (fun t (x : Tmp × Value) => t.set x.1 x.2) t0.toList) ((ps0.zip args').foldl (fun tmps (x : Tmp × Value) => tmps.setIfInBounds x.1 x.2) t') := by
                    show LRel ρ a.next _ _
                    rw [fold_arr]
                    exact rel_fold _ _ _ _ _ ha htr
                  obtain ⟨ρ1, act1, w1, ar1, _, st1, ht1, hd1'⟩ := sim1 ρ w { tmps := (ps0.zip args').foldl (fun tmps (x : Tmp × Value) => tmps.setIfInBounds x.1 x.2) t', defers := [] } b [.beginRound, .code y0] (c :: cs) hw htrel .nil rfl (fun h => by cases h)
                  -- the record is ready: it is busy
                  obtain ⟨I1, o1, i1, i2, i3, i4, i5⟩ := obj_rel st1.rel hg1
                  have hI1 : I1 = I := by
                    have := st1.ext.some hl i1
                    rw [j1] at this; exact (Option.some.inj this).symm
                  subst hI1
                  obtain ⟨s1, p1, f1, t1, ps1, x1, y1, q1⟩ := r1
                  cases i3 with
                  | @loop _ _ _ _ t1' _ _ _ _ d1x htr1 hdK1 hdd1 =>
                    have hbr := run_beginRound (P := P) i2 hst1
                    obtain ⟨_, stw⟩ := sim_setObj (P := P) st1.rel hg1 i1 i2 i5 i4 (n := .loop ⟨.busy, p1, f1, t1, ps1, x1, y1, q1⟩) (n' := .loop ⟨.busy, p1, f1, t1', ps1, x1, y1, d1x⟩) (.loop _ _ _ _ _ _ htr1 hdK1 hdd1) (by simp)
                    obtain ⟨ρ2, act2, w2, ar2, _, st2, ht2, hd2'⟩ := sim2 ρ1 _ act1 b [] (c :: cs) stw.rel (ht1.mono stw.ext) (hd1'.mono stw.ext) rfl (fun h => by cases h)
                    have hst := (st1.trans stw).trans st2
                    -- the record is told how the round was left
                    obtain ⟨I2, o2, k1, k2, k3, k4, k5⟩ := obj_rel st2.rel hg2
                    have hI2 : I2 = I1 := by
                      have := hst.ext.some hl k1
                      rw [j1] at this; exact (Option.some.inj this).symm
                    subst hI2
                    obtain ⟨s2, p2, f2, t2, ps2, x2, y2, q2⟩ := r2
                    cases k3 with
                    | @loop _ _ _ _ t2' _ _ _ _ d2x htr2 hdK2 hdd2 =>
                      obtain ⟨_, stz⟩ := sim_setObj (P := P) st2.rel hg2 k1 k2 k5 k4 (n := .loop ⟨if (jumpOf e).isNone then .ready else .done, jumpOf e, f2, t2, ps2, x2, y2, q2⟩)
                        (n' := .loop ⟨if (jumpOf e).isNone then .ready else .done, jumpOf e, f2, t2', ps2, x2, y2, d2x⟩) (.loop _ _ _ _ _ _ htr2 hdK2 hdd2) (by simp)
                      have hend := run_endRound (P := P) (jumpOf e) k2
                      refine ⟨.bool (jumpOf e).isNone, _, ⟨ρ2, hst.trans stz, .bool _⟩, ?_⟩
                      have hhead : Steps P (lone (Frame.round I2.b f0 ((ps0.zip args').foldl (fun tmps (x : Tmp × Value) => tmps.setIfInBounds x.1 x.2) t') x0 y0 .normal) (c :: cs) w) (lone (b.atR act1 [.code y0]) (c :: cs) (w1.putObj I2.b (.loop ⟨.busy, p1, f1, t1', ps1, x1, y1, d1x⟩))) := by
                        rw [henter]
                        exact Steps.trans ar1 (.one (stepR_beginRound rfl hbr))
                      refine hhead.trans ?_
                      cases e with
                      | normal => exact Steps.trans ar2 (.one (stepR_round_end rfl rfl hend))
                      | ret => obtain ⟨kk, hs⟩ := ar2; exact hs.trans (.one (stepR_round_ret rfl rfl hend))
                      | exit id => obtain ⟨kk, hk, hs⟩ := ar2; exact hs.trans (.one (stepR_round_exit rfl rfl hk hend))
                      | goto g => exact ar2.elim
              · cases h
            · cases h
          · cases h
        · cases h
      · cases h
    · cases h
  · cases h
end
end Go.Proofs.YtmdfejlfdgaomaaAM
