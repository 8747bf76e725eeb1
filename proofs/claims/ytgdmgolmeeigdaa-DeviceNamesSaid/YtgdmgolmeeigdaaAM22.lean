/- Regions whose order is open: by the machine. All together. -/
import Derived.Test.YtgdmgolmeeigdaaAM21
namespace Go.Proofs.YtgdmgolmeeigdaaAM
open Go Go.RowKit
set_option linter.unusedVariables false
set_option linter.unusedSimpArgs false

section
variable {P : Program} {G : Gives} {ops : Array Oper}
theorem kind_defer {o : Oper} (h : kindO P o ≠ .work) : ∀ c, o.op ≠ .defer c := by
  intro c hc
  apply h
  unfold kindO; rw [hc]
theorem put_defers (a : Act) (d : Option Tmp) (v : Value) : (a.put d v).defers = a.defers := by cases d <;> rfl
/-- One operation of such a region, by the machine. -/
theorem step_sim {m : Nat} (hc : CallAt P G m) (hr : RoundAt P G m) {i : Nat} {t t1 : List Value} {a a1 : AW} {nt : Note} (h : stepR P (callA P G m) (roundA P G m) ops i t a = some (nt, t1, a1)) (hb : a.base ≤ a.next)
    {ρ : Ren} {w : World} {act : Act} (b : Frame) (k : List Item) (cs : List Frame) (rest : List Nat) (hw : WRel ρ a w) (ht : TRel ρ a.next t act.tmps) :
    ∃ ρ' act' w', Steps P (lone (b.atR act (.inRegion ops (i :: rest) :: k)) cs w) (lone (b.atR act' (.inRegion ops rest :: k)) cs w') ∧ Step ρ a.next w ρ' a1 w' ∧ TRel ρ' a1.next t1 act'.tmps ∧ act'.defers = act.defers := by
  unfold stepR at h
  split at h
  · cases h
  · rename_i o ho
    split at h
    · rename_i hwant
      have hy : Region.wanted o (yielded ops act.tmps) = true := by rw [rel_yielded ht]; exact hwant
      obtain ⟨⟨n1, v1, b1⟩, e1, e2⟩ := Option.map_eq_some_iff.1 h
      simp only [Prod.mk.injEq] at e2
      obtain ⟨rfl, rfl, rfl⟩ := e2
      unfold stepO at e1
      split at e1
      · rename_i hk
        obtain ⟨v0, q1, q2⟩ := Option.map_eq_some_iff.1 e1
        cases q2
        obtain ⟨v', g1, g2⟩ := sim_pure (P := P) ht hk q1 w
        exact ⟨ρ, act.put o.dst v', w, .one (step_value ho hy (kind_defer (P := P) (by rw [hk]; simp)) g1), .refl hw, rel_put ht _ g2, put_defers _ _ _⟩
      · rename_i hk
        split at e1
        · rename_i r hrd
          split at e1
          · cases e1
            obtain ⟨v', g1, g2⟩ := sim_read (P := P) hw ht hk hrd
            exact ⟨ρ, act.put o.dst v', w, .one (step_value ho hy (kind_defer (P := P) (by rw [hk]; simp)) g1), .refl hw, rel_put ht _ g2, put_defers _ _ _⟩
          · cases e1
        · cases e1
      · rename_i hk
        obtain ⟨v0, q1, q2⟩ := Option.map_eq_some_iff.1 e1
        cases q2
        obtain ⟨w', v', g1, g2⟩ := sim_make (P := P) (w := w) ht hk q1
        obtain ⟨ρ', st, hv'⟩ := step_makes hw g2
        exact ⟨ρ', act.put o.dst v', w', .one (step_value ho hy (kind_defer (P := P) (by rw [hk]; simp)) g1), st, rel_put (ht.mono st.ext) _ hv', put_defers _ _ _⟩
      · rename_i hk
        split at e1
        · cases e1
        · rename_i x a0 hwk
          obtain ⟨⟨v2, a2⟩, q1, q2⟩ := Option.map_eq_some_iff.1 e1
          cases q2
          have hd : ∀ c, o.op ≠ .defer c := by
            intro c hc2
            simp only [workA, hc2] at hwk
            cases hwk
          have ev0 := evo_work (a := { a with base := a.next, dirty := [] }) (Nat.le_refl _) hwk
          have hw0 : WRel ρ { a with base := a.next, dirty := [] } w := same_mem hw rfl rfl
          have hws := sim_work (P := P) hw0 ht hwk
          cases hws with
          | value hdn =>
            cases q1
            obtain ⟨ρ1, w1, nx, hrun, st, hnx⟩ := hdn
            have st' : Step ρ a.next w ρ1 { next := a0.next, heap := a0.heap, base := a.base, dirty := soilAll a.dirty a.base a0.dirty } w1 := step_mem st rfl rfl
            rcases hnx with ⟨v', rfl, hv⟩ | ⟨rfl, rfl⟩
            · exact ⟨ρ1, act.put o.dst v', w1, .one (step_value ho hy hd hrun), st', rel_put (ht.mono st.ext) _ hv, put_defers _ _ _⟩
            · exact ⟨ρ1, act.put o.dst undef, w1, .one (step_skipped ho hy hd hrun), st', rel_put (ht.mono st.ext) _ rel_undef, put_defers _ _ _⟩
          | enter ha hrun =>
            obtain ⟨_, simc⟩ := hc _ _ _ _ _ q1 (ev0.le (Nat.le_refl _))
            obtain ⟨v', w1, ⟨ρ1, st, hv⟩, hs1⟩ := steps_call (b := b) (k := k) (cs := cs) (rest := rest) ho hy hd hrun (simc ρ w _ hw0 ha)
            exact ⟨ρ1, act.put o.dst v', w1, hs1, step_mem st rfl rfl, rel_put (ht.mono st.ext) _ hv, put_defers _ _ _⟩
          | round hl hl' ha hrun =>
            obtain ⟨_, simc⟩ := hr _ _ _ _ _ q1 (ev0.le (Nat.le_refl _))
            obtain ⟨v', w1, ⟨ρ1, st, hv⟩, hs1⟩ := steps_round (b := b) (k := k) (cs := cs) (rest := rest) ho hy hd hrun (simc ρ w _ _ hw0 hl hl' ha)
            exact ⟨ρ1, act.put o.dst v', w1, hs1, step_mem st rfl rfl, rel_put (ht.mono st.ext) _ hv, put_defers _ _ _⟩
    · rename_i hwant
      cases h
      refine ⟨ρ, act.put o.dst undef, w, .one ?_, .refl hw, rel_put ht _ rel_undef, put_defers _ _ _⟩
      have := stepR_op_skip (P := P) (b := b) (a := act) (k := k) (cs := cs) (w := w) (ops := ops) (i := i) (rest := rest) (by
        rw [ho, rel_yielded ht]; simpa using hwant)
      rw [ho] at this
      exact this

structure Stage (P : Program) (ops : Array Oper) (N : Nat) (rem : List TOp) (listed : Array Bool) : Prop where
  size : listed.size = ops.size
  listed : ∀ i, i < ops.size → (listed.getD i true = false ↔ i ∈ rem.map (·.1))
  rises : (rem.map (·.1)).Pairwise (· < ·)
  inside : ∀ i ∈ rem.map (·.1), i < ops.size
  closed : ∀ j o, ops[j]? = some o → j ∉ rem.map (·.1) → ∀ x, ((ancs ops).getD j 0).testBit x = true → x ∉ rem.map (·.1)
  calm : rem.Pairwise fun x y => unord (ancs ops) x.1 y.1 = true → clash x.2.2 y.2.2 = false
  fuel : ∀ x ∈ rem, x.2.1 ≤ N
theorem Stage.getT {N : Nat} {rem : List TOp} {listed : Array Bool} (s : Stage P ops N rem listed) {i : Nat} (hi : i < ops.size) : (listed.getD i false = true ↔ i ∉ rem.map (·.1)) := by
  have hs : i < listed.size := by rw [s.size]; exact hi
  have h1 : listed.getD i true = listed[i] := by simp [Array.getD_eq_getD_getElem?, hs]
  have h2 : listed.getD i false = listed[i] := by simp [Array.getD_eq_getD_getElem?, hs]
  have := s.listed i hi
  rw [h1] at this
  rw [h2, ← this]
  cases listed[i] <;> simp
theorem lin_sim {N : Nat} (hp : Plan P ops) (hc : ∀ m, m ≤ N → CallAt P G m ∧ RoundAt P G m) : ∀ (n : Nat) (rem : List TOp), rem.length = n → ∀ (t : Nat) (listed : Array Bool), Stage P ops N rem listed →
    ∀ {t0 t2 : List Value} {a a2 : AW}, Tr P G ops rem t0 a t2 a2 → a.base ≤ a.next → ∀ ρ w (act : Act) (b : Frame) k cs, WRel ρ a w → TRel ρ a.next t0 act.tmps →
      ∃ ρ' act' w', Steps P (lone (b.atR act (.inRegion ops (Region.linearise.go .any ops n t listed []) :: k)) cs w) (lone (b.atR act' k) cs w') ∧ Step ρ a.next w ρ' a2 w' ∧ TRel ρ' a2.next t2 act'.tmps ∧ act'.defers = act.defers := by
  intro n
  induction n with
  | zero =>
    intro rem hl t listed st t0 t2 a a2 htr hb ρ w act b k cs hw ht
    obtain rfl := List.eq_nil_of_length_eq_zero hl
    cases htr
    exact ⟨ρ, act, w, .one stepR_region_end, .refl hw, ht, rfl⟩
  | succ n ih =>
    intro rem hl t listed st t0 t2 a a2 htr hb ρ w act b k cs hw ht
    -- what is ready
    have mem_ready : ∀ i, i ∈ Region.ready .any ops listed ↔ i < ops.size ∧ listed.getD i true = false ∧ ∃ o, ops[i]? = some o ∧ ∀ e ∈ o.after.toList, Region.binds .any e = true → listed.getD e.on false = true := by
      intro i
      unfold Region.ready
      rw [List.mem_filter, List.mem_range]
      constructor
      · rintro ⟨h1, h2⟩
        rw [Bool.and_eq_true] at h2
        obtain ⟨h2, h3⟩ := h2
        refine ⟨h1, by simpa using h2, ops[i], by simp [h1], fun e he hbd => ?_⟩
        have : ops[i]? = some ops[i] := by simp [h1]
        rw [this] at h3
        simp only [Option.map_some, Option.getD_some] at h3
        rw [← Array.all_toList, List.all_eq_true] at h3
        have := h3 e he
        rw [hbd] at this
        simpa using this
      · rintro ⟨h1, h2, o, ho, h3⟩
        refine ⟨h1, ?_⟩
        rw [h2, ho]
        simp only [Bool.not_false, Option.map_some, Option.getD_some, Bool.true_and]
        rw [← Array.all_toList, List.all_eq_true]
        intro e he
        cases hbd : Region.binds .any e with
        | false => rfl
        | true => rw [h3 e he hbd]; rfl
    obtain ⟨hd, tl, rfl⟩ : ∃ hd tl, rem = hd :: tl := by
      cases rem with
      | nil => simp at hl
      | cons hd tl => exact ⟨hd, tl, rfl⟩
    have hhd : hd.1 ∈ Region.ready .any ops listed := by
      have hin := st.inside hd.1 (by simp)
      refine (mem_ready hd.1).2 ⟨hin, (st.listed hd.1 hin).2 (by simp), ops[hd.1], by simp [hin], fun e he hbd => ?_⟩
      have hlt := hp.edge hd.1 ops[hd.1] (by simp [hin]) e he hbd
      refine (st.getT (Nat.lt_trans hlt hin)).2 fun hmem => ?_
      have hr := st.rises
      rw [List.map_cons, List.pairwise_cons] at hr
      rcases List.mem_cons.1 (by simpa using hmem : e.on ∈ hd.1 :: tl.map (·.1)) with he | he
      · omega
      · have := hr.1 e.on he; omega
    have hlen : 0 < (Region.ready .any ops listed).length := List.length_pos_of_mem hhd
    have hgo : ∃ i, i ∈ Region.ready .any ops listed ∧ Region.linearise.go .any ops (n + 1) t listed [] = i :: Region.linearise.go .any ops n (t / (Region.ready .any ops listed).length) (listed.setIfInBounds i true) [] := by
      have hlt : t % (Region.ready .any ops listed).length < (Region.ready .any ops listed).length := Nat.mod_lt _ hlen
      refine ⟨(Region.ready .any ops listed)[t % (Region.ready .any ops listed).length], List.getElem_mem _, ?_⟩
      simp only [Region.linearise.go]
      change (match (Region.ready .any ops listed)[t % (Region.ready .any ops listed).length]? with
        | some i => Region.linearise.go .any ops n (t / (Region.ready .any ops listed).length) (listed.setIfInBounds i true) [i]
        | none => [].reverse) = _
      rw [List.getElem?_eq_getElem hlt]
      simp only []
      rw [linearise_go_acc]
      rfl
    obtain ⟨i, hi, hgo⟩ := hgo
    obtain ⟨hisz, hil, o, ho, hed⟩ := (mem_ready i).1 hi
    have himem := (st.listed i hisz).1 hil
    obtain ⟨y, hymem, hyi⟩ := List.mem_map.1 himem
    obtain ⟨u, v, huv⟩ := List.append_of_mem hymem
    rw [huv] at st htr hl
    have hrises := st.rises
    rw [List.map_append, List.map_cons] at hrises
    obtain ⟨hr1, hr2, hr3⟩ := List.pairwise_append.1 hrises
    rw [List.pairwise_cons] at hr2
    have hanc : ∀ x, ((ancs ops).getD i 0).testBit x = true → x ∉ (u ++ y :: v).map (·.1) := by
      intro x hx
      obtain ⟨e, he, hbd, hor⟩ := hp.anc i o ho x hx
      have hel := hed e he hbd
      have hes : e.on < ops.size := Nat.lt_trans (hp.edge i o ho e he hbd) hisz
      have henot := (st.getT hes).1 hel
      rcases hor with rfl | hor
      · exact henot
      · exact st.closed e.on ops[e.on] (by simp [hes]) henot x hor
    have hfree : ∀ x ∈ u, x.2.1 ≤ N ∧ Free P ops x y := by
      intro x hx
      have hxlt : x.1 < i := by rw [← hyi]; exact hr3 x.1 (List.mem_map_of_mem hx) y.1 (by simp)
      have hxm : x.1 ∈ (u ++ y :: v).map (·.1) := by simp; exact .inl ⟨_, _, hx⟩
      have hxs := st.inside x.1 hxm
      have hun : unord (ancs ops) x.1 y.1 = true := by
        unfold unord
        rw [hyi]
        simp only [Bool.and_eq_true, Bool.not_eq_true', Bool.not_eq_true]
        constructor
        · cases hb1 : ((ancs ops).getD i 0).testBit x.1 with
          | false => rfl
          | true => exact absurd hxm (hanc x.1 hb1)
        · cases hb2 : ((ancs ops).getD x.1 0).testBit i with
          | false => rfl
          | true =>
            have := hp.lt x.1 x.1 (Nat.le_refl _) ops[x.1] (by simp [hxs]) i hb2
            omega
      obtain ⟨ox, oy, q1, q2, q3, q4, q5⟩ := hp.free x.1 y.1 (by rw [hyi]; exact hxlt) (by rw [hyi]; exact hisz) hun
      have hcl := (List.pairwise_append.1 st.calm).2.2 x hx y (by simp) hun
      exact ⟨st.fuel x (by simp [hx]), ox, oy, q1, q2, q3, q4, q5, hcl⟩
    have hyN := st.fuel y (by simp)
    have htr' := Tr.first hc hyN hfree hb htr
    obtain ⟨yi, ym, yn⟩ := y
    simp only at hyi
    subst hyi
    cases htr' with
    | @cons _ _ _ _ _ t1 _ _ a1 _ h1 r =>
      have cy := hc ym hyN
      obtain ⟨ρ1, act1, w1, hs1, st1, ht1, hd1⟩ := step_sim cy.1 cy.2 h1 hb b k cs (Region.linearise.go .any ops n (t / (Region.ready .any ops listed).length) (listed.setIfInBounds yi true) []) hw ht
      have hev := stepR_evo cy.1 cy.2 h1 hb
      have hnotin : yi ∉ (u ++ v).map (·.1) := by
        rw [List.map_append, List.mem_append]
        rintro (hh | hh)
        · have := hr3 yi hh yi (by simp); omega
        · have := hr2.1 yi hh; omega
      have hsub : (u ++ v).Sublist (u ++ (yi, ym, yn) :: v) := List.Sublist.append (List.Sublist.refl _) (List.sublist_cons_self _ _)
      have hmem : ∀ j, j ≠ yi → (j ∈ (u ++ (yi, ym, yn) :: v).map (·.1) ↔ j ∈ (u ++ v).map (·.1)) := by
        intro j hj
        rw [List.map_append, List.map_append, List.map_cons, List.mem_append, List.mem_append, List.mem_cons]
        constructor
        · rintro (h | h | h)
          · exact .inl h
          · exact absurd h hj
          · exact .inr h
        · rintro (h | h)
          · exact .inl h
          · exact .inr (.inr h)
      have stage' : Stage P ops N (u ++ v) (listed.setIfInBounds yi true) := by
        refine ⟨by rw [Array.size_setIfInBounds]; exact st.size, fun j hj => ?_, ?_, fun j hj => ?_, fun j o2 hj2 hjn x hx => ?_, st.calm.sublist hsub, fun x hx => st.fuel x (hsub.subset hx)⟩
        · have hjs : j < listed.size := by rw [st.size]; exact hj
          by_cases hjy : j = yi
          · subst hjy
            constructor
            · intro hh; simp [Array.getD_eq_getD_getElem?, hjs] at hh
            · intro hh; exact absurd hh hnotin
          · rw [← hmem j hjy, ← st.listed j hj]
            simp [Array.getD_eq_getD_getElem?, Array.getElem?_setIfInBounds_ne (Ne.symm hjy)]
        · exact st.rises.sublist (hsub.map _)
        · by_cases hjy : j = yi
          · subst hjy; exact absurd hj hnotin
          · exact st.inside j ((hmem j hjy).2 hj)
        · by_cases hjy : j = yi
          · subst hjy
            exact fun hh => hanc x hx ((hsub.map _).subset hh)
          · exact fun hh => st.closed j o2 hj2 (fun h => hjn ((hmem j hjy).1 h)) x hx ((hsub.map _).subset hh)
      obtain ⟨ρ2, act2, w2, hs2, st2, ht2, hd2⟩ := ih (u ++ v) (by simp at hl ⊢; omega) (t / (Region.ready .any ops listed).length) (listed.setIfInBounds yi true) stage' r (hev.le hb) ρ1 w1 act1 b k cs st1.rel ht1
      refine ⟨ρ2, act2, w2, ?_, st1.trans st2, ht2, hd2.trans hd1⟩
      rw [hgo]
      exact hs1.trans hs2
end
end Go.Proofs.YtgdmgolmeeigdaaAM
