/- Regions whose order is open: by the machine, all of them. -/
import Derived.Test.YtmdfejlfdgaomaaAM23
namespace Go.Proofs.YtmdfejlfdgaomaaAM
open Go Go.RowKit
set_option linter.unusedVariables false
set_option linter.unusedSimpArgs false

section
variable {P : Program} {G : Gives} {ops : Array Oper}
theorem stepR_is {m x : Nat} {o : Oper} (ho : ops[x]? = some o) {t t1 : List Value} {a a1 : AW} {nt : Note} (h : stepR P (callA P G m) (roundA P G m) ops x t a = some (nt, t1, a1)) : ∃ v, t1 = putT t o.dst v := by
  unfold stepR at h
  rw [ho] at h
  simp only at h
  split at h
  · obtain ⟨⟨n1, v1, b1⟩, e1, e2⟩ := Option.map_eq_some_iff.1 h
    cases e2; exact ⟨_, rfl⟩
  · cases h; exact ⟨_, rfl⟩
theorem Tr.make {y : TOp} {o : Oper} (ho : ops[y.1]? = some o) (hk : kindO P o = .make) (hg : o.guard = none) {v : List TOp} : ∀ {l : List TOp} {t t2 : List Value} {a a2 : AW},
    (∀ x ∈ l, ∃ ox, ops[x.1]? = some ox ∧ ox.apart ops o = true) → Tr P G ops (l ++ y :: v) t a t2 a2 → ∃ b f, makeA P t o = some (b, f)
  | [], t, t2, a, a2, _, h => by
    obtain ⟨i, m, nt⟩ := y
    cases h with
    | cons h1 r =>
      unfold stepR at h1
      simp only at ho
      rw [ho] at h1
      simp only at h1
      rw [if_pos (by unfold Region.wanted; rw [hg])] at h1
      obtain ⟨⟨n1, v1, b1⟩, e1, e2⟩ := Option.map_eq_some_iff.1 h1
      unfold stepO at e1
      rw [hk] at e1
      simp only at e1
      obtain ⟨q, q1, _⟩ := Option.map_eq_some_iff.1 e1
      exact ⟨q.1, q.2, q1⟩
  | x :: l, t, t2, a, a2, hl, h => by
    obtain ⟨i, m, nt⟩ := x
    obtain ⟨ox, q1, q2⟩ := hl (i, m, nt) (by simp)
    obtain ⟨p1, p2, p3⟩ := Oper.apart_spec q2
    cases h with
    | cons h1 r =>
      obtain ⟨u, rfl⟩ := stepR_is q1 h1
      obtain ⟨b, f, e⟩ := Tr.make ho hk hg (fun z hz => hl z (by simp [hz])) r
      exact ⟨b, f, by rw [make_congr (eval_look p1 t u)] at e; exact e⟩
theorem live_split {u v : List TOp} {y : TOp} {pend : List (Nat × Nat)} (hy : y.1 ∉ pend.map (·.1)) : (live (u ++ y :: v) pend).length = (live (u ++ v) pend).length + 1 := by
  unfold live
  rw [List.filter_append, List.filter_append, List.filter_cons_of_pos (by simpa using hy)]
  simp; omega
theorem live_pend {u v : List TOp} {y : TOp} {pend : List (Nat × Nat)} (g : Nat) (hn : y.1 ∉ (u ++ v).map (·.1)) : live (u ++ y :: v) ((y.1, g) :: pend) = live (u ++ v) pend := by
  have hsame : ∀ x ∈ u ++ v, (!(((y.1, g) :: pend).map (·.1)).contains x.1) = !(pend.map (·.1)).contains x.1 := by
    intro x hx
    have hxy : x.1 ≠ y.1 := fun hh => hn (hh ▸ List.mem_map_of_mem hx)
    congr 1
    rw [Bool.eq_iff_iff]
    simp [hxy]
  unfold live
  rw [← List.filter_congr hsame, List.filter_append, List.filter_append, List.filter_cons_of_neg (by simp)]

theorem lin_sim {N : Nat} (hp : Plan P ops) (hc : ∀ m, m ≤ N → CallAt P G m ∧ RoundAt P G m) {ρ0 : Ren} {K0 : Nat} {w0 : World} {r0 : Nat} (hr0 : r0 < K0) (hr1 : ρ0 r0 = none) : ∀ (n : Nat) (rem : List TOp) (pend : List (Nat × Nat)), (live rem pend).length = n → ∀ (t : Nat) (listed : Array Bool), Stage P ops N rem pend listed →
    ∀ {t0 t2 : List Value} {a a2 : AW}, Tr P G ops rem t0 a t2 a2 → a.base ≤ a.next → ∀ ρ w (act : Act) (b : Frame) k cs, Sim P ops ρ0 K0 w0 pend ρ a w t0 act →
      ∃ ρ' act' w', Steps P (lone (b.atR act (.inRegion ops (Region.linearise.go .any ops n t listed []) :: k)) cs w) (lone (b.atR act' k) cs w') ∧ Step ρ0 K0 w0 ρ' a2 w' ∧ TRel ρ' a2.next t2 act'.tmps ∧ act'.defers = act.defers := by
  intro n
  induction n with
  | zero =>
    intro rem pend hl t listed st t0 t2 a a2 htr hb ρ w act b k cs sim
    have hnil := List.eq_nil_of_length_eq_zero hl
    have hall : ∀ x ∈ rem, x.1 ∈ pend.map (·.1) := by
      intro x hx
      unfold live at hnil
      have := List.filter_eq_nil_iff.1 hnil x hx
      simpa using this
    obtain ⟨rem1, pend1, ρ1, a1, t1, s1, r1, b1, m1, l1, n1, _, _⟩ := adopt_all hp hc (fun _ => true) pend.length rem pend (Nat.le_refl _) st (fun p _ _ x hx _ _ _ _ => ⟨hall x hx, rfl⟩) htr hb sim
    have hp1 : pend1 = [] := by
      cases pend1 with
      | nil => rfl
      | cons p q => have := n1 p (by simp); cases this
    subst hp1
    have : live rem1 [] = rem1 := by unfold live; simp
    rw [this, hl] at l1
    obtain rfl := List.eq_nil_of_length_eq_zero l1
    cases r1
    exact ⟨ρ1, act, w, .one stepR_region_end, m1.st, m1.rel, rfl⟩
  | succ n ih =>
    intro rem pend hl t listed st t0 t2 a a2 htr hb ρ w act b k cs sim
    have mem_ready : ∀ i, i ∈ Region.ready .any ops listed ↔ i < ops.size ∧ listed.getD i true = false ∧ ∃ o, ops[i]? = some o ∧ ∀ e ∈ o.after.toList, Region.binds .any e = true → listed.getD e.on false = true := by
      intro i
      unfold Region.ready
      rw [List.mem_filter, List.mem_range]
      constructor
      · rintro ⟨h1, h2⟩
        rw [Bool.and_eq_true] at h2
        obtain ⟨h2, h3⟩ := h2
        refine ⟨h1, by simpa using h2, ops[i], by simp [h1], fun e he hbd => ?_⟩
        have : ops[i]? = some ops[i] := by simp [h1]
        rw [this] at h3
        simp only [Option.map_some, Option.getD_some] at h3
        rw [← Array.all_toList, List.all_eq_true] at h3
        have := h3 e he
        rw [hbd] at this
        simpa using this
      · rintro ⟨h1, h2, o, ho, h3⟩
        refine ⟨h1, ?_⟩
        rw [h2, ho]
        simp only [Bool.not_false, Option.map_some, Option.getD_some, Bool.true_and]
        rw [← Array.all_toList, List.all_eq_true]
        intro e he
        cases hbd : Region.binds .any e with
        | false => rfl
        | true => rw [h3 e he hbd]; rfl
    obtain ⟨hd, tl, hlive⟩ : ∃ hd tl, live rem pend = hd :: tl := by
      cases hlv : live rem pend with
      | nil => rw [hlv] at hl; simp at hl
      | cons hd tl => exact ⟨hd, tl, rfl⟩
    have hhdm : hd ∈ rem ∧ hd.1 ∉ pend.map (·.1) := by
      have : hd ∈ live rem pend := by rw [hlive]; simp
      unfold live at this
      obtain ⟨h1, h2⟩ := List.mem_filter.1 this
      exact ⟨h1, by simpa using h2⟩
    have hhd : hd.1 ∈ Region.ready .any ops listed := by
      have hm := List.mem_map_of_mem (f := (·.1)) hhdm.1
      have hin := st.inside hd.1 hm
      refine (mem_ready hd.1).2 ⟨hin, (st.listed hd.1 hin).2 ⟨hm, hhdm.2⟩, ops[hd.1], by simp [hin], fun e he hbd => ?_⟩
      have hlt := hp.edge hd.1 ops[hd.1] (by simp [hin]) e he hbd
      refine (st.getT (Nat.lt_trans hlt hin)).2 ?_
      by_cases h1 : e.on ∈ rem.map (·.1)
      · by_cases h2 : e.on ∈ pend.map (·.1)
        · exact .inr h2
        · exfalso
          obtain ⟨x, hx1, hx2⟩ := List.mem_map.1 h1
          have hxl : x ∈ live rem pend := by
            unfold live
            exact List.mem_filter.2 ⟨hx1, by rw [hx2]; simpa using h2⟩
          have hr : ((live rem pend).map (·.1)).Pairwise (· < ·) := st.rises.sublist (List.filter_sublist.map _)
          rw [hlive] at hr hxl
          rw [List.map_cons, List.pairwise_cons] at hr
          rcases List.mem_cons.1 hxl with rfl | hxl
          · omega
          · have := hr.1 x.1 (List.mem_map_of_mem hxl); omega
      · exact .inl h1
    have hlen : 0 < (Region.ready .any ops listed).length := List.length_pos_of_mem hhd
    have hgo : ∃ i, i ∈ Region.ready .any ops listed ∧ Region.linearise.go .any ops (n + 1) t listed [] = i :: Region.linearise.go .any ops n (t / (Region.ready .any ops listed).length) (listed.setIfInBounds i true) [] := by
      have hlt : t % (Region.ready .any ops listed).length < (Region.ready .any ops listed).length := Nat.mod_lt _ hlen
      refine ⟨(Region.ready .any ops listed)[t % (Region.ready .any ops listed).length], List.getElem_mem _, ?_⟩
      simp only [Region.linearise.go]
      change (match (Region.ready .any ops listed)[t % (Region.ready .any ops listed).length]? with
        | some i => Region.linearise.go .any ops n (t / (Region.ready .any ops listed).length) (listed.setIfInBounds i true) [i]
        | none => [].reverse) = _
      rw [List.getElem?_eq_getElem hlt]
      simp only []
      rw [linearise_go_acc]
      rfl
    obtain ⟨i, hi, hgo⟩ := hgo
    obtain ⟨hisz, hil, o, ho, hed⟩ := (mem_ready i).1 hi
    obtain ⟨himem, hipend⟩ := (st.listed i hisz).1 hil
    -- what i waits for is made first
    have hS : ∀ p ∈ pend, ((ancs ops).getD i 0).testBit p.1 = true → ∀ x ∈ rem, x.1 < p.1 → ∀ ox, ops[x.1]? = some ox → heavy (kindO P ox) = true → x.1 ∈ pend.map (·.1) ∧ ((ancs ops).getD i 0).testBit x.1 = true := by
      intro p hpm hs x hx hlt ox hox hh
      have hpm' : p.1 ∈ pend.map (·.1) := List.mem_map.2 ⟨p, hpm, rfl⟩
      have hps := st.inside p.1 (st.sub p.1 hpm')
      have hxm := List.mem_map_of_mem (f := (·.1)) hx
      have hun := unord_of hp hlt (st.inside x.1 hxm) (fun h2 => st.closed p.1 ops[p.1] (by simp [hps]) (.inr hpm') x.1 h2 hxm)
      obtain ⟨ox', op, z1, z2, _, _, z5⟩ := hp.free x.1 p.1 hlt hps hun
      rw [hox] at z1; cases z1
      obtain ⟨o', _, _, _, _, _, g1, g2, _⟩ := sim.held p hpm
      rw [g1] at z2; cases z2
      have hlate : Late P ops x.1 p.1 op := by
        rcases z5 with z5 | z5
        · rw [hh, g2] at z5; cases z5
        · exact z5
      have hax := hlate.2.2.2 i hisz hs
      refine ⟨?_, hax⟩
      obtain ⟨e, he, hbd, hor⟩ := hp.anc i o ho x.1 hax
      have hes : e.on < ops.size := Nat.lt_trans (hp.edge i o ho e he hbd) hisz
      have hel := (st.getT hes).1 (hed e he hbd)
      rcases hor with hh2 | hor
      · rw [hh2] at hel
        rcases hel with h2 | h2
        · exact absurd hxm h2
        · exact h2
      · exact absurd hxm (st.closed e.on ops[e.on] (by simp [hes]) hel x.1 hor)
    obtain ⟨rem1, pend1, ρ1, a1, t1, s1, r1, b1, sim1, l1, n1, i1, j1⟩ := adopt_all hp hc (fun j => ((ancs ops).getD i 0).testBit j) pend.length rem pend (Nat.le_refl _) st hS htr hb sim
    obtain ⟨him1, hip1⟩ := (s1.listed i hisz).1 hil
    have hanc : ∀ x, ((ancs ops).getD i 0).testBit x = true → x ∉ rem1.map (·.1) := by
      intro x hx
      obtain ⟨e, he, hbd, hor⟩ := hp.anc i o ho x hx
      have hes : e.on < ops.size := Nat.lt_trans (hp.edge i o ho e he hbd) hisz
      have hel := (s1.getT hes).1 (hed e he hbd)
      have hnp : e.on ∉ pend1.map (·.1) := by
        intro h2
        obtain ⟨p, p1, p2⟩ := List.mem_map.1 h2
        have h3 := n1 p p1
        have h4 := hp.anc' i o ho e.on e he hbd (.inl rfl)
        rw [p2] at h3
        rw [h3] at h4; cases h4
      have hnr : e.on ∉ rem1.map (·.1) := hel.resolve_right hnp
      rcases hor with rfl | hor
      · exact hnr
      · exact s1.closed e.on ops[e.on] (by simp [hes]) (.inl hnr) x hor
    obtain ⟨y, hymem, hyi⟩ := List.mem_map.1 him1
    obtain ⟨u, v, rfl⟩ := List.append_of_mem hymem
    subst hyi
    obtain ⟨hnot, hmem⟩ := split_ne (rem := u) s1.rises
    have hrises := s1.rises
    rw [List.map_append, List.map_cons] at hrises
    obtain ⟨hr1', hr2', hr3'⟩ := List.pairwise_append.1 hrises
    have hfacts : ∀ x ∈ u, unord (ancs ops) x.1 y.1 = true ∧ ∃ ox, ops[x.1]? = some ox ∧ ox.apart ops o = true ∧ o.apart ops ox = true ∧ ((heavy (kindO P ox) && heavy (kindO P o)) = false ∨ Late P ops x.1 y.1 o) := by
      intro x hx
      have hxlt : x.1 < y.1 := hr3' x.1 (List.mem_map_of_mem hx) y.1 (by simp)
      have hxm : x.1 ∈ (u ++ y :: v).map (·.1) := by simp; exact .inl ⟨_, _, hx⟩
      have hun := unord_of hp hxlt (s1.inside x.1 hxm) (fun hh => hanc x.1 hh hxm)
      obtain ⟨ox, oy, q1, q2, q3, q4, q5⟩ := hp.free x.1 y.1 hxlt hisz hun
      rw [ho] at q2; cases q2
      exact ⟨hun, ox, q1, q3, q4, q5⟩
    have hothers : ∀ q ∈ pend1, ∀ oi, ops[q.1]? = some oi → o.apart ops oi = true := by
      intro q hq oi hoi
      have hqp : q.1 ∈ pend1.map (·.1) := List.mem_map.2 ⟨q, hq, rfl⟩
      have hqm := s1.sub q.1 hqp
      have hqs := s1.inside q.1 hqm
      have hqy : q.1 ≠ y.1 := fun hh => hip1 (hh ▸ hqp)
      rcases Nat.lt_or_gt_of_ne hqy with hlt | hlt
      · have hun := unord_of hp hlt hqs (fun hh => hanc q.1 hh hqm)
        obtain ⟨ox, oy, z1, z2, z3, z4, _⟩ := hp.free q.1 y.1 hlt hisz hun
        rw [hoi] at z1; rw [ho] at z2; cases z1; cases z2
        exact z4
      · have hun := unord_of hp hlt hisz (fun hh => s1.closed q.1 oi hoi (.inr hqp) y.1 hh him1)
        obtain ⟨ox, oy, z1, z2, z3, z4, _⟩ := hp.free y.1 q.1 hlt hqs hun
        rw [ho] at z1; rw [hoi] at z2; cases z1; cases z2
        exact z3
    have hset : ∀ j, j < ops.size → ((listed.setIfInBounds y.1 true).getD j true = false ↔ listed.getD j true = false ∧ j ≠ y.1) := by
      intro j hj
      have hjs : j < listed.size := by rw [s1.size]; exact hj
      by_cases hjy : j = y.1
      · subst hjy; simp [Array.getD_eq_getD_getElem?, hjs]
      · simp [Array.getD_eq_getD_getElem?, Array.getElem?_setIfInBounds_ne (Ne.symm hjy), hjy]
    by_cases hlate : ∃ x ∈ u, ∃ ox, ops[x.1]? = some ox ∧ (heavy (kindO P ox) && heavy (kindO P o)) = true
    · -- the program makes the block, the evaluator not yet
      obtain ⟨x, hx, ox, hox, hhv⟩ := hlate
      obtain ⟨hun, ox', q1, q3, q4, q5⟩ := hfacts x hx
      rw [hox] at q1; cases q1
      obtain ⟨hk, hgd, hown, _⟩ : Late P ops x.1 y.1 o := by
        rcases q5 with q5 | q5
        · rw [hhv] at q5; cases q5
        · exact q5
      obtain ⟨bk, f, hmk⟩ := Tr.make (G := G) ho hk hgd (fun z hz => let ⟨_, oz, z1, z2, _⟩ := hfacts z hz; ⟨oz, z1, z2⟩) r1
      obtain ⟨w', v', g1, g2⟩ := sim_make (P := P) (w := w) sim1.rel hk hmk
      obtain ⟨m, ob, e1, e2, e3, e4, hcl⟩ := g2
      have hstp := step_push sim1.st.rel e1 e2 e3 e4
      have hr0' : r0 < a1.next := Nat.lt_of_lt_of_le hr0 sim1.st.ext.1
      have hr1' : ρ1 r0 = none := by
        rcases sim1.st.ext.2 r0 hr0 with h | h
        · rw [h]; exact hr1
        · exact h
      have hvr : VRel ρ1 a1.next (f r0) v' := (hcl ρ1 a1.next r0 (.refl _ _) hr0' (fun I e => by rw [hr1'] at e; cases e)).2
      have hwant : Region.wanted o (yielded ops act.tmps) = true := by unfold Region.wanted; rw [hgd]
      have hs1 := step_value (P := P) (b := b) (k := k) (cs := cs) (a := act) (w := w) (rest := Region.linearise.go .any ops n (t / (Region.ready .any ops listed).length) (listed.setIfInBounds y.1 true) []) ho hwant (kind_defer (P := P) (by rw [hk]; simp)) g1
      have stage' : Stage P ops N (u ++ y :: v) ((y.1, w.heap.size) :: pend1) (listed.setIfInBounds y.1 true) := by
        refine ⟨by rw [Array.size_setIfInBounds]; exact s1.size, fun j hj => ?_, s1.rises, s1.inside, fun j o2 hj2 hjn x hx => ?_, s1.calm, s1.fuel, fun j hj => ?_, ?_⟩
        · rw [hset j hj, s1.listed j hj, List.map_cons, List.mem_cons]
          exact ⟨fun hh => ⟨hh.1.1, fun h2 => h2.elim hh.2 hh.1.2⟩, fun hh => ⟨⟨hh.1, fun h2 => hh.2 (.inr h2)⟩, fun h2 => hh.2 (.inl h2)⟩⟩
        · rw [List.map_cons, List.mem_cons] at hjn
          rcases hjn with hjn | rfl | hjn
          · exact s1.closed j o2 hj2 (.inl hjn) x hx
          · exact hanc x hx
          · exact s1.closed j o2 hj2 (.inr hjn) x hx
        · rw [List.map_cons, List.mem_cons] at hj
          rcases hj with rfl | hj
          · exact him1
          · exact s1.sub j hj
        · rw [List.map_cons, List.nodup_cons]
          refine ⟨fun hh => ?_, s1.apart⟩
          obtain ⟨q, hq1, hq2⟩ := List.mem_map.1 hh
          obtain ⟨_, _, _, _, _, _, _, _, _, _, _, h6, _⟩ := sim1.held q hq1
          have := (Array.getElem?_eq_some_iff.1 h6).1
          simp only at hq2
          omega
      have hpush : w'.heap[w.heap.size]? = some ob := by rw [e1]; simp
      have sim' : Sim P ops ρ0 K0 w0 ((y.1, w.heap.size) :: pend1) ρ1 a1 w' (putT t1 o.dst (f r0)) (act.put o.dst v') := by
        refine ⟨sim1.st.trans hstp, rel_put sim1.rel _ hvr, fun q hq => ?_⟩
        rcases List.mem_cons.1 hq with rfl | hq
        · refine ⟨o, bk, f, m, ob, v', ho, hk, hgd, hown, by rw [make_congr (eval_look hown t1 (f r0))]; exact hmk, hpush, sim1.st.size, fun j I e => ?_, fun d hd hs => ?_, hcl⟩
          · have := sim1.st.rel.bound e
            simp only; omega
          · rw [hd] at hs ⊢
            show (act.tmps.setIfInBounds d v')[d]? = some v'
            have hsz : (act.tmps.setIfInBounds d v').size = act.tmps.size := Array.size_setIfInBounds
            change d < (act.tmps.setIfInBounds d v').size at hs
            rw [hsz] at hs
            simp [hs]
        · exact (sim1.held q hq).step hstp (hothers q hq) (f r0) v'
      have htr' := Tr.wild (G := G) ho hown (f r0) (fun z hz => let ⟨_, oz, z1, _, z3, _⟩ := hfacts z hz; ⟨oz, z1, z3⟩) r1
      have hlv : (live (u ++ y :: v) ((y.1, w.heap.size) :: pend1)).length = n := by
        rw [live_pend w.heap.size hnot]
        have := live_split (u := u) (v := v) hip1
        omega
      obtain ⟨ρ2, act2, w2, hs2, st2, ht2, hd2⟩ := ih _ _ hlv (t / (Region.ready .any ops listed).length) (listed.setIfInBounds y.1 true) stage' htr' b1 ρ1 w' (act.put o.dst v') b k cs sim'
      refine ⟨ρ2, act2, w2, ?_, st2, ht2, hd2.trans (put_defers _ _ _)⟩
      rw [hgo]
      exact .head hs1 hs2
    · -- both do it
      have hfree : ∀ x ∈ u, x.2.1 ≤ N ∧ Free P ops x y := by
        intro x hx
        obtain ⟨hun, ox, q1, q3, q4, q5⟩ := hfacts x hx
        have hcl := (List.pairwise_append.1 s1.calm).2.2 x hx y (by simp) hun
        refine ⟨s1.fuel x (by simp [hx]), ox, o, q1, ho, q3, q4, ?_, hcl⟩
        cases hh : (heavy (kindO P ox) && heavy (kindO P o)) with
        | false => rfl
        | true => exact absurd ⟨x, hx, ox, q1, hh⟩ hlate
      have hyN := s1.fuel y (by simp)
      have htr' := Tr.first hc hyN hfree b1 r1
      obtain ⟨yi, ym, yn⟩ := y
      cases htr' with
      | @cons _ _ _ _ _ t3 _ _ a3 _ h1 r =>
        have cy := hc ym hyN
        simp only at ho hisz hset hnot hmem hanc hip1 him1 hgo hothers
        obtain ⟨ρ2, vv, v', w2, hput, hs1, st2, ht2⟩ := step_sim cy.1 cy.2 h1 b1 b k cs (Region.linearise.go .any ops n (t / (Region.ready .any ops listed).length) (listed.setIfInBounds yi true) []) sim1.st.rel sim1.rel
        have hdst : (ops[yi]?).bind (·.dst) = o.dst := by rw [ho]; rfl
        rw [hdst] at hput hs1 ht2
        have hev := stepR_evo cy.1 cy.2 h1 b1
        have hsub : (u ++ v).Sublist (u ++ (yi, ym, yn) :: v) := List.Sublist.append (List.Sublist.refl _) (List.sublist_cons_self _ _)
        have stage' : Stage P ops N (u ++ v) pend1 (listed.setIfInBounds yi true) := by
          refine ⟨by rw [Array.size_setIfInBounds]; exact s1.size, fun j hj => ?_, s1.rises.sublist (hsub.map _), fun j hj => s1.inside j ((hsub.map _).subset hj), fun j o2 hj2 hjn x hx => ?_, s1.calm.sublist hsub, fun x hx => s1.fuel x (hsub.subset hx), fun j hj => ?_, s1.apart⟩
          · rw [hset j hj, s1.listed j hj]
            by_cases hjy : j = yi
            · subst hjy
              exact ⟨fun hh => absurd rfl hh.2, fun hh => absurd hh.1 hnot⟩
            · rw [hmem j hjy]
              exact ⟨fun hh => hh.1, fun hh => ⟨hh, hjy⟩⟩
          · by_cases hjy : j = yi
            · subst hjy
              exact fun hh => hanc x hx ((hsub.map _).subset hh)
            · have : j ∉ (u ++ (yi, ym, yn) :: v).map (·.1) ∨ j ∈ pend1.map (·.1) := hjn.imp (fun h h2 => h ((hmem j hjy).1 h2)) id
              exact fun hh => s1.closed j o2 hj2 this x hx ((hsub.map _).subset hh)
          · have hjy : j ≠ yi := fun hh => hip1 (hh ▸ hj)
            exact (hmem j hjy).1 (s1.sub j hj)
        have sim' : Sim P ops ρ0 K0 w0 pend1 ρ2 a3 w2 t3 (act.put o.dst v') := by
          refine ⟨sim1.st.trans st2, ht2, fun q hq => ?_⟩
          rw [hput]
          exact (sim1.held q hq).step st2 (hothers q hq) vv v'
        have hlv : (live (u ++ v) pend1).length = n := by
          have := live_split (u := u) (v := v) (y := (yi, ym, yn)) hip1
          omega
        obtain ⟨ρ3, act3, w3, hs3, st3, ht3, hd3⟩ := ih _ _ hlv (t / (Region.ready .any ops listed).length) (listed.setIfInBounds yi true) stage' r (hev.le b1) ρ2 w2 (act.put o.dst v') b k cs sim'
        refine ⟨ρ3, act3, w3, ?_, st3, ht3, hd3.trans (put_defers _ _ _)⟩
        rw [hgo]
        exact hs1.trans hs3
end
end Go.Proofs.YtmdfejlfdgaomaaAM
