/- Regions whose order is open: by the machine, to the end. -/
import Derived.Test.YtmdfejlfdgaomaaAM22
namespace Go.Proofs.YtmdfejlfdgaomaaAM
open Go Go.RowKit
set_option linter.unusedVariables false
set_option linter.unusedSimpArgs false

section
variable {P : Program} {G : Gives} {ops : Array Oper}
structure Stage (P : Program) (ops : Array Oper) (N : Nat) (rem : List TOp) (pend : List (Nat × Nat)) (listed : Array Bool) : Prop where
  size : listed.size = ops.size
  listed : ∀ i, i < ops.size → (listed.getD i true = false ↔ i ∈ rem.map (·.1) ∧ i ∉ pend.map (·.1))
  rises : (rem.map (·.1)).Pairwise (· < ·)
  inside : ∀ i ∈ rem.map (·.1), i < ops.size
  closed : ∀ j o, ops[j]? = some o → (j ∉ rem.map (·.1) ∨ j ∈ pend.map (·.1)) → ∀ x, ((ancs ops).getD j 0).testBit x = true → x ∉ rem.map (·.1)
  calm : rem.Pairwise fun x y => unord (ancs ops) x.1 y.1 = true → clash x.2.2 y.2.2 = false
  fuel : ∀ x ∈ rem, x.2.1 ≤ N
  sub : ∀ i ∈ pend.map (·.1), i ∈ rem.map (·.1)
  apart : (pend.map (·.2)).Nodup
structure Sim (P : Program) (ops : Array Oper) (ρ0 : Ren) (K0 : Nat) (w0 : World) (pend : List (Nat × Nat)) (ρ : Ren) (a : AW) (w : World) (t : List Value) (act : Act) : Prop where
  st : Step ρ0 K0 w0 ρ a w
  rel : TRel ρ a.next t act.tmps
  held : ∀ p ∈ pend, Held P ops w0.heap.size ρ a.next w t act.tmps p.1 p.2
/-- What the program has not done yet. -/
def live (rem : List TOp) (pend : List (Nat × Nat)) : List TOp := rem.filter fun x => !(pend.map (·.1)).contains x.1

theorem Stage.getT {N : Nat} {rem : List TOp} {pend : List (Nat × Nat)} {listed : Array Bool} (s : Stage P ops N rem pend listed) {i : Nat} (hi : i < ops.size) : (listed.getD i false = true ↔ i ∉ rem.map (·.1) ∨ i ∈ pend.map (·.1)) := by
  have hs : i < listed.size := by rw [s.size]; exact hi
  have h1 : listed.getD i true = listed[i] := by simp [Array.getD_eq_getD_getElem?, hs]
  have h2 : listed.getD i false = listed[i] := by simp [Array.getD_eq_getD_getElem?, hs]
  have := s.listed i hi
  rw [h1] at this
  rw [h2]
  have h3 : (¬ (i ∈ rem.map (·.1) ∧ i ∉ pend.map (·.1))) ↔ (i ∉ rem.map (·.1) ∨ i ∈ pend.map (·.1)) := by
    by_cases p1 : i ∈ rem.map (·.1) <;> by_cases p2 : i ∈ pend.map (·.1) <;> simp [p1, p2]
  rw [← h3, ← this]
  cases listed[i] <;> simp
/-- Two operations that are both still there, the first one not bound to wait. -/
theorem unord_of (hp : Plan P ops) {x y : Nat} (hxy : x < y) (hx : x < ops.size) (h : ((ancs ops).getD y 0).testBit x ≠ true) : unord (ancs ops) x y = true := by
  unfold unord
  simp only [Bool.and_eq_true, Bool.not_eq_true', Bool.not_eq_true]
  refine ⟨by simpa using h, ?_⟩
  cases hb2 : ((ancs ops).getD x 0).testBit y with
  | false => rfl
  | true =>
    have := hp.lt x x (Nat.le_refl _) ops[x] (by simp [hx]) y hb2
    omega
theorem split_ne {rem : List TOp} {u v : List TOp} {y : TOp} (hr : ((u ++ y :: v).map (·.1)).Pairwise (· < ·)) : y.1 ∉ (u ++ v).map (·.1) ∧ ∀ j, j ≠ y.1 → (j ∈ (u ++ y :: v).map (·.1) ↔ j ∈ (u ++ v).map (·.1)) := by
  rw [List.map_append, List.map_cons] at hr
  obtain ⟨hr1, hr2, hr3⟩ := List.pairwise_append.1 hr
  rw [List.pairwise_cons] at hr2
  refine ⟨?_, fun j hj => ?_⟩
  · rw [List.map_append, List.mem_append]
    rintro (hh | hh)
    · have := hr3 y.1 hh y.1 (by simp); omega
    · have := hr2.1 y.1 hh; omega
  · rw [List.map_append, List.map_append, List.map_cons, List.mem_append, List.mem_append, List.mem_cons]
    constructor
    · rintro (h | h | h)
      · exact .inl h
      · exact absurd h hj
      · exact .inr h
    · rintro (h | h)
      · exact .inl h
      · exact .inr (.inr h)
/-- The evaluator makes a block that the program has made before. -/
theorem adopt_one {N : Nat} (hp : Plan P ops) (hc : ∀ m, m ≤ N → CallAt P G m ∧ RoundAt P G m) {u v : List TOp} {y : TOp} {pend : List (Nat × Nat)} {listed : Array Bool} {g : Nat} (s : Stage P ops N (u ++ y :: v) pend listed)
    (hy : (y.1, g) ∈ pend) (hq : ∀ x ∈ u, ∀ ox, ops[x.1]? = some ox → heavy (kindO P ox) = false) {t t2 : List Value} {a a2 : AW} (htr : Tr P G ops (u ++ y :: v) t a t2 a2) (hb : a.base ≤ a.next)
    {ρ0 : Ren} {K0 : Nat} {w0 : World} {ρ : Ren} {w : World} {act : Act} (sim : Sim P ops ρ0 K0 w0 pend ρ a w t act) :
    ∃ ρ' a1 t1, Stage P ops N (u ++ v) (pend.filter fun q => q.1 != y.1) listed ∧ Tr P G ops (u ++ v) t1 a1 t2 a2 ∧ a1.base ≤ a1.next ∧ Sim P ops ρ0 K0 w0 (pend.filter fun q => q.1 != y.1) ρ' a1 w t1 act := by
  obtain ⟨yi, ym, yn⟩ := y
  obtain ⟨hnot, hmem⟩ := split_ne (rem := u) s.rises
  simp only at hnot hmem hy ⊢
  have hyp : yi ∈ pend.map (·.1) := List.mem_map.2 ⟨_, hy, rfl⟩
  have hisz := s.inside yi (s.sub yi hyp)
  have hanc := s.closed yi ops[yi] (by simp [hisz]) (.inr hyp)
  have hrises := s.rises
  rw [List.map_append, List.map_cons] at hrises
  obtain ⟨hr1, hr2, hr3⟩ := List.pairwise_append.1 hrises
  have hfree : ∀ x ∈ u, x.2.1 ≤ N ∧ Free P ops x (yi, ym, yn) := by
    intro x hx
    have hxlt : x.1 < yi := hr3 x.1 (List.mem_map_of_mem hx) yi (by simp)
    have hxm : x.1 ∈ (u ++ (yi, ym, yn) :: v).map (·.1) := by simp; exact .inl ⟨_, _, hx⟩
    have hun := unord_of hp hxlt (s.inside x.1 hxm) (fun hh => hanc x.1 hh hxm)
    obtain ⟨ox, oy, q1, q2, q3, q4, _⟩ := hp.free x.1 yi hxlt hisz hun
    have hcl := (List.pairwise_append.1 s.calm).2.2 x hx (yi, ym, yn) (by simp) hun
    exact ⟨s.fuel x (by simp [hx]), ox, oy, q1, q2, q3, q4, by rw [hq x hx ox q1]; rfl, hcl⟩
  have hyN := s.fuel (yi, ym, yn) (by simp)
  have htr' := Tr.first hc hyN hfree hb htr
  cases htr' with
  | @cons _ _ _ _ _ t1 _ _ a1 _ h1 r =>
    obtain ⟨o, b, f, n, ob, v', g1, g2, g3, g4, g5, g6, g7, g8, g9, g10⟩ := sim.held _ hy
    have e1 : stepR P (callA P G ym) (roundA P G ym) ops yi t a = some (.work a.next [], putT t o.dst (f a.next), a.new b) := by
      unfold stepR
      simp only [g1]
      rw [if_pos (by unfold Region.wanted; rw [g3])]
      unfold stepO
      rw [g2]
      simp only [g5, Option.map_some]
    rw [e1] at h1
    cases h1
    obtain ⟨k1, k2⟩ := g10 (upd ρ a.next (some ⟨g, 0, n, true⟩)) (a.next + 1) a.next (ext_new sim.st.rel _) (Nat.lt_succ_self _) (fun I e => by rw [upd_self] at e; cases e; rfl)
    have hx := ext_new sim.st.rel ⟨g, 0, n, true⟩
    have st' := step_adopt sim.st g6 g7 g8 k1
    have hpm : ∀ j, j ∈ (pend.filter fun q => q.1 != yi).map (·.1) ↔ j ∈ pend.map (·.1) ∧ j ≠ yi := by
      intro j
      simp only [List.mem_map, List.mem_filter, bne_iff_ne, ne_eq]
      constructor
      · rintro ⟨q, ⟨q1, q2⟩, rfl⟩; exact ⟨⟨q, q1, rfl⟩, q2⟩
      · rintro ⟨⟨q, q1, rfl⟩, q2⟩; exact ⟨q, ⟨q1, q2⟩, rfl⟩
    have hsub : (u ++ v).Sublist (u ++ (yi, ym, Note.work a.next []) :: v) := List.Sublist.append (List.Sublist.refl _) (List.sublist_cons_self _ _)
    refine ⟨_, _, _, ⟨s.size, fun j hj => ?_, s.rises.sublist (hsub.map _), fun j hj => s.inside j ((hsub.map _).subset hj), fun j o2 hj2 hjn x hx2 => ?_, s.calm.sublist hsub, fun x hx2 => s.fuel x (hsub.subset hx2), fun j hj => ?_, ?_⟩, r, ?_, ⟨st', ?_, fun q hq2 => ?_⟩⟩
    · rw [s.listed j hj, hpm]
      by_cases hjy : j = yi
      · subst hjy
        exact ⟨fun hh => absurd hyp hh.2, fun hh => absurd hh.1 hnot⟩
      · rw [hmem j hjy]
        exact ⟨fun hh => ⟨hh.1, fun h2 => hh.2 h2.1⟩, fun hh => ⟨hh.1, fun h2 => hh.2 ⟨h2, hjy⟩⟩⟩
    · have hjn' : j ∉ (u ++ (yi, ym, Note.work a.next []) :: v).map (·.1) ∨ j ∈ pend.map (·.1) := by
        rcases hjn with hh | hh
        · by_cases hjy : j = yi
          · subst hjy; exact .inr hyp
          · exact .inl fun h2 => hh ((hmem j hjy).1 h2)
        · exact .inr ((hpm j).1 hh).1
      exact fun hh => s.closed j o2 hj2 hjn' x hx2 ((hsub.map _).subset hh)
    · obtain ⟨h2, h3⟩ := (hpm j).1 hj
      exact (hmem j h3).1 (s.sub j h2)
    · exact s.apart.sublist (List.filter_sublist.map _)
    · exact Nat.le_succ_of_le hb
    · -- the temporaries
      have hm := sim.rel.mono hx
      cases hd : o.dst with
      | none => exact hm
      | some d =>
        show LRel _ _ (t.set d (f a.next)) act.tmps.toList
        have := LRel.set hm k2 d
        by_cases hlt : d < act.tmps.size
        · have e2 : act.tmps.toList.set d v' = act.tmps.toList := by
            have e3 := g9 d hd hlt
            apply List.ext_getElem?
            intro j
            by_cases hj : j = d
            · subst hj
              rw [List.getElem?_set_self (by simpa using hlt)]
              rw [← e3]; simp
            · rw [List.getElem?_set_ne (Ne.symm hj)]
          rw [e2] at this
          exact this
        · have e2 : act.tmps.toList.set d v' = act.tmps.toList := List.set_eq_of_length_le (by simpa using Nat.le_of_not_lt hlt)
          rw [e2] at this
          exact this
    · -- the others
      obtain ⟨q0, q1⟩ := List.mem_filter.1 hq2
      have hqy : q.1 ≠ yi := by simpa using q1
      obtain ⟨o', b', f', n', ob', v2, f1, f2, f3, f4, f5, f6, f7, f8, f9, f10⟩ := sim.held q q0
      have hqm := s.sub q.1 (List.mem_map.2 ⟨q, q0, rfl⟩)
      have hqs := s.inside q.1 hqm
      have hapart : o.apart ops o' = true := by
        rcases Nat.lt_or_gt_of_ne hqy with hlt | hlt
        · have hun := unord_of hp hlt hqs (fun hh => hanc q.1 hh hqm)
          obtain ⟨ox, oy, z1, z2, z3, z4, _⟩ := hp.free q.1 yi hlt hisz hun
          rw [f1] at z1; rw [g1] at z2; cases z1; cases z2
          exact z4
        · have hun := unord_of hp hlt hisz (fun hh => s.closed q.1 o' f1 (.inr (List.mem_map.2 ⟨q, q0, rfl⟩)) yi hh (s.sub yi hyp))
          obtain ⟨ox, oy, z1, z2, z3, z4, _⟩ := hp.free yi q.1 hlt hqs hun
          rw [g1] at z1; rw [f1] at z2; cases z1; cases z2
          exact z3
      obtain ⟨p1, p2, p3⟩ := Oper.apart_spec hapart
      have hgne : q.2 ≠ g := by
        intro hh
        have hnd := s.apart
        have hinj : ∀ (l : List (Nat × Nat)), (l.map (·.2)).Nodup → ∀ x ∈ l, ∀ z ∈ l, x.2 = z.2 → x = z := by
          intro l
          induction l with
          | nil => intro _ x hx; cases hx
          | cons c l ih =>
            intro hn x hx z hz hxz
            rw [List.map_cons, List.nodup_cons] at hn
            rcases List.mem_cons.1 hx with hx1 | hx1 <;> rcases List.mem_cons.1 hz with hz1 | hz1
            · rw [hx1, hz1]
            · subst hx1; exact absurd (show x.2 ∈ l.map (·.2) from List.mem_map.2 ⟨z, hz1, hxz.symm⟩) hn.1
            · subst hz1; exact absurd (show z.2 ∈ l.map (·.2) from List.mem_map.2 ⟨x, hx1, hxz⟩) hn.1
            · exact ih hn.2 x hx1 z hz1 hxz
        have := hinj pend hnd q q0 (yi, g) hy hh
        exact hqy (by rw [this])
      refine ⟨o', b', f', n', ob', v2, f1, f2, f3, f4, ?_, f6, f7, fun j I e => ?_, f9, fun ρ2 K2 id hx2 hid hI => f10 ρ2 K2 id (hx.trans hx2) hid hI⟩
      · rw [make_congr (eval_look p1 t (f a.next))]; exact f5
      · by_cases hj : j = a.next
        · subst hj
          rw [upd_self] at e; cases e
          exact fun hh => hgne hh.symm
        · rw [upd_ne _ _ hj] at e
          exact f8 j I e
theorem exists_min (S : Nat → Bool) : ∀ (l : List (Nat × Nat)), (∃ p ∈ l, S p.1 = true) → ∃ p ∈ l, S p.1 = true ∧ ∀ q ∈ l, S q.1 = true → p.1 ≤ q.1
  | [], h => by obtain ⟨p, hp, _⟩ := h; cases hp
  | c :: l, h => by
    by_cases hl : ∃ p ∈ l, S p.1 = true
    · obtain ⟨p, h1, h2, h3⟩ := exists_min S l hl
      by_cases hc : S c.1 = true ∧ c.1 ≤ p.1
      · refine ⟨c, by simp, hc.1, fun q hq hs => ?_⟩
        rcases List.mem_cons.1 hq with rfl | hq
        · exact Nat.le_refl _
        · exact Nat.le_trans hc.2 (h3 q hq hs)
      · refine ⟨p, by simp [h1], h2, fun q hq hs => ?_⟩
        rcases List.mem_cons.1 hq with rfl | hq
        · by_cases hle : q.1 ≤ p.1
          · exact absurd ⟨hs, hle⟩ hc
          · omega
        · exact h3 q hq hs
    · obtain ⟨p, h1, h2⟩ := h
      rcases List.mem_cons.1 h1 with rfl | h1
      · refine ⟨p, by simp, h2, fun q hq hs => ?_⟩
        rcases List.mem_cons.1 hq with rfl | hq
        · exact Nat.le_refl _
        · exact absurd ⟨q, hq, hs⟩ hl
      · exact absurd ⟨p, h1, h2⟩ hl
theorem live_adopt {u v : List TOp} {y : TOp} {pend : List (Nat × Nat)} (hy : y.1 ∈ pend.map (·.1)) (hn : y.1 ∉ (u ++ v).map (·.1)) : live (u ++ v) (pend.filter fun q => q.1 != y.1) = live (u ++ y :: v) pend := by
  have hsame : ∀ x ∈ u ++ v, (!((pend.filter fun q => q.1 != y.1).map (·.1)).contains x.1) = !(pend.map (·.1)).contains x.1 := by
    intro x hx
    have hxy : x.1 ≠ y.1 := fun hh => hn (hh ▸ List.mem_map_of_mem hx)
    congr 1
    rw [Bool.eq_iff_iff]
    simp only [List.contains_iff_mem, List.mem_map, List.mem_filter, bne_iff_ne, ne_eq]
    constructor
    · rintro ⟨q, ⟨q1, _⟩, q2⟩; exact ⟨q, q1, q2⟩
    · rintro ⟨q, q1, q2⟩; exact ⟨q, ⟨q1, fun hh => hxy (q2.symm.trans hh)⟩, q2⟩
  unfold live
  rw [List.filter_congr hsame, List.filter_append, List.filter_append, List.filter_cons_of_neg]
  simpa using hy
/-- .. and all those that something waits for. -/
theorem adopt_all {N : Nat} (hp : Plan P ops) (hc : ∀ m, m ≤ N → CallAt P G m ∧ RoundAt P G m) (S : Nat → Bool) {listed : Array Bool} {ρ0 : Ren} {K0 : Nat} {w0 : World} {w : World} {act : Act} {t2 : List Value} {a2 : AW} :
    ∀ (n : Nat) (rem : List TOp) (pend : List (Nat × Nat)), pend.length ≤ n → Stage P ops N rem pend listed →
      (∀ p ∈ pend, S p.1 = true → ∀ x ∈ rem, x.1 < p.1 → ∀ ox, ops[x.1]? = some ox → heavy (kindO P ox) = true → x.1 ∈ pend.map (·.1) ∧ S x.1 = true) →
      ∀ {t : List Value} {a : AW} {ρ : Ren}, Tr P G ops rem t a t2 a2 → a.base ≤ a.next → Sim P ops ρ0 K0 w0 pend ρ a w t act →
      ∃ rem' pend' ρ' a1 t1, Stage P ops N rem' pend' listed ∧ Tr P G ops rem' t1 a1 t2 a2 ∧ a1.base ≤ a1.next ∧ Sim P ops ρ0 K0 w0 pend' ρ' a1 w t1 act ∧ (live rem' pend').length = (live rem pend).length ∧ (∀ p ∈ pend', S p.1 = false) ∧
        (∀ i, i ∈ rem'.map (·.1) → i ∈ rem.map (·.1)) ∧ (∀ i, i ∈ rem.map (·.1) → i ∉ pend.map (·.1) → i ∈ rem'.map (·.1)) := by
  intro n
  induction n with
  | zero =>
    intro rem pend hl s hS t a ρ htr hb sim
    obtain rfl := List.eq_nil_of_length_eq_zero (Nat.le_zero.1 hl)
    exact ⟨rem, [], ρ, a, t, s, htr, hb, sim, rfl, fun p hp => (by cases hp), fun i h => h, fun i h _ => h⟩
  | succ n ih =>
    intro rem pend hl s hS t a ρ htr hb sim
    by_cases hex : ∃ p ∈ pend, S p.1 = true
    · obtain ⟨⟨i, g⟩, h1, h2, h3⟩ := exists_min S pend hex
      have him := s.sub i (List.mem_map.2 ⟨_, h1, rfl⟩)
      obtain ⟨y, hy1, hy2⟩ := List.mem_map.1 him
      obtain ⟨u, v, rfl⟩ := List.append_of_mem hy1
      subst hy2
      obtain ⟨hnot, hmem⟩ := split_ne (rem := u) s.rises
      have hq : ∀ x ∈ u, ∀ ox, ops[x.1]? = some ox → heavy (kindO P ox) = false := by
        intro x hx ox hox
        cases hh : heavy (kindO P ox) with
        | false => rfl
        | true =>
          have hr := s.rises
          rw [List.map_append, List.map_cons] at hr
          have hlt := (List.pairwise_append.1 hr).2.2 x.1 (List.mem_map_of_mem hx) y.1 (by simp)
          obtain ⟨k1, k2⟩ := hS (y.1, g) h1 h2 x (by simp [hx]) hlt ox hox hh
          obtain ⟨q, q1, q2⟩ := List.mem_map.1 k1
          have := h3 q q1 (by rw [q2]; exact k2)
          rw [q2] at this
          simp only at this
          omega
      obtain ⟨ρ1, a1, t1, s1, htr1, hb1, sim1⟩ := adopt_one hp hc s h1 hq htr hb sim
      have hyp : y.1 ∈ pend.map (·.1) := List.mem_map.2 ⟨_, h1, rfl⟩
      have hpm : ∀ j, j ∈ (pend.filter fun q => q.1 != y.1).map (·.1) ↔ j ∈ pend.map (·.1) ∧ j ≠ y.1 := by
        intro j
        simp only [List.mem_map, List.mem_filter, bne_iff_ne, ne_eq]
        constructor
        · rintro ⟨q, ⟨q1, q2⟩, rfl⟩; exact ⟨⟨q, q1, rfl⟩, q2⟩
        · rintro ⟨⟨q, q1, rfl⟩, q2⟩; exact ⟨q, ⟨q1, q2⟩, rfl⟩
      have hlt : (pend.filter fun q => q.1 != y.1).length ≤ n := by
        have : (pend.filter fun q => q.1 != y.1).length < pend.length := List.length_filter_lt_length_iff_exists.2 ⟨_, h1, by simp⟩
        omega
      -- again, with fewer
      obtain ⟨rem2, pend2, ρ2, a3, t3, s2, r2, b2, m2, l2, n2, i2, j2⟩ : ∃ rem' pend' ρ' a1' t1', Stage P ops N rem' pend' listed ∧ Tr P G ops rem' t1' a1' t2 a2 ∧ a1'.base ≤ a1'.next ∧ Sim P ops ρ0 K0 w0 pend' ρ' a1' w t1' act ∧ (live rem' pend').length = (live (u ++ v) (pend.filter fun q => q.1 != y.1)).length ∧ (∀ p ∈ pend', S p.1 = false) ∧
        (∀ i, i ∈ rem'.map (·.1) → i ∈ (u ++ v).map (·.1)) ∧ (∀ i, i ∈ (u ++ v).map (·.1) → i ∉ (pend.filter fun q => q.1 != y.1).map (·.1) → i ∈ rem'.map (·.1)) := by
        have hS' : ∀ p ∈ pend.filter (fun q => q.1 != y.1), S p.1 = true → ∀ x ∈ u ++ v, x.1 < p.1 → ∀ ox, ops[x.1]? = some ox → heavy (kindO P ox) = true → x.1 ∈ (pend.filter fun q => q.1 != y.1).map (·.1) ∧ S x.1 = true := by
          intro p hp0 hs x hx hlt ox hox hh
          obtain ⟨k1, k2⟩ := hS p ((List.mem_filter.1 hp0).1) hs x (by rcases List.mem_append.1 hx with h | h <;> simp [h]) hlt ox hox hh
          exact ⟨(hpm x.1).2 ⟨k1, fun hh2 => hnot (hh2 ▸ List.mem_map_of_mem hx)⟩, k2⟩
        exact ih _ _ hlt s1 hS' htr1 hb1 sim1
      refine ⟨rem2, pend2, ρ2, a3, t3, s2, r2, b2, m2, ?_, n2, fun i hi => ?_, fun i hi hn => ?_⟩
      · rw [l2, live_adopt hyp hnot]
      · have := i2 i hi
        by_cases hiy : i = y.1
        · subst hiy; exact absurd this hnot
        · exact (hmem i hiy).2 this
      · have hiy : i ≠ y.1 := fun hh => hn (hh ▸ hyp)
        exact j2 i ((hmem i hiy).1 hi) fun hh => hn ((hpm i).1 hh).1
    · refine ⟨rem, pend, ρ, a, t, s, htr, hb, sim, rfl, fun p hp => ?_, fun i h => h, fun i h _ => h⟩
      cases hh : S p.1 with
      | false => rfl
      | true => exact absurd ⟨p, hp, hh⟩ hex
end
end Go.Proofs.YtmdfejlfdgaomaaAM
