/- Regions whose order is open: whatever order is drawn, the answer is the same. -/
import Derived.Test.YtmdfejlfdgaomaaAM19
namespace Go.Proofs.YtmdfejlfdgaomaaAM
open Go Go.RowKit
set_option linter.unusedVariables false
set_option linter.unusedSimpArgs false

section
variable {P : Program} {G : Gives}
/-- Two operations may change places. -/
theorem swap_two {mx my : Nat} (hcx : CallAt P G mx) (hrx : RoundAt P G mx) (hcy : CallAt P G my) (hry : RoundAt P G my) {ops : Array Oper} {x y : Nat} {ox oy : Oper} (hox : ops[x]? = some ox) (hoy : ops[y]? = some oy)
    (hap : ox.apart ops oy = true) (hap' : oy.apart ops ox = true) (hhv : (heavy (kindO P ox) && heavy (kindO P oy)) = false) {t t1 t2 : List Value} {a a1 a2 : AW} {nx ny : Note} (hb : a.base ≤ a.next)
    (h1 : stepR P (callA P G mx) (roundA P G mx) ops x t a = some (nx, t1, a1)) (h2 : stepR P (callA P G my) (roundA P G my) ops y t1 a1 = some (ny, t2, a2)) (hcl : clash nx ny = false) :
    ∃ t1' a1', stepR P (callA P G my) (roundA P G my) ops y t a = some (ny, t1', a1') ∧ stepR P (callA P G mx) (roundA P G mx) ops x t1' a1' = some (nx, t2, a2) := by
  obtain ⟨p1, p2, p3⟩ := Oper.apart_spec hap
  -- what one looks at the other does not put
  have eval_x : ∀ (t : List Value) v, ∀ z ∈ ox.op.operands, evalA (putT t oy.dst v) z = evalA t z := by
    intro t v z hz
    refine eval_put fun e he hze => p3 e he ?_
    subst hze
    unfold Oper.looksAt
    exact List.mem_append_left _ (List.mem_filterMap.2 ⟨.tmp e, by simpa using hz, rfl⟩)
  have eval_y : ∀ (t : List Value) v, ∀ z ∈ oy.op.operands, evalA (putT t ox.dst v) z = evalA t z := by
    intro t v z hz
    refine eval_put fun e he hze => p1 e he ?_
    subst hze
    unfold Oper.looksAt
    exact List.mem_append_left _ (List.mem_filterMap.2 ⟨.tmp e, by simpa using hz, rfl⟩)
  have want_of : ∀ (o : Oper) (d : Option Tmp), (∀ e, d = some e → e ∉ o.looksAt ops) → ∀ (t : List Value) v, Region.wanted o (yieldedA ops (putT t d v)) = Region.wanted o (yieldedA ops t) := by
    intro o d hd t v
    unfold Region.wanted
    cases hg : o.guard with
    | none => rfl
    | some g =>
      obtain ⟨j, b⟩ := g
      simp only []
      have : yieldedA ops (putT t d v) j = yieldedA ops t j := by
        unfold yieldedA
        cases hj : (ops[j]?).bind (·.dst) with
        | none => rfl
        | some e =>
          simp only [Option.bind_some]
          cases d with
          | none => rfl
          | some e' =>
            have hne : e' ≠ e := by
              intro hh
              subst hh
              refine hd e' rfl ?_
              unfold Oper.looksAt
              refine List.mem_append_right _ ?_
              rw [hg]
              simp [hj]
            simp [putT, List.getElem?_set_ne hne]
      rw [this]
  have want_x := want_of ox oy.dst p3
  have want_y := want_of oy ox.dst p1
  -- each one's own part
  have key : ∀ vx vy, (∀ (tt : List Value), putT (putT tt ox.dst vx) oy.dst vy = putT (putT tt oy.dst vy) ox.dst vx) := fun vx vy tt => put_comm tt vx vy p2
  unfold stepR at h1 h2 ⊢
  simp only [hox, hoy] at h1 h2 ⊢
  by_cases wx : Region.wanted ox (yieldedA ops t) = true
  · rw [if_pos wx] at h1
    obtain ⟨⟨n1, v1, b1⟩, e1, e2⟩ := Option.map_eq_some_iff.1 h1
    simp only [Prod.mk.injEq] at e2
    obtain ⟨rfl, rfl, rfl⟩ := e2
    rw [want_y] at h2
    by_cases wy : Region.wanted oy (yieldedA ops t) = true
    · rw [if_pos wy] at h2
      obtain ⟨⟨n2, v2, b2⟩, e3, e4⟩ := Option.map_eq_some_iff.1 h2
      simp only [Prod.mk.injEq] at e4
      obtain ⟨rfl, rfl, rfl⟩ := e4
      rw [stepO_congr (eval_y t v1)] at e3
      obtain ⟨evx, wkx⟩ := stepO_work hcx hrx e1 hb
      obtain ⟨evy, wky⟩ := stepO_work hcy hry e3 (evx.le hb)
      rcases wkx with ⟨lx, rfl⟩ | ⟨hx, dx, rfl, gx⟩
      · -- the first one writes nothing
        have e1' : stepO P (callA P G mx) (roundA P G mx) ox t b2 = some (n1, v1, b2) := by
          unfold stepO at e1 ⊢
          cases hk : kindO P ox with
          | make => rw [hk] at lx; cases lx
          | work => rw [hk] at lx; cases lx
          | pure =>
            rw [hk] at e1
            simp only at e1 ⊢
            obtain ⟨v0, q1, q2⟩ := Option.map_eq_some_iff.1 e1
            cases q2
            simp only [q1, Option.map_some]
          | read =>
            rw [hk] at e1
            simp only at e1 ⊢
            split at e1
            · rename_i r hr
              split at e1
              · rename_i hlt
                cases e1
                have hget : b2.get r.1 = b1.get r.1 := by
                  rcases wky with ⟨_, hh⟩ | ⟨_, dy, rfl, gy⟩
                  · rw [hh]
                  · refine gy r.1 hlt fun hin => ?_
                    simp [clash, hin] at hcl
                rw [readA_at hr hget]
                simp only
                rw [if_pos (Nat.lt_of_lt_of_le hlt evy.next)]
              · cases e1
            · cases e1
        refine ⟨putT t oy.dst v2, b2, ?_, ?_⟩
        · rw [if_pos wy, e3]; rfl
        · rw [want_x, if_pos wx, stepO_congr (eval_x t v2), e1']
          simp only [Option.map_some, key]
      · -- the second one writes nothing
        have ly : heavy (kindO P oy) = false := by rw [hx] at hhv; simpa using hhv
        rcases wky with ⟨_, hby⟩ | ⟨hy, _⟩
        · subst hby
          have e3' : stepO P (callA P G my) (roundA P G my) oy t a = some (n2, v2, a) := by
            unfold stepO at e3 ⊢
            cases hk : kindO P oy with
            | make => rw [hk] at ly; cases ly
            | work => rw [hk] at ly; cases ly
            | pure =>
              rw [hk] at e3
              simp only at e3 ⊢
              obtain ⟨v0, q1, q2⟩ := Option.map_eq_some_iff.1 e3
              cases q2
              simp only [q1, Option.map_some]
            | read =>
              rw [hk] at e3
              simp only at e3 ⊢
              split at e3
              · rename_i r hr
                split at e3
                · rename_i hlt
                  cases e3
                  simp only [clash, Bool.or_eq_false_iff, decide_eq_false_iff_not, Nat.not_le] at hcl
                  have hget : a.get r.1 = b2.get r.1 := (gx r.1 hcl.1 (by simpa using hcl.2)).symm
                  rw [readA_at hr hget]
                  simp only
                  rw [if_pos hcl.1]
                · cases e3
              · cases e3
          refine ⟨putT t oy.dst v2, a, ?_, ?_⟩
          · rw [if_pos wy, e3']; rfl
          · rw [want_x, if_pos wx, stepO_congr (eval_x t v2), e1]
            simp only [Option.map_some, key]
        · rw [hy] at ly; cases ly
    · rw [if_neg wy] at h2
      simp only [Option.some.injEq, Prod.mk.injEq] at h2
      obtain ⟨rfl, rfl, rfl⟩ := h2
      refine ⟨putT t oy.dst undef, a, ?_, ?_⟩
      · rw [if_neg wy]
      · rw [want_x, if_pos wx, stepO_congr (eval_x t undef), e1]
        simp only [Option.map_some, key]
  · rw [if_neg wx] at h1
    simp only [Option.some.injEq, Prod.mk.injEq] at h1
    obtain ⟨rfl, rfl, rfl⟩ := h1
    rw [want_y] at h2
    by_cases wy : Region.wanted oy (yieldedA ops t) = true
    · rw [if_pos wy] at h2
      obtain ⟨⟨n2, v2, b2⟩, e3, e4⟩ := Option.map_eq_some_iff.1 h2
      simp only [Prod.mk.injEq] at e4
      obtain ⟨rfl, rfl, rfl⟩ := e4
      rw [stepO_congr (eval_y t undef)] at e3
      refine ⟨putT t oy.dst v2, b2, ?_, ?_⟩
      · rw [if_pos wy, e3]; rfl
      · rw [want_x, if_neg wx]
        simp only [key]
    · rw [if_neg wy] at h2
      simp only [Option.some.injEq, Prod.mk.injEq] at h2
      obtain ⟨rfl, rfl, rfl⟩ := h2
      refine ⟨putT t oy.dst undef, a, ?_, ?_⟩
      · rw [if_neg wy]
      · rw [want_x, if_neg wx]
        simp only [key]
end
end Go.Proofs.YtmdfejlfdgaomaaAM
