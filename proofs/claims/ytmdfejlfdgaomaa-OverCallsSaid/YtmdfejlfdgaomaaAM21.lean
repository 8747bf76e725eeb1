/- Regions whose order is open: the whole. -/
import Derived.Test.YtmdfejlfdgaomaaAM20
namespace Go.Proofs.YtmdfejlfdgaomaaAM
open Go Go.RowKit
set_option linter.unusedVariables false
set_option linter.unusedSimpArgs false

/-- One operation of a region: its place, the rounds that it is given, what it touches. -/
abbrev TOp := Nat × Nat × Note
section
variable (P : Program) (G : Gives) (ops : Array Oper)
inductive Tr : List TOp → List Value → AW → List Value → AW → Prop
  | nil (t : List Value) (a : AW) : Tr [] t a t a
  | cons {i m : Nat} {nt : Note} {l : List TOp} {t t1 t2 : List Value} {a a1 a2 : AW} (h : stepR P (callA P G m) (roundA P G m) ops i t a = some (nt, t1, a1)) (r : Tr l t1 a1 t2 a2) : Tr ((i, m, nt) :: l) t a t2 a2
end

section
variable {P : Program} {G : Gives} {ops : Array Oper}
/-- What is known of two operations that are not bound. -/
def Free (P : Program) (ops : Array Oper) (x y : TOp) : Prop :=
  ∃ ox oy, ops[x.1]? = some ox ∧ ops[y.1]? = some oy ∧ ox.apart ops oy = true ∧ oy.apart ops ox = true ∧ (heavy (kindO P ox) && heavy (kindO P oy)) = false ∧ clash x.2.2 y.2.2 = false
theorem stepR_evo {m : Nat} (hc : CallAt P G m) (hr : RoundAt P G m) {i : Nat} {t t1 : List Value} {a a1 : AW} {nt : Note} (h : stepR P (callA P G m) (roundA P G m) ops i t a = some (nt, t1, a1)) (hb : a.base ≤ a.next) : Evo a a1 := by
  unfold stepR at h
  split at h
  · cases h
  · split at h
    · obtain ⟨⟨n1, v1, b1⟩, e1, e2⟩ := Option.map_eq_some_iff.1 h
      cases e2
      exact (stepO_work hc hr e1 hb).1
    · cases h; exact .refl _
theorem Tr.evo {N : Nat} (hc : ∀ m, m ≤ N → CallAt P G m ∧ RoundAt P G m) {l : List TOp} {t t2 : List Value} {a a2 : AW} (h : Tr P G ops l t a t2 a2) : (∀ x ∈ l, x.2.1 ≤ N) → a.base ≤ a.next → Evo a a2 := by
  induction h with
  | nil => intro _ _; exact .refl _
  | @cons i m nt l t t1 t2 a a1 a2 h r ih =>
    intro hl hb
    have hm := hc m (hl (i, m, nt) (by simp))
    have ev := stepR_evo hm.1 hm.2 h hb
    exact ev.trans (ih (fun x hx => hl x (by simp [hx])) (ev.le hb))
/-- An operation that is bound to none ahead of it may come first. -/
theorem Tr.first {N : Nat} (hc : ∀ m, m ≤ N → CallAt P G m ∧ RoundAt P G m) {y : TOp} (hy : y.2.1 ≤ N) {v : List TOp} : ∀ {u : List TOp} {t t2 : List Value} {a a2 : AW}, (∀ x ∈ u, x.2.1 ≤ N ∧ Free P ops x y) → a.base ≤ a.next →
    Tr P G ops (u ++ y :: v) t a t2 a2 → Tr P G ops (y :: (u ++ v)) t a t2 a2
  | [], t, t2, a, a2, _, _, h => h
  | x :: u, t, t2, a, a2, hu, hb, h => by
    obtain ⟨i, m, nt⟩ := x
    cases h with
    | @cons _ _ _ _ _ t1 _ _ a1 _ h1 r =>
      obtain ⟨hm, ox, oy, q1, q2, q3, q4, q5, q6⟩ := hu (i, m, nt) (by simp)
      have cm := hc m hm
      have ev := stepR_evo cm.1 cm.2 h1 hb
      have r' := Tr.first hc hy (fun z hz => hu z (by simp [hz])) (ev.le hb) r
      obtain ⟨j, my, ny⟩ := y
      have cy := hc my hy
      cases r' with
      | @cons _ _ _ _ _ t3 _ _ a3 _ h2 r2 =>
        obtain ⟨t1', a1', g1, g2⟩ := swap_two cm.1 cm.2 cy.1 cy.2 q1 q2 q3 q4 q5 hb h1 h2 q6
        exact .cons g1 (.cons g2 r2)

/-! ### what is bound before what -/
/-- What is made late. -/
def Late (P : Program) (ops : Array Oper) (x y : Nat) (oy : Oper) : Prop :=
  kindO P oy = .make ∧ oy.guard = none ∧ (∀ d, oy.dst = some d → d ∉ oy.looksAt ops) ∧ ∀ z, z < ops.size → ((ancs ops).getD z 0).testBit y = true → ((ancs ops).getD z 0).testBit x = true
theorem late_of {x y : Nat} {oy : Oper} (h : lateOk P ops (ancs ops) x y oy = true) : Late P ops x y oy := by
  unfold lateOk at h
  simp only [Bool.and_eq_true, List.all_eq_true, List.mem_range, Bool.or_eq_true, Bool.not_eq_true', Option.isNone_iff_eq_none] at h
  obtain ⟨⟨⟨h1, h2⟩, h3⟩, h4⟩ := h
  refine ⟨?_, h2, fun d hd => ?_, fun z hz hy => ?_⟩
  · cases hk : kindO P oy <;> simp [hk] at h1 ⊢
  · rw [hd] at h3
    simpa using h3
  · rcases h4 z hz with hh | hh
    · rw [hy] at hh; cases hh
    · exact hh
structure Plan (P : Program) (ops : Array Oper) : Prop where
  edge : ∀ i o, ops[i]? = some o → ∀ e ∈ o.after.toList, Region.binds .any e = true → e.on < i
  anc : ∀ i o, ops[i]? = some o → ∀ x, ((ancs ops).getD i 0).testBit x = true → ∃ e ∈ o.after.toList, Region.binds .any e = true ∧ (e.on = x ∨ ((ancs ops).getD e.on 0).testBit x = true)
  anc' : ∀ i o, ops[i]? = some o → ∀ x, ∀ e ∈ o.after.toList, Region.binds .any e = true → (e.on = x ∨ ((ancs ops).getD e.on 0).testBit x = true) → ((ancs ops).getD i 0).testBit x = true
  free : ∀ x y, x < y → y < ops.size → unord (ancs ops) x y = true → ∃ ox oy, ops[x]? = some ox ∧ ops[y]? = some oy ∧ ox.apart ops oy = true ∧ oy.apart ops ox = true ∧ ((heavy (kindO P ox) && heavy (kindO P oy)) = false ∨ Late P ops x y oy)
theorem bit_fold (b : Array Nat) (x : Nat) : ∀ (l : List Edge) (s : Nat), (l.foldl (fun s e => if Region.binds .any e then s ||| 2 ^ e.on ||| b.getD e.on 0 else s) s).testBit x = true ↔
    s.testBit x = true ∨ ∃ e ∈ l, Region.binds .any e = true ∧ (e.on = x ∨ (b.getD e.on 0).testBit x = true) := by
  intro l
  induction l with
  | nil => intro s; simp
  | cons e l ih =>
    intro s
    rw [List.foldl_cons, ih]
    by_cases hb : Region.binds .any e = true
    · rw [if_pos hb]
      simp only [Nat.testBit_or, Nat.testBit_two_pow, Bool.or_eq_true, decide_eq_true_eq, List.mem_cons, exists_eq_or_imp, hb, true_and]
      constructor
      · rintro ((h | h) | h)
        · rcases h with h | h
          · exact .inl h
          · exact .inr (.inl (.inl h))
        · exact .inr (.inl (.inr h))
        · exact .inr (.inr h)
      · rintro (h | (h | h) | h)
        · exact .inl (.inl (.inl h))
        · exact .inl (.inl (.inr h))
        · exact .inl (.inr h)
        · exact .inr h
    · rw [if_neg hb]
      simp only [List.mem_cons, exists_eq_or_imp, hb, false_and, false_or, Bool.false_eq_true]
theorem plan_of (h : planOk P ops = true) : Plan P ops := by
  unfold planOk at h
  simp only [Bool.and_eq_true, List.all_eq_true, List.mem_range] at h
  obtain ⟨h1, h2⟩ := h
  have lt_of : ∀ i o, ops[i]? = some o → i < ops.size := fun i o e => (Array.getElem?_eq_some_iff.1 e).1
  have base : ∀ i o, ops[i]? = some o → (∀ e ∈ o.after.toList, Region.binds .any e = true → e.on < i) ∧ (ancs ops).getD i 0 = o.after.toList.foldl (fun s e => if Region.binds .any e then s ||| 2 ^ e.on ||| (ancs ops).getD e.on 0 else s) 0 := by
    intro i o e
    have := h1 i (lt_of i o e)
    rw [e] at this
    simp only [Bool.and_eq_true, List.all_eq_true, Bool.or_eq_true, Bool.not_eq_true', decide_eq_true_eq, beq_iff_eq] at this
    refine ⟨fun x hx hb => ?_, this.1.2⟩
    rcases this.1.1 x hx with hh | hh
    · rw [hb] at hh; cases hh
    · exact hh
  refine ⟨fun i o e => (base i o e).1, fun i o e x hx => ?_, fun i o e x ed he hb hor => ?_, fun x y hxy hy hu => ?_⟩
  · rw [(base i o e).2, bit_fold] at hx
    rcases hx with hx | hx
    · simp at hx
    · exact hx
  · rw [(base i o e).2, bit_fold]
    exact .inr ⟨ed, he, hb, hor⟩
  · have := h2 y hy x (by omega)
    rw [Bool.or_eq_true] at this
    rcases this with hh | hh
    · simp [hxy, hu] at hh
    · split at hh
      · rename_i ox oy e1 e2
        simp only [Bool.and_eq_true, Bool.or_eq_true, Bool.not_eq_true'] at hh
        exact ⟨ox, oy, e1, e2, hh.1.1, hh.1.2, hh.2.imp (fun q => q) late_of⟩
      · cases hh
theorem Plan.lt (hp : Plan P ops) : ∀ (n i : Nat), i ≤ n → ∀ o, ops[i]? = some o → ∀ x, ((ancs ops).getD i 0).testBit x = true → x < i := by
  intro n
  induction n with
  | zero =>
    intro i hi o e x hx
    obtain ⟨ed, he, hb, hor⟩ := hp.anc i o e x hx
    have := hp.edge i o e ed he hb
    omega
  | succ n ih =>
    intro i hi o e x hx
    obtain ⟨ed, he, hb, hor⟩ := hp.anc i o e x hx
    have hlt := hp.edge i o e ed he hb
    rcases hor with rfl | hor
    · exact hlt
    · have hs : ed.on < ops.size := Nat.lt_trans hlt (Array.getElem?_eq_some_iff.1 e).1
      have := ih ed.on (by omega) ops[ed.on] (by simp [hs]) x hor
      omega
end
end Go.Proofs.YtmdfejlfdgaomaaAM
