/- More fuel changes no answer; what a code answers, as a rule for its ends. -/
import Derived.Test.YtmdfejlfdgaomaaAM26
namespace Go.Proofs.YtmdfejlfdgaomaaAM
open Go Go.RowKit
set_option linter.unusedVariables false
set_option linter.unusedSimpArgs false

section
variable {E : Program} {G : Gives}

structure MonoAt (E : Program) (G : Gives) (n : Nat) : Prop where
  ops : ∀ fn ro ops l t a r, opsA E G n fn ro ops l t a = some r → opsA E G (n + 1) fn ro ops l t a = some r
  reg : ∀ ops l ns t a r, regA E G n ops l ns t a = some r → regA E G (n + 1) ops l ns t a = some r
  code : ∀ fn ro c t ds a r, codeA E G n fn ro c t ds a = some r → codeA E G (n + 1) fn ro c t ds a = some r
  call : ∀ f args a r, callA E G n f args a = some r → callA E G (n + 1) f args a = some r
  round : ∀ l args a r, roundA E G n l args a = some r → roundA E G (n + 1) l args a = some r

theorem mono_ops {n : Nat} (h : MonoAt E G n) (fn : FuncId) (ro : Option Nat) (ops : Array Oper) (l : List Nat) (t : List Value) (a : AW) (r) (e : opsA E G (n + 1) fn ro ops l t a = some r) : opsA E G (n + 2) fn ro ops l t a = some r := by
  cases l with
  | nil => simpa only [opsA] using e
  | cons i rest =>
    rw [opsA] at e ⊢
    cases ho : ops[i]? with
    | none => rw [ho] at e; cases e
    | some o =>
      rw [ho] at e
      simp only at e ⊢
      split at e
      · rename_i hw
        rw [if_pos hw]
        cases hop : opA E t o a with
        | none => rw [hop] at e; cases e
        | some q =>
          obtain ⟨x, b⟩ := q
          rw [hop] at e
          cases x with
          | value v => exact h.ops _ _ _ _ _ _ _ e
          | enter f args =>
            simp only at e ⊢
            cases hc : callA E G n f args b with
            | none => rw [hc] at e; cases e
            | some q => rw [hc] at e; rw [h.call _ _ _ _ hc]; exact h.ops _ _ _ _ _ _ _ e
          | round l args =>
            simp only at e ⊢
            cases hc : roundA E G n l args b with
            | none => rw [hc] at e; cases e
            | some q => rw [hc] at e; rw [h.round _ _ _ _ hc]; exact h.ops _ _ _ _ _ _ _ e
      · rename_i hw
        rw [if_neg hw]
        exact h.ops _ _ _ _ _ _ _ e
theorem mono_step {n : Nat} (h : MonoAt E G n) (ops : Array Oper) (i : Nat) (t : List Value) (a : AW) (r) (e : stepR E (callA E G n) (roundA E G n) ops i t a = some r) : stepR E (callA E G (n + 1)) (roundA E G (n + 1)) ops i t a = some r := by
  unfold stepR at e ⊢
  cases ho : ops[i]? with
  | none => rw [ho] at e; cases e
  | some o =>
    rw [ho] at e
    simp only at e ⊢
    split at e
    · rename_i hw
      rw [if_pos hw]
      obtain ⟨q, hq, rfl⟩ := Option.map_eq_some_iff.1 e
      have : stepO E (callA E G (n + 1)) (roundA E G (n + 1)) o t a = some q := by
        clear e
        unfold stepO at hq ⊢
        cases hk : kindO E o with
        | pure => rw [hk] at hq; exact hq
        | read => rw [hk] at hq; exact hq
        | make => rw [hk] at hq; exact hq
        | work =>
          rw [hk] at hq
          simp only at hq ⊢
          cases hwk : workA E t o { next := a.next, heap := a.heap, base := a.next, dirty := [] } with
          | none => rw [hwk] at hq; cases hq
          | some p =>
            obtain ⟨x, a0⟩ := p
            rw [hwk] at hq
            cases x with
            | value v => exact hq
            | enter f args =>
              simp only at hq ⊢
              obtain ⟨u, hu, rfl⟩ := Option.map_eq_some_iff.1 hq
              rw [h.call _ _ _ _ hu]; rfl
            | round l args =>
              simp only at hq ⊢
              obtain ⟨u, hu, rfl⟩ := Option.map_eq_some_iff.1 hq
              rw [h.round _ _ _ _ hu]; rfl
      rw [this]; rfl
    · rename_i hw
      rw [if_neg hw]
      exact e
theorem mono_reg {n : Nat} (h : MonoAt E G n) (ops : Array Oper) (l : List Nat) (ns : List (Nat × Note)) (t : List Value) (a : AW) (r) (e : regA E G (n + 1) ops l ns t a = some r) : regA E G (n + 2) ops l ns t a = some r := by
  cases l with
  | nil => simpa only [regA] using e
  | cons i rest =>
    rw [regA] at e ⊢
    cases hs : stepR E (callA E G n) (roundA E G n) ops i t a with
    | none => rw [hs] at e; cases e
    | some q =>
      obtain ⟨note, t1, a1⟩ := q
      rw [hs] at e
      rw [mono_step h _ _ _ _ _ hs]
      simp only at e ⊢
      split at e
      · rename_i hw
        rw [if_pos hw]
        exact h.reg _ _ _ _ _ _ e
      · cases e
theorem mono_code {n : Nat} (h : MonoAt E G n) (fn : FuncId) (ro : Option Nat) (c : Code) (t : List Value) (ds : List Nat) (a : AW) (r) (e : codeA E G (n + 1) fn ro c t ds a = some r) : codeA E G (n + 2) fn ro c t ds a = some r := by
  rw [codeA.eq_def] at e ⊢
  cases c with
  | skip => exact e
  | label l => exact e
  | seq x y =>
    simp only at e ⊢
    cases hx : codeA E G n fn ro x t ds a with
    | none => rw [hx] at e; cases e
    | some q =>
      rw [h.code _ _ _ _ _ _ _ hx]
      rw [hx] at e
      obtain ⟨ex, t1, ds1, a1⟩ := q
      cases ex with
      | normal => exact h.code _ _ _ _ _ _ _ e
      | _ => exact e
  | cond c x y =>
    simp only at e ⊢
    split at e
    · exact h.code _ _ _ _ _ _ _ e
    · exact h.code _ _ _ _ _ _ _ e
    · cases e
  | block id c =>
    simp only at e ⊢
    cases hx : codeA E G n fn ro c t ds a with
    | none => rw [hx] at e; cases e
    | some q => rw [h.code _ _ _ _ _ _ _ hx]; rw [hx] at e; exact e
  | loop c =>
    simp only at e ⊢
    cases hx : codeA E G n fn ro c t ds a with
    | none => rw [hx] at e; cases e
    | some q =>
      rw [h.code _ _ _ _ _ _ _ hx]
      rw [hx] at e
      obtain ⟨ex, t1, ds1, a1⟩ := q
      cases ex with
      | normal => exact h.code _ _ _ _ _ _ _ e
      | _ => exact e
  | exit id => exact e
  | ret => exact e
  | region id ops draw =>
    cases draw with
    | false =>
      simp only at e ⊢
      cases hx : opsA E G n fn ro ops (List.range ops.size) t a with
      | none => rw [hx] at e; cases e
      | some q => rw [h.ops _ _ _ _ _ _ _ hx]; rw [hx] at e; exact e
    | true =>
      simp only at e ⊢
      split at e
      · rename_i hp
        rw [if_pos hp]
        cases hx : regA E G n ops (List.range ops.size) [] t { a with next := a.next + 1 } with
        | none => rw [hx] at e; cases e
        | some q => rw [h.reg _ _ _ _ _ _ hx]; rw [hx] at e; exact e
      · cases e
  | rangeFunc g ps assign body =>
    simp only at e ⊢
    split at e
    · rename_i f first captured hg
      split at e
      · cases e
      · rename_i hb
        rw [if_neg hb]
        split at e
        · rename_i v b hc
          rw [h.call _ _ _ _ hc]
          simp only at e ⊢
          split at e
          · rename_i r hr
            split at e
            · cases e
            · split at e
              · exact e
              · exact h.code _ _ _ _ _ _ _ e
          · cases e
        · cases e
    · cases e
  | _ => cases e
theorem mono_call {n : Nat} (h : MonoAt E G n) (f : FuncId) (args : Array Value) (a : AW) (r) (e : callA E G (n + 1) f args a = some r) : callA E G (n + 2) f args a = some r := by
  rw [callA.eq_def] at e ⊢
  simp only at e ⊢
  cases hg : given G f args a with
  | some q => rw [hg] at e; exact e
  | none =>
    rw [hg] at e
    simp only at e ⊢
    split at e
    · cases e
    · split at e
      · exact e
      · split at e
        · rename_i hc
          rw [h.code _ _ _ _ _ _ _ hc]
          exact e
        · cases e
theorem mono_round {n : Nat} (h : MonoAt E G n) (l : Nat) (args : Array Value) (a : AW) (r) (e : roundA E G (n + 1) l args a = some r) : roundA E G (n + 2) l args a = some r := by
  rw [roundA.eq_def] at e ⊢
  simp only at e ⊢
  split at e
  · rename_i q hq
    split at e
    · rename_i hs
      rw [if_pos hs]
      split at e
      · rename_i t1 a1 hc
        rw [h.code _ _ _ _ _ _ _ hc]
        simp only at e ⊢
        split at e
        · rename_i r1 hr1
          split at e
          · split at e
            · rename_i hb
              rw [h.code _ _ _ _ _ _ _ hb]
              exact e
            · cases e
          · cases e
        · cases e
      · cases e
    · cases e
  · cases e
theorem mono_at : ∀ n, MonoAt E G n
  | 0 => ⟨by intros; simp_all [opsA], by intros; simp_all [regA], by intros; simp_all [codeA], by intros; simp_all [callA], by intros; simp_all [roundA]⟩
  | n + 1 => ⟨mono_ops (mono_at n), mono_reg (mono_at n), mono_code (mono_at n), mono_call (mono_at n), mono_round (mono_at n)⟩
theorem ops_mono {n m : Nat} (h : n ≤ m) {fn ro ops l t a r} (e : opsA E G n fn ro ops l t a = some r) : opsA E G m fn ro ops l t a = some r := by
  induction h with
  | refl => exact e
  | step _ ih => exact (mono_at _).ops _ _ _ _ _ _ _ ih
theorem reg_mono {n m : Nat} (h : n ≤ m) {ops l ns t a r} (e : regA E G n ops l ns t a = some r) : regA E G m ops l ns t a = some r := by
  induction h with
  | refl => exact e
  | step _ ih => exact (mono_at _).reg _ _ _ _ _ _ ih
theorem code_mono {n m : Nat} (h : n ≤ m) {fn ro c t ds a r} (e : codeA E G n fn ro c t ds a = some r) : codeA E G m fn ro c t ds a = some r := by
  induction h with
  | refl => exact e
  | step _ ih => exact (mono_at _).code _ _ _ _ _ _ _ ih
theorem call_mono {n m : Nat} (h : n ≤ m) {f args a r} (e : callA E G n f args a = some r) : callA E G m f args a = some r := by
  induction h with
  | refl => exact e
  | step _ ih => exact (mono_at _).call _ _ _ _ ih
theorem round_mono {n m : Nat} (h : n ≤ m) {l args a r} (e : roundA E G n l args a = some r) : roundA E G m l args a = some r := by
  induction h with
  | refl => exact e
  | step _ ih => exact (mono_at _).round _ _ _ _ ih
end
end Go.Proofs.YtmdfejlfdgaomaaAM
