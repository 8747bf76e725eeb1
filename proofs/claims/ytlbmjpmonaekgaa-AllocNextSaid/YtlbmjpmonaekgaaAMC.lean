/- More fuel changes no answer; what a code answers, as a rule for its ends. (and what follows from it) -/
import Derived.Test.YtlbmjpmonaekgaaAMB
namespace Go.Proofs.YtlbmjpmonaekgaaAM
/- More fuel changes no answer; what a code answers, as a rule for its ends. -/
section
open Go Go.RowKit
set_option linter.unusedVariables false
set_option linter.unusedSimpArgs false

section
variable {E : Program} {G : Gives}

structure MonoAt (E : Program) (G : Gives) (n : Nat) : Prop where
  ops : ∀ fn ro ops l t a r, opsA E G n fn ro ops l t a = some r → opsA E G (n + 1) fn ro ops l t a = some r
  reg : ∀ ops l ns t a r, regA E G n ops l ns t a = some r → regA E G (n + 1) ops l ns t a = some r
  code : ∀ fn ro c t ds a r, codeA E G n fn ro c t ds a = some r → codeA E G (n + 1) fn ro c t ds a = some r
  call : ∀ f args a r, callA E G n f args a = some r → callA E G (n + 1) f args a = some r
  round : ∀ l args a r, roundA E G n l args a = some r → roundA E G (n + 1) l args a = some r

theorem mono_ops {n : Nat} (h : MonoAt E G n) (fn : FuncId) (ro : Option Nat) (ops : Array Oper) (l : List Nat) (t : List Value) (a : AW) (r) (e : opsA E G (n + 1) fn ro ops l t a = some r) : opsA E G (n + 2) fn ro ops l t a = some r := by
  cases l with
  | nil => simpa only [opsA] using e
  | cons i rest =>
    rw [opsA] at e ⊢
    cases ho : ops[i]? with
    | none => rw [ho] at e; cases e
    | some o =>
      rw [ho] at e
      simp only at e ⊢
      split at e
      · rename_i hw
        rw [if_pos hw]
        cases hop : opA E t o a with
        | none => rw [hop] at e; cases e
        | some q =>
          obtain ⟨x, b⟩ := q
          rw [hop] at e
          cases x with
          | value v => exact h.ops _ _ _ _ _ _ _ e
          | enter f args =>
            simp only at e ⊢
            cases hc : callA E G n f args b with
            | none => rw [hc] at e; cases e
            | some q => rw [hc] at e; rw [h.call _ _ _ _ hc]; exact h.ops _ _ _ _ _ _ _ e
          | round l args =>
            simp only at e ⊢
            cases hc : roundA E G n l args b with
            | none => rw [hc] at e; cases e
            | some q => rw [hc] at e; rw [h.round _ _ _ _ hc]; exact h.ops _ _ _ _ _ _ _ e
      · rename_i hw
        rw [if_neg hw]
        exact h.ops _ _ _ _ _ _ _ e
theorem mono_step {n : Nat} (h : MonoAt E G n) (ops : Array Oper) (i : Nat) (t : List Value) (a : AW) (r) (e : stepR E (callA E G n) (roundA E G n) ops i t a = some r) : stepR E (callA E G (n + 1)) (roundA E G (n + 1)) ops i t a = some r := by
  unfold stepR at e ⊢
  cases ho : ops[i]? with
  | none => rw [ho] at e; cases e
  | some o =>
    rw [ho] at e
    simp only at e ⊢
    split at e
    · rename_i hw
      rw [if_pos hw]
      obtain ⟨q, hq, rfl⟩ := Option.map_eq_some_iff.1 e
      have : stepO E (callA E G (n + 1)) (roundA E G (n + 1)) o t a = some q := by
        clear e
        unfold stepO at hq ⊢
        cases hk : kindO E o with
        | pure => rw [hk] at hq; exact hq
        | read => rw [hk] at hq; exact hq
        | make => rw [hk] at hq; exact hq
        | work =>
          rw [hk] at hq
          simp only at hq ⊢
          cases hwk : workA E t o { next := a.next, heap := a.heap, base := a.next, dirty := [] } with
          | none => rw [hwk] at hq; cases hq
          | some p =>
            obtain ⟨x, a0⟩ := p
            rw [hwk] at hq
            cases x with
            | value v => exact hq
            | enter f args =>
              simp only at hq ⊢
              obtain ⟨u, hu, rfl⟩ := Option.map_eq_some_iff.1 hq
              rw [h.call _ _ _ _ hu]; rfl
            | round l args =>
              simp only at hq ⊢
              obtain ⟨u, hu, rfl⟩ := Option.map_eq_some_iff.1 hq
              rw [h.round _ _ _ _ hu]; rfl
      rw [this]; rfl
    · rename_i hw
      rw [if_neg hw]
      exact e
theorem mono_reg {n : Nat} (h : MonoAt E G n) (ops : Array Oper) (l : List Nat) (ns : List (Nat × Note)) (t : List Value) (a : AW) (r) (e : regA E G (n + 1) ops l ns t a = some r) : regA E G (n + 2) ops l ns t a = some r := by
  cases l with
  | nil => simpa only [regA] using e
  | cons i rest =>
    rw [regA] at e ⊢
    cases hs : stepR E (callA E G n) (roundA E G n) ops i t a with
    | none => rw [hs] at e; cases e
    | some q =>
      obtain ⟨note, t1, a1⟩ := q
      rw [hs] at e
      rw [mono_step h _ _ _ _ _ hs]
      simp only at e ⊢
      split at e
      · rename_i hw
        rw [if_pos hw]
        exact h.reg _ _ _ _ _ _ e
      · cases e
theorem mono_code {n : Nat} (h : MonoAt E G n) (fn : FuncId) (ro : Option Nat) (c : Code) (t : List Value) (ds : List Nat) (a : AW) (r) (e : codeA E G (n + 1) fn ro c t ds a = some r) : codeA E G (n + 2) fn ro c t ds a = some r := by
  rw [codeA.eq_def] at e ⊢
  cases c with
  | skip => exact e
  | label l => exact e
  | seq x y =>
    simp only at e ⊢
    cases hx : codeA E G n fn ro x t ds a with
    | none => rw [hx] at e; cases e
    | some q =>
      rw [h.code _ _ _ _ _ _ _ hx]
      rw [hx] at e
      obtain ⟨ex, t1, ds1, a1⟩ := q
      cases ex with
      | normal => exact h.code _ _ _ _ _ _ _ e
      | _ => exact e
  | cond c x y =>
    simp only at e ⊢
    split at e
    · exact h.code _ _ _ _ _ _ _ e
    · exact h.code _ _ _ _ _ _ _ e
    · cases e
  | block id c =>
    simp only at e ⊢
    cases hx : codeA E G n fn ro c t ds a with
    | none => rw [hx] at e; cases e
    | some q => rw [h.code _ _ _ _ _ _ _ hx]; rw [hx] at e; exact e
  | loop c =>
    simp only at e ⊢
    cases hx : codeA E G n fn ro c t ds a with
    | none => rw [hx] at e; cases e
    | some q =>
      rw [h.code _ _ _ _ _ _ _ hx]
      rw [hx] at e
      obtain ⟨ex, t1, ds1, a1⟩ := q
      cases ex with
      | normal => exact h.code _ _ _ _ _ _ _ e
      | _ => exact e
  | exit id => exact e
  | ret => exact e
  | region id ops draw =>
    cases draw with
    | false =>
      simp only at e ⊢
      cases hx : opsA E G n fn ro ops (List.range ops.size) t a with
      | none => rw [hx] at e; cases e
      | some q => rw [h.ops _ _ _ _ _ _ _ hx]; rw [hx] at e; exact e
    | true =>
      simp only at e ⊢
      split at e
      · rename_i hp
        rw [if_pos hp]
        cases hx : regA E G n ops (List.range ops.size) [] t { a with next := a.next + 1 } with
        | none => rw [hx] at e; cases e
        | some q => rw [h.reg _ _ _ _ _ _ hx]; rw [hx] at e; exact e
      · cases e
  | rangeFunc g ps assign body =>
    simp only at e ⊢
    split at e
    · rename_i f first captured hg
      split at e
      · cases e
      · rename_i hb
        rw [if_neg hb]
        split at e
        · rename_i v b hc
          rw [h.call _ _ _ _ hc]
          simp only at e ⊢
          split at e
          · rename_i r hr
            split at e
            · cases e
            · split at e
              · exact e
              · exact h.code _ _ _ _ _ _ _ e
          · cases e
        · cases e
    · cases e
  | _ => cases e
theorem mono_call {n : Nat} (h : MonoAt E G n) (f : FuncId) (args : Array Value) (a : AW) (r) (e : callA E G (n + 1) f args a = some r) : callA E G (n + 2) f args a = some r := by
  rw [callA.eq_def] at e ⊢
  simp only at e ⊢
  cases hg : given G f args a with
  | some q => rw [hg] at e; exact e
  | none =>
    rw [hg] at e
    simp only at e ⊢
    split at e
    · cases e
    · split at e
      · exact e
      · split at e
        · rename_i hc
          rw [h.code _ _ _ _ _ _ _ hc]
          exact e
        · cases e
theorem mono_round {n : Nat} (h : MonoAt E G n) (l : Nat) (args : Array Value) (a : AW) (r) (e : roundA E G (n + 1) l args a = some r) : roundA E G (n + 2) l args a = some r := by
  rw [roundA.eq_def] at e ⊢
  simp only at e ⊢
  split at e
  · rename_i q hq
    split at e
    · rename_i hs
      rw [if_pos hs]
      split at e
      · rename_i t1 a1 hc
        rw [h.code _ _ _ _ _ _ _ hc]
        simp only at e ⊢
        split at e
        · rename_i r1 hr1
          split at e
          · split at e
            · rename_i hb
              rw [h.code _ _ _ _ _ _ _ hb]
              exact e
            · cases e
          · cases e
        · cases e
      · cases e
    · cases e
  · cases e
theorem mono_at : ∀ n, MonoAt E G n
  | 0 => ⟨by intros; simp_all [opsA], by intros; simp_all [regA], by intros; simp_all [codeA], by intros; simp_all [callA], by intros; simp_all [roundA]⟩
  | n + 1 => ⟨mono_ops (mono_at n), mono_reg (mono_at n), mono_code (mono_at n), mono_call (mono_at n), mono_round (mono_at n)⟩
theorem ops_mono {n m : Nat} (h : n ≤ m) {fn ro ops l t a r} (e : opsA E G n fn ro ops l t a = some r) : opsA E G m fn ro ops l t a = some r := by
  induction h with
  | refl => exact e
  | step _ ih => exact (mono_at _).ops _ _ _ _ _ _ _ ih
theorem reg_mono {n m : Nat} (h : n ≤ m) {ops l ns t a r} (e : regA E G n ops l ns t a = some r) : regA E G m ops l ns t a = some r := by
  induction h with
  | refl => exact e
  | step _ ih => exact (mono_at _).reg _ _ _ _ _ _ ih
theorem code_mono {n m : Nat} (h : n ≤ m) {fn ro c t ds a r} (e : codeA E G n fn ro c t ds a = some r) : codeA E G m fn ro c t ds a = some r := by
  induction h with
  | refl => exact e
  | step _ ih => exact (mono_at _).code _ _ _ _ _ _ _ ih
theorem call_mono {n m : Nat} (h : n ≤ m) {f args a r} (e : callA E G n f args a = some r) : callA E G m f args a = some r := by
  induction h with
  | refl => exact e
  | step _ ih => exact (mono_at _).call _ _ _ _ ih
theorem round_mono {n m : Nat} (h : n ≤ m) {l args a r} (e : roundA E G n l args a = some r) : roundA E G m l args a = some r := by
  induction h with
  | refl => exact e
  | step _ ih => exact (mono_at _).round _ _ _ _ ih
end
end
/- What a code answers, as a rule for what comes behind it: free of fuel. -/
section
open Go Go.RowKit
set_option linter.unusedVariables false
set_option linter.unusedSimpArgs false


universe u v
inductive Tag {α : Sort u} {β : Sort v} (x : α) (y : β) : Type where
  | mk
theorem hide {α : Sort u} {x y : α} (h : x = y) : x = y := h
/-- An option's value, handed on. -/
def WVal {α : Type} (r : Option α) (K : α → Prop) (_ : Tag K K := .mk) : Prop := match r with
  | some v => K v
  | none => False
theorem WVal_some {α : Type} (v : α) (K : α → Prop) : WVal (some v) K = K v := hide rfl
theorem WVal_none {α : Type} (K : α → Prop) : WVal (none : Option α) K = False := hide rfl
def WIf (r : Option Value) (p q : Prop) (_ : Tag p q := .mk) : Prop := match r with
  | some (.bool true) => p
  | some (.bool false) => q
  | _ => False
theorem WIf_true (p q : Prop) : WIf (some (.bool true)) p q = p := hide rfl
theorem WIf_false (p q : Prop) : WIf (some (.bool false)) p q = q := hide rfl
theorem WIf_both {b : Bool} {p q : Prop} (h1 : b = true → p) (h2 : b = false → q) : WIf (some (.bool b)) p q := by
  cases b
  · exact h2 rfl
  · exact h1 rfl
def WGuard (y : Option Bool) (b : Bool) (p q : Prop) (_ : Tag p q := .mk) : Prop := if y = some b then p else q
theorem WGuard_tt (p q : Prop) : WGuard (some true) true p q = p := hide rfl
theorem WGuard_tf (p q : Prop) : WGuard (some true) false p q = q := hide rfl
theorem WGuard_ft (p q : Prop) : WGuard (some false) true p q = q := hide rfl
theorem WGuard_ff (p q : Prop) : WGuard (some false) false p q = p := hide rfl
theorem WGuard_n (b : Bool) (p q : Prop) : WGuard none b p q = q := by simp [WGuard]
theorem WGuard_both {y : Bool} {b : Bool} {p q : Prop} (h1 : y = b → p) (h2 : y = !b → q) : WGuard (some y) b p q := by
  unfold WGuard
  split
  · rename_i h; exact h1 (by simpa using h)
  · rename_i h; exact h2 (by revert h; cases y <;> cases b <;> simp)

section
variable (E : Program) (G : Gives)
def WOps (fn : FuncId) (ro : Option Nat) (ops : Array Oper) (is : List Nat) (t : List Value) (a : AW) (Q : List Value → AW → Prop) : Prop :=
  ∃ n t' b, opsA E G n fn ro ops is t a = some (t', b) ∧ Q t' b
def WCode (fn : FuncId) (ro : Option Nat) (c : Code) (t : List Value) (ds : List Nat) (a : AW) (Q : ExitA → List Value → List Nat → AW → Prop) (_ : Tag c Q := .mk) : Prop :=
  ∃ n e t' ds' b, codeA E G n fn ro c t ds a = some (e, t', ds', b) ∧ Q e t' ds' b
def WCall (f : FuncId) (args : List Value) (a : AW) (K : Value → AW → Prop) (_ : Tag K K := .mk) : Prop :=
  ∃ n v b, callA E G n f args.toArray a = some (v, b) ∧ K v b
def WRound (l : Nat) (args : List Value) (a : AW) (K : Value → AW → Prop) (_ : Tag K K := .mk) : Prop :=
  ∃ n v b, roundA E G n l args.toArray a = some (v, b) ∧ K v b
def oper (op : Op) : Oper := ⟨none, op, 0, "", #[], none⟩
def WOp (op : Op) (t : List Value) (a : AW) (K : Value → AW → Prop) (_ : Tag op K := .mk) : Prop :=
  WVal (opA E t (oper op) a) fun x => match x with
    | (.value v, b) => K v b
    | (.enter f args, b) => WCall E G f args.toList b K
    | (.round l args, b) => WRound E G l args.toList b K
def dstsOf : List Oper → List (Option Tmp)
  | [] => []
  | o :: l => o.dst :: dstsOf l
def getT (t : List Value) (i : Nat) : Value := t.getD i undef
def putV (t : List Value) (i : Nat) (v : Value) : List Value := t.set i v
def dget (l : List (Option Tmp)) (j : Nat) : Option Tmp := l.getD j none
def asBool (v : Value) : Option Bool := match v with
  | .bool b => some b
  | _ => none
def boolAt (t : List Value) (d : Option Tmp) : Option Bool := match d with
  | some d => asBool (getT t d)
  | none => none
def yieldedD (dsts : List (Option Tmp)) (t : List Value) (j : Nat) : Option Bool :=
  boolAt t (dget dsts j)
def wantD (g : Option (Nat × Bool)) (dsts : List (Option Tmp)) (t : List Value) (p q : Prop) : Prop :=
  match g with
  | none => p
  | some (j, b) => WGuard (yieldedD dsts t j) b p q
def WL0 (dsts : List (Option Tmp)) : List Oper → List Value → AW → (List Value → AW → Prop) → Prop
  | [], t, a, Q => Q t a
  | o :: l, t, a, Q => wantD o.guard dsts t (WOp E G o.op t a fun v b => WL0 dsts l (putT t o.dst v) b Q) (WL0 dsts l (putT t o.dst undef) a Q)
def WL (dsts : List (Option Tmp)) (l : List Oper) (t : List Value) (a : AW) (Q : List Value → AW → Prop) (_ : Tag l Q := .mk) : Prop := WL0 E G dsts l t a Q
end

section
variable {E : Program} {G : Gives}
theorem opA_oper (o : Oper) (t : List Value) (a : AW) : opA E t o a = opA E t (oper o.op) a := rfl
theorem dsts_eq {ops : Array Oper} {j : Nat} : (dstsOf ops.toList).getD j none = (ops[j]?).bind (·.dst) := by
  have : ∀ (l : List Oper) j, (dstsOf l).getD j none = (l[j]?).bind (·.dst) := by
    intro l
    induction l with
    | nil => intro j; rfl
    | cons o l ih => intro j; cases j with
      | zero => simp [dstsOf]
      | succ j => simpa [dstsOf] using ih j
  rw [this, Array.getElem?_toList]
theorem yielded_eq {ops : Array Oper} {t : List Value} {j : Nat} : yieldedA ops t j = yieldedD (dstsOf ops.toList) t j := by
  unfold yieldedA yieldedD dget
  rw [dsts_eq]
  cases (ops[j]?).bind (·.dst) with
  | none => rfl
  | some d =>
    simp only [Option.bind_some, boolAt, getT, List.getD_eq_getElem?_getD]
    cases t[d]? with
    | none => rfl
    | some v => cases v <;> rfl
theorem wanted_eq {ops : Array Oper} {t : List Value} {o : Oper} {p q : Prop} : (if Region.wanted o (yieldedA ops t) then p else q) = wantD o.guard (dstsOf ops.toList) t p q := by
  unfold Region.wanted wantD
  cases hg : o.guard with
  | none => simp
  | some g =>
    obtain ⟨j, b⟩ := g
    simp only [yielded_eq, WGuard, beq_iff_eq]
theorem wops_iff {fn ro} {ops : Array Oper} {Q} : ∀ (l : List Oper) (k : Nat) (t : List Value) (a : AW), ops.toList.drop k = l → (WOps E G fn ro ops (List.range' k l.length) t a Q ↔ WL E G (dstsOf ops.toList) l t a Q) := by
  intro l
  induction l with
  | nil =>
    intro k t a hk
    constructor
    · rintro ⟨n, t', b, h, hq⟩
      cases n with
      | zero => simp [opsA] at h
      | succ n =>
        simp only [List.length_nil, List.range'_zero, opsA, Option.some.injEq, Prod.mk.injEq] at h
        obtain ⟨rfl, rfl⟩ := h
        exact hq
    · intro h
      exact ⟨1, t, a, by simp [opsA], h⟩
  | cons o l ih =>
    intro k t a hk
    have hlt : k < ops.toList.length := by
      rcases Nat.lt_or_ge k ops.toList.length with h | h
      · exact h
      · rw [List.drop_eq_nil_of_le h] at hk; cases hk
    have hd := List.drop_eq_getElem_cons hlt
    rw [hk] at hd
    obtain ⟨ho, hl⟩ := List.cons.inj hd
    have hok : ops[k]? = some o := by
      rw [← Array.getElem?_toList, List.getElem?_eq_getElem hlt, ho]
    have ih' := fun t a => ih (k + 1) t a hl.symm
    have key : WOps E G fn ro ops (k :: List.range' (k + 1) l.length) t a Q ↔ (if Region.wanted o (yieldedA ops t) then WOp E G o.op t a (fun v b => WOps E G fn ro ops (List.range' (k + 1) l.length) (putT t o.dst v) b Q) else WOps E G fn ro ops (List.range' (k + 1) l.length) (putT t o.dst undef) a Q) := by
      constructor
      · rintro ⟨n, t', b, h, hq⟩
        cases n with
        | zero => simp [opsA] at h
        | succ n =>
          rw [opsA, hok] at h
          simp only at h
          split at h
          · rename_i hw
            rw [if_pos hw]
            unfold WOp
            rw [← opA_oper]
            cases hop : opA E t o a with
            | none => rw [hop] at h; cases h
            | some x =>
              obtain ⟨x, a1⟩ := x
              rw [hop] at h
              cases x with
              | value v => exact ⟨n, t', b, h, hq⟩
              | enter f args =>
                simp only at h
                cases hc : callA E G n f args a1 with
                | none => rw [hc] at h; cases h
                | some r => rw [hc] at h; exact ⟨n, r.1, r.2, by simpa using hc, n, t', b, h, hq⟩
              | round f args =>
                simp only at h
                cases hc : roundA E G n f args a1 with
                | none => rw [hc] at h; cases h
                | some r => rw [hc] at h; exact ⟨n, r.1, r.2, by simpa using hc, n, t', b, h, hq⟩
          · rename_i hw
            rw [if_neg hw]
            exact ⟨n, t', b, h, hq⟩
      · intro h
        split at h
        · rename_i hw
          unfold WOp at h
          rw [← opA_oper] at h
          cases hop : opA E t o a with
          | none => rw [hop] at h; exact h.elim
          | some x =>
            obtain ⟨x, a1⟩ := x
            rw [hop] at h
            cases x with
            | value v =>
              obtain ⟨n, t', b, e, hq⟩ := h
              exact ⟨n + 1, t', b, by rw [opsA, hok]; simp only; rw [if_pos hw, hop]; exact e, hq⟩
            | enter f args =>
              obtain ⟨m, v, a2, hc, n, t', b, e, hq⟩ := h
              refine ⟨max m n + 1, t', b, ?_, hq⟩
              rw [opsA, hok]; simp only; rw [if_pos hw, hop]; simp only
              rw [call_mono (Nat.le_max_left m n) (by simpa using hc)]
              exact ops_mono (Nat.le_max_right m n) e
            | round f args =>
              obtain ⟨m, v, a2, hc, n, t', b, e, hq⟩ := h
              refine ⟨max m n + 1, t', b, ?_, hq⟩
              rw [opsA, hok]; simp only; rw [if_pos hw, hop]; simp only
              rw [round_mono (Nat.le_max_left m n) (by simpa using hc)]
              exact ops_mono (Nat.le_max_right m n) e
        · rename_i hw
          obtain ⟨n, t', b, e, hq⟩ := h
          exact ⟨n + 1, t', b, by rw [opsA, hok]; simp only; rw [if_neg hw]; exact e, hq⟩
    rw [List.length_cons, List.range'_succ, key, WL, WL0, ← wanted_eq]
    have h1 : (fun v b => WOps E G fn ro ops (List.range' (k + 1) l.length) (putT t o.dst v) b Q) = fun v b => WL0 E G (dstsOf ops.toList) l (putT t o.dst v) b Q := by
      funext v b; exact propext (ih' _ _)
    have h2 : WOps E G fn ro ops (List.range' (k + 1) l.length) (putT t o.dst undef) a Q = WL0 E G (dstsOf ops.toList) l (putT t o.dst undef) a Q := propext (ih' _ _)
    rw [h1, h2]
theorem wops_all {fn ro} {ops : Array Oper} {t a Q} : WOps E G fn ro ops (List.range ops.size) t a Q ↔ WL E G (dstsOf ops.toList) ops.toList t a Q := by
  rw [List.range_eq_range', ← Array.length_toList]
  exact wops_iff ops.toList 0 t a rfl
end
end
/- The rules of codes, calls and operations. -/
section
open Go Go.RowKit
set_option linter.unusedVariables false
set_option linter.unusedSimpArgs false

def onNormal (e : ExitA) (p q : Prop) (_ : Tag p q := .mk) : Prop := match e with
  | .normal => p
  | _ => q
def onExit (id : Nat) (e : ExitA) (p q : Prop) (_ : Tag p q := .mk) : Prop := match e with
  | .exit i => if i = id then p else q
  | _ => q
theorem onNormal_normal (p q : Prop) : onNormal .normal p q = p := hide rfl
theorem onNormal_exit (i : Nat) (p q : Prop) : onNormal (.exit i) p q = q := hide rfl
theorem onNormal_ret (p q : Prop) : onNormal .ret p q = q := hide rfl
theorem onExit_normal (i : Nat) (p q : Prop) : onExit i .normal p q = q := hide rfl
theorem onExit_ret (i : Nat) (p q : Prop) : onExit i .ret p q = q := hide rfl
theorem onExit_self (i : Nat) (p q : Prop) : onExit i (.exit i) p q = p := by simp [onExit]
theorem onExit_other {i j : Nat} (h : (j == i) = false) (p q : Prop) : onExit i (.exit j) p q = q := by
  have : j ≠ i := by simpa using h
  simp [onExit, this]
section
variable {E : Program} {G : Gives} {fn : FuncId} {ro : Option Nat} {t : List Value} {ds : List Nat} {a : AW} {Q : ExitA → List Value → List Nat → AW → Prop}
theorem code_skip : WCode E G fn ro .skip t ds a Q = Q .normal t ds a := by
  refine propext ⟨?_, fun h => ⟨1, _, _, _, _, by simp [codeA], h⟩⟩
  rintro ⟨n, e, t', ds', b, h, hq⟩
  cases n with
  | zero => simp [codeA] at h
  | succ n => simp only [codeA, Option.some.injEq, Prod.mk.injEq] at h; obtain ⟨rfl, rfl, rfl, rfl⟩ := h; exact hq
theorem code_label {l} : WCode E G fn ro (.label l) t ds a Q = Q .normal t ds a := by
  refine propext ⟨?_, fun h => ⟨1, _, _, _, _, by simp [codeA], h⟩⟩
  rintro ⟨n, e, t', ds', b, h, hq⟩
  cases n with
  | zero => simp [codeA] at h
  | succ n => simp only [codeA, Option.some.injEq, Prod.mk.injEq] at h; obtain ⟨rfl, rfl, rfl, rfl⟩ := h; exact hq
theorem code_exit {i} : WCode E G fn ro (.exit i) t ds a Q = Q (.exit i) t ds a := by
  refine propext ⟨?_, fun h => ⟨1, _, _, _, _, by simp [codeA], h⟩⟩
  rintro ⟨n, e, t', ds', b, h, hq⟩
  cases n with
  | zero => simp [codeA] at h
  | succ n => simp only [codeA, Option.some.injEq, Prod.mk.injEq] at h; obtain ⟨rfl, rfl, rfl, rfl⟩ := h; exact hq
theorem code_ret : WCode E G fn ro .ret t ds a Q = Q .ret t ds a := by
  refine propext ⟨?_, fun h => ⟨1, _, _, _, _, by simp [codeA], h⟩⟩
  rintro ⟨n, e, t', ds', b, h, hq⟩
  cases n with
  | zero => simp [codeA] at h
  | succ n => simp only [codeA, Option.some.injEq, Prod.mk.injEq] at h; obtain ⟨rfl, rfl, rfl, rfl⟩ := h; exact hq
theorem code_seq {x y : Code} : WCode E G fn ro (.seq x y) t ds a Q = WCode E G fn ro x t ds a fun e t ds a => onNormal e (WCode E G fn ro y t ds a Q) (Q e t ds a) := by
  refine propext ⟨?_, ?_⟩
  · rintro ⟨n, e, t', ds', b, h, hq⟩
    cases n with
    | zero => simp [codeA] at h
    | succ n =>
      rw [codeA] at h
      try simp only at h
      cases hx : codeA E G n fn ro x t ds a with
      | none => rw [hx] at h; cases h
      | some r =>
        obtain ⟨e1, t1, ds1, a1⟩ := r
        rw [hx] at h
        refine ⟨n, _, _, _, _, hx, ?_⟩
        cases e1 with
        | normal => exact ⟨n, _, _, _, _, h, hq⟩
        | _ => cases h; exact hq
  · rintro ⟨n, e, t', ds', b, h, hq⟩
    cases e with
    | normal =>
      obtain ⟨m, e2, t2, ds2, b2, h2, hq⟩ := hq
      refine ⟨max n m + 1, e2, t2, ds2, b2, ?_, hq⟩
      rw [codeA]
      try simp only
      rw [code_mono (Nat.le_max_left n m) h]
      exact code_mono (Nat.le_max_right n m) h2
    | _ =>
      refine ⟨n + 1, _, _, _, _, ?_, hq⟩
      rw [codeA]
      try simp only
      rw [h]
theorem code_cond {c : Operand} {x y : Code} : WCode E G fn ro (.cond c x y) t ds a Q = WIf (evalA t c) (WCode E G fn ro x t ds a Q) (WCode E G fn ro y t ds a Q) := by
  refine propext ⟨?_, ?_⟩
  · rintro ⟨n, e, t', ds', b, h, hq⟩
    cases n with
    | zero => simp [codeA] at h
    | succ n =>
      rw [codeA] at h
      try simp only at h
      unfold WIf
      split at h
      · rename_i hc; rw [hc]; exact ⟨n, _, _, _, _, h, hq⟩
      · rename_i hc; rw [hc]; exact ⟨n, _, _, _, _, h, hq⟩
      · cases h
  · intro h
    unfold WIf at h
    split at h
    · rename_i hc
      obtain ⟨n, e, t', ds', b, h, hq⟩ := h
      exact ⟨n + 1, _, _, _, _, by rw [codeA]; simp only [hc]; exact h, hq⟩
    · rename_i hc
      obtain ⟨n, e, t', ds', b, h, hq⟩ := h
      exact ⟨n + 1, _, _, _, _, by rw [codeA]; simp only [hc]; exact h, hq⟩
    · exact h.elim
theorem code_block {id : Nat} {c : Code} : WCode E G fn ro (.block id c) t ds a Q = WCode E G fn ro c t ds a fun e t ds a => onExit id e (Q .normal t ds a) (Q e t ds a) := by
  refine propext ⟨?_, ?_⟩
  · rintro ⟨n, e, t', ds', b, h, hq⟩
    cases n with
    | zero => simp [codeA] at h
    | succ n =>
      rw [codeA] at h
      try simp only at h
      cases hx : codeA E G n fn ro c t ds a with
      | none => rw [hx] at h; cases h
      | some r =>
        obtain ⟨e1, t1, ds1, a1⟩ := r
        rw [hx] at h
        refine ⟨n, _, _, _, _, hx, ?_⟩
        cases e1 with
        | exit i =>
          try simp only at h
          unfold onExit
          try simp only
          split at h
          · rename_i hi; rw [if_pos hi]; cases h; exact hq
          · rename_i hi; rw [if_neg hi]; cases h; exact hq
        | _ => cases h; exact hq
  · rintro ⟨n, e, t', ds', b, h, hq⟩
    cases e with
    | exit i =>
      unfold onExit at hq
      simp only at hq
      by_cases hi : i = id
      · rw [if_pos hi] at hq
        exact ⟨n + 1, _, _, _, _, by rw [codeA]; (try simp only); rw [h]; (try simp only); rw [if_pos hi], hq⟩
      · rw [if_neg hi] at hq
        exact ⟨n + 1, _, _, _, _, by rw [codeA]; (try simp only); rw [h]; (try simp only); rw [if_neg hi], hq⟩
    | _ =>
      refine ⟨n + 1, _, _, _, _, ?_, hq⟩
      rw [codeA]
      try simp only
      rw [h]
theorem code_loop {c : Code} : WCode E G fn ro (.loop c) t ds a Q = WCode E G fn ro c t ds a fun e t ds a => onNormal e (WCode E G fn ro (.loop c) t ds a Q) (Q e t ds a) := by
  refine propext ⟨?_, ?_⟩
  · rintro ⟨n, e, t', ds', b, h, hq⟩
    cases n with
    | zero => simp [codeA] at h
    | succ n =>
      rw [codeA] at h
      try simp only at h
      cases hx : codeA E G n fn ro c t ds a with
      | none => rw [hx] at h; cases h
      | some r =>
        obtain ⟨e1, t1, ds1, a1⟩ := r
        rw [hx] at h
        refine ⟨n, _, _, _, _, hx, ?_⟩
        cases e1 with
        | normal => exact ⟨n, _, _, _, _, h, hq⟩
        | _ => cases h; exact hq
  · rintro ⟨n, e, t', ds', b, h, hq⟩
    cases e with
    | normal =>
      obtain ⟨m, e2, t2, ds2, b2, h2, hq⟩ := hq
      refine ⟨max n m + 1, e2, t2, ds2, b2, ?_, hq⟩
      rw [codeA]
      try simp only
      rw [code_mono (Nat.le_max_left n m) h]
      exact code_mono (Nat.le_max_right n m) h2
    | _ =>
      refine ⟨n + 1, _, _, _, _, ?_, hq⟩
      rw [codeA]
      try simp only
      rw [h]
theorem code_region {id : Nat} {l : List Oper} : WCode E G fn ro (.region id l.toArray false) t ds a Q = WL E G (dstsOf l) l t a fun t a => Q .normal t ds a := by
  have := @wops_all E G fn ro l.toArray t a (fun t a => Q .normal t ds a)
  simp only at this
  rw [← this]
  refine propext ⟨?_, ?_⟩
  · rintro ⟨n, e, t', ds', b, h, hq⟩
    cases n with
    | zero => simp [codeA] at h
    | succ n =>
      rw [codeA] at h
      try simp only at h
      cases hx : opsA E G n fn ro l.toArray (List.range l.toArray.size) t a with
      | none => rw [hx] at h; cases h
      | some r =>
        obtain ⟨t1, a1⟩ := r
        rw [hx] at h
        cases h
        exact ⟨n, _, _, hx, hq⟩
  · rintro ⟨n, t', b, h, hq⟩
    exact ⟨n + 1, _, _, _, _, by rw [codeA]; (try simp only); rw [h], hq⟩

def WRet (E : Program) (before : AW) (rs : List ResultVar) (e : ExitA) (t : List Value) (ds : List Nat) (b : AW) (K : Value → AW → Prop) : Prop :=
  match e with
  | .normal | .ret => WVal (unwindA ds b) fun b => WVal (resultsA E b t rs) fun vs => K (oneOf (leaveA before vs b).1) (leaveA before vs b).2
  | _ => False
theorem WRet_ret {before rs t ds b K} : WRet E before rs .ret t ds b K = WVal (unwindA ds b) fun b => WVal (resultsA E b t rs) fun vs => K (oneOf (leaveA before vs b).1) (leaveA before vs b).2 := hide rfl
theorem WRet_normal {before rs t ds b K} : WRet E before rs .normal t ds b K = WVal (unwindA ds b) fun b => WVal (resultsA E b t rs) fun vs => K (oneOf (leaveA before vs b).1) (leaveA before vs b).2 := hide rfl
theorem unwind_nil {b} : unwindA [] b = some b := hide rfl
theorem results_nil {b} : resultsA E b t [] = some [] := hide rfl
theorem results_tmp {b d r} : resultsA E b t (.tmp d :: r) = (resultsA E b t r).map (getT t d :: ·) := by
  simp only [resultsA, getT]
  cases resultsA E b t r <;> rfl
theorem results_cell {b d ty r} : resultsA E b t (.cell d ty :: r) = match getT t d with
    | .pointer (some p) => (loadVarA E ty p b).bind fun v => (resultsA E b t r).map (v :: ·)
    | _ => none := by
  unfold getT
  rw [resultsA]
  split
  · rename_i p hp
    rw [hp]
    simp only
    cases loadVarA E ty p b <;> cases resultsA E b t r <;> simp
  · rename_i hp
    split
    · rename_i p hp2
      exact absurd hp2 (hp p)
    · rfl
theorem leave_flat {before : AW} {vs : List Value} {n h b} (hv : vs.all flat = true) : leaveA before vs ⟨n, h, b, []⟩ = (vs, before) := by
  unfold leaveA
  have : vs.filter (fun v => !flat v) = [] := by
    rw [List.filter_eq_nil_iff]
    intro v hm
    simp [List.all_eq_true.1 hv v hm]
  simp [this]
theorem call_body {f : FuncId} {fn : Func} {c : Code} {m : Nat} {rs : List ResultVar} (hf : E.funcs[f]? = some fn) (hb : fn.body = some c) (hm : fn.ntmps = m) (hr : fn.results = rs.toArray) (hG : G f = none) {args : List Value} {a : AW} {K : Value → AW → Prop} :
    WCall E G f args a K = WCode E G f none c (args ++ List.replicate (m - args.length) undef) [] ⟨a.next, a.heap, a.next, []⟩ fun e t ds b => WRet E a rs e t ds b K := by
  obtain rfl : fn.results.toList = rs := by rw [hr]
  subst hm
  refine propext ⟨?_, ?_⟩
  · rintro ⟨n, v, b, h, hk⟩
    cases n with
    | zero => simp [callA] at h
    | succ n =>
      rw [callA] at h
      simp only [given, hG, hf, hb, List.size_toArray] at h
      split at h
      · rename_i e t1 ds1 a1 hc
        refine ⟨n, _, _, _, _, hc, ?_⟩
        cases e with
        | normal =>
          simp only at h
          rw [WRet_normal]
          split at h
          · rename_i a2 hu
            rw [hu, WVal_some]
            split at h
            · rename_i vs hr
              rw [hr, WVal_some]
              simp only [Option.some.injEq, Prod.mk.injEq] at h
              obtain ⟨rfl, rfl⟩ := h
              exact hk
            · cases h
          · cases h
        | ret =>
          simp only at h
          rw [WRet_ret]
          split at h
          · rename_i a2 hu
            rw [hu, WVal_some]
            split at h
            · rename_i vs hr
              rw [hr, WVal_some]
              simp only [Option.some.injEq, Prod.mk.injEq] at h
              obtain ⟨rfl, rfl⟩ := h
              exact hk
            · cases h
          · cases h
        | _ => cases h
      · cases h
  · rintro ⟨n, e, t1, ds1, a1, hc, hr⟩
    cases e with
    | normal =>
      rw [WRet_normal] at hr
      cases hu : unwindA ds1 a1 with
      | none => rw [hu] at hr; exact hr.elim
      | some a2 =>
        rw [hu, WVal_some] at hr
        cases hv : resultsA E a2 t1 fn.results.toList with
        | none => rw [hv] at hr; exact hr.elim
        | some vs =>
          rw [hv, WVal_some] at hr
          exact ⟨n + 1, _, _, by rw [callA]; simp only [given, hG, hf, hb, List.size_toArray, hc, hu, hv], hr⟩
    | ret =>
      rw [WRet_ret] at hr
      cases hu : unwindA ds1 a1 with
      | none => rw [hu] at hr; exact hr.elim
      | some a2 =>
        rw [hu, WVal_some] at hr
        cases hv : resultsA E a2 t1 fn.results.toList with
        | none => rw [hv] at hr; exact hr.elim
        | some vs =>
          rw [hv, WVal_some] at hr
          exact ⟨n + 1, _, _, by rw [callA]; simp only [given, hG, hf, hb, List.size_toArray, hc, hu, hv], hr⟩
    | _ => exact hr.elim
end

section
variable {E : Program} {G : Gives} {t : List Value} {a : AW} {K : Value → AW → Prop} {dsts : List (Option Tmp)} {Q : List Value → AW → Prop}
theorem WL_nil : WL E G dsts [] t a Q = Q t a := hide rfl
theorem WL_plain {d op ty pos af l} : WL E G dsts (⟨some d, op, ty, pos, af, none⟩ :: l) t a Q = WOp E G op t a fun v b => WL E G dsts l (putV t d v) b Q := hide rfl
theorem WL_none {op ty pos af l} : WL E G dsts (⟨none, op, ty, pos, af, none⟩ :: l) t a Q = WOp E G op t a fun v b => WL E G dsts l t b Q := hide rfl
theorem WL_guard {d op ty pos af j b l} : WL E G dsts (⟨some d, op, ty, pos, af, some (j, b)⟩ :: l) t a Q = WGuard (yieldedD dsts t j) b (WOp E G op t a fun v b => WL E G dsts l (putV t d v) b Q) (WL E G dsts l (putV t d undef) a Q) := hide rfl
theorem WL_gnone {op ty pos af j b l} : WL E G dsts (⟨none, op, ty, pos, af, some (j, b)⟩ :: l) t a Q = WGuard (yieldedD dsts t j) b (WOp E G op t a fun v b => WL E G dsts l t b Q) (WL E G dsts l t a Q) := hide rfl
theorem dsts_nil : dstsOf [] = [] := hide rfl
theorem dsts_cons {d op ty pos af g l} : dstsOf (⟨d, op, ty, pos, af, g⟩ :: l) = d :: dstsOf l := hide rfl
theorem op_pure {op : Op} (h : kindO E (oper op) = .pure) : WOp E G op t a K = WVal (pureA E t (oper op)) fun v => K v a := by
  unfold WOp opA
  rw [h]
  cases pureA E t (oper op) <;> rfl
theorem op_read {op : Op} (h : kindO E (oper op) = .read) : WOp E G op t a K = WVal (readA E t (oper op) a) fun v => K v.2 a := by
  unfold WOp opA
  rw [h]
  cases readA E t (oper op) a <;> rfl
theorem op_make {op : Op} (h : kindO E (oper op) = .make) : WOp E G op t a K = WVal (makeA E t (oper op)) fun r => K (r.2 a.next) (a.new r.1) := by
  unfold WOp opA
  rw [h]
  cases makeA E t (oper op) <;> rfl
theorem op_work {op : Op} (h : kindO E (oper op) = .work) : WOp E G op t a K = WVal (workA E t (oper op) a) fun x => match x with
    | (.value v, b) => K v b
    | (.enter f args, b) => WCall E G f args.toList b K
    | (.round l args, b) => WRound E G l args.toList b K := by
  unfold WOp opA
  rw [h]
  all_goals rfl
theorem op_move {x} : WOp E G (.move x) t a K = WVal (evalA t x) fun v => K v a := op_pure rfl
theorem op_assign {x} : WOp E G (.assign x) t a K = WVal (evalA t x) fun v => K v a := op_pure rfl
def pickA (c x y : Option Value) : Option Value := match c with
  | some (.bool true) => x
  | some (.bool false) => y
  | _ => none
theorem pick_true {x y} : pickA (some (.bool true)) x y = x := hide rfl
theorem pick_false {x y} : pickA (some (.bool false)) x y = y := hide rfl
theorem op_pick {c x y} : WOp E G (.pick c x y) t a K = WVal (pickA (evalA t c) (evalA t x) (evalA t y)) fun v => K v a := op_pure rfl
theorem op_bin {op ty x y z} : WOp E G (.binOp op ty x y z) t a K = WVal (evalA t x) fun v => WVal (evalA t y) fun u => WVal (binA E op ty x y v u) fun r => K r a := by
  rw [op_pure rfl]
  simp only [pureA, oper]
  cases evalA t x with
  | none => rfl
  | some v => cases evalA t y <;> rfl
def unA (E : Program) (op : UnOp) (v : Value) : Option Value := if flat v then prunF E (Op.unary op v) else none
theorem op_un {op ty x} : WOp E G (.unOp op ty x) t a K = WVal (evalA t x) fun v => WVal (unA E op v) fun r => K r a := by
  rw [op_pure rfl]
  simp only [pureA, oper]
  cases evalA t x with
  | none => rfl
  | some v => rfl
theorem un_not {b : Bool} : unA E .not (.bool b) = some (.bool !b) := hide rfl
theorem un_neg {k : IntKind} {n : Int} : unA E .neg (.int k n) = some (.int k (k.wrap (0 - n))) := hide rfl
def calleeA (v : Value) (args : List Value) : Option (Nat × List Value × Bool) := match v with
  | .func (.func f) first captured => some (f, first.toList ++ args ++ captured.toList, true)
  | .func (.yield l) first _ => some (l, first.toList ++ args, false)
  | _ => none
def wEnter (E : Program) (G : Gives) (r : Nat × List Value × Bool) (a : AW) (K : Value → AW → Prop) (_ : Tag K K := .mk) : Prop := if r.2.2 = true then WCall E G r.1 r.2.1 a K else WRound E G r.1 r.2.1 a K
theorem enter_call {f args} : wEnter E G (f, args, true) a K = WCall E G f args a K := by simp [wEnter]
theorem enter_round {f args} : wEnter E G (f, args, false) a K = WRound E G f args a K := by simp [wEnter]
theorem op_call {f args ts} : WOp E G (.call ⟨.value f, args, ts⟩) t a K = WVal (evals t args.toList) fun vs => WVal (evalA t f) fun v => WVal (calleeA v vs) fun r => wEnter E G r a K := by
  rw [op_work rfl]
  simp only [workA, oper]
  cases evals t args.toList with
  | none => rfl
  | some vs =>
    simp only [WVal_some]
    cases evalA t f with
    | none => rfl
    | some v =>
      simp only [WVal_some]
      cases v with
      | func g first captured => cases g <;> simp [calleeA, wEnter, WVal]
      | _ => rfl
theorem callee_func {f : FuncId} {first captured : Array Value} {args} : calleeA (.func (.func f) first captured) args = some (f, first.toList ++ args ++ captured.toList, true) := hide rfl
theorem callee_yield {f first captured args} : calleeA (.func (.yield f) first captured) args = some (f, first.toList ++ args, false) := hide rfl
theorem evals_nil : evals t [] = some [] := hide rfl
theorem evals_cons {x r} : evals t (x :: r) = (evalA t x).bind fun v => (evals t r).map (v :: ·) := by
  simp only [evals]
  cases evalA t x <;> cases evals t r <;> rfl
theorem eval_tmp {i} : evalA t (.tmp i) = some (getT t i) := hide rfl
theorem eval_func {f} : evalA t (.func f) = some (.func (.func f) #[] #[]) := hide rfl
theorem eval_int {k n} : evalA t (.const (.int k n)) = some (.int k n) := hide rfl
theorem eval_bool {b} : evalA t (.const (.bool b)) = some (.bool b) := hide rfl
theorem eval_str {l : List UInt8} : evalA t (.const (.string ⟨l.toArray⟩)) = some (.string (mkStr l)) := hide rfl
theorem eval_nilFunc : evalA t (.const .nilFunc) = some .nilFunc := hide rfl
theorem eval_nilIface : evalA t (.const .nilIface) = some .nilIface := hide rfl
theorem eval_nilPtr : evalA t (.const (.pointer none)) = some (.pointer none) := hide rfl
theorem eval_nilMap : evalA t (.const (.map none)) = some (.map none) := hide rfl
theorem eval_nilSlice {n c} : evalA t (.const (.slice none n c)) = some (.slice none n c) := hide rfl
theorem eval_const {v} (h : flat v = true) : evalA t (.const v) = some v := by simp [evalA, h]
theorem yielded_at {j} : yieldedD dsts t j = boolAt t (dget dsts j) := hide rfl
theorem boolAt_some {d} : boolAt t (some d) = asBool (getT t d) := hide rfl
theorem boolAt_none : boolAt t none = none := hide rfl
theorem asBool_bool {b} : asBool (.bool b) = some b := hide rfl
theorem asBool_undef : asBool undef = none := hide rfl
theorem getT_zero {v} : getT (v :: t) 0 = v := hide rfl
theorem getT_succ {v i} : getT (v :: t) (i + 1) = getT t i := hide rfl
theorem putV_zero {v u} : putV (v :: t) 0 u = u :: t := hide rfl
theorem putV_succ {v u i} : putV (v :: t) (i + 1) u = v :: putV t i u := hide rfl
theorem dget_zero {v l} : dget (v :: l) 0 = v := hide rfl
theorem dget_succ {v l i} : dget (v :: l) (i + 1) = dget l i := hide rfl
end
section
variable {P : Program} {t : TypeId} {x y : Operand} {k : IntKind} {u v : Int}
theorem prunF_pure {v : Value} (h : flat v = true) : prunF P (Sem.pure v) = some v := by simp [prunF, prun, h]
theorem bin_add : binA P .add t x y (.int k u) (.int k v) = some (.int k (k.wrap (u + v))) := by cases k <;> rfl
theorem bin_sub : binA P .sub t x y (.int k u) (.int k v) = some (.int k (k.wrap (u - v))) := by cases k <;> rfl
theorem bin_mul : binA P .mul t x y (.int k u) (.int k v) = some (.int k (k.wrap (u * v))) := by cases k <;> rfl
theorem bin_lss : binA P .lss t x y (.int k u) (.int k v) = some (.bool (decide (u < v))) := by cases k <;> rfl
theorem bin_leq : binA P .leq t x y (.int k u) (.int k v) = some (.bool (decide (u ≤ v))) := by cases k <;> rfl
theorem bin_gtr : binA P .gtr t x y (.int k u) (.int k v) = some (.bool (decide (v < u))) := by cases k <;> rfl
theorem bin_geq : binA P .geq t x y (.int k u) (.int k v) = some (.bool (decide (v ≤ u))) := by cases k <;> rfl
theorem bin_eql : binA P .eql t x y (.int k u) (.int k v) = some (.bool (decide (u = v))) := by
  have : (u == v) = decide (u = v) := by by_cases h : u = v <;> simp [h]
  rw [← this]; cases k <;> rfl
theorem bin_neq : binA P .neq t x y (.int k u) (.int k v) = some (.bool (!decide (u = v))) := by
  have : (u == v) = decide (u = v) := by by_cases h : u = v <;> simp [h]
  rw [← this]; cases k <;> rfl
theorem bin_quo (h : v ≠ 0) : binA P .quo t x y (.int k u) (.int k v) = some (.int k (k.wrap (u.tdiv v))) := by
  have : binA P .quo t x y (.int k u) (.int k v) = prunF P (Op.intDiv .quo k u v) := by cases k <;> rfl
  rw [this]; unfold Op.intDiv; rw [if_neg h]; rfl
theorem bin_rem (h : v ≠ 0) : binA P .rem t x y (.int k u) (.int k v) = some (.int k (u.tmod v)) := by
  have : binA P .rem t x y (.int k u) (.int k v) = prunF P (Op.intDiv .rem k u v) := by cases k <;> rfl
  rw [this]; unfold Op.intDiv; rw [if_neg h]; rfl
theorem bin_str {op : BinOp} {u v : ByteArray} : binA P op t x y (.string u) (.string v) = strA op u v := hide rfl
theorem eqBytes_iff : ∀ (u v : List UInt8), eqBytes u v = decide (u = v)
  | [], [] => by simp [eqBytes]
  | [], _ :: _ => by simp [eqBytes]
  | _ :: _, [] => by simp [eqBytes]
  | a :: u, b :: v => by
    rw [eqBytes, eqBytes_iff u v]
    have : (Nat.beq a.toNat b.toNat) = decide (a = b) := by
      by_cases h : a = b
      · subst h; simp
      · have : a.toNat ≠ b.toNat := fun e => h (UInt8.toNat_inj.1 e)
        have h2 : Nat.beq a.toNat b.toNat = false := by
          cases hb : Nat.beq a.toNat b.toNat with
          | false => rfl
          | true => exact absurd (Nat.eq_of_beq_eq_true hb) this
        rw [h2]; simp [h]
    rw [this]
    by_cases h : a = b <;> simp [h]
section
variable {p q : List UInt8}
theorem str_eql : strA .eql (mkStr p) (mkStr q) = some (.bool (decide (p = q))) := by
  rw [← eqBytes_iff]; rfl
theorem str_neq : strA .neq (mkStr p) (mkStr q) = some (.bool (!decide (p = q))) := by
  rw [← eqBytes_iff]; rfl
theorem str_add (h : p.length + q.length ≤ 140737488355328) : strA .add (mkStr p) (mkStr q) = some (.string (mkStr (p ++ q))) := by
  have : (mkStr p).size + (mkStr q).size ≤ 140737488355328 := h
  simp only [strA]; rw [if_pos this]; rfl
theorem str_lss : strA .lss (mkStr p) (mkStr q) = some (.bool (Op.bytesLess p q)) := hide rfl
theorem str_geq : strA .geq (mkStr p) (mkStr q) = some (.bool (!Op.bytesLess p q)) := hide rfl
theorem str_leq : strA .leq (mkStr p) (mkStr q) = some (.bool (Op.bytesLess p q || decide (p = q))) := by
  rw [← eqBytes_iff]; rfl
theorem str_gtr : strA .gtr (mkStr p) (mkStr q) = some (.bool (!(Op.bytesLess p q || decide (p = q)))) := by
  rw [← eqBytes_iff]; rfl
theorem mkStr_size : (mkStr p).size = p.length := hide rfl
end
end
end
/- More rules of operations. -/
section
open Go Go.RowKit
set_option linter.unusedVariables false
set_option linter.unusedSimpArgs false

theorem one_one {v : Value} : oneOf [v] = v := hide rfl
theorem one_two {v u : Value} : oneOf [v, u] = .tuple #[v, u] := hide rfl
theorem one_three {v u w : Value} : oneOf [v, u, w] = .tuple #[v, u, w] := hide rfl
theorem one_nil : oneOf [] = .tuple #[] := hide rfl
theorem wrap64 {n : Int} (h : -9223372036854775808 ≤ n) (h2 : n ≤ 9223372036854775807) : IntKind.wrap .i64 n = n := by
  show (if (true && decide (n % 18446744073709551616 ≥ 9223372036854775808)) = true then n % 18446744073709551616 - 18446744073709551616 else n % 18446744073709551616) = n
  simp only [Bool.true_and, decide_eq_true_eq]
  split <;> omega
theorem wrapu64 {n : Int} (h : 0 ≤ n) (h2 : n ≤ 18446744073709551615) : IntKind.wrap .u64 n = n := by
  show n % 18446744073709551616 = n
  omega
theorem wrapu32 {n : Int} (h : 0 ≤ n) (h2 : n ≤ 4294967295) : IntKind.wrap .u32 n = n := by
  show n % 4294967296 = n
  omega
theorem wrapu8 {n : Int} (h : 0 ≤ n) (h2 : n ≤ 255) : IntKind.wrap .u8 n = n := by
  show n % 256 = n
  omega

theorem flat_int {k n} : flat (.int k n) = true := hide rfl
theorem flat_bool {b} : flat (.bool b) = true := hide rfl
theorem flat_str {b} : flat (.string b) = true := hide rfl
theorem flat_float {k b} : flat (.float k b) = true := hide rfl
theorem flat_agg {l : List Value} : flat (.agg l.toArray) = l.all (flatN 4) := hide rfl
theorem flatN_int {m k n} : flatN (m + 1) (.int k n) = true := hide rfl
theorem flatN_bool {m b} : flatN (m + 1) (.bool b) = true := hide rfl
theorem flatN_str {m b} : flatN (m + 1) (.string b) = true := hide rfl
theorem flatN_float {m k b} : flatN (m + 1) (.float k b) = true := hide rfl
theorem flatN_agg {m} {l : List Value} : flatN (m + 1) (.agg l.toArray) = l.all (flatN m) := hide rfl
section
variable {E : Program} {G : Gives} {t : List Value} {a : AW} {K : Value → AW → Prop}
def lenV (d : Option TypeDesc) (v : Value) : Option Value := match d, v with
  | some .string, .string s => some (.int .i64 s.size)
  | some (.slice _), .slice _ n _ => some (.int .i64 n)
  | some (.array n _), _ => some (.int .i64 n)
  | _, _ => none
theorem lenV_str {s : List UInt8} : lenV (some .string) (.string (mkStr s)) = some (.int .i64 s.length) := hide rfl
theorem lenV_slice {e : TypeId} {p : Option Addr} {n c : Nat} : lenV (some (.slice e)) (.slice p n c) = some (.int .i64 n) := hide rfl
theorem lenV_arr {e : TypeId} {n : Nat} {v : Value} : lenV (some (.array n e)) v = some (.int .i64 n) := by cases v <;> rfl
theorem op_len {x ty d} (h : E.underlying ty = some d) (hm : (match d with | .map _ _ => false | _ => true) = true) :
    WOp E G (.call ⟨.builtin .len, #[x], #[ty]⟩) t a K = WVal (evalA t x) fun v => WVal (lenV (some d) v) fun r => K r a := by
  have hk : kindO E (oper (.call ⟨.builtin .len, #[x], #[ty]⟩)) = .pure := by
    simp only [kindO, oper]
    have : ((#[ty] : Array TypeId)[0]?).bind E.underlying = some d := h
    rw [this]
    cases d <;> first | rfl | cases hm
  rw [op_pure hk]
  simp only [pureA, oper, evals_cons, evals_nil]
  cases evalA t x with
  | none => rfl
  | some v =>
    simp only [Option.bind_some, Option.map_some]; rw [pureB_eq rfl]; simp only [pureB0]
    have : ((#[ty] : Array TypeId)[0]?).bind E.underlying = some d := h
    rw [this]
    rfl
theorem op_mapLen {x ty k e} (h : E.underlying ty = some (.map k e)) :
    WOp E G (.call ⟨.builtin .len, #[x], #[ty]⟩) t a K = WVal (evalA t x) fun v => WVal (match v with
      | .map r => (mapOf (.map r) a).map fun es => Value.int .i64 es.size
      | _ => none) fun r => K r a := by
  have hk : kindO E (oper (.call ⟨.builtin .len, #[x], #[ty]⟩)) = .read := by
    simp only [kindO, oper]
    have : ((#[ty] : Array TypeId)[0]?).bind E.underlying = some (.map k e) := h
    rw [this]
  rw [op_read hk]
  simp only [readA, oper, evals_cons, evals_nil]
  cases evalA t x with
  | none => rfl
  | some v =>
    simp only [Option.bind_some, Option.map_some, WVal_some]
    cases v with
    | map r => cases h : mapOf (.map r) a <;> simp [h, WVal]
    | _ => rfl
theorem op_min2 {x y ts} : WOp E G (.call ⟨.builtin .min, #[x, y], ts⟩) t a K = WVal (evalA t x) fun v => WVal (evalA t y) fun u => WVal (pureBuiltinA E .min ts [v, u]) fun r => K r a := by
  rw [op_pure rfl]
  simp only [pureA, oper, evals_cons, evals_nil]
  cases evalA t x with
  | none => rfl
  | some v => cases evalA t y <;> rfl
theorem op_max2 {x y ts} : WOp E G (.call ⟨.builtin .max, #[x, y], ts⟩) t a K = WVal (evalA t x) fun v => WVal (evalA t y) fun u => WVal (pureBuiltinA E .max ts [v, u]) fun r => K r a := by
  rw [op_pure rfl]
  simp only [pureA, oper, evals_cons, evals_nil]
  cases evalA t x with
  | none => rfl
  | some v => cases evalA t y <;> rfl
theorem min_int {ts k} {u v : Int} : pureBuiltinA E .min ts [.int k u, .int k v] = some (.int k (min u v)) := by
  have h : pureBuiltinA E .min ts [.int k u, .int k v] = some (.int k (if v < u then v else u)) := rfl
  rw [h]
  congr 2
  split <;> omega
theorem max_int {ts k} {u v : Int} : pureBuiltinA E .max ts [.int k u, .int k v] = some (.int k (max u v)) := by
  have h : pureBuiltinA E .max ts [.int k u, .int k v] = some (.int k (if v > u then v else u)) := rfl
  rw [h]
  congr 2
  split <;> omega
def fieldA (E : Program) (ty : TypeId) (v : Value) (f : Nat) : Option Value := match E.underlying ty, some v with
    | some (.struct fs), some (.agg cs) => match fs[f]? with
      | some fd => partA E fd.type cs fd.offset
      | none => none
    | _, _ => none
theorem op_field {ty x f} : WOp E G (.field ty x f) t a K = WVal (evalA t x) fun v => WVal (fieldA E ty v f) fun r => K r a := by
  rw [op_pure rfl]
  simp only [pureA, oper]
  cases evalA t x with
  | none => cases E.underlying ty with
    | none => rfl
    | some d => cases d <;> rfl
  | some v => rfl
def buildA (E : Program) (ty : TypeId) (vs : List (Nat × Value)) : Option Value := match zeroV E ty, fillPlace E ty, some vs with
    | some z, some pl, some vs => (fillA pl z.cells.toList vs).map fun cs => .agg cs.toArray
    | _, _, _ => none
theorem op_build {ty parts} : WOp E G (.build ty parts) t a K = WVal (partsA t parts.toList) fun vs => WVal (buildA E ty vs) fun r => K r a := by
  rw [op_pure rfl]
  simp only [pureA, oper]
  cases partsA t parts.toList with
  | none => cases zeroV E ty with
    | none => rfl
    | some d => cases fillPlace E ty <;> rfl
  | some v => rfl
theorem parts_nil : partsA t [] = some [] := hide rfl
theorem parts_cons {i x r} : partsA t ((i, x) :: r) = (evalA t x).bind fun v => (partsA t r).map ((i, v) :: ·) := by
  simp only [partsA]
  cases evalA t x <;> cases partsA t r <;> rfl
def extractA (v : Value) (i : Nat) : Option Value := match v with
  | .tuple vs => vs[i]?
  | _ => none
theorem op_extract {x i} : WOp E G (.extract x i) t a K = WVal (evalA t x) fun v => WVal (extractA v i) fun r => K r a := by
  rw [op_pure rfl]
  simp only [pureA, oper]
  cases evalA t x with
  | none => rfl
  | some v => cases v <;> rfl
theorem extract_at {l : List Value} {i} : extractA (.tuple l.toArray) i = l[i]? := by simp [extractA]
def makeFuncA (f : FuncId) (vs us : Option (List Value)) : Option Value := match vs, us with
  | some vs, some us => some (.func (.func f) vs.toArray us.toArray)
  | _, _ => none
theorem makeFunc_some {f vs us} : makeFuncA f (some vs) (some us) = some (.func (.func f) vs.toArray us.toArray) := hide rfl
theorem op_makeFunc {f first captured} : WOp E G (.makeFunc (.func f) first captured) t a K = WVal (makeFuncA f (evals t first.toList) (evals t captured.toList)) fun r => K r a := by
  rw [op_pure rfl]
  simp only [pureA, oper]
  cases evals t first.toList with
  | none => rfl
  | some v => cases evals t captured.toList <;> rfl
theorem op_slice {ty x lo hi mx} : WOp E G (.slice ty x lo hi mx) t a K = WVal (evalA t x) fun v => WVal (evalO t lo) fun lo => WVal (evalO t hi) fun hi => WVal (evalO t mx) fun mx => WVal (sliceA E ty v lo hi mx) fun r => K r a := by
  rw [op_pure rfl]
  simp only [pureA, oper]
  cases evalA t x with
  | none => rfl
  | some v => cases evalO t lo with
    | none => rfl
    | some l => cases evalO t hi with
      | none => rfl
      | some h => cases evalO t mx <;> rfl
theorem evalO_none : evalO t none = some none := hide rfl
theorem evalO_some {x} : evalO t (some x) = (evalA t x).map some := hide rfl
theorem boundA_in {k} {i : Int} {y : Nat} (h : 0 ≤ i) (h2 : i ≤ y) : boundA (.int k i) y = some i.toNat := by simp [boundA, h, h2]
theorem slice_str_hi {ty k} {s : List UInt8} {i : Int} (hu : E.underlying ty = some .string) (h : 0 ≤ i) (h2 : i ≤ s.length) : sliceA E ty (.string (mkStr s)) none (some (.int k i)) none = some (.string (mkStr (s.take i.toNat))) := by
  unfold sliceA
  rw [hu]
  have hb : boundA (.int k i) (mkStr s).size = some i.toNat := boundA_in h h2
  simp only [boundsA, hb, Option.map_some]
  simp [strSub, strOf, mkStr]
theorem slice_str_lo {ty k} {s : List UInt8} {i : Int} (hu : E.underlying ty = some .string) (h : 0 ≤ i) (h2 : i ≤ s.length) : sliceA E ty (.string (mkStr s)) (some (.int k i)) none none = some (.string (mkStr (s.drop i.toNat))) := by
  unfold sliceA
  rw [hu]
  have hb : boundA (.int k i) (mkStr s).size = some i.toNat := boundA_in h h2
  simp only [boundsA, hb, Option.map_some]
  simp [strSub, strOf, mkStr, ByteArray.size]
theorem slice_str_both {ty k k'} {s : List UInt8} {i j : Int} (hu : E.underlying ty = some .string) (h : 0 ≤ i) (h1 : i ≤ j) (h2 : j ≤ s.length) : sliceA E ty (.string (mkStr s)) (some (.int k i)) (some (.int k' j)) none = some (.string (mkStr ((s.take j.toNat).drop i.toNat))) := by
  unfold sliceA
  rw [hu]
  have hb : boundA (.int k' j) (mkStr s).size = some j.toNat := boundA_in (by omega) h2
  have hb2 : boundA (.int k i) j.toNat = some i.toNat := boundA_in h (by omega)
  simp only [boundsA, hb, hb2, Option.map_some]
  simp [strSub, strOf, mkStr]
theorem op_index {ty x i} : WOp E G (.index ty x i) t a K = WVal (evalA t x) fun v => WVal (evalA t i) fun u => WVal (indexA E ty v u) fun r => K r a := by
  rw [op_pure rfl]
  simp only [pureA, oper]
  cases evalA t x with
  | none => rfl
  | some v => cases evalA t i <;> rfl
theorem index_str {ty k} {s : List UInt8} {i : Int} (hu : E.underlying ty = some .string) (h : 0 ≤ i) (h2 : i < s.length) : indexA E ty (.string (mkStr s)) (.int k i) = some (.int .u8 ((s.getD i.toNat 0).toNat)) := by
  unfold indexA
  rw [hu]
  simp only [h, if_true]
  have h3 : i.toNat < s.length := by omega
  have : (mkStr s)[i.toNat]? = some (s.getD i.toNat 0) := by
    have h4 : i.toNat < (mkStr s).size := h3
    rw [getElem?_pos (mkStr s) i.toNat h4]
    congr 1
    show s[i.toNat] = s.getD i.toNat 0
    simp [h3]
    rfl
  rw [this]
theorem op_indexAddr {ty x i} : WOp E G (.indexAddr ty x i) t a K = WVal (evalA t x) fun v => WVal (evalA t i) fun u => WVal (indexAddrA E ty v u) fun r => K r a := by
  rw [op_pure rfl]
  simp only [pureA, oper]
  cases evalA t x with
  | none => rfl
  | some v => cases evalA t i <;> rfl
theorem indexAddr_slice {ty e : TypeId} {z : Nat} {p : Addr} {n c : Nat} {k : IntKind} {i : Int} (hu : E.underlying ty = some (.slice e)) (hz : typeSize E e = some z) (h : 0 ≤ i) (h2 : i < (n : Int)) : indexAddrA E ty (.slice (some p) n c) (.int k i) = some (.pointer (some ⟨p.block, p.off + i.toNat * z, none⟩)) := by
  simp [indexAddrA, hu, hz, h, h2]
def convV (E : Program) (s d : TypeId) (v : Value) : Option Value := if flat v then (match v with | .slice .. => none | _ => prunF E (convert s d v)) else none
theorem op_conv {s d x} (hk : kindO E (oper (.convert s d x)) = .pure) : WOp E G (.convert s d x) t a K = WVal (evalA t x) fun v => WVal (convV E s d v) fun r => K r a := by
  rw [op_pure hk]
  simp only [pureA, oper]
  cases evalA t x <;> rfl
theorem kind_conv_int {s d x j k} (hs : E.underlying s = some (.int j)) (hd : E.underlying d = some (.int k)) : kindO E (oper (.convert s d x)) = .pure := by
  simp [kindO, oper, hs, hd]
theorem prun_underlying {α : Type} (ty : TypeId) (f : TypeDesc → Sem α) {d} (h : E.underlying ty = some d) : prun E (underlying ty >>= f) = prun E (f d) := by
  show prun E (Sem.bind (underlying ty) f) = _
  simp only [underlying, program, Sem.bind, prun, bind, h]
  rfl
theorem op_conv_int {s d x j k} (hs : E.underlying s = some (.int j)) (hd : E.underlying d = some (.int k)) : WOp E G (.convert s d x) t a K = WVal (evalA t x) fun v => WVal (convV E s d v) fun r => K r a := op_conv (kind_conv_int hs hd)
theorem conv_int {s d j k} {n : Int} (hs : E.underlying s = some (.int j)) (hd : E.underlying d = some (.int k)) : convV E s d (.int j n) = some (.int k (k.wrap n)) := by
  simp only [convV, flat, flatN, if_true, prunF]
  unfold convert
  rw [prun_underlying s _ hs, prun_underlying d _ hd]
  rfl
end
end
/- Rules of operations over memory. -/
section
open Go Go.RowKit
set_option linter.unusedVariables false
set_option linter.unusedSimpArgs false

theorem get_mk {n h b d i} : AW.get ⟨n, h, b, d⟩ i = look i h := hide rfl
theorem look_hit {i j b r} (h : i = j) : look i ((j, b) :: r) = some b := by simp [look, h]
theorem look_self {i b r} : look i ((i, b) :: r) = some b := by simp [look]
theorem look_miss {i j b r} (h : i ≠ j) : look i ((j, b) :: r) = look i r := by simp [look, h]
theorem new_mk {n h bs d b} : AW.new ⟨n, h, bs, d⟩ b = ⟨n + 1, (n, b) :: h, bs, d⟩ := hide rfl
theorem put_hit {i j x b r} (h : i = j) : putAt i x ((j, b) :: r) = (j, x) :: r := by simp [putAt, h]
theorem put_self {i x b r} : putAt i x ((i, b) :: r) = (i, x) :: r := by simp [putAt]
theorem put_miss {i j x b r} (h : i ≠ j) : putAt i x ((j, b) :: r) = (j, b) :: putAt i x r := by simp [putAt, h]
theorem kill_self {i b r} : kill i ((i, b) :: r) = r := by simp [kill]
theorem kill_miss {i j b r} (h : i ≠ j) : kill i ((j, b) :: r) = (j, b) :: kill i r := by simp [kill, h]
theorem look_wput {i x} : ∀ {h : List (Nat × Blk)} {b}, look i h = some b → look i (putAt i x h) = some x := by
  intro h
  induction h with
  | nil => intro b hb; simp [look] at hb
  | cons p r ih =>
    intro b hb
    obtain ⟨j, c⟩ := p
    by_cases hij : i = j
    · subst hij; rw [put_self, look_self]
    · rw [put_miss hij, look_miss hij]; rw [look_miss hij] at hb; exact ih hb
theorem look_wput_ne {i j x} (hij : j ≠ i) : ∀ {h : List (Nat × Blk)}, look j (putAt i x h) = look j h := by
  intro h
  induction h with
  | nil => rfl
  | cons p r ih =>
    obtain ⟨k, c⟩ := p
    by_cases hik : i = k
    · subst hik; rw [put_self, look_miss hij, look_miss hij]
    · rw [put_miss hik]
      by_cases hjk : j = k
      · subst hjk; rw [look_self, look_self]
      · rw [look_miss hjk, look_miss hjk, ih]
theorem look_wkill_ne {i j} (hij : j ≠ i) : ∀ {h : List (Nat × Blk)}, look j (kill i h) = look j h := by
  intro h
  induction h with
  | nil => rfl
  | cons p r ih =>
    obtain ⟨k, c⟩ := p
    by_cases hik : i = k
    · subst hik; rw [kill_self, look_miss hij]
    · rw [kill_miss hik]
      by_cases hjk : j = k
      · subst hjk; rw [look_self, look_self]
      · rw [look_miss hjk, look_miss hjk, ih]
/-- A write to a block of the present call's own. -/
theorem write_own {n h bs d i b} (hi : bs ≤ i) : AW.write ⟨n, h, bs, d⟩ i b = ⟨n, putAt i b h, bs, d⟩ := by
  have : ¬ i < bs := by omega
  simp [AW.write, AW.soil, this]
theorem drop_own {n h bs d i} (hi : bs ≤ i) : AW.drop ⟨n, h, bs, d⟩ i = ⟨n, kill i h, bs, d⟩ := by
  have : ¬ i < bs := by omega
  simp [AW.drop, AW.soil, this]
/-- A write to a block from before. -/
theorem write_other {n h bs i b} (hi : i < bs) : AW.write ⟨n, h, bs, []⟩ i b = ⟨n, putAt i b h, bs, [i]⟩ := by
  simp [AW.write, AW.soil, hi]
theorem write_again {n h bs d i b} (hi : i < bs) (hd : d.contains i = true) : AW.write ⟨n, h, bs, d⟩ i b = ⟨n, putAt i b h, bs, d⟩ := by
  have hd' : i ∈ d := by simpa using hd
  simp [AW.write, AW.soil, hi, hd']

section
variable {E : Program} {G : Gives} {t : List Value} {a : AW} {K : Value → AW → Prop}
theorem cells_int {k n} : (Value.int k n).cells.toList = [.int k n] := hide rfl
theorem cells_bool {b} : (Value.bool b).cells.toList = [.bool b] := hide rfl
theorem cells_str {b} : (Value.string b).cells.toList = [.string b] := hide rfl
theorem cells_float {k b} : (Value.float k b).cells.toList = [.float k b] := hide rfl
theorem cells_agg {l : List Value} : (Value.agg l.toArray).cells.toList = l := hide rfl
theorem cells_slice {p n c} : (Value.slice p n c).cells.toList = [.slice p n c] := hide rfl
theorem cells_ptr {p} : (Value.pointer p).cells.toList = [.pointer p] := hide rfl
theorem cells_map {p} : (Value.map p).cells.toList = [.map p] := hide rfl
theorem cells_func {f x y} : (Value.func f x y).cells.toList = [.func f x y] := hide rfl
theorem cells_nilFunc : (Value.nilFunc).cells.toList = [.nilFunc] := hide rfl
theorem op_box {ty x} : WOp E G (.box ty x) t a K = WVal (evalA t x) fun v => K (.pointer (some ⟨a.next, 0, none⟩)) (a.new (.cells v.cells.toList true)) := by
  rw [op_make rfl]
  simp only [makeA, oper]
  cases evalA t x <;> rfl
theorem op_alloc {ty} : WOp E G (.alloc ty) t a K = WVal (zeroV E ty) fun v => K (.pointer (some ⟨a.next, 0, none⟩)) (a.new (.cells v.cells.toList true)) := by
  rw [op_make rfl]
  simp only [makeA, oper]
  cases zeroV E ty <;> rfl
def loadP (E : Program) (ty : TypeId) (v : Value) (a : AW) : Option Value := match v with
  | .pointer (some p) => loadVarA E ty p a
  | _ => none
theorem loadP_ptr {ty p} : loadP E ty (.pointer (some p)) a = loadVarA E ty p a := hide rfl
theorem op_load {ty x} : WOp E G (.load ty x) t a K = WVal (evalA t x) fun v => WVal (loadP E ty v a) fun r => K r a := by
  rw [op_read rfl]
  simp only [readA, oper]
  cases evalA t x with
  | none => rfl
  | some v =>
    simp only [WVal_some]
    cases v with
    | pointer p =>
      cases p with
      | none => rfl
      | some p => simp only [loadP]; cases loadVarA E ty p a <;> rfl
    | _ => rfl
def cellAt (b : Option Blk) (i : Nat) : Option Value := match b with
  | some (.cells c _) => c[i]?
  | some (.holey c _) => c[i]?
  | _ => none
theorem cellAt_cells {c rw i} : cellAt (some (.cells c rw)) i = c[i]? := hide rfl
theorem load_one {ty p} (h : aggB E ty = some false) : loadVarA E ty p a = cellAt (a.get p.block) p.off := by
  unfold loadVarA AW.loadN cellAt
  rw [h]
  cases hb : a.get p.block with
  | none => rfl
  | some b =>
    cases b with
    | obj o => rfl
    | cells c _ | holey c _ =>
      simp only
      by_cases hl : p.off + 1 ≤ c.length
      · rw [if_pos hl]
        have : p.off < c.length := by omega
        rw [List.getElem?_eq_getElem this]
        have : (c.drop p.off).take 1 = [c[p.off]] := by
          rw [List.drop_eq_getElem_cons this]; rfl
        simp [this]
      · rw [if_neg hl]
        rw [List.getElem?_eq_none (by omega)]
def cellsAt (b : Option Blk) (i n : Nat) : Option (List Value) := match b with
  | some (.cells c _) => if i + n ≤ c.length then some ((c.drop i).take n) else none
  | some (.holey c _) => if i + n ≤ c.length then some ((c.drop i).take n) else none
  | _ => none
theorem cellsAt_holey {c k i n} (h : i + n ≤ c.length) : cellsAt (some (.holey c k)) i n = some ((c.drop i).take n) := by simp [cellsAt, h]
theorem cellsAt_cells {c rw i n} (h : i + n ≤ c.length) : cellsAt (some (.cells c rw)) i n = some ((c.drop i).take n) := by simp [cellsAt, h]
theorem load_agg {ty p n} (h : aggB E ty = some true) (hs : typeSize E ty = some n) : loadVarA E ty p a = (cellsAt (a.get p.block) p.off n).map fun l => .agg l.toArray := by
  unfold loadVarA AW.loadN cellsAt
  rw [h, hs]
  cases hb : a.get p.block with
  | none => rfl
  | some b =>
    cases b with
    | obj o => rfl
    | cells c _ | holey c _ =>
      simp only
      by_cases hl : p.off + n ≤ c.length
      · rw [if_pos hl]; rfl
      · rw [if_neg hl]; rfl
def storeP (E : Program) (ty : TypeId) (v u : Value) (a : AW) : Option AW := match v with
  | .pointer (some p) => storeVarA E ty p u a
  | _ => none
theorem storeP_ptr {ty p u} : storeP E ty (.pointer (some p)) u a = storeVarA E ty p u a := hide rfl
theorem op_store {ty x y} : WOp E G (.store ty x y) t a K = WVal (evalA t x) fun v => WVal (evalA t y) fun u => WVal (storeP E ty v u a) fun b => K undef b := by
  rw [op_work rfl]
  simp only [workA, oper]
  cases evalA t x with
  | none => rfl
  | some v =>
    simp only [WVal_some]
    cases v with
    | pointer p =>
      cases p with
      | none => cases evalA t y <;> rfl
      | some p =>
        cases evalA t y with
        | none => rfl
        | some u => simp only [storeP, WVal_some]; cases storeVarA E ty p u a <;> rfl
    | _ => cases evalA t y <;> rfl
/-- A store: what stands in the block, then what is written. -/
theorem store_cells {ty : TypeId} {p : Addr} {v : Value} {n : Nat} {c l : List Value} (hs : typeSize E ty = some n) (hv : v.cells.toList = l) (hn : l.length = n) (ho : l.all Value.oneCell' = true) (hg : a.get p.block = some (.cells c true)) (hl : p.off + n ≤ c.length) :
    storeVarA E ty p v a = some (a.write p.block (.cells (c.take p.off ++ (l ++ c.drop (p.off + n))) true)) := by
  subst hv
  unfold storeVarA AW.storeN
  rw [hs]
  have h1 : v.cells.size = n := by rw [← hn]; simp
  simp only [h1, if_true, hg]
  rw [if_pos]
  · rw [hn]
  · refine ⟨?_, ho⟩
    rw [hn]; exact hl
theorem store_one {ty : TypeId} {p : Addr} {v : Value} {c : List Value} (hs : typeSize E ty = some 1) (hv : v.cells.toList = [v]) (ho : v.oneCell' = true) (hg : a.get p.block = some (.cells c true)) (hl : p.off < c.length) :
    storeVarA E ty p v a = some (a.write p.block (.cells (c.set p.off v) true)) := by
  rw [store_cells hs hv rfl (by simp [ho]) hg (by omega)]
  have : c.take p.off ++ ([v] ++ c.drop (p.off + 1)) = c.set p.off v := by
    rw [List.set_eq_take_append_cons_drop]; simp [hl]
  rw [this]
def fieldAddrA (v : Value) (off : Nat) : Option Value := match v with
  | .pointer (some p) => some (.pointer (some ⟨p.block, p.off + off, none⟩))
  | _ => none
theorem fieldAddr_ptr {p off} : fieldAddrA (.pointer (some p)) off = some (.pointer (some ⟨p.block, p.off + off, none⟩)) := hide rfl
theorem op_fieldAddr {s x f fs fd m} (hu : E.underlying s = some (.struct fs)) (hf : fs[f]? = some fd) (hz : typeSize E fd.type = some (m + 1)) :
    WOp E G (.fieldAddr s x f) t a K = WVal (evalA t x) fun v => WVal (fieldAddrA v fd.offset) fun r => K r a := by
  rw [op_pure rfl]
  simp only [pureA, oper, hu]
  cases evalA t x with
  | none => rfl
  | some v =>
    cases v with
    | pointer p => cases p with
      | none => rfl
      | some p => simp only [hf, hz]; rfl
    | _ => rfl
def strBytes (v : Value) : Option (List UInt8) := match v with
  | .string b => some (strOf b)
  | _ => none
theorem strBytes_str {l} : strBytes (.string (mkStr l)) = some l := hide rfl
theorem op_toBytes {s d x e} (hs : E.underlying s = some .string) (hd : E.underlying d = some (.slice e)) (he : E.underlying e = some (.int .u8)) :
    WOp E G (.convert s d x) t a K = WVal (evalA t x) fun v => WVal (strBytes v) fun l => K (.slice (some ⟨a.next, 0, none⟩) l.length l.length) (a.new (.cells (l.map u8) true)) := by
  have hk : kindO E (oper (.convert s d x)) = .make := by simp [kindO, oper, hs, hd, he]
  rw [op_make hk]
  simp only [makeA, oper]
  cases evalA t x with
  | none => rfl
  | some v =>
    cases v with
    | string b => rfl
    | _ => rfl
theorem bytes_map (l : List UInt8) : bytesOfCells (l.map u8) = some l := by
  induction l with
  | nil => rfl
  | cons b l ih =>
    simp only [List.map_cons, u8, bytesOfCells]
    have : List.map (fun b : UInt8 => Value.int .u8 (b.toNat : Int)) l = l.map u8 := rfl
    rw [show bytesOfCells (List.map u8 l) = some l from ih]
    simp
def readBytes (v : Value) (a : AW) : Option Value := match v with
    | .slice none _ _ => some (.string (mkStr []))
    | .slice (some p) n _ => (cellsAt (a.get p.block) p.off n).bind fun cs => (bytesOfCells cs).map fun bs => .string (mkStr bs)
    | _ => none
theorem op_ofBytes {s d x e} (hs : E.underlying s = some (.slice e)) (hd : E.underlying d = some .string) (he : E.underlying e = some (.int .u8)) :
    WOp E G (.convert s d x) t a K = WVal (evalA t x) fun v => WVal (readBytes v a) fun r => K r a := by
  have hk : kindO E (oper (.convert s d x)) = .read := by simp [kindO, oper, hs, hd, he]
  rw [op_read hk]
  simp only [readA, oper]
  cases evalA t x with
  | none => rfl
  | some v =>
    simp only [WVal_some]
    cases v with
    | slice p n c =>
      cases p with
      | none => rfl
      | some p =>
        simp only [readBytes, AW.loadN, cellsAt]
        cases a.get p.block with
        | none => rfl
        | some b =>
          cases b with
          | obj o => rfl
          | cells c _ | holey c _ =>
            simp only
            by_cases hl : p.off + n ≤ c.length
            · rw [if_pos hl, Option.bind_some]
              simp only
              cases bytesOfCells ((c.drop p.off).take n) <;> rfl
            · rw [if_neg hl]; rfl
    | _ => rfl
theorem readBytes_nil {n c} : readBytes (.slice none n c) a = some (.string (mkStr [])) := hide rfl
theorem readBytes_at {p : Addr} {n c : Nat} {l : List UInt8} {rw : Bool} (hg : a.get p.block = some (.cells (l.map u8) rw)) (h : p.off + n ≤ l.length) : readBytes (.slice (some p) n c) a = some (.string (mkStr ((l.drop p.off).take n))) := by
  simp only [readBytes, hg, cellsAt, List.length_map, h, if_true, Option.bind_some]
  rw [← List.map_drop, ← List.map_take, bytes_map]
  rfl
theorem elem_of {ty e n} (h : E.underlying ty = some (.slice e)) (hn : typeSize E e = some n) : elemCells E ty = some (e, n) := by simp [elemCells, h, hn]
def makeSl (E : Program) (ty : TypeId) (l c : Value) (a : AW) : Option (Value × AW) := match elemCells E ty, l, c with
    | some (e, n), .int _ l, .int _ c => match zeroV E e with
      | some z =>
        if 0 ≤ l ∧ l ≤ c ∧ c ≤ 1000000 ∧ z.cells.size = n ∧ (E.info? e).any (fun i => decide (i.bytes ≤ 1000000)) = true then
          some (.slice (some ⟨a.next, 0, some 0⟩) l.toNat c.toNat, a.new (.cells ((List.replicate c.toNat z.cells.toList).flatten) true))
        else none
      | none => none
    | _, _, _ => none
theorem op_makeSlice {ty l c} : WOp E G (.makeSlice ty l c) t a K = WVal (evalA t l) fun v => WVal (evalA t c) fun u => WVal (makeSl E ty v u a) fun r => K r.1 r.2 := by
  rw [op_make rfl]
  simp only [makeA, oper, makeSl]
  cases evalA t l with
  | none => cases elemCells E ty <;> rfl
  | some v =>
    cases evalA t c with
    | none => cases elemCells E ty <;> cases v <;> rfl
    | some u =>
      cases elemCells E ty with
      | none => rfl
      | some q =>
        obtain ⟨e, n⟩ := q
        simp only [WVal_some]
        cases v with
        | int k l =>
          cases u with
          | int k' c =>
            simp only
            cases zeroV E e with
            | none => rfl
            | some z =>
              simp only
              by_cases hc : 0 ≤ l ∧ l ≤ c ∧ c ≤ 1000000 ∧ z.cells.size = n ∧ (E.info? e).any (fun i => decide (i.bytes ≤ 1000000)) = true
              · rw [if_pos hc, if_pos hc]; rfl
              · rw [if_neg hc, if_neg hc]; rfl
          | _ => rfl
        | _ => rfl
theorem makeSl_at {ty e : TypeId} {n : Nat} {z : Value} {k k' : IntKind} {l c : Int} (he : elemCells E ty = some (e, n)) (hz : zeroV E e = some z) (hn : z.cells.size = n) (hb : (E.info? e).any (fun i => decide (i.bytes ≤ 1000000)) = true) (h1 : 0 ≤ l) (h2 : l ≤ c) (h3 : c ≤ 1000000) :
    makeSl E ty (.int k l) (.int k' c) a = some (.slice (some ⟨a.next, 0, some 0⟩) l.toNat c.toNat, a.new (.cells ((List.replicate c.toNat z.cells.toList).flatten) true)) := by
  unfold makeSl
  rw [he]
  simp only [hz]
  rw [if_pos ⟨h1, h2, h3, hn, hb⟩]
theorem zero_bytes (n : Nat) : (List.replicate n (Value.int .u8 0).cells.toList).flatten = (List.replicate n (0 : UInt8)).map u8 := by
  induction n with
  | zero => rfl
  | succ n ih => rw [List.replicate_succ, List.flatten_cons, ih]; rfl
/-- A part of a call's new cells that lies at the end of its answer. -/
theorem leave_fresh {before : AW} {p : Addr} {n cp nx bs : Nat} {h : List (Nat × Blk)} {c : List Value} (hb : before.next ≤ p.block) (hg : look p.block h = some (.cells c true)) (hf : c.all flat = true) :
    leaveA before [.slice (some p) n cp] ⟨nx, h, bs, []⟩ = ([.slice (some { p with block := before.next }) n cp], before.new (.cells c true)) := by
  have h1 : flat (.slice (some p) n cp) = false := rfl
  have h2 : freshOf before.next ⟨nx, h, bs, []⟩ (.slice (some p) n cp) = some (c, p.block) := by
    simp only [freshOf, hb, if_true, get_mk, hg, hf]
  simp [leaveA, h1, h2, moveTo]
theorem leave_fresh2 {before : AW} {p : Addr} {n cp nx bs : Nat} {h : List (Nat × Blk)} {c : List Value} {v : Value} (hv : flat v = true) (hb : before.next ≤ p.block) (hg : look p.block h = some (.cells c true)) (hf : c.all flat = true) :
    leaveA before [.slice (some p) n cp, v] ⟨nx, h, bs, []⟩ = ([.slice (some { p with block := before.next }) n cp, v], before.new (.cells c true)) := by
  have h1 : flat (.slice (some p) n cp) = false := rfl
  have h2 : freshOf before.next ⟨nx, h, bs, []⟩ (.slice (some p) n cp) = some (c, p.block) := by
    simp only [freshOf, hb, if_true, get_mk, hg, hf]
  simp [leaveA, h1, h2, moveTo, hv]
theorem leave_freshPtr {before : AW} {p : Addr} {nx bs : Nat} {h : List (Nat × Blk)} {c : List Value} (hb : before.next ≤ p.block) (hg : look p.block h = some (.cells c true)) (hf : c.all flat = true) :
    leaveA before [.pointer (some p)] ⟨nx, h, bs, []⟩ = ([.pointer (some { p with block := before.next })], before.new (.cells c true)) := by
  have h1 : flat (.pointer (some p)) = false := rfl
  have h2 : freshOf before.next ⟨nx, h, bs, []⟩ (.pointer (some p)) = some (c, p.block) := by
    simp only [freshOf, hb, if_true, get_mk, hg, hf]
  simp [leaveA, h1, h2, moveTo]
theorem leave_func {before : AW} {f x y} {nx bs : Nat} {h : List (Nat × Blk)} (hv : flat (.func f x y) = false) :
    leaveA before [.func f x y] ⟨nx, h, bs, []⟩ = ([.func f x y], ⟨nx, h, before.base, before.dirty⟩) := by
  simp [leaveA, hv, freshOf]
theorem all_u8 (l : List UInt8) : (l.map u8).all flat = true := by
  rw [List.all_eq_true]
  intro v hv
  obtain ⟨b, _, rfl⟩ := List.mem_map.1 hv
  rfl
end
end
/- Rules of append, copy and slices that are built. -/
section
open Go Go.RowKit
set_option linter.unusedVariables false
set_option linter.unusedSimpArgs false

section
variable {E : Program} {G : Gives} {t : List Value} {a : AW} {K : Value → AW → Prop}
theorem op_builtin {b args ts} (hb : b = .append ∨ b = .copy ∨ b = .delete ∨ b = .clear) : WOp E G (.call ⟨.builtin b, args, ts⟩) t a K = WVal (evals t args.toList) fun vs => WVal (builtinA E b ts vs a) fun r => K r.1 r.2 := by
  have hk : kindO E (oper (.call ⟨.builtin b, args, ts⟩)) = .work := by rcases hb with rfl | rfl | rfl | rfl <;> rfl
  rw [op_work hk]
  simp only [workA, oper]
  cases evals t args.toList with
  | none => rfl
  | some vs =>
    simp only [WVal_some]
    cases builtinA E b ts vs a <;> rfl
theorem op_append {args ts} : WOp E G (.call ⟨.builtin .append, args, ts⟩) t a K = WVal (evals t args.toList) fun vs => WVal (builtinA E .append ts vs a) fun r => K r.1 r.2 := op_builtin (.inl rfl)
theorem op_copy {args ts} : WOp E G (.call ⟨.builtin .copy, args, ts⟩) t a K = WVal (evals t args.toList) fun vs => WVal (builtinA E .copy ts vs a) fun r => K r.1 r.2 := op_builtin (.inr (.inl rfl))
theorem op_delete {args ts} : WOp E G (.call ⟨.builtin .delete, args, ts⟩) t a K = WVal (evals t args.toList) fun vs => WVal (builtinA E .delete ts vs a) fun r => K r.1 r.2 := op_builtin (.inr (.inr (.inl rfl)))
theorem op_clear {args ts} : WOp E G (.call ⟨.builtin .clear, args, ts⟩) t a K = WVal (evals t args.toList) fun vs => WVal (builtinA E .clear ts vs a) fun r => K r.1 r.2 := op_builtin (.inr (.inr (.inr rfl)))
/-- The cells behind a slice. -/
def sliceCells (z : Nat) (v : Value) (a : AW) : Option (List Value) := match v with
  | .slice (some p) n _ => cellsAt (a.get p.block) p.off (n * z)
  | .slice none n _ => if n = 0 then some [] else none
  | .string s => if z = 1 then some ((strOf s).map u8) else none
  | _ => none
theorem sliceCells_at {z : Nat} {p : Addr} {n m : Nat} {c : List Value} {rw : Bool} (hg : a.get p.block = some (.cells c rw)) (hl : p.off + n * z ≤ c.length) : sliceCells z (.slice (some p) n m) a = some ((c.drop p.off).take (n * z)) := by
  simp [sliceCells, hg, cellsAt, hl]
theorem firstA_all {z n : Nat} {v : Value} {l : List Value} (hn : lenA v = some n) (h : sliceCells z v a = some l) : firstA z n v a = some l := by
  cases v with
  | slice p m c =>
    cases hn
    cases p with
    | none => exact h
    | some p =>
      simp only [sliceCells, cellsAt] at h
      simp only [firstA, AW.loadN]
      split at h
      · rename_i b c rw hb
        rw [hb]; exact h
      · rename_i b c k hb
        rw [hb]; exact h
      · cases h
  | string s =>
    cases hn
    simp only [sliceCells] at h
    simp only [firstA]
    split at h
    · rename_i hz
      rw [if_pos hz]
      have : s.data.toList.take s.size = s.data.toList := List.take_of_length_le (by show s.data.toList.length ≤ s.data.size; simp)
      rw [this]; exact h
    · cases h
  | _ => cases hn
def appOkB (B : Nat) (E : Program) (t0 t1 : TypeId) (z : Nat) : Bool := match elemCells E t0, E.underlying t1 with
  | some (e, z'), some xd => z' == z && (match xd with | .int _ => false | _ => true) && (E.info? e).any (fun i => decide (i.bytes ≤ B)) && (zeroV E e).any (fun v => v.cells.size == z)
  | _, _ => false
abbrev appOk (E : Program) (t0 t1 : TypeId) (z : Nat) : Bool := appOkB 1000000 E t0 t1 z
def grown (z : Nat) (base : Option Addr) (tot : Nat) (cs : List Value) (a : AW) : Option (Value × AW) := match base with
  | none => some (growA z tot cs a)
  | some p =>
    if p.spot = some 0 then some (growA z tot cs a)
    else if p.spot = some (z + 1) then some (growA z tot cs (a.drop p.block))
    else none
theorem append_coreB {B : Nat} {t0 t1 : TypeId} {z : Nat} (hk : appOkB B E t0 t1 z = true) {base : Option Addr} {len cap n : Nat} {x : Value} {was new : List Value} (hn : lenA x = some n) (hx : sliceCells z x a = some new)
    (hs : sliceCells z (.slice base len cap) a = some was) (hc : cap < len + n) (hl : ((len + n) + (len + n) / 2 + 1000) * B ≤ 281474976710656) (hl2 : len + n ≤ 4611686018427387904) (ho : new.all Value.oneCell' = true) :
    builtinA E .append #[t0, t1] [.slice base len cap, x] a = grown z base (len + n) (was ++ new) a := by
  unfold appOkB at hk
  split at hk
  · rename_i e z' xd he hxd
    simp only [Bool.and_eq_true, beq_iff_eq] at hk
    obtain ⟨⟨⟨rfl, h1⟩, h2⟩, h3⟩ := hk
    show appendA E #[t0, t1] (.slice base len cap) x a = _
    unfold appendA
    have e0 : (#[t0, t1] : Array TypeId)[0]? = some t0 := rfl
    have e1 : (#[t0, t1] : Array TypeId)[1]? = some t1 := rfl
    rw [e0, e1]
    simp only [he, hxd, hn]
    have f1 := firstA_all hn hx
    have f2 : firstA z' len (.slice base len cap) a = some was := firstA_all rfl hs
    have hif : ¬ (len + n ≤ cap) := by omega
    have h2' : (E.info? e).any (fun i => decide (((len + n) + (len + n) / 2 + 1000) * i.bytes ≤ 281474976710656 ∧ len + n ≤ 4611686018427387904)) = true := by
      cases hi : E.info? e with
      | none => rw [hi] at h2; cases h2
      | some ti =>
        rw [hi] at h2
        have hb : ti.bytes ≤ B := by simpa using h2
        have := Nat.mul_le_mul_left ((len + n) + (len + n) / 2 + 1000) hb
        simp only [Option.any_some, decide_eq_true_eq]
        exact ⟨by omega, hl2⟩
    have hcond : ¬ ((E.info? e).any (fun i => decide (((len + n) + (len + n) / 2 + 1000) * i.bytes ≤ 281474976710656 ∧ len + n ≤ 4611686018427387904)) = false ∨ (zeroV E e).any (fun v => v.cells.size == z') = false ∨ new.all Value.oneCell' = false) := by
      rw [h2', h3, ho]
      simp
    cases xd with
    | int k => cases h1
    | _ => simp only [f1, f2]; rw [if_neg hif, if_neg hcond]; rfl
  · cases hk
theorem append_core {t0 t1 : TypeId} {z : Nat} (hk : appOk E t0 t1 z = true) {base : Option Addr} {len cap n : Nat} {x : Value} {was new : List Value} (hn : lenA x = some n) (hx : sliceCells z x a = some new)
    (hs : sliceCells z (.slice base len cap) a = some was) (hc : cap < len + n) (hl : len + n ≤ 1000000) (ho : new.all Value.oneCell' = true) :
    builtinA E .append #[t0, t1] [.slice base len cap, x] a = grown z base (len + n) (was ++ new) a :=
  append_coreB hk hn hx hs hc (by omega) (by omega) ho
theorem append_nil {t0 t1 : TypeId} {z : Nat} (hk : appOk E t0 t1 z = true) {n cp : Nat} {x : Value} {new : List Value} (hn : lenA x = some n) (hx : sliceCells z x a = some new) (h0 : 0 < n) (hl : n ≤ 1000000) (ho : new.all Value.oneCell' = true) :
    builtinA E .append #[t0, t1] [.slice none 0 0, x] a = some (.slice (some ⟨a.next, 0, some (z + 1)⟩) n n, a.new (.cells new true)) := by
  rw [append_core hk (was := []) hn hx rfl (by omega) (by omega) ho]
  simp [grown, growA]
theorem append_grown {t0 t1 : TypeId} {z : Nat} (hk : appOk E t0 t1 z = true) {p : Addr} {len cap n : Nat} {x : Value} {was new : List Value} (hn : lenA x = some n) (hx : sliceCells z x a = some new)
    (hp : p.spot = some (z + 1)) (hs : sliceCells z (.slice (some p) len cap) a = some was) (hc : cap < len + n) (hl : len + n ≤ 1000000) (ho : new.all Value.oneCell' = true) :
    builtinA E .append #[t0, t1] [.slice (some p) len cap, x] a = some (.slice (some ⟨a.next, 0, some (z + 1)⟩) (len + n) (len + n), (a.drop p.block).new (.cells (was ++ new) true)) := by
  rw [append_core hk hn hx hs hc hl ho]
  have : p.spot ≠ some 0 := by rw [hp]; simp
  simp only [grown, this, hp, if_true, if_false]
  rfl
theorem append_made {t0 t1 : TypeId} {z : Nat} (hk : appOk E t0 t1 z = true) {p : Addr} {len cap n : Nat} {x : Value} {was new : List Value} (hn : lenA x = some n) (hx : sliceCells z x a = some new)
    (hp : p.spot = some 0) (hs : sliceCells z (.slice (some p) len cap) a = some was) (hc : cap < len + n) (hl : len + n ≤ 1000000) (ho : new.all Value.oneCell' = true) :
    builtinA E .append #[t0, t1] [.slice (some p) len cap, x] a = some (.slice (some ⟨a.next, 0, some (z + 1)⟩) (len + n) (len + n), a.new (.cells (was ++ new) true)) := by
  rw [append_core hk hn hx hs hc hl ho]
  simp only [grown, hp, if_true]
  rfl
theorem copy_cells {t0 t1 e : TypeId} {z : Nat} (he : elemCells E t0 = some (e, z)) {p q : Addr} {len cp n cq : Nat} {c d : List Value} {rw : Bool} (hp : a.get p.block = some (.cells c true)) (hq : a.get q.block = some (.cells d rw))
    (hlq : q.off + n * z ≤ d.length) (hlp : p.off + len * z ≤ c.length) (ho : d.all Value.oneCell' = true) :
    builtinA E .copy #[t0, t1] [.slice (some p) len cp, .slice (some q) n cq] a = some (.int .i64 (Nat.min n len), a.write p.block (.cells (c.take p.off ++ ((d.drop q.off).take (Nat.min n len * z) ++ c.drop (p.off + Nat.min n len * z))) true)) := by
  show copyA E #[t0, t1] (.slice (some p) len cp) (.slice (some q) n cq) a = _
  unfold copyA
  have e0 : (#[t0, t1] : Array TypeId)[0]? = some t0 := rfl
  rw [e0]
  have hm1 : Nat.min n len * z ≤ n * z := Nat.mul_le_mul_right z (Nat.min_le_left n len)
  have hm2 : Nat.min n len * z ≤ len * z := Nat.mul_le_mul_right z (Nat.min_le_right n len)
  have hlen : ((d.drop q.off).take (Nat.min n len * z)).length = Nat.min n len * z := by simp; omega
  have hf : firstA z (Nat.min n len) (.slice (some q) n cq) a = some ((d.drop q.off).take (Nat.min n len * z)) := by
    simp only [firstA, AW.loadN, hq]
    rw [if_pos (by omega)]
  have hst : a.storeN p ((d.drop q.off).take (Nat.min n len * z)) = some (a.write p.block (.cells (c.take p.off ++ ((d.drop q.off).take (Nat.min n len * z) ++ c.drop (p.off + Nat.min n len * z))) true)) := by
    simp only [AW.storeN, hp]
    rw [if_pos]
    · rw [hlen]
    · refine ⟨by rw [hlen]; omega, ?_⟩
      rw [List.all_eq_true]
      intro v hv
      exact List.all_eq_true.1 ho v (List.mem_of_mem_drop (List.mem_of_mem_take hv))
  simp only [he, lenA, hf, hst]
theorem u8_one (l : List UInt8) : (l.map u8).all Value.oneCell' = true := by
  rw [List.all_eq_true]
  intro v hv
  obtain ⟨b, _, rfl⟩ := List.mem_map.1 hv
  rfl
theorem copy_bytes {t0 t1 e : TypeId} (he : elemCells E t0 = some (e, 1)) {p q : Addr} {len cp n cq : Nat} {c d : List UInt8} {rw : Bool} (hp : a.get p.block = some (.cells (c.map u8) true)) (hq : a.get q.block = some (.cells (d.map u8) rw))
    (hlq : q.off + n ≤ d.length) (hlp : p.off + len ≤ c.length) :
    builtinA E .copy #[t0, t1] [.slice (some p) len cp, .slice (some q) n cq] a = some (.int .i64 (Nat.min n len), a.write p.block (.cells ((c.take p.off ++ ((d.drop q.off).take (Nat.min n len) ++ c.drop (p.off + Nat.min n len))).map u8) true)) := by
  rw [copy_cells he hp hq (by simpa using hlq) (by simpa using hlp) (u8_one d)]
  simp [List.map_take, List.map_drop]
def buildSl (E : Program) (ty : TypeId) (len : Nat) (vs : List (Nat × Value)) (a : AW) : Option (Value × AW) := match elemCells E ty with
  | some (e, n) =>
    if len * n = 0 then (if vs.isEmpty then some (.slice (some ⟨a.next, 0, some 0⟩) len len, a.new (.cells [] true)) else none)
    else match zeroV E e with
    | some z =>
      if len * n > 2 ^ 24 then none else if z.cells.size = n then
      match fillA (fun i => some (i * n, n)) ((List.replicate len z.cells.toList).flatten) vs with
      | some cs => some (.slice (some ⟨a.next, 0, some 0⟩) len len, a.new (.cells cs true))
      | none => none
      else none
    | none => none
  | none => none
theorem op_buildSlice {ty len parts} : WOp E G (.buildSlice ty len parts) t a K = WVal (partsA t parts.toList) fun vs => WVal (buildSl E ty len vs a) fun r => K r.1 r.2 := by
  rw [op_make rfl]
  simp only [makeA, oper, buildSl]
  cases partsA t parts.toList with
  | none => cases elemCells E ty <;> rfl
  | some vs =>
    cases elemCells E ty with
    | none => rfl
    | some q =>
      obtain ⟨e, n⟩ := q
      simp only [WVal_some]
      by_cases h0 : len * n = 0
      · rw [if_pos h0, if_pos h0]
        by_cases h1 : vs.isEmpty = true
        · rw [if_pos h1, if_pos h1]; rfl
        · rw [if_neg h1, if_neg h1]; rfl
      · rw [if_neg h0, if_neg h0]
        cases zeroV E e with
        | none => rfl
        | some z =>
          simp only
          by_cases h1 : len * n > 2 ^ 24
          · rw [if_pos h1, if_pos h1]; rfl
          · rw [if_neg h1, if_neg h1]
            by_cases h2 : z.cells.size = n
            · rw [if_pos h2, if_pos h2]
              cases fillA (fun i => some (i * n, n)) ((List.replicate len z.cells.toList).flatten) vs <;> rfl
            · rw [if_neg h2, if_neg h2]; rfl
/-- A part by part filling in order. -/
theorem fill_seq {n : Nat} : ∀ (vs : List Value) (k : Nat) (pre zs : List Value), (∀ v ∈ vs, v.cells.size = n) → pre.length = k * n → zs.length = vs.length * n →
    fillA (fun i => some (i * n, n)) (pre ++ zs) ((vs.zipIdx k).map fun p => (p.2, p.1)) = some (pre ++ (vs.map (·.cells.toList)).flatten)
  | [], k, pre, zs, _, _, hz => by
    have : zs = [] := List.eq_nil_of_length_eq_zero (by simpa using hz)
    subst this
    rfl
  | v :: vs, k, pre, zs, hv, hp, hz => by
    have hvn : v.cells.size = n := hv v (by simp)
    have hvl : v.cells.toList.length = n := by simpa using hvn
    have hzl : zs.length = n + vs.length * n := by rw [hz, List.length_cons]; rw [Nat.add_mul]; omega
    simp only [List.zipIdx_cons, List.map_cons, fillA]
    have hcond : (decide (v.cells.size ≠ n) || decide (k * n + v.cells.size > (pre ++ zs).length)) = false := by
      simp only [Bool.or_eq_false_iff, decide_eq_false_iff_not, List.length_append]
      exact ⟨fun h => h hvn, by omega⟩
    rw [if_neg (by rw [hcond]; simp)]
    have e1 : (pre ++ zs).take (k * n) = pre := by rw [← hp]; simp
    have e2 : (pre ++ zs).drop (k * n + v.cells.size) = zs.drop n := by
      rw [hvn, ← hp, List.drop_append]
      simp
    rw [e1, e2]
    have := fill_seq vs (k + 1) (pre ++ v.cells.toList) (zs.drop n) (fun u hu => hv u (by simp [hu])) (by rw [List.length_append, hp, hvl]; rw [Nat.add_mul]; omega) (by rw [List.length_drop, hzl]; omega)
    rw [← List.append_assoc, this]
    simp
theorem flat_len {l : List Value} : ∀ (m : Nat), (List.replicate m l).flatten.length = m * l.length
  | 0 => by simp
  | m + 1 => by rw [List.replicate_succ, List.flatten_cons, List.length_append, flat_len m, Nat.add_mul]; omega
def slOk (E : Program) (ty : TypeId) (n : Nat) : Bool := match elemCells E ty with
  | some (e, n') => n' == n && decide (0 < n) && (zeroV E e).any (fun v => v.cells.size == n)
  | none => false
theorem buildSl_seq {ty : TypeId} {n len : Nat} (hk : slOk E ty n = true) {vs : List Value} (hv : ∀ v ∈ vs, v.cells.size = n) (hl : vs.length = len) (h0 : 0 < len) (hb : len * n ≤ 2 ^ 24) {ps : List (Nat × Value)} (hps : ps = (vs.zipIdx 0).map fun p => (p.2, p.1)) :
    buildSl E ty len ps a = some (.slice (some ⟨a.next, 0, some 0⟩) len len, a.new (.cells ((vs.map (·.cells.toList)).flatten) true)) := by
  subst hps
  unfold slOk at hk
  split at hk
  · rename_i e n' he
    simp only [Bool.and_eq_true, beq_iff_eq, decide_eq_true_eq] at hk
    obtain ⟨⟨rfl, h1⟩, h2⟩ := hk
    unfold buildSl
    rw [he]
    simp only
    have hne : ¬ len * n' = 0 := by
      intro h
      rcases Nat.mul_eq_zero.1 h with h | h <;> omega
    rw [if_neg hne]
    cases hz : zeroV E e with
    | none => rw [hz] at h2; cases h2
    | some z =>
      rw [hz] at h2
      have hz' : z.cells.size = n' := by simpa using h2
      simp only
      rw [if_neg (by omega), if_pos hz']
      have := fill_seq vs 0 [] ((List.replicate len z.cells.toList).flatten) hv (by simp) (by rw [flat_len, hl]; simp [hz'])
      simp only [List.nil_append] at this
      rw [this]
  · cases hk
end
end
/- Rules of regions that draw their order, and of loops over functions. -/
section
open Go Go.RowKit
set_option linter.unusedVariables false
set_option linter.unusedSimpArgs false

/-- Unordered pairs, by a list. -/
def memP (p : List (Nat × Nat)) (j i : Nat) : Bool := match p with
  | [] => false
  | (x, y) :: r => decide (x = j ∧ y = i) || memP r j i
def calmP (p : List (Nat × Nat)) (i : Nat) (n : Note) (before : List (Nat × Note)) : Bool := match before with
  | [] => true
  | (j, m) :: r => (!clash m n || !memP p j i) && calmP p i n r
def pairsOk (b : Array Nat) (n : Nat) (p : List (Nat × Nat)) : Bool := (List.range n).all fun j => (List.range n).all fun i => !decide (j < i) || !unord b j i || memP p j i
theorem clash_none {m} : clash m .none = false := by cases m <;> rfl
theorem clash_none' {m} : clash .none m = false := by cases m <;> rfl
theorem clash_read {i j} : clash (.read i) (.read j) = false := hide rfl
theorem clash_work {m d n e} : clash (.work m d) (.work n e) = false := hide rfl
theorem clash_rw {b n d} : clash (.read b) (.work n d) = (decide (n ≤ b) || d.contains b) := hide rfl
theorem clash_wr {b n d} : clash (.work n d) (.read b) = (decide (n ≤ b) || d.contains b) := hide rfl
theorem calm_of {b : Array Nat} {n : Nat} {p : List (Nat × Nat)} (h : pairsOk b n p = true) {i : Nat} (hi : i < n) {note : Note} : ∀ {before : List (Nat × Note)}, (∀ q ∈ before, q.1 < i) → calmP p i note before = true → calm b i note before = true := by
  intro before
  induction before with
  | nil => intro _ _; rfl
  | cons q r ih =>
    obtain ⟨j, m⟩ := q
    intro hb hc
    simp only [calmP, Bool.and_eq_true, Bool.or_eq_true] at hc
    have hr := ih (fun q hq => hb q (by simp [hq])) hc.2
    unfold calm at hr ⊢
    rw [List.all_cons, hr, Bool.and_true]
    simp only [Bool.or_eq_true]
    rcases hc.1.symm with h1 | h1
    · left
      have hj : j < i := hb (j, m) (by simp)
      unfold pairsOk at h
      have := List.all_eq_true.1 (List.all_eq_true.1 h j (List.mem_range.2 (Nat.lt_trans hj hi))) i (List.mem_range.2 hi)
      simp only [Bool.or_eq_true, decide_eq_true hj, Bool.not_true, Bool.false_eq_true, false_or] at this
      rcases this with h2 | h2
      · exact h2
      · rw [h2] at h1; cases h1
    · right; exact h1

section
variable (E : Program) (G : Gives)
def WNote (op : Op) (t : List Value) (a : AW) (K : Note → Value → AW → Prop) (_ : Tag op K := .mk) : Prop :=
  match kindO E (oper op) with
  | .pure => WOp E G op t a fun v b => K .none v b
  | .read => WVal (readA E t (oper op) a) fun r => r.1 < a.next ∧ K (.read r.1) r.2 a
  | .make => WOp E G op t a fun v b => K (.work a.next []) v b
  | .work => WOp E G op t ⟨a.next, a.heap, a.next, []⟩ fun v b => K (.work a.next b.dirty) v ⟨b.next, b.heap, a.base, soilAll a.dirty a.base b.dirty⟩
/-- The operations of a region that draws: unordered pairs, destinations, place, what is left, what was touched. -/
def WR0 (p : List (Nat × Nat)) (dsts : List (Option Tmp)) : Nat → List Oper → List (Nat × Note) → List Value → AW → (List Value → AW → Prop) → Prop
  | _, [], _, t, a, Q => Q t a
  | i, o :: l, ns, t, a, Q => wantD o.guard dsts t
      (WNote E G o.op t a fun note v b => calmP p i note ns = true ∧ WR0 p dsts (i + 1) l ((i, note) :: ns) (putT t o.dst v) b Q)
      (calmP p i .none ns = true ∧ WR0 p dsts (i + 1) l ((i, .none) :: ns) (putT t o.dst undef) a Q)
def WR (p : List (Nat × Nat)) (dsts : List (Option Tmp)) (i : Nat) (l : List Oper) (ns : List (Nat × Note)) (t : List Value) (a : AW) (Q : List Value → AW → Prop) (_ : Tag l Q := .mk) : Prop := WR0 E G p dsts i l ns t a Q
end
section
variable {E : Program} {G : Gives} {t : List Value} {a : AW} {p : List (Nat × Nat)} {dsts : List (Option Tmp)} {Q : List Value → AW → Prop}
theorem opA_kind {o : Oper} {x : NextA} {b : AW} (h : opA E t o a = some (x, b)) : (kindO E o = .pure → ∃ v, x = .value v ∧ b = a ∧ pureA E t o = some v) ∧ (kindO E o = .make → ∃ r, makeA E t o = some r ∧ x = .value (r.2 a.next) ∧ b = a.new r.1) := by
  refine ⟨fun hk => ?_, fun hk => ?_⟩
  · unfold opA at h
    rw [hk] at h
    simp only at h
    cases hp : pureA E t o with
    | none => rw [hp] at h; cases h
    | some v => rw [hp] at h; cases h; exact ⟨v, rfl, rfl, rfl⟩
  · unfold opA at h
    rw [hk] at h
    simp only at h
    cases hp : makeA E t o with
    | none => rw [hp] at h; cases h
    | some r => rw [hp] at h; cases h; exact ⟨r, rfl, rfl, rfl⟩
theorem note_step {o : Oper} {K : Note → Value → AW → Prop} (h : WNote E G o.op t a K) : ∃ n note v b, stepO E (callA E G n) (roundA E G n) o t a = some (note, v, b) ∧ K note v b := by
  have hko : kindO E (oper o.op) = kindO E o := rfl
  unfold WNote at h
  rw [hko] at h
  unfold stepO
  cases hk : kindO E o with
  | pure =>
    rw [hk] at h
    simp only at h
    rw [op_pure (hko.trans hk)] at h
    have hp : pureA E t (oper o.op) = pureA E t o := rfl
    rw [hp] at h
    cases hv : pureA E t o with
    | none => rw [hv] at h; exact h.elim
    | some v => rw [hv] at h; exact ⟨0, _, _, _, rfl, h⟩
  | read =>
    rw [hk] at h
    simp only at h
    have hp : readA E t (oper o.op) a = readA E t o a := rfl
    rw [hp] at h
    cases hv : readA E t o a with
    | none => rw [hv] at h; exact h.elim
    | some r =>
      rw [hv, WVal_some] at h
      refine ⟨0, _, _, _, ?_, h.2⟩
      simp only
      rw [if_pos h.1]
  | make =>
    rw [hk] at h
    simp only at h
    rw [op_make (hko.trans hk)] at h
    have hp : makeA E t (oper o.op) = makeA E t o := rfl
    rw [hp] at h
    cases hv : makeA E t o with
    | none => rw [hv] at h; exact h.elim
    | some r => rw [hv] at h; exact ⟨0, _, _, _, rfl, h⟩
  | work =>
    rw [hk] at h
    simp only at h
    rw [op_work (hko.trans hk)] at h
    have hp : workA E t (oper o.op) ⟨a.next, a.heap, a.next, []⟩ = workA E t o ⟨a.next, a.heap, a.next, []⟩ := rfl
    rw [hp] at h
    cases hv : workA E t o ⟨a.next, a.heap, a.next, []⟩ with
    | none => rw [hv] at h; exact h.elim
    | some r =>
      obtain ⟨x, b⟩ := r
      rw [hv, WVal_some] at h
      cases x with
      | value v => exact ⟨0, _, _, _, rfl, h⟩
      | enter f args =>
        obtain ⟨n, v, b', hc, hk'⟩ := h
        refine ⟨n, .work a.next b'.dirty, v, ⟨b'.next, b'.heap, a.base, soilAll a.dirty a.base b'.dirty⟩, ?_, hk'⟩
        have hc' : callA E G n f args b = some (v, b') := by simpa using hc
        simp only [hc', Option.map_some]
      | round f args =>
        obtain ⟨n, v, b', hc, hk'⟩ := h
        refine ⟨n, .work a.next b'.dirty, v, ⟨b'.next, b'.heap, a.base, soilAll a.dirty a.base b'.dirty⟩, ?_, hk'⟩
        have hc' : roundA E G n f args b = some (v, b') := by simpa using hc
        simp only [hc', Option.map_some]
theorem step_more {n m : Nat} (h : n ≤ m) {ops i t a r} (e : stepR E (callA E G n) (roundA E G n) ops i t a = some r) : stepR E (callA E G m) (roundA E G m) ops i t a = some r := by
  induction h with
  | refl => exact e
  | step _ ih => exact mono_step (mono_at _) _ _ _ _ _ ih
theorem wr_reg {ops : Array Oper} (hp : pairsOk (ancs ops) ops.size p = true) {Q} : ∀ (l : List Oper) (k : Nat) (ns : List (Nat × Note)) (t : List Value) (a : AW), ops.toList.drop k = l → (∀ q ∈ ns, q.1 < k) → WR E G p (dstsOf ops.toList) k l ns t a Q →
    ∃ n t' b, regA E G n ops (List.range' k l.length) ns t a = some (t', b) ∧ Q t' b := by
  intro l
  induction l with
  | nil => intro k ns t a _ _ h; exact ⟨1, t, a, by simp [regA], h⟩
  | cons o l ih =>
    intro k ns t a hk hns h
    have hlt : k < ops.toList.length := by
      rcases Nat.lt_or_ge k ops.toList.length with h | h
      · exact h
      · rw [List.drop_eq_nil_of_le h] at hk; cases hk
    have hd := List.drop_eq_getElem_cons hlt
    rw [hk] at hd
    obtain ⟨ho, hl⟩ := List.cons.inj hd
    have hok : ops[k]? = some o := by
      rw [← Array.getElem?_toList, List.getElem?_eq_getElem hlt, ho]
    have hks : k < ops.size := by simpa using hlt
    have hns' : ∀ note : Note, ∀ q ∈ (k, note) :: ns, q.1 < k + 1 := by
      intro note q hq
      rcases List.mem_cons.1 hq with rfl | hq
      · exact Nat.lt_succ_self k
      · exact Nat.lt_succ_of_lt (hns q hq)
    have key : ∀ {n note t1 a1}, stepR E (callA E G n) (roundA E G n) ops k t a = some (note, t1, a1) → calmP p k note ns = true → WR E G p (dstsOf ops.toList) (k + 1) l ((k, note) :: ns) t1 a1 Q → ∃ n t' b, regA E G n ops (List.range' k (o :: l).length) ns t a = some (t', b) ∧ Q t' b := by
      intro n note t1 a1 hs hc hr
      obtain ⟨m, t', b, hm, hq⟩ := ih (k + 1) ((k, note) :: ns) t1 a1 hl.symm (hns' note) hr
      refine ⟨max n m + 1, t', b, ?_, hq⟩
      rw [List.length_cons, List.range'_succ, regA, step_more (Nat.le_max_left n m) hs]
      simp only
      rw [if_pos (calm_of hp hks hns hc)]
      exact reg_mono (Nat.le_max_right n m) hm
    unfold WR WR0 at h
    rw [← wanted_eq] at h
    split at h
    · rename_i hw
      obtain ⟨n, note, v, b, hs, hc, hr⟩ := note_step h
      refine key (n := n) (note := note) (t1 := putT t o.dst v) (a1 := b) ?_ hc hr
      unfold stepR
      rw [hok]
      simp only
      rw [if_pos hw, hs]
      rfl
    · rename_i hw
      refine key (n := 0) (note := .none) (t1 := putT t o.dst undef) (a1 := a) ?_ h.1 h.2
      unfold stepR
      rw [hok]
      simp only
      rw [if_neg hw]
/-- A region that draws its order. -/
theorem code_draw {fn ro ds id} {l : List Oper} {Q : ExitA → List Value → List Nat → AW → Prop} (p : List (Nat × Nat)) (h1 : planOk E l.toArray = true) (h2 : pairsOk (ancs l.toArray) l.length p = true)
    (h : WR E G p (dstsOf l) 0 l [] t ⟨a.next + 1, a.heap, a.base, a.dirty⟩ fun t a => Q .normal t ds a) : WCode E G fn ro (.region id l.toArray true) t ds a Q := by
  obtain ⟨n, t', b, hr, hq⟩ := wr_reg (ops := l.toArray) (by simpa using h2) l 0 [] t ⟨a.next + 1, a.heap, a.base, a.dirty⟩ (by simp) (by simp) (by simpa using h)
  refine ⟨n + 1, _, _, _, _, ?_, hq⟩
  rw [codeA]
  rw [if_pos h1]
  have hsz : List.range l.toArray.size = List.range' 0 l.length := by rw [List.range_eq_range']; simp
  rw [hsz, hr]
theorem WR_nil {i ns} : WR E G p dsts i [] ns t a Q = Q t a := hide rfl
theorem WR_plain {i ns d op ty pos af l} : WR E G p dsts i (⟨some d, op, ty, pos, af, none⟩ :: l) ns t a Q = WNote E G op t a fun note v b => calmP p i note ns = true ∧ WR E G p dsts (i + 1) l ((i, note) :: ns) (putV t d v) b Q := hide rfl
theorem WR_none {i ns op ty pos af l} : WR E G p dsts i (⟨none, op, ty, pos, af, none⟩ :: l) ns t a Q = WNote E G op t a fun note v b => calmP p i note ns = true ∧ WR E G p dsts (i + 1) l ((i, note) :: ns) t b Q := hide rfl
theorem WR_guard {i ns d op ty pos af j b l} : WR E G p dsts i (⟨some d, op, ty, pos, af, some (j, b)⟩ :: l) ns t a Q = WGuard (yieldedD dsts t j) b (WNote E G op t a fun note v b => calmP p i note ns = true ∧ WR E G p dsts (i + 1) l ((i, note) :: ns) (putV t d v) b Q) (calmP p i .none ns = true ∧ WR E G p dsts (i + 1) l ((i, .none) :: ns) (putV t d undef) a Q) := hide rfl
theorem calmP_nil {i n} : calmP p i n [] = true := hide rfl
theorem calmP_cons {i n j m r} : calmP p i n ((j, m) :: r) = ((!clash m n || !memP p j i) && calmP p i n r) := hide rfl
theorem memP_nil {j i} : memP [] j i = false := hide rfl
theorem memP_cons {j i x y r} : memP ((x, y) :: r) j i = (decide (x = j ∧ y = i) || memP r j i) := hide rfl
variable {K : Note → Value → AW → Prop}
theorem note_pure {op} (h : kindO E (oper op) = .pure) : WNote E G op t a K = WOp E G op t a fun v b => K .none v b := by unfold WNote; rw [h]
theorem note_make {op} (h : kindO E (oper op) = .make) : WNote E G op t a K = WOp E G op t a fun v b => K (.work a.next []) v b := by unfold WNote; rw [h]
theorem note_work {op} (h : kindO E (oper op) = .work) : WNote E G op t a K = WOp E G op t ⟨a.next, a.heap, a.next, []⟩ fun v b => K (.work a.next b.dirty) v ⟨b.next, b.heap, a.base, soilAll a.dirty a.base b.dirty⟩ := by unfold WNote; rw [h]
theorem note_read {op} (h : kindO E (oper op) = .read) : WNote E G op t a K = WVal (readA E t (oper op) a) fun r => r.1 < a.next ∧ K (.read r.1) r.2 a := by unfold WNote; rw [h]
theorem note_move {x} : WNote E G (.move x) t a K = WOp E G (.move x) t a fun v b => K .none v b := note_pure rfl
theorem note_assign {x} : WNote E G (.assign x) t a K = WOp E G (.assign x) t a fun v b => K .none v b := note_pure rfl
theorem note_pick {x y z} : WNote E G (.pick x y z) t a K = WOp E G (.pick x y z) t a fun v b => K .none v b := note_pure rfl
theorem note_bin {op ty x y z} : WNote E G (.binOp op ty x y z) t a K = WOp E G (.binOp op ty x y z) t a fun v b => K .none v b := note_pure rfl
theorem note_un {op ty x} : WNote E G (.unOp op ty x) t a K = WOp E G (.unOp op ty x) t a fun v b => K .none v b := note_pure rfl
theorem note_field {ty x f} : WNote E G (.field ty x f) t a K = WOp E G (.field ty x f) t a fun v b => K .none v b := note_pure rfl
theorem note_build {ty x} : WNote E G (.build ty x) t a K = WOp E G (.build ty x) t a fun v b => K .none v b := note_pure rfl
theorem note_slice {ty x l h m} : WNote E G (.slice ty x l h m) t a K = WOp E G (.slice ty x l h m) t a fun v b => K .none v b := note_pure rfl
theorem note_indexAddr {ty x i} : WNote E G (.indexAddr ty x i) t a K = WOp E G (.indexAddr ty x i) t a fun v b => K .none v b := note_pure rfl
theorem note_index {ty x i} : WNote E G (.index ty x i) t a K = WOp E G (.index ty x i) t a fun v b => K .none v b := note_pure rfl
theorem note_extract {x i} : WNote E G (.extract x i) t a K = WOp E G (.extract x i) t a fun v b => K .none v b := note_pure rfl
theorem note_box {ty x} : WNote E G (.box ty x) t a K = WOp E G (.box ty x) t a fun v b => K (.work a.next []) v b := note_make rfl
theorem note_alloc {ty} : WNote E G (.alloc ty) t a K = WOp E G (.alloc ty) t a fun v b => K (.work a.next []) v b := note_make rfl
theorem note_buildSlice {ty n x} : WNote E G (.buildSlice ty n x) t a K = WOp E G (.buildSlice ty n x) t a fun v b => K (.work a.next []) v b := note_make rfl
theorem note_makeSlice {ty n x} : WNote E G (.makeSlice ty n x) t a K = WOp E G (.makeSlice ty n x) t a fun v b => K (.work a.next []) v b := note_make rfl
theorem note_store {ty x y} : WNote E G (.store ty x y) t a K = WOp E G (.store ty x y) t ⟨a.next, a.heap, a.next, []⟩ fun v b => K (.work a.next b.dirty) v ⟨b.next, b.heap, a.base, soilAll a.dirty a.base b.dirty⟩ := note_work rfl
theorem note_call {f args ts} : WNote E G (.call ⟨.value f, args, ts⟩) t a K = WOp E G (.call ⟨.value f, args, ts⟩) t ⟨a.next, a.heap, a.next, []⟩ fun v b => K (.work a.next b.dirty) v ⟨b.next, b.heap, a.base, soilAll a.dirty a.base b.dirty⟩ := note_work rfl
theorem note_append {args ts} : WNote E G (.call ⟨.builtin .append, args, ts⟩) t a K = WOp E G (.call ⟨.builtin .append, args, ts⟩) t ⟨a.next, a.heap, a.next, []⟩ fun v b => K (.work a.next b.dirty) v ⟨b.next, b.heap, a.base, soilAll a.dirty a.base b.dirty⟩ := note_work rfl
theorem note_copy {args ts} : WNote E G (.call ⟨.builtin .copy, args, ts⟩) t a K = WOp E G (.call ⟨.builtin .copy, args, ts⟩) t ⟨a.next, a.heap, a.next, []⟩ fun v b => K (.work a.next b.dirty) v ⟨b.next, b.heap, a.base, soilAll a.dirty a.base b.dirty⟩ := note_work rfl
theorem note_len {x ty d} (h : E.underlying ty = some d) (hm : (match d with | .map _ _ => false | _ => true) = true) : WNote E G (.call ⟨.builtin .len, #[x], #[ty]⟩) t a K = WOp E G (.call ⟨.builtin .len, #[x], #[ty]⟩) t a fun v b => K .none v b := by
  refine note_pure ?_
  simp only [kindO, oper]
  have : ((#[ty] : Array TypeId)[0]?).bind E.underlying = some d := h
  rw [this]
  cases d <;> first | rfl | cases hm
theorem note_min {x ts} : WNote E G (.call ⟨.builtin .min, x, ts⟩) t a K = WOp E G (.call ⟨.builtin .min, x, ts⟩) t a fun v b => K .none v b := note_pure rfl
theorem note_max {x ts} : WNote E G (.call ⟨.builtin .max, x, ts⟩) t a K = WOp E G (.call ⟨.builtin .max, x, ts⟩) t a fun v b => K .none v b := note_pure rfl
theorem note_convI {s d x j k} (hs : E.underlying s = some (.int j)) (hd : E.underlying d = some (.int k)) : WNote E G (.convert s d x) t a K = WOp E G (.convert s d x) t a fun v b => K .none v b := note_pure (kind_conv_int hs hd)
def blockOf (v : Value) : Nat := match v with
  | .pointer (some p) => p.block
  | .slice (some p) _ _ => p.block
  | .map r => r.getD 0
  | _ => 0
theorem blockOf_ptr {p} : blockOf (.pointer (some p)) = p.block := hide rfl
theorem lt_ok {i j : Nat} (h : i < j) : (i < j) = True := eq_true h
theorem le_no {i j : Nat} (h : j < i) : decide (i ≤ j) = false := by simp; omega
theorem blockOf_slice {p n c} : blockOf (.slice (some p) n c) = p.block := hide rfl
theorem note_load {ty x} : WNote E G (.load ty x) t a K = WVal (evalA t x) fun v => WVal (loadP E ty v a) fun r => blockOf v < a.next ∧ K (.read (blockOf v)) r a := by
  rw [note_read rfl]
  simp only [readA, oper]
  cases evalA t x with
  | none => rfl
  | some v =>
    simp only [WVal_some]
    cases v with
    | pointer p =>
      cases p with
      | none => rfl
      | some p => simp only [loadP]; cases loadVarA E ty p a <;> rfl
    | _ => rfl
theorem note_ofBytes {s d x e} (hs : E.underlying s = some (.slice e)) (hd : E.underlying d = some .string) (he : E.underlying e = some (.int .u8)) :
    WNote E G (.convert s d x) t a K = WVal (evalA t x) fun v => WVal (readBytes v a) fun r => blockOf v < a.next ∧ K (.read (blockOf v)) r a := by
  have hk : kindO E (oper (.convert s d x)) = .read := by simp [kindO, oper, hs, hd, he]
  rw [note_read hk]
  simp only [readA, oper]
  cases evalA t x with
  | none => rfl
  | some v =>
    simp only [WVal_some]
    cases v with
    | slice p n c =>
      cases p with
      | none => rfl
      | some p =>
        simp only [readBytes, AW.loadN, cellsAt]
        cases a.get p.block with
        | none => rfl
        | some b =>
          cases b with
          | obj o => rfl
          | cells c _ | holey c _ =>
            simp only
            by_cases hl : p.off + n ≤ c.length
            · rw [if_pos hl, Option.bind_some]
              simp only
              cases bytesOfCells ((c.drop p.off).take n) <;> rfl
            · rw [if_neg hl]; rfl
    | _ => rfl
theorem note_toBytes {s d x e} (hs : E.underlying s = some .string) (hd : E.underlying d = some (.slice e)) (he : E.underlying e = some (.int .u8)) :
    WNote E G (.convert s d x) t a K = WOp E G (.convert s d x) t a fun v b => K (.work a.next []) v b := by
  have hk : kindO E (oper (.convert s d x)) = .make := by simp [kindO, oper, hs, hd, he]
  exact note_make hk
theorem soil_none {d base} : soilAll d base [] = d := hide rfl
end
end
/- Rules of append and copy that look their cells up. -/
section
open Go Go.RowKit
set_option linter.unusedVariables false
set_option linter.unusedSimpArgs false

theorem lit_str {l : List UInt8} : Value.string ⟨l.toArray⟩ = .string (mkStr l) := hide rfl
theorem zero_bytes2 (n : Nat) : (List.replicate n [Value.int .u8 0]).flatten = (List.replicate n (0 : UInt8)).map u8 := zero_bytes n
theorem take_all {α : Type} {l : List α} {n : Nat} (h : l.length ≤ n) : l.take n = l := List.take_of_length_le h
def gOne {α : Type} (l : List Value) (r : Option α) : Option α := if l.all Value.oneCell' = true then r else none
theorem gOne_ok {α : Type} {l : List Value} {r : Option α} (h : l.all Value.oneCell' = true) : gOne l r = r := by simp [gOne, h]
theorem one_int {k n} : (Value.int k n).oneCell' = true := hide rfl
theorem one_bool {b} : (Value.bool b).oneCell' = true := hide rfl
theorem one_str {b} : (Value.string b).oneCell' = true := hide rfl
theorem one_float {k b} : (Value.float k b).oneCell' = true := hide rfl
theorem one_ptr {b} : (Value.pointer b).oneCell' = true := hide rfl
theorem one_slice {p n c} : (Value.slice p n c).oneCell' = true := hide rfl
theorem one_map {p} : (Value.map p).oneCell' = true := hide rfl
section
variable {E : Program} {G : Gives} {t : List Value} {a : AW}
theorem sliceCells_eq {z : Nat} {p : Addr} {n m : Nat} : sliceCells z (.slice (some p) n m) a = cellsAt (a.get p.block) p.off (n * z) := rfl
end
section
variable {E : Program} {G : Gives} {t : List Value} {a : AW} {K : Value → AW → Prop}
/-- A store, by what stands in the block. -/
def storeC (b : Option Blk) (p : Addr) (l : List Value) (a : AW) : Option AW := match b with
  | some (.cells c true) => if p.off + l.length ≤ c.length ∧ l.all Value.oneCell' = true then some (a.write p.block (.cells (c.take p.off ++ (l ++ c.drop (p.off + l.length))) true)) else none
  | some (.holey c k) => if p.off ≤ c.length ∧ p.off + l.length ≤ c.length + k ∧ l.all Value.oneCell' = true then some (a.write p.block (.holey (c.take p.off ++ (l ++ c.drop (p.off + l.length))) (c.length + k - max c.length (p.off + l.length)))) else none
  | _ => none
theorem storeVar_eq {ty : TypeId} {p : Addr} {v : Value} {n : Nat} (hs : typeSize E ty = some n) (hn : v.cells.toList.length = n) : storeVarA E ty p v a = storeC (a.get p.block) p v.cells.toList a := by
  unfold storeVarA AW.storeN storeC
  rw [hs]
  have : v.cells.size = n := by simpa using hn
  simp only [this, if_true]
  cases a.get p.block with
  | none => rfl
  | some b =>
    cases b with
    | obj o => rfl
    | cells c rw => cases rw <;> rfl
    | holey c k => rfl
theorem storeC_ok {p : Addr} {l c : List Value} (h : p.off + l.length ≤ c.length) (ho : l.all Value.oneCell' = true) : storeC (some (.cells c true)) p l a = some (a.write p.block (.cells (c.take p.off ++ (l ++ c.drop (p.off + l.length))) true)) := by
  simp [storeC, h, ho]
theorem drop_all {α : Type} {l : List α} {n : Nat} (h : l.length ≤ n) : l.drop n = [] := List.drop_of_length_le h
/-- What a call answers, it answers whatever comes behind it. -/
theorem call_eq {f : FuncId} {args : List Value} {v : Value} {w : AW} (h : WCall E G f args a fun u b => u = v ∧ b = w) (K : Value → AW → Prop) : WCall E G f args a K = K v w := by
  obtain ⟨n, u, b, hc, rfl, rfl⟩ := h
  refine propext ⟨?_, fun hk => ⟨n, _, _, hc, hk⟩⟩
  rintro ⟨m, u', b', hc', hk⟩
  have h1 := call_mono (Nat.le_max_left n m) hc
  have h2 := call_mono (Nat.le_max_right n m) hc'
  rw [h1] at h2
  cases h2
  exact hk
/-- Append: enough that its answer by the cells is handed on. -/
theorem wp_append_nil {t0 t1 : TypeId} {z y : Nat} (hk : appOk E t0 t1 z = true) (hz : z + 1 = y) {q : Addr} {n cq : Nat} (h0 : 0 < n) (hl : n ≤ 1000000) {new : List Value} (hn : cellsAt (a.get q.block) q.off (n * z) = some new) (ho : new.all Value.oneCell' = true) :
    builtinA E .append #[t0, t1] [.slice none 0 0, .slice (some q) n cq] a = some (.slice (some ⟨a.next, 0, some y⟩) n n, a.new (.cells new true)) := by
  subst hz
  exact append_nil (cp := cq) hk rfl (sliceCells_eq.trans hn) h0 hl ho
theorem wp_append_grown {t0 t1 : TypeId} {z y : Nat} (hk : appOk E t0 t1 z = true) (hz : z + 1 = y) {b o : Nat} {q : Addr} {len cap n cq : Nat} (hc : cap < len + n) (hl : len + n ≤ 1000000) {was new : List Value}
    (hw : cellsAt (a.get b) o (len * z) = some was) (hn : cellsAt (a.get q.block) q.off (n * z) = some new) (ho : new.all Value.oneCell' = true) :
    builtinA E .append #[t0, t1] [.slice (some ⟨b, o, some y⟩) len cap, .slice (some q) n cq] a = some (.slice (some ⟨a.next, 0, some y⟩) (len + n) (len + n), (a.drop b).new (.cells (was ++ new) true)) := by
  subst hz
  exact append_grown hk rfl (sliceCells_eq.trans hn) rfl (sliceCells_eq.trans hw) hc hl ho
theorem wp_append_made {t0 t1 : TypeId} {z y : Nat} (hk : appOk E t0 t1 z = true) (hz : z + 1 = y) {b o : Nat} {q : Addr} {len cap n cq : Nat} (hc : cap < len + n) (hl : len + n ≤ 1000000) {was new : List Value}
    (hw : cellsAt (a.get b) o (len * z) = some was) (hn : cellsAt (a.get q.block) q.off (n * z) = some new) (ho : new.all Value.oneCell' = true) :
    builtinA E .append #[t0, t1] [.slice (some ⟨b, o, some 0⟩) len cap, .slice (some q) n cq] a = some (.slice (some ⟨a.next, 0, some y⟩) (len + n) (len + n), a.new (.cells (was ++ new) true)) := by
  subst hz
  exact append_made hk rfl (sliceCells_eq.trans hn) rfl (sliceCells_eq.trans hw) hc hl ho
end
end
end Go.Proofs.YtlbmjpmonaekgaaAM
