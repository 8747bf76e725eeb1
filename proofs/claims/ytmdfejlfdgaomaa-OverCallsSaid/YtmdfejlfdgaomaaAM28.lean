/- What a code answers, as a rule for what comes behind it: free of fuel. -/
import Derived.Test.YtmdfejlfdgaomaaAM27
namespace Go.Proofs.YtmdfejlfdgaomaaAM
open Go Go.RowKit
set_option linter.unusedVariables false
set_option linter.unusedSimpArgs false


universe u v
inductive Tag {α : Sort u} {β : Sort v} (x : α) (y : β) : Type where
  | mk
theorem hide {α : Sort u} {x y : α} (h : x = y) : x = y := h
/-- An option's value, handed on. -/
def WVal {α : Type} (r : Option α) (K : α → Prop) (_ : Tag K K := .mk) : Prop := match r with
  | some v => K v
  | none => False
theorem WVal_some {α : Type} (v : α) (K : α → Prop) : WVal (some v) K = K v := hide rfl
theorem WVal_none {α : Type} (K : α → Prop) : WVal (none : Option α) K = False := hide rfl
def WIf (r : Option Value) (p q : Prop) (_ : Tag p q := .mk) : Prop := match r with
  | some (.bool true) => p
  | some (.bool false) => q
  | _ => False
theorem WIf_true (p q : Prop) : WIf (some (.bool true)) p q = p := hide rfl
theorem WIf_false (p q : Prop) : WIf (some (.bool false)) p q = q := hide rfl
theorem WIf_both {b : Bool} {p q : Prop} (h1 : b = true → p) (h2 : b = false → q) : WIf (some (.bool b)) p q := by
  cases b
  · exact h2 rfl
  · exact h1 rfl
def WGuard (y : Option Bool) (b : Bool) (p q : Prop) (_ : Tag p q := .mk) : Prop := if y = some b then p else q
theorem WGuard_tt (p q : Prop) : WGuard (some true) true p q = p := hide rfl
theorem WGuard_tf (p q : Prop) : WGuard (some true) false p q = q := hide rfl
theorem WGuard_ft (p q : Prop) : WGuard (some false) true p q = q := hide rfl
theorem WGuard_ff (p q : Prop) : WGuard (some false) false p q = p := hide rfl
theorem WGuard_n (b : Bool) (p q : Prop) : WGuard none b p q = q := by simp [WGuard]
theorem WGuard_both {y : Bool} {b : Bool} {p q : Prop} (h1 : y = b → p) (h2 : y = !b → q) : WGuard (some y) b p q := by
  unfold WGuard
  split
  · rename_i h; exact h1 (by simpa using h)
  · rename_i h; exact h2 (by revert h; cases y <;> cases b <;> simp)

section
variable (E : Program) (G : Gives)
def WOps (fn : FuncId) (ro : Option Nat) (ops : Array Oper) (is : List Nat) (t : List Value) (a : AW) (Q : List Value → AW → Prop) : Prop :=
  ∃ n t' b, opsA E G n fn ro ops is t a = some (t', b) ∧ Q t' b
def WCode (fn : FuncId) (ro : Option Nat) (c : Code) (t : List Value) (ds : List Nat) (a : AW) (Q : ExitA → List Value → List Nat → AW → Prop) (_ : Tag c Q := .mk) : Prop :=
  ∃ n e t' ds' b, codeA E G n fn ro c t ds a = some (e, t', ds', b) ∧ Q e t' ds' b
def WCall (f : FuncId) (args : List Value) (a : AW) (K : Value → AW → Prop) (_ : Tag K K := .mk) : Prop :=
  ∃ n v b, callA E G n f args.toArray a = some (v, b) ∧ K v b
def WRound (l : Nat) (args : List Value) (a : AW) (K : Value → AW → Prop) (_ : Tag K K := .mk) : Prop :=
  ∃ n v b, roundA E G n l args.toArray a = some (v, b) ∧ K v b
def oper (op : Op) : Oper := ⟨none, op, 0, "", #[], none⟩
def WOp (op : Op) (t : List Value) (a : AW) (K : Value → AW → Prop) (_ : Tag op K := .mk) : Prop :=
  WVal (opA E t (oper op) a) fun x => match x with
    | (.value v, b) => K v b
    | (.enter f args, b) => WCall E G f args.toList b K
    | (.round l args, b) => WRound E G l args.toList b K
def dstsOf : List Oper → List (Option Tmp)
  | [] => []
  | o :: l => o.dst :: dstsOf l
def getT (t : List Value) (i : Nat) : Value := t.getD i undef
def putV (t : List Value) (i : Nat) (v : Value) : List Value := t.set i v
def dget (l : List (Option Tmp)) (j : Nat) : Option Tmp := l.getD j none
def asBool (v : Value) : Option Bool := match v with
  | .bool b => some b
  | _ => none
def boolAt (t : List Value) (d : Option Tmp) : Option Bool := match d with
  | some d => asBool (getT t d)
  | none => none
def yieldedD (dsts : List (Option Tmp)) (t : List Value) (j : Nat) : Option Bool :=
  boolAt t (dget dsts j)
def wantD (g : Option (Nat × Bool)) (dsts : List (Option Tmp)) (t : List Value) (p q : Prop) : Prop :=
  match g with
  | none => p
  | some (j, b) => WGuard (yieldedD dsts t j) b p q
def WL0 (dsts : List (Option Tmp)) : List Oper → List Value → AW → (List Value → AW → Prop) → Prop
  | [], t, a, Q => Q t a
  | o :: l, t, a, Q => wantD o.guard dsts t (WOp E G o.op t a fun v b => WL0 dsts l (putT t o.dst v) b Q) (WL0 dsts l (putT t o.dst undef) a Q)
def WL (dsts : List (Option Tmp)) (l : List Oper) (t : List Value) (a : AW) (Q : List Value → AW → Prop) (_ : Tag l Q := .mk) : Prop := WL0 E G dsts l t a Q
end

section
variable {E : Program} {G : Gives}
theorem opA_oper (o : Oper) (t : List Value) (a : AW) : opA E t o a = opA E t (oper o.op) a := rfl
theorem dsts_eq {ops : Array Oper} {j : Nat} : (dstsOf ops.toList).getD j none = (ops[j]?).bind (·.dst) := by
  have : ∀ (l : List Oper) j, (dstsOf l).getD j none = (l[j]?).bind (·.dst) := by
    intro l
    induction l with
    | nil => intro j; rfl
    | cons o l ih => intro j; cases j with
      | zero => simp [dstsOf]
      | succ j => simpa [dstsOf] using ih j
  rw [this, Array.getElem?_toList]
theorem yielded_eq {ops : Array Oper} {t : List Value} {j : Nat} : yieldedA ops t j = yieldedD (dstsOf ops.toList) t j := by
  unfold yieldedA yieldedD dget
  rw [dsts_eq]
  cases (ops[j]?).bind (·.dst) with
  | none => rfl
  | some d =>
    simp only [Option.bind_some, boolAt, getT, List.getD_eq_getElem?_getD]
    cases t[d]? with
    | none => rfl
    | some v => cases v <;> rfl
theorem wanted_eq {ops : Array Oper} {t : List Value} {o : Oper} {p q : Prop} : (if Region.wanted o (yieldedA ops t) then p else q) = wantD o.guard (dstsOf ops.toList) t p q := by
  unfold Region.wanted wantD
  cases hg : o.guard with
  | none => simp
  | some g =>
    obtain ⟨j, b⟩ := g
    simp only [yielded_eq, WGuard, beq_iff_eq]
theorem wops_iff {fn ro} {ops : Array Oper} {Q} : ∀ (l : List Oper) (k : Nat) (t : List Value) (a : AW), ops.toList.drop k = l → (WOps E G fn ro ops (List.range' k l.length) t a Q ↔ WL E G (dstsOf ops.toList) l t a Q) := by
  intro l
  induction l with
  | nil =>
    intro k t a hk
    constructor
    · rintro ⟨n, t', b, h, hq⟩
      cases n with
      | zero => simp [opsA] at h
      | succ n =>
        simp only [List.length_nil, List.range'_zero, opsA, Option.some.injEq, Prod.mk.injEq] at h
        obtain ⟨rfl, rfl⟩ := h
        exact hq
    · intro h
      exact ⟨1, t, a, by simp [opsA], h⟩
  | cons o l ih =>
    intro k t a hk
    have hlt : k < ops.toList.length := by
      rcases Nat.lt_or_ge k ops.toList.length with h | h
      · exact h
      · rw [List.drop_eq_nil_of_le h] at hk; cases hk
    have hd := List.drop_eq_getElem_cons hlt
    rw [hk] at hd
    obtain ⟨ho, hl⟩ := List.cons.inj hd
    have hok : ops[k]? = some o := by
      rw [← Array.getElem?_toList, List.getElem?_eq_getElem hlt, ho]
    have ih' := fun t a => ih (k + 1) t a hl.symm
    have key : WOps E G fn ro ops (k :: List.range' (k + 1) l.length) t a Q ↔ (if Region.wanted o (yieldedA ops t) then WOp E G o.op t a (fun v b => WOps E G fn ro ops (List.range' (k + 1) l.length) (putT t o.dst v) b Q) else WOps E G fn ro ops (List.range' (k + 1) l.length) (putT t o.dst undef) a Q) := by
      constructor
      · rintro ⟨n, t', b, h, hq⟩
        cases n with
        | zero => simp [opsA] at h
        | succ n =>
          rw [opsA, hok] at h
          simp only at h
          split at h
          · rename_i hw
            rw [if_pos hw]
            unfold WOp
            rw [← opA_oper]
            cases hop : opA E t o a with
            | none => rw [hop] at h; cases h
            | some x =>
              obtain ⟨x, a1⟩ := x
              rw [hop] at h
              cases x with
              | value v => exact ⟨n, t', b, h, hq⟩
              | enter f args =>
                simp only at h
                cases hc : callA E G n f args a1 with
                | none => rw [hc] at h; cases h
                | some r => rw [hc] at h; exact ⟨n, r.1, r.2, by simpa using hc, n, t', b, h, hq⟩
              | round f args =>
                simp only at h
                cases hc : roundA E G n f args a1 with
                | none => rw [hc] at h; cases h
                | some r => rw [hc] at h; exact ⟨n, r.1, r.2, by simpa using hc, n, t', b, h, hq⟩
          · rename_i hw
            rw [if_neg hw]
            exact ⟨n, t', b, h, hq⟩
      · intro h
        split at h
        · rename_i hw
          unfold WOp at h
          rw [← opA_oper] at h
          cases hop : opA E t o a with
          | none => rw [hop] at h; exact h.elim
          | some x =>
            obtain ⟨x, a1⟩ := x
            rw [hop] at h
            cases x with
            | value v =>
              obtain ⟨n, t', b, e, hq⟩ := h
              exact ⟨n + 1, t', b, by rw [opsA, hok]; simp only; rw [if_pos hw, hop]; exact e, hq⟩
            | enter f args =>
              obtain ⟨m, v, a2, hc, n, t', b, e, hq⟩ := h
              refine ⟨max m n + 1, t', b, ?_, hq⟩
              rw [opsA, hok]; simp only; rw [if_pos hw, hop]; simp only
              rw [call_mono (Nat.le_max_left m n) (by simpa using hc)]
              exact ops_mono (Nat.le_max_right m n) e
            | round f args =>
              obtain ⟨m, v, a2, hc, n, t', b, e, hq⟩ := h
              refine ⟨max m n + 1, t', b, ?_, hq⟩
              rw [opsA, hok]; simp only; rw [if_pos hw, hop]; simp only
              rw [round_mono (Nat.le_max_left m n) (by simpa using hc)]
              exact ops_mono (Nat.le_max_right m n) e
        · rename_i hw
          obtain ⟨n, t', b, e, hq⟩ := h
          exact ⟨n + 1, t', b, by rw [opsA, hok]; simp only; rw [if_neg hw]; exact e, hq⟩
    rw [List.length_cons, List.range'_succ, key, WL, WL0, ← wanted_eq]
    have h1 : (fun v b => WOps E G fn ro ops (List.range' (k + 1) l.length) (putT t o.dst v) b Q) = fun v b => WL0 E G (dstsOf ops.toList) l (putT t o.dst v) b Q := by
      funext v b; exact propext (ih' _ _)
    have h2 : WOps E G fn ro ops (List.range' (k + 1) l.length) (putT t o.dst undef) a Q = WL0 E G (dstsOf ops.toList) l (putT t o.dst undef) a Q := propext (ih' _ _)
    rw [h1, h2]
theorem wops_all {fn ro} {ops : Array Oper} {t a Q} : WOps E G fn ro ops (List.range ops.size) t a Q ↔ WL E G (dstsOf ops.toList) ops.toList t a Q := by
  rw [List.range_eq_range', ← Array.length_toList]
  exact wops_iff ops.toList 0 t a rfl
end
end Go.Proofs.YtmdfejlfdgaomaaAM
