/- The equality of structs. -/
import Derived.Test.YtmdfejlfdgaomaaAM34
import Derived.Laws.StructEq
namespace Go.Proofs.YtmdfejlfdgaomaaAM
open Go Go.RowKit
set_option linter.unusedVariables false
set_option linter.unusedSimpArgs false

section
variable {P : Program}
theorem prun_bind {α β : Type} (f : α → Sem β) : ∀ (x : Sem α), prun P (x >>= f) = (prun P x).bind fun v => prun P (f v) := by
  intro x
  show prun P (Sem.bind x f) = _
  induction x with
  | pure a => rfl
  | program k ih => simp only [Sem.bind, prun]; exact ih _
  | mark m k ih => simp only [Sem.bind, prun]; exact ih
  | _ => rfl
theorem prun_pure {α : Type} (a : α) : prun P (pure a : Sem α) = some a := rfl
theorem prun_program {α : Type} (k : Program → Sem α) : prun P (program >>= k) = prun P (k P) := by
  rw [prun_bind]; rfl
theorem prun_ite {α : Type} {c : Prop} [Decidable c] (x y : Sem α) : prun P (if c then x else y) = if c then prun P x else prun P y := by split <;> rfl
def eqFieldsA (P : Program) (d : Nat) (xs ys : Array Value) : List Field → Option Bool
  | [] => some true
  | f :: fs =>
    if f.name ≠ "_" then
      (prun P (part f.type xs f.offset)).bind fun a => (prun P (part f.type ys f.offset)).bind fun b => (prun P (Op.equalIn d f.type a b)).bind fun r =>
        if r then eqFieldsA P d xs ys fs else some false
    else eqFieldsA P d xs ys fs
theorem prun_equal_struct (d : Nat) (t : TypeId) (xs ys : Array Value) {fs : Array Field} (ht : P.underlying t = some (.struct fs)) (hp : P.stoodInHeld t = false) :
    prun P (Op.equalIn (d + 1) t (.agg xs) (.agg ys)) = eqFieldsA P d xs ys fs.toList := by
  simp only [Op.equalIn]
  rw [prun_underlying t _ ht]
  simp only
  rw [prun_program]
  simp only [hp, Bool.false_eq_true, if_false]
  rw [← Array.forIn_toList]
  generalize fs.toList = l
  clear ht
  induction l with
  | nil => simp only [List.forIn_nil]; rfl
  | cons f fs ih =>
    simp only [List.forIn_cons, eqFieldsA, prun_bind, prun_ite]
    by_cases hn : f.name ≠ "_"
    · rw [if_pos hn, if_pos hn]
      cases prun P (part f.type xs f.offset) with
      | none => rfl
      | some a =>
        cases prun P (part f.type ys f.offset) with
        | none => rfl
        | some b =>
          simp only [Option.bind_some]
          cases prun P (Op.equalIn d f.type a b) with
          | none => rfl
          | some r =>
            cases r
            · rfl
            · rw [prun_bind] at ih
              exact ih
    · rw [if_neg hn, if_neg hn]
      rw [prun_bind] at ih
      exact ih
theorem eq_int {d t k k'} {a b : Int} (h : P.underlying t = some (.int k')) : prun P (Op.equalIn (d + 1) t (.int k a) (.int k b)) = some (decide (a = b)) := by
  simp only [Op.equalIn]
  rw [prun_underlying t _ h]
  simp only [if_true, prun_pure]
  by_cases hab : a = b <;> simp [hab]
theorem eq_bool {d t} {a b : Bool} (h : P.underlying t = some .bool) : prun P (Op.equalIn (d + 1) t (.bool a) (.bool b)) = some (decide (a = b)) := by
  simp only [Op.equalIn]
  rw [prun_underlying t _ h]
  simp only [prun_pure]
  cases a <;> cases b <;> rfl
theorem eq_str {d t} {a b : List UInt8} (h : P.underlying t = some .string) : prun P (Op.equalIn (d + 1) t (.string (mkStr a)) (.string (mkStr b))) = some (decide (a = b)) := by
  simp only [Op.equalIn]
  rw [prun_underlying t _ h]
  simp only [prun_pure]
  congr 1
  rw [beq_toListBytes, ByteArray.toList_eq, ByteArray.toList_eq]
  show (a == b) = decide (a = b)
  by_cases hab : a = b <;> simp [hab]
/-- Structs, compared. -/
def eqS (P : Program) (t : TypeId) (xs ys : Array Value) : Option Bool := match P.underlying t with
  | some (.struct fs) => if P.stoodInHeld t = false then eqFieldsA P 9999 xs ys fs.toList else none
  | _ => none
def eqFieldsK (P : Program) (d : Nat) (xs ys : Array Value) : List (Bool × TypeId × Nat) → Option Bool
  | [] => some true
  | (true, _, _) :: l => eqFieldsK P d xs ys l
  | (false, t, off) :: l => (prun P (part t xs off)).bind fun a => (prun P (part t ys off)).bind fun b => (prun P (Op.equalIn d t a b)).bind fun r =>
        if r then eqFieldsK P d xs ys l else some false
theorem fields_key {d xs ys} : ∀ (l : List Field), eqFieldsA P d xs ys l = eqFieldsK P d xs ys (l.map fun f => (f.name == "_", f.type, f.offset))
  | [] => rfl
  | f :: l => by
    simp only [eqFieldsA, List.map_cons, fields_key l]
    by_cases h : f.name = "_"
    · have : (f.name == "_") = true := by simp [h]
      rw [this]
      simp only [h, ne_eq, not_true_eq_false, if_false, eqFieldsK]
    · have : (f.name == "_") = false := by simp [h]
      rw [this]
      simp only [h, ne_eq, not_false_eq_true, if_true, eqFieldsK]
theorem eqS_key {t : TypeId} {xs ys : Array Value} {L : List (Bool × TypeId × Nat)} (h : ∃ fs, P.underlying t = some (.struct fs) ∧ P.stoodInHeld t = false ∧ fs.toList.map (fun f => (f.name == "_", f.type, f.offset)) = L) : eqS P t xs ys = eqFieldsK P 9999 xs ys L := by
  obtain ⟨fs, h1, h2, rfl⟩ := h
  unfold eqS
  rw [h1]
  simp only [h2, if_true, fields_key]
theorem key_nil {d xs ys} : eqFieldsK P d xs ys [] = some true := rfl
theorem key_cons {d xs ys t off l} : eqFieldsK P d xs ys ((false, t, off) :: l) = (prun P (part t xs off)).bind fun a => (prun P (part t ys off)).bind fun b => (prun P (Op.equalIn d t a b)).bind fun r =>
        if r then eqFieldsK P d xs ys l else some false := rfl
theorem prun_isAgg {t : TypeId} {b : Bool} (h : aggB P t = some b) : prun P (isAgg t) = some b := by
  unfold aggB at h
  unfold isAgg
  cases hu : P.underlying t with
  | none => rw [hu] at h; cases h
  | some d =>
    rw [hu] at h
    rw [prun_underlying t _ hu]
    cases d <;> cases h <;> rfl
theorem part_one {t : TypeId} {l : List Value} {off : Nat} (h : aggB P t = some false) : prun P (part t l.toArray off) = l[off]? := by
  unfold part
  rw [prun_bind, prun_isAgg h]
  simp only [Option.bind_some, Bool.false_eq_true, if_false, List.getElem?_toArray]
  cases l[off]? <;> rfl
theorem ite_and {p q : Bool} : (if p = true then some q else some false) = some (p && q) := by cases p <;> rfl
theorem bin_eql_agg {t x y} {xs ys : Array Value} {b : Bool} (hx : flat (.agg xs) = true) (hy : flat (.agg ys) = true) (hg : P.eqGuardType P.depth t = false) (h : eqS P t xs ys = some b) : binA P .eql t x y (.agg xs) (.agg ys) = some (.bool b) := by
  unfold eqS at h
  split at h
  · rename_i fs ht
    split at h
    · rename_i hp
      have h1 := prun_equal_struct 9999 t xs ys ht hp
      rw [h] at h1
      have h2 : prun P (eqGuard .eql t x y (.agg xs) (.agg ys)) = some () := by
        have : eqGuard .eql t x y (.agg xs) (.agg ys) = (do
          if !(← program).eqGuardType (← program).depth t then return
          if ← Op.eqGuardIn Op.maxDepth t (.agg xs) (.agg ys) then unsupported (.noEntry "binop/eql: two nil values of an interface type with methods, in a part of a struct or an array")) := rfl
        rw [this, prun_program, prun_program]
        simp only [hg, Bool.not_false, if_true]
        rfl
      have h3 : prun P (binOp .eql t (.agg xs) (.agg ys)) = some (.bool b) := by
        have : binOp .eql t (.agg xs) (.agg ys) = (do pure (.bool (← Op.equal t (.agg xs) (.agg ys)))) := rfl
        rw [this, prun_bind]
        have : prun P (Op.equal t (.agg xs) (.agg ys)) = some b := h1
        rw [this]; rfl
      unfold binA
      simp only [hx, hy, Bool.and_self, if_true, prunF, prun_bind, h2, h3, Option.bind_some, flat_bool]
    · cases h
  · cases h
theorem bin_neq_agg {t x y} {xs ys : Array Value} {b : Bool} (hx : flat (.agg xs) = true) (hy : flat (.agg ys) = true) (hg : P.eqGuardType P.depth t = false) (h : eqS P t xs ys = some b) : binA P .neq t x y (.agg xs) (.agg ys) = some (.bool (!b)) := by
  unfold eqS at h
  split at h
  · rename_i fs ht
    split at h
    · rename_i hp
      have h1 := prun_equal_struct 9999 t xs ys ht hp
      rw [h] at h1
      have h2 : prun P (eqGuard .neq t x y (.agg xs) (.agg ys)) = some () := by
        have : eqGuard .neq t x y (.agg xs) (.agg ys) = (do
          if !(← program).eqGuardType (← program).depth t then return
          if ← Op.eqGuardIn Op.maxDepth t (.agg xs) (.agg ys) then unsupported (.noEntry "binop/eql: two nil values of an interface type with methods, in a part of a struct or an array")) := rfl
        rw [this, prun_program, prun_program]
        simp only [hg, Bool.not_false, if_true]
        rfl
      have h3 : prun P (binOp .neq t (.agg xs) (.agg ys)) = some (.bool !b) := by
        have : binOp .neq t (.agg xs) (.agg ys) = (do pure (.bool (!(← Op.equal t (.agg xs) (.agg ys))))) := rfl
        rw [this, prun_bind]
        have : prun P (Op.equal t (.agg xs) (.agg ys)) = some b := h1
        rw [this]; rfl
      unfold binA
      simp only [hx, hy, Bool.and_self, if_true, prunF, prun_bind, h2, h3, Option.bind_some, flat_bool]
    · cases h
  · cases h
end
end Go.Proofs.YtmdfejlfdgaomaaAM
