/- The equality of structs. (and what follows from it) -/
import Derived.Test.YtlbmjpmonaekgaaAMC
import Derived.Laws.StructEq
import Derived.Lib.SmallJoins
import Derived.Deep.Slices
import Derived.Deep.Fields
import Derived.SizedLaws
namespace Go.Proofs.YtlbmjpmonaekgaaAM
/- The equality of structs. -/
section
open Go Go.RowKit
set_option linter.unusedVariables false
set_option linter.unusedSimpArgs false

section
variable {P : Program}
theorem prun_bind {α β : Type} (f : α → Sem β) : ∀ (x : Sem α), prun P (x >>= f) = (prun P x).bind fun v => prun P (f v) := by
  intro x
  show prun P (Sem.bind x f) = _
  induction x with
  | pure a => rfl
  | program k ih => simp only [Sem.bind, prun]; exact ih _
  | mark m k ih => simp only [Sem.bind, prun]; exact ih
  | _ => rfl
theorem prun_pure {α : Type} (a : α) : prun P (pure a : Sem α) = some a := rfl
theorem prun_program {α : Type} (k : Program → Sem α) : prun P (program >>= k) = prun P (k P) := by
  rw [prun_bind]; rfl
theorem prun_ite {α : Type} {c : Prop} [Decidable c] (x y : Sem α) : prun P (if c then x else y) = if c then prun P x else prun P y := by split <;> rfl
def eqFieldsA (P : Program) (d : Nat) (xs ys : Array Value) : List Field → Option Bool
  | [] => some true
  | f :: fs =>
    if f.name ≠ "_" then
      (prun P (part f.type xs f.offset)).bind fun a => (prun P (part f.type ys f.offset)).bind fun b => (prun P (Op.equalIn d f.type a b)).bind fun r =>
        if r then eqFieldsA P d xs ys fs else some false
    else eqFieldsA P d xs ys fs
theorem prun_equal_struct (d : Nat) (t : TypeId) (xs ys : Array Value) {fs : Array Field} (ht : P.underlying t = some (.struct fs)) (hp : P.stoodInHeld t = false) :
    prun P (Op.equalIn (d + 1) t (.agg xs) (.agg ys)) = eqFieldsA P d xs ys fs.toList := by
  simp only [Op.equalIn]
  rw [prun_underlying t _ ht]
  simp only
  rw [prun_program]
  simp only [hp, Bool.false_eq_true, if_false]
  rw [← Array.forIn_toList]
  generalize fs.toList = l
  clear ht
  induction l with
  | nil => simp only [List.forIn_nil]; rfl
  | cons f fs ih =>
    simp only [List.forIn_cons, eqFieldsA, prun_bind, prun_ite]
    by_cases hn : f.name ≠ "_"
    · rw [if_pos hn, if_pos hn]
      cases prun P (part f.type xs f.offset) with
      | none => rfl
      | some a =>
        cases prun P (part f.type ys f.offset) with
        | none => rfl
        | some b =>
          simp only [Option.bind_some]
          cases prun P (Op.equalIn d f.type a b) with
          | none => rfl
          | some r =>
            cases r
            · rfl
            · rw [prun_bind] at ih
              exact ih
    · rw [if_neg hn, if_neg hn]
      rw [prun_bind] at ih
      exact ih
theorem eq_int {d t k k'} {a b : Int} (h : P.underlying t = some (.int k')) : prun P (Op.equalIn (d + 1) t (.int k a) (.int k b)) = some (decide (a = b)) := by
  simp only [Op.equalIn]
  rw [prun_underlying t _ h]
  simp only [if_true, prun_pure]
  by_cases hab : a = b <;> simp [hab]
theorem eq_bool {d t} {a b : Bool} (h : P.underlying t = some .bool) : prun P (Op.equalIn (d + 1) t (.bool a) (.bool b)) = some (decide (a = b)) := by
  simp only [Op.equalIn]
  rw [prun_underlying t _ h]
  simp only [prun_pure]
  cases a <;> cases b <;> rfl
theorem eq_str {d t} {a b : List UInt8} (h : P.underlying t = some .string) : prun P (Op.equalIn (d + 1) t (.string (mkStr a)) (.string (mkStr b))) = some (decide (a = b)) := by
  simp only [Op.equalIn]
  rw [prun_underlying t _ h]
  simp only [prun_pure]
  congr 1
  rw [beq_toListBytes, ByteArray.toList_eq, ByteArray.toList_eq]
  show (a == b) = decide (a = b)
  by_cases hab : a = b <;> simp [hab]
/-- Structs, compared. -/
def eqS (P : Program) (t : TypeId) (xs ys : Array Value) : Option Bool := match P.underlying t with
  | some (.struct fs) => if P.stoodInHeld t = false then eqFieldsA P 9999 xs ys fs.toList else none
  | _ => none
def eqFieldsK (P : Program) (d : Nat) (xs ys : Array Value) : List (Bool × TypeId × Nat) → Option Bool
  | [] => some true
  | (true, _, _) :: l => eqFieldsK P d xs ys l
  | (false, t, off) :: l => (prun P (part t xs off)).bind fun a => (prun P (part t ys off)).bind fun b => (prun P (Op.equalIn d t a b)).bind fun r =>
        if r then eqFieldsK P d xs ys l else some false
theorem fields_key {d xs ys} : ∀ (l : List Field), eqFieldsA P d xs ys l = eqFieldsK P d xs ys (l.map fun f => (f.name == "_", f.type, f.offset))
  | [] => rfl
  | f :: l => by
    simp only [eqFieldsA, List.map_cons, fields_key l]
    by_cases h : f.name = "_"
    · have : (f.name == "_") = true := by simp [h]
      rw [this]
      simp only [h, ne_eq, not_true_eq_false, if_false, eqFieldsK]
    · have : (f.name == "_") = false := by simp [h]
      rw [this]
      simp only [h, ne_eq, not_false_eq_true, if_true, eqFieldsK]
theorem eqS_key {t : TypeId} {xs ys : Array Value} {L : List (Bool × TypeId × Nat)} (h : ∃ fs, P.underlying t = some (.struct fs) ∧ P.stoodInHeld t = false ∧ fs.toList.map (fun f => (f.name == "_", f.type, f.offset)) = L) : eqS P t xs ys = eqFieldsK P 9999 xs ys L := by
  obtain ⟨fs, h1, h2, rfl⟩ := h
  unfold eqS
  rw [h1]
  simp only [h2, if_true, fields_key]
theorem key_nil {d xs ys} : eqFieldsK P d xs ys [] = some true := rfl
theorem key_cons {d xs ys t off l} : eqFieldsK P d xs ys ((false, t, off) :: l) = (prun P (part t xs off)).bind fun a => (prun P (part t ys off)).bind fun b => (prun P (Op.equalIn d t a b)).bind fun r =>
        if r then eqFieldsK P d xs ys l else some false := rfl
theorem prun_isAgg {t : TypeId} {b : Bool} (h : aggB P t = some b) : prun P (isAgg t) = some b := by
  unfold aggB at h
  unfold isAgg
  cases hu : P.underlying t with
  | none => rw [hu] at h; cases h
  | some d =>
    rw [hu] at h
    rw [prun_underlying t _ hu]
    cases d <;> cases h <;> rfl
theorem part_one {t : TypeId} {l : List Value} {off : Nat} (h : aggB P t = some false) : prun P (part t l.toArray off) = l[off]? := by
  unfold part
  rw [prun_bind, prun_isAgg h]
  simp only [Option.bind_some, Bool.false_eq_true, if_false, List.getElem?_toArray]
  cases l[off]? <;> rfl
theorem ite_and {p q : Bool} : (if p = true then some q else some false) = some (p && q) := by cases p <;> rfl
theorem bin_eql_agg {t x y} {xs ys : Array Value} {b : Bool} (hx : flat (.agg xs) = true) (hy : flat (.agg ys) = true) (hg : P.eqGuardType P.depth t = false) (h : eqS P t xs ys = some b) : binA P .eql t x y (.agg xs) (.agg ys) = some (.bool b) := by
  unfold eqS at h
  split at h
  · rename_i fs ht
    split at h
    · rename_i hp
      have h1 := prun_equal_struct 9999 t xs ys ht hp
      rw [h] at h1
      have h2 : prun P (eqGuard .eql t x y (.agg xs) (.agg ys)) = some () := by
        have : eqGuard .eql t x y (.agg xs) (.agg ys) = (do
          if !(← program).eqGuardType (← program).depth t then return
          if ← Op.eqGuardIn Op.maxDepth t (.agg xs) (.agg ys) then unsupported (.noEntry "binop/eql: two nil values of an interface type with methods, in a part of a struct or an array")) := rfl
        rw [this, prun_program, prun_program]
        simp only [hg, Bool.not_false, if_true]
        rfl
      have h3 : prun P (binOp .eql t (.agg xs) (.agg ys)) = some (.bool b) := by
        have : binOp .eql t (.agg xs) (.agg ys) = (do pure (.bool (← Op.equal t (.agg xs) (.agg ys)))) := rfl
        rw [this, prun_bind]
        have : prun P (Op.equal t (.agg xs) (.agg ys)) = some b := h1
        rw [this]; rfl
      rw [binA_eq rfl]; unfold binA0
      simp only [hx, hy, Bool.and_self, if_true, prunF, prun_bind, h2, h3, Option.bind_some, flat_bool]
    · cases h
  · cases h
theorem bin_neq_agg {t x y} {xs ys : Array Value} {b : Bool} (hx : flat (.agg xs) = true) (hy : flat (.agg ys) = true) (hg : P.eqGuardType P.depth t = false) (h : eqS P t xs ys = some b) : binA P .neq t x y (.agg xs) (.agg ys) = some (.bool (!b)) := by
  unfold eqS at h
  split at h
  · rename_i fs ht
    split at h
    · rename_i hp
      have h1 := prun_equal_struct 9999 t xs ys ht hp
      rw [h] at h1
      have h2 : prun P (eqGuard .neq t x y (.agg xs) (.agg ys)) = some () := by
        have : eqGuard .neq t x y (.agg xs) (.agg ys) = (do
          if !(← program).eqGuardType (← program).depth t then return
          if ← Op.eqGuardIn Op.maxDepth t (.agg xs) (.agg ys) then unsupported (.noEntry "binop/eql: two nil values of an interface type with methods, in a part of a struct or an array")) := rfl
        rw [this, prun_program, prun_program]
        simp only [hg, Bool.not_false, if_true]
        rfl
      have h3 : prun P (binOp .neq t (.agg xs) (.agg ys)) = some (.bool !b) := by
        have : binOp .neq t (.agg xs) (.agg ys) = (do pure (.bool (!(← Op.equal t (.agg xs) (.agg ys))))) := rfl
        rw [this, prun_bind]
        have : prun P (Op.equal t (.agg xs) (.agg ys)) = some b := h1
        rw [this]; rfl
      rw [binA_eq rfl]; unfold binA0
      simp only [hx, hy, Bool.and_self, if_true, prunF, prun_bind, h2, h3, Option.bind_some, flat_bool]
    · cases h
  · cases h
end
end
/- The addresses of fields. -/
section
open Go Go.RowKit
set_option linter.unusedVariables false
set_option linter.unusedSimpArgs false

section
variable {E : Program} {G : Gives} {t : List Value} {a : AW} {K : Value → AW → Prop}
def fldOff (E : Program) (s : TypeId) (f : Nat) : Option Nat := match E.underlying s with
  | some (.struct fs) => match fs[f]? with
    | some fd => match typeSize E fd.type with
      | some (_ + 1) => some fd.offset
      | _ => none
    | none => none
  | _ => none
theorem op_fa {s f off x} (h : fldOff E s f = some off) : WOp E G (.fieldAddr s x f) t a K = WVal (evalA t x) fun v => WVal (fieldAddrA v off) fun r => K r a := by
  unfold fldOff at h
  split at h
  · rename_i fs hu
    split at h
    · rename_i fd hf
      split at h
      · rename_i m hz
        cases h
        exact op_fieldAddr hu hf hz
      · cases h
    · cases h
  · cases h
theorem note_fa {s f x} {K : Note → Value → AW → Prop} : WNote E G (.fieldAddr s x f) t a K = WOp E G (.fieldAddr s x f) t a fun v b => K .none v b := note_pure rfl
def nilCheckA (v : Value) : Option Value := match v with
    | .pointer (some p) => some (.pointer (some p))
    | .func (.func f) fs cs => some (.func (.func f) fs cs)
    | .func (.yield f) fs cs => some (.func (.yield f) fs cs)
    | _ => none
theorem nilCheck_ptr {p} : nilCheckA (.pointer (some p)) = some (.pointer (some p)) := hide rfl
theorem nilCheck_func {f x y} : nilCheckA (.func (.func f) x y) = some (.func (.func f) x y) := hide rfl
theorem op_nilCheck {x} : WOp E G (.nilCheck x) t a K = WVal (evalA t x) fun v => WVal (nilCheckA v) fun r => K r a := by
  rw [op_pure rfl]
  simp only [pureA, oper]
  cases evalA t x with
  | none => rfl
  | some v =>
    cases v with
    | pointer p => cases p <;> rfl
    | func f x y => cases f <;> rfl
    | _ => rfl
theorem note_nilCheck {x} {K : Note → Value → AW → Prop} : WNote E G (.nilCheck x) t a K = WOp E G (.nilCheck x) t a fun v b => K .none v b := note_pure rfl
end
end
/- Loops. -/
section
open Go Go.RowKit
set_option linter.unusedVariables false
set_option linter.unusedSimpArgs false

section
variable {E : Program} {G : Gives} {fn : FuncId} {ro : Option Nat} {t : List Value} {ds : List Nat} {a : AW} {c : Code} {Q Q' : ExitA → List Value → List Nat → AW → Prop}
theorem code_weaken (h : WCode E G fn ro c t ds a Q) (hq : ∀ e t ds a, Q e t ds a → Q' e t ds a) : WCode E G fn ro c t ds a Q' := by
  obtain ⟨n, e, t', ds', b, h, q⟩ := h
  exact ⟨n, e, t', ds', b, h, hq _ _ _ _ q⟩
theorem call_weaken {f args} {K K' : Value → AW → Prop} (h : WCall E G f args a K) (hk : ∀ v b, K v b → K' v b) : WCall E G f args a K' := by
  obtain ⟨n, v, b, h, k⟩ := h
  exact ⟨n, v, b, h, hk _ _ k⟩
theorem round_weaken {f args} {K K' : Value → AW → Prop} (h : WRound E G f args a K) (hk : ∀ v b, K v b → K' v b) : WRound E G f args a K' := by
  obtain ⟨n, v, b, h, k⟩ := h
  exact ⟨n, v, b, h, hk _ _ k⟩
/-- A loop, by what holds each time it begins anew; the number falls. -/
theorem loop_inv (I : Nat → List Value → AW → Prop) {k : Nat} (h0 : I k t a)
    (step : ∀ k t a, I k t a → WCode E G fn ro c t ds a fun e t' ds' a' => onNormal e (ds' = ds ∧ ∃ k', k' < k ∧ I k' t' a') (Q e t' ds' a')) :
    WCode E G fn ro (.loop c) t ds a Q := by
  induction k using Nat.strongRecOn generalizing t a with
  | ind k ih =>
    rw [code_loop]
    refine code_weaken (step k t a h0) fun e t' ds' a' h => ?_
    cases e with
    | normal =>
      obtain ⟨rfl, k', hk, hi⟩ := h
      exact ih k' hk hi
    | _ => exact h
end
end
/- Lists that grow by append. -/
section
open Go Go.RowKit
set_option linter.unusedVariables false
set_option linter.unusedSimpArgs false

section
variable {α : Type}
/-- A list that a call of one's own has made by append: nil, or a block of its own. -/
def OutG (enc : α → List Value) (y : Nat) (h : List (Nat × Blk)) (n lo : Nat) (v : Value) (xs : List α) : Prop :=
  (v = .slice none 0 0 ∧ xs = []) ∨ ∃ b, v = .slice (some ⟨b, 0, some y⟩) xs.length xs.length ∧ xs ≠ [] ∧ look b h = some (.cells (xs.flatMap enc) true) ∧ lo ≤ b ∧ b < n
theorem flatMap_len {enc : α → List Value} {z : Nat} (he : ∀ x, (enc x).length = z) : ∀ (xs : List α), (xs.flatMap enc).length = xs.length * z
  | [] => by simp
  | x :: xs => by rw [List.flatMap_cons, List.length_append, he, flatMap_len he xs, List.length_cons, Nat.add_mul]; omega
variable {E : Program}
theorem app_one {enc : α → List Value} {t0 t1 : TypeId} {z y : Nat} (hk : appOk E t0 t1 z = true) (hz : z + 1 = y) (he : ∀ x, (enc x).length = z) (ho1 : ∀ x, (enc x).all Value.oneCell' = true)
    {h : List (Nat × Blk)} {n lo bs : Nat} {d : List Nat} {v : Value} {xs : List α} {x : α} {q : Addr} {cq : Nat} (ho : OutG enc y h n lo v xs) (hlo : lo ≤ n)
    (hq : cellsAt (look q.block h) q.off z = some (enc x)) (hl : xs.length + 1 ≤ 1000000) :
    ∃ v' h' d', builtinA E .append #[t0, t1] [v, .slice (some q) 1 cq] ⟨n, h, bs, d⟩ = some (v', ⟨n + 1, h', bs, d'⟩) ∧ OutG enc y h' (n + 1) lo v' (xs ++ [x]) ∧ (∀ j, j < lo → look j h' = look j h) ∧
      (d' = d ∨ ∃ b, lo ≤ b ∧ b < bs ∧ d.contains b = false ∧ d' = b :: d) := by
  rcases ho with ⟨rfl, rfl⟩ | ⟨b, rfl, hne, hb, h1, h2⟩
  · refine ⟨_, _, _, wp_append_nil (new := enc x) hk hz (by omega) (by omega) (by rw [get_mk, Nat.one_mul]; exact hq) (ho1 x), ?_, ?_, .inl rfl⟩
    · refine .inr ⟨n, by simp, by simp, ?_, by omega, by omega⟩
      simp [look]
    · intro j hj
      show look j ((n, _) :: h) = look j h
      exact look_miss (by omega)
  · have hlen := flatMap_len he xs
    have hw : cellsAt (AW.get ⟨n, h, bs, d⟩ b) 0 (xs.length * z) = some (xs.flatMap enc) := by
      rw [get_mk, hb, cellsAt_cells (by omega)]
      rw [List.drop_zero, ← hlen, List.take_length]
    have hap := wp_append_grown (E := E) (a := ⟨n, h, bs, d⟩) (o := 0) (len := xs.length) (cap := xs.length) (n := 1) (cq := cq) (q := q) hk hz (by omega) hl hw (by rw [get_mk, Nat.one_mul]; exact hq) (ho1 x)
    by_cases hbs : b < bs
    · cases hd : d.contains b with
      | true =>
        have hdr : AW.drop ⟨n, h, bs, d⟩ b = ⟨n, kill b h, bs, d⟩ := by
          have hd' : b ∈ d := by simpa using hd
          simp [AW.drop, AW.soil, hbs, hd']
        rw [hdr] at hap
        refine ⟨_, _, _, hap, .inr ⟨n, by simp, by simp, ?_, by omega, by omega⟩, ?_, .inl rfl⟩
        · simp [AW.new, look]
        · intro j hj
          simp only [AW.new]
          rw [look_miss (by omega), look_wkill_ne (by omega)]
      | false =>
        have hdr : AW.drop ⟨n, h, bs, d⟩ b = ⟨n, kill b h, bs, b :: d⟩ := by
          have hd' : ¬ b ∈ d := by simpa using hd
          simp [AW.drop, AW.soil, hbs, hd']
        rw [hdr] at hap
        refine ⟨_, _, _, hap, .inr ⟨n, by simp, by simp, ?_, by omega, by omega⟩, ?_, .inr ⟨b, h1, hbs, hd, rfl⟩⟩
        · simp [AW.new, look]
        · intro j hj
          simp only [AW.new]
          rw [look_miss (by omega), look_wkill_ne (by omega)]
    · rw [drop_own (by omega)] at hap
      refine ⟨_, _, _, hap, .inr ⟨n, by simp, by simp, ?_, by omega, by omega⟩, ?_, .inl rfl⟩
      · simp [AW.new, look]
      · intro j hj
        simp only [AW.new]
        rw [look_miss (by omega), look_wkill_ne (by omega)]
/-- A list that is handed back. -/
def ListR (enc : α → List Value) (y : Nat) (a : AW) (xs : List α) (v : Value) (w : AW) : Prop :=
  (xs = [] ∧ v = .slice none 0 0 ∧ w = a) ∨ (xs ≠ [] ∧ v = .slice (some ⟨a.next, 0, some y⟩) xs.length xs.length ∧ w = ⟨a.next + 1, (a.next, .cells (xs.flatMap enc) true) :: a.heap, a.base, a.dirty⟩)
theorem leave_list {enc : α → List Value} {y : Nat} {h : List (Nat × Blk)} {n lo bs : Nat} {v : Value} {xs : List α} {a : AW} (hf : ∀ x, (enc x).all flat = true) (ho : OutG enc y h n lo v xs) (hlo : a.next ≤ lo) :
    ∃ v' w, leaveA a [v] ⟨n, h, bs, []⟩ = ([v'], w) ∧ ListR enc y a xs v' w := by
  rcases ho with ⟨rfl, rfl⟩ | ⟨b, rfl, hne, hb, h1, h2⟩
  · exact ⟨_, _, leave_flat rfl, .inl ⟨rfl, rfl, rfl⟩⟩
  · have hall : (xs.flatMap enc).all flat = true := by
      rw [List.all_eq_true]
      intro u hu
      obtain ⟨x, _, hx⟩ := List.mem_flatMap.1 hu
      exact List.all_eq_true.1 (hf x) u hx
    exact ⟨_, _, leave_fresh (Nat.le_trans hlo h1) hb hall, .inr ⟨hne, rfl, rfl⟩⟩
theorem leave_list2 {enc : α → List Value} {y : Nat} {h : List (Nat × Blk)} {n lo bs : Nat} {v u : Value} {xs : List α} {a : AW} (hf : ∀ x, (enc x).all flat = true) (hu : flat u = true) (ho : OutG enc y h n lo v xs) (hlo : a.next ≤ lo) :
    ∃ v' w, leaveA a [v, u] ⟨n, h, bs, []⟩ = ([v', u], w) ∧ ListR enc y a xs v' w := by
  rcases ho with ⟨rfl, rfl⟩ | ⟨b, rfl, hne, hb, h1, h2⟩
  · exact ⟨_, _, leave_flat (by simp [hu]; rfl), .inl ⟨rfl, rfl, rfl⟩⟩
  · have hall : (xs.flatMap enc).all flat = true := by
      rw [List.all_eq_true]
      intro u hu
      obtain ⟨x, _, hx⟩ := List.mem_flatMap.1 hu
      exact List.all_eq_true.1 (hf x) u hx
    exact ⟨_, _, leave_fresh2 hu (Nat.le_trans hlo h1) hb hall, .inr ⟨hne, rfl, rfl⟩⟩
/-- A list that is read. -/
def ListV (enc : α → List Value) (h : List (Nat × Blk)) (n : Nat) (v : Value) (xs : List α) : Prop :=
  (v = .slice none 0 0 ∧ xs = []) ∨ ∃ b sp cap rw, v = .slice (some ⟨b, 0, sp⟩) xs.length cap ∧ look b h = some (.cells (xs.flatMap enc) rw) ∧ b < n
theorem ListR.read {enc : α → List Value} {y : Nat} {a w : AW} {xs : List α} {v : Value} (h : ListR enc y a xs v w) : ListV enc w.heap w.next v xs := by
  rcases h with ⟨rfl, rfl, rfl⟩ | ⟨hne, rfl, rfl⟩
  · exact .inl ⟨rfl, rfl⟩
  · exact .inr ⟨_, _, _, _, rfl, look_self, Nat.lt_succ_self _⟩
theorem ListR.frame {enc : α → List Value} {y : Nat} {a w : AW} {xs : List α} {v : Value} (h : ListR enc y a xs v w) : w.base = a.base ∧ w.dirty = a.dirty ∧ a.next ≤ w.next ∧ ∀ j, j < a.next → look j w.heap = look j a.heap := by
  rcases h with ⟨rfl, rfl, rfl⟩ | ⟨hne, rfl, rfl⟩
  · exact ⟨rfl, rfl, Nat.le_refl _, fun j _ => rfl⟩
  · exact ⟨rfl, rfl, Nat.le_succ _, fun j hj => look_miss (by omega)⟩
theorem ListV.len {enc : α → List Value} {h n v} {xs : List α} (hv : ListV enc h n v xs) : ∃ p c, v = .slice p xs.length c := by
  rcases hv with ⟨rfl, rfl⟩ | ⟨b, sp, cap, rw, rfl, _⟩
  · exact ⟨none, 0, rfl⟩
  · exact ⟨_, _, rfl⟩
theorem ListV.keep {enc : α → List Value} {h h' : List (Nat × Blk)} {n n' : Nat} {v : Value} {xs : List α} (hv : ListV enc h n v xs) (hn : n ≤ n') (hf : ∀ j, j < n → look j h' = look j h) : ListV enc h' n' v xs := by
  rcases hv with ⟨rfl, rfl⟩ | ⟨b, sp, cap, rw, rfl, hb, hl⟩
  · exact .inl ⟨rfl, rfl⟩
  · exact .inr ⟨_, _, _, _, rfl, by rw [hf b hl]; exact hb, by omega⟩
end
end
/- Slices of one part; what was touched. -/
section
open Go Go.RowKit
set_option linter.unusedVariables false
set_option linter.unusedSimpArgs false

section
variable {E : Program} {a : AW}
theorem buildSl1 {ty : TypeId} {n : Nat} (hk : slOk E ty n = true) (hb : n ≤ 16777216) {v : Value} (hv : v.cells.toList.length = n) : buildSl E ty 1 [(0, v)] a = some (.slice (some ⟨a.next, 0, some 0⟩) 1 1, a.new (.cells v.cells.toList true)) := by
  have := buildSl_seq (a := a) (len := 1) (vs := [v]) hk (by simpa using hv) rfl (by omega) (by omega) rfl
  simpa using this
theorem buildSl2 {ty : TypeId} {n : Nat} (hk : slOk E ty n = true) (hb : n ≤ 8388608) {v u : Value} (hv : v.cells.toList.length = n) (hu : u.cells.toList.length = n) : buildSl E ty 2 [(0, v), (1, u)] a = some (.slice (some ⟨a.next, 0, some 0⟩) 2 2, a.new (.cells (v.cells.toList ++ u.cells.toList) true)) := by
  have := buildSl_seq (a := a) (len := 2) (vs := [v, u]) hk (by simpa using ⟨hv, hu⟩) rfl (by omega) (by omega) rfl
  simpa using this
theorem buildSl0 {ty : TypeId} {e : TypeId × Nat} (hk : elemCells E ty = some e) : buildSl E ty 0 [] a = some (.slice (some ⟨a.next, 0, some 0⟩) 0 0, a.new (.cells [] true)) := by
  unfold buildSl
  rw [hk]
  simp
theorem soil_own {d : List Nat} {bs b : Nat} (h : bs ≤ b) : soilAll d bs [b] = d := by
  have : ¬ b < bs := by omega
  simp [soilAll, this]
end
end
/- Loops over functions. -/
section
open Go Go.RowKit
set_option linter.unusedVariables false
set_option linter.unusedSimpArgs false

def soilW (bs : Nat) (d : List Nat) (i : Nat) : List Nat := if i < bs then (if d.contains i then d else i :: d) else d
theorem write_soil {n h bs d i b} : AW.write ⟨n, h, bs, d⟩ i b = ⟨n, putAt i b h, bs, soilW bs d i⟩ := rfl
theorem drop_soil {n h bs d i} : AW.drop ⟨n, h, bs, d⟩ i = ⟨n, kill i h, bs, soilW bs d i⟩ := rfl
/-- All that was touched lies from here on. -/
def From (lo : Nat) (d : List Nat) : Prop := ∀ j ∈ d, lo ≤ j
theorem from_nil {lo} : From lo [] := by intro j hj; cases hj
theorem from_soil {lo bs d i} (h : From lo d) (hi : lo ≤ i) : From lo (soilW bs d i) := by
  unfold soilW
  split
  · split
    · exact h
    · intro j hj
      rcases List.mem_cons.1 hj with rfl | hj
      · exact hi
      · exact h j hj
  · exact h
theorem soil_from {d : List Nat} {bs : Nat} : ∀ {m : List Nat}, From bs m → soilAll d bs m = d := by
  intro m
  induction m with
  | nil => intro _; rfl
  | cons i m ih =>
    intro h
    have h1 := ih fun j hj => h j (by simp [hj])
    have h2 : ¬ i < bs := by have := h i (by simp); omega
    show (if i < bs then _ else soilAll d bs m) = d
    rw [if_neg h2, h1]
theorem leave_dirty {before : AW} {vs : List Value} {n h bs d} (hd : d ≠ []) (hf : From before.base d) : leaveA before vs ⟨n, h, bs, d⟩ = (vs, ⟨n, h, before.base, before.dirty⟩) := by
  cases d with
  | nil => exact absurd rfl hd
  | cons i d =>
    simp only [leaveA, List.isEmpty_cons, Bool.false_eq_true, if_false]
    rw [soil_from hf]
section
variable {E : Program} {G : Gives} {fn : FuncId} {t : List Value} {ds : List Nat} {a : AW} {Q : ExitA → List Value → List Nat → AW → Prop}
theorem code_range {g : Operand} {ps assign body} {f : FuncId} {first captured : Array Value} (hg : evalA t g = some (.func (.func f) first captured)) (hb : (E.funcs[f]?).any (fun fn => fn.body.isSome) = true)
    (h : WCall E G f (first.toList ++ [.func (.yield (a.next + 1)) #[] #[]] ++ captured.toList)
      ⟨a.next + 2, (a.next + 1, .obj (.loop { state := .ready, pending := none, fn, tmps := t.toArray, params := ps, assign, body, defers := a.next })) :: (a.next, .obj (.deferred (some []))) :: a.heap, a.base, a.dirty⟩
      fun _ b => ∃ r, look (a.next + 1) b.heap = some (.obj (.loop r)) ∧ r.state ≠ .busy ∧ r.pending = none ∧ Q .normal t (a.next :: ds) (b.write (a.next + 1) (.obj (.loop { r with state := .exhausted })))) :
    WCode E G fn none (.rangeFunc g ps assign body) t ds a Q := by
  obtain ⟨n, v, b, hc, r, h1, h2, h3, hq⟩ := h
  refine ⟨n + 1, _, _, _, _, ?_, hq⟩
  rw [codeA]
  simp only [hg]
  rw [if_neg (by rw [hb]; simp)]
  have e : (first ++ #[Value.func (.yield (a.new (.obj (.deferred (some [])))).next) #[] #[]] ++ captured : Array Value) = (first.toList ++ [Value.func (.yield (a.next + 1)) #[] #[]] ++ captured.toList).toArray := by
    simp [AW.new]
  have e2 : ((a.new (.obj (.deferred (some [])))).new (.obj (.loop { state := .ready, pending := none, fn, tmps := t.toArray, params := ps, assign, body, defers := a.next }))) = (⟨a.next + 2, (a.next + 1, .obj (.loop { state := .ready, pending := none, fn, tmps := t.toArray, params := ps, assign, body, defers := a.next })) :: (a.next, .obj (.deferred (some []))) :: a.heap, a.base, a.dirty⟩ : AW) := rfl
  rw [e, e2, hc]
  simp only
  have e3 : b.get (a.new (.obj (.deferred (some [])))).next = some (.obj (.loop r)) := h1
  rw [e3]
  simp only
  have e4 : (a.new (.obj (.deferred (some [])))).next = a.next + 1 := rfl
  · cases hs : r.state with
    | busy => exact absurd hs h2
    | _ => simp only [h3, e4, Nat.add_sub_cancel]
  · exact hg
theorem code_range' {g : Operand} {ps assign body} {f : FuncId} {first captured : Array Value} (hg : evalA t g = some (.func (.func f) first captured)) (hb : (E.funcs[f]?).any (fun fn => fn.body.isSome) = true)
    (h : ∀ r0 : Loop, r0 = { state := .ready, pending := none, fn, tmps := t.toArray, params := ps, assign, body, defers := a.next } → WCall E G f (first.toList ++ [.func (.yield (a.next + 1)) #[] #[]] ++ captured.toList)
      ⟨a.next + 2, (a.next + 1, .obj (.loop r0)) :: (a.next, .obj (.deferred (some []))) :: a.heap, a.base, a.dirty⟩
      fun _ b => ∃ r, look (a.next + 1) b.heap = some (.obj (.loop r)) ∧ r.state ≠ .busy ∧ r.pending = none ∧ Q .normal t (a.next :: ds) (b.write (a.next + 1) (.obj (.loop { r with state := .exhausted })))) :
    WCode E G fn none (.rangeFunc g ps assign body) t ds a Q := code_range hg hb (h _ rfl)
theorem bin_eql_func {ty x c f u w a b v} (hf : flat (.func f u w) = false) (hu : E.underlying ty = some (.func a b v)) : binA E .eql ty x (.const c) (.func f u w) .nilFunc = some (.bool false) := by
  rw [binA_eq rfl]; simp only [binA0, hf, Bool.false_and, Bool.false_eq_true, if_false, hu, nilEq, isConstO, Bool.or_true, if_true]
/-- One round of such a loop. -/
theorem round_rule {l : Nat} {args : List Value} {K : Value → AW → Prop} {r : Loop} (hg : look l a.heap = some (.obj (.loop r))) (hs : args.length = r.params.size)
    (h : WCode E G r.fn (some l) r.assign ((r.params.toList.zip args).foldl (fun t (d, v) => t.set d v) r.tmps.toList) [] a fun e t ds a => e = .normal ∧ ds = [] ∧ ∃ r1, look l a.heap = some (.obj (.loop r1)) ∧ r1.state = .ready ∧
      WCode E G r.fn (some l) r.body t [] (a.write l (.obj (.loop { r1 with state := .busy }))) fun e _ _ a => ∃ r2, look l a.heap = some (.obj (.loop r2)) ∧
        K (.bool (jumpOf e).isNone) (a.write l (.obj (.loop { r2 with state := if (jumpOf e).isNone then .ready else .done, pending := jumpOf e })))) :
    WRound E G l args a K := by
  obtain ⟨n, e, t1, ds1, a1, hc, rfl, rfl, r1, h1, h2, m, e2, t2, ds2, a2, hc2, r2, h3, hk⟩ := h
  refine ⟨max n m + 1, _, _, ?_, hk⟩
  rw [roundA.eq_def]
  have g1 : a.get l = some (.obj (.loop r)) := hg
  have g2 : a1.get l = some (.obj (.loop r1)) := h1
  have g3 : a2.get l = some (.obj (.loop r2)) := h3
  simp only [g1, List.size_toArray, hs, if_true, code_mono (Nat.le_max_left n m) hc, g2, h2, code_mono (Nat.le_max_right n m) hc2, g3]
end
end
/- Looking behind writes; deferred calls that are none. -/
section
open Go Go.RowKit
set_option linter.unusedVariables false

theorem look_wput_self {i x} : ∀ {h : List (Nat × Blk)}, look i (putAt i x h) = (look i h).map fun _ => x := by
  intro h
  induction h with
  | nil => rfl
  | cons p r ih =>
    obtain ⟨j, b⟩ := p
    by_cases hij : i = j
    · subst hij; rw [put_self, look_self, look_self]; rfl
    · rw [put_miss hij, look_miss hij, look_miss hij, ih]
def unwindG (b : Option Blk) (d : Nat) (ds : List Nat) (a : AW) : Option AW := match b with
  | some (.obj (.deferred (some []))) => unwindA ds (a.write d (.obj (.deferred none)))
  | _ => none
theorem unwind_cons {d ds a} : unwindA (d :: ds) a = unwindG (a.get d) d ds a := by
  rw [unwindA]
  rfl
theorem unwindG_none {d ds a} : unwindG (some (.obj (.deferred (some [])))) d ds a = unwindA ds (a.write d (.obj (.deferred none))) := hide rfl
section
variable {α : Type}
theorem leave_listK {enc : α → List Value} {y : Nat} {h : List (Nat × Blk)} {n lo bs : Nat} {v : Value} {xs : List α} {a : AW} {K : Value → AW → Prop} (hf : ∀ x, (enc x).all flat = true) (ho : OutG enc y h n lo v xs) (hlo : a.next ≤ lo) (hK : ∀ v w, ListR enc y a xs v w → K v w) :
    K (oneOf (leaveA a [v] ⟨n, h, bs, []⟩).1) (leaveA a [v] ⟨n, h, bs, []⟩).2 := by
  obtain ⟨v', w, e, hr⟩ := leave_list (bs := bs) hf ho hlo
  rw [e]
  exact hK _ _ hr
theorem leave_list2K {enc : α → List Value} {y : Nat} {h : List (Nat × Blk)} {n lo bs : Nat} {v u : Value} {xs : List α} {a : AW} {K : Value → AW → Prop} (hf : ∀ x, (enc x).all flat = true) (hu : flat u = true) (ho : OutG enc y h n lo v xs) (hlo : a.next ≤ lo) (hK : ∀ v w, ListR enc y a xs v w → K (.tuple #[v, u]) w) :
    K (oneOf (leaveA a [v, u] ⟨n, h, bs, []⟩).1) (leaveA a [v, u] ⟨n, h, bs, []⟩).2 := by
  obtain ⟨v', w, e, hr⟩ := leave_list2 (bs := bs) hf hu ho hlo
  rw [e]
  exact hK _ _ hr
theorem OutG.shape {enc : α → List Value} {y : Nat} {h : List (Nat × Blk)} {n lo : Nat} {v : Value} {xs : List α} (ho : OutG enc y h n lo v xs) : ∃ p c, v = .slice p xs.length c := by
  rcases ho with ⟨rfl, rfl⟩ | ⟨b, rfl, _⟩
  · exact ⟨none, 0, rfl⟩
  · exact ⟨_, _, rfl⟩
theorem OutG.keep {enc : α → List Value} {y : Nat} {h h' : List (Nat × Blk)} {n n' lo : Nat} {v : Value} {xs : List α} (ho : OutG enc y h n lo v xs) (hn : n ≤ n') (hh : ∀ j, lo ≤ j → j < n → look j h' = look j h) : OutG enc y h' n' lo v xs := by
  rcases ho with ho | ⟨b, e1, e2, e3, e4, e5⟩
  · exact .inl ho
  · exact .inr ⟨b, e1, e2, by rw [hh b e4 e5]; exact e3, e4, by omega⟩
end
end
/- From what a law's call answers to its row: the arguments, opened. -/
section
open Go Go.RowKit Go.ChangeShapes Go.WideShapes Go.ChangeAt Go.Joins Go.Deep
set_option linter.unusedVariables false

section
variable {P : Program}
theorem law_calls (hm : P.follows .mixedOrders = true) (hn : plainNames P = true) {f : FuncId} {fn : Func} (hf : P.funcs[f]? = some fn) (hb : fn.body.isSome = true) {args : List Value} (ha : args.all flat = true)
    (h : WCall P none_ f args empty fun v _ => v = .bool true) (w : World) : Calls P f args.toArray w fun e w' => e = .returned (.bool true) ∧ Below w.heap.size w w' := by
  obtain ⟨n, v, b, hc, rfl⟩ := h
  exact closed_calls hm hn (none_sound P) hf hb (by simpa using ha) hc rfl w
theorem bd_i64 {n : Int} (h : (Lit.int .i64 n).wf = true) : -9223372036854775808 ≤ n ∧ n ≤ 9223372036854775807 := by
  simp [Lit.wf, IntKind.min, IntKind.max, IntKind.signed, IntKind.bits] at h
  omega
theorem bd_u64 {n : Int} (h : (Lit.int .u64 n).wf = true) : 0 ≤ n ∧ n ≤ 18446744073709551615 := by
  simp [Lit.wf, IntKind.min, IntKind.max, IntKind.signed, IntKind.bits] at h
  omega
theorem bd_u32 {n : Int} (h : (Lit.int .u32 n).wf = true) : 0 ≤ n ∧ n ≤ 4294967295 := by
  simp [Lit.wf, IntKind.min, IntKind.max, IntKind.signed, IntKind.bits] at h
  omega
theorem bd_u16 {n : Int} (h : (Lit.int .u16 n).wf = true) : 0 ≤ n ∧ n ≤ 65535 := by
  simp [Lit.wf, IntKind.min, IntKind.max, IntKind.signed, IntKind.bits] at h
  omega
theorem bd_u8 {n : Int} (h : (Lit.int .u8 n).wf = true) : 0 ≤ n ∧ n ≤ 255 := by
  simp [Lit.wf, IntKind.min, IntKind.max, IntKind.signed, IntKind.bits] at h
  omega
end
section
variable {H : Type} {enc : TypeId × Value → H} {P : Program} {w : World} {base : Nat} {spare : Nat → Bool} {held : Bool}
/-- A struct of fields of one cell each, opened. -/
theorem open_agg {r : Reach} {b0 : Nat} {t : TypeId} {fs : Array Field} {v : Value} {d : DataW H} {p : List MemPlace} (hs : P.underlying t = some (.struct fs)) (hone : oneCellFields P fs = true) (hC : P.cellsOf t = fs.size)
    (hv : Value.okWide P w r b0 t v) (h : DataW.Trod enc P w base spare held t v d p) :
    ∃ cs : List Value, v = .agg cs.toArray ∧ cs.length = fs.size ∧ ∀ (i : Nat) (f : Field) (c : Value), fs[i]? = some f → cs[i]? = some c → ∃ y n, DataW.trod enc P w base spare held n f.type [c] = some y := by
  obtain ⟨cs, rfl, hsz⟩ := okWide_struct hs hv
  obtain ⟨fuel, hf⟩ := h
  obtain ⟨xs, n, _, _, hl, hlen, hx⟩ := DataW.trod_struct hs hf
  refine ⟨cs.toList, by simp, by simpa using hsz.trans hC, fun i f c hfi hci => ?_⟩
  obtain ⟨o, k⟩ := hone_of hone i f hfi
  have := hx i f hfi
  have hc : (cs.toList.drop f.offset).take (P.cellsOf f.type) = [c] := by
    rw [o, k]
    have hi : i < cs.toList.length := by
      rcases Nat.lt_or_ge i cs.toList.length with h | h
      · exact h
      · rw [List.getElem?_eq_none h] at hci; cases hci
    rw [List.drop_eq_getElem_cons hi]
    rw [List.getElem?_eq_getElem hi] at hci
    cases hci
    rfl
  have hcells : (Value.agg cs).cells.toList = cs.toList := rfl
  rw [hcells, hc] at this
  obtain ⟨hfs, _⟩ := Array.getElem?_eq_some_iff.1 hfi
  have hi2 : i < xs.length := by omega
  exact ⟨xs[i], n, by rw [this, List.getElem?_eq_getElem hi2]⟩
theorem one_int' {t : TypeId} {k : IntKind} {c : Value} (ht : P.underlying t = some (.int k)) (h : ∃ y n, DataW.trod enc P w base spare held n t [c] = some y) : ∃ x, c = .int k x ∧ (Lit.int k x).wf = true := by
  obtain ⟨y, n, h⟩ := h
  obtain ⟨x, e, _, hw⟩ := DataW.trod_int ht h
  simp at e
  exact ⟨x, e, hw⟩
theorem one_str' {t : TypeId} {c : Value} (ht : P.underlying t = some .string) (h : ∃ y n, DataW.trod enc P w base spare held n t [c] = some y) : ∃ x : ByteArray, c = .string x ∧ x.size ≤ maxLen := by
  obtain ⟨y, n, h⟩ := h
  obtain ⟨x, e, _, hw⟩ := DataW.trod_string ht h
  simp at e
  exact ⟨x, e, hw⟩
theorem list6 {α : Type} {l : List α} (h : l.length = 6) : ∃ a b c d e f, l = [a, b, c, d, e, f] := by
  match l, h with
  | [a, b, c, d, e, f], _ => exact ⟨a, b, c, d, e, f, rfl⟩
theorem list2 {α : Type} {l : List α} (h : l.length = 2) : ∃ a b, l = [a, b] := by
  match l, h with
  | [a, b], _ => exact ⟨a, b, rfl⟩
theorem list3 {α : Type} {l : List α} (h : l.length = 3) : ∃ a b c, l = [a, b, c] := by
  match l, h with
  | [a, b, c], _ => exact ⟨a, b, c, rfl⟩
theorem list4 {α : Type} {l : List α} (h : l.length = 4) : ∃ a b c d, l = [a, b, c, d] := by
  match l, h with
  | [a, b, c, d], _ => exact ⟨a, b, c, d, rfl⟩
theorem list5 {α : Type} {l : List α} (h : l.length = 5) : ∃ a b c d e, l = [a, b, c, d, e] := by
  match l, h with
  | [a, b, c, d, e], _ => exact ⟨a, b, c, d, e, rfl⟩
theorem str_of (s : ByteArray) : Value.string s = .string (mkStr (strOf s)) := rfl
end
end
/- A list put behind a list. -/
section
open Go Go.RowKit
set_option linter.unusedVariables false
set_option linter.unusedSimpArgs false

section
variable {α : Type} {E : Program}
theorem ListR.out {enc : α → List Value} {y : Nat} {a w : AW} {xs : List α} {v : Value} (h : ListR enc y a xs v w) : OutG enc y w.heap w.next a.next v xs := by
  rcases h with ⟨rfl, rfl, rfl⟩ | ⟨hne, rfl, rfl⟩
  · exact .inl ⟨rfl, rfl⟩
  · exact .inr ⟨_, rfl, hne, look_self, Nat.le_refl _, Nat.lt_succ_self _⟩
theorem OutG.read {enc : α → List Value} {y : Nat} {h : List (Nat × Blk)} {n lo : Nat} {v : Value} {xs : List α} (ho : OutG enc y h n lo v xs) : ListV enc h n v xs := by
  rcases ho with ho | ⟨b, e1, e2, e3, e4, e5⟩
  · exact .inl ho
  · exact .inr ⟨b, _, _, _, e1, e3, e5⟩
/-- What an append within the room there is answers. -/
theorem append_none {t0 t1 : TypeId} {z : Nat} (hk : appOk E t0 t1 z = true) {a : AW} {x : Value} (hn : lenA x = some 0) (hx : sliceCells z x a = some []) :
    builtinA E .append #[t0, t1] [.slice none 0 0, x] a = some (.slice none 0 0, a) := by
  unfold appOk appOkB at hk
  split at hk
  · rename_i e z' xd he hxd
    simp only [Bool.and_eq_true, beq_iff_eq] at hk
    obtain ⟨⟨⟨rfl, h1⟩, h2⟩, h3⟩ := hk
    show appendA E #[t0, t1] (.slice none 0 0) x a = _
    unfold appendA
    have e0 : (#[t0, t1] : Array TypeId)[0]? = some t0 := rfl
    have e1 : (#[t0, t1] : Array TypeId)[1]? = some t1 := rfl
    rw [e0, e1]
    simp only [he, hxd, hn]
    have f1 := firstA_all hn hx
    cases xd with
    | int k => cases h1
    | _ => simp [f1]
  · cases hk
theorem append_fit0 {t0 t1 : TypeId} {z : Nat} (hk : appOk E t0 t1 z = true) {a : AW} {x : Value} (hn : lenA x = some 0) (hx : sliceCells z x a = some []) {p : Addr} {len cap : Nat} (hc : len ≤ cap) {c : List Value} (hg : a.get p.block = some (.cells c true)) (hl : p.off + len * z ≤ c.length) :
    builtinA E .append #[t0, t1] [.slice (some p) len cap, x] a = some (.slice (some p) len cap, a.write p.block (.cells c true)) := by
  unfold appOk appOkB at hk
  split at hk
  · rename_i e z' xd he hxd
    simp only [Bool.and_eq_true, beq_iff_eq] at hk
    obtain ⟨⟨⟨rfl, h1⟩, h2⟩, h3⟩ := hk
    show appendA E #[t0, t1] (.slice (some p) len cap) x a = _
    unfold appendA
    have e0 : (#[t0, t1] : Array TypeId)[0]? = some t0 := rfl
    have e1 : (#[t0, t1] : Array TypeId)[1]? = some t1 := rfl
    rw [e0, e1]
    simp only [he, hxd, hn]
    have f1 := firstA_all hn hx
    have hst : a.storeN { p with off := p.off + len * z' } [] = some (a.write p.block (.cells c true)) := by
      simp only [AW.storeN, hg]
      rw [if_pos ⟨by simpa using hl, rfl⟩]
      simp
    cases xd with
    | int k => cases h1
    | _ => simp [f1, hc, hst]
  · cases hk
theorem app_list {enc : α → List Value} {t0 t1 : TypeId} {z y : Nat} (hk : appOk E t0 t1 z = true) (hz : z + 1 = y) (he : ∀ x, (enc x).length = z) (ho1 : ∀ x, (enc x).all Value.oneCell' = true)
    {h : List (Nat × Blk)} {n lo bs : Nat} {d : List Nat} {v x : Value} {xs ys : List α} (ho : OutG enc y h n lo v xs) (hy : ListV enc h n x ys) (hlo : lo ≤ n) (hbs : bs ≤ lo) (hl : xs.length + ys.length ≤ 1000000) :
    ∃ v' n' h', builtinA E .append #[t0, t1] [v, x] ⟨n, h, bs, d⟩ = some (v', ⟨n', h', bs, d⟩) ∧ OutG enc y h' n' lo v' (xs ++ ys) ∧ n ≤ n' ∧ (∀ j, j < lo → look j h' = look j h) := by
  have hflat := flatMap_len he
  have hall : ∀ l : List α, (l.flatMap enc).all Value.oneCell' = true := by
    intro l
    rw [List.all_eq_true]
    intro u hu
    obtain ⟨x, _, hx⟩ := List.mem_flatMap.1 hu
    exact List.all_eq_true.1 (ho1 x) u hx
  by_cases hys : ys = []
  · subst hys
    have hx0 : lenA x = some 0 ∧ sliceCells z x ⟨n, h, bs, d⟩ = some [] := by
      rcases hy with ⟨rfl, _⟩ | ⟨b, sp, cap, rw, rfl, hb, _⟩
      · exact ⟨rfl, rfl⟩
      · refine ⟨rfl, ?_⟩
        simp only [List.length_nil, sliceCells, get_mk, hb, Nat.zero_mul]
        rw [cellsAt_cells (by omega)]
        simp
    rcases ho with ⟨rfl, rfl⟩ | ⟨b, rfl, hne, hb, h1, h2⟩
    · exact ⟨_, n, h, append_none hk hx0.1 hx0.2, .inl ⟨rfl, rfl⟩, Nat.le_refl _, fun _ _ => rfl⟩
    · have hap := append_fit0 (E := E) (p := ⟨b, 0, some y⟩) (len := xs.length) (cap := xs.length) hk hx0.1 hx0.2 (Nat.le_refl _) (c := xs.flatMap enc) (by rw [get_mk]; exact hb) (by rw [hflat]; simp)
      rw [write_own (by simp only; omega)] at hap
      refine ⟨_, n, _, hap, .inr ⟨b, by simp, by simpa using hne, ?_, h1, h2⟩, Nat.le_refl _, fun j hj => look_wput_ne (by simp only; omega)⟩
      rw [look_wput_self, hb]
      simp
  · have hpos : 0 < ys.length := List.length_pos_iff.2 hys
    rcases hy with ⟨_, rfl⟩ | ⟨q, sp, cap, rw, rfl, hq, hqn⟩
    · exact absurd rfl hys
    · have hqc : cellsAt (AW.get ⟨n, h, bs, d⟩ q) 0 (ys.length * z) = some (ys.flatMap enc) := by
        rw [get_mk, hq, cellsAt_cells (by rw [hflat]; omega), List.drop_zero, ← hflat ys, List.take_length]
      rcases ho with ⟨rfl, rfl⟩ | ⟨b, rfl, hne, hb, h1, h2⟩
      · refine ⟨_, n + 1, (n, .cells (ys.flatMap enc) true) :: h, wp_append_nil (q := ⟨q, 0, sp⟩) (new := ys.flatMap enc) hk hz hpos (by simpa using hl) hqc (hall ys), ?_, by omega, ?_⟩
        · exact .inr ⟨n, by simp, by simpa using hys, by simp [look], by omega, by omega⟩
        · intro j hj
          show look j ((n, _) :: h) = look j h
          exact look_miss (by omega)
      · have hw : cellsAt (AW.get ⟨n, h, bs, d⟩ b) 0 (xs.length * z) = some (xs.flatMap enc) := by
          rw [get_mk, hb, cellsAt_cells (by rw [hflat]; omega), List.drop_zero, ← hflat xs, List.take_length]
        have hap := wp_append_grown (E := E) (a := ⟨n, h, bs, d⟩) (o := 0) (len := xs.length) (cap := xs.length) (n := ys.length) (cq := cap) (q := ⟨q, 0, sp⟩) hk hz (by omega) hl hw hqc (hall ys)
        rw [drop_own (by omega)] at hap
        refine ⟨_, n + 1, (n, .cells (xs.flatMap enc ++ ys.flatMap enc) true) :: kill b h, hap, .inr ⟨n, by simp, by simp [hne], by simp [look], by omega, by omega⟩, by omega, ?_⟩
        intro j hj
        show look j ((n, _) :: kill b h) = look j h
        rw [look_miss (by omega), look_wkill_ne (by omega)]
end
end
/- A list of so many, written out. -/
section
open Go Go.RowKit
set_option linter.unusedVariables false

theorem expand {t : List Value} {n : Nat} (h : t.length = n) : t = (List.range n).map (getT t) := by
  subst h
  refine List.ext_getElem? fun i => ?_
  by_cases hi : i < t.length
  · rw [List.getElem?_map, List.getElem?_range hi, List.getElem?_eq_getElem hi]
    simp [getT, hi]
  · rw [List.getElem?_eq_none (by omega), List.getElem?_eq_none (by simp; omega)]
end
/- Bools, compared. -/
section
open Go Go.RowKit
set_option linter.unusedVariables false

section
variable {P : Program} {t : TypeId} {x y : Operand} {a b : Bool}
theorem bin_eql_bool (h : P.underlying t = some .bool) : binA P .eql t x y (.bool a) (.bool b) = some (.bool (decide (a = b))) := by
  have h1 : binA P .eql t x y (.bool a) (.bool b) = prunF P (do eqGuard .eql t x y (.bool a) (.bool b); binOp .eql t (.bool a) (.bool b)) := rfl
  have h2 : prun P (binOp .eql t (.bool a) (.bool b)) = some (.bool (decide (a = b))) := by
    have : binOp .eql t (.bool a) (.bool b) = (do pure (.bool (← Op.equal t (.bool a) (.bool b)))) := rfl
    rw [this, prun_bind]
    have : prun P (Op.equal t (.bool a) (.bool b)) = some (decide (a = b)) := eq_bool (d := 9999) h
    rw [this]; rfl
  rw [h1, prunF, prun_bind]
  have h3 : prun P (eqGuard .eql t x y (.bool a) (.bool b)) = some () := rfl
  rw [h3, Option.bind_some, h2]
  rfl
theorem bin_neq_bool (h : P.underlying t = some .bool) : binA P .neq t x y (.bool a) (.bool b) = some (.bool (!decide (a = b))) := by
  have h1 : binA P .neq t x y (.bool a) (.bool b) = prunF P (do eqGuard .neq t x y (.bool a) (.bool b); binOp .neq t (.bool a) (.bool b)) := rfl
  have h2 : prun P (binOp .neq t (.bool a) (.bool b)) = some (.bool (!decide (a = b))) := by
    have : binOp .neq t (.bool a) (.bool b) = (do pure (.bool (!(← Op.equal t (.bool a) (.bool b))))) := rfl
    rw [this, prun_bind]
    have : prun P (Op.equal t (.bool a) (.bool b)) = some (decide (a = b)) := eq_bool (d := 9999) h
    rw [this]; rfl
  rw [h1, prunF, prun_bind]
  have h3 : prun P (eqGuard .neq t x y (.bool a) (.bool b)) = some () := rfl
  rw [h3, Option.bind_some, h2]
  rfl
end
end
/- Calls that are given; functions without a text; bits; floats compared. -/
section
open Go Go.RowKit
set_option linter.unusedVariables false
set_option linter.unusedSimpArgs false

section
variable {E : Program} {G : Gives}
theorem call_given {f : FuncId} {args : List Value} {a w : AW} {v : Value} {K : Value → AW → Prop} (h : given G f args.toArray a = some (v, w)) : WCall E G f args a K = K v w := by
  refine propext ⟨?_, fun hk => ⟨1, v, w, by rw [callA]; simp only [h], hk⟩⟩
  rintro ⟨n, u, b, hc, hk⟩
  cases n with
  | zero => simp [callA] at hc
  | succ n =>
    rw [callA] at hc
    simp only [h, Option.some.injEq, Prod.mk.injEq] at hc
    obtain ⟨rfl, rfl⟩ := hc
    exact hk
theorem call_extern {f : FuncId} {fn : Func} (hf : E.funcs[f]? = some fn) (hb : fn.body = none) {args : List Value} {a : AW} {v : Value} {K : Value → AW → Prop} (hG : given G f args.toArray a = none) (h : externA E fn args.toArray a = some (v, a)) :
    WCall E G f args a K = K v a := by
  refine propext ⟨?_, fun hk => ⟨1, v, a, by rw [callA]; simp only [hG, hf, hb, h], hk⟩⟩
  rintro ⟨n, u, b, hc, hk⟩
  cases n with
  | zero => simp [callA] at hc
  | succ n =>
    rw [callA] at hc
    simp only [hG, hf, hb, h, Option.some.injEq, Prod.mk.injEq] at hc
    obtain ⟨rfl, rfl⟩ := hc
    exact hk
theorem call_body' {f : FuncId} {fn : Func} {c : Code} {m : Nat} {rs : List ResultVar} (hf : E.funcs[f]? = some fn) (hb : fn.body = some c) (hm : fn.ntmps = m) (hr : fn.results = rs.toArray) {args : List Value} {a : AW} {K : Value → AW → Prop} (hG : given G f args.toArray a = none) :
    WCall E G f args a K = WCode E G f none c (args ++ List.replicate (m - args.length) undef) [] ⟨a.next, a.heap, a.next, []⟩ fun e t ds b => WRet E a rs e t ds b K := by
  obtain rfl : fn.results.toList = rs := by rw [hr]
  subst hm
  refine propext ⟨?_, ?_⟩
  · rintro ⟨n, v, b, h, hk⟩
    cases n with
    | zero => simp [callA] at h
    | succ n =>
      rw [callA] at h
      simp only [hG, hf, hb, List.size_toArray] at h
      split at h
      · rename_i e t1 ds1 a1 hc
        refine ⟨n, _, _, _, _, hc, ?_⟩
        cases e with
        | normal =>
          simp only at h
          rw [WRet_normal]
          split at h
          · rename_i a2 hu
            rw [hu, WVal_some]
            split at h
            · rename_i vs hr
              rw [hr, WVal_some]
              simp only [Option.some.injEq, Prod.mk.injEq] at h
              obtain ⟨rfl, rfl⟩ := h
              exact hk
            · cases h
          · cases h
        | ret =>
          simp only at h
          rw [WRet_ret]
          split at h
          · rename_i a2 hu
            rw [hu, WVal_some]
            split at h
            · rename_i vs hr
              rw [hr, WVal_some]
              simp only [Option.some.injEq, Prod.mk.injEq] at h
              obtain ⟨rfl, rfl⟩ := h
              exact hk
            · cases h
          · cases h
        | _ => cases h
      · cases h
  · rintro ⟨n, e, t1, ds1, a1, hc, hr⟩
    cases e with
    | normal =>
      rw [WRet_normal] at hr
      cases hu : unwindA ds1 a1 with
      | none => rw [hu] at hr; exact hr.elim
      | some a2 =>
        rw [hu, WVal_some] at hr
        cases hv : resultsA E a2 t1 fn.results.toList with
        | none => rw [hv] at hr; exact hr.elim
        | some vs =>
          rw [hv, WVal_some] at hr
          exact ⟨n + 1, _, _, by rw [callA]; simp only [hG, hf, hb, List.size_toArray, hc, hu, hv], hr⟩
    | ret =>
      rw [WRet_ret] at hr
      cases hu : unwindA ds1 a1 with
      | none => rw [hu] at hr; exact hr.elim
      | some a2 =>
        rw [hu, WVal_some] at hr
        cases hv : resultsA E a2 t1 fn.results.toList with
        | none => rw [hv] at hr; exact hr.elim
        | some vs =>
          rw [hv, WVal_some] at hr
          exact ⟨n + 1, _, _, by rw [callA]; simp only [hG, hf, hb, List.size_toArray, hc, hu, hv], hr⟩
    | _ => exact hr.elim
end
section
variable {P : Program} {t : TypeId} {x y : Operand} {k j : IntKind} {u v : Int}
theorem bin_shr (h : 0 ≤ v) : binA P .shr t x y (.int k u) (.int j v) = some (.int k (u.fdiv (2 ^ (min v.toNat k.bits)))) := by
  have : binA P .shr t x y (.int k u) (.int j v) = prunF P (Op.shift .shr k u j v) := rfl
  rw [this]; unfold Op.shift; rw [if_neg (by omega)]; rfl
theorem bin_shl (h : 0 ≤ v) : binA P .shl t x y (.int k u) (.int j v) = some (.int k (k.wrap (u * 2 ^ (min v.toNat k.bits)))) := by
  have : binA P .shl t x y (.int k u) (.int j v) = prunF P (Op.shift .shl k u j v) := rfl
  rw [this]; unfold Op.shift; rw [if_neg (by omega)]; rfl
theorem bin_xor : binA P .xor t x y (.int k u) (.int k v) = some (.int k (k.wrap ((BitVec.ofInt k.bits u ^^^ BitVec.ofInt k.bits v).toNat))) := by cases k <;> rfl
theorem bin_and : binA P .and t x y (.int k u) (.int k v) = some (.int k (k.wrap ((BitVec.ofInt k.bits u &&& BitVec.ofInt k.bits v).toNat))) := by cases k <;> rfl
theorem bin_or : binA P .or t x y (.int k u) (.int k v) = some (.int k (k.wrap ((BitVec.ofInt k.bits u ||| BitVec.ofInt k.bits v).toNat))) := by cases k <;> rfl
end
section
variable {P : Program} {t : TypeId} {x y : Operand} {k : FloatKind} {u v : Nat}
theorem flt_lss : binA P .lss t x y (.float k u) (.float k v) = some (.bool (k.format.order u v == some .lt)) := by cases k <;> rfl
theorem flt_leq : binA P .leq t x y (.float k u) (.float k v) = some (.bool (k.format.order u v == some .lt || k.format.order u v == some .eq)) := by cases k <;> rfl
theorem flt_gtr : binA P .gtr t x y (.float k u) (.float k v) = some (.bool (k.format.order u v == some .gt)) := by cases k <;> rfl
theorem flt_geq : binA P .geq t x y (.float k u) (.float k v) = some (.bool (k.format.order u v == some .gt || k.format.order u v == some .eq)) := by cases k <;> rfl
theorem flt_eql : binA P .eql t x y (.float k u) (.float k v) = some (.bool (k.format.order u v == some .eq)) := by cases k <;> rfl
theorem flt_neq : binA P .neq t x y (.float k u) (.float k v) = some (.bool (k.format.order u v != some .eq)) := by cases k <;> rfl
end
theorem law_calls_memo {P : Program} (hm : P.follows .mixedOrders = true) (hn : plainNames P = true) {l : List Known} (hl : ∀ k ∈ l, k.Holds P) {f : FuncId} {fn : Func} (hf : P.funcs[f]? = some fn) (hb : fn.body.isSome = true) {args : List Value} (ha : args.all flat = true)
    (h : WCall P (memo l) f args empty fun v _ => v = .bool true) (w : World) : Calls P f args.toArray w fun e w' => e = .returned (.bool true) ∧ Below w.heap.size w w' := by
  obtain ⟨n, v, b, hc, rfl⟩ := h
  exact closed_calls hm hn (memo_sound hn hl) hf hb (by simpa using ha) hc rfl w
end
/- Arguments that are slices: blocks that are read only. -/
section
open Go Go.RowKit Go.ChangeShapes Go.WideShapes Go.ChangeAt Go.Joins Go.Deep
set_option linter.unusedVariables false

/-- A memory that holds arguments: all of it read only. -/
structure InRel (ρ : Ren) (a : AW) (W : World) : Prop where
  rel : WRel ρ a W
  ro : ∀ i I, ρ i = some I → I.rw = false
  base : a.base ≤ a.next
theorem in_empty (W : World) : InRel noRen empty W := ⟨rel_empty W, fun i I h => (by cases h), Nat.le_refl _⟩
theorem in_block {ρ : Ren} {a : AW} {W : World} (h : InRel ρ a W) {b off : Nat} {c' : Array Value} {e : TypeId} {fr : Nat × Nat} {cs : List Value} (hb : W.heap[b]? = some (.cells c' e fr))
    (hc : ∀ (j : Nat) v, cs[j]? = some v → ∃ v', c'[j + off]? = some v' ∧ VRel ρ a.next v v') :
    InRel (upd ρ a.next (some ⟨b, off, 0, false, false⟩)) ⟨a.next + 1, (a.next, .cells cs false) :: a.heap, a.base, a.dirty⟩ W ∧ Ext ρ a.next (upd ρ a.next (some ⟨b, off, 0, false, false⟩)) (a.next + 1) := by
  have hx : Ext ρ a.next (upd ρ a.next (some ⟨b, off, 0, false, false⟩)) (a.next + 1) := ext_new h.rel _
  have hlt : ∀ i I, ρ i = some I → i < a.next := h.rel.lt
  refine ⟨⟨⟨.cons (Nat.lt_succ_self _) h.rel.falls, fun i I e => ?_, fun i I e => ?_, fun i b0 e => ?_, fun i j I J e1 e2 _ => ?_⟩, fun i I e => ?_, by have := h.base; simp only; omega⟩, hx⟩
  · simp only [upd] at e
    split at e
    · rename_i hi; simp only; omega
    · have := hlt i I e; simp only; omega
  · simp only [upd] at e
    split at e
    · rename_i hi
      cases e
      refine ⟨.cells cs false, .cells c' e fr, by rw [get_mk, hi, look_self], hb, .cells (I := ⟨b, off, 0, false, false⟩) (fun j v ej => ?_) (fun hf => by cases hf)⟩
      obtain ⟨v', e1, e2⟩ := hc j v ej
      exact ⟨v', e1, e2.mono hx⟩
    · obtain ⟨b1, o1, e1, e2, e3⟩ := h.rel.blk i I e
      have := hlt i I e
      exact ⟨b1, o1, by rw [get_mk, look_miss (by omega)]; exact e1, e2, e3.mono hx⟩
  · by_cases hi : i = a.next
    · exact ⟨⟨b, off, 0, false, false⟩, by simp only [upd, hi, if_true]⟩
    · rw [get_mk, look_miss hi] at e
      obtain ⟨I, eI⟩ := h.rel.has i b0 e
      exact ⟨I, by simp only [upd, hi, if_false]; exact eI⟩
  · right
    have hh : ∀ i I, upd ρ a.next (some ⟨b, off, 0, false, false⟩) i = some I → I.rw = false := by
      intro i I e
      simp only [upd] at e
      split at e
      · cases e; rfl
      · exact h.ro i I e
    exact ⟨hh _ _ e1, hh _ _ e2⟩
  · simp only [upd] at e
    split at e
    · cases e; rfl
    · exact h.ro i I e
/-- A number is passed over. -/
theorem in_pass {ρ : Ren} {a : AW} {W : World} (h : InRel ρ a W) : InRel ρ ⟨a.next + 1, a.heap, a.base, a.dirty⟩ W ∧ Ext ρ a.next ρ (a.next + 1) :=
  ⟨⟨(step_pass h.rel).rel, h.ro, Nat.le_succ_of_le h.base⟩, (step_pass h.rel).ext⟩
section
variable {P : Program}
theorem law_calls_in (hm : P.follows .mixedOrders = true) (hn : plainNames P = true) {G : Gives} (hG : G.Sound P) {f : FuncId} {fn : Func} (hf : P.funcs[f]? = some fn) (hb : fn.body.isSome = true) {ρ : Ren} {a : AW} {W : World} (hin : InRel ρ a W) {args args' : List Value} (ha : LRel ρ a.next args args')
    (h : WCall P G f args a fun v _ => v = .bool true) : Calls P f args'.toArray W fun e w' => e = .returned (.bool true) ∧ Below W.heap.size W w' := by
  obtain ⟨n, v, b, hc, rfl⟩ := h
  obtain ⟨_, sim⟩ := sound hm hn hG n f args.toArray a _ b hc hin.base
  have hent := names_enter hn hf hb args'.toArray W
  rcases sim ρ W args'.toArray hin.rel (by simpa using ha) with ⟨v1, w1, e1, _⟩ | ⟨_, hcl⟩
  · rw [hent] at e1; cases e1
  · refine hcl.mono fun e w' hh => ?_
    obtain ⟨v', rfl, ρ', st, hr⟩ := hh
    cases hr
    exact ⟨rfl, st.os, st.tape, st.output, st.size, fun k hk => st.frame k hk fun i I e hrw => by rw [hin.ro i I e] at hrw; cases hrw⟩
end
section
variable {E : Program} {α : Type}
theorem soilW_past {bs : Nat} {d : List Nat} {i : Nat} (h : bs ≤ i) : soilW bs d i = d := by
  have : ¬ i < bs := by omega
  simp [soilW, this]
/-- A copy of a list: what is put behind an empty one that was made. -/
theorem app_own {enc : α → List Value} {t0 t1 : TypeId} {z y : Nat} (hk : appOk E t0 t1 z = true) (hz : z + 1 = y) (he : ∀ x, (enc x).length = z) (ho1 : ∀ x, (enc x).all Value.oneCell' = true)
    {h : List (Nat × Blk)} {n bs : Nat} {d : List Nat} {x : Value} {ys : List α} (hy : ListV enc h n x ys) (hbs : bs ≤ n) (hl : ys.length ≤ 1000000) :
    ∃ b sp n' h', builtinA E .append #[t0, t1] [.slice (some ⟨n, 0, some 0⟩) 0 0, x] ⟨n + 1, (n, .cells [] true) :: h, bs, d⟩ = some (.slice (some ⟨b, 0, sp⟩) ys.length ys.length, ⟨n', h', bs, d⟩) ∧ look b h' = some (.cells (ys.flatMap enc) true) ∧ n ≤ b ∧ b < n' ∧ (∀ j, j < n → look j h' = look j h) := by
  have hflat := flatMap_len he
  have hall : ∀ l : List α, (l.flatMap enc).all Value.oneCell' = true := by
    intro l
    rw [List.all_eq_true]
    intro u hu
    obtain ⟨x, _, hx⟩ := List.mem_flatMap.1 hu
    exact List.all_eq_true.1 (ho1 x) u hx
  have hself : look n ((n, Blk.cells [] true) :: h) = some (.cells [] true) := look_self
  have hnb : ∀ {b : Nat} {bl}, look b h = some bl → b < n → look b ((n, Blk.cells [] true) :: h) = some bl := by
    intro b bl hb hlt; rw [look_miss (by omega)]; exact hb
  by_cases hys : ys = []
  · subst hys
    have hx0 : lenA x = some 0 ∧ sliceCells z x ⟨n + 1, (n, .cells [] true) :: h, bs, d⟩ = some [] := by
      rcases hy with ⟨rfl, _⟩ | ⟨b, sp, cap, rw, rfl, hb, hbn⟩
      · exact ⟨rfl, rfl⟩
      · refine ⟨rfl, ?_⟩
        simp only [List.length_nil, sliceCells, get_mk, hnb hb hbn, Nat.zero_mul]
        rw [cellsAt_cells (by omega)]
        simp
    have hap := append_fit0 (E := E) (p := ⟨n, 0, some 0⟩) (len := 0) (cap := 0) hk hx0.1 hx0.2 (Nat.le_refl _) (c := []) (by rw [get_mk]; exact hself) (by simp)
    rw [write_soil, soilW_past (by simp only; omega)] at hap
    refine ⟨n, some 0, _, _, hap, ?_, Nat.le_refl _, Nat.lt_succ_self _, fun j hj => ?_⟩
    · rw [look_wput_self, hself]; rfl
    · rw [look_wput_ne (by simp only; omega), look_miss (by omega)]
  · have hpos : 0 < ys.length := List.length_pos_iff.2 hys
    rcases hy with ⟨_, rfl⟩ | ⟨q, sp, cap, rw, rfl, hq, hqn⟩
    · exact absurd rfl hys
    · have hqc : cellsAt (AW.get ⟨n + 1, (n, .cells [] true) :: h, bs, d⟩ q) 0 (ys.length * z) = some (ys.flatMap enc) := by
        rw [get_mk, hnb hq hqn, cellsAt_cells (by rw [hflat]; omega), List.drop_zero, ← hflat ys, List.take_length]
      have hw : cellsAt (AW.get ⟨n + 1, (n, .cells [] true) :: h, bs, d⟩ n) 0 (0 * z) = some [] := by
        rw [get_mk, hself, cellsAt_cells (by simp)]; simp
      have hap := wp_append_made (E := E) (a := ⟨n + 1, (n, .cells [] true) :: h, bs, d⟩) (o := 0) (len := 0) (cap := 0) (n := ys.length) (cq := cap) (q := ⟨q, 0, sp⟩) hk hz (by omega) (by omega) hw hqc (hall ys)
      rw [Nat.zero_add, List.nil_append] at hap
      refine ⟨n + 1, _, _, _, hap, look_self, by omega, Nat.lt_succ_self _, fun j hj => ?_⟩
      show look j ((n + 1, _) :: (n, _) :: h) = look j h
      rw [look_miss (by omega), look_miss (by omega)]
/-- .. however long it is. -/
theorem app_ownB {B : Nat} {enc : α → List Value} {t0 t1 : TypeId} {z y : Nat} (hk : appOk E t0 t1 z = true) (hkB : appOkB B E t0 t1 z = true) (hz : z + 1 = y) (he : ∀ x, (enc x).length = z) (ho1 : ∀ x, (enc x).all Value.oneCell' = true)
    {h : List (Nat × Blk)} {n bs : Nat} {d : List Nat} {x : Value} {ys : List α} (hy : ListV enc h n x ys) (hbs : bs ≤ n) (hl : (ys.length + ys.length / 2 + 1000) * B ≤ 281474976710656) (hl2 : ys.length ≤ 4611686018427387904) :
    ∃ b sp n' h', builtinA E .append #[t0, t1] [.slice (some ⟨n, 0, some 0⟩) 0 0, x] ⟨n + 1, (n, .cells [] true) :: h, bs, d⟩ = some (.slice (some ⟨b, 0, sp⟩) ys.length ys.length, ⟨n', h', bs, d⟩) ∧ look b h' = some (.cells (ys.flatMap enc) true) ∧ n ≤ b ∧ b < n' ∧ (∀ j, j < n → look j h' = look j h) := by
  have hflat := flatMap_len he
  have hall : ∀ l : List α, (l.flatMap enc).all Value.oneCell' = true := by
    intro l
    rw [List.all_eq_true]
    intro u hu
    obtain ⟨x, _, hx⟩ := List.mem_flatMap.1 hu
    exact List.all_eq_true.1 (ho1 x) u hx
  have hself : look n ((n, Blk.cells [] true) :: h) = some (.cells [] true) := look_self
  have hnb : ∀ {b : Nat} {bl}, look b h = some bl → b < n → look b ((n, Blk.cells [] true) :: h) = some bl := by
    intro b bl hb hlt; rw [look_miss (by omega)]; exact hb
  by_cases hys : ys = []
  · subst hys
    have hx0 : lenA x = some 0 ∧ sliceCells z x ⟨n + 1, (n, .cells [] true) :: h, bs, d⟩ = some [] := by
      rcases hy with ⟨rfl, _⟩ | ⟨b, sp, cap, rw, rfl, hb, hbn⟩
      · exact ⟨rfl, rfl⟩
      · refine ⟨rfl, ?_⟩
        simp only [List.length_nil, sliceCells, get_mk, hnb hb hbn, Nat.zero_mul]
        rw [cellsAt_cells (by omega)]
        simp
    have hap := append_fit0 (E := E) (p := ⟨n, 0, some 0⟩) (len := 0) (cap := 0) hk hx0.1 hx0.2 (Nat.le_refl _) (c := []) (by rw [get_mk]; exact hself) (by simp)
    rw [write_soil, soilW_past (by simp only; omega)] at hap
    refine ⟨n, some 0, _, _, hap, ?_, Nat.le_refl _, Nat.lt_succ_self _, fun j hj => ?_⟩
    · rw [look_wput_self, hself]; rfl
    · rw [look_wput_ne (by simp only; omega), look_miss (by omega)]
  · have hpos : 0 < ys.length := List.length_pos_iff.2 hys
    rcases hy with ⟨_, rfl⟩ | ⟨q, sp, cap, rw, rfl, hq, hqn⟩
    · exact absurd rfl hys
    · have hqc : cellsAt (AW.get ⟨n + 1, (n, .cells [] true) :: h, bs, d⟩ q) 0 (ys.length * z) = some (ys.flatMap enc) := by
        rw [get_mk, hnb hq hqn, cellsAt_cells (by rw [hflat]; omega), List.drop_zero, ← hflat ys, List.take_length]
      have hw : cellsAt (AW.get ⟨n + 1, (n, .cells [] true) :: h, bs, d⟩ n) 0 (0 * z) = some [] := by
        rw [get_mk, hself, cellsAt_cells (by simp)]; simp
      have hap := append_coreB (E := E) (a := ⟨n + 1, (n, .cells [] true) :: h, bs, d⟩) (base := some ⟨n, 0, some 0⟩) (len := 0) (cap := 0) (n := ys.length) (x := .slice (some ⟨q, 0, sp⟩) ys.length cap) hkB rfl (sliceCells_eq.trans hqc) (sliceCells_eq.trans hw) (by omega) (by rw [Nat.zero_add]; exact hl) (by omega) (hall ys)
      rw [Nat.zero_add, List.nil_append] at hap
      subst hz
      simp only [grown, if_true] at hap
      refine ⟨n + 1, _, _, _, hap, look_self, by omega, Nat.lt_succ_self _, fun j hj => ?_⟩
      show look j ((n + 1, _) :: (n, _) :: h) = look j h
      rw [look_miss (by omega), look_miss (by omega)]
end
section
variable {H : Type} {enc0 : TypeId × Value → H} {P : Program} {W : World} {held : Bool}
/-- A list of flat elements, opened. -/
theorem open_flats {α : Type} [Inhabited α] (enc : α → List Value) (Good : α → Prop) {r : Reach} {b0 : Nat} {t e : TypeId} {z : Nat} {v : Value} {d : DataW H} {p : List MemPlace} (ht : P.underlying t = some (.slice e)) (hz : P.cellsOf e = z)
    (hflat : ∀ x, (enc x).all flat = true) (hlen : ∀ x, (enc x).length = z)
    (hel : ∀ cs n y, DataW.trod enc0 P W 0 (fun _ => true) held n e cs = some y → ∃ x, cs = enc x ∧ Good x)
    (hv : Value.okWide P W r b0 t v) (h : DataW.Trod enc0 P W 0 (fun _ => true) held t v d p) {ρ : Ren} {a : AW} (hin : InRel ρ a W) :
    ∃ (xs : List α) (v0 : Value) (ρ' : Ren) (a' : AW), (∀ x ∈ xs, Good x) ∧ InRel ρ' a' W ∧ Ext ρ a.next ρ' a'.next ∧ VRel ρ' a'.next v0 v ∧ ListV enc a'.heap a'.next v0 xs ∧ a.next ≤ a'.next ∧ (∀ j, j < a.next → look j a'.heap = look j a.heap) := by
  obtain ⟨a0, len, cap, rfl⟩ := okWide_slice ht hv
  obtain ⟨fuel, hf⟩ := h
  rcases open_slice ht hf with ⟨e0, _⟩ | ⟨q, len', cap', m, n, D, Pl, e0, hb, hl, hcap, hm, hd, hx⟩
  · have e1 : (Value.slice a0 len cap).cells.toList = [.slice a0 len cap] := rfl
    rw [e1] at e0
    cases e0
    exact ⟨[], .slice none 0 0, ρ, a, fun x hx => (by cases hx), hin, .refl _ _, .sliceNil 0 0, .inl ⟨rfl, rfl⟩, Nat.le_refl _, fun _ _ => rfl⟩
  · have e1 : (Value.slice a0 len cap).cells.toList = [.slice a0 len cap] := rfl
    rw [e1] at e0
    cases e0
    have hhas : W.has P r b0 q e cap := by
      simp only [Value.okWide, ht, Cell.okWide, Cell.ok] at hv
      exact hv.2.2
    obtain ⟨hlets, hspot, row, cells, hshape, _⟩ := hhas
    simp only [if_true] at hm
    subst hm
    obtain ⟨qb, qo, qs⟩ := q
    simp only at hspot
    subst hspot
    obtain ⟨c', e', fr, hblk⟩ : ∃ c' e' fr, W.heap[qb]? = some (.cells c' e' fr) := by
      simp only [World.shape?] at hshape
      split at hshape
      · rename_i c e f hh; exact ⟨c, e, f, hh⟩
      · cases hshape
    have each : ∀ i, i < len → ∃ x : α, Good x ∧ ∀ j, j < z → c'[qo + i * z + j]? = (enc x)[j]? := by
      intro i hi
      obtain ⟨cs', h1, h2⟩ := hx i (by omega)
      obtain ⟨x, rfl, hg⟩ := hel _ _ _ h2
      rw [hz] at h1
      obtain ⟨_, hl', hc⟩ := World.cells?_some h1
      refine ⟨x, hg, fun j hj => ?_⟩
      rw [← hc j hj, add_add]
      have : (⟨qb, qo, none⟩ : Addr).add (i * z + j) = ⟨qb, qo + (i * z + j), none⟩ := add_plain ..
      rw [this]
      simp only [World.cell?, hblk, Option.isSome_none, Bool.false_eq_true, if_false, Nat.add_assoc]
    obtain ⟨X, hX⟩ := choose_lt each
    have hxs : ∀ (k : Nat), k ≤ len → ∀ (j : Nat) v, (((List.range k).map X).flatMap enc)[j]? = some v → c'[j + qo]? = some v ∧ flat v = true := by
      intro k
      induction k with
      | zero => intro _ j v e; simp at e
      | succ k ih =>
        intro hk j v e
        rw [List.range_succ, List.map_append, List.flatMap_append] at e
        have hfl : (((List.range k).map X).flatMap enc).length = k * z := by rw [flatMap_len hlen]; simp
        by_cases hj : j < k * z
        · rw [List.getElem?_append_left (by omega)] at e
          exact ih (by omega) j v e
        · rw [List.getElem?_append_right (by omega), hfl] at e
          simp only [List.map_cons, List.map_nil, List.flatMap_cons, List.flatMap_nil, List.append_nil] at e
          have hjz : j - k * z < z := by
            obtain ⟨hj2, _⟩ := List.getElem?_eq_some_iff.1 e
            rw [hlen] at hj2; exact hj2
          have := (hX k (by omega)).2 (j - k * z) hjz
          refine ⟨by rw [show j + qo = qo + k * z + (j - k * z) by omega, this]; exact e, ?_⟩
          exact List.all_eq_true.1 (hflat _) v (List.mem_of_getElem? e)
    have hb2 := in_block hin (b := qb) (off := qo) (cs := ((List.range len).map X).flatMap enc) hblk fun j v e => ⟨v, (hxs len (Nat.le_refl _) j v e).1, flat_self (hxs len (Nat.le_refl _) j v e).2⟩
    refine ⟨(List.range len).map X, .slice (some ⟨a.next, 0, none⟩) len len, _, _, ?_, hb2.1, hb2.2, ?_, ?_, Nat.le_succ _, fun j hj => look_miss (by omega)⟩
    · intro x hx'
      obtain ⟨i, hi, rfl⟩ := List.mem_map.1 hx'
      exact (hX i (List.mem_range.1 hi)).1
    · refine .slice (Nat.lt_succ_self _) (fun I e => .inr ?_) (Nat.le_refl _) hl (fun h => by cases h) (fun z h => by cases h)
      simp only [upd, if_true] at e
      cases e
      simp
    · refine .inr ⟨a.next, none, len, false, by simp, look_self, Nat.lt_succ_self _⟩
end
end
/- Temporaries as a function of their numbers; loops by their place. -/
section
open Go Go.RowKit
set_option linter.unusedVariables false
set_option linter.unusedSimpArgs false

def ups (e : Nat → Value) (i : Nat) (v : Value) (j : Nat) : Value := if j = i then v else e j
theorem ups_at {e : Nat → Value} {i : Nat} {v : Value} {j : Nat} : ups e i v j = if j = i then v else e j := hide rfl
/-- So many temporaries, by a function. -/
def TT (N : Nat) (e : Nat → Value) : List Value := (List.range N).map e
theorem TT_len {N : Nat} {e : Nat → Value} : (TT N e).length = N := by simp [TT]
theorem putV_TT {N : Nat} {e : Nat → Value} {i : Nat} {v : Value} : putV (TT N e) i v = TT N (ups e i v) := by
  refine List.ext_getElem? fun j => ?_
  unfold putV TT
  rw [List.getElem?_set, List.getElem?_map, List.getElem?_map, List.length_map, List.length_range]
  by_cases hj : j < N
  · rw [List.getElem?_range hj]
    by_cases h : i = j
    · subst h; simp [hj, ups]
    · rw [if_neg h]; simp [ups, Ne.symm h]
  · rw [List.getElem?_eq_none (l := List.range N) (by simp; omega)]
    by_cases h : i = j
    · subst h; simp [hj]
    · rw [if_neg h]; rfl
theorem getT_TT {N : Nat} {e : Nat → Value} {i : Nat} : getT (TT N e) i = if i < N then e i else undef := by
  unfold getT TT
  rw [List.getD_eq_getElem?_getD, List.getElem?_map]
  by_cases hj : i < N
  · rw [List.getElem?_range hj, if_pos hj]; rfl
  · rw [List.getElem?_eq_none (l := List.range N) (by simp; omega), if_neg hj]; rfl
theorem TT_arr {N : Nat} {e : Nat → Value} : (TT N e).toArray.toList = TT N e := by simp
def ea (args : List Value) (i : Nat) : Value := getT args i
theorem ea_at {args : List Value} {i : Nat} : ea args i = getT args i := hide rfl
theorem getT_nil {i : Nat} : getT [] i = undef := by simp [getT]
theorem args_TT {args : List Value} {m : Nat} (h : args.length ≤ m) : args ++ List.replicate (m - args.length) undef = TT m (ea args) := by
  refine List.ext_getElem? fun j => ?_
  unfold TT ea getT
  rw [List.getElem?_map]
  by_cases hj : j < m
  · rw [List.getElem?_range hj]
    by_cases h2 : j < args.length
    · rw [List.getElem?_append_left h2, List.getElem?_eq_getElem h2]; simp [h2]
    · rw [List.getElem?_append_right (by omega), List.getElem?_replicate, if_pos (by omega)]
      simp [List.getElem?_eq_none (l := args) (by omega : args.length ≤ j)]
  · rw [List.getElem?_eq_none (l := List.range m) (by simp; omega), List.getElem?_eq_none (by simp; omega)]; rfl
section
variable {E : Program} {G : Gives}
theorem call_env {f : FuncId} {fn : Func} {c : Code} {m : Nat} {rs : List ResultVar} (hf : E.funcs[f]? = some fn) (hb : fn.body = some c) (hm : fn.ntmps = m) (hr : fn.results = rs.toArray) {args : List Value} {a : AW} {K : Value → AW → Prop} (hG : given G f args.toArray a = none) (hl : args.length ≤ m) :
    WCall E G f args a K = WCode E G f none c (TT m (ea args)) [] ⟨a.next, a.heap, a.next, []⟩ fun e t ds b => WRet E a rs e t ds b K := by
  rw [call_body' hf hb hm hr hG, args_TT hl]
theorem loop_at {C c : Code} (hc : C = .loop c) {fn ro t ds} {a : AW} {Q : ExitA → List Value → List Nat → AW → Prop} (h : WCode E G fn ro (.loop c) t ds a Q) : WCode E G fn ro C t ds a Q := by
  subst hc; exact h
theorem ups_ne {e : Nat → Value} {i : Nat} {v : Value} {j : Nat} (h : j ≠ i) : ups e i v j = e j := by simp [ups, h]
end
/-- The loops of a code, the outer ones first. -/
def loopsOf : Code → List Code
  | .seq x y => loopsOf x ++ loopsOf y
  | .cond _ x y => loopsOf x ++ loopsOf y
  | .block _ c => loopsOf c
  | .loop c => .loop c :: loopsOf c
  | .rangeFunc _ _ a b => loopsOf a ++ loopsOf b
  | _ => []
def loopN (f : Func) (n : Nat) : Code := match f.body with
  | some c => (loopsOf c).getD n .skip
  | none => .skip
end
/- Arguments within arguments: slices in structs, slices of slices. -/
section
open Go Go.RowKit Go.ChangeShapes Go.WideShapes Go.ChangeAt Go.Joins Go.Deep
set_option linter.unusedVariables false
set_option linter.unusedSimpArgs false

section
variable {H : Type} {α β : Type} (enc0 : TypeId × Value → H) (P : Program) (W : World) (held : Bool)
/-- Cells that are read as a type's. -/
def Rd (e : TypeId) (cs : List Value) : Prop := ∃ n y, DataW.trod enc0 P W 0 (fun _ => true) held n e cs = some y ∧ ∀ w ∈ DataW.weights P e y.1, w ≤ reachBytes
/-- Somewhere there are cells. -/
def Somewhere : Prop := ∃ (b : Nat) (c' : Array Value) (e' : TypeId) (fr : Nat × Nat), W.heap[b]? = some (Obj.cells c' e' fr)
abbrev Rep0 (α : Type) := α → List (Nat × Blk) → Nat → List Value → Prop
/-- A memory that has grown out of another one. -/
structure Grew (ρ : Ren) (a : AW) (ρ' : Ren) (a' : AW) : Prop where
  inr : InRel ρ' a' W
  ext : Ext ρ a.next ρ' a'.next
  low : ∀ j, j < a.next → look j a'.heap = look j a.heap
def Opens (e : TypeId) (R : Rep0 α) : Prop :=
  ∀ cs, Rd enc0 P W held e cs → ∀ ρ a, InRel ρ a W → Somewhere W → ∃ x ac ρ' a', R x a'.heap a'.next ac ∧ Grew W ρ a ρ' a' ∧ LRel ρ' a'.next ac cs
end
section
variable {H : Type} {α β : Type} {enc0 : TypeId × Value → H} {P : Program} {W : World} {held : Bool}
/-- What stands is left standing by what is added. -/
def KeepsR (R : Rep0 α) : Prop := ∀ x h n ac h' n', R x h n ac → n ≤ n' → (∀ j, j < n → look j h' = look j h) → R x h' n' ac
theorem Grew.refl {ρ : Ren} {a : AW} (h : InRel ρ a W) : Grew W ρ a ρ a := ⟨h, .refl _ _, fun _ _ => rfl⟩
theorem Grew.trans {ρ ρ' ρ'' : Ren} {a a' a'' : AW} (h : Grew W ρ a ρ' a') (h' : Grew W ρ' a' ρ'' a'') : Grew W ρ a ρ'' a'' :=
  ⟨h'.inr, h.ext.trans h'.ext, fun j hj => (h'.low j (Nat.lt_of_lt_of_le hj h.ext.1)).trans (h.low j hj)⟩
def FlatR (enc : α → List Value) (Good : α → Prop) : Rep0 α := fun x _ _ ac => ac = enc x ∧ Good x
theorem flat_keeps {enc : α → List Value} {Good : α → Prop} : KeepsR (FlatR enc Good) := fun _ _ _ _ _ _ h _ _ => h
theorem flatL_self : ∀ {l : List Value} {ρ : Ren} {K : Nat}, l.all flat = true → LRel ρ K l l
  | [], _, _, _ => .nil
  | v :: l, _, _, h => by
    simp only [List.all_cons, Bool.and_eq_true] at h
    exact .cons (flat_self h.1) (flatL_self h.2)
theorem opens_flat {e : TypeId} {enc : α → List Value} {Good : α → Prop} (hf : ∀ x, (enc x).all flat = true) (h : ∀ cs, Rd enc0 P W held e cs → ∃ x, cs = enc x ∧ Good x) : Opens enc0 P W held e (FlatR enc Good) := by
  intro cs hr ρ a hin _
  obtain ⟨x, rfl, hg⟩ := h cs hr
  exact ⟨x, enc x, ρ, a, ⟨rfl, hg⟩, .refl hin, flatL_self (hf x)⟩
theorem opens_int {e : TypeId} {k : IntKind} (ht : P.underlying e = some (.int k)) : Opens enc0 P W held e (FlatR (fun x : Int => [.int k x]) fun x => (Lit.int k x).wf = true) :=
  opens_flat (fun _ => rfl) fun cs ⟨n, y, h, _⟩ => by obtain ⟨x, hx, _, hw⟩ := DataW.trod_int ht h; exact ⟨x, hx, hw⟩
theorem opens_str {e : TypeId} (ht : P.underlying e = some .string) : Opens enc0 P W held e (FlatR (fun x : ByteArray => [.string x]) fun x => x.size ≤ maxLen) :=
  opens_flat (fun _ => rfl) fun cs ⟨n, y, h, _⟩ => by obtain ⟨x, hx, _, hw⟩ := DataW.trod_string ht h; exact ⟨x, hx, hw⟩
/-- A slice: a block that holds its elements' cells one behind the other. -/
def SliceR (R : Rep0 α) (z : Nat) : Rep0 (List α) := fun xs h n ac =>
  (ac = [.slice none 0 0] ∧ xs = []) ∨ ∃ q acs, ac = [.slice (some ⟨q, 0, none⟩) xs.length xs.length] ∧ look q h = some (.cells (List.flatten acs) false) ∧ q < n ∧ acs.length = xs.length ∧ (∀ l ∈ acs, l.length = z) ∧ ∀ (i : Nat) x l, xs[i]? = some x → acs[i]? = some l → R x h n l
theorem slice_keeps {R : Rep0 α} {z : Nat} (hk : KeepsR R) : KeepsR (SliceR R z) := by
  intro xs h n ac h' n' hr hn hl
  rcases hr with hr | ⟨q, acs, e, hq, hqn, h1, h2, h3⟩
  · exact .inl hr
  · exact .inr ⟨q, acs, e, by rw [hl q hqn]; exact hq, by omega, h1, h2, fun i x l e1 e2 => hk _ _ _ _ _ _ (h3 i x l e1 e2) hn hl⟩
/-- .. that is not too long. -/
def SliceB (B : Nat) (R : Rep0 α) (z : Nat) : Rep0 (List α) := fun xs h n ac => SliceR R z xs h n ac ∧ xs.length * B ≤ reachBytes
theorem sliceB_keeps {B : Nat} {R : Rep0 α} {z : Nat} (hk : KeepsR R) : KeepsR (SliceB B R z) := fun xs h n ac h' n' hr hn hl => ⟨slice_keeps hk xs h n ac h' n' hr.1 hn hl, hr.2⟩
theorem weights_all {e : TypeId} : ∀ {l : List (DataW H)} {d : DataW H}, d ∈ l → ∀ w ∈ DataW.weights P e d, w ∈ DataW.weightsAll P e l
  | [], d, h, _, _ => by cases h
  | x :: l, d, h, w, hw => by
    simp only [DataW.weightsAll, List.mem_append]
    rcases List.mem_cons.1 h with rfl | h
    · exact .inl hw
    · exact .inr (weights_all h w hw)
theorem flatten_at {z : Nat} : ∀ {acs : List (List Value)} {i j : Nat}, (∀ l ∈ acs, l.length = z) → j < z → (List.flatten acs)[i * z + j]? = (acs[i]?).bind (·[j]?)
  | [], i, j, _, _ => by simp
  | l :: acs, i, j, h, hj => by
    have hl := h l (by simp)
    rw [List.flatten_cons]
    cases i with
    | zero => rw [Nat.zero_mul, Nat.zero_add, List.getElem?_append_left (by omega)]; rfl
    | succ i =>
      rw [List.getElem?_append_right (by rw [Nat.succ_mul]; omega), hl, show (i + 1) * z + j - z = i * z + j by rw [Nat.succ_mul]; omega, flatten_at (fun l hl => h l (by simp [hl])) hj, List.getElem?_cons_succ]
theorem flatten_len {z : Nat} : ∀ {acs : List (List Value)}, (∀ l ∈ acs, l.length = z) → (List.flatten acs).length = acs.length * z
  | [], _ => by simp
  | l :: acs, h => by
    rw [List.flatten_cons, List.length_append, flatten_len (fun l hl => h l (by simp [hl])), h l (by simp), List.length_cons, Nat.succ_mul]; omega
theorem opens_slice {t e : TypeId} {z : Nat} {R : Rep0 α} (ht : P.underlying t = some (.slice e)) (hz : P.cellsOf e = z) (hz0 : 0 < z) (hk : KeepsR R) (ho : Opens enc0 P W held e R) : Opens enc0 P W held t (SliceB (P.bytesOf e) R z) := by
  intro cs ⟨fuel, y, hr, hwt⟩ ρ a hin hsome
  rcases open_slice ht hr with ⟨rfl, _⟩ | ⟨q, len, cap, m, n, D, Pl, rfl, hb, hl, hcap, hm, hd, hx⟩
  · exact ⟨[], [.slice none 0 0], ρ, a, ⟨.inl ⟨rfl, rfl⟩, by simp⟩, .refl hin, .cons (.sliceNil 0 0) .nil⟩
  · simp only [if_true] at hm
    subst hm
    rw [hz] at hx
    have hwt1 : ∀ w ∈ (len + (m - len)) * P.bytesOf e :: (DataW.weightsAll P e ((List.range len).map D) ++ DataW.weightsAll P e ((List.range (m - len)).map fun j => D (len + j))), w ≤ reachBytes := by
      have h0 := hwt
      rw [hd] at h0
      simp only [DataW.weights, ht, List.length_map, List.length_range] at h0
      exact h0
    have hlen : len * P.bytesOf e ≤ reachBytes := by
      have h1 := hwt1 _ (List.mem_cons_self)
      have h2 := Nat.mul_le_mul_right (P.bytesOf e) (Nat.le_add_right len (m - len))
      omega
    have hwe : ∀ i, i < len → ∀ w ∈ DataW.weights P e (D i), w ≤ reachBytes := fun i hi w hw =>
      hwt1 w (List.mem_cons_of_mem _ (List.mem_append_left _ (weights_all (List.mem_map.2 ⟨i, List.mem_range.2 hi, rfl⟩) w hw)))
    have each : ∀ k, k ≤ len → ∃ (xs : List α) (acs : List (List Value)) (ρ' : Ren) (a' : AW), xs.length = k ∧ acs.length = k ∧ (∀ l ∈ acs, l.length = z) ∧ (∀ (i : Nat) x l, xs[i]? = some x → acs[i]? = some l → R x a'.heap a'.next l) ∧ Grew W ρ a ρ' a' ∧
        ∀ (i : Nat) l, acs[i]? = some l → ∃ cs', W.cells? 0 (q.add (i * z)) z = some cs' ∧ LRel ρ' a'.next l cs' := by
      intro k
      induction k with
      | zero => intro _; exact ⟨[], [], ρ, a, rfl, rfl, fun l hl => (by cases hl), fun i x l e => by simp at e, .refl hin, fun i l e => by simp at e⟩
      | succ k ih =>
        intro hk1
        obtain ⟨xs, acs, ρ1, a1, h1, h2, h3, h4, h5, h6⟩ := ih (by omega)
        obtain ⟨cs', c1, c2⟩ := hx k (by omega)
        obtain ⟨x, ac, ρ2, a2, g1, g2, g3⟩ := ho cs' ⟨_, _, c2, hwe k (by omega)⟩ ρ1 a1 h5.inr hsome
        have hlen : ac.length = z := by rw [g3.length]; exact (World.cells?_some c1).2.1
        refine ⟨xs ++ [x], acs ++ [ac], ρ2, a2, by simp [h1], by simp [h2], ?_, ?_, h5.trans g2, ?_⟩
        · intro l hl
          rcases List.mem_append.1 hl with hl | hl
          · exact h3 l hl
          · simp at hl; rw [hl, hlen]
        · intro i y l e1 e2
          by_cases hi : i < k
          · rw [List.getElem?_append_left (by omega)] at e1 e2
            exact hk _ _ _ _ _ _ (h4 i y l e1 e2) g2.ext.1 g2.low
          · rw [List.getElem?_append_right (by omega)] at e1 e2
            have h0 : i - k = 0 := by
              rcases Nat.eq_zero_or_pos (i - k) with h | h
              · exact h
              · rw [List.getElem?_eq_none (by simp; omega)] at e1; cases e1
            rw [h1, h0] at e1; rw [h2, h0] at e2
            cases e1; cases e2
            exact g1
        · intro i l e2
          by_cases hi : i < k
          · rw [List.getElem?_append_left (by omega)] at e2
            obtain ⟨cs2, d1, d2⟩ := h6 i l e2
            exact ⟨cs2, d1, d2.mono g2.ext⟩
          · rw [List.getElem?_append_right (by omega)] at e2
            have h0 : i - k = 0 := by
              rcases Nat.eq_zero_or_pos (i - k) with h | h
              · exact h
              · rw [List.getElem?_eq_none (by simp; omega)] at e2; cases e2
            rw [h2, h0] at e2
            cases e2
            rw [show i = k by omega]
            exact ⟨cs', c1, g3⟩
    obtain ⟨xs, acs, ρ1, a1, h1, h2, h3, h4, h5, h6⟩ := each len (Nat.le_refl _)
    obtain ⟨qb, qo, qs⟩ := q
    by_cases hc0 : m = 0
    · subst hc0
      have hl0 : len = 0 := by omega
      subst hl0
      obtain ⟨b, c', e', fr, hblk⟩ := hsome
      have hb2 := in_block h5.inr (b := b) (off := 0) (cs := []) hblk (fun j v e => by simp at e)
      have hx0 : xs = [] := List.length_eq_zero_iff.1 h1
      have ha0 : acs = [] := List.length_eq_zero_iff.1 h2
      subst hx0 ha0
      refine ⟨[], [.slice (some ⟨a1.next, 0, none⟩) 0 0], _, _, ⟨.inr ⟨a1.next, [], rfl, look_self, Nat.lt_succ_self _, rfl, fun l hl => (by cases hl), fun i x l e => by simp at e⟩, by simp⟩, h5.trans ⟨hb2.1, hb2.2, fun j hj => look_miss (by omega)⟩, .cons ?_ .nil⟩
      exact .slice (Nat.lt_succ_self _) (fun I e => .inl rfl) (Nat.le_refl _) (Nat.le_refl _) (fun h => by cases h) (fun z h => by cases h)
    · have hspot : qs = none ∧ ∃ c' e' fr, W.heap[qb]? = some (.cells c' e' fr) := by
        obtain ⟨cs', c1, _⟩ := hx 0 (by omega)
        obtain ⟨_, hl', hc⟩ := World.cells?_some c1
        have := hc 0 hz0
        rw [List.getElem?_eq_getElem (by omega)] at this
        have h00 : (({ block := qb, off := qo, spot := qs : Addr }).add (0 * z)).add 0 = { block := qb, off := qo, spot := qs } := by
          rw [Nat.zero_mul]; simp [Addr.add]
        rw [h00] at this
        unfold World.cell? at this
        split at this
        · rename_i c e f hh
          split at this
          · cases this
          · rename_i hs
            refine ⟨?_, c, e, f, hh⟩
            cases qs with
            | none => rfl
            | some s => simp at hs
        · cases this
      obtain ⟨rfl, c', e', fr, hblk⟩ := hspot
      have hcell : ∀ (j : Nat) v, (List.flatten acs)[j]? = some v → ∃ v', c'[j + qo]? = some v' ∧ VRel ρ1 a1.next v v' := by
        intro j v ej
        have hjlt : j < acs.length * z := by
          rw [← flatten_len h3]
          exact (List.getElem?_eq_some_iff.1 ej).1
        have hjz : j % z < z := Nat.mod_lt _ hz0
        have hji : j / z < acs.length := Nat.div_lt_of_lt_mul (by rw [Nat.mul_comm]; exact hjlt)
        have hjj : j / z * z + j % z = j := by rw [Nat.mul_comm]; exact Nat.div_add_mod j z
        rw [← hjj, flatten_at h3 hjz, List.getElem?_eq_getElem hji] at ej
        obtain ⟨cs', d1, d2⟩ := h6 (j / z) _ (List.getElem?_eq_getElem hji)
        obtain ⟨v', e1, e2⟩ := d2.get (by simpa using ej)
        obtain ⟨_, hl', hc⟩ := World.cells?_some d1
        have hcj := hc (j % z) hjz
        rw [add_add, hjj] at hcj
        have h00 : (⟨qb, qo, none⟩ : Addr).add j = ⟨qb, qo + j, none⟩ := add_plain ..
        rw [h00] at hcj
        simp only [World.cell?, hblk, Option.isSome_none, Bool.false_eq_true, if_false] at hcj
        exact ⟨v', by rw [Nat.add_comm, hcj]; exact e1, e2⟩
      have hb2 := in_block h5.inr (b := qb) (off := qo) (cs := List.flatten acs) hblk hcell
      refine ⟨xs, [.slice (some ⟨a1.next, 0, none⟩) len len], _, _, ⟨.inr ⟨a1.next, acs, by rw [h1], look_self, Nat.lt_succ_self _, by omega, h3, fun i x l e1 e2 => hk _ _ _ _ _ _ (h4 i x l e1 e2) (Nat.le_succ _) fun j hj => look_miss (by omega)⟩, by rw [h1]; exact hlen⟩, h5.trans ⟨hb2.1, hb2.2, fun j hj => look_miss (by omega)⟩, .cons ?_ .nil⟩
      refine .slice (Nat.lt_succ_self _) (fun I e => .inr ?_) (Nat.le_refl _) hl (fun h => by cases h) (fun z h => by cases h)
      simp only [upd, if_true] at e
      cases e
      simp
/-- Fields one behind the other. -/
def OpensL (enc0 : TypeId × Value → H) (P : Program) (W : World) (held : Bool) (ts : List TypeId) (R : Rep0 α) : Prop :=
  ∀ cs : List Value, cs.length = ts.length → (∀ (i : Nat) t c, ts[i]? = some t → cs[i]? = some c → Rd enc0 P W held t [c]) → ∀ ρ a, InRel ρ a W → Somewhere W → ∃ x ac ρ' a', R x a'.heap a'.next ac ∧ Grew W ρ a ρ' a' ∧ LRel ρ' a'.next ac cs
def UnitR : Rep0 Unit := fun _ _ _ ac => ac = []
def PairR (R : Rep0 α) (S : Rep0 β) : Rep0 (α × β) := fun x h n ac => ∃ l m, ac = l ++ m ∧ R x.1 h n l ∧ S x.2 h n m
theorem unit_keeps : KeepsR UnitR := fun _ _ _ _ _ _ h _ _ => h
theorem pair_keeps {R : Rep0 α} {S : Rep0 β} (hr : KeepsR R) (hs : KeepsR S) : KeepsR (PairR R S) := by
  rintro x h n ac h' n' ⟨l, m, rfl, h1, h2⟩ hn hl
  exact ⟨l, m, rfl, hr _ _ _ _ _ _ h1 hn hl, hs _ _ _ _ _ _ h2 hn hl⟩
theorem opensL_nil : OpensL enc0 P W held [] UnitR := by
  intro cs hl _ ρ a hin _
  obtain rfl : cs = [] := List.length_eq_zero_iff.1 hl
  exact ⟨(), [], ρ, a, rfl, .refl hin, .nil⟩
theorem opensL_cons {t : TypeId} {ts : List TypeId} {R : Rep0 α} {S : Rep0 β} (hr : KeepsR R) (h : Opens enc0 P W held t R) (hs : OpensL enc0 P W held ts S) : OpensL enc0 P W held (t :: ts) (PairR R S) := by
  intro cs hl hc ρ a hin hsome
  cases cs with
  | nil => simp at hl
  | cons c cs =>
    obtain ⟨x, l, ρ1, a1, h1, h2, h3⟩ := h [c] (hc 0 t c rfl rfl) ρ a hin hsome
    obtain ⟨y, m, ρ2, a2, g1, g2, g3⟩ := hs cs (by simpa using hl) (fun i t' c' e1 e2 => hc (i + 1) t' c' (by simpa using e1) (by simpa using e2)) ρ1 a1 h2.inr hsome
    exact ⟨(x, y), l ++ m, ρ2, a2, ⟨l, m, rfl, hr _ _ _ _ _ _ h1 g2.ext.1 g2.low, g1⟩, h2.trans g2, (h3.mono g2.ext).append g3⟩
theorem opens_struct {t : TypeId} {fs : Array Field} {R : Rep0 α} (hs : P.underlying t = some (.struct fs)) (hone : oneCellFields P fs = true) (hC : P.cellsOf t = fs.size) (h : OpensL enc0 P W held (fs.toList.map (·.type)) R) : Opens enc0 P W held t R := by
  intro cs ⟨fuel, y, hf, hwt⟩ ρ a hin hsome
  obtain ⟨xs, n, _, hcl, hl, hlen, hx⟩ := DataW.trod_struct hs hf
  have hcs : cs.length = fs.size := by rw [← hC]; first | exact hcl | exact hl | omega
  refine h cs (by simpa using hcs) (fun i t' c e1 e2 => ?_) ρ a hin hsome
  rw [List.getElem?_map] at e1
  obtain ⟨f, hfi, rfl⟩ := Option.map_eq_some_iff.1 e1
  rw [Array.getElem?_toList] at hfi
  obtain ⟨o, k⟩ := hone_of hone i f hfi
  have := hx i f hfi
  have hc : (cs.drop f.offset).take (P.cellsOf f.type) = [c] := by
    rw [o, k]
    obtain ⟨hi, ec⟩ := List.getElem?_eq_some_iff.1 e2
    rw [List.drop_eq_getElem_cons hi, ec]
    rfl
  rw [hc] at this
  obtain ⟨hfs, _⟩ := Array.getElem?_eq_some_iff.1 hfi
  have hi2 : i < xs.length := by omega
  refine ⟨n, xs[i], by rw [this, List.getElem?_eq_getElem hi2], fun w hw => ?_⟩
  have h0 := hwt
  rw [hcl] at h0
  simp only [DataW.weights, hs] at h0
  exact h0 w (DataW.weights_mem_each (j := i) (by rw [List.getElem?_map, Array.getElem?_toList, hfi]; rfl) (by rw [List.getElem?_map, List.getElem?_eq_getElem hi2]; rfl) w hw)
/-- An argument that is a slice. -/
theorem open_arg {t e : TypeId} {z : Nat} {R : Rep0 α} {r : Reach} {b0 : Nat} {v : Value} {d : DataW H} {p : List MemPlace} (ht : P.underlying t = some (.slice e)) (hz : P.cellsOf e = z) (hz0 : 0 < z) (hk : KeepsR R) (ho : Opens enc0 P W held e R)
    (hv : Value.okWide P W r b0 t v) (h : DataW.Trod enc0 P W 0 (fun _ => true) held t v d p) (hwt : ∀ w ∈ DataW.weights P t d, w ≤ reachBytes) {ρ : Ren} {a : AW} (hin : InRel ρ a W) :
    ∃ (xs : List α) (v0 : Value) (ρ' : Ren) (a' : AW), SliceB (P.bytesOf e) R z xs a'.heap a'.next [v0] ∧ Grew W ρ a ρ' a' ∧ VRel ρ' a'.next v0 v := by
  obtain ⟨a0, len, cap, rfl⟩ := okWide_slice ht hv
  obtain ⟨fuel, hf⟩ := h
  have e1 : (Value.slice a0 len cap).cells.toList = [.slice a0 len cap] := rfl
  rw [e1] at hf
  cases a0 with
  | none =>
    rcases open_slice ht hf with ⟨e0, _⟩ | ⟨q, len', cap', m, n, D, Pl, e0, _⟩
    · cases e0
      exact ⟨[], _, ρ, a, ⟨.inl ⟨rfl, rfl⟩, by simp⟩, .refl hin, .sliceNil 0 0⟩
    · cases e0
  | some q =>
    have hsome : Somewhere W := by
      have hhas : W.has P r b0 q e cap := by
        simp only [Value.okWide, ht, Cell.okWide, Cell.ok] at hv
        exact hv.2.2
      obtain ⟨hlets, hspot, row, cells, hshape, _⟩ := hhas
      simp only [World.shape?] at hshape
      split at hshape
      · rename_i c e f hh; exact ⟨_, c, e, f, hh⟩
      · cases hshape
    obtain ⟨xs, ac, ρ', a', h1, h2, h3⟩ := opens_slice ht hz hz0 hk ho _ ⟨fuel, _, hf, hwt⟩ ρ a hin hsome
    cases h3 with
    | cons hv hr => cases hr with
      | nil => exact ⟨xs, _, ρ', a', h1, h2, hv⟩
/-- Flat elements: the list as it is read. -/
theorem SliceR.listV {enc : α → List Value} {Good : α → Prop} {z : Nat} {xs : List α} {h : List (Nat × Blk)} {n : Nat} {v : Value} (hr : SliceR (FlatR enc Good) z xs h n [v]) : ListV enc h n v xs ∧ ∀ x ∈ xs, Good x := by
  rcases hr with ⟨e, rfl⟩ | ⟨q, acs, e, hq, hqn, h1, h2, h3⟩
  · cases e
    exact ⟨.inl ⟨rfl, rfl⟩, fun x hx => (by cases hx)⟩
  · cases e
    have hac : acs = xs.map enc := by
      refine List.ext_getElem? fun i => ?_
      rw [List.getElem?_map]
      by_cases hi : i < xs.length
      · rw [List.getElem?_eq_getElem (by omega : i < acs.length), List.getElem?_eq_getElem hi]
        have := (h3 i _ _ (List.getElem?_eq_getElem hi) (List.getElem?_eq_getElem (by omega : i < acs.length))).1
        simp [this]
      · rw [List.getElem?_eq_none (by omega), List.getElem?_eq_none (by omega)]; rfl
    subst hac
    refine ⟨.inr ⟨q, none, xs.length, false, rfl, by rw [hq, List.flatMap_def], hqn⟩, fun x hx => ?_⟩
    obtain ⟨i, hi, rfl⟩ := List.getElem_of_mem hx
    exact (h3 i xs[i] (enc xs[i]) (List.getElem?_eq_getElem hi) (by simp [hi])).2
end
end
end Go.Proofs.YtlbmjpmonaekgaaAM
