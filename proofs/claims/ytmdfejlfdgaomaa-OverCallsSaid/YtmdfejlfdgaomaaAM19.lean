/- Regions whose order is open: one operation; two of them in either order. -/
import Derived.Test.YtmdfejlfdgaomaaAM18
namespace Go.Proofs.YtmdfejlfdgaomaaAM
open Go Go.RowKit
set_option linter.unusedVariables false
set_option linter.unusedSimpArgs false

theorem soil_all (dirty : List Nat) (base : Nat) : ∀ (l : List Nat), (∀ i ∈ dirty, i ∈ soilAll dirty base l) ∧ ∀ i ∈ l, i < base → i ∈ soilAll dirty base l := by
  intro l
  induction l with
  | nil => exact ⟨fun i h => h, fun i h => by cases h⟩
  | cons x l ih =>
    have e0 : soilAll dirty base (x :: l) = if x < base then (if (soilAll dirty base l).contains x then soilAll dirty base l else x :: soilAll dirty base l) else soilAll dirty base l := rfl
    rw [e0]
    split
    · split
      · rename_i hcon
        refine ⟨ih.1, fun i hi hib => ?_⟩
        rcases List.mem_cons.1 hi with rfl | hi
        · simpa using hcon
        · exact ih.2 i hi hib
      · refine ⟨fun i hi => .tail _ (ih.1 i hi), fun i hi hib => ?_⟩
        rcases List.mem_cons.1 hi with rfl | hi
        · exact .head _
        · exact .tail _ (ih.2 i hi hib)
    · rename_i hnlt
      refine ⟨ih.1, fun i hi hib => ?_⟩
      rcases List.mem_cons.1 hi with rfl | hi
      · exact absurd hib hnlt
      · exact ih.2 i hi hib

section
variable {P : Program} {G : Gives}
/-- What one operation of a region does to memory. -/
theorem stepO_work {m : Nat} (hc : CallAt P G m) (hr : RoundAt P G m) {o : Oper} {tmps : List Value} {a a' : AW} {nt : Note} {v : Value} (h : stepO P (callA P G m) (roundA P G m) o tmps a = some (nt, v, a')) (hb : a.base ≤ a.next) :
    Evo a a' ∧ ((heavy (kindO P o) = false ∧ a' = a) ∨ (heavy (kindO P o) = true ∧ ∃ d, nt = .work a.next d ∧ ∀ i, i < a.next → i ∉ d → a'.get i = a.get i)) := by
  unfold stepO at h
  split at h
  · rename_i hk
    obtain ⟨v0, e1, e2⟩ := Option.map_eq_some_iff.1 h
    cases e2
    exact ⟨.refl _, .inl ⟨by rw [hk]; rfl, rfl⟩⟩
  · rename_i hk
    split at h
    · split at h
      · cases h; exact ⟨.refl _, .inl ⟨by rw [hk]; rfl, rfl⟩⟩
      · cases h
    · cases h
  · rename_i hk
    obtain ⟨v0, e1, e2⟩ := Option.map_eq_some_iff.1 h
    cases e2
    refine ⟨evo_new _ _ hb, .inr ⟨by rw [hk]; rfl, [], rfl, fun i hi _ => ?_⟩⟩
    have : i ≠ a.next := by omega
    simp only [AW.get, AW.new, look, if_neg this]
  · rename_i hk
    split at h
    · cases h
    · rename_i x a0 hw
      obtain ⟨⟨v1, a1⟩, e1, e2⟩ := Option.map_eq_some_iff.1 h
      cases e2
      have ev0 := evo_work (a := { a with base := a.next, dirty := [] }) (Nat.le_refl _) hw
      have ev : Evo { a with base := a.next, dirty := [] } a1 := by
        cases x with
        | value v => cases e1; exact ev0
        | enter f args => exact ev0.trans (hc _ _ _ _ _ e1 (ev0.le (Nat.le_refl _))).1
        | round l args => exact ev0.trans (hr _ _ _ _ _ e1 (ev0.le (Nat.le_refl _))).1
      refine ⟨⟨rfl, ev.next, (soil_all _ _ _).1, fun i hi hni => ?_⟩, .inr ⟨by rw [hk]; rfl, a1.dirty, rfl, fun i hi hni => ev.get i hi hni⟩⟩
      exact ev.get i (Nat.lt_of_lt_of_le hi hb) fun hh => hni ((soil_all _ _ _).2 i hh hi)

/-! ### temporaries -/
theorem evals_congr {t t' : List Value} : ∀ {l : List Operand}, (∀ x ∈ l, evalA t x = evalA t' x) → evals t l = evals t' l
  | [], _ => rfl
  | x :: l, h => by
    have e1 := h x (List.mem_cons_self ..)
    have e2 := evals_congr (t := t) (t' := t') (l := l) (fun y hy => h y (List.mem_cons_of_mem _ hy))
    simp only [evals, e1, e2]
theorem evalO_congr {t t' : List Value} {x : Option Operand} (h : ∀ y ∈ x.toArray, evalA t y = evalA t' y) : evalO t x = evalO t' x := by
  cases x with
  | none => rfl
  | some x => simp only [evalO, h x (by simp)]
theorem parts_congr {t t' : List Value} : ∀ {l : List (Nat × Operand)}, (∀ x ∈ l.map (·.2), evalA t x = evalA t' x) → partsA t l = partsA t' l
  | [], _ => rfl
  | (i, x) :: l, h => by simp only [partsA, h x (by simp), parts_congr (fun y hy => h y (by simp at hy ⊢; exact .inr hy))]
theorem pure_congr {t t' : List Value} {o : Oper} (h : ∀ x ∈ o.op.operands, evalA t x = evalA t' x) : pureA P t o = pureA P t' o := by
  obtain ⟨dst, op, type, pos, after, guard⟩ := o
  cases op <;> simp only [Op.operands] at h <;> simp only [pureA]
  case move x => exact h x (by simp)
  case assign x => exact h x (by simp)
  case pick c x y => rw [h c (by simp), h x (by simp), h y (by simp)]
  case build ty ps => rw [parts_congr (fun x hx => h x (by simpa using hx))]
  case nilCheck x => rw [h x (by simp)]
  case binOp op ty x y yt => rw [h x (by simp), h y (by simp)]
  case unOp op ty x => rw [h x (by simp)]
  case convert s d x => rw [h x (by simp)]
  case makeInterface ty x => rw [h x (by simp)]
  case makeFunc fn f c => cases fn <;> simp only <;> rw [evals_congr (fun x hx => h x (by simp at hx ⊢; exact .inl hx)), evals_congr (fun x hx => h x (by simp at hx ⊢; exact .inr hx))]
  case slice ty x l hi m =>
    rw [h x (by simp), evalO_congr (fun y hy => h y (by simp at hy ⊢; simp [hy])), evalO_congr (fun y hy => h y (by simp at hy ⊢; simp [hy])), evalO_congr (fun y hy => h y (by simp at hy ⊢; simp [hy]))]
  case fieldAddr s x f => rw [h x (by simp)]
  case field s x f => rw [h x (by simp)]
  case indexAddr ty x i => rw [h x (by simp), h i (by simp)]
  case index ty x i => rw [h x (by simp), h i (by simp)]
  case extract x i => rw [h x (by simp)]
  case call c => rw [evals_congr (fun x hx => h x (by simp [Call.operands] at hx ⊢; exact .inr hx))]
theorem read_congr {t t' : List Value} {o : Oper} (h : ∀ x ∈ o.op.operands, evalA t x = evalA t' x) (a : AW) : readA P t o a = readA P t' o a := by
  obtain ⟨dst, op, type, pos, after, guard⟩ := o
  cases op <;> simp only [Op.operands] at h <;> simp only [readA]
  case load ty x => rw [h x (by simp)]
  case convert s d x => rw [h x (by simp)]
  case lookup ty x k ok => rw [h x (by simp), h k (by simp)]
  case call c => rw [evals_congr (fun x hx => h x (by simp [Call.operands] at hx ⊢; exact .inr hx))]
theorem make_congr {t t' : List Value} {o : Oper} (h : ∀ x ∈ o.op.operands, evalA t x = evalA t' x) : makeA P t o = makeA P t' o := by
  obtain ⟨dst, op, type, pos, after, guard⟩ := o
  cases op <;> simp only [Op.operands] at h <;> simp only [makeA]
  case box ty x => rw [h x (by simp)]
  case buildSlice ty n ps => rw [parts_congr (fun x hx => h x (by simpa using hx))]
  case convert s d x => rw [h x (by simp)]
  case makeMap ty r => cases r <;> rfl
  case makeSlice ty l c => rw [h l (by simp), h c (by simp)]
theorem work_congr {t t' : List Value} {o : Oper} (h : ∀ x ∈ o.op.operands, evalA t x = evalA t' x) (a : AW) : workA P t o a = workA P t' o a := by
  obtain ⟨dst, op, type, pos, after, guard⟩ := o
  cases op <;> simp only [Op.operands] at h <;> simp only [workA]
  case insert ty m k y => rw [h m (by simp), h k (by simp), h y (by simp)]
  case store ty x y => rw [h x (by simp), h y (by simp)]
  case mapUpdate ty m k y => rw [h m (by simp), h k (by simp), h y (by simp)]
  case range ty x => rw [h x (by simp)]
  case next x s => rw [h x (by simp)]
  case call c =>
    rw [evals_congr (fun x hx => h x (by simp [Call.operands] at hx ⊢; exact .inr hx))]
    cases hc : c.callee with
    | value f => simp only []; rw [h f (by simp [Call.operands, hc])]
    | invoke r s => rfl
    | builtin b => rfl
theorem stepO_congr {call : FuncId → Array Value → AW → Option (Value × AW)} {round : Nat → Array Value → AW → Option (Value × AW)} {t t' : List Value} {o : Oper} (h : ∀ x ∈ o.op.operands, evalA t x = evalA t' x) (a : AW) :
    stepO P call round o t a = stepO P call round o t' a := by
  unfold stepO
  rw [pure_congr h, read_congr h, make_congr h, work_congr h]
theorem eval_put {t : List Value} {d : Option Tmp} {v : Value} {x : Operand} (h : ∀ e, d = some e → x ≠ .tmp e) : evalA (putT t d v) x = evalA t x := by
  cases d with
  | none => rfl
  | some e =>
    cases x with
    | tmp s =>
      have hne : e ≠ s := fun hh => h e rfl (hh ▸ rfl)
      simp [evalA, putT, List.getD_eq_getElem?_getD, List.getElem?_set_ne hne]
    | _ => rfl
theorem put_comm (t : List Value) {x y : Option Tmp} (v u : Value) (h : ∀ d, x = some d → y ≠ some d) : putT (putT t x v) y u = putT (putT t y u) x v := by
  cases x with
  | none => rfl
  | some d => cases y with
    | none => rfl
    | some e =>
      have hne : d ≠ e := fun hh => h d rfl (hh ▸ rfl)
      simp [putT, List.set_comm _ _ hne]
/-- A read sees one block alone. -/
theorem readA_at {t : List Value} {o : Oper} {a a' : AW} {r : Nat × Value} (h : readA P t o a = some r) (hg : a'.get r.1 = a.get r.1) : readA P t o a' = some r := by
  obtain ⟨dst, op, type, pos, after, guard⟩ := o
  have hload : ∀ (p : Addr) n, a'.get p.block = a.get p.block → a'.loadN p n = a.loadN p n := by
    intro p n hh; unfold AW.loadN; rw [hh]
  cases op <;> simp only [readA] at h ⊢ <;> first
    | (cases h; done)
    | skip
  case load ty x =>
    split at h
    · rename_i p hx
      obtain ⟨v0, e1, rfl⟩ := Option.map_eq_some_iff.1 h
      have : loadVarA P ty p a' = loadVarA P ty p a := by
        unfold loadVarA; simp only [hload p _ hg]
      simp only [this, e1, Option.map_some]
    · cases h
  case convert s d x =>
    split at h
    · cases h; rfl
    · rename_i p n c hx
      split at h
      · rename_i cs hcs
        split at h
        · rename_i bs hbs
          cases h
          simp only [hload p _ hg, hcs, hbs]
        · cases h
      · cases h
    · cases h
  case lookup ty m k ok =>
    split at h
    · rename_i r0 u hm hk
      obtain ⟨v0, e1, rfl⟩ := Option.map_eq_some_iff.1 h
      have hmo : mapOf (.map r0) a' = mapOf (.map r0) a := by
        cases r0 with
        | none => rfl
        | some r1 => simp only [mapOf]; rw [show a'.get r1 = a.get r1 from hg]
      have : lookupA P ty (.map r0) u ok a' = lookupA P ty (.map r0) u ok a := by
        unfold lookupA; rw [hmo]
      simp only [this, e1, Option.map_some]
    · cases h
  case call c =>
    split at h
    · rename_i r0 hb ha
      obtain ⟨v0, e1, rfl⟩ := Option.map_eq_some_iff.1 h
      have hmo : mapOf (.map r0) a' = mapOf (.map r0) a := by
        cases r0 with
        | none => rfl
        | some r1 => simp only [mapOf]; rw [show a'.get r1 = a.get r1 from hg]
      simp only [hmo, e1, Option.map_some]
    · cases h
end
end Go.Proofs.YtmdfejlfdgaomaaAM
