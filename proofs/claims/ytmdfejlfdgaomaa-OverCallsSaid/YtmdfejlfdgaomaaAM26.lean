/- Calls of flat values that were reckoned before. -/
import Derived.Test.YtmdfejlfdgaomaaAM25
namespace Go.Proofs.YtmdfejlfdgaomaaAM
open Go Go.RowKit
set_option linter.unusedVariables false
set_option linter.unusedSimpArgs false

/-- What was reckoned of one function: arguments, answer. -/
structure Known where
  f : FuncId
  args : Array Value
  v : Value
def eqList (e : Value → Value → Bool) : List Value → List Value → Bool
  | [], [] => true
  | a :: x, b :: y => e a b && eqList e x y
  | _, _ => false
/-- Equal flat values: no false yes. -/
def eqN : Nat → Value → Value → Bool
  | 0, _, _ => false
  | n + 1, v, u => match v, u with
    | .bool a, .bool b => a == b
    | .int k a, .int j b => decide (k = j) && decide (a = b)
    | .string s, .string t => eqBytes (strOf s) (strOf t)
    | .agg c, .agg d => eqList (eqN n) c.toList d.toList
    | .tuple c, .tuple d => eqList (eqN n) c.toList d.toList
    | _, _ => false
theorem eqList_of {e : Value → Value → Bool} (h : ∀ a b, e a b = true → a = b) : ∀ {l m : List Value}, eqList e l m = true → l = m
  | [], [], _ => rfl
  | [], _ :: _, q => by cases q
  | _ :: _, [], q => by cases q
  | a :: x, b :: y, q => by
    simp only [eqList, Bool.and_eq_true] at q
    rw [h a b q.1, eqList_of h q.2]
theorem eqBytes_of : ∀ {l m : List UInt8}, eqBytes l m = true → l = m
  | [], [], _ => rfl
  | [], _ :: _, q => by cases q
  | _ :: _, [], q => by cases q
  | a :: x, b :: y, q => by
    simp only [eqBytes, Bool.and_eq_true] at q
    rw [UInt8.toNat_inj.1 (Nat.eq_of_beq_eq_true q.1), eqBytes_of q.2]
theorem eqN_of : ∀ n v u, eqN n v u = true → v = u := by
  intro n
  induction n with
  | zero => intro v u h; cases h
  | succ n ih =>
    intro v u h
    unfold eqN at h
    split at h
    · simpa using h
    · simp only [Bool.and_eq_true, decide_eq_true_eq] at h
      rw [h.1, h.2]
    · rename_i s t
      have := eqBytes_of h
      obtain ⟨⟨s⟩⟩ := s
      obtain ⟨⟨t⟩⟩ := t
      simp only [strOf] at this
      subst this; rfl
    · rename_i c d
      rw [Array.toList_inj.1 (eqList_of ih h)]
    · rename_i c d
      rw [Array.toList_inj.1 (eqList_of ih h)]
    · cases h
def findK (f : FuncId) (args : Array Value) : List Known → Option Value
  | [] => none
  | k :: r => if k.f = f then (if eqList (eqN 6) k.args.toList args.toList then some k.v else findK f args r) else findK f args r
def memo (l : List Known) : Gives := fun f => some fun args a => (findK f args l).map (·, a)
/-- A fact that was reckoned. -/
def Known.Holds (P : Program) (k : Known) : Prop := k.args.toList.all flat = true ∧ flat k.v = true ∧ (∃ fn, P.funcs[k.f]? = some fn ∧ fn.body.isSome = true) ∧ ∀ w, Calls P k.f k.args w fun e w' => e = .returned k.v ∧ Below w.heap.size w w'
theorem findK_of {f : FuncId} {args : Array Value} {v : Value} : ∀ {l : List Known}, findK f args l = some v → ∃ k ∈ l, k.f = f ∧ k.args = args ∧ k.v = v
  | [], h => by cases h
  | k :: r, h => by
    unfold findK at h
    split at h
    · rename_i hf
      split at h
      · rename_i he
        cases h
        exact ⟨k, by simp, hf, Array.toList_inj.1 (eqList_of (eqN_of 6) he), rfl⟩
      · obtain ⟨k', h1, h2⟩ := findK_of h
        exact ⟨k', by simp [h1], h2⟩
    · obtain ⟨k', h1, h2⟩ := findK_of h
      exact ⟨k', by simp [h1], h2⟩
theorem step_below {ρ : Ren} {a : AW} {w w' : World} (h : WRel ρ a w) (hb : Below w.heap.size w w') : Step ρ a.next w ρ a w' := by
  obtain ⟨h1, h2, h3, h4, h5⟩ := hb
  refine ⟨⟨h.falls, h.lt, fun i I e => ?_, h.has, h.inj⟩, .refl _ _, fun i I e => .inl ⟨i, I, e, rfl, rfl⟩, fun b hlt _ => h5 b hlt, h4, h1, h2, h3⟩
  obtain ⟨b, o, e1, e2, e3⟩ := h.blk i I e
  exact ⟨b, o, e1, by rw [h5 _ (h.bound e)]; exact e2, e3⟩
section
variable {P : Program}
theorem memo_sound (hn : plainNames P = true) {l : List Known} (h : ∀ k ∈ l, k.Holds P) : (memo l).Sound P := by
  refine ⟨fun f g hg ρ a w args args' v a' hw ha e => ?_, fun f g hg args a v a' hb e => ?_⟩
  · cases hg
    obtain ⟨v0, h1, h2⟩ := Option.map_eq_some_iff.1 e
    cases h2
    obtain ⟨k, hk, rfl, rfl, rfl⟩ := findK_of h1
    obtain ⟨q1, q2, ⟨fn, q3, q4⟩, q5⟩ := h k hk
    have he : args' = k.args := Array.toList_inj.1 (flats_eq q1 ha)
    subst he
    exact .inr ⟨names_enter hn q3 q4 _ w, (q5 w).mono fun e w' hh => ⟨k.v, hh.1, ρ, step_below hw hh.2, flat_self q2⟩⟩
  · cases hg
    obtain ⟨v0, h1, h2⟩ := Option.map_eq_some_iff.1 e
    cases h2
    exact .refl _
/-- One more fact, with the help of those before. -/
theorem known_more (hm : P.follows .mixedOrders = true) (hn : plainNames P = true) {l : List Known} (hl : ∀ k ∈ l, k.Holds P) {f : FuncId} {fn : Func} (hf : P.funcs[f]? = some fn) (hb : fn.body.isSome = true) {args : Array Value} {n : Nat} {v : Value} (ha : args.toList.all flat = true) (hv : flat v = true)
    (h : (match callA P (memo l) n f args empty with
      | some (u, _) => eqN 6 v u
      | none => false) = true) : (⟨f, args, v⟩ : Known).Holds P := by
  refine ⟨ha, hv, ⟨fn, hf, hb⟩, fun w => ?_⟩
  split at h
  · rename_i u a' hc
    obtain rfl := eqN_of 6 v u h
    exact closed_calls hm hn (memo_sound hn hl) hf hb ha hc hv w
  · cases h
theorem closed_memo (hm : P.follows .mixedOrders = true) (hn : plainNames P = true) {l : List Known} (hl : ∀ k ∈ l, k.Holds P) {f : FuncId} {fn : Func} (hf : P.funcs[f]? = some fn) (hb : fn.body.isSome = true) {n : Nat} {b : Bool}
    (h : tells (callA P (memo l) n f #[] empty) b = true) (w : World) : Calls P f #[] w fun e w' => e = .returned (.bool b) ∧ Below w.heap.size w w' := by
  cases hr : callA P (memo l) n f #[] empty with
  | none => rw [hr] at h; cases h
  | some r =>
    obtain ⟨v, a'⟩ := r
    rw [hr] at h
    cases v with
    | bool c =>
      have : c = b := by simpa [tells] using h
      subst this
      exact closed_calls hm hn (memo_sound hn hl) hf hb rfl hr rfl w
    | _ => cases h
#print axioms closed_memo
end
end Go.Proofs.YtmdfejlfdgaomaaAM
