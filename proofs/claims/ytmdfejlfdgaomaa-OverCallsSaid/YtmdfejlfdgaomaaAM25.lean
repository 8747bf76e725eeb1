/- What the evaluator answers is what the program answers. -/
import Derived.Test.YtmdfejlfdgaomaaAM24
namespace Go.Proofs.YtmdfejlfdgaomaaAM
open Go Go.RowKit
set_option linter.unusedVariables false
set_option linter.unusedSimpArgs false

section
variable {P : Program} {G : Gives}
theorem trace_of {ops : Array Oper} : ∀ (n : Nat) (l : List Nat) (notes : List (Nat × Note)) (t : List Value) (a : AW) (t2 : List Value) (a2 : AW), regA P G n ops l notes t a = some (t2, a2) →
    ∃ rem : List TOp, rem.map (·.1) = l ∧ Tr P G ops rem t a t2 a2 ∧ (∀ x ∈ rem, x.2.1 < n) ∧ (rem.Pairwise fun x y => unord (ancs ops) x.1 y.1 = true → clash x.2.2 y.2.2 = false) ∧
      ∀ x ∈ rem, ∀ j m, (j, m) ∈ notes → unord (ancs ops) j x.1 = true → clash m x.2.2 = false := by
  intro n
  induction n with
  | zero => intro l notes t a t2 a2 h; cases h
  | succ n ih =>
    intro l notes t a t2 a2 h
    unfold regA at h
    cases l with
    | nil =>
      simp only [Option.some.injEq, Prod.mk.injEq] at h
      obtain ⟨rfl, rfl⟩ := h
      exact ⟨[], rfl, .nil _ _, fun x hx => (by cases hx), .nil, fun x hx => (by cases hx)⟩
    | cons i l =>
      simp only at h
      split at h
      · cases h
      · rename_i nt t1 a1 hst
        split at h
        · rename_i hcalm
          obtain ⟨rem, h1, h2, h3, h4, h5⟩ := ih l _ _ _ _ _ h
          have hc : ∀ j m, (j, m) ∈ notes → unord (ancs ops) j i = true → clash m nt = false := by
            intro j m hjm hu
            have := List.all_eq_true.1 hcalm (j, m) hjm
            simpa [hu] using this
          refine ⟨(i, n, nt) :: rem, by rw [List.map_cons, h1], .cons hst h2, fun x hx => ?_, ?_, fun x hx j m hjm hu => ?_⟩
          · rcases List.mem_cons.1 hx with rfl | hx
            · exact Nat.lt_succ_self _
            · exact Nat.lt_succ_of_lt (h3 x hx)
          · rw [List.pairwise_cons]
            exact ⟨fun x hx hu => h5 x hx i nt (by simp) hu, h4⟩
          · rcases List.mem_cons.1 hx with rfl | hx
            · exact hc j m hjm hu
            · exact h5 x hx j m (by simp [hjm]) hu
        · cases h
/-- A number is passed over. -/
theorem step_pass {ρ : Ren} {a : AW} {w : World} (h : WRel ρ a w) : Step ρ a.next w ρ { a with next := a.next + 1 } w := by
  have hx : Ext ρ a.next ρ (a.next + 1) := ⟨Nat.le_succ _, fun i _ => .inl rfl⟩
  have fl : ∀ {n : Nat} {l : List (Nat × Blk)}, Falls n l → Falls (n + 1) l := by
    intro n l hf
    cases hf with
    | nil => exact .nil _
    | cons h r => exact .cons (Nat.lt_succ_of_lt h) r
  refine ⟨⟨fl h.falls, fun i I e => Nat.lt_succ_of_lt (h.lt i I e), fun i I e => ?_, h.has, h.inj⟩, hx, fun i I e => .inl ⟨i, I, e, rfl, rfl⟩, fun _ _ _ => rfl, Nat.le_refl _, rfl, rfl, rfl⟩
  obtain ⟨b, o, e1, e2, e3⟩ := h.blk i I e
  exact ⟨b, o, e1, e2, e3.mono hx⟩
theorem reg_of {N : Nat} (hc : ∀ m, m ≤ N → CallAt P G m ∧ RoundAt P G m) : RegAt P G (N + 1) := by
  intro ops tmps a tmps' a' hplan h hb
  obtain ⟨rem, h1, h2, h3, h4, _⟩ := trace_of _ _ _ _ _ _ _ h
  have hp := plan_of hplan
  have hN : ∀ x ∈ rem, x.2.1 ≤ N := fun x hx => Nat.le_of_lt_succ (h3 x hx)
  have hb' : ({ a with next := a.next + 1 } : AW).base ≤ ({ a with next := a.next + 1 } : AW).next := Nat.le_succ_of_le hb
  have hpass : Evo a { a with next := a.next + 1 } := ⟨rfl, Nat.le_succ _, fun _ h => h, fun _ _ _ => rfl⟩
  refine ⟨hpass.trans (h2.evo hc hN hb'), fun ρ w act b k cs t hw ht => ?_⟩
  have hlen : rem.length = ops.size := by
    have := congrArg List.length h1
    simpa using this
  have stage : Stage P ops N rem [] (Array.replicate ops.size false) := by
    refine ⟨by simp, fun i hi => ?_, by rw [h1]; exact List.pairwise_lt_range, fun i hi => by rw [h1] at hi; simpa using hi, fun j o ho hj x hx => ?_, h4, hN, fun i hi => (by cases hi), .nil⟩
    · rw [h1]; simp [Array.getD_eq_getD_getElem?, hi]
    · rw [h1] at hj
      have := (Array.getElem?_eq_some_iff.1 ho).1
      rcases hj with hj | hj
      · exact absurd (List.mem_range.2 this) hj
      · cases hj
  have st := step_pass hw
  have hlive : (live rem []).length = ops.size := by
    rw [← hlen]; unfold live; simp
  have := lin_sim hp hc (ρ0 := ρ) (K0 := a.next + 1) (w0 := w) (r0 := a.next) (Nat.lt_succ_self _) (hw.none (Nat.le_refl _)) ops.size rem [] hlive t (Array.replicate ops.size false) stage h2 hb' ρ w act b k cs
    ⟨.refl st.rel, ht.mono st.ext, fun p hp => (by cases hp)⟩
  obtain ⟨ρ1, act1, w1, hs, st1, ht1, hd1⟩ := this
  exact ⟨ρ1, act1, w1, hs, st.trans st1, ht1, hd1⟩

/-- All of it, at every number of rounds. -/
theorem sound_all (hm : P.follows .mixedOrders = true) (hn : plainNames P = true) (hG : G.Sound P) : ∀ n, ∀ m, m ≤ n → OpsAt P G m ∧ RegAt P G m ∧ CodeAt P G m ∧ CallAt P G m ∧ RoundAt P G m := by
  intro n
  induction n with
  | zero =>
    intro m hm0
    obtain rfl : m = 0 := by omega
    refine ⟨?_, ?_, ?_, ?_, ?_⟩
    · intro fn ro ops l tmps a tmps' a' h; simp [opsA] at h
    · intro ops tmps a tmps' a' hp h; simp [regA] at h
    · intro fn ro c tmps ds a e tmps' ds' a' h; simp [codeA] at h
    · intro f args a v a' h; simp [callA] at h
    · intro l args a v a' h; simp [roundA] at h
  | succ n ih =>
    intro m hmn
    by_cases hle : m ≤ n
    · exact ih m hle
    · obtain rfl : m = n + 1 := by omega
      obtain ⟨h1, h2, h3, h4, h5⟩ := ih n (Nat.le_refl _)
      exact ⟨ops_succ h1 h4 h5, reg_of fun m hm => ⟨(ih m hm).2.2.2.1, (ih m hm).2.2.2.2⟩, code_succ hm hn h3 h1 h2 h4, call_succ hn hG h3, round_succ h3⟩
theorem sound (hm : P.follows .mixedOrders = true) (hn : plainNames P = true) (hG : G.Sound P) (n : Nat) : CallAt P G n := (sound_all hm hn hG n n (Nat.le_refl _)).2.2.2.1

def none_ : Gives := fun _ => none
theorem none_sound (P : Program) : none_.Sound P := ⟨fun f g h => (by cases h), fun f g h => (by cases h)⟩
def empty : AW := { next := 0, heap := [], base := 0, dirty := [] }
def noRen : Ren := fun _ => none
theorem rel_empty (w : World) : WRel noRen empty w :=
  ⟨.nil 0, fun i I h => (by cases h), fun i I h => (by cases h), fun i b h => (by cases h), fun i j I J h => (by cases h)⟩
theorem below_of {a : AW} {w w' : World} {ρ' : Ren} (st : Step noRen 0 w ρ' a w') : Below w.heap.size w w' :=
  ⟨st.os, st.tape, st.output, st.size, fun k hk => st.frame k hk fun i I h => (by cases h)⟩
/-- A call that asks no memory of others. -/
theorem closed_calls (hm : P.follows .mixedOrders = true) (hn : plainNames P = true) (hG : G.Sound P) {f : FuncId} {fn : Func} (hf : P.funcs[f]? = some fn) (hb : fn.body.isSome = true) {args : Array Value} (ha : args.toList.all flat = true) {n : Nat} {v : Value} {a' : AW}
    (h : callA P G n f args empty = some (v, a')) (hv : flat v = true) (w : World) : Calls P f args w fun e w' => e = .returned v ∧ Below w.heap.size w w' := by
  obtain ⟨_, sim⟩ := sound hm hn hG n f args empty v a' h (Nat.le_refl _)
  have hc := sim noRen w args (rel_empty w) (flats_self ha)
  have hent := names_enter hn hf hb args w
  rcases hc with ⟨v1, w1, e1, _⟩ | ⟨_, hcl⟩
  · rw [hent] at e1; cases e1
  · refine hcl.mono fun e w' hh => ?_
    obtain ⟨v', rfl, ρ', st, hr⟩ := hh
    rw [flat_eq hv hr]
    exact ⟨rfl, below_of st⟩
/-- Such a call, its answer told by a test. -/
def tells (r : Option (Value × AW)) (v : Bool) : Bool :=
  match r with
  | some (.bool b, _) => b == v
  | _ => false
theorem closed_bool (hm : P.follows .mixedOrders = true) (hn : plainNames P = true) {f : FuncId} {fn : Func} (hf : P.funcs[f]? = some fn) (hb : fn.body.isSome = true) {n : Nat} {b : Bool}
    (h : tells (callA P none_ n f #[] empty) b = true) (w : World) : Calls P f #[] w fun e w' => e = .returned (.bool b) ∧ Below w.heap.size w w' := by
  cases hr : callA P none_ n f #[] empty with
  | none => rw [hr] at h; cases h
  | some r =>
    obtain ⟨v, a'⟩ := r
    rw [hr] at h
    cases v with
    | bool c =>
      have : c = b := by simpa [tells] using h
      subst this
      exact closed_calls hm hn (none_sound P) hf hb rfl hr rfl w
    | _ => cases h
#print axioms closed_bool
end
end Go.Proofs.YtmdfejlfdgaomaaAM
