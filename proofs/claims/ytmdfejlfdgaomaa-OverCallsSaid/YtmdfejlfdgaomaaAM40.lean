/- Loops over functions. -/
import Derived.Test.YtmdfejlfdgaomaaAM39
namespace Go.Proofs.YtmdfejlfdgaomaaAM
open Go Go.RowKit
set_option linter.unusedVariables false
set_option linter.unusedSimpArgs false

def soilW (bs : Nat) (d : List Nat) (i : Nat) : List Nat := if i < bs then (if d.contains i then d else i :: d) else d
theorem write_soil {n h bs d i b} : AW.write ⟨n, h, bs, d⟩ i b = ⟨n, putAt i b h, bs, soilW bs d i⟩ := rfl
theorem drop_soil {n h bs d i} : AW.drop ⟨n, h, bs, d⟩ i = ⟨n, kill i h, bs, soilW bs d i⟩ := rfl
/-- All that was touched lies from here on. -/
def From (lo : Nat) (d : List Nat) : Prop := ∀ j ∈ d, lo ≤ j
theorem from_nil {lo} : From lo [] := by intro j hj; cases hj
theorem from_soil {lo bs d i} (h : From lo d) (hi : lo ≤ i) : From lo (soilW bs d i) := by
  unfold soilW
  split
  · split
    · exact h
    · intro j hj
      rcases List.mem_cons.1 hj with rfl | hj
      · exact hi
      · exact h j hj
  · exact h
theorem soil_from {d : List Nat} {bs : Nat} : ∀ {m : List Nat}, From bs m → soilAll d bs m = d := by
  intro m
  induction m with
  | nil => intro _; rfl
  | cons i m ih =>
    intro h
    have h1 := ih fun j hj => h j (by simp [hj])
    have h2 : ¬ i < bs := by have := h i (by simp); omega
    show (if i < bs then _ else soilAll d bs m) = d
    rw [if_neg h2, h1]
theorem leave_dirty {before : AW} {vs : List Value} {n h bs d} (hd : d ≠ []) (hf : From before.base d) : leaveA before vs ⟨n, h, bs, d⟩ = (vs, ⟨n, h, before.base, before.dirty⟩) := by
  cases d with
  | nil => exact absurd rfl hd
  | cons i d =>
    simp only [leaveA, List.isEmpty_cons, Bool.false_eq_true, if_false]
    rw [soil_from hf]
section
variable {E : Program} {G : Gives} {fn : FuncId} {t : List Value} {ds : List Nat} {a : AW} {Q : ExitA → List Value → List Nat → AW → Prop}
theorem code_range {g : Operand} {ps assign body} {f : FuncId} {first captured : Array Value} (hg : evalA t g = some (.func (.func f) first captured)) (hb : (E.funcs[f]?).any (fun fn => fn.body.isSome) = true)
    (h : WCall E G f (first.toList ++ [.func (.yield (a.next + 1)) #[] #[]] ++ captured.toList)
      ⟨a.next + 2, (a.next + 1, .obj (.loop { state := .ready, pending := none, fn, tmps := t.toArray, params := ps, assign, body, defers := a.next })) :: (a.next, .obj (.deferred (some []))) :: a.heap, a.base, a.dirty⟩
      fun _ b => ∃ r, look (a.next + 1) b.heap = some (.obj (.loop r)) ∧ r.state ≠ .busy ∧ r.pending = none ∧ Q .normal t (a.next :: ds) (b.write (a.next + 1) (.obj (.loop { r with state := .exhausted })))) :
    WCode E G fn none (.rangeFunc g ps assign body) t ds a Q := by
  obtain ⟨n, v, b, hc, r, h1, h2, h3, hq⟩ := h
  refine ⟨n + 1, _, _, _, _, ?_, hq⟩
  rw [codeA]
  simp only [hg]
  rw [if_neg (by rw [hb]; simp)]
  have e : (first ++ #[Value.func (.yield (a.new (.obj (.deferred (some [])))).next) #[] #[]] ++ captured : Array Value) = (first.toList ++ [Value.func (.yield (a.next + 1)) #[] #[]] ++ captured.toList).toArray := by
    simp [AW.new]
  have e2 : ((a.new (.obj (.deferred (some [])))).new (.obj (.loop { state := .ready, pending := none, fn, tmps := t.toArray, params := ps, assign, body, defers := a.next }))) = (⟨a.next + 2, (a.next + 1, .obj (.loop { state := .ready, pending := none, fn, tmps := t.toArray, params := ps, assign, body, defers := a.next })) :: (a.next, .obj (.deferred (some []))) :: a.heap, a.base, a.dirty⟩ : AW) := rfl
  rw [e, e2, hc]
  simp only
  have e3 : b.get (a.new (.obj (.deferred (some [])))).next = some (.obj (.loop r)) := h1
  rw [e3]
  simp only
  have e4 : (a.new (.obj (.deferred (some [])))).next = a.next + 1 := rfl
  · cases hs : r.state with
    | busy => exact absurd hs h2
    | _ => simp only [h3, e4, Nat.add_sub_cancel]
  · exact hg
theorem code_range' {g : Operand} {ps assign body} {f : FuncId} {first captured : Array Value} (hg : evalA t g = some (.func (.func f) first captured)) (hb : (E.funcs[f]?).any (fun fn => fn.body.isSome) = true)
    (h : ∀ r0 : Loop, r0 = { state := .ready, pending := none, fn, tmps := t.toArray, params := ps, assign, body, defers := a.next } → WCall E G f (first.toList ++ [.func (.yield (a.next + 1)) #[] #[]] ++ captured.toList)
      ⟨a.next + 2, (a.next + 1, .obj (.loop r0)) :: (a.next, .obj (.deferred (some []))) :: a.heap, a.base, a.dirty⟩
      fun _ b => ∃ r, look (a.next + 1) b.heap = some (.obj (.loop r)) ∧ r.state ≠ .busy ∧ r.pending = none ∧ Q .normal t (a.next :: ds) (b.write (a.next + 1) (.obj (.loop { r with state := .exhausted })))) :
    WCode E G fn none (.rangeFunc g ps assign body) t ds a Q := code_range hg hb (h _ rfl)
theorem bin_eql_func {ty x c f u w a b v} (hf : flat (.func f u w) = false) (hu : E.underlying ty = some (.func a b v)) : binA E .eql ty x (.const c) (.func f u w) .nilFunc = some (.bool false) := by
  simp only [binA, hf, Bool.false_and, Bool.false_eq_true, if_false, hu, nilEq, isConstO, Bool.or_true, if_true]
/-- One round of such a loop. -/
theorem round_rule {l : Nat} {args : List Value} {K : Value → AW → Prop} {r : Loop} (hg : look l a.heap = some (.obj (.loop r))) (hs : args.length = r.params.size)
    (h : WCode E G r.fn (some l) r.assign ((r.params.toList.zip args).foldl (fun t (d, v) => t.set d v) r.tmps.toList) [] a fun e t ds a => e = .normal ∧ ds = [] ∧ ∃ r1, look l a.heap = some (.obj (.loop r1)) ∧ r1.state = .ready ∧
      WCode E G r.fn (some l) r.body t [] (a.write l (.obj (.loop { r1 with state := .busy }))) fun e _ _ a => ∃ r2, look l a.heap = some (.obj (.loop r2)) ∧
        K (.bool (jumpOf e).isNone) (a.write l (.obj (.loop { r2 with state := if (jumpOf e).isNone then .ready else .done, pending := jumpOf e })))) :
    WRound E G l args a K := by
  obtain ⟨n, e, t1, ds1, a1, hc, rfl, rfl, r1, h1, h2, m, e2, t2, ds2, a2, hc2, r2, h3, hk⟩ := h
  refine ⟨max n m + 1, _, _, ?_, hk⟩
  rw [roundA.eq_def]
  have g1 : a.get l = some (.obj (.loop r)) := hg
  have g2 : a1.get l = some (.obj (.loop r1)) := h1
  have g3 : a2.get l = some (.obj (.loop r2)) := h3
  simp only [g1, List.size_toArray, hs, if_true, code_mono (Nat.le_max_left n m) hc, g2, h2, code_mono (Nat.le_max_right n m) hc2, g3]
end
end Go.Proofs.YtmdfejlfdgaomaaAM
