/- Chapter 14: what a set holds; what the iterators give, seen from the evaluator. -/
import Derived.Test.YtlbmjpmonaekgaaD1
import Derived.Test.YtlbmjpmonaekgaaU0
namespace Go.Proofs.YtlbmjpmonaekgaaAM
open Go Go.RowKit Go.WideElems
set_option linter.unusedVariables false
set_option linter.unusedSimpArgs false
set_option maxRecDepth 10000
set_option maxHeartbeats 4000000

/-- The numbers that are keys. -/
def keysA : List MapEntry → Option (List Int)
  | [] => some []
  | e :: r => match e.key, keysA r with
    | .int .u32 x, some l => some (x :: l)
    | _, _ => none
/-- A set of numbers, as it lies. -/
def setU (es : Array MapEntry) (clock : Nat) : Option (List Int) := match keysA es.toList with
  | some ks => if es.size ≤ 60000 ∧ (es.toList.all fun e => decide (e.born < clock) && flat e.val) = true ∧ (es.toList.map (·.born)).Nodup ∧ (ks.all fun x => decide (0 ≤ x ∧ x < 4294967296)) = true ∧ ks.Nodup then some ks else none
  | none => none
theorem keysA_len : ∀ {l : List MapEntry} {ks}, keysA l = some ks → l.map (·.key) = ks.map (Value.int .u32) ∧ ks.length = l.length
  | [], ks, h => by cases h; exact ⟨rfl, rfl⟩
  | e :: r, ks, h => by
    unfold keysA at h
    split at h
    · rename_i x l0 h1 h2
      cases h
      obtain ⟨i1, i2⟩ := keysA_len h2
      exact ⟨by simp only [List.map_cons, h1, i1], by simp only [List.length_cons, i2]⟩
    · cases h
theorem setU_inv {es : Array MapEntry} {clock : Nat} {ks : List Int} (h : setU es clock = some ks) : keysA es.toList = some ks ∧ es.size ≤ 60000 ∧ (∀ e ∈ es.toList, e.born < clock ∧ flat e.val = true) ∧ (es.toList.map (·.born)).Nodup ∧ (∀ x ∈ ks, 0 ≤ x ∧ x < 4294967296) ∧ ks.Nodup ∧ ks.length = es.size := by
  unfold setU at h
  split at h
  · rename_i k h1
    split at h
    · rename_i hc
      cases h
      obtain ⟨h2, h3, h4, h5, h6⟩ := hc
      simp only [List.all_eq_true, Bool.and_eq_true, decide_eq_true_eq] at h3 h5
      exact ⟨h1, h2, h3, h4, h5, h6, (keysA_len h1).2⟩
    · cases h
  · cases h
theorem setU_of {es : Array MapEntry} {clock : Nat} {ks : List Int} (h1 : keysA es.toList = some ks) (h2 : es.size ≤ 60000) (h3 : ∀ e ∈ es.toList, e.born < clock ∧ flat e.val = true) (h4 : (es.toList.map (·.born)).Nodup) (h5 : ∀ x ∈ ks, 0 ≤ x ∧ x < 4294967296) (h6 : ks.Nodup) : setU es clock = some ks := by
  unfold setU
  rw [h1]
  simp only
  rw [if_pos]
  refine ⟨h2, ?_, h4, ?_, h6⟩
  · simp only [List.all_eq_true, Bool.and_eq_true, decide_eq_true_eq]; exact h3
  · simp only [List.all_eq_true, decide_eq_true_eq]; exact h5
/-- It holds the same wherever it lies. -/
theorem es_same {ρ : Ren} {K : Nat} {l l' : List MapEntry} (h : EsRel ρ K l l') : ∀ {ks}, keysA l = some ks → (∀ e ∈ l, flat e.val = true) → l' = l := by
  induction h with
  | nil => intro ks _ _; rfl
  | cons he hr ih =>
    intro ks h hf
    cases he with
    | mk n hk hv =>
      unfold keysA at h
      simp only at h
      split at h
      · rename_i s l0 h2
        rw [ih h2 fun e he => hf e (by simp [he])]
        cases hk
        have := flat_eq (hf _ (List.mem_cons_self ..)) hv
        simp only at this
        rw [this]
      · cases h
/-- An entry, as it reads. -/
def anyR : Value → Option (DataW Unit × List MemPlace) := fun _ => some (.lit (.bool true), [])
theorem reads_of : ∀ {l : List MapEntry} {ks : List Int}, keysA l = some ks → (∀ x ∈ ks, 0 ≤ x ∧ x < 4294967296) →
    (∀ x ∈ l, ∃ y, rd Try.prog 27 anyR x = some y) ∧ l.map (rg Try.prog 27 anyR) = ks.map fun x => (Lit.int .u32 x, DataW.lit (.bool true))
  | [], ss, h, _ => by
    cases h
    exact ⟨fun x hx => by (cases hx), rfl⟩
  | e :: r, ss, h, hb => by
    unfold keysA at h
    split at h
    · rename_i s l0 h1 h2
      cases h
      obtain ⟨i1, i2⟩ := reads_of h2 fun x hx => hb x (by simp [hx])
      obtain ⟨key, val, born⟩ := e
      simp only at h1
      subst h1
      have hs := hb s (by simp)
      have hwf : (Lit.int .u32 s).wf = true := by
        simp only [Lit.wf, Bool.and_eq_true, decide_eq_true_eq]
        exact ⟨hs.1, Int.le_of_lt_add_one hs.2⟩
      have hk : keyOf Try.prog 27 (.int .u32 s) = some (.int .u32 s) := by
        show mapKey Try.prog 27 (.int .u32 s) = _
        unfold mapKey
        rw [und27]
        simp [hwf]
      have hrd : rd Try.prog 27 anyR ⟨.int .u32 s, val, born⟩ = some (.int .u32 s, .lit (.bool true)) := rd_mk (yv := (.lit (.bool true), [])) hk rfl
      refine ⟨fun x hx => ?_, ?_⟩
      · rcases List.mem_cons.1 hx with rfl | hx
        · exact ⟨_, hrd⟩
        · exact i1 x hx
      · simp only [List.map_cons, i2, rg_of hrd]
    · cases h
theorem own_u32 {es : Array MapEntry} {clock : Nat} {ks : List Int} (h : setU es clock = some ks) : ∃ D : DataW Unit, Go.Maps.size D = ks.length ∧ (∀ x, x ∈ ks ↔ Go.Maps.has D (.int .u32 x) = true) ∧ ∀ (w : World) b, w.heap[b]? = some (.map es clock) → w.ownsMap Try.prog 27 anyR b es.size D := by
  obtain ⟨h1, h2, h3, h4, h5, h6, h7⟩ := setU_inv h
  obtain ⟨r1, r2⟩ := reads_of h1 h5
  have hkn : (es.toList.map (·.key)).Nodup := by
    rw [(keysA_len h1).1]
    exact List.Pairwise.map _ (fun a b hab h => hab (by injection h)) h6
  have hfit : Fit Try.prog 27 anyR es clock := ⟨by unfold maxLen; omega, ⟨fun e he => (h3 e he).1, h4, hkn⟩, r1⟩
  refine ⟨.map ((es.toList.map (rg Try.prog 27 anyR)).foldr DataW.insert []), ?_, fun x => ?_, fun w b hmap => ⟨es, clock, hmap, hfit, Nat.le_refl _, rfl⟩⟩
  · show ((es.toList.map (rg Try.prog 27 anyR)).foldr DataW.insert []).length = _
    rw [Go.length_sorted, r2]; simp
  · rw [Go.Maps.has_eq, List.any_eq_true, r2]
    constructor
    · intro hx
      exact ⟨(.int .u32 x, .lit (.bool true)), (Go.WideShapes.sorted_perm _).mem_iff.2 (List.mem_map.2 ⟨x, hx, rfl⟩), by simp [Lit.sameKey]⟩
    · rintro ⟨p, hp, hs⟩
      obtain ⟨y, hy, rfl⟩ := List.mem_map.1 ((Go.WideShapes.sorted_perm _).mem_iff.1 hp)
      simp [Lit.sameKey] at hs
      exact hs ▸ hy
end Go.Proofs.YtlbmjpmonaekgaaAM
