/- Chapter 14: sets of numbers, rows of numbers, an allocator as it lies. -/
import Derived.Test.YtlbmjpmonaekgaaU6
namespace Go.Proofs.YtlbmjpmonaekgaaAM
open Go Go.RowKit
set_option linter.unusedVariables false
set_option linter.unusedSimpArgs false
set_option maxRecDepth 10000
set_option maxHeartbeats 4000000

def ekU (x : Int) : Value := .int .u32 x
def evU (_ : Unit) : Value := .agg #[]
theorem keyU : KeyOk Try.prog 27 ekU := key_int und27
/-- A set of numbers, as it lies. -/
def SetIs (b : Option Blk) (L : List Int) : Prop := MapIs ekU evU b (L.map fun x => (x, ())) ∧ L.Nodup
theorem mget_set (L : List Int) (x : Int) : mget (L.map fun x => (x, ())) x = if x ∈ L then some () else none := by
  induction L with
  | nil => rfl
  | cons y r ih =>
    simp only [List.map_cons, mget]
    by_cases h : x = y
    · subst h; simp
    · rw [if_neg h, ih]
      simp [h]
theorem has55 {a : AW} {r : Nat} {L : List Int} (h : SetIs (look r a.heap) L) (x : Int) : lookupA Try.prog 55 (.map (some r)) (.int .u32 x) true a = some (.tuple #[.agg #[], .bool (decide (x ∈ L))]) := by
  have := lookup_map (ty := 55) und55 keyU z60 h.1 x true
  rw [mget_set] at this
  refine this.trans ?_
  by_cases hx : x ∈ L <;> simp [hx, evU]
/-- One more. -/
def addL (L : List Int) (x : Int) : List Int := if x ∈ L then L else L ++ [x]
theorem setM_set (L : List Int) (x : Int) : setM (L.map fun x => (x, ())) x () = (addL L x).map fun x => (x, ()) := by
  unfold setM addL
  rw [mget_set]
  by_cases hx : x ∈ L
  · simp only [hx, if_true]
    apply List.ext_getElem (by simp)
    intro i h1 h2
    rw [List.getElem_set]
    split
    · rename_i he
      have hlt : (L.map fun x => (x, ())).findIdx (fun p => decide (x = p.1)) < (L.map fun x => (x, ())).length := by rw [he]; simpa using h2
      have := List.findIdx_getElem (w := hlt)
      simp only [decide_eq_true_eq] at this
      subst he
      exact Prod.ext this rfl
    · rfl
  · simp [hx]
theorem addL_nodup {L : List Int} (h : L.Nodup) (x : Int) : (addL L x).Nodup := by
  unfold addL
  split
  · exact h
  · rename_i hx
    rw [List.nodup_append]
    refine ⟨h, by simp, fun a ha b hb => ?_⟩
    simp only [List.mem_singleton] at hb
    subst hb
    exact fun e => hx (e ▸ ha)
theorem mem_addL {L : List Int} {x y : Int} : y ∈ addL L x ↔ y = x ∨ y ∈ L := by
  unfold addL
  split
  · rename_i hx
    constructor
    · exact .inr
    · rintro (rfl | h)
      · exact hx
      · exact h
  · simp only [List.mem_append, List.mem_singleton]; exact Or.comm
theorem put55 {a : AW} {r : Nat} {L : List Int} (h : SetIs (look r a.heap) L) (x : Int) : ∃ b, updateA Try.prog 55 (.map (some r)) (.int .u32 x) (.agg #[]) a = some (a.write r b) ∧ SetIs (some b) (addL L x) := by
  obtain ⟨b, h1, h2⟩ := update_map (ty := 55) und55 keyU h.1 x ()
  rw [setM_set] at h2
  exact ⟨b, h1, h2, addL_nodup h.2 x⟩
theorem erase_at {α : Type} [BEq α] [LawfulBEq α] (x : α) : ∀ (l : List α), x ∈ l → l.eraseIdx (l.findIdx fun y => x == y) = l.erase x
  | [], h => by cases h
  | y :: r, h => by
    rw [List.findIdx_cons, List.erase_cons]
    by_cases hxy : x = y
    · subst hxy; simp
    · have h1 : (x == y) = false := by simpa using hxy
      have h2 : (y == x) = false := by simpa using fun e => hxy e.symm
      have hm : x ∈ r := by
        rcases List.mem_cons.1 h with e | h
        · exact absurd e hxy
        · exact h
      rw [h1, h2]
      simp only [cond_false, List.eraseIdx_cons_succ, Bool.false_eq_true, if_false]
      rw [erase_at x r hm]
theorem er_map {α β : Type} (f : α → β) : ∀ (l : List α) (i : Nat), (l.eraseIdx i).map f = (l.map f).eraseIdx i
  | [], _ => rfl
  | _ :: _, 0 => rfl
  | x :: r, i + 1 => by simp only [List.eraseIdx_cons_succ, List.map_cons, er_map f r i]
theorem del55 {a : AW} {r : Nat} {L : List Int} (h : SetIs (look r a.heap) L) (x : Int) : ∃ b, deleteA Try.prog 55 (.map (some r)) (.int .u32 x) a = some (a.write r b) ∧ SetIs (some b) (L.erase x) := by
  obtain ⟨⟨es, clock, hb, he, hbo, hnd⟩, hL⟩ := h
  obtain ⟨d, hd⟩ := findA_eq keyU
  have hg : a.get r = some (.obj (.map es clock)) := hb
  have hf := find_list (hd x []).2 x es.toList (L.map fun x => (x, ())) 0 he
  rw [mget_set] at hf
  have hfe : findA Try.prog 27 (.int .u32 x) es.toList = _ := (hd x es.toList).1.trans hf
  unfold deleteA
  simp only [mapTypes, und55, hg, hfe]
  by_cases hx : x ∈ L
  · simp only [hx, if_true, Option.map_some, Nat.zero_add]
    have hix : (L.map fun x => (x, ())).findIdx (fun p => decide (x = p.1)) = L.findIdx fun y => x == y := by
      clear hf hfe he hL hx
      induction L with
      | nil => rfl
      | cons y r ih =>
        simp only [List.map_cons, List.findIdx_cons, ih]
        by_cases hxy : x = y
        · subst hxy; simp
        · have hb2 : (x == y) = false := by simpa using hxy
          simp [hxy, hb2]
    rw [hix]
    have hlen : es.size = L.length := by
      have := congrArg List.length he
      simpa using this
    have hlt : (L.findIdx fun y => x == y) < es.size := by
      rw [hlen]
      exact List.findIdx_lt_length_of_exists ⟨x, hx, by simp⟩
    refine ⟨_, rfl, ⟨_, _, rfl, ?_, fun e h => ?_, ?_⟩, hL.erase x⟩
    · rw [Array.toList_eraseIdxIfInBounds, ← erase_at x L hx, er_map, er_map, er_map, he]
    · rw [Array.toList_eraseIdxIfInBounds] at h
      exact hbo e (List.mem_of_mem_eraseIdx h)
    · rw [Array.toList_eraseIdxIfInBounds]
      exact hnd.sublist ((List.eraseIdx_sublist ..).map _)
  · simp only [hx, if_false, Option.map_none]
    rw [List.erase_of_not_mem hx]
    exact ⟨_, rfl, ⟨es, clock, rfl, he, hbo, hnd⟩, hL⟩
theorem setA_of {a : AW} {r : Nat} {L : List Int} (h : SetIs (look r a.heap) L) (hl : L.length ≤ 60000) (hr : ∀ x ∈ L, 0 ≤ x ∧ x < 4294967296) : setA r a = some L := by
  obtain ⟨⟨es, clock, hb, he, hbo, hnd⟩, hL⟩ := h
  have hg : a.get r = some (.obj (.map es clock)) := hb
  have hk : ∀ (l : List MapEntry) (L : List Int), l.map (fun e => (e.key, e.val)) = (L.map fun x => (x, ())).map (fun p => (ekU p.1, evU p.2)) → keysA l = some L ∧ ∀ e ∈ l, flat e.val = true := by
    intro l
    induction l with
    | nil =>
      intro L h
      cases L with
      | nil => exact ⟨rfl, fun e h => by cases h⟩
      | cons => simp at h
    | cons e r ih =>
      intro L h
      cases L with
      | nil => simp at h
      | cons x L =>
        simp only [List.map_cons, List.cons.injEq, Prod.mk.injEq] at h
        obtain ⟨⟨e1, e2⟩, h⟩ := h
        obtain ⟨i1, i2⟩ := ih L h
        refine ⟨?_, fun e' h' => ?_⟩
        · unfold keysA
          rw [e1, i1]; rfl
        · rcases List.mem_cons.1 h' with rfl | h'
          · rw [e2]; rfl
          · exact i2 e' h'
  obtain ⟨k1, k2⟩ := hk _ _ he
  have hlen : es.size = L.length := by
    have := congrArg List.length he
    simpa using this
  unfold setA
  rw [hg]
  exact setU_of k1 (by omega) (fun e he => ⟨hbo e he, k2 e he⟩) hnd hr hL
end Go.Proofs.YtlbmjpmonaekgaaAM
