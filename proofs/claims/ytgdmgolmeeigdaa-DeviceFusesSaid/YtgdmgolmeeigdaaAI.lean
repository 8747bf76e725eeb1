/- Arguments that are slices: blocks that are read only. -/
import Derived.Test.YtgdmgolmeeigdaaAMD
import Derived.Deep.Slices
namespace Go.Proofs.YtgdmgolmeeigdaaAM
open Go Go.RowKit Go.ChangeShapes Go.WideShapes Go.ChangeAt Go.Joins Go.Deep
set_option linter.unusedVariables false

/-- A memory that holds arguments: all of it read only. -/
structure InRel (ρ : Ren) (a : AW) (W : World) : Prop where
  rel : WRel ρ a W
  ro : ∀ i I, ρ i = some I → I.rw = false
  base : a.base ≤ a.next
theorem in_empty (W : World) : InRel noRen empty W := ⟨rel_empty W, fun i I h => (by cases h), Nat.le_refl _⟩
theorem in_block {ρ : Ren} {a : AW} {W : World} (h : InRel ρ a W) {b off : Nat} {c' : Array Value} {e : TypeId} {fr : Nat × Nat} {cs : List Value} (hb : W.heap[b]? = some (.cells c' e fr))
    (hc : ∀ (j : Nat) v, cs[j]? = some v → ∃ v', c'[j + off]? = some v' ∧ VRel ρ a.next v v') :
    InRel (upd ρ a.next (some ⟨b, off, 0, false⟩)) ⟨a.next + 1, (a.next, .cells cs false) :: a.heap, a.base, a.dirty⟩ W ∧ Ext ρ a.next (upd ρ a.next (some ⟨b, off, 0, false⟩)) (a.next + 1) := by
  have hx : Ext ρ a.next (upd ρ a.next (some ⟨b, off, 0, false⟩)) (a.next + 1) := ext_new h.rel _
  have hlt : ∀ i I, ρ i = some I → i < a.next := h.rel.lt
  refine ⟨⟨⟨.cons (Nat.lt_succ_self _) h.rel.falls, fun i I e => ?_, fun i I e => ?_, fun i b0 e => ?_, fun i j I J e1 e2 _ => ?_⟩, fun i I e => ?_, by have := h.base; simp only; omega⟩, hx⟩
  · simp only [upd] at e
    split at e
    · rename_i hi; simp only; omega
    · have := hlt i I e; simp only; omega
  · simp only [upd] at e
    split at e
    · rename_i hi
      cases e
      refine ⟨.cells cs false, .cells c' e fr, by rw [get_mk, hi, look_self], hb, .cells (I := ⟨b, off, 0, false⟩) (fun j v ej => ?_) (fun hf => by cases hf)⟩
      obtain ⟨v', e1, e2⟩ := hc j v ej
      exact ⟨v', e1, e2.mono hx⟩
    · obtain ⟨b1, o1, e1, e2, e3⟩ := h.rel.blk i I e
      have := hlt i I e
      exact ⟨b1, o1, by rw [get_mk, look_miss (by omega)]; exact e1, e2, e3.mono hx⟩
  · by_cases hi : i = a.next
    · exact ⟨⟨b, off, 0, false⟩, by simp only [upd, hi, if_true]⟩
    · rw [get_mk, look_miss hi] at e
      obtain ⟨I, eI⟩ := h.rel.has i b0 e
      exact ⟨I, by simp only [upd, hi, if_false]; exact eI⟩
  · right
    have hh : ∀ i I, upd ρ a.next (some ⟨b, off, 0, false⟩) i = some I → I.rw = false := by
      intro i I e
      simp only [upd] at e
      split at e
      · cases e; rfl
      · exact h.ro i I e
    exact ⟨hh _ _ e1, hh _ _ e2⟩
  · simp only [upd] at e
    split at e
    · cases e; rfl
    · exact h.ro i I e
/-- A number is passed over. -/
theorem in_pass {ρ : Ren} {a : AW} {W : World} (h : InRel ρ a W) : InRel ρ ⟨a.next + 1, a.heap, a.base, a.dirty⟩ W ∧ Ext ρ a.next ρ (a.next + 1) :=
  ⟨⟨(step_pass h.rel).rel, h.ro, Nat.le_succ_of_le h.base⟩, (step_pass h.rel).ext⟩
section
variable {P : Program}
theorem law_calls_in (hm : P.follows .mixedOrders = true) (hn : plainNames P = true) {G : Gives} (hG : G.Sound P) {f : FuncId} {fn : Func} (hf : P.funcs[f]? = some fn) (hb : fn.body.isSome = true) {ρ : Ren} {a : AW} {W : World} (hin : InRel ρ a W) {args args' : List Value} (ha : LRel ρ a.next args args')
    (h : WCall P G f args a fun v _ => v = .bool true) : Calls P f args'.toArray W fun e w' => e = .returned (.bool true) ∧ Below W.heap.size W w' := by
  obtain ⟨n, v, b, hc, rfl⟩ := h
  obtain ⟨_, sim⟩ := sound hm hn hG n f args.toArray a _ b hc hin.base
  have hent := names_enter hn hf hb args'.toArray W
  rcases sim ρ W args'.toArray hin.rel (by simpa using ha) with ⟨v1, w1, e1, _⟩ | ⟨_, hcl⟩
  · rw [hent] at e1; cases e1
  · refine hcl.mono fun e w' hh => ?_
    obtain ⟨v', rfl, ρ', st, hr⟩ := hh
    cases hr
    exact ⟨rfl, st.os, st.tape, st.output, st.size, fun k hk => st.frame k hk fun i I e hrw => by rw [hin.ro i I e] at hrw; cases hrw⟩
end
section
variable {H : Type} {enc0 : TypeId × Value → H} {P : Program} {W : World} {held : Bool}
/-- A list of flat elements, opened. -/
theorem open_flats {α : Type} [Inhabited α] (enc : α → List Value) (Good : α → Prop) {r : Reach} {b0 : Nat} {t e : TypeId} {z : Nat} {v : Value} {d : DataW H} {p : List MemPlace} (ht : P.underlying t = some (.slice e)) (hz : P.cellsOf e = z)
    (hflat : ∀ x, (enc x).all flat = true) (hlen : ∀ x, (enc x).length = z)
    (hel : ∀ cs n y, DataW.trod enc0 P W 0 (fun _ => true) held n e cs = some y → ∃ x, cs = enc x ∧ Good x)
    (hv : Value.okWide P W r b0 t v) (h : DataW.Trod enc0 P W 0 (fun _ => true) held t v d p) {ρ : Ren} {a : AW} (hin : InRel ρ a W) :
    ∃ (xs : List α) (v0 : Value) (ρ' : Ren) (a' : AW), (∀ x ∈ xs, Good x) ∧ InRel ρ' a' W ∧ Ext ρ a.next ρ' a'.next ∧ VRel ρ' a'.next v0 v ∧ ListV enc a'.heap a'.next v0 xs ∧ a.next ≤ a'.next ∧ (∀ j, j < a.next → look j a'.heap = look j a.heap) := by
  obtain ⟨a0, len, cap, rfl⟩ := okWide_slice ht hv
  obtain ⟨fuel, hf⟩ := h
  rcases open_slice ht hf with ⟨e0, _⟩ | ⟨q, len', cap', m, n, D, Pl, e0, hb, hl, hcap, hm, hd, hx⟩
  · have e1 : (Value.slice a0 len cap).cells.toList = [.slice a0 len cap] := rfl
    rw [e1] at e0
    cases e0
    exact ⟨[], .slice none 0 0, ρ, a, fun x hx => (by cases hx), hin, .refl _ _, .sliceNil 0 0, .inl ⟨rfl, rfl⟩, Nat.le_refl _, fun _ _ => rfl⟩
  · have e1 : (Value.slice a0 len cap).cells.toList = [.slice a0 len cap] := rfl
    rw [e1] at e0
    cases e0
    have hhas : W.has P r b0 q e cap := by
      simp only [Value.okWide, ht, Cell.okWide, Cell.ok] at hv
      exact hv.2.2
    obtain ⟨hlets, hspot, row, cells, hshape, _⟩ := hhas
    simp only [if_true] at hm
    subst hm
    obtain ⟨qb, qo, qs⟩ := q
    simp only at hspot
    subst hspot
    obtain ⟨c', e', fr, hblk⟩ : ∃ c' e' fr, W.heap[qb]? = some (.cells c' e' fr) := by
      simp only [World.shape?] at hshape
      split at hshape
      · rename_i c e f hh; exact ⟨c, e, f, hh⟩
      · cases hshape
    have each : ∀ i, i < len → ∃ x : α, Good x ∧ ∀ j, j < z → c'[qo + i * z + j]? = (enc x)[j]? := by
      intro i hi
      obtain ⟨cs', h1, h2⟩ := hx i (by omega)
      obtain ⟨x, rfl, hg⟩ := hel _ _ _ h2
      rw [hz] at h1
      obtain ⟨_, hl', hc⟩ := World.cells?_some h1
      refine ⟨x, hg, fun j hj => ?_⟩
      rw [← hc j hj, add_add]
      have : (⟨qb, qo, none⟩ : Addr).add (i * z + j) = ⟨qb, qo + (i * z + j), none⟩ := add_plain ..
      rw [this]
      simp only [World.cell?, hblk, Option.isSome_none, Bool.false_eq_true, if_false, Nat.add_assoc]
    obtain ⟨X, hX⟩ := choose_lt each
    have hxs : ∀ (k : Nat), k ≤ len → ∀ (j : Nat) v, (((List.range k).map X).flatMap enc)[j]? = some v → c'[j + qo]? = some v ∧ flat v = true := by
      intro k
      induction k with
      | zero => intro _ j v e; simp at e
      | succ k ih =>
        intro hk j v e
        rw [List.range_succ, List.map_append, List.flatMap_append] at e
        have hfl : (((List.range k).map X).flatMap enc).length = k * z := by rw [flatMap_len hlen]; simp
        by_cases hj : j < k * z
        · rw [List.getElem?_append_left (by omega)] at e
          exact ih (by omega) j v e
        · rw [List.getElem?_append_right (by omega), hfl] at e
          simp only [List.map_cons, List.map_nil, List.flatMap_cons, List.flatMap_nil, List.append_nil] at e
          have hjz : j - k * z < z := by
            obtain ⟨hj2, _⟩ := List.getElem?_eq_some_iff.1 e
            rw [hlen] at hj2; exact hj2
          have := (hX k (by omega)).2 (j - k * z) hjz
          refine ⟨by rw [show j + qo = qo + k * z + (j - k * z) by omega, this]; exact e, ?_⟩
          exact List.all_eq_true.1 (hflat _) v (List.mem_of_getElem? e)
    have hb2 := in_block hin (b := qb) (off := qo) (cs := ((List.range len).map X).flatMap enc) hblk fun j v e => ⟨v, (hxs len (Nat.le_refl _) j v e).1, flat_self (hxs len (Nat.le_refl _) j v e).2⟩
    refine ⟨(List.range len).map X, .slice (some ⟨a.next, 0, none⟩) len len, _, _, ?_, hb2.1, hb2.2, ?_, ?_, Nat.le_succ _, fun j hj => look_miss (by omega)⟩
    · intro x hx'
      obtain ⟨i, hi, rfl⟩ := List.mem_map.1 hx'
      exact (hX i (List.mem_range.1 hi)).1
    · refine .slice (Nat.lt_succ_self _) (fun I e => .inr ?_) (Nat.le_refl _) hl (fun h => by cases h) (fun z h => by cases h)
      simp only [upd, if_true] at e
      cases e
      simp
    · refine .inr ⟨a.next, none, len, false, by simp, look_self, Nat.lt_succ_self _⟩
end
end Go.Proofs.YtgdmgolmeeigdaaAM
