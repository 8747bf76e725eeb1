/- Loads and stores: the evaluator's and the program's. -/
import Derived.Test.YtmdfejlfdgaomaaAM2
namespace Go.Proofs.YtmdfejlfdgaomaaAM
open Go Go.RowKit
set_option linter.unusedVariables false

theorem run_underlying {P : Program} {t : TypeId} {d : TypeDesc} (h : P.underlying t = some d) (w : World) : (underlying t).run P w = .ok d w := by
  unfold underlying
  simp only [Sem.run_bind, run_program, Result.andThen_ok, h, Sem.run_pure]
theorem run_typeInfo {P : Program} {t : TypeId} {i : TypeInfo} (h : P.info? t = some i) (w : World) : (typeInfo t).run P w = .ok i w := by
  unfold typeInfo
  simp only [Sem.run_bind, run_program, Result.andThen_ok, h, Sem.run_pure]
theorem run_sizeOf {P : Program} {t : TypeId} {n : Nat} (h : typeSize P t = some n) (w : World) : (sizeOf t).run P w = .ok n w := by
  unfold typeSize at h
  obtain ⟨i, hi, rfl⟩ := Option.map_eq_some_iff.1 h
  unfold sizeOf
  simp only [Sem.run_bind, run_typeInfo hi, Result.andThen_ok, Sem.run_pure]
theorem run_zeroValue {P : Program} {t : TypeId} {z : Value} (h : zeroV P t = some z) (w : World) : (zeroValue t).run P w = .ok z w ∧ flat z = true := by
  unfold zeroV at h
  split at h
  · rename_i i hi
    split at h
    · rename_i z' hz
      split at h
      · rename_i hf
        cases h
        refine ⟨?_, hf⟩
        unfold zeroValue
        simp only [Sem.run_bind, run_typeInfo hi, Result.andThen_ok, hz, Sem.run_pure]
      · cases h
    · cases h
  · cases h
theorem run_isAgg {P : Program} {t : TypeId} {b : Bool} (h : aggB P t = some b) (w : World) : (isAgg t).run P w = .ok b w := by
  unfold aggB at h
  cases hd : P.underlying t with
  | none => rw [hd] at h; cases h
  | some d =>
    rw [hd] at h
    unfold isAgg
    simp only [Sem.run_bind, run_underlying hd, Result.andThen_ok]
    cases d <;> simp at h <;> subst h <;> rfl

section
variable {P : Program} {ρ : Ren} {a : AW} {w : World}
/-- An address in both memories. -/
def AtRel (ρ : Ren) (p p' : Addr) : Prop := ∀ I, ρ p.block = some I → p' = ⟨I.b, p.off + I.sh, none⟩
theorem AtRel.add {p p' : Addr} (h : AtRel ρ p p') (n : Nat) (s : Option Nat) : AtRel ρ ⟨p.block, p.off + n, s⟩ (p'.add n) := by
  intro I e
  rw [h I e]
  unfold Addr.add
  split
  · subst_vars; simp
  · simp; omega
theorem AtRel.spot {p p' : Addr} (h : AtRel ρ p p') (s : Option Nat) : AtRel ρ ⟨p.block, p.off, s⟩ p' := h
theorem AtRel.mono {ρ' : Ren} {K K' : Nat} {p p' : Addr} (h : AtRel ρ p p') (hp : p.block < K) (hx : Ext ρ K ρ' K') : AtRel ρ' p p' := fun I e => h I (hx.some hp e)

theorem sim_loads (h : WRel ρ a w) {p p' : Addr} {n : Nat} {vs : List Value} (hp : AtRel ρ p p') (hl : a.loadN p n = some vs) :
    ∃ vs', LRel ρ a.next vs vs' ∧ vs'.length = n ∧ ∀ w2 : World, w2.heap = w.heap → (loadCells p' n).run P w2 = .ok vs'.toArray w2 := by
  unfold AW.loadN at hl
  split at hl
  · rename_i c rw_ hg
    split at hl
    · rename_i hle
      cases hl
      obtain ⟨I, e⟩ := h.has _ _ hg
      obtain ⟨b, o, g1, g2, g3⟩ := h.blk _ _ e
      rw [hg] at g1
      cases g1
      obtain ⟨hIrw, c', te, fr, rfl, hc, hw⟩ := g3.inv
      · obtain rfl := hp I e
        have hlen : ∀ j, j < n → ∃ v', c'[p.off + j + I.sh]? = some v' ∧ VRel ρ a.next (c[p.off + j]?.getD undef) v' := by
          intro j hj
          have hj' : c[p.off + j]? = some c[p.off + j] := List.getElem?_eq_getElem (by omega)
          obtain ⟨v', e1, e2⟩ := hc _ _ hj'
          exact ⟨v', e1, by rw [hj']; exact e2⟩
        refine ⟨(List.range n).map fun j => c'.getD (p.off + I.sh + j) undef, ?_, by simp, ?_⟩
        · refine LRel.of_get (by simp; omega) fun j v v' e1 e2 => ?_
          have hj : j < n := by
            have := (List.getElem?_eq_some_iff.1 e2).1; simpa using this
          obtain ⟨u, f1, f2⟩ := hlen j hj
          have e1' : c[p.off + j]? = some v := by
            rw [List.getElem?_take_of_lt hj, List.getElem?_drop] at e1; exact e1
          have e2' : v' = u := by
            simp only [List.getElem?_map, List.getElem?_range hj, Option.map_some, Option.some.injEq] at e2
            rw [← e2, Array.getD_eq_getD_getElem?, show p.off + I.sh + j = p.off + j + I.sh by omega, f1]; rfl
          rw [e1'] at f2
          exact e2' ▸ f2
        · intro w2 hh
          rw [← hh] at g2
          refine run_loadCells P w2 g2 (by simp) fun j v e1 => ?_
          have hj : j < n := by
            have := (List.getElem?_eq_some_iff.1 e1).1; simpa using this
          obtain ⟨u, f1, f2⟩ := hlen j hj
          simp only [List.getElem?_map, List.getElem?_range hj, Option.map_some, Option.some.injEq] at e1
          rw [show p.off + I.sh + j = p.off + j + I.sh by omega, f1, ← e1, Array.getD_eq_getD_getElem?, show p.off + I.sh + j = p.off + j + I.sh by omega, f1]; rfl
    · cases hl
  · cases hl

theorem sim_loadN (h : WRel ρ a w) {p p' : Addr} {n : Nat} {vs : List Value} (hp : AtRel ρ p p') (hl : a.loadN p n = some vs) :
    ∃ vs', LRel ρ a.next vs vs' ∧ vs'.length = n ∧ (loadCells p' n).run P w = .ok vs'.toArray w :=
  let ⟨vs', h1, h2, h3⟩ := sim_loads (P := P) h hp hl
  ⟨vs', h1, h2, h3 w rfl⟩

theorem over_get {c : Array Value} {off : Nat} {vs : List Value} (h : off + vs.length ≤ c.size) (j : Nat) :
    (over c off vs)[j]? = if j < off then c[j]? else if j < off + vs.length then vs[j - off]? else c[j]? := by
  unfold over
  simp only [List.getElem?_toArray]
  have h1 : (c.toList.take off).length = off := by simp; omega
  by_cases hj : j < off
  · rw [if_pos hj, List.getElem?_append_left (by omega), List.getElem?_take_of_lt hj, Array.getElem?_toList]
  · rw [if_neg hj, List.getElem?_append_right (by omega), h1]
    by_cases hj2 : j < off + vs.length
    · rw [if_pos hj2, List.getElem?_append_left (by omega)]
    · rw [if_neg hj2, List.getElem?_append_right (by omega), List.getElem?_drop, Array.getElem?_toList]
      congr 1; omega

/-- Cells are written into a block in place (its own number stays). -/
theorem sim_storeN (h : WRel ρ a w) {p p' : Addr} {vs vs' : List Value} {a' : AW} (hp : AtRel ρ p p') (hv : LRel ρ a.next vs vs') (hs : a.storeN p vs = some a') :
    ∃ w', (storeCells p' vs').run P w = .ok () w' ∧ Step ρ a.next w ρ a' w' := by
  unfold AW.storeN at hs
  split at hs
  · rename_i c hg
    split at hs
    · rename_i hle
      cases hs
      obtain ⟨I, e⟩ := h.has _ _ hg
      obtain ⟨b, o, g1, g2, g3⟩ := h.blk _ _ e
      rw [hg] at g1
      cases g1
      obtain ⟨hIrw, c', te, fr, rfl, hc, hw⟩ := g3.inv
      obtain rfl := hp I e
      have hsz := hv.length
      · obtain ⟨hn, hf⟩ := hw hIrw
        have hlast : ∀ j, j < c.length → j + I.sh < c'.size := by
          intro j hj
          obtain ⟨v', e1, _⟩ := hc j c[j] (List.getElem?_eq_getElem hj)
          exact (Array.getElem?_eq_some_iff.1 e1).1
        by_cases hvs : vs.length = 0
        · obtain rfl := List.eq_nil_of_length_eq_zero hvs
          cases hv
          refine ⟨w, rfl, ?_⟩
          refine step_write h e hIrw (b := .cells (c.take p.off ++ ([] ++ c.drop (p.off + ([] : List Value).length))) true) (o := .cells c' te fr) ?_ g2 rfl (fun _ _ => rfl) rfl rfl rfl
          have hcc : c.take p.off ++ ([] ++ c.drop (p.off + ([] : List Value).length)) = c := by simp
          rw [hcc, ← hIrw]
          exact .cells hc hw
        · have hroom : p.off + I.sh + vs'.length ≤ c'.size := by
            have := hlast (p.off + vs.length - 1) (by omega)
            omega
          have hone : vs'.all Value.oneCell' = true := by
            have h1 := hle.2
            clear hle hroom hsz hvs
            induction hv with
            | nil => rfl
            | cons hh _ ih =>
              simp only [List.all_cons, Bool.and_eq_true] at h1 ⊢
              exact ⟨by rw [← hh.oneCell]; exact h1.1, ih h1.2⟩
          have hrun := run_stores P vs' w c' (p.off + I.sh) 0 g2 hone (by omega) (fun o h1 h2 => hf o (by omega))
          refine ⟨_, hrun, ?_⟩
          refine step_write h e hIrw (o := .cells (over c' (p.off + I.sh) vs') te fr) ?_ (by simp [(Array.getElem?_eq_some_iff.1 g2).1]) (by simp) (fun k hk => by simp [Ne.symm hk]) rfl rfl rfl
          rw [← hIrw]
          refine .cells (fun j v ej => ?_) (fun _ => ⟨by rw [over_size hroom]; exact hn, hf⟩)
          rw [over_get hroom]
          have h1 : (c.take p.off).length = p.off := by simp; omega
          by_cases hj : j < p.off
          · rw [if_pos (by omega)]
            rw [List.getElem?_append_left (by omega), List.getElem?_take_of_lt hj] at ej
            exact hc j v ej
          · rw [if_neg (by omega)]
            rw [List.getElem?_append_right (by omega), h1] at ej
            by_cases hj2 : j < p.off + vs.length
            · rw [if_pos (by omega)]
              rw [List.getElem?_append_left (by omega)] at ej
              obtain ⟨v', e1, e2⟩ := hv.get ej
              exact ⟨v', by rw [show j + I.sh - (p.off + I.sh) = j - p.off by omega]; exact e1, e2⟩
            · rw [if_neg (by omega)]
              rw [List.getElem?_append_right (by omega), List.getElem?_drop] at ej
              rw [show p.off + vs.length + (j - p.off - vs.length) = j by omega] at ej
              exact hc j v ej
    · cases hs
  · cases hs

theorem sim_loadVar (h : WRel ρ a w) {t : TypeId} {p p' : Addr} {v : Value} (hp : AtRel ρ p p') (hl : loadVarA P t p a = some v) :
    ∃ v', (loadVar t p').run P w = .ok v' w ∧ VRel ρ a.next v v' := by
  unfold loadVarA at hl
  split at hl
  · rename_i ha
    split at hl
    · rename_i n hn
      split at hl
      · rename_i vs hvs
        cases hl
        obtain ⟨vs', hr, hlen, hrun⟩ := sim_loadN (P := P) h hp hvs
        refine ⟨.agg vs'.toArray, ?_, .agg' hr⟩
        unfold loadVar
        simp only [Sem.run_bind, run_isAgg ha, Result.andThen_ok, if_true, run_sizeOf hn, hrun, Sem.run_pure]
      · cases hl
    · cases hl
  · rename_i ha
    split at hl
    · rename_i u hvs
      cases hl
      obtain ⟨vs', hr, hlen, hrun⟩ := sim_loadN (P := P) h hp hvs
      cases hr with
      | cons hv hr => cases hr with
        | nil =>
          refine ⟨_, ?_, hv⟩
          unfold loadVar
          simp only [Sem.run_bind, run_isAgg ha, Result.andThen_ok, Bool.false_eq_true, if_false]
          unfold loadCells loadCellsFrom at hrun
          simp only [Sem.run_bind, Addr.add, if_true, loadCellsFrom, Sem.run_pure] at hrun
          cases hL : (load p').run P w with
          | ok u w2 =>
            rw [hL] at hrun
            simp only [Result.andThen_ok, Result.ok.injEq] at hrun
            obtain ⟨h1, h2⟩ := hrun
            rw [h2]
            congr 1
            have := congrArg Array.toList h1
            simpa using this
          | halt x w2 => rw [hL] at hrun; simp at hrun
    · cases hl
  · cases hl

theorem sim_storeVar (h : WRel ρ a w) {t : TypeId} {p p' : Addr} {v v' : Value} {a' : AW} (hp : AtRel ρ p p') (hv : VRel ρ a.next v v') (hs : storeVarA P t p v a = some a') :
    ∃ w', (storeVar t p' v').run P w = .ok () w' ∧ Step ρ a.next w ρ a' w' := by
  unfold storeVarA at hs
  split at hs
  · rename_i n hn
    split at hs
    · rename_i hc
      have hcell := hv.cells
      obtain ⟨w', hrun, hst⟩ := sim_storeN (P := P) h hp hcell hs
      refine ⟨w', ?_, hst⟩
      have hsz : v'.cells.size = n := by rw [← hc]; simpa using hcell.length.symm
      unfold storeVar
      simp only [Sem.run_bind, run_sizeOf hn, Result.andThen_ok, hsz, ne_eq, not_true_eq_false, if_false]
      exact hrun
    · cases hs
  · cases hs
end
end Go.Proofs.YtmdfejlfdgaomaaAM
