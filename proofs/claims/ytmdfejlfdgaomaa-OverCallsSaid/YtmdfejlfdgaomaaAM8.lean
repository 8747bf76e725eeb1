/- Operations that make a block. -/
import Derived.Test.YtmdfejlfdgaomaaAM7
import Derived.IntWalk
namespace Go.Proofs.YtmdfejlfdgaomaaAM
open Go Go.RowKit
set_option linter.unusedVariables false
set_option linter.unusedSimpArgs false

section
variable {P : Program} {ρ : Ren} {K : Nat} {tmps : List Value} {t : Act} {w : World}

/-- What the program's new block holds, whatever number the evaluator gives it. -/
def Makes (ρ : Ren) (K : Nat) (w : World) (b : Blk) (f : Nat → Value) (w' : World) (v' : Value) : Prop :=
  ∃ n o, w'.heap = w.heap.push o ∧ w'.os = w.os ∧ w'.tape = w.tape ∧ w'.output = w.output ∧
    ∀ ρ' K' id, Ext ρ K ρ' K' → id < K' → (∀ I, ρ' id = some I → I = ⟨w.heap.size, 0, n, true⟩) → ORel ρ' K' ⟨w.heap.size, 0, n, true⟩ b o ∧ VRel ρ' K' (f id) v'

theorem orel_cells {I : Info} {c : List Value} {c' : Array Value} {e : TypeId} {fr : Nat × Nat} (hI : I.rw = true) (hs : I.sh = 0) (hc : LRel ρ K c c'.toList) (hn : c'.size = I.n) (hf : fr.2 = 0 ∨ I.n ≤ fr.1) :
    ORel ρ K I (.cells c true) (.cells c' e fr) := by
  rw [← hI]
  refine .cells (fun j v h => ?_) (fun _ => ⟨hn, fun o ho => by omega⟩)
  obtain ⟨v', h1, h2⟩ := hc.get h
  exact ⟨v', by rw [hs]; simpa using h1, h2⟩
/-- A new variable of a value's cells. -/
theorem makes_var {v v' : Value} (hv : VRel ρ K v v') (ty : TypeId) : ∃ w' r, (newVar ty v' >>= fun p => (Pure.pure (Value.pointer (some p)) : Sem Value)).run P w = .ok r w' ∧
    Makes ρ K w (.cells v.cells.toList true) (fun i => .pointer (some ⟨i, 0, none⟩)) w' r := by
  refine ⟨{ w with heap := w.heap.push (.cells v'.cells ty) }, .pointer (some ⟨w.heap.size, 0, none⟩), ?_, v'.cells.size, .cells v'.cells ty, rfl, rfl, rfl, rfl, fun ρ' K' id hx hid hρ => ⟨?_, ?_⟩⟩
  · unfold newVar newRow
    simp only [Sem.run_bind, run_newObj, Result.andThen_ok, Sem.run_pure]
  · exact orel_cells rfl rfl (hv.cells.mono hx) rfl (.inl rfl)
  · refine .ptr hid rfl fun I e => ?_
    cases hρ _ e; rfl
theorem range_zero {z : Array Value} {n : Nat} (hz : z.size = n) (len : Nat) (hn : 0 < len * n) : ((Array.range (len * n)).map (fun i => z[i % z.size]!)).toList = (List.replicate len z.toList).flatten := by
  have hpos : 0 < n := Nat.pos_of_ne_zero fun h => by simp [h] at hn
  have hfl : ∀ m, ((List.replicate m z.toList).flatten).length = m * n := by intro m; simp [hz]
  have hget : ∀ m i, i < m * n → ((List.replicate m z.toList).flatten)[i]? = some (z[i % n]!) := by
    intro m
    induction m with
    | zero => intro i hi; omega
    | succ m ih =>
      intro i hi
      rw [List.replicate_succ, List.flatten_cons]
      by_cases hlt : i < n
      · rw [List.getElem?_append_left (by simp [hz, hlt]), Nat.mod_eq_of_lt hlt]
        simp [hz, hlt]
      · rw [List.getElem?_append_right (by simp [hz]; omega)]
        have : z.toList.length = n := by simp [hz]
        have e2 : (i - n) % n = i % n := (Nat.mod_eq_sub_mod (by omega)).symm
        rw [this, ih (i - n) (by rw [Nat.succ_mul] at hi; omega), e2]
  apply List.ext_getElem?
  intro i
  by_cases hi : i < len * n
  · rw [hget len i hi]; simp [hi, hz]
  · rw [List.getElem?_eq_none_iff.2 (by simp; omega), List.getElem?_eq_none_iff.2 (by rw [hfl]; omega)]
theorem flats_flatten {z : List Value} (h : LRel ρ K z z) : ∀ n, LRel ρ K (List.replicate n z).flatten (List.replicate n z).flatten
  | 0 => .nil
  | n + 1 => by rw [List.replicate_succ, List.flatten_cons]; exact h.append (flats_flatten h n)
theorem elem_run {ty e : TypeId} {n : Nat} (h : elemCells P ty = some (e, n)) : P.underlying ty = some (.slice e) ∧ typeSize P e = some n := by
  unfold elemCells at h
  split at h
  · rename_i e0 hu
    obtain ⟨m, hm, e1⟩ := Option.map_eq_some_iff.1 h
    cases e1
    exact ⟨hu, hm⟩
  · cases h

theorem sim_make (ht : TRel ρ K tmps t.tmps) {o : Oper} {b : Blk} {f : Nat → Value} (hk : kindO P o = .make) (e : makeA P tmps o = some (b, f)) :
    ∃ w' v', (execOp t.eval o).run P w = .ok (.value v') w' ∧ Makes ρ K w b f w' v' := by
  obtain ⟨dst, op, type, pos, after, guard⟩ := o
  cases op <;> simp only [makeA] at e <;> first
    | (cases e; done)
    | skip
  case alloc ty =>
    split at e
    · rename_i z hz
      cases e
      obtain ⟨z1, z2⟩ := run_zeroValue hz w
      obtain ⟨w', r, g1, g2⟩ := makes_var (P := P) (w := w) (flat_self z2 : VRel ρ K z z) ty
      refine ⟨w', r, ?_, g2⟩
      simp only [execOp]
      refine run_value ?_
      unfold Instr.alloc
      simp only [Sem.run_bind, z1, Result.andThen_ok] at g1 ⊢
      exact g1
    · cases e
  case box ty x =>
    split at e
    · rename_i v hv
      cases e
      obtain ⟨w', r, g1, g2⟩ := makes_var (P := P) (w := w) (rel_eval ht hv) ty
      exact ⟨w', r, run_value g1, g2⟩
    · cases e
  case buildSlice ty len parts =>
    split at e
    · rename_i te n vs hel hps
      obtain ⟨hu, hsz⟩ := elem_run hel
      have hp := rel_parts ht hps
      split at e
      · rename_i h0
        split at e
        · rename_i hvs
          cases e
          have : vs = [] := by simpa using hvs
          subst this
          have hpn : (parts.toList.map fun (i, x) => (i, t.eval x)) = [] := by
            generalize hgen : (parts.toList.map fun (i, x) => (i, t.eval x)) = l at hp
            cases hp; rfl
          refine ⟨{ w with heap := w.heap.push (.cells #[] te) }, .slice (some ⟨w.heap.size, 0, none⟩) len len, ?_, 0, .cells #[] te, rfl, rfl, rfl, rfl, fun ρ' K' id hx hid hρ => ⟨orel_cells rfl rfl .nil rfl (.inl rfl), ?_⟩⟩
          · simp only [execOp]
            refine run_value ?_
            unfold Instr.buildSlice
            simp only [Sem.run_bind, run_underlying hu, run_sizeOf hsz, Result.andThen_ok, h0, Nat.not_lt_zero, if_false, if_true, Sem.run_pure, Array.toList_map, hpn, Instr.fill, newRow, run_newObj]
            rw [show ∀ g : Nat → Value, Array.map g (Array.range 0) = #[] from fun g => Array.eq_empty_of_size_eq_zero (by simp)]
          · refine .slice hid (fun I e => ?_) (Nat.le_refl _) (Nat.le_refl _) (fun _ => rfl) (fun z hz => by simp at hz)
            cases hρ _ e; exact .inr rfl
        · cases e
      · rename_i h0
        split at e
        · rename_i z hz
          split at e
          · cases e
          · rename_i hbig
            split at e
            · rename_i hzn
              split at e
              · rename_i cs hcs
                cases e
                obtain ⟨z1, z2⟩ := run_zeroValue hz w
                have hzr : LRel ρ K z.cells.toList z.cells.toList := (flat_self z2).cells
                have hrow := range_zero hzn len (by omega)
                obtain ⟨r', f1, f2⟩ := run_fill hp (c' := (Array.range (len * n)).map fun i => z.cells[i % z.cells.size]!) (by rw [hrow]; exact flats_flatten hzr len) hcs
                refine ⟨{ w with heap := w.heap.push (.cells r' te) }, .slice (some ⟨w.heap.size, 0, none⟩) len len, ?_, r'.size, .cells r' te, rfl, rfl, rfl, rfl, fun ρ' K' id hx hid hρ => ⟨orel_cells rfl rfl (f2.mono hx) rfl (.inl rfl), ?_⟩⟩
                · simp only [execOp]
                  refine run_value ?_
                  unfold Instr.buildSlice
                  simp only [Sem.run_bind, run_underlying hu, run_sizeOf hsz, Result.andThen_ok, if_neg h0, if_neg hbig, Sem.run_pure, z1, Array.toList_map, f1, newRow, run_newObj]
                · refine .slice hid (fun I e => ?_) (Nat.le_refl _) (Nat.le_refl _) (fun _ => rfl) (fun z hz => by simp at hz)
                  cases hρ _ e; exact .inr rfl
              · cases e
            · cases e
        · cases e
    · cases e
  case convert s d x =>
    have hty : ∃ e, P.underlying s = some .string ∧ P.underlying d = some (.slice e) ∧ P.underlying e = some (.int .u8) := by
      simp only [kindO] at hk
      split at hk
      · split at hk <;> cases hk
      · rename_i e h1 h2
        split at hk
        · exact ⟨e, h1, h2, by assumption⟩
        · cases hk
      · cases hk
    obtain ⟨te, hs, hd, he⟩ := hty
    split at e
    · rename_i bs hx
      cases e
      have := rel_eval ht hx
      generalize hcv : t.eval x = cv at this
      cases this
      have hrun := Lib.run_convert_string_bytes w s d te bs hs hd he
      refine ⟨Lib.bytesWorld w te bs, .slice (some ⟨w.heap.size, 0, none⟩) bs.size (grownCap w bs.size 0 te), ?_, (Lib.bytesCells w te bs).size, .cells (Lib.bytesCells w te bs) te ((Lib.bytesCells w te bs).size, (Lib.bytesCells w te bs).size + 1), ?_, rfl, rfl, rfl, fun ρ' K' id hx hid hρ => ⟨?_, ?_⟩⟩
      · simp only [execOp, hcv]
        exact run_value hrun
      · apply Array.ext_getElem?
        intro k
        rw [Array.getElem?_push]
        by_cases hk1 : k = w.heap.size
        · subst hk1; rw [Lib.bytesWorld_at_new, if_pos rfl]
        · rw [if_neg hk1]
          by_cases hk2 : k < w.heap.size
          · exact Lib.bytesWorld_at_old w te bs k hk2
          · rw [Array.getElem?_eq_none (by rw [Lib.bytesWorld_size]; omega), Array.getElem?_eq_none (by omega)]
      · have hc : (Lib.bytesCells w te bs).toList = bs.data.toList.map u8 ++ List.replicate (grownCap w bs.size 0 te - bs.size) (.int .u8 0) := by
          simp [Lib.bytesCells, u8]
        refine .cells (fun j v h => ?_) (fun _ => ⟨rfl, fun o ho hh => absurd (show o < (Lib.bytesCells w te bs).size from ho) (Nat.not_lt.2 hh.1)⟩)
        have hlt := (List.getElem?_eq_some_iff.1 h).1
        have hv : ∃ u, v = u8 u := by
          rw [List.getElem?_map] at h
          obtain ⟨u, _, rfl⟩ := Option.map_eq_some_iff.1 h
          exact ⟨u, rfl⟩
        obtain ⟨u, rfl⟩ := hv
        refine ⟨u8 u, ?_, .int _ _⟩
        show (Lib.bytesCells w te bs)[j + 0]? = _
        rw [Nat.add_zero, ← Array.getElem?_toList, hc, List.getElem?_append_left hlt]; exact h
      · have hge := grownCap_ge w bs.size 0 te
        refine .slice hid (fun I e => ?_) (Nat.le_refl _) hge (fun hs => by simp at hs) (fun z hz I e => ?_)
        · cases hρ _ e; exact .inr rfl
        · cases hρ _ e
          have : z = 1 := by simpa using hz.symm
          subst this
          refine ⟨rfl, ?_⟩
          simp [Lib.bytesCells]
          have := hge
          omega
    · cases e
  case makeMap ty r =>
    cases r with
    | some r => cases e
    | none =>
      cases e
      refine ⟨{ w with heap := w.heap.push (.map #[] 0) }, .map (some w.heap.size), rfl, 0, .map #[] 0, rfl, rfl, rfl, rfl, fun ρ' K' id hx hid hρ => ⟨.obj (.map 0 .nil) rfl (by simp) rfl, ?_⟩⟩
      refine .map hid fun I e => ?_
      cases hρ _ e; rfl
  case makeSlice ty l c =>
    split at e
    · rename_i te n kl li kc ci hel hl hc
      obtain ⟨hu, hsz⟩ := elem_run hel
      split at e
      · rename_i z hz
        split at e
        · rename_i hcond
          obtain ⟨c0, c1, c2, c3, c4⟩ := hcond
          cases e
          have r1 := rel_eval ht hl
          have r2 := rel_eval ht hc
          generalize hcv : t.eval l = lv at r1
          generalize hcv2 : t.eval c = cv at r2
          cases r1; cases r2
          obtain ⟨z1, z2⟩ := run_zeroValue hz w
          have hzr : LRel ρ K z.cells.toList z.cells.toList := (flat_self z2).cells
          obtain ⟨ti, hti, hby⟩ : ∃ ti, P.info? te = some ti ∧ ti.bytes ≤ 1000000 := by
            cases hpi : P.info? te with
            | none => rw [hpi] at c4; simp at c4
            | some ti => rw [hpi] at c4; exact ⟨ti, rfl, by simpa using c4⟩
          have w1 : IntKind.i64.wrap li = li := IntWalk.i64_in _ (by omega)
          have w2 : IntKind.i64.wrap ci = ci := IntWalk.i64_in _ (by omega)
          have hrow : LRel ρ K (List.replicate ci.toNat z.cells.toList).flatten ((Array.range (ci.toNat * n)).map fun i => (if ci.toNat * n = 0 then #[] else z.cells)[i % (if ci.toNat * n = 0 then #[] else z.cells).size]!).toList := by
            by_cases h0 : ci.toNat * n = 0
            · have hl0 : (List.replicate ci.toNat z.cells.toList).flatten = [] := by
                apply List.eq_nil_of_length_eq_zero
                simp only [List.length_flatten, List.map_replicate, List.sum_replicate_nat, Array.length_toList, c3]
                exact h0
              rw [hl0, h0]
              simp
              exact .nil
            · simp only [if_neg h0]
              rw [range_zero c3 ci.toNat (by omega)]
              exact flats_flatten hzr _
          refine ⟨{ w with heap := w.heap.push (.cells ((Array.range (ci.toNat * n)).map fun i => (if ci.toNat * n = 0 then #[] else z.cells)[i % (if ci.toNat * n = 0 then #[] else z.cells).size]!) te) }, .slice (some ⟨w.heap.size, 0, none⟩) li.toNat ci.toNat, ?_, ci.toNat * n, .cells ((Array.range (ci.toNat * n)).map fun i => (if ci.toNat * n = 0 then #[] else z.cells)[i % (if ci.toNat * n = 0 then #[] else z.cells).size]!) te, rfl, rfl, rfl, rfl,
            fun ρ' K' id hx hid hρ => ⟨orel_cells rfl rfl (hrow.mono hx) (by simp) (.inl rfl), ?_⟩⟩
          · simp only [execOp, hcv, hcv2]
            refine run_value ?_
            unfold Instr.makeSlice
            have hb2 : ¬ ((ti.bytes : Int) * ci > 2 ^ 48) := by
              have : (ti.bytes : Int) * ci ≤ 1000000 * 1000000 := Int.mul_le_mul (by omega) c2 (by omega) (by omega)
              omega
            have hguard : ((decide (ci < 0) || decide ((ti.bytes : Int) * ci > 2 ^ 48)) || decide (li < 0) || decide (li > ci)) = false := by
              simp only [Bool.or_eq_false_iff, decide_eq_false_iff_not]
              exact ⟨⟨⟨by omega, hb2⟩, by omega⟩, by omega⟩
            simp only [Sem.run_bind, run_underlying hu, Result.andThen_ok, asInt, asIntOf, Sem.run_pure, run_typeInfo hti, w1, w2, run_askRoom, run_sizeOf hsz]
            rw [hguard]
            simp only [Bool.false_eq_true, if_false, Sem.run_bind, run_askRoom, Result.andThen_ok, run_sizeOf hsz]
            by_cases h0 : ci.toNat * n = 0
            · simp only [h0, if_true, Sem.run_bind, Sem.run_pure, Result.andThen_ok, newRow, run_newObj]
            · simp only [h0, if_false, Sem.run_bind, Sem.run_pure, Result.andThen_ok, newRow, run_newObj, z1]
          · refine .slice hid (fun I e => ?_) (by omega) (Nat.le_refl _) (fun _ => rfl) (fun z hz => by simp at hz)
            cases hρ _ e; exact .inr rfl
        · cases e
      · cases e
    · cases e
end
end Go.Proofs.YtmdfejlfdgaomaaAM
