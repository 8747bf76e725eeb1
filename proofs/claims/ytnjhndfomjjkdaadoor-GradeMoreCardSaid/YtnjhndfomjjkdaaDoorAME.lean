/- Elements of arguments; lists within blocks of one's own. (and what follows from it) -/
import Derived.Test.YtnjhndfomjjkdaaDoorAMD
import Derived.SizedLaws
namespace Go.Proofs.YtnjhndfomjjkdaaDoorAM
/- Elements of arguments; lists within blocks of one's own. -/
section
open Go Go.RowKit Go.ChangeShapes Go.WideShapes Go.ChangeAt Go.Joins Go.Deep
set_option linter.unusedVariables false
set_option linter.unusedSimpArgs false

section
variable {H : Type} {α β : Type} {enc0 : TypeId × Value → H} {P : Program} {W : World} {held : Bool}
theorem opens_map {t : TypeId} {R : Rep0 α} {S : Rep0 β} (f : α → β) (h : Opens enc0 P W held t R) (hm : ∀ x h n ac, R x h n ac → S (f x) h n ac) : Opens enc0 P W held t S := by
  intro cs hr ρ a hin hsome
  obtain ⟨x, ac, ρ', a', h1, h2, h3⟩ := h cs hr ρ a hin hsome
  exact ⟨f x, ac, ρ', a', hm _ _ _ _ h1, h2, h3⟩
/-- The element at a place. -/
theorem SliceR.elem {R : Rep0 α} {z : Nat} {xs : List α} {h : List (Nat × Blk)} {n : Nat} {v : Value} (hr : SliceR R z xs h n [v]) {i : Nat} {x : α} (hx : xs[i]? = some x) :
    ∃ q fl l, v = .slice (some ⟨q, 0, none⟩) xs.length xs.length ∧ q < n ∧ look q h = some (.cells fl false) ∧ l.length = z ∧ i * z + z ≤ fl.length ∧ (∀ j, j < z → fl[i * z + j]? = l[j]?) ∧ (fl.drop (i * z)).take z = l ∧ R x h n l := by
  rcases hr with ⟨_, rfl⟩ | ⟨q, acs, e, hq, hqn, h1, h2, h3⟩
  · simp at hx
  · cases e
    obtain ⟨hi, _⟩ := List.getElem?_eq_some_iff.1 hx
    have hia : acs[i]? = some acs[i] := List.getElem?_eq_getElem (by omega)
    have hl : acs[i].length = z := h2 _ (List.getElem_mem _)
    have hfl := flatten_len h2
    have hle : i * z + z ≤ acs.length * z := by rw [← Nat.succ_mul]; exact Nat.mul_le_mul_right z (by omega)
    have hat : ∀ j, j < z → (List.flatten acs)[i * z + j]? = acs[i][j]? := fun j hj => by rw [flatten_at h2 hj, hia]; rfl
    refine ⟨q, List.flatten acs, acs[i], rfl, hqn, hq, hl, by omega, hat, ?_, h3 i x _ hx hia⟩
    refine List.ext_getElem? fun j => ?_
    by_cases hj : j < z
    · rw [List.getElem?_take_of_lt hj, List.getElem?_drop, hat j hj]
    · rw [List.getElem?_eq_none (by rw [List.length_take]; omega), List.getElem?_eq_none (by omega)]
/-- How long an argument may be. -/
theorem arg_len {t e : TypeId} {v : Value} {d : DataW H} {p : List MemPlace} (ht : P.underlying t = some (.slice e)) (h : DataW.Trod enc0 P W 0 (fun _ => true) held t v d p) {ρ : Ren} {K : Nat} {q : Option Addr} {n c : Nat} (hv : VRel ρ K (.slice q n c) v) : n ≤ maxLen := by
  obtain ⟨fuel, hf⟩ := h
  cases hv with
  | sliceNil n c =>
    rcases open_slice ht hf with ⟨e0, _⟩ | ⟨q, len', cap', m, n', D, Pl, e0, _⟩
    · have e1 : (Value.slice none n c).cells.toList = [.slice none n c] := rfl
      rw [e1] at e0; cases e0; exact Nat.zero_le _
    · have e1 : (Value.slice none n c).cells.toList = [.slice none n c] := rfl
      rw [e1] at e0; cases e0
  | @slice a a' _ _ c' h h1 hn hc h0 h2 =>
    have e1 : (Value.slice (some a') n c').cells.toList = [.slice (some a') n c'] := rfl
    rcases open_slice ht hf with ⟨e0, _⟩ | ⟨q, len', cap', m, n', D, Pl, e0, hb, hl, hcap, _⟩
    · rw [e1] at e0; cases e0
    · rw [e1] at e0; cases e0; omega
/-- .. by the weight of what is handed in. -/
theorem arg_sized {t e : TypeId} {v : Value} {d : DataW H} {p : List MemPlace} (ht : P.underlying t = some (.slice e)) (h : DataW.Trod enc0 P W 0 (fun _ => true) held t v d p) {ρ : Ren} {K : Nat} {q : Option Addr} {n c : Nat} (hv : VRel ρ K (.slice q n c) v)
    {ts : List TypeId} {ds : List (DataW H)} (hs : (DataW.weightsEach P ts ds).all (· ≤ reachBytes) = true) {j : Nat} (hj : ts[j]? = some t) (hd : ds[j]? = some d) (hb : 1 ≤ P.bytesOf e) : n ≤ 140737488355328 := by
  obtain ⟨fuel, hf⟩ := h
  cases hv with
  | sliceNil n c =>
    rcases open_slice ht hf with ⟨e0, _⟩ | ⟨q, len', cap', m, n', D, Pl, e0, _⟩
    · have e1 : (Value.slice none n c).cells.toList = [.slice none n c] := rfl
      rw [e1] at e0; cases e0; exact Nat.zero_le _
    · have e1 : (Value.slice none n c).cells.toList = [.slice none n c] := rfl
      rw [e1] at e0; cases e0
  | @slice a a' _ _ c' h h1 hn hc h0 h2 =>
    have e1 : (Value.slice (some a') n c').cells.toList = [.slice (some a') n c'] := rfl
    rcases open_slice ht hf with ⟨e0, _⟩ | ⟨q, len', cap', m, n', D, Pl, e0, hb', hl, hcap, hm, hx, _⟩
    · rw [e1] at e0; cases e0
    · rw [e1] at e0; cases e0
      cases hx
      have h1 := sized_slice hs hj hd ht
      have h2 := reachBytes_lt
      rw [List.length_map, List.length_range] at h1
      have h3 := Nat.mul_le_mul_left (n + ((List.range (m - n)).map fun j => D (n + j)).length) hb
      omega
theorem SliceR.len {R : Rep0 α} {z : Nat} {xs : List α} {h : List (Nat × Blk)} {n : Nat} {v : Value} (hr : SliceR R z xs h n [v]) : ∃ p c, v = .slice p xs.length c := by
  rcases hr with ⟨e, rfl⟩ | ⟨q, acs, e, _⟩
  · cases e; exact ⟨none, 0, rfl⟩
  · cases e; exact ⟨_, _, rfl⟩
end
end
/- The rules, bundled. -/
section
open Go Go.RowKit
set_option linter.unusedVariables false
abbrev WB := (And.intro (And.intro (And.intro (And.intro (And.intro (And.intro (And.intro @code_seq (And.intro @code_region @code_ret)) (And.intro @code_cond (And.intro @code_block @code_exit))) (And.intro (And.intro @code_skip (And.intro @code_label @onNormal_normal)) (And.intro @onNormal_ret (And.intro @onNormal_exit @onExit_normal)))) (And.intro (And.intro (And.intro @onExit_ret (And.intro @onExit_self @onExit_other)) (And.intro @dsts_nil (And.intro @dsts_cons @WL_nil))) (And.intro (And.intro @WL_plain (And.intro @WL_none @WL_guard)) (And.intro (And.intro @WL_gnone @op_move) (And.intro @op_assign @op_bin))))) (And.intro (And.intro (And.intro (And.intro @op_pick (And.intro @op_un @op_call)) (And.intro @op_min2 (And.intro @op_max2 @op_field))) (And.intro (And.intro @op_slice (And.intro @op_makeFunc @op_extract)) (And.intro @op_index (And.intro @op_indexAddr @un_not)))) (And.intro (And.intro (And.intro @un_neg (And.intro @eval_tmp @eval_int)) (And.intro @eval_bool (And.intro @eval_str @eval_func))) (And.intro (And.intro @eval_nilFunc (And.intro @eval_nilIface @eval_nilPtr)) (And.intro (And.intro @eval_nilMap @eval_nilSlice) (And.intro @eval_const @lit_str)))))) (And.intro (And.intro (And.intro (And.intro (And.intro @WVal_some (And.intro @WIf_true @WIf_false)) (And.intro @WGuard_tt (And.intro @WGuard_tf @WGuard_ft))) (And.intro (And.intro @WGuard_ff (And.intro @WGuard_n @bin_add)) (And.intro @bin_sub (And.intro @bin_mul @bin_lss)))) (And.intro (And.intro (And.intro @bin_leq (And.intro @bin_gtr @bin_geq)) (And.intro @bin_eql (And.intro @bin_neq @bin_quo))) (And.intro (And.intro @bin_rem (And.intro @bin_str @str_eql)) (And.intro (And.intro @str_neq @str_lss) (And.intro @str_leq @str_gtr))))) (And.intro (And.intro (And.intro (And.intro @str_geq (And.intro @str_add @mkStr_size)) (And.intro @pick_true (And.intro @pick_false @List.length_cons.{0}))) (And.intro (And.intro @List.length_nil.{0} (And.intro @List.cons_append.{0} @List.nil_append.{0})) (And.intro (And.intro @List.append_nil.{0} @getT_zero) (And.intro @getT_succ @putV_zero)))) (And.intro (And.intro (And.intro @putV_succ (And.intro @dget_zero @dget_succ)) (And.intro @yielded_at (And.intro @boolAt_some @boolAt_none))) (And.intro (And.intro @asBool_bool (And.intro @asBool_undef @Int.toNat_natCast)) (And.intro (And.intro @Nat.add_assoc @evals_nil) (And.intro @evals_cons @callee_func))))))) (And.intro (And.intro (And.intro (And.intro (And.intro (And.intro @callee_yield (And.intro @enter_call @enter_round)) (And.intro @Option.bind_some.{0, 0} (And.intro @Option.map_some.{0, 0} @WRet_ret))) (And.intro (And.intro @WRet_normal (And.intro @unwind_nil @results_nil)) (And.intro @results_tmp (And.intro @leave_flat @flat_int)))) (And.intro (And.intro (And.intro @flat_bool (And.intro @flat_str @flat_float)) (And.intro @flat_agg (And.intro @flatN_int @flatN_bool))) (And.intro (And.intro @flatN_str (And.intro @flatN_float @flatN_agg)) (And.intro (And.intro @List.all_cons.{0} @List.all_nil.{0}) (And.intro @Bool.and_true @Bool.true_and))))) (And.intro (And.intro (And.intro (And.intro @Bool.and_self (And.intro @extract_at @evalO_none)) (And.intro @evalO_some (And.intro @parts_nil @parts_cons))) (And.intro (And.intro @op_build (And.intro @makeFunc_some @min_int)) (And.intro (And.intro @max_int @lenV_str) (And.intro @lenV_slice @one_nil)))) (And.intro (And.intro (And.intro @one_one (And.intro @one_two @one_three)) (And.intro @decide_true (And.intro @decide_false @Bool.not_true))) (And.intro (And.intro @Bool.not_false (And.intro @op_nilCheck @nilCheck_ptr)) (And.intro (And.intro @nilCheck_func @fieldAddr_ptr) (And.intro @op_box @op_alloc)))))) (And.intro (And.intro (And.intro (And.intro (And.intro @op_load (And.intro @op_store @loadP_ptr)) (And.intro @storeP_ptr (And.intro @cells_int @cells_bool))) (And.intro (And.intro @cells_str (And.intro @cells_float @cells_agg)) (And.intro @cells_slice (And.intro @cells_ptr @cells_map)))) (And.intro (And.intro (And.intro @cells_func (And.intro @cells_nilFunc @get_mk)) (And.intro @new_mk (And.intro @look_self @strBytes_str))) (And.intro (And.intro @readBytes_nil (And.intro @op_makeSlice @op_append)) (And.intro (And.intro @op_copy @op_buildSlice) (And.intro @cellsAt_cells @cellAt_cells))))) (And.intro (And.intro (And.intro (And.intro @look_miss (And.intro @write_own @drop_own)) (And.intro @put_self (And.intro @put_miss @look_wput_ne))) (And.intro (And.intro @look_wkill_ne (And.intro @look_wput_self @unwind_cons)) (And.intro (And.intro @unwindG_none @kill_self) (And.intro @kill_miss @storeC_ok)))) (And.intro (And.intro (And.intro @results_cell (And.intro @take_all @drop_all)) (And.intro @List.take_succ_cons.{0} (And.intro @List.drop_succ_cons.{0} @List.take_zero.{0}))) (And.intro (And.intro @List.drop_zero.{0} (And.intro @Nat.mul_one @Nat.zero_add)) (And.intro (And.intro @Nat.add_zero @Nat.one_mul) (And.intro @List.getElem?_cons_zero.{0} @List.getElem?_cons_succ.{0}))))))))
abbrev RB := (And.intro (And.intro (And.intro (And.intro (And.intro @note_fa (And.intro @note_nilCheck @note_move)) (And.intro (And.intro @note_assign @note_pick) (And.intro @note_bin @note_un))) (And.intro (And.intro (And.intro @note_field @note_build) (And.intro @note_slice @note_indexAddr)) (And.intro (And.intro @note_index @note_extract) (And.intro @note_box @note_alloc)))) (And.intro (And.intro (And.intro @note_buildSlice (And.intro @note_makeSlice @note_store)) (And.intro (And.intro @note_call @note_append) (And.intro @note_copy @note_len))) (And.intro (And.intro (And.intro @note_min @note_max) (And.intro @note_convI @note_load)) (And.intro (And.intro @note_ofBytes @note_toBytes) (And.intro @WR_nil @WR_plain))))) (And.intro (And.intro (And.intro (And.intro @WR_none (And.intro @WR_guard @calmP_nil)) (And.intro (And.intro @calmP_cons @memP_nil) (And.intro @memP_cons @clash_none))) (And.intro (And.intro (And.intro @clash_none' @clash_read) (And.intro @clash_work @clash_rw)) (And.intro (And.intro @clash_wr @blockOf_ptr) (And.intro @blockOf_slice @soil_none)))) (And.intro (And.intro (And.intro (And.intro @write_other @soil_own) (And.intro @lt_ok @le_no)) (And.intro (And.intro @true_and @and_true) (And.intro @Bool.or_false @Bool.false_or))) (And.intro (And.intro (And.intro @Bool.true_or @Bool.or_true) (And.intro @Bool.false_and @Bool.and_false)) (And.intro (And.intro @and_false @false_and) (And.intro @decide_false @List.contains_nil.{0}))))))
abbrev EB := (And.intro (And.intro @putV_TT @getT_TT) (And.intro @ups_at (And.intro @ea_at @getT_nil)))
abbrev FB := (And.intro (And.intro (And.intro (And.intro (And.intro @flat_int @flat_bool) (And.intro @flat_str @flat_float)) (And.intro (And.intro @flat_agg @flatN_int) (And.intro @flatN_bool @flatN_str))) (And.intro (And.intro (And.intro @flatN_float @flatN_agg) (And.intro @List.all_cons.{0} @List.all_nil.{0})) (And.intro (And.intro @Bool.and_self @Bool.and_true) (And.intro @one_int (And.intro @one_bool @one_str))))) (And.intro (And.intro (And.intro (And.intro @one_float @one_ptr) (And.intro @one_slice @one_map)) (And.intro (And.intro @u8_one @all_u8) (And.intro @cells_int (And.intro @cells_bool @cells_str)))) (And.intro (And.intro (And.intro @cells_float @cells_agg) (And.intro @cells_slice @cells_ptr)) (And.intro (And.intro @cells_map @cells_func) (And.intro @cells_nilFunc (And.intro @List.length_cons.{0} @List.length_nil.{0}))))))
abbrev LB := (And.intro (And.intro @List.length_map.{0, 0} (And.intro @List.length_replicate.{0} @List.length_append.{0})) (And.intro (And.intro @List.length_take.{0} @List.length_drop.{0}) (And.intro @List.length_cons.{0} @List.length_nil.{0})))
end
end Go.Proofs.YtnjhndfomjjkdaaDoorAM
