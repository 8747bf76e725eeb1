/- Chapter 3: a device's block. -/
import Derived.Test.YtgdmgolmeeigdaaD1
namespace Go.Proofs.YtgdmgolmeeigdaaAM
open Go Go.RowKit
set_option linter.unusedVariables false
set_option linter.unusedSimpArgs false
set_option maxRecDepth 10000
set_option maxHeartbeats 4000000

theorem put_twice {i : Nat} {x y : Blk} : ∀ {h : List (Nat × Blk)}, putAt i x (putAt i y h) = putAt i x h := by
  intro h
  induction h with
  | nil => rfl
  | cons p r ih =>
    obtain ⟨j, c⟩ := p
    by_cases hij : i = j
    · subst hij; rw [put_self, put_self, put_self]
    · rw [put_miss hij, put_miss hij, put_miss hij, ih]
theorem soilW_ne {bs : Nat} {d : List Nat} {i : Nat} (h : i < bs) : soilW bs d i ≠ [] := by
  unfold soilW
  rw [if_pos h]
  split
  · rename_i hc
    intro e
    rw [e] at hc
    simp at hc
  · simp
theorem leave_soil {before : AW} {vs : List Value} {n h bs} {b : Nat} : leaveA before vs ⟨n, h, bs, [b]⟩ = (vs, ⟨n, h, before.base, soilW before.base before.dirty b⟩) := rfl
theorem soil_one {n b : Nat} (h : b < n) : soilW n [] b = [b] := by simp [soilW, h]
theorem soil_same {n b : Nat} (h : b < n) : soilW n [b] b = [b] := by simp [soilW, h]
theorem soilW_own {bs : Nat} {d : List Nat} {i : Nat} (h : bs ≤ i) : soilW bs d i = d := by
  have : ¬ i < bs := by omega
  simp [soilW, this]
theorem soilAll_from {lo bs : Nat} {d : List Nat} (hd : From lo d) : ∀ {m : List Nat}, From lo m → From lo (soilAll d bs m) := by
  intro m
  induction m with
  | nil => intro _; exact hd
  | cons i m ih =>
    intro h
    have h1 := ih fun j hj => h j (by simp [hj])
    have h2 := h i (by simp)
    show From lo (if i < bs then (if (soilAll d bs m).contains i then soilAll d bs m else i :: soilAll d bs m) else soilAll d bs m)
    split
    · split
      · exact h1
      · intro j hj
        rcases List.mem_cons.1 hj with rfl | hj
        · exact h2
        · exact h1 j hj
    · exact h1
theorem soilAll_mem {bs i : Nat} {d : List Nat} (hi : i < bs) : ∀ {m : List Nat}, i ∈ m → i ∈ soilAll d bs m := by
  intro m
  induction m with
  | nil => intro h; cases h
  | cons j m ih =>
    intro h
    show i ∈ (if j < bs then (if (soilAll d bs m).contains j then soilAll d bs m else j :: soilAll d bs m) else soilAll d bs m)
    rcases List.mem_cons.1 h with rfl | h
    · rw [if_pos hi]
      split
      · rename_i hc; simpa using hc
      · simp
    · split
      · split
        · exact ih h
        · exact List.mem_cons_of_mem _ (ih h)
      · exact ih h
theorem soilAll_ne {bs i : Nat} {d : List Nat} (hi : i < bs) : ∀ {m : List Nat}, i ∈ m → soilAll d bs m ≠ [] := by
  intro m
  induction m with
  | nil => intro h; cases h
  | cons j m ih =>
    intro h
    show (if j < bs then (if (soilAll d bs m).contains j then soilAll d bs m else j :: soilAll d bs m) else soilAll d bs m) ≠ []
    rcases List.mem_cons.1 h with rfl | h
    · rw [if_pos hi]
      split
      · rename_i hc
        intro e
        rw [e] at hc
        simp at hc
      · simp
    · split
      · split
        · exact ih h
        · simp
      · exact ih h
theorem leave_dirty0 {before : AW} {vs : List Value} {n h bs d} (hd : d ≠ []) : leaveA before vs ⟨n, h, bs, d⟩ = (vs, ⟨n, h, before.base, soilAll before.dirty before.base d⟩) := by
  cases d with
  | nil => exact absurd rfl hd
  | cons i d => rfl
theorem soilW_mem {bs i : Nat} {d : List Nat} (h : i < bs) : i ∈ soilW bs d i := by
  unfold soilW
  rw [if_pos h]
  split
  · rename_i hc; simpa using hc
  · simp
/-- What a device's method may have touched. -/
def Soiled (bs : Nat) (d d' : List Nat) (b q : Nat) : Prop := (bs ≤ b → bs ≤ q → d' = d) ∧ (b < bs → b ∈ d') ∧ ∀ lo, lo ≤ b → lo ≤ q → From lo d → From lo d'
theorem soiled_of {bs b q : Nat} {d m : List Nat} (hm : b ∈ m) (hf : ∀ lo, lo ≤ b → lo ≤ q → From lo m) : Soiled bs d (soilAll d bs m) b q :=
  ⟨fun h1 h2 => soil_from (hf bs h1 h2), fun h => soilAll_mem h hm, fun lo h1 h2 h3 => soilAll_from h3 (hf lo h1 h2)⟩
theorem soiled_up {bs n b q : Nat} {d d' : List Nat} (h : Soiled n [] d' b q) (hb : b < n) : d' ≠ [] ∧ Soiled bs d (soilAll d bs d') b q :=
  ⟨List.ne_nil_of_mem (h.2.1 hb), soiled_of (h.2.1 hb) fun lo l1 l2 => h.2.2 lo l1 l2 from_nil⟩
def devC (s c : Int) (im du : List UInt8) (pv : Value) (f o : Int) : List Value := [.int .i64 s, .int .i64 c, .string (mkStr im), .string (mkStr du), pv, .int .i64 f, .int .i64 o]
theorem fo64_0 : fldOff Try.prog 64 0 = some 0 := rfl
theorem fo64_1 : fldOff Try.prog 64 1 = some 1 := rfl
theorem fo64_2 : fldOff Try.prog 64 2 = some 2 := rfl
theorem fo64_3 : fldOff Try.prog 64 3 = some 3 := rfl
theorem fo64_4 : fldOff Try.prog 64 4 = some 4 := rfl
theorem fo64_5 : fldOff Try.prog 64 5 = some 5 := rfl
theorem fo64_6 : fldOff Try.prog 64 6 = some 6 := rfl
theorem spend37 (s c : Int) (im du : List UInt8) (pv : Value) (f o : Int) (hf : -1 ≤ f ∧ f ≤ 9223372036854775807) (ho : 0 ≤ o ∧ o < 1000000) (b n bs : Nat) (h : List (Nat × Blk)) (d : List Nat) (hb : look b h = some (.cells (devC s c im du pv f o) true)) (hbn : b < n) (K) :
    WCall Try.prog GV 37 [.pointer (some ⟨b, 0, none⟩)] ⟨n, h, bs, d⟩ K = (if f = 0 then K (.int .i64 8) ⟨n, h, bs, d⟩ else K (.int .i64 0) ⟨n, putAt b (.cells (devC s c im du pv (if 0 < f then f - 1 else f) (o + 1)) true) h, bs, soilW bs d b⟩) := by
  by_cases h0 : f = 0
  · rw [if_pos h0]
    refine call_eq ?_ K
    rw [call_body' Try.func37 rfl Try.ntmps37 rfl rfl]
    subst h0
    simp -dsimp (disch := first | omega | assumption | (simp only [flat_int, flat_bool, flat_str, flat_float, flat_agg, flatN_int, flatN_bool, flatN_str, flatN_float, flatN_agg, List.all_cons, List.all_nil, Bool.and_self, Bool.and_true, one_int, one_bool, one_str, one_float, one_ptr, one_slice, one_map, u8_one, all_u8, cells_int, cells_bool, cells_str, cells_float, cells_agg, cells_slice, cells_ptr, cells_map, cells_func, cells_nilFunc, List.length_cons, List.length_nil, Nat.reduceAdd]; done) | (simp only [List.length_map, List.length_replicate, List.length_append, List.length_take, List.length_drop, List.length_cons, List.length_nil]; omega)) only [code_seq, code_region, code_ret, code_cond, code_block, code_exit, code_skip, code_label, onNormal_normal, onNormal_ret, onNormal_exit, onExit_normal, onExit_ret, onExit_self, onExit_other, dsts_nil, dsts_cons, WL_nil, WL_plain, WL_none, WL_guard, WL_gnone, op_move, op_assign, op_bin, op_pick, op_un, op_call, op_min2, op_max2, op_field, op_slice, op_makeFunc, op_extract, op_index, op_indexAddr, un_not, un_neg, eval_tmp, eval_int, eval_bool, eval_str, eval_func, eval_nilFunc, eval_nilIface, eval_nilPtr, eval_nilMap, eval_nilSlice, eval_const, lit_str, WVal_some, WIf_true, WIf_false, WGuard_tt, WGuard_tf, WGuard_ft, WGuard_ff, WGuard_n, bin_add, bin_sub, bin_mul, bin_lss, bin_leq, bin_gtr, bin_geq, bin_eql, bin_neq, bin_quo, bin_rem, bin_str, str_eql, str_neq, str_lss, str_leq, str_gtr, str_geq, str_add, mkStr_size, pick_true, pick_false, List.length_cons, List.length_nil, List.replicate, List.cons_append, List.nil_append, List.append_nil, getT_zero, getT_succ, putV_zero, putV_succ, dget_zero, dget_succ, yielded_at, boolAt_some, boolAt_none, asBool_bool, asBool_undef, Nat.reduceSub, Nat.reduceAdd, Int.reduceEq, Int.reduceNe, Int.reduceLT, Int.reduceLE, Int.reduceAdd, Int.reduceSub, Int.reduceMul, Int.reduceNeg, Int.reduceToNat, Int.toNat_natCast, Nat.reduceEqDiff, Nat.reduceLT, Nat.reduceLeDiff, Nat.reduceMul, Nat.add_assoc, evals_nil, evals_cons, callee_func, callee_yield, enter_call, enter_round, Option.bind_some, Option.map_some, WRet_ret, WRet_normal, unwind_nil, results_nil, results_tmp, leave_flat, flat_int, flat_bool, flat_str, flat_float, flat_agg, flatN_int, flatN_bool, flatN_str, flatN_float, flatN_agg, List.all_cons, List.all_nil, Bool.and_true, Bool.true_and, Bool.and_self, extract_at, evalO_none, evalO_some, parts_nil, parts_cons, op_build, makeFunc_some, min_int, max_int, lenV_str, lenV_slice, one_nil, one_one, one_two, one_three, decide_true, decide_false, Bool.not_true, Bool.not_false, op_nilCheck, nilCheck_ptr, nilCheck_func, fieldAddr_ptr, op_box, op_alloc, op_load, op_store, loadP_ptr, storeP_ptr, cells_int, cells_bool, cells_str, cells_float, cells_agg, cells_slice, cells_ptr, cells_map, cells_func, cells_nilFunc, get_mk, new_mk, look_self, strBytes_str, readBytes_nil, op_makeSlice, op_append, op_copy, op_buildSlice, cellsAt_cells, cellAt_cells, look_miss, write_own, drop_own, put_self, put_miss, look_wput_ne, look_wkill_ne, look_wput_self, unwind_cons, unwindG_none, kill_self, kill_miss, storeC_ok, results_cell, take_all, drop_all, List.take_succ_cons, List.drop_succ_cons, List.take_zero, List.drop_zero, Nat.mul_one, Nat.zero_add, Nat.add_zero, Nat.one_mul, List.getElem?_cons_zero, List.getElem?_cons_succ, op_len und9 rfl, hb, devC, op_fa fo64_0, op_fa fo64_1, op_fa fo64_2, op_fa fo64_3, op_fa fo64_4, op_fa fo64_5, op_fa fo64_6, load_one agg3, load_one agg9, load_one agg62, storeVar_eq size3, storeVar_eq size9, storeVar_eq size62, nilCheck_ptr]
    exact ⟨trivial, trivial⟩
  · rw [if_neg h0]
    refine call_eq ?_ K
    rw [call_body' Try.func37 rfl Try.ntmps37 rfl rfl]
    by_cases hp : 0 < f
    · simp -dsimp (disch := first | omega | assumption | (simp only [flat_int, flat_bool, flat_str, flat_float, flat_agg, flatN_int, flatN_bool, flatN_str, flatN_float, flatN_agg, List.all_cons, List.all_nil, Bool.and_self, Bool.and_true, one_int, one_bool, one_str, one_float, one_ptr, one_slice, one_map, u8_one, all_u8, cells_int, cells_bool, cells_str, cells_float, cells_agg, cells_slice, cells_ptr, cells_map, cells_func, cells_nilFunc, List.length_cons, List.length_nil, Nat.reduceAdd]; done) | (simp only [List.length_map, List.length_replicate, List.length_append, List.length_take, List.length_drop, List.length_cons, List.length_nil]; omega)) only [code_seq, code_region, code_ret, code_cond, code_block, code_exit, code_skip, code_label, onNormal_normal, onNormal_ret, onNormal_exit, onExit_normal, onExit_ret, onExit_self, onExit_other, dsts_nil, dsts_cons, WL_nil, WL_plain, WL_none, WL_guard, WL_gnone, op_move, op_assign, op_bin, op_pick, op_un, op_call, op_min2, op_max2, op_field, op_slice, op_makeFunc, op_extract, op_index, op_indexAddr, un_not, un_neg, eval_tmp, eval_int, eval_bool, eval_str, eval_func, eval_nilFunc, eval_nilIface, eval_nilPtr, eval_nilMap, eval_nilSlice, eval_const, lit_str, WVal_some, WIf_true, WIf_false, WGuard_tt, WGuard_tf, WGuard_ft, WGuard_ff, WGuard_n, bin_add, bin_sub, bin_mul, bin_lss, bin_leq, bin_gtr, bin_geq, bin_eql, bin_neq, bin_quo, bin_rem, bin_str, str_eql, str_neq, str_lss, str_leq, str_gtr, str_geq, str_add, mkStr_size, pick_true, pick_false, List.length_cons, List.length_nil, List.replicate, List.cons_append, List.nil_append, List.append_nil, getT_zero, getT_succ, putV_zero, putV_succ, dget_zero, dget_succ, yielded_at, boolAt_some, boolAt_none, asBool_bool, asBool_undef, Nat.reduceSub, Nat.reduceAdd, Int.reduceEq, Int.reduceNe, Int.reduceLT, Int.reduceLE, Int.reduceAdd, Int.reduceSub, Int.reduceMul, Int.reduceNeg, Int.reduceToNat, Int.toNat_natCast, Nat.reduceEqDiff, Nat.reduceLT, Nat.reduceLeDiff, Nat.reduceMul, Nat.add_assoc, evals_nil, evals_cons, callee_func, callee_yield, enter_call, enter_round, Option.bind_some, Option.map_some, WRet_ret, WRet_normal, unwind_nil, results_nil, results_tmp, leave_flat, flat_int, flat_bool, flat_str, flat_float, flat_agg, flatN_int, flatN_bool, flatN_str, flatN_float, flatN_agg, List.all_cons, List.all_nil, Bool.and_true, Bool.true_and, Bool.and_self, extract_at, evalO_none, evalO_some, parts_nil, parts_cons, op_build, makeFunc_some, min_int, max_int, lenV_str, lenV_slice, one_nil, one_one, one_two, one_three, decide_true, decide_false, Bool.not_true, Bool.not_false, op_nilCheck, nilCheck_ptr, nilCheck_func, fieldAddr_ptr, op_box, op_alloc, op_load, op_store, loadP_ptr, storeP_ptr, cells_int, cells_bool, cells_str, cells_float, cells_agg, cells_slice, cells_ptr, cells_map, cells_func, cells_nilFunc, get_mk, new_mk, look_self, strBytes_str, readBytes_nil, op_makeSlice, op_append, op_copy, op_buildSlice, cellsAt_cells, cellAt_cells, look_miss, write_own, drop_own, put_self, put_miss, look_wput_ne, look_wkill_ne, look_wput_self, unwind_cons, unwindG_none, kill_self, kill_miss, storeC_ok, results_cell, take_all, drop_all, List.take_succ_cons, List.drop_succ_cons, List.take_zero, List.drop_zero, Nat.mul_one, Nat.zero_add, Nat.add_zero, Nat.one_mul, List.getElem?_cons_zero, List.getElem?_cons_succ, op_len und9 rfl, hb, devC, op_fa fo64_0, op_fa fo64_1, op_fa fo64_2, op_fa fo64_3, op_fa fo64_4, op_fa fo64_5, op_fa fo64_6, load_one agg3, load_one agg9, load_one agg62, storeVar_eq size3, storeVar_eq size9, storeVar_eq size62, h0, hp, wrap64, write_soil, if_true]
      rw [soil_one hbn, soil_same hbn, leave_soil, put_twice]
      exact ⟨rfl, rfl⟩
    · simp -dsimp (disch := first | omega | assumption | (simp only [flat_int, flat_bool, flat_str, flat_float, flat_agg, flatN_int, flatN_bool, flatN_str, flatN_float, flatN_agg, List.all_cons, List.all_nil, Bool.and_self, Bool.and_true, one_int, one_bool, one_str, one_float, one_ptr, one_slice, one_map, u8_one, all_u8, cells_int, cells_bool, cells_str, cells_float, cells_agg, cells_slice, cells_ptr, cells_map, cells_func, cells_nilFunc, List.length_cons, List.length_nil, Nat.reduceAdd]; done) | (simp only [List.length_map, List.length_replicate, List.length_append, List.length_take, List.length_drop, List.length_cons, List.length_nil]; omega)) only [code_seq, code_region, code_ret, code_cond, code_block, code_exit, code_skip, code_label, onNormal_normal, onNormal_ret, onNormal_exit, onExit_normal, onExit_ret, onExit_self, onExit_other, dsts_nil, dsts_cons, WL_nil, WL_plain, WL_none, WL_guard, WL_gnone, op_move, op_assign, op_bin, op_pick, op_un, op_call, op_min2, op_max2, op_field, op_slice, op_makeFunc, op_extract, op_index, op_indexAddr, un_not, un_neg, eval_tmp, eval_int, eval_bool, eval_str, eval_func, eval_nilFunc, eval_nilIface, eval_nilPtr, eval_nilMap, eval_nilSlice, eval_const, lit_str, WVal_some, WIf_true, WIf_false, WGuard_tt, WGuard_tf, WGuard_ft, WGuard_ff, WGuard_n, bin_add, bin_sub, bin_mul, bin_lss, bin_leq, bin_gtr, bin_geq, bin_eql, bin_neq, bin_quo, bin_rem, bin_str, str_eql, str_neq, str_lss, str_leq, str_gtr, str_geq, str_add, mkStr_size, pick_true, pick_false, List.length_cons, List.length_nil, List.replicate, List.cons_append, List.nil_append, List.append_nil, getT_zero, getT_succ, putV_zero, putV_succ, dget_zero, dget_succ, yielded_at, boolAt_some, boolAt_none, asBool_bool, asBool_undef, Nat.reduceSub, Nat.reduceAdd, Int.reduceEq, Int.reduceNe, Int.reduceLT, Int.reduceLE, Int.reduceAdd, Int.reduceSub, Int.reduceMul, Int.reduceNeg, Int.reduceToNat, Int.toNat_natCast, Nat.reduceEqDiff, Nat.reduceLT, Nat.reduceLeDiff, Nat.reduceMul, Nat.add_assoc, evals_nil, evals_cons, callee_func, callee_yield, enter_call, enter_round, Option.bind_some, Option.map_some, WRet_ret, WRet_normal, unwind_nil, results_nil, results_tmp, leave_flat, flat_int, flat_bool, flat_str, flat_float, flat_agg, flatN_int, flatN_bool, flatN_str, flatN_float, flatN_agg, List.all_cons, List.all_nil, Bool.and_true, Bool.true_and, Bool.and_self, extract_at, evalO_none, evalO_some, parts_nil, parts_cons, op_build, makeFunc_some, min_int, max_int, lenV_str, lenV_slice, one_nil, one_one, one_two, one_three, decide_true, decide_false, Bool.not_true, Bool.not_false, op_nilCheck, nilCheck_ptr, nilCheck_func, fieldAddr_ptr, op_box, op_alloc, op_load, op_store, loadP_ptr, storeP_ptr, cells_int, cells_bool, cells_str, cells_float, cells_agg, cells_slice, cells_ptr, cells_map, cells_func, cells_nilFunc, get_mk, new_mk, look_self, strBytes_str, readBytes_nil, op_makeSlice, op_append, op_copy, op_buildSlice, cellsAt_cells, cellAt_cells, look_miss, write_own, drop_own, put_self, put_miss, look_wput_ne, look_wkill_ne, look_wput_self, unwind_cons, unwindG_none, kill_self, kill_miss, storeC_ok, results_cell, take_all, drop_all, List.take_succ_cons, List.drop_succ_cons, List.take_zero, List.drop_zero, Nat.mul_one, Nat.zero_add, Nat.add_zero, Nat.one_mul, List.getElem?_cons_zero, List.getElem?_cons_succ, op_len und9 rfl, hb, devC, op_fa fo64_0, op_fa fo64_1, op_fa fo64_2, op_fa fo64_3, op_fa fo64_4, op_fa fo64_5, op_fa fo64_6, load_one agg3, load_one agg9, load_one agg62, storeVar_eq size3, storeVar_eq size9, storeVar_eq size62, h0, hp, wrap64, write_soil, if_false]
      rw [soil_one hbn, leave_soil]
      exact ⟨rfl, rfl⟩
end Go.Proofs.YtgdmgolmeeigdaaAM
